/- The small functions over marks' names and lists of marks. -/
import Derived.Test.YtkclpflgndgabaaMk
import Derived.Test.YtkclpflgndgabaaRows
import Derived.Deep.QuietTactic
import Derived.BigQuiet
namespace Go.Proofs.Ytkclpflgndgabaa
open Go.RowKit
/-- All letters. -/
def lower (s : ByteArray) : Prop := ∀ j (h : j < s.size), 97 ≤ s[j].toNat ∧ s[j].toNat ≤ 122
instance (s : ByteArray) : Decidable (lower s) := by unfold lower; infer_instance
/-- May a mark be called so? -/
def mayMk (s : ByteArray) : Bool := decide (1 ≤ s.size ∧ s.size ≤ 8 ∧ lower s)

set_option maxHeartbeats 400000 in
theorem few_calls (A : Option Addr) (n c : Nat) (w : World) :
    Calls Try.prog 7 #[.slice A n c] w fun e w' => e = .returned (.bool (decide ((n : Int) ≤ 40))) ∧ w' = w := by
  go_enter Try.func7, Try.ntmps7
  go_wp2
  go_ret
  exact ⟨rfl, rfl⟩
theorem mayMk_no {s : ByteArray} (h : s.size = 0 ∨ 8 < s.size ∨ ∃ j, ∃ h : j < s.size, s[j].toNat < 97 ∨ 122 < s[j].toNat) : mayMk s = false := by
  unfold mayMk
  rw [decide_eq_false_iff_not]
  rintro ⟨h1, h2, h3⟩
  rcases h with h | h | ⟨j, hj, h⟩
  · omega
  · omega
  · have := h3 j hj; omega
theorem mayMk_eq {s : ByteArray} (h : ∀ j (h : j < s.size), 97 ≤ s[j].toNat ∧ s[j].toNat ≤ 122) : mayMk s = decide (1 ≤ s.size ∧ s.size ≤ 8) := by
  unfold mayMk
  apply decide_eq_decide.2
  exact ⟨fun ⟨a, b, _⟩ => ⟨a, b⟩, fun ⟨a, b⟩ => ⟨a, b, h⟩⟩
theorem toList_empty {s : ByteArray} : s.toList.isEmpty = decide (s.size = 0) := by
  rw [ByteArray.toList_eq, Bool.eq_iff_iff, decide_eq_true_eq, List.isEmpty_iff_length_eq_zero, Array.length_toList]
  exact Iff.rfl
set_option maxHeartbeats 400000 in
theorem mayMark_calls (s : ByteArray) (w : World) (hs : s.size ≤ 9223372036854775807) :
    Calls Try.prog 27 #[.string s] w fun e w' => e = .returned (.bool (mayMk s)) ∧ w' = w := by
  by_cases h0 : s.size = 0
  · have Hm := Lib.hid (mayMk_no (s := s) (.inl h0))
    have e0 : s.toList.isEmpty = true := by rw [toList_empty]; simpa using h0
    clear h0
    go_enter Try.func27, Try.ntmps27
    go_wp2
    go_ret
    exact ⟨by rw [Hm.out]; rfl, rfl⟩
  · have e0 : s.toList.isEmpty = false := by rw [toList_empty]; simpa using h0
    have h1 : 0 < s.size := by omega
    clear h0
    by_cases h8 : 8 < s.size
    · have Hm := Lib.hid (mayMk_no (s := s) (.inr (.inl h8)))
      go_enter Try.func27, Try.ntmps27
      go_wp2
      go_ret
      exact ⟨by rw [Hm.out]; rfl, rfl⟩
    · go_enter Try.func27, Try.ntmps27
      go_wp2
      go_loop [13] (fun i => ∃ k : Nat, k ≤ s.size ∧ i = .int .i64 k ∧ ∀ j (h : j < s.size), j < k → 97 ≤ s[j].toNat ∧ s[j].toNat ≤ 122) (fun i => s.size - (intOf i).toNat)
      case atStart => exact ⟨0, Nat.zero_le _, rfl, fun _ _ h => absurd h (by omega)⟩
      case round =>
        obtain ⟨k, hk, rfl, hr⟩ := hrel
        have Hr := Lib.hid hr
        clear hr
        by_cases hlt : k < s.size
        · go_wp2
          · go_ret
            exact ⟨by rw [mayMk_no (.inr (.inr ⟨k, hlt, by omega⟩))]; rfl, rfl⟩
          · go_round
            case rel => exact ⟨k + 1, by omega, by go_num, fun j h hj => by by_cases e : j = k; (subst e; omega); exact Hr.out j h (by omega)⟩
            case measure => simp [intOf]; omega
          · go_ret
            exact ⟨by rw [mayMk_no (.inr (.inr ⟨k, hlt, by omega⟩))]; rfl, rfl⟩
        · go_wp2
          go_ret
          exact ⟨by rw [mayMk_eq fun j h => Hr.out j h (by omega), show decide (1 ≤ s.size ∧ s.size ≤ 8) = true from by simp; omega]; rfl, rfl⟩
set_option maxHeartbeats 400000 in
theorem refMayMark_calls (s : ByteArray) (w : World) (hs : s.size ≤ 9223372036854775807) :
    Calls Try.prog 33 #[.string s] w fun e w' => e = .returned (.bool (mayMk s)) ∧ w' = w := by
  go_enter Try.func33, Try.ntmps33
  go_wp2
  go_loop [3] (fun i => ∃ k : Nat, k ≤ s.size ∧ i = .int .i64 k ∧ ∀ j (h : j < s.size), j < k → 97 ≤ s[j].toNat ∧ s[j].toNat ≤ 122) (fun i => s.size - (intOf i).toNat)
  case atStart => exact ⟨0, Nat.zero_le _, rfl, fun _ _ h => absurd h (by omega)⟩
  case round =>
    obtain ⟨k, hk, rfl, hr⟩ := hrel
    have Hr := Lib.hid hr
    clear hr
    by_cases hlt : k < s.size
    · go_wp2
      · go_ret
        exact ⟨by rw [mayMk_no (.inr (.inr ⟨k, hlt, by omega⟩))]; rfl, rfl⟩
      · go_round
        case rel => exact ⟨k + 1, by omega, by go_num, fun j h hj => by by_cases e : j = k; (subst e; omega); exact Hr.out j h (by omega)⟩
        case measure => simp [intOf]; omega
      · go_ret
        exact ⟨by rw [mayMk_no (.inr (.inr ⟨k, hlt, by omega⟩))]; rfl, rfl⟩
    · go_wp2
      all_goals go_ret
      all_goals refine ⟨ret_bool ?_, rfl⟩
      all_goals rw [mayMk_eq fun j h => Hr.out j h (by omega)]
      · show decide _ = decide _; apply decide_eq_decide.2; omega
      · show false = decide _; rw [eq_comm, decide_eq_false_iff_not]; omega
end Go.Proofs.Ytkclpflgndgabaa
