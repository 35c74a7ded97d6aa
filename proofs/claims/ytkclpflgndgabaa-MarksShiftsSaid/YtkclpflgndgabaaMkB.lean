/- Walks: where a name stands, and whether lists are alike. -/
import Derived.Test.YtkclpflgndgabaaMkA
import Derived.Test.YtkclpflgndgabaaMkS
namespace Go.Proofs.Ytkclpflgndgabaa
open Go.RowKit
set_option maxHeartbeats 400000 in
theorem name_calls (s : ByteArray) (n : Int) (w : World) :
    Calls Try.prog 45 #[.agg #[.string s, .int .i64 n]] w fun e w' => e = .returned (.string s) ∧ Ex w w' := by
  go_enter Try.func45, Try.ntmps45
  go_wp2
  go_ret
  exact ⟨rfl, (Below.refl _ _).alloc (Nat.le_refl _) _⟩
set_option maxHeartbeats 400000 in
theorem first_calls (A : Option Addr) (n c : Nat) (l : List Mk) (s : ByteArray) (w : World) (hn : n ≤ 9223372036854775807) (hm : Row w 2 A n (Mk.cs l)) :
    Calls Try.prog 44 #[.slice A n c, .string s, .func (.func 45) #[] #[]] w fun e w' => e = .returned (.int .i64 (atZ s l)) ∧ Ex w w' := by
  have hl := hm.mk_len
  subst hl
  have Hm := Lib.hid hm
  clear hm
  go_enter Try.func44, Try.ntmps44
  go_wp2_with fail
  go_loopw [11] (fun i wr => ∃ k : Nat, k ≤ l.length ∧ i = .int .i64 k ∧ (∀ j (hj : j < l.length), j < k → nmIs s l[j] = false) ∧ Ex w wr) (fun i _ => l.length - (intOf i).toNat)
  case atStart => exact ⟨0, Nat.zero_le _, rfl, fun _ _ h => absurd h (by omega), Below.refl _ _⟩
  case round =>
    obtain ⟨k, hk, rfl, hr, hb⟩ := hrel
    have Hr := Lib.hid hr
    clear hr
    by_cases hlt : k < l.length
    · obtain ⟨b, o, rfl, c1, c2⟩ := (Hm.out.ex hb).mk hlt
      go_wp2_with (first | (go_at_call 45; refine (name_calls _ _ _).mono ?_; rintro e w1 ⟨rfl, hb1⟩))
      · have hq : nmIs s l[k] = true := by unfold nmIs; assumption
        go_ret
        exact ⟨ret_int (by rw [atZ, idx_some hlt hq Hr.out]), ex_box hb hb1⟩
      · have hq : nmIs s l[k] = false := by unfold nmIs; assumption
        go_roundw
        case rel => exact ⟨k + 1, by omega, by go_num, fun j hj h => by by_cases e : j = k; (subst e; exact hq); exact Hr.out j hj (by omega), ex_box hb hb1⟩
        case measure => simp [intOf]; omega
    · go_wp2_with fail
      go_ret
      exact ⟨ret_int (by rw [atZ, idx_none fun j hj => Hr.out j hj (by omega)]), hb⟩
set_option maxHeartbeats 400000 in
theorem at_calls (A : Option Addr) (n c : Nat) (l : List Mk) (s : ByteArray) (w : World) (hn : n ≤ 9223372036854775807) (hm : Row w 2 A n (Mk.cs l)) :
    Calls Try.prog 28 #[.slice A n c, .string s] w fun e w' => e = .returned (.int .i64 (atZ s l)) ∧ Ex w w' := by
  have Hm := Lib.hid hm
  clear hm
  go_enter Try.func28, Try.ntmps28
  go_wp2_with (first | (go_at_call 44; refine (first_calls _ _ _ _ _ _ hn Hm.out).mono ?_; rintro e w1 ⟨rfl, hb1⟩))
  go_ret
  exact ⟨rfl, hb1⟩
set_option maxHeartbeats 400000 in
theorem refFind_calls (A : Option Addr) (n c : Nat) (l : List Mk) (s : ByteArray) (w : World) (hn : n ≤ 9223372036854775807) (hm : Row w 2 A n (Mk.cs l)) :
    Calls Try.prog 16 #[.slice A n c, .string s] w fun e w' => e = .returned (.tuple #[.int .i64 (findM s l).1, .bool (findM s l).2]) ∧ w' = w := by
  have hl := hm.mk_len
  subst hl
  have Hm := Lib.hid hm
  clear hm
  go_enter Try.func16, Try.ntmps16
  go_wp2
  go_loop [6] (fun i => ∃ k : Nat, k ≤ l.length ∧ i = .int .i64 k ∧ (∀ j (hj : j < l.length), j < k → nmIs s l[j] = false)) (fun i => l.length - (intOf i).toNat)
  case atStart => exact ⟨0, Nat.zero_le _, rfl, fun _ _ h => absurd h (by omega)⟩
  case round =>
    obtain ⟨k, hk, rfl, hr⟩ := hrel
    have Hr := Lib.hid hr
    clear hr
    by_cases hlt : k < l.length
    · obtain ⟨b, o, rfl, c1, c2⟩ := Hm.out.mk hlt
      go_wp2
      · have hq : nmIs s l[k] = true := by unfold nmIs; assumption
        go_ret2
        exact ⟨by rw [findM_some hlt hq Hr.out]; rfl, rfl⟩
      · have hq : nmIs s l[k] = false := by unfold nmIs; assumption
        go_round
        case rel => exact ⟨k + 1, by omega, by go_num, fun j hj h => by by_cases e : j = k; (subst e; exact hq); exact Hr.out j hj (by omega)⟩
        case measure => simp [intOf]; omega
    · go_wp2
      go_ret2
      exact ⟨by rw [findM_none fun j hj => Hr.out j hj (by omega)]; rfl, rfl⟩
set_option maxHeartbeats 400000 in
theorem find_calls (A : Option Addr) (n c : Nat) (l : List Mk) (s : ByteArray) (w : World) (hn : n ≤ 9223372036854775807) (hm : Row w 2 A n (Mk.cs l)) :
    Calls Try.prog 15 #[.slice A n c, .string s] w fun e w' => e = .returned (.tuple #[.int .i64 (findM s l).1, .bool (findM s l).2]) ∧ Ex w w' := by
  have Hm := Lib.hid hm
  have hl := hm.mk_len
  clear hm
  rcases atZ_cases s l with ⟨k, hk, hz, hq, hr⟩ | ⟨hz, hr⟩
  · have Hr := Lib.hid (findM_some hk hq hr)
    have Hl := Lib.hid hl
    have Hz := Lib.hid hz
    clear hr hz hl hq
    have hkn : k < n := by have := Hl.out; omega
    go_enter Try.func15, Try.ntmps15
    go_wp2_with fail
    refine (at_calls A n c l s _ hn Hm.out).mono ?_
    rintro e w1 ⟨rfl, hb⟩
    rw [Hz.out]
    obtain ⟨b, o, rfl, c1, c2⟩ := (Hm.out.ex hb).mk hk
    go_wp2
    go_ret2
    exact ⟨by rw [Hr.out]; rfl, hb⟩
  · have Hr := Lib.hid (findM_none hr)
    have Hz := Lib.hid hz
    clear hr hz hl
    go_enter Try.func15, Try.ntmps15
    go_wp2_with fail
    refine (at_calls A n c l s _ hn Hm.out).mono ?_
    rintro e w1 ⟨rfl, hb⟩
    rw [Hz.out]
    go_wp2
    go_ret2
    exact ⟨by rw [Hr.out]; rfl, hb⟩
end Go.Proofs.Ytkclpflgndgabaa
