/- Walks: slices.IndexFunc with the closure of marks.Set. -/
import Derived.Test.YtkclpflgndgabaaMkC
namespace Go.Proofs.Ytkclpflgndgabaa
open Go.RowKit
set_option maxHeartbeats 400000 in
theorem set1_calls (s m : ByteArray) (n : Int) (bx : Nat) (w : World) (hc : w.cell? ⟨bx, 0, none⟩ = some (.string m)) :
    Calls Try.prog 31 #[.agg #[.string s, .int .i64 n], .pointer (some ⟨bx, 0, none⟩)] w fun e w' => e = .returned (.bool (upN m s)) ∧ Ex w w' := by
  have hc' : (w.alloc (.cells #[.string s, .int .i64 n] 24)).cell? ⟨bx, 0, none⟩ = some (.string m) := (ex_alloc (Ex.refl w) _).cell hc
  have hlt : bx < w.heap.size := World.block_lt_of_cell? w _ hc
  clear hc
  go_enter Try.func31, Try.ntmps31
  go_wp2
  go_ret
  exact ⟨ret_bool (by unfold upN ltN; rw [Bool.not_or]), ex_alloc (Ex.refl w) _⟩
set_option maxHeartbeats 400000 in
theorem indexFunc_calls (A : Option Addr) (n c : Nat) (l : List Mk) (bx : Nat) (m : ByteArray) (w : World) (hn : n ≤ 9223372036854775807) (hm : Row w 2 A n (Mk.cs l)) (hc : w.cell? ⟨bx, 0, none⟩ = some (.string m)) :
    Calls Try.prog 30 #[.slice A n c, .func (.func 31) #[] #[.pointer (some ⟨bx, 0, none⟩)]] w fun e w' => e = .returned (.int .i64 (zIdx (fun x => upN m x.nm) l)) ∧ Ex w w' := by
  have hl := hm.mk_len
  subst hl
  have Hm := Lib.hid hm
  have Hc := Lib.hid hc
  clear hm hc
  go_enter Try.func30, Try.ntmps30
  go_wp2_with fail
  go_loopw [8] (fun i wr => ∃ k : Nat, k ≤ l.length ∧ i = .int .i64 k ∧ (∀ j (hj : j < l.length), j < k → upN m l[j].nm = false) ∧ Ex w wr) (fun i _ => l.length - (intOf i).toNat)
  case atStart => exact ⟨0, Nat.zero_le _, rfl, fun _ _ h => absurd h (by omega), Below.refl _ _⟩
  case round =>
    obtain ⟨k, hk, rfl, hr, hb⟩ := hrel
    have Hr := Lib.hid hr
    clear hr
    by_cases hlt : k < l.length
    · obtain ⟨b, o, rfl, c1, c2⟩ := (Hm.out.ex hb).mk hlt
      go_wp2_with (first | (go_at_call 31; refine (set1_calls _ m _ bx _ (hb.cell Hc.out)).mono ?_; rintro e w1 ⟨rfl, hb1⟩))
      · have hq : upN m l[k].nm = true := by assumption
        go_ret
        exact ⟨ret_int (by rw [zIdx_some (p := fun x => upN m x.nm) hlt hq Hr.out]), hb.trans hb1⟩
      · have hq : upN m l[k].nm = false := by assumption
        go_roundw
        case rel => exact ⟨k + 1, by omega, by go_num, fun j hj h => by by_cases e : j = k; (subst e; exact hq); exact Hr.out j hj (by omega), hb.trans hb1⟩
        case measure => simp [intOf]; omega
    · go_wp2_with fail
      go_ret
      exact ⟨ret_int (by rw [zIdx_none fun j hj => Hr.out j hj (by omega)]), hb⟩
end Go.Proofs.Ytkclpflgndgabaa
