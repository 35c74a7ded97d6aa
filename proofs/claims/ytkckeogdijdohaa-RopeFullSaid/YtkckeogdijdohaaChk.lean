/- Walks: chunk.Fits and one, the document's Fits; what a list of chunks may be. -/
import Derived.Test.YtkckeogdijdohaaLst
import Derived.Test.YtkckeogdijdohaaUtfI
namespace Go.Proofs.Ytkckeogdijdohaa
open Go.RowKit
def fitsB (s : ByteArray) : Bool := decide (1 ≤ s.size ∧ s.size ≤ 16) && validU s
theorem fitsB_iff {s : ByteArray} : fitsB s = true ↔ 1 ≤ s.size ∧ s.size ≤ 16 ∧ validU s = true := by
  unfold fitsB
  rw [Bool.and_eq_true, decide_eq_true_iff, and_assoc]
theorem empty_iff {s : ByteArray} : s.toList.isEmpty = decide (s.size = 0) := by
  rw [ByteArray.toList_eq, Bool.eq_iff_iff, List.isEmpty_iff, decide_eq_true_iff]
  constructor
  · intro h
    have := congrArg List.length h
    simpa using this
  · intro h
    exact List.eq_nil_of_length_eq_zero (by simpa using h)
set_option maxHeartbeats 400000 in
theorem fits_calls (s : ByteArray) (w : World) (hs : s.size ≤ 9223372036854775000) : Calls Try.prog 63 #[.string s] w fun e w' => e = .returned (.bool (fitsB s)) ∧ Ex w w' := by
  have he := empty_iff (s := s)
  by_cases h0 : s.size = 0
  · have H := Lib.hid (show fitsB s = false from by unfold fitsB; rw [decide_eq_false (by omega)]; rfl)
    rw [decide_eq_true h0] at he
    clear h0
    go_enter Try.func63, Try.ntmps63
    go_wp2_with fail
    go_ret
    exact ⟨ret_bool H.out.symm, Ex.refl _⟩
  · rw [decide_eq_false h0] at he
    by_cases h16 : s.size ≤ 16
    · have H := Lib.hid (show fitsB s = validU s from by unfold fitsB; rw [decide_eq_true (by omega)]; rfl)
      go_enter Try.func63, Try.ntmps63
      go_wp2_with fail
      refine (valid_calls _ _ hs).mono ?_
      rintro e w1 ⟨rfl, hb1⟩
      go_wp2
      go_ret
      exact ⟨ret_bool H.out.symm, hb1⟩
    · have H := Lib.hid (show fitsB s = false from by unfold fitsB; rw [decide_eq_false (by omega)]; rfl)
      go_enter Try.func63, Try.ntmps63
      go_wp2_with fail
      go_ret
      exact ⟨ret_bool H.out.symm, Ex.refl _⟩
set_option maxHeartbeats 400000 in
theorem refFits_calls (s : ByteArray) (w : World) (hs : s.size ≤ 9223372036854775000) : Calls Try.prog 72 #[.string s] w fun e w' => e = .returned (.bool (fitsB s)) ∧ Ex w w' := by
  by_cases h0 : 1 ≤ s.size
  · by_cases h16 : s.size ≤ 16
    · have H := Lib.hid (show fitsB s = validU s from by unfold fitsB; rw [decide_eq_true (by omega)]; rfl)
      go_enter Try.func72, Try.ntmps72
      go_wp2_with fail
      refine (refValid_calls _ _ hs).mono ?_
      rintro e w1 ⟨rfl, hb1⟩
      go_wp2
      go_ret
      exact ⟨ret_bool H.out.symm, hb1⟩
    · have H := Lib.hid (show fitsB s = false from by unfold fitsB; rw [decide_eq_false (by omega)]; rfl)
      go_enter Try.func72, Try.ntmps72
      go_wp2_with fail
      go_ret
      exact ⟨ret_bool H.out.symm, Ex.refl _⟩
  · have H := Lib.hid (show fitsB s = false from by unfold fitsB; rw [decide_eq_false (by omega)]; rfl)
    go_enter Try.func72, Try.ntmps72
    go_wp2_with fail
    go_ret
    exact ⟨ret_bool H.out.symm, Ex.refl _⟩
theorem one_calls (a b : ByteArray) (w : World) (ha : a.size ≤ 1000000) (hb : b.size ≤ 1000000) : Calls Try.prog 86 #[.string a, .string b] w fun e w' => e = .returned (.bool (decide (a.size + b.size ≤ 16))) ∧ w' = w := by
  go_enter Try.func86, Try.ntmps86
  go_wp2
  go_ret
  exact ⟨ret_bool (decide_eq_decide.2 (by omega)), rfl⟩
end Go.Proofs.Ytkckeogdijdohaa
