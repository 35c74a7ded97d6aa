/- The document's publish: Write; names of saved files; Save and Read. -/
import Derived.Test.YtomfcgeibbicoaaGreatRfM
import Derived.Test.YtomfcgeibbicoaaGreatExA
namespace Go.Proofs.YtomfcgeibbicoaaGreat
open Go.RowKit
/-- Eight cells are stored into a block of eight. -/
theorem blk_set8 {w : World} {g : Nat} {T : TypeId} {o0 o1 o2 o3 o4 o5 o6 o7 : Value} (h : Blk w g T [o0, o1, o2, o3, o4, o5, o6, o7]) (a0 a1 a2 a3 a4 a5 a6 a7 : Value) : Blk ((((((((w.setCell ⟨g, 0, none⟩ a0).setCell ⟨g, 1, none⟩ a1).setCell ⟨g, 2, none⟩ a2).setCell ⟨g, 3, none⟩ a3).setCell ⟨g, 4, none⟩ a4).setCell ⟨g, 5, none⟩ a5).setCell ⟨g, 6, none⟩ a6).setCell ⟨g, 7, none⟩ a7) g T [a0, a1, a2, a3, a4, a5, a6, a7] := ((((((((h.setCell (i := 0) a0).setCell (i := 1) a1).setCell (i := 2) a2).setCell (i := 3) a3).setCell (i := 4) a4).setCell (i := 5) a5).setCell (i := 6) a6).setCell (i := 7) a7)
theorem off_set8 (w : World) (g : Nat) (a0 a1 a2 a3 a4 a5 a6 a7 : Value) : Off (· = g) w ((((((((w.setCell ⟨g, 0, none⟩ a0).setCell ⟨g, 1, none⟩ a1).setCell ⟨g, 2, none⟩ a2).setCell ⟨g, 3, none⟩ a3).setCell ⟨g, 4, none⟩ a4).setCell ⟨g, 5, none⟩ a5).setCell ⟨g, 6, none⟩ a6).setCell ⟨g, 7, none⟩ a7) := ((((((((off_set w g 0 a0).trans (off_set _ g 1 a1)).trans (off_set _ g 2 a2)).trans (off_set _ g 3 a3)).trans (off_set _ g 4 a4)).trans (off_set _ g 5 a5)).trans (off_set _ g 6 a6)).trans (off_set _ g 7 a7))
theorem off_ex8 {w0 w : World} {g : Nat} (h : Ex w0 w) (hg : w0.heap.size ≤ g) (a0 a1 a2 a3 a4 a5 a6 a7 : Value) : Ex w0 ((((((((w.setCell ⟨g, 0, none⟩ a0).setCell ⟨g, 1, none⟩ a1).setCell ⟨g, 2, none⟩ a2).setCell ⟨g, 3, none⟩ a3).setCell ⟨g, 4, none⟩ a4).setCell ⟨g, 5, none⟩ a5).setCell ⟨g, 6, none⟩ a6).setCell ⟨g, 7, none⟩ a7) := ((h.off fun k => k = g).trans (off_set8 w g a0 a1 a2 a3 a4 a5 a6 a7)).ex fun k hk e => by omega
set_option maxRecDepth 100000 in
set_option maxHeartbeats 1000000 in
theorem ruser_calls (s : ByteArray) (w : World) (hs : s.size ≤ 9223372036854775807) : Calls Tryz.prog 210 #[.string s] w fun e w' => e = .returned (.bool (userB s)) ∧ Ex w w' := by
  go_enter Tryz.func210, Tryz.ntmps210
  go_wp2_with fail
  go_loopw [3] (fun v3 wr => ∃ k : Nat, k ≤ s.size ∧ v3 = .int .i64 (k : Int) ∧ (∀ i, i < k → smallB (byteAt s i) = true) ∧ Ex w wr) (fun v3 _ => s.size - (intOf v3).toNat)
  case atStart => exact ⟨0, by omega, rfl, fun i hi => by omega, Ex.refl _⟩
  case round =>
    obtain ⟨k, hk, rfl, hall, hb⟩ := hrel
    have HX := Lib.hid hb
    have HA := Lib.hid hall
    clear hb hall
    by_cases hlt : k < s.size
    · have hbt : (s[k]'hlt).toNat = byteAt s k := by unfold byteAt; rw [dif_pos hlt]
      have hb256 : byteAt s k < 256 := byteAt_lt s k
      have HNO := Lib.hid (fun h => user_no hlt h)
      have HA1 : smallB (byteAt s k) = true → Hid (∀ i, i < k + 1 → smallB (byteAt s i) = true) := fun h i hi => by
        rcases Nat.lt_or_ge i k with h3 | h3
        · exact HA.out i h3
        · rw [show i = k by omega]; exact h
      generalize byteAt s k = b at *
      go_wp2_with fail
      refine (small_calls b _ hb256).mono ?_
      rintro e w1 ⟨rfl, hb1⟩
      have HX1 := Lib.hid (HX.out.trans hb1)
      clear hb1
      cases hsm : smallB b
      · have HM : Hid (userB s = false) := HNO.out hsm
        go_wp2_with fail
        go_ret
        exact ⟨by rw [HM.out]; rfl, HX1.out⟩
      · have HA1 := HA1 hsm
        go_wp2_with fail
        exact ⟨⟨k + 1, by omega, by go_num, HA1.out, HX1.out⟩, by simp [intOf]; omega⟩
    · have hks : k = s.size := by omega
      subst hks
      by_cases h0 : 0 < s.size ∧ s.size ≤ 16
      · have HM : Hid (userB s = true) := user_yes h0.1 h0.2 HA.out
        have d1 : decide (1 ≤ (s.size : Int)) = true := decide_eq_true (by omega)
        have d2 : decide ((s.size : Int) ≤ 16) = true := decide_eq_true (by omega)
        go_wp2_with fail
        go_ret
        exact ⟨by rw [HM.out]; rfl, HX.out⟩
      · have HM : Hid (userB s = false) := user_size h0
        by_cases h1 : s.size = 0
        · have d1 : decide (1 ≤ (s.size : Int)) = false := decide_eq_false (by omega)
          go_wp2_with fail
          go_ret
          exact ⟨by rw [HM.out]; rfl, HX.out⟩
        · have d1 : decide (1 ≤ (s.size : Int)) = true := decide_eq_true (by omega)
          have d2 : decide ((s.size : Int) ≤ 16) = false := decide_eq_false (by omega)
          go_wp2_with fail
          go_ret
          exact ⟨by rw [HM.out]; rfl, HX.out⟩
theorem rexport_calls (s : ByteArray) (w : World) (hs : s.size ≤ 9223372036854775807) : Calls Tryz.prog 167 #[.string s] w fun e w' => e = .returned (.string (expS s)) ∧ Ex w w' := by
  cases hu : userB s
  · have HE := Lib.hid (show expS s = ⟨#[]⟩ from by unfold expS; rw [hu]; rfl)
    go_enter Tryz.func167, Tryz.ntmps167
    go_wp2_with fail
    refine (ruser_calls s _ hs).mono ?_
    rintro e w1 ⟨rfl, hb1⟩
    rw [hu]
    go_wp2_with fail
    go_ret
    exact ⟨by rw [HE.out]; rfl, hb1⟩
  · have HE := Lib.hid (show expS s = ⟨#[120, 45]⟩ ++ s from by unfold expS; rw [hu]; rfl)
    have hz := user_le hu
    have hf : (⟨#[120, 45]⟩ : ByteArray).size = 2 := rfl
    go_enter Tryz.func167, Tryz.ntmps167
    go_wp2_with fail
    refine (ruser_calls s _ hs).mono ?_
    rintro e w1 ⟨rfl, hb1⟩
    rw [hu]
    go_wp2_with fail
    go_ret
    exact ⟨by rw [HE.out]; rfl, hb1⟩
end Go.Proofs.YtomfcgeibbicoaaGreat
