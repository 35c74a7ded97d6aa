/- Walk: the document's answer for names of files. -/
import Derived.Test.YtomfcgeibbicoaaGreatTi0
namespace Go.Proofs.YtomfcgeibbicoaaGreat
open Go.RowKit
set_option maxRecDepth 100000 in
set_option maxHeartbeats 1000000 in
theorem rmay_calls (s : ByteArray) (w : World) (hs : s.size ≤ 9223372036854775807) : Calls Tryz.prog 50 #[.string s] w fun e w' => e = .returned (.bool (mayB s)) ∧ Ex w w' := by
  go_enter Tryz.func50, Tryz.ntmps50
  go_wp2_with fail
  go_loopw [3] (fun v3 wr => ∃ k : Nat, k ≤ s.size ∧ v3 = .int .i64 (k : Int) ∧ (∀ i, i < k → okB (byteAt s i) = true) ∧ Ex w wr) (fun v3 _ => s.size - (intOf v3).toNat)
  case atStart => exact ⟨0, by omega, rfl, fun i hi => by omega, Ex.refl _⟩
  case round =>
    obtain ⟨k, hk, rfl, hall, hb⟩ := hrel
    have HX := Lib.hid hb
    have HA := Lib.hid hall
    clear hb hall
    by_cases hlt : k < s.size
    · have hbt : (s[k]'hlt).toNat = byteAt s k := by unfold byteAt; rw [dif_pos hlt]
      have hb256 : byteAt s k < 256 := byteAt_lt s k
      have HNO := Lib.hid (fun h => may_no hlt h)
      have HA1 : okB (byteAt s k) = true → Hid (∀ i, i < k + 1 → okB (byteAt s i) = true) := fun h i hi => by
        rcases Nat.lt_or_ge i k with h3 | h3
        · exact HA.out i h3
        · rw [show i = k by omega]; exact h
      generalize byteAt s k = b at *
      go_wp2_with fail
      refine (small_calls b _ hb256).mono ?_
      rintro e w1 ⟨rfl, hb1⟩
      have HX1 := Lib.hid (HX.out.trans hb1)
      clear hb1
      cases hsm : smallB b
      · by_cases h45 : b = 45
        · subst h45
          have HA1 := HA1 (by decide)
          go_wp2_with fail
          exact ⟨⟨k + 1, by omega, by go_num, HA1.out, HX1.out⟩, by simp [intOf]; omega⟩
        · have d2 : decide ((b : Int) = 45) = false := decide_eq_false (by omega)
          by_cases h46 : b = 46
          · subst h46
            have HA1 := HA1 (by decide)
            go_wp2_with fail
            exact ⟨⟨k + 1, by omega, by go_num, HA1.out, HX1.out⟩, by simp [intOf]; omega⟩
          · have d3 : decide ((b : Int) = 46) = false := decide_eq_false (by omega)
            have n45 : ((b : Int) == 45) = false := by rw [beq_eq_false_iff_ne]; omega
            have n46 : ((b : Int) == 46) = false := by rw [beq_eq_false_iff_ne]; omega
            have m45 : ((b : Int) != 45) = true := by rw [bne, n45]; rfl
            have m46 : ((b : Int) != 46) = true := by rw [bne, n46]; rfl
            have HM : Hid (mayB s = false) := HNO.out (by unfold okB; rw [hsm, decide_eq_false h45, decide_eq_false h46]; rfl)
            go_wp2_with fail
            go_ret
            exact ⟨by rw [HM.out]; rfl, HX1.out⟩
      · have HA1 := HA1 (by unfold okB; rw [hsm]; rfl)
        go_wp2_with fail
        exact ⟨⟨k + 1, by omega, by go_num, HA1.out, HX1.out⟩, by simp [intOf]; omega⟩
    · have hks : k = s.size := by omega
      subst hks
      by_cases h0 : 0 < s.size ∧ s.size ≤ 24
      · have HM : Hid (mayB s = true) := may_yes h0.1 h0.2 HA.out
        have d1 : decide (1 ≤ (s.size : Int)) = true := decide_eq_true (by omega)
        have d2 : decide ((s.size : Int) ≤ 24) = true := decide_eq_true (by omega)
        go_wp2_with fail
        go_ret
        exact ⟨by rw [HM.out]; rfl, HX.out⟩
      · have HM : Hid (mayB s = false) := may_size h0
        by_cases h1 : s.size = 0
        · have d1 : decide (1 ≤ (s.size : Int)) = false := decide_eq_false (by omega)
          go_wp2_with fail
          go_ret
          exact ⟨by rw [HM.out]; rfl, HX.out⟩
        · have d1 : decide (1 ≤ (s.size : Int)) = true := decide_eq_true (by omega)
          have d2 : decide ((s.size : Int) ≤ 24) = false := decide_eq_false (by omega)
          go_wp2_with fail
          go_ret
          exact ⟨by rw [HM.out]; rfl, HX.out⟩
end Go.Proofs.YtomfcgeibbicoaaGreat
