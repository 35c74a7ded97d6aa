/- Walks: names of files. -/
import Derived.Test.YtomfcgeibbicoaaGreatPc0
namespace Go.Proofs.YtomfcgeibbicoaaGreat
open Go.RowKit
/-- A small letter or a digit. -/
def smallB (b : Nat) : Bool := decide (97 ≤ b ∧ b ≤ 122) || decide (48 ≤ b ∧ b ≤ 57)
theorem plain_calls (b : Nat) (w : World) (hb : b < 256) : Calls Tryz.prog 111 #[.int .u8 (b : Int)] w fun e w' => e = .returned (.bool (smallB b)) ∧ Ex w w' := by
  by_cases h1 : 97 ≤ b
  · have d1 : decide ((97 : Int) ≤ (b : Int)) = true := decide_eq_true (by omega)
    by_cases h2 : b ≤ 122
    · have d2 : decide ((b : Int) ≤ 122) = true := decide_eq_true (by omega)
      have hs : smallB b = true := by unfold smallB; simp; omega
      rw [hs]
      go_enter Tryz.func111, Tryz.ntmps111
      go_wp2_with fail
      go_ret
      exact ⟨rfl, Ex.refl _⟩
    · have d2 : decide ((b : Int) ≤ 122) = false := decide_eq_false (by omega)
      have d3 : decide ((48 : Int) ≤ (b : Int)) = true := decide_eq_true (by omega)
      have d4 : decide ((b : Int) ≤ 57) = false := decide_eq_false (by omega)
      have hs : smallB b = false := by unfold smallB; simp; omega
      rw [hs]
      go_enter Tryz.func111, Tryz.ntmps111
      go_wp2_with fail
      go_ret
      exact ⟨rfl, Ex.refl _⟩
  · have d1 : decide ((97 : Int) ≤ (b : Int)) = false := decide_eq_false (by omega)
    by_cases h2 : 48 ≤ b
    · have d3 : decide ((48 : Int) ≤ (b : Int)) = true := decide_eq_true (by omega)
      by_cases h3 : b ≤ 57
      · have d4 : decide ((b : Int) ≤ 57) = true := decide_eq_true (by omega)
        have hs : smallB b = true := by unfold smallB; simp; omega
        rw [hs]
        go_enter Tryz.func111, Tryz.ntmps111
        go_wp2_with fail
        go_ret
        exact ⟨rfl, Ex.refl _⟩
      · have d4 : decide ((b : Int) ≤ 57) = false := decide_eq_false (by omega)
        have hs : smallB b = false := by unfold smallB; simp; omega
        rw [hs]
        go_enter Tryz.func111, Tryz.ntmps111
        go_wp2_with fail
        go_ret
        exact ⟨rfl, Ex.refl _⟩
    · have d3 : decide ((48 : Int) ≤ (b : Int)) = false := decide_eq_false (by omega)
      have hs : smallB b = false := by unfold smallB; simp; omega
      rw [hs]
      go_enter Tryz.func111, Tryz.ntmps111
      go_wp2_with fail
      go_ret
      exact ⟨rfl, Ex.refl _⟩
theorem small_calls (b : Nat) (w : World) (hb : b < 256) : Calls Tryz.prog 116 #[.int .u8 (b : Int)] w fun e w' => e = .returned (.bool (smallB b)) ∧ Ex w w' := by
  by_cases h1 : 97 ≤ b
  · have d1 : decide ((97 : Int) ≤ (b : Int)) = true := decide_eq_true (by omega)
    by_cases h2 : b ≤ 122
    · have d2 : decide ((b : Int) ≤ 122) = true := decide_eq_true (by omega)
      have hs : smallB b = true := by unfold smallB; simp; omega
      rw [hs]
      go_enter Tryz.func116, Tryz.ntmps116
      go_wp2_with fail
      go_ret
      exact ⟨rfl, Ex.refl _⟩
    · have d2 : decide ((b : Int) ≤ 122) = false := decide_eq_false (by omega)
      have d3 : decide ((48 : Int) ≤ (b : Int)) = true := decide_eq_true (by omega)
      have d4 : decide ((b : Int) ≤ 57) = false := decide_eq_false (by omega)
      have hs : smallB b = false := by unfold smallB; simp; omega
      rw [hs]
      go_enter Tryz.func116, Tryz.ntmps116
      go_wp2_with fail
      go_ret
      exact ⟨rfl, Ex.refl _⟩
  · have d1 : decide ((97 : Int) ≤ (b : Int)) = false := decide_eq_false (by omega)
    by_cases h2 : 48 ≤ b
    · have d3 : decide ((48 : Int) ≤ (b : Int)) = true := decide_eq_true (by omega)
      by_cases h3 : b ≤ 57
      · have d4 : decide ((b : Int) ≤ 57) = true := decide_eq_true (by omega)
        have hs : smallB b = true := by unfold smallB; simp; omega
        rw [hs]
        go_enter Tryz.func116, Tryz.ntmps116
        go_wp2_with fail
        go_ret
        exact ⟨rfl, Ex.refl _⟩
      · have d4 : decide ((b : Int) ≤ 57) = false := decide_eq_false (by omega)
        have hs : smallB b = false := by unfold smallB; simp; omega
        rw [hs]
        go_enter Tryz.func116, Tryz.ntmps116
        go_wp2_with fail
        go_ret
        exact ⟨rfl, Ex.refl _⟩
    · have d3 : decide ((48 : Int) ≤ (b : Int)) = false := decide_eq_false (by omega)
      have hs : smallB b = false := by unfold smallB; simp; omega
      rw [hs]
      go_enter Tryz.func116, Tryz.ntmps116
      go_wp2_with fail
      go_ret
      exact ⟨rfl, Ex.refl _⟩
end Go.Proofs.YtomfcgeibbicoaaGreat
namespace Go.Proofs.YtomfcgeibbicoaaGreat
open Go.RowKit
def okB (b : Nat) : Bool := smallB b || decide (b = 45) || decide (b = 46)
/-- May a file be called so? -/
def mayB (s : ByteArray) : Bool := decide (0 < s.size ∧ s.size ≤ 24) && (List.range s.size).all fun i => okB (byteAt s i)
theorem may_no {s : ByteArray} {k : Nat} (hk : k < s.size) (h : okB (byteAt s k) = false) : mayB s = false := by
  unfold mayB
  have : ((List.range s.size).all fun i => okB (byteAt s i)) = false := by
    rw [List.all_eq_false]
    exact ⟨k, List.mem_range.2 hk, by rw [h]; decide⟩
  rw [this, Bool.and_false]
theorem may_yes {s : ByteArray} (h0 : 0 < s.size) (h1 : s.size ≤ 24) (h : ∀ i, i < s.size → okB (byteAt s i) = true) : mayB s = true := by
  unfold mayB
  rw [decide_eq_true ⟨h0, h1⟩, Bool.true_and, List.all_eq_true]
  exact fun i hi => h i (List.mem_range.1 hi)
theorem may_size {s : ByteArray} (h : ¬ (0 < s.size ∧ s.size ≤ 24)) : mayB s = false := by
  unfold mayB
  rw [decide_eq_false h, Bool.false_and]
set_option maxRecDepth 100000 in
set_option maxHeartbeats 1000000 in
theorem may_calls (s : ByteArray) (w : World) : Calls Tryz.prog 44 #[.string s] w fun e w' => e = .returned (.bool (mayB s)) ∧ Ex w w' := by
  by_cases h0 : s.size = 0
  · have e1 : s.toList.isEmpty = true := by rw [noByte]; exact decide_eq_true h0
    rw [may_size (by omega)]
    go_enter Tryz.func44, Tryz.ntmps44
    go_wp2_with fail
    go_ret
    exact ⟨rfl, Ex.refl _⟩
  · have e1 : s.toList.isEmpty = false := by rw [noByte]; exact decide_eq_false h0
    by_cases h1 : 24 < s.size
    · have d1 : decide (24 < (s.size : Int)) = true := decide_eq_true (by omega)
      rw [may_size (by omega)]
      go_enter Tryz.func44, Tryz.ntmps44
      go_wp2_with fail
      go_ret
      exact ⟨rfl, Ex.refl _⟩
    · have d1 : decide (24 < (s.size : Int)) = false := decide_eq_false (by omega)
      go_enter Tryz.func44, Tryz.ntmps44
      go_wp2_with fail
      go_loopw [14] (fun v14 wr => ∃ k : Nat, k ≤ s.size ∧ v14 = .int .i64 (k : Int) ∧ (∀ i, i < k → okB (byteAt s i) = true) ∧ Ex w wr) (fun v14 _ => s.size - (intOf v14).toNat)
      case atStart => exact ⟨0, by omega, rfl, fun i hi => by omega, Ex.refl _⟩
      case round =>
        obtain ⟨k, hk, rfl, hall, hb⟩ := hrel
        have HX := Lib.hid hb
        have HA := Lib.hid hall
        clear hb hall
        by_cases hlt : k < s.size
        · have hbt : (s[k]'hlt).toNat = byteAt s k := by unfold byteAt; rw [dif_pos hlt]
          have hb256 : byteAt s k < 256 := byteAt_lt s k
          have HNO := Lib.hid (fun h => may_no hlt h)
          have HA1 : okB (byteAt s k) = true → Hid (∀ i, i < k + 1 → okB (byteAt s i) = true) := fun h i hi => by
            rcases Nat.lt_or_ge i k with h3 | h3
            · exact HA.out i h3
            · rw [show i = k by omega]; exact h
          generalize byteAt s k = b at *
          by_cases h45 : b = 45
          · subst h45
            have HA1 := HA1 (by decide)
            go_wp2_with fail
            exact ⟨⟨k + 1, by omega, by go_num, HA1.out, HX.out⟩, by simp [intOf]; omega⟩
          · have d2 : decide ((b : Int) = 45) = false := decide_eq_false (by omega)
            by_cases h46 : b = 46
            · subst h46
              have HA1 := HA1 (by decide)
              go_wp2_with fail
              exact ⟨⟨k + 1, by omega, by go_num, HA1.out, HX.out⟩, by simp [intOf]; omega⟩
            · have d3 : decide ((b : Int) = 46) = false := decide_eq_false (by omega)
              go_wp2_with fail
              refine (plain_calls b _ hb256).mono ?_
              rintro e w1 ⟨rfl, hb1⟩
              have HX1 := Lib.hid (HX.out.trans hb1)
              clear hb1
              cases hsm : smallB b
              · have HM : Hid (mayB s = false) := HNO.out (by unfold okB; rw [hsm, decide_eq_false h45, decide_eq_false h46]; rfl)
                go_wp2_with fail
                go_ret
                exact ⟨by rw [HM.out]; rfl, HX1.out⟩
              · have HA1 := HA1 (by unfold okB; rw [hsm]; rfl)
                go_wp2_with fail
                exact ⟨⟨k + 1, by omega, by go_num, HA1.out, HX1.out⟩, by simp [intOf]; omega⟩
        · have hks : k = s.size := by omega
          have HM : Hid (mayB s = true) := may_yes (by omega) (by omega) (fun i hi => HA.out i (by omega))
          subst hks
          go_wp2_with fail
          go_ret
          exact ⟨by rw [HM.out]; rfl, HX.out⟩
end Go.Proofs.YtomfcgeibbicoaaGreat
