/- Walks: names of files that are saved. -/
import Derived.Test.YtomfcgeibbicoaaGreatTi0
namespace Go.Proofs.YtomfcgeibbicoaaGreat
open Go.RowKit
/-- May one who saves call a file so? -/
def userB (s : ByteArray) : Bool := decide (0 < s.size ∧ s.size ≤ 16) && (List.range s.size).all fun i => smallB (byteAt s i)
theorem user_no {s : ByteArray} {k : Nat} (hk : k < s.size) (h : smallB (byteAt s k) = false) : userB s = false := by
  unfold userB
  have : ((List.range s.size).all fun i => smallB (byteAt s i)) = false := by
    rw [List.all_eq_false]
    exact ⟨k, List.mem_range.2 hk, by rw [h]; decide⟩
  rw [this, Bool.and_false]
theorem user_yes {s : ByteArray} (h0 : 0 < s.size) (h1 : s.size ≤ 16) (h : ∀ i, i < s.size → smallB (byteAt s i) = true) : userB s = true := by
  unfold userB
  rw [decide_eq_true ⟨h0, h1⟩, Bool.true_and, List.all_eq_true]
  exact fun i hi => h i (List.mem_range.1 hi)
theorem user_size {s : ByteArray} (h : ¬ (0 < s.size ∧ s.size ≤ 16)) : userB s = false := by
  unfold userB
  rw [decide_eq_false h, Bool.false_and]
theorem user_le {s : ByteArray} (h : userB s = true) : s.size ≤ 16 := by
  unfold userB at h
  rw [Bool.and_eq_true, decide_eq_true_eq] at h
  exact h.1.2
set_option maxRecDepth 100000 in
set_option maxHeartbeats 1000000 in
theorem user_calls (s : ByteArray) (w : World) : Calls Tryz.prog 237 #[.string s] w fun e w' => e = .returned (.bool (userB s)) ∧ Ex w w' := by
  by_cases h0 : s.size = 0
  · have e1 : s.toList.isEmpty = true := by rw [noByte]; exact decide_eq_true h0
    rw [user_size (by omega)]
    go_enter Tryz.func237, Tryz.ntmps237
    go_wp2_with fail
    go_ret
    exact ⟨rfl, Ex.refl _⟩
  · have e1 : s.toList.isEmpty = false := by rw [noByte]; exact decide_eq_false h0
    by_cases h1 : 16 < s.size
    · have d1 : decide (16 < (s.size : Int)) = true := decide_eq_true (by omega)
      rw [user_size (by omega)]
      go_enter Tryz.func237, Tryz.ntmps237
      go_wp2_with fail
      go_ret
      exact ⟨rfl, Ex.refl _⟩
    · have d1 : decide (16 < (s.size : Int)) = false := decide_eq_false (by omega)
      go_enter Tryz.func237, Tryz.ntmps237
      go_wp2_with fail
      go_loopw [3, 13] (fun _ v13 wr => ∃ k : Nat, k ≤ s.size ∧ v13 = .int .i64 (k : Int) ∧ (∀ i, i < k → smallB (byteAt s i) = true) ∧ Ex w wr) (fun _ v13 _ => s.size - (intOf v13).toNat)
      case atStart => exact ⟨0, by omega, rfl, fun i hi => by omega, Ex.refl _⟩
      case round =>
        obtain ⟨k, hk, rfl, hall, hb⟩ := hrel
        have HX := Lib.hid hb
        have HA := Lib.hid hall
        clear hb hall
        by_cases hlt : k < s.size
        · have hbt : (s[k]'hlt).toNat = byteAt s k := by unfold byteAt; rw [dif_pos hlt]
          have hb256 : byteAt s k < 256 := byteAt_lt s k
          have HNO := Lib.hid (fun h => user_no hlt h)
          have HA1 : smallB (byteAt s k) = true → Hid (∀ i, i < k + 1 → smallB (byteAt s i) = true) := fun h i hi => by
            rcases Nat.lt_or_ge i k with h3 | h3
            · exact HA.out i h3
            · rw [show i = k by omega]; exact h
          generalize byteAt s k = b at *
          go_wp2_with fail
          refine (plain_calls b _ hb256).mono ?_
          rintro e w1 ⟨rfl, hb1⟩
          have HX1 := Lib.hid (HX.out.trans hb1)
          clear hb1
          cases hsm : smallB b
          · have HM : Hid (userB s = false) := HNO.out hsm
            go_wp2_with fail
            go_ret
            exact ⟨by rw [HM.out]; rfl, HX1.out⟩
          · have HA1 := HA1 hsm
            go_wp2_with fail
            exact ⟨⟨k + 1, by omega, by go_num, HA1.out, HX1.out⟩, by simp [intOf]; omega⟩
        · have hks : k = s.size := by omega
          have HM : Hid (userB s = true) := user_yes (by omega) (by omega) (fun i hi => HA.out i (by omega))
          subst hks
          go_wp2_with fail
          go_ret
          exact ⟨by rw [HM.out]; rfl, HX.out⟩
def frTemp : ByteArray := ⟨#[116, 109, 112, 45]⟩
def frExp : ByteArray := ⟨#[120, 45]⟩
theorem front3_calls (w : World) : Calls Tryz.prog 199 #[.int .i64 3] w fun e w' => e = .returned (.string frTemp) ∧ Ex w w' := by
  go_enter Tryz.func199, Tryz.ntmps199
  go_wp2_with fail
  go_ret
  exact ⟨rfl, ex_alloc (Ex.refl _) _⟩
theorem front4_calls (w : World) : Calls Tryz.prog 199 #[.int .i64 4] w fun e w' => e = .returned (.string frExp) ∧ Ex w w' := by
  go_enter Tryz.func199, Tryz.ntmps199
  go_wp2_with fail
  go_ret
  exact ⟨rfl, ex_alloc (Ex.refl _) _⟩
def expS (s : ByteArray) : ByteArray := if userB s = true then frExp ++ s else ⟨#[]⟩
def tmpS : ByteArray := ⟨#[116, 109, 112, 45, 115, 97, 118, 101]⟩
end Go.Proofs.YtomfcgeibbicoaaGreat
