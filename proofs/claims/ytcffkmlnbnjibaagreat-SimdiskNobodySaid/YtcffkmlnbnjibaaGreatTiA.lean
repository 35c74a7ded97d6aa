/- Walks: names of files. -/
import Derived.Test.YtcffkmlnbnjibaaGreatPcB
namespace Go.Proofs.YtcffkmlnbnjibaaGreat
open Go.RowKit
/-- A small letter or a digit. -/
def smallB (b : Nat) : Bool := decide (97 ≤ b ∧ b ≤ 122) || decide (48 ≤ b ∧ b ≤ 57)
theorem plain_calls (b : Nat) (w : World) (hb : b < 256) : Calls Tryz.prog 108 #[.int .u8 (b : Int)] w fun e w' => e = .returned (.bool (smallB b)) ∧ Ex w w' := by
  by_cases h1 : 97 ≤ b
  · have d1 : decide ((97 : Int) ≤ (b : Int)) = true := decide_eq_true (by omega)
    by_cases h2 : b ≤ 122
    · have d2 : decide ((b : Int) ≤ 122) = true := decide_eq_true (by omega)
      have hs : smallB b = true := by unfold smallB; simp; omega
      rw [hs]
      go_enter Tryz.func108, Tryz.ntmps108
      go_wp2_with fail
      go_ret
      exact ⟨rfl, Ex.refl _⟩
    · have d2 : decide ((b : Int) ≤ 122) = false := decide_eq_false (by omega)
      have d3 : decide ((48 : Int) ≤ (b : Int)) = true := decide_eq_true (by omega)
      have d4 : decide ((b : Int) ≤ 57) = false := decide_eq_false (by omega)
      have hs : smallB b = false := by unfold smallB; simp; omega
      rw [hs]
      go_enter Tryz.func108, Tryz.ntmps108
      go_wp2_with fail
      go_ret
      exact ⟨rfl, Ex.refl _⟩
  · have d1 : decide ((97 : Int) ≤ (b : Int)) = false := decide_eq_false (by omega)
    by_cases h2 : 48 ≤ b
    · have d3 : decide ((48 : Int) ≤ (b : Int)) = true := decide_eq_true (by omega)
      by_cases h3 : b ≤ 57
      · have d4 : decide ((b : Int) ≤ 57) = true := decide_eq_true (by omega)
        have hs : smallB b = true := by unfold smallB; simp; omega
        rw [hs]
        go_enter Tryz.func108, Tryz.ntmps108
        go_wp2_with fail
        go_ret
        exact ⟨rfl, Ex.refl _⟩
      · have d4 : decide ((b : Int) ≤ 57) = false := decide_eq_false (by omega)
        have hs : smallB b = false := by unfold smallB; simp; omega
        rw [hs]
        go_enter Tryz.func108, Tryz.ntmps108
        go_wp2_with fail
        go_ret
        exact ⟨rfl, Ex.refl _⟩
    · have d3 : decide ((48 : Int) ≤ (b : Int)) = false := decide_eq_false (by omega)
      have hs : smallB b = false := by unfold smallB; simp; omega
      rw [hs]
      go_enter Tryz.func108, Tryz.ntmps108
      go_wp2_with fail
      go_ret
      exact ⟨rfl, Ex.refl _⟩
theorem small_calls (b : Nat) (w : World) (hb : b < 256) : Calls Tryz.prog 125 #[.int .u8 (b : Int)] w fun e w' => e = .returned (.bool (smallB b)) ∧ Ex w w' := by
  by_cases h1 : 97 ≤ b
  · have d1 : decide ((97 : Int) ≤ (b : Int)) = true := decide_eq_true (by omega)
    by_cases h2 : b ≤ 122
    · have d2 : decide ((b : Int) ≤ 122) = true := decide_eq_true (by omega)
      have hs : smallB b = true := by unfold smallB; simp; omega
      rw [hs]
      go_enter Tryz.func125, Tryz.ntmps125
      go_wp2_with fail
      go_ret
      exact ⟨rfl, Ex.refl _⟩
    · have d2 : decide ((b : Int) ≤ 122) = false := decide_eq_false (by omega)
      have d3 : decide ((48 : Int) ≤ (b : Int)) = true := decide_eq_true (by omega)
      have d4 : decide ((b : Int) ≤ 57) = false := decide_eq_false (by omega)
      have hs : smallB b = false := by unfold smallB; simp; omega
      rw [hs]
      go_enter Tryz.func125, Tryz.ntmps125
      go_wp2_with fail
      go_ret
      exact ⟨rfl, Ex.refl _⟩
  · have d1 : decide ((97 : Int) ≤ (b : Int)) = false := decide_eq_false (by omega)
    by_cases h2 : 48 ≤ b
    · have d3 : decide ((48 : Int) ≤ (b : Int)) = true := decide_eq_true (by omega)
      by_cases h3 : b ≤ 57
      · have d4 : decide ((b : Int) ≤ 57) = true := decide_eq_true (by omega)
        have hs : smallB b = true := by unfold smallB; simp; omega
        rw [hs]
        go_enter Tryz.func125, Tryz.ntmps125
        go_wp2_with fail
        go_ret
        exact ⟨rfl, Ex.refl _⟩
      · have d4 : decide ((b : Int) ≤ 57) = false := decide_eq_false (by omega)
        have hs : smallB b = false := by unfold smallB; simp; omega
        rw [hs]
        go_enter Tryz.func125, Tryz.ntmps125
        go_wp2_with fail
        go_ret
        exact ⟨rfl, Ex.refl _⟩
    · have d3 : decide ((48 : Int) ≤ (b : Int)) = false := decide_eq_false (by omega)
      have hs : smallB b = false := by unfold smallB; simp; omega
      rw [hs]
      go_enter Tryz.func125, Tryz.ntmps125
      go_wp2_with fail
      go_ret
      exact ⟨rfl, Ex.refl _⟩
end Go.Proofs.YtcffkmlnbnjibaaGreat
