/- Walks: sectors of bytes: Count, Slice. -/
import Derived.Test.YtcffkmlnbnjibaaGreatOff
import Derived.Test.YtcffkmlnbnjibaaGreatProg
namespace Go.Proofs.YtcffkmlnbnjibaaGreat
open Go.RowKit
/-- How many sectors n bytes have. -/
def cntS (n : Nat) : Nat := (n + 31) / 32
/-- The k-th sector. -/
def secS (s : ByteArray) (k : Nat) : ByteArray := s.extract (32 * k) (32 * k + 32)
theorem pcount_calls (n : Nat) (w : World) (hn : n ≤ 4611686018427387904) : Calls Tryz.prog 113 #[.int .i64 (n : Int)] w fun e w' => e = .returned (.int .i64 (cntS n : Int)) ∧ Ex w w' := by
  by_cases h : n < 1
  · have d1 : decide ((n : Int) < 1) = true := decide_eq_true (by omega)
    have hz : cntS n = 0 := by unfold cntS; omega
    rw [hz]
    go_enter Tryz.func113, Tryz.ntmps113
    go_wp2_with fail
    go_ret
    exact ⟨rfl, Ex.refl _⟩
  · have d1 : decide ((n : Int) < 1) = false := decide_eq_false (by omega)
    by_cases h2 : 0 < n % 32
    · have d2 : decide (0 < (n : Int) % 32) = true := decide_eq_true (by omega)
      have hz : (n : Int) / 32 + 1 = (cntS n : Int) := by unfold cntS; omega
      go_enter Tryz.func113, Tryz.ntmps113
      go_wp2_with fail
      go_ret
      exact ⟨rfl, Ex.refl _⟩
    · have d2 : decide (0 < (n : Int) % 32) = false := decide_eq_false (by omega)
      have hz : (n : Int) / 32 = (cntS n : Int) := by unfold cntS; omega
      go_enter Tryz.func113, Tryz.ntmps113
      go_wp2_with fail
      go_ret
      exact ⟨rfl, Ex.refl _⟩
theorem rpcount_calls (n : Nat) (w : World) (hn : n ≤ 4611686018427387904) : Calls Tryz.prog 145 #[.int .i64 (n : Int)] w fun e w' => e = .returned (.int .i64 (cntS n : Int)) ∧ Ex w w' := by
  by_cases h : n < 1
  · have d1 : decide ((n : Int) < 1) = true := decide_eq_true (by omega)
    have hz : cntS n = 0 := by unfold cntS; omega
    rw [hz]
    go_enter Tryz.func145, Tryz.ntmps145
    go_wp2_with fail
    go_ret
    exact ⟨rfl, Ex.refl _⟩
  · have d1 : decide ((n : Int) < 1) = false := decide_eq_false (by omega)
    have hw : IntKind.i64.wrap ((n : Int) - 1) = (n : Int) - 1 := IntWalk.i64_in _ (by omega)
    have hz : ((n : Int) - 1) / 32 + 1 = (cntS n : Int) := by unfold cntS; omega
    go_enter Tryz.func145, Tryz.ntmps145
    go_wp2_with fail
    go_ret
    exact ⟨rfl, Ex.refl _⟩
theorem sec_none {s : ByteArray} {k : Nat} (h : cntS s.size ≤ k) : secS s k = ⟨#[]⟩ := by
  unfold secS cntS at *
  have : (s.extract (32 * k) (32 * k + 32)).size = 0 := by rw [ByteArray.size_extract]; omega
  cases he : s.extract (32 * k) (32 * k + 32) with
  | mk d =>
    rw [he] at this
    have hd : d.size = 0 := this
    have : d = #[] := Array.eq_empty_of_size_eq_zero hd
    rw [this]
theorem ba_data {a b : ByteArray} (h : a.data = b.data) : a = b := by
  cases a; cases b; cases h; rfl
theorem sec_cut (s : ByteArray) (k : Nat) : (s.extract (32 * k) s.size).extract 0 32 = secS s k := by
  apply ba_data
  unfold secS
  rw [ByteArray.data_extract, ByteArray.data_extract, ByteArray.data_extract, Array.extract_extract]
  show s.data.extract (32 * k + 0) (min (32 * k + 32) s.data.size) = _
  rw [Nat.add_zero]
  apply Array.ext_getElem?
  intro i
  rw [Array.getElem?_extract, Array.getElem?_extract]
  congr 1
  rw [eq_iff_iff]
  omega
theorem sec_rest {s : ByteArray} {k j : Nat} (h : j ≤ 32 * k + 32) (hj : s.size ≤ j ∨ j = 32 * k + 32) : s.extract (32 * k) j = secS s k := by
  apply ba_data
  unfold secS
  rw [ByteArray.data_extract, ByteArray.data_extract]
  have hsz : s.data.size = s.size := rfl
  apply Array.ext_getElem?
  intro i
  rw [Array.getElem?_extract, Array.getElem?_extract]
  congr 1
  rw [eq_iff_iff]
  omega
theorem pslice_calls (s : ByteArray) (k : Nat) (w : World) (hs : s.size ≤ 4611686018427387904) : Calls Tryz.prog 156 #[.string s, .int .i64 (k : Int)] w fun e w' => e = .returned (.string (secS s k)) ∧ Ex w w' := by
  by_cases h : cntS s.size ≤ k
  · have d1 : decide ((cntS s.size : Int) ≤ (k : Int)) = true := decide_eq_true (by omega)
    rw [sec_none h]
    go_enter Tryz.func156, Tryz.ntmps156
    go_wp2_with fail
    refine (pcount_calls s.size _ hs).mono ?_
    rintro e w1 ⟨rfl, hb1⟩
    go_wp2_with fail
    go_ret
    exact ⟨rfl, hb1⟩
  · have d1 : decide ((cntS s.size : Int) ≤ (k : Int)) = false := decide_eq_false (by omega)
    have hk : 32 * k < s.size := by unfold cntS at h; omega
    have hw : IntKind.i64.wrap ((k : Int) * 32) = (k : Int) * 32 := IntWalk.i64_in _ (by omega)
    have hz : ((k : Int) * 32).toNat = 32 * k := by omega
    by_cases h2 : 32 < s.size - 32 * k
    · have d2 : decide (32 < ((s.size - 32 * k : Nat) : Int)) = true := decide_eq_true (by omega)
      go_enter Tryz.func156, Tryz.ntmps156
      go_wp2_with fail
      refine (pcount_calls s.size _ hs).mono ?_
      rintro e w1 ⟨rfl, hb1⟩
      go_wp2_with fail
      go_ret
      exact ⟨congrArg (fun v => Ending.returned (Value.string v)) (sec_cut s k), hb1⟩
    · have d2 : decide (32 < ((s.size - 32 * k : Nat) : Int)) = false := decide_eq_false (by omega)
      go_enter Tryz.func156, Tryz.ntmps156
      go_wp2_with fail
      refine (pcount_calls s.size _ hs).mono ?_
      rintro e w1 ⟨rfl, hb1⟩
      go_wp2_with fail
      go_ret
      exact ⟨congrArg (fun v => Ending.returned (Value.string v)) (sec_rest (j := s.size) (by omega) (.inl (Nat.le_refl _))), hb1⟩
theorem rpslice_calls (s : ByteArray) (k : Nat) (w : World) (hs : s.size ≤ 4611686018427387904) : Calls Tryz.prog 172 #[.string s, .int .i64 (k : Int)] w fun e w' => e = .returned (.string (secS s k)) ∧ Ex w w' := by
  by_cases h : s.size / 32 < k
  · have d1 : decide ((s.size : Int) / 32 < (k : Int)) = true := decide_eq_true (by omega)
    rw [sec_none (by unfold cntS; omega)]
    go_enter Tryz.func172, Tryz.ntmps172
    go_wp2_with fail
    go_ret
    exact ⟨rfl, Ex.refl _⟩
  · have d1 : decide ((s.size : Int) / 32 < (k : Int)) = false := decide_eq_false (by omega)
    have hk : 32 * k ≤ s.size := by omega
    have hw : IntKind.i64.wrap (32 * (k : Int)) = 32 * (k : Int) := IntWalk.i64_in _ (by omega)
    have hw2 : IntKind.i64.wrap (32 * (k : Int) + 32) = 32 * (k : Int) + 32 := IntWalk.i64_in _ (by omega)
    have hz : (32 * (k : Int)).toNat = 32 * k := by omega
    by_cases h2 : 32 * k + 32 < s.size
    · have d2 : decide ((s.size : Int) < 32 * (k : Int) + 32) = false := decide_eq_false (by omega)
      have c2 : ¬ ((s.size : Int) < 32 * (k : Int) + 32) := by omega
      go_enter Tryz.func172, Tryz.ntmps172
      go_wp2_with fail
      go_ret
      exact ⟨rfl, Ex.refl _⟩
    · have d2 : decide ((s.size : Int) < 32 * (k : Int) + 32) = true ∨ s.size = 32 * k + 32 := by
        by_cases h3 : s.size = 32 * k + 32
        · exact .inr h3
        · exact .inl (decide_eq_true (by omega))
      rcases d2 with d2 | h3
      · have c2 : (s.size : Int) < 32 * (k : Int) + 32 := of_decide_eq_true d2
        go_enter Tryz.func172, Tryz.ntmps172
        go_wp2_with fail
        go_ret
        exact ⟨congrArg (fun v => Ending.returned (Value.string v)) (sec_rest (j := s.size) (by omega) (.inl (Nat.le_refl _))), Ex.refl _⟩
      · have c2 : ¬ ((s.size : Int) < 32 * (k : Int) + 32) := by omega
        go_enter Tryz.func172, Tryz.ntmps172
        go_wp2_with fail
        go_ret
        exact ⟨rfl, Ex.refl _⟩
end Go.Proofs.YtcffkmlnbnjibaaGreat
