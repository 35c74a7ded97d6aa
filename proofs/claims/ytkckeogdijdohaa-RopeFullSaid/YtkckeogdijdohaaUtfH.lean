/- Walks: Back, Runes and Lines: the program's; Back: the document's too. -/
import Derived.Test.YtkckeogdijdohaaUtfG
namespace Go.Proofs.Ytkckeogdijdohaa
open Go.RowKit
/-- The greatest edge up to a place. -/
def backF (s : ByteArray) : Nat → Nat
  | 0 => 0
  | k + 1 => if edge s ((k + 1 : Nat) : Int) then k + 1 else backF s k
def backU (s : ByteArray) (a : Int) : Nat := if (s.size : Int) ≤ a then s.size else backF s a.toNat
theorem edge0 (s : ByteArray) : edge s 0 = true := edge_end (.inl rfl)
theorem backF_le (s : ByteArray) : ∀ k, backF s k ≤ k
  | 0 => Nat.le_refl _
  | k + 1 => by
    unfold backF
    split
    · exact Nat.le_refl _
    · have := backF_le s k; omega
theorem backF_edge (s : ByteArray) : ∀ k, edge s (backF s k : Nat) = true
  | 0 => edge0 s
  | k + 1 => by
    unfold backF
    split
    · assumption
    · exact backF_edge s k
theorem backF_at {s : ByteArray} : ∀ {k : Nat}, edge s (k : Int) = true → backF s k = k
  | 0, _ => rfl
  | k + 1, h => by unfold backF; rw [if_pos h]
theorem backF_not {s : ByteArray} {k : Nat} (h0 : 0 < k) (h : edge s (k : Int) = false) : backF s k = backF s (k - 1) := by
  obtain ⟨k, rfl⟩ : ∃ j, k = j + 1 := ⟨k - 1, by omega⟩
  show (if edge s ((k + 1 : Nat) : Int) then k + 1 else backF s k) = _
  rw [h]; rfl
theorem backU_le (s : ByteArray) (a : Int) : backU s a ≤ s.size := by
  unfold backU
  split
  · exact Nat.le_refl _
  · have := backF_le s a.toNat; omega
set_option maxHeartbeats 400000 in
theorem back_calls (s : ByteArray) (a : Int) (w : World) (hs : s.size ≤ 9223372036854775000) : Calls Try.prog 61 #[.string s, .int .i64 a] w fun e w' => e = .returned (.int .i64 (backU s a)) ∧ w' = w := by
  by_cases h1 : (s.size : Int) ≤ a
  · have H := Lib.hid (show backU s a = s.size from if_pos h1)
    go_enter Try.func61, Try.ntmps61
    go_wp2
    go_ret
    exact ⟨ret_int (by rw [H.out]), rfl⟩
  · have H := Lib.hid (show backU s a = backF s a.toNat from if_neg h1)
    by_cases h2 : a ≤ 0
    · have H2 := Lib.hid (show backF s a.toNat = 0 from by rw [show a.toNat = 0 by omega]; rfl)
      go_enter Try.func61, Try.ntmps61
      go_wp2
      go_loop [1] (fun v1 => v1 = .int .i64 a) (fun _ => 0)
      case atStart => rfl
      case round =>
        subst hrel
        go_wp2
        all_goals go_ret
        all_goals exact ⟨ret_int (by rw [H.out, H2.out]; omega), rfl⟩
    · obtain ⟨p, rfl⟩ := Int.eq_ofNat_of_zero_le (show 0 ≤ a by omega)
      go_enter Try.func61, Try.ntmps61
      go_wp2
      go_loop [1] (fun v1 => ∃ k : Nat, k ≤ p ∧ v1 = .int .i64 (k : Int) ∧ backF s p = backF s k) (fun v1 => (intOf v1).toNat)
      case atStart => exact ⟨p, Nat.le_refl _, rfl, rfl⟩
      case round =>
        obtain ⟨k, hk, rfl, hr⟩ := hrel
        have HR := Lib.hid hr
        clear hr
        by_cases h0 : 0 < k
        · go_wp2_with fail
          refine (edge_calls _ _ _).mono ?_
          rintro e w1 ⟨rfl, rfl⟩
          cases he : edge s (k : Int)
          · have HB := Lib.hid (backF_not h0 he)
            clear he
            go_wp2
            exact ⟨⟨k - 1, by omega, by rw [show ((k - 1 : Nat) : Int) = (k : Int) - 1 by omega], by rw [HR.out, HB.out]⟩, by simp [intOf]; omega⟩
          · have HB := Lib.hid (backF_at he)
            clear he
            go_wp2
            go_ret
            exact ⟨ret_int (by rw [H.out, Int.toNat_natCast, HR.out, HB.out]), rfl⟩
        · have hk0 : k = 0 := by omega
          subst hk0
          go_wp2
          go_ret
          exact ⟨ret_int (by rw [H.out, Int.toNat_natCast, HR.out]; rfl), rfl⟩
set_option maxHeartbeats 400000 in
theorem refBack_calls (s : ByteArray) (a : Int) (w : World) (hs : s.size ≤ 9223372036854775000) : Calls Try.prog 17 #[.string s, .int .i64 a] w fun e w' => e = .returned (.int .i64 (backU s a)) ∧ Ex w w' := by
  go_enter Try.func17, Try.ntmps17
  go_wp2
  go_loopw [5, 6] (fun v5 v6 wr => ∃ k : Nat, k ≤ s.size + 1 ∧ (k : Int) ≤ max a (-1) + 1 ∧ v6 = .int .i64 (k : Int) ∧ v5 = .int .i64 (backF s (k - 1) : Nat) ∧ Ex w wr) (fun _ v6 _ => s.size + 1 - (intOf v6).toNat)
  case atStart => exact ⟨0, by omega, by omega, rfl, rfl, Ex.refl _⟩
  case round =>
    obtain ⟨k, hk, hka, rfl, rfl, hb⟩ := hrel
    by_cases hin : k ≤ s.size ∧ (k : Int) ≤ a
    · obtain ⟨h1, h2⟩ := hin
      go_wp2_with fail
      refine (refEdge_calls _ _ _).mono ?_
      rintro e w1 ⟨rfl, rfl⟩
      cases he : edge s (k : Int)
      · have hk0 : 0 < k := by
          rcases Nat.eq_zero_or_pos k with h | h
          · subst h; rw [show ((0 : Nat) : Int) = 0 from rfl, edge0] at he; cases he
          · exact h
        have HB := Lib.hid (backF_not hk0 he)
        clear he
        go_wp2
        go_roundw
        case rel => exact ⟨k + 1, by omega, by omega, by go_num, by rw [Nat.add_sub_cancel, HB.out], hb⟩
        case measure => simp [intOf]; omega
      · have HB := Lib.hid (backF_at he)
        clear he
        go_wp2
        go_roundw
        case rel => exact ⟨k + 1, by omega, by omega, by go_num, by rw [Nat.add_sub_cancel, HB.out], hb⟩
        case measure => simp [intOf]; omega
    · have HF := Lib.hid (show backU s a = backF s (k - 1) from by
        unfold backU
        split
        · have : k - 1 = s.size := by omega
          rw [this]
          exact (backF_at (edge_end (.inr rfl))).symm
        · congr 1; omega)
      go_wp2
      all_goals go_ret
      all_goals exact ⟨ret_int (by rw [HF.out]), hb⟩
end Go.Proofs.Ytkckeogdijdohaa
