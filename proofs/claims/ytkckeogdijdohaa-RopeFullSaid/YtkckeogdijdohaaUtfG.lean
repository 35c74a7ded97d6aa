/- Walks: the program's Bad and Valid. -/
import Derived.Test.YtkckeogdijdohaaUtfF
namespace Go.Proofs.Ytkckeogdijdohaa
open Go.RowKit
theorem get_byteAt (s : ByteArray) (i : Nat) : (s.get! i).toNat = byteAt s i := by
  unfold byteAt
  split
  · next h =>
    have := get_at s i h
    rw [Nat.add_zero] at this
    rw [this]
  · next h =>
    show (s.data[i]!).toNat = 0
    rw [getElem!_neg s.data i (by show ¬ i < s.data.size; exact h)]
    rfl
theorem take_shape (r b0 b1 b2 b3 : Nat) (_ : b0 < 256) (_ : b1 < 256) (_ : b2 < 256) (_ : b3 < 256) : (takeB r b0 b1 b2 b3).2 = 0 ∧ (takeB r b0 b1 b2 b3).1 = 0 ∨ 1 ≤ (takeB r b0 b1 b2 b3).2 := by
  unfold takeB
  repeat' split
  all_goals first | exact .inl ⟨rfl, rfl⟩ | exact .inr (by simp only []; omega)
theorem dec_and (x y : Nat) (p : Prop) [Decidable p] (a b : Nat) : (x == a && (decide p && y == b)) = decide (x = a ∧ p ∧ y = b) := by
  rw [Bool.eq_iff_iff]; simp
theorem dec_and2 (x y z : Nat) (p q : Prop) [Decidable p] [Decidable q] (a b c : Nat) : (x == a && (decide p && y == b) && (decide q && z == c)) = decide ((x = a ∧ p ∧ y = b) ∧ q ∧ z = c) := by
  rw [Bool.eq_iff_iff]; simp
theorem dec_and3 (x y z u : Nat) (p q r : Prop) [Decidable p] [Decidable q] [Decidable r] (a b c d : Nat) : (x == a && (decide p && y == b) && (decide q && z == c) && (decide r && u == d)) = decide (((x = a ∧ p ∧ y = b) ∧ q ∧ z = c) ∧ r ∧ u = d) := by
  rw [Bool.eq_iff_iff]; simp
theorem dec_valid (m c : Nat) : (decide (c ≥ m) && Utf8.valid (c : Int)) = decide (m ≤ c ∧ ¬ (55296 ≤ c ∧ c ≤ 57343) ∧ c ≤ 1114111) := by
  unfold Utf8.valid
  rw [Bool.eq_iff_iff]
  simp only [Bool.and_eq_true, Bool.or_eq_true, decide_eq_true_eq]
  omega
theorem decode_take {s : ByteArray} {p : Nat} (h : p < s.size) : Utf8.decode s p = if (takeU s p).2 = 0 then (65533, 1) else ((takeU s p).1.toNat, (takeU s p).2) := by
  unfold Utf8.decode takeU
  simp only [get_byteAt, Nat.add_zero, Utf8.runeError]
  have b0 := byteAt_lt s p
  have b1 := byteAt_lt s (p + 1)
  have b2 := byteAt_lt s (p + 2)
  have b3 := byteAt_lt s (p + 3)
  generalize byteAt s p = c0 at *
  generalize byteAt s (p + 1) = c1 at *
  generalize byteAt s (p + 2) = c2 at *
  generalize byteAt s (p + 3) = c3 at *
  rw [dec_and, dec_and2, dec_and3, dec_valid 2048, dec_valid 65536]
  simp only [decide_eq_true_eq]
  generalize hT : takeB (s.size - p) c0 c1 c2 c3 = T
  unfold takeB at hT
  rw [if_neg (by omega)] at hT
  by_cases hA : c0 < 128
  · rw [if_pos hA] at hT
    subst hT
    rw [if_pos hA, if_neg (by simp)]; rfl
  rw [if_neg hA] at hT ⊢
  by_cases hB : c0 / 32 = 6 ∧ p + 1 < s.size ∧ c1 / 64 = 2
  · rw [if_pos hB]
    by_cases hC : 194 ≤ c0
    · rw [if_pos (by omega)] at hT
      subst hT
      rw [if_pos (by omega), if_neg (by simp)]
      exact Prod.ext (by simp only []; omega) rfl
    · rw [if_neg (by omega), if_neg (by omega), if_neg (by omega)] at hT
      subst hT
      rw [if_neg (by omega), if_pos rfl]
  rw [if_neg hB]
  rw [if_neg (by omega)] at hT
  by_cases hD : (c0 / 16 = 14 ∧ p + 1 < s.size ∧ c1 / 64 = 2) ∧ p + 2 < s.size ∧ c2 / 64 = 2
  · rw [if_pos hD]
    by_cases hC : (c0 = 224 → 160 ≤ c1) ∧ (c0 = 237 → c1 < 160)
    · rw [if_pos (by omega)] at hT
      subst hT
      rw [if_pos (by omega), if_neg (by simp)]
      exact Prod.ext (by simp only []; omega) rfl
    · rw [if_neg (by omega), if_neg (by omega)] at hT
      subst hT
      rw [if_neg (by omega), if_pos rfl]
  rw [if_neg hD]
  rw [if_neg (by omega)] at hT
  by_cases hE : ((c0 / 8 = 30 ∧ p + 1 < s.size ∧ c1 / 64 = 2) ∧ p + 2 < s.size ∧ c2 / 64 = 2) ∧ p + 3 < s.size ∧ c3 / 64 = 2
  · rw [if_pos hE]
    by_cases hC : c0 ≤ 244 ∧ (c0 = 240 → 144 ≤ c1) ∧ (c0 = 244 → c1 < 144)
    · rw [if_pos (by omega)] at hT
      subst hT
      rw [if_pos (by omega), if_neg (by simp)]
      exact Prod.ext (by simp only []; omega) rfl
    · rw [if_neg (by omega)] at hT
      subst hT
      rw [if_neg (by omega), if_pos rfl]
  rw [if_neg (by omega)] at hT
  subst hT
  rw [if_neg hE, if_pos rfl]
set_option maxRecDepth 100000 in
set_option maxHeartbeats 1000000 in
theorem bad_calls (s : ByteArray) (w : World) (hs : s.size ≤ 9223372036854775000) : Calls Try.prog 80 #[.string s] w fun e w' => e = .returned (.int .i64 (badU s)) ∧ Ex w w' := by
  go_enter Try.func80, Try.ntmps80
  go_wp2
  go_loopw [3, 4, 5, 6] (fun _ _ _ _ wr => ∃ a k : Nat, a ≤ s.size ∧ s.size < a + k ∧ badU s = badF k s a ∧ wr = w.iter s a) (fun _ _ _ _ wr => s.size - wr.iterPos w.heap.size)
  case atStart => exact ⟨0, s.size + 1, by omega, by omega, rfl, rfl⟩
  case round =>
    obtain ⟨a, k, ha, hk, hf, rfl⟩ := hrel
    obtain ⟨k, rfl⟩ : ∃ k', k = k' + 1 := ⟨k - 1, by omega⟩
    have hX : Ex w (w.iter s a) := ex_alloc (Ex.refl _) _
    have HX := Lib.hid hX
    clear hX
    by_cases hp : a < s.size
    · have hl := take_le s a
      have hd := decode_take hp
      have hz : takeZ s (a : Int) = takeU s a := by unfold takeZ; rw [if_neg (by omega)]; rfl
      have hnx : ∀ ty, (Instr.next (.pointer (some ⟨w.heap.size, 0, none⟩)) true ty).run Try.prog (w.iter s a) = _ := fun ty => run_next_any w s a ty hp
      by_cases h0 : (takeU s a).2 = 0
      · have HF := Lib.hid (show badU s = a from by rw [hf]; unfold badF; rw [if_neg (by omega), if_pos h0])
        have HT := Lib.hid (show (takeZ s (a : Int)).2 = 0 from by rw [hz]; exact h0)
        rw [if_pos h0] at hd
        rw [hd] at hnx
        have HX2 := Lib.hid (show Ex w (w.iter s (a + 1)) from ex_alloc (Ex.refl _) _)
        clear hd h0 hf hz
        go_wp2_with fail
        refine (take_calls _ _ _ hs).mono ?_
        rintro e w1 ⟨rfl, rfl⟩
        rw [HT.out]
        go_wp2
        go_ret
        exact ⟨ret_int HF.out.symm, HX2.out⟩
      · have HF := Lib.hid (show badU s = badF k s (a + (takeU s a).2) from by rw [hf, badF_go hp h0])
        rw [if_neg h0] at hd
        rw [hd] at hnx
        obtain ⟨n, hn⟩ : ∃ n, n = (takeU s a).2 := ⟨_, rfl⟩
        obtain ⟨c, hc⟩ : ∃ c, c = (takeU s a).1 := ⟨_, rfl⟩
        have HT := Lib.hid (show (takeZ s (a : Int)).2 = n from by rw [hz]; exact hn.symm)
        rw [← hn, ← hc] at hnx
        rw [← hn] at HF hl h0
        rw [← hc] at hl
        have e0 : ((n : Int) == 0) = false := by rw [beq_eq_false_iff_ne]; omega
        clear hd hf hz hn hc
        by_cases h3 : c = 65533
        · subst h3
          go_wp2_with fail
          refine (take_calls _ _ _ hs).mono ?_
          rintro e w1 ⟨rfl, rfl⟩
          rw [HT.out]
          go_wp2
          go_roundw
          case rel => exact ⟨a + n, k, by omega, by omega, HF.out, rfl⟩
          case measure => simp; omega
        · have e1 : ((c.toNat : Int) == 65533) = false := by rw [beq_eq_false_iff_ne]; omega
          go_wp2
          go_roundw
          case rel => exact ⟨a + n, k, by omega, by omega, HF.out, rfl⟩
          case measure => simp; omega
    · have HF := Lib.hid (show badU s = -1 from by rw [hf]; unfold badF; rw [if_pos (by omega)])
      clear hf
      have hnx : ∀ ty, (Instr.next (.pointer (some ⟨w.heap.size, 0, none⟩)) true ty).run Try.prog (w.iter s a) = _ := fun ty => run_next_end w s a ty hp
      go_wp2
      go_ret
      exact ⟨ret_int HF.out.symm, HX.out⟩
set_option maxHeartbeats 400000 in
theorem valid_calls (s : ByteArray) (w : World) (hs : s.size ≤ 9223372036854775000) : Calls Try.prog 51 #[.string s] w fun e w' => e = .returned (.bool (validU s)) ∧ Ex w w' := by
  go_enter Try.func51, Try.ntmps51
  go_wp2_with fail
  refine (bad_calls _ _ hs).mono ?_
  rintro e w1 ⟨rfl, hb1⟩
  go_wp2
  go_ret
  exact ⟨ret_bool rfl, hb1⟩
end Go.Proofs.Ytkckeogdijdohaa
