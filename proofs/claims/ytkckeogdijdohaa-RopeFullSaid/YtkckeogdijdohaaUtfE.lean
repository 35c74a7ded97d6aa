/- Walks: the program's Take. -/
import Derived.Test.YtkckeogdijdohaaUtfD
import Derived.Laws.BitsLemmas
import Derived.Laws.RangeAny
namespace Go.Proofs.Ytkckeogdijdohaa
open Go.RowKit
/-- How many bytes a rune that begins so has, and its first bits. -/
def begL (b : Nat) : Nat := if b < 128 then 1 else if b < 192 then 0 else if b < 224 then 2 else if b < 240 then 3 else if b < 248 then 4 else 0
def begC (b : Nat) : Nat := if b < 128 then b else if b < 192 then 0 else if b < 224 then b - 192 else if b < 240 then b - 224 else if b < 248 then b - 240 else 0
theorem not_192 : ∀ n : Nat, n < 256 → 192 ≤ n → n < 224 → bits BinOp.andNot .u8 (n : Int) 192 = ((n - 192 : Nat) : Int) := by decide +kernel
theorem not_224 : ∀ n : Nat, n < 256 → 224 ≤ n → n < 240 → bits BinOp.andNot .u8 (n : Int) 224 = ((n - 224 : Nat) : Int) := by decide +kernel
theorem not_240 : ∀ n : Nat, n < 256 → 240 ≤ n → n < 248 → bits BinOp.andNot .u8 (n : Int) 240 = ((n - 240 : Nat) : Int) := by decide +kernel
theorem and_63 : ∀ n : Nat, n < 256 → bits BinOp.and .u8 (n : Int) 63 = ((n % 64 : Nat) : Int) := by decide +kernel
theorem begC_le (b : Nat) : begC b ≤ 127 := by unfold begC; repeat' split
                                               all_goals omega
theorem begL_le (b : Nat) : begL b ≤ 4 := by unfold begL; repeat' split
                                             all_goals omega
set_option maxRecDepth 100000 in
set_option maxHeartbeats 400000 in
theorem begins_calls (b : Nat) (w : World) (hb : b < 256) : Calls Try.prog 102 #[.int .u8 (b : Int)] w fun e w' => e = .returned (.tuple #[.int .i64 (begL b : Nat), .int .i32 (begC b : Nat)]) ∧ w' = w := by
  by_cases h1 : b < 128
  · have HL := Lib.hid (show begL b = 1 from by unfold begL; rw [if_pos h1])
    have HC := Lib.hid (show begC b = b from by unfold begC; rw [if_pos h1])
    go_enter Try.func102, Try.ntmps102
    go_wp2
    go_ret2
    exact ⟨by rw [HL.out, HC.out]; rfl, rfl⟩
  · by_cases h2 : b < 192
    · have HL := Lib.hid (show begL b = 0 from by unfold begL; rw [if_neg h1, if_pos h2])
      have HC := Lib.hid (show begC b = 0 from by unfold begC; rw [if_neg h1, if_pos h2])
      go_enter Try.func102, Try.ntmps102
      go_wp2
      go_ret2
      exact ⟨by rw [HL.out, HC.out]; rfl, rfl⟩
    · by_cases h3 : b < 224
      · have HL := Lib.hid (show begL b = 2 from by unfold begL; rw [if_neg h1, if_neg h2, if_pos h3])
        have HC := Lib.hid (show begC b = b - 192 from by unfold begC; rw [if_neg h1, if_neg h2, if_pos h3])
        have HB := Lib.hid (not_192 b hb (by omega) h3)
        have e1 : wrap32 ((b - 192 : Nat) : Int) = ((b - 192 : Nat) : Int) := by unfold wrap32; omega
        go_enter Try.func102, Try.ntmps102
        go_wp2
        go_ret2
        rw [HB.out]
        exact ⟨by rw [HL.out, HC.out, e1]; rfl, rfl⟩
      · by_cases h4 : b < 240
        · have HL := Lib.hid (show begL b = 3 from by unfold begL; rw [if_neg h1, if_neg h2, if_neg h3, if_pos h4])
          have HC := Lib.hid (show begC b = b - 224 from by unfold begC; rw [if_neg h1, if_neg h2, if_neg h3, if_pos h4])
          have HB := Lib.hid (not_224 b hb (by omega) h4)
          have e1 : wrap32 ((b - 224 : Nat) : Int) = ((b - 224 : Nat) : Int) := by unfold wrap32; omega
          go_enter Try.func102, Try.ntmps102
          go_wp2
          go_ret2
          rw [HB.out]
          exact ⟨by rw [HL.out, HC.out, e1]; rfl, rfl⟩
        · by_cases h5 : b < 248
          · have HL := Lib.hid (show begL b = 4 from by unfold begL; rw [if_neg h1, if_neg h2, if_neg h3, if_neg h4, if_pos h5])
            have HC := Lib.hid (show begC b = b - 240 from by unfold begC; rw [if_neg h1, if_neg h2, if_neg h3, if_neg h4, if_pos h5])
            have HB := Lib.hid (not_240 b hb (by omega) h5)
            have e1 : wrap32 ((b - 240 : Nat) : Int) = ((b - 240 : Nat) : Int) := by unfold wrap32; omega
            go_enter Try.func102, Try.ntmps102
            go_wp2
            go_ret2
            rw [HB.out]
            exact ⟨by rw [HL.out, HC.out, e1]; rfl, rfl⟩
          · have HL := Lib.hid (show begL b = 0 from by unfold begL; rw [if_neg h1, if_neg h2, if_neg h3, if_neg h4, if_neg h5])
            have HC := Lib.hid (show begC b = 0 from by unfold begC; rw [if_neg h1, if_neg h2, if_neg h3, if_neg h4, if_neg h5])
            go_enter Try.func102, Try.ntmps102
            go_wp2
            go_ret2
            exact ⟨by rw [HL.out, HC.out]; rfl, rfl⟩
set_option maxRecDepth 100000 in
set_option maxHeartbeats 400000 in
theorem isRune_calls (c : Int) (w : World) (hc : -2147483648 ≤ c ∧ c ≤ 2147483647) : Calls Try.prog 103 #[.int .i32 c] w fun e w' => e = .returned (.bool (okR c)) ∧ w' = w := by
  by_cases h1 : 0 ≤ c
  · by_cases h2 : c ≤ 1114111
    · by_cases h3 : c < 55296
      · have H := Lib.hid (show okR c = true from decide_eq_true ⟨h1, h2, by omega⟩)
        go_enter Try.func103, Try.ntmps103
        go_wp2
        all_goals go_ret
        all_goals exact ⟨ret_bool (by rw [H.out]; first | done | simp), rfl⟩
      · have H := Lib.hid (show okR c = decide (57343 < c) from decide_eq_decide.2 (by omega))
        go_enter Try.func103, Try.ntmps103
        go_wp2
        all_goals go_ret
        all_goals exact ⟨ret_bool (by rw [H.out]), rfl⟩
    · have H := Lib.hid (show okR c = false from decide_eq_false (by omega))
      go_enter Try.func103, Try.ntmps103
      go_wp2
      all_goals go_ret
      all_goals exact ⟨ret_bool (by rw [H.out]), rfl⟩
  · have H := Lib.hid (show okR c = false from decide_eq_false (by omega))
    go_enter Try.func103, Try.ntmps103
    go_wp2
    all_goals go_ret
    all_goals exact ⟨ret_bool (by rw [H.out]), rfl⟩
set_option maxRecDepth 100000 in
set_option maxHeartbeats 400000 in
theorem width_calls (c : Int) (w : World) : Calls Try.prog 104 #[.int .i32 c] w fun e w' => e = .returned (.int .i64 (octR c)) ∧ w' = w := by
  by_cases h1 : c < 128
  · have H := Lib.hid (show octR c = 1 from by unfold octR; rw [if_pos h1])
    go_enter Try.func104, Try.ntmps104
    go_wp2
    go_ret
    exact ⟨ret_int H.out.symm, rfl⟩
  · by_cases h2 : c < 2048
    · have H := Lib.hid (show octR c = 2 from by unfold octR; rw [if_neg h1, if_pos h2])
      go_enter Try.func104, Try.ntmps104
      go_wp2
      go_ret
      exact ⟨ret_int H.out.symm, rfl⟩
    · by_cases h3 : c < 65536
      · have H := Lib.hid (show octR c = 3 from by unfold octR; rw [if_neg h1, if_neg h2, if_pos h3])
        go_enter Try.func104, Try.ntmps104
        go_wp2
        go_ret
        exact ⟨ret_int H.out.symm, rfl⟩
      · have H := Lib.hid (show octR c = 4 from by unfold octR; rw [if_neg h1, if_neg h2, if_neg h3])
        go_enter Try.func104, Try.ntmps104
        go_wp2
        go_ret
        exact ⟨ret_int H.out.symm, rfl⟩
/-- A rune's bits up to its k-th byte. -/
def bitsU (b0 b1 b2 b3 : Nat) : Nat → Nat
  | 0 => 0
  | 1 => begC b0
  | 2 => 64 * begC b0 + b1 % 64
  | 3 => 64 * (64 * begC b0 + b1 % 64) + b2 % 64
  | _ + 4 => 64 * (64 * (64 * begC b0 + b1 % 64) + b2 % 64) + b3 % 64
def cU (s : ByteArray) (a k : Nat) : Nat := bitsU (byteAt s a) (byteAt s (a + 1)) (byteAt s (a + 2)) (byteAt s (a + 3)) k
theorem cU_one (s : ByteArray) (a : Nat) : cU s a 1 = begC (byteAt s a) := rfl
theorem cU_next (s : ByteArray) (a k : Nat) (h1 : 1 ≤ k) (h3 : k ≤ 3) : cU s a (k + 1) = 64 * cU s a k + byteAt s (a + k) % 64 := by
  have : k = 1 ∨ k = 2 ∨ k = 3 := by omega
  rcases this with rfl | rfl | rfl <;> rfl
theorem cU_le (s : ByteArray) (a k : Nat) (hk : k < begL (byteAt s a)) : cU s a k ≤ 32767 := by
  have hb := byteAt_lt s a
  unfold cU bitsU begC
  generalize byteAt s a = b0 at *
  unfold begL at hk
  repeat' split at hk
  all_goals (repeat' split)
  all_goals omega
theorem cU_le' (s : ByteArray) (a k : Nat) (hk : k ≤ begL (byteAt s a)) : cU s a k ≤ 2097151 := by
  have hb := byteAt_lt s a
  unfold cU bitsU begC
  generalize byteAt s a = b0 at *
  unfold begL at hk
  repeat' split at hk
  all_goals (repeat' split)
  all_goals omega
theorem onB_iff {b : Nat} : onB b = true ↔ 128 ≤ b ∧ b ≤ 191 := by unfold onB; exact decide_eq_true_iff
theorem onB_not {b : Nat} : onB b = false ↔ ¬ (128 ≤ b ∧ b ≤ 191) := by unfold onB; exact decide_eq_false_iff_not
/-- What Take says, once a rune's bytes are read. -/
theorem take_none {s : ByteArray} {a : Nat} (h : begL (byteAt s a) = 0 ∨ s.size - a < begL (byteAt s a)) : takeU s a = (0, 0) := by
  have hb := byteAt_lt s a
  unfold takeU takeB
  unfold begL at h
  repeat' split
  all_goals first | rfl | skip
  all_goals exfalso
  all_goals (repeat' split at h)
  all_goals omega
theorem take_off {s : ByteArray} {a k : Nat} (h1 : 1 ≤ k) (hk : k < begL (byteAt s a)) (h : onB (byteAt s (a + k)) = false) : takeU s a = (0, 0) := by
  have hb := byteAt_lt s a
  rw [onB_not] at h
  have hk4 := begL_le (byteAt s a)
  have : k = 1 ∨ k = 2 ∨ k = 3 := by omega
  unfold takeU takeB
  unfold begL at hk
  repeat' split
  all_goals first | rfl | skip
  all_goals exfalso
  all_goals (repeat' split at hk)
  all_goals first | omega | (rcases this with rfl | rfl | rfl <;> omega)
theorem okR_iff {c : Int} : okR c = true ↔ 0 ≤ c ∧ c ≤ 1114111 ∧ ¬ (55296 ≤ c ∧ c ≤ 57343) := by unfold okR; exact decide_eq_true_iff
theorem octR_one {c : Int} : octR c = 1 ↔ c < 128 := by unfold octR; repeat' split
                                                        all_goals omega
theorem octR_two {c : Int} : octR c = 2 ↔ 128 ≤ c ∧ c < 2048 := by unfold octR; repeat' split
                                                                   all_goals omega
theorem octR_three {c : Int} : octR c = 3 ↔ 2048 ≤ c ∧ c < 65536 := by unfold octR; repeat' split
                                                                       all_goals omega
theorem octR_four {c : Int} : octR c = 4 ↔ 65536 ≤ c := by unfold octR; repeat' split
                                                           all_goals omega
theorem take_all {s : ByteArray} {a : Nat} (h0 : begL (byteAt s a) ≠ 0) (hr : begL (byteAt s a) ≤ s.size - a) (h : ∀ j, 1 ≤ j → j < begL (byteAt s a) → onB (byteAt s (a + j)) = true) :
    takeU s a = if okR (cU s a (begL (byteAt s a))) = true ∧ octR (cU s a (begL (byteAt s a))) = begL (byteAt s a) then ((cU s a (begL (byteAt s a)) : Int), begL (byteAt s a)) else (0, 0) := by
  have hb := byteAt_lt s a
  have h1 := h 1 (Nat.le_refl _)
  have h2 := h 2 (by omega)
  have h3 := h 3 (by omega)
  clear h
  unfold takeU takeB cU
  rw [onB_iff] at h1 h2 h3
  generalize byteAt s a = b0 at *
  generalize byteAt s (a + 1) = b1 at *
  generalize byteAt s (a + 2) = b2 at *
  generalize byteAt s (a + 3) = b3 at *
  have hl : (b0 < 128 ∧ begL b0 = 1 ∧ begC b0 = b0) ∨ (192 ≤ b0 ∧ b0 < 224 ∧ begL b0 = 2 ∧ begC b0 = b0 - 192) ∨ (224 ≤ b0 ∧ b0 < 240 ∧ begL b0 = 3 ∧ begC b0 = b0 - 224) ∨ (240 ≤ b0 ∧ b0 < 248 ∧ begL b0 = 4 ∧ begC b0 = b0 - 240) := by
    unfold begL at *
    unfold begC
    repeat' split
    all_goals first | omega | (exfalso; revert h0; repeat' split) 
    all_goals omega
  rcases hl with ⟨q1, q2, q3⟩ | ⟨q0, q1, q2, q3⟩ | ⟨q0, q1, q2, q3⟩ | ⟨q0, q1, q2, q3⟩
  · rw [q2] at hr ⊢
    simp only [bitsU, q3]
    rw [if_neg (by omega), if_pos q1, if_pos ⟨okR_iff.2 (by omega), octR_one.2 (by omega)⟩]
  · rw [q2] at h1 hr ⊢
    have g1 := h1 (by omega)
    simp only [bitsU, q3]
    rw [if_neg (by omega), if_neg (by omega)]
    by_cases hc : 194 ≤ b0
    · rw [if_pos (by omega), if_pos ⟨okR_iff.2 (by omega), octR_two.2 (by omega)⟩]
      exact Prod.ext (by simp only []; omega) rfl
    · rw [if_neg (by omega), if_neg (by omega), if_neg (by omega), if_neg (by rintro ⟨_, e⟩; have := octR_two.1 e; omega)]
  · rw [q2] at h1 h2 hr ⊢
    have g1 := h1 (by omega)
    have g2 := h2 (by omega)
    simp only [bitsU, q3]
    rw [if_neg (by omega), if_neg (by omega), if_neg (by omega)]
    by_cases hc : (b0 = 224 → 160 ≤ b1) ∧ (b0 = 237 → b1 < 160)
    · rw [if_pos (by omega), if_pos ⟨okR_iff.2 (by omega), octR_three.2 (by omega)⟩]
      exact Prod.ext (by simp only []; omega) rfl
    · rw [if_neg (by omega), if_neg (by omega), if_neg (by rintro ⟨e', e⟩; have := okR_iff.1 e'; have := octR_three.1 e; omega)]
  · rw [q2] at h1 h2 h3 hr ⊢
    have g1 := h1 (by omega)
    have g2 := h2 (by omega)
    have g3 := h3 (by omega)
    simp only [bitsU, q3]
    rw [if_neg (by omega), if_neg (by omega), if_neg (by omega), if_neg (by omega)]
    by_cases hc : b0 ≤ 244 ∧ (b0 = 240 → 144 ≤ b1) ∧ (b0 = 244 → b1 < 144)
    · rw [if_pos (by omega), if_pos ⟨okR_iff.2 (by omega), octR_four.2 (by omega)⟩]
      exact Prod.ext (by simp only []; omega) rfl
    · rw [if_neg (by omega), if_neg (by rintro ⟨e', e⟩; have := okR_iff.1 e'; have := octR_four.1 e; omega)]
end Go.Proofs.Ytkckeogdijdohaa
