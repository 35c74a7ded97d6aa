/- Runes in bytes, in plain Lean. -/
import Derived.Test.YtomfcgeibbicoaaGreatBase
import Derived.Laws.BytesArg
namespace Go.Proofs.YtomfcgeibbicoaaGreat
/-- A byte that goes on. -/
def onB (b : Nat) : Bool := decide (128 ≤ b ∧ b ≤ 191)
/-- The byte at a place; 0 beyond. -/
def byteAt (s : ByteArray) (i : Nat) : Nat := if h : i < s.size then s[i].toNat else 0
/-- An edge of a text. -/
def edge (s : ByteArray) (p : Int) : Bool := decide (0 ≤ p ∧ p ≤ s.size) && (decide (p = 0) || decide (p = s.size) || !onB (byteAt s p.toNat))
theorem byteAt_lt (s : ByteArray) (i : Nat) : byteAt s i < 256 := by
  unfold byteAt
  split
  · exact UInt8.toNat_lt _
  · omega
theorem byteAt_of {s : ByteArray} {i : Nat} (h : i < s.size) : s[i].toNat = byteAt s i := by unfold byteAt; rw [dif_pos h]
def okR (c : Int) : Bool := decide (0 ≤ c ∧ c ≤ 1114111 ∧ ¬ (55296 ≤ c ∧ c ≤ 57343))
def octR (c : Int) : Int := if c < 128 then 1 else if c < 2048 then 2 else if c < 65536 then 3 else 4
/-- A rune's bytes, as numbers. -/
def putL (c : Int) : List Int := if okR c = false then [] else if c < 128 then [c] else if c < 2048 then [192 + c / 64, 128 + c % 64] else if c < 65536 then [224 + c / 4096, 128 + c / 64 % 64, 128 + c % 64] else [240 + c / 262144, 128 + c / 4096 % 64, 128 + c / 64 % 64, 128 + c % 64]
/-- The rune at a place, and how many bytes it has; (0, 0): none. -/
def takeB (r b0 b1 b2 b3 : Nat) : Int × Nat :=
  if r = 0 then (0, 0) else if b0 < 128 then ((b0 : Int), 1)
  else if 2 ≤ r ∧ 194 ≤ b0 ∧ b0 < 224 ∧ 128 ≤ b1 ∧ b1 ≤ 191 then (64 * ((b0 : Int) - 192) + (b1 : Int) % 64, 2)
  else if 3 ≤ r ∧ 224 ≤ b0 ∧ b0 < 240 ∧ 128 ≤ b1 ∧ b1 ≤ 191 ∧ 128 ≤ b2 ∧ b2 ≤ 191 ∧ (b0 = 224 → 160 ≤ b1) ∧ (b0 = 237 → b1 < 160) then (64 * (64 * ((b0 : Int) - 224) + (b1 : Int) % 64) + (b2 : Int) % 64, 3)
  else if 4 ≤ r ∧ 240 ≤ b0 ∧ b0 ≤ 244 ∧ 128 ≤ b1 ∧ b1 ≤ 191 ∧ 128 ≤ b2 ∧ b2 ≤ 191 ∧ 128 ≤ b3 ∧ b3 ≤ 191 ∧ (b0 = 240 → 144 ≤ b1) ∧ (b0 = 244 → b1 < 144) then (64 * (64 * (64 * ((b0 : Int) - 240) + (b1 : Int) % 64) + (b2 : Int) % 64) + (b3 : Int) % 64, 4)
  else (0, 0)
def takeU (s : ByteArray) (i : Nat) : Int × Nat := takeB (s.size - i) (byteAt s i) (byteAt s (i + 1)) (byteAt s (i + 2)) (byteAt s (i + 3))
/-- The first place at which no rune stands; -1. -/
def badF : Nat → ByteArray → Nat → Int
  | 0, _, _ => -1
  | k + 1, s, a => if s.size ≤ a then -1 else if (takeU s a).2 = 0 then a else badF k s (a + (takeU s a).2)
def badU (s : ByteArray) : Int := badF (s.size + 1) s 0
/-- Are all bytes runes'? -/
def validU (s : ByteArray) : Bool := decide (badU s < 0)
theorem putL_ok {c : Int} (h0 : 0 ≤ c) (h1 : c ≤ 1114111) (h2 : ¬ (55296 ≤ c ∧ c ≤ 57343)) : putL c = if c < 128 then [c] else if c < 2048 then [192 + c / 64, 128 + c % 64] else if c < 65536 then [224 + c / 4096, 128 + c / 64 % 64, 128 + c % 64] else [240 + c / 262144, 128 + c / 4096 % 64, 128 + c / 64 % 64, 128 + c % 64] := by
  unfold putL
  rw [if_neg]
  unfold okR
  rw [decide_eq_true ⟨h0, h1, h2⟩]; simp
theorem putL_no {c : Int} (h : c < 0 ∨ 1114111 < c ∨ (55296 ≤ c ∧ c ≤ 57343)) : putL c = [] := by
  unfold putL
  rw [if_pos]
  unfold okR
  rw [decide_eq_false]
  rintro ⟨a, b, d⟩
  omega
theorem put1 {b0 : Nat} (h0 : b0 < 256) : putL (b0 : Int) = [(b0 : Int)] ↔ b0 < 128 := by
  rw [putL_ok (by omega) (by omega) (by omega)]
  by_cases h : (b0 : Int) < 128
  · rw [if_pos h]; simp; omega
  · rw [if_neg h, if_pos (by omega)]; simp; omega
theorem put2 {b0 b1 : Nat} (h0 : b0 < 256) (h1 : b1 < 256) (hf : 192 ≤ b0) : putL (64 * ((b0 : Int) - 192) + (b1 : Int) % 64) = [(b0 : Int), (b1 : Int)] ↔ 194 ≤ b0 ∧ b0 < 224 ∧ 128 ≤ b1 ∧ b1 ≤ 191 := by
  generalize hc : 64 * ((b0 : Int) - 192) + (b1 : Int) % 64 = c
  rw [putL_ok (by omega) (by omega) (by omega)]
  by_cases h : c < 128
  · rw [if_pos h]; simp; omega
  · rw [if_neg h]
    by_cases h' : c < 2048
    · rw [if_pos h']; simp; omega
    · rw [if_neg h', if_pos (by omega)]; simp; omega
theorem put3 {b0 b1 b2 : Nat} (h0 : b0 < 256) (h1 : b1 < 256) (h2 : b2 < 256) (hf : 224 ≤ b0) : putL (64 * (64 * ((b0 : Int) - 224) + (b1 : Int) % 64) + (b2 : Int) % 64) = [(b0 : Int), (b1 : Int), (b2 : Int)] ↔ 224 ≤ b0 ∧ b0 < 240 ∧ 128 ≤ b1 ∧ b1 ≤ 191 ∧ 128 ≤ b2 ∧ b2 ≤ 191 ∧ (b0 = 224 → 160 ≤ b1) ∧ (b0 = 237 → b1 < 160) := by
  generalize hc : 64 * (64 * ((b0 : Int) - 224) + (b1 : Int) % 64) + (b2 : Int) % 64 = c
  by_cases hs : 55296 ≤ c ∧ c ≤ 57343
  · rw [putL_no (.inr (.inr hs))]
    simp
    omega
  · rw [putL_ok (by omega) (by omega) hs]
    by_cases h : c < 128
    · rw [if_pos h]; simp; omega
    · rw [if_neg h]
      by_cases h' : c < 2048
      · rw [if_pos h']; simp; omega
      · rw [if_neg h']
        by_cases h'' : c < 65536
        · rw [if_pos h'']; simp; omega
        · rw [if_neg h'']; simp; omega
theorem put4 {b0 b1 b2 b3 : Nat} (h0 : b0 < 256) (h1 : b1 < 256) (h2 : b2 < 256) (h3 : b3 < 256) (hf : 240 ≤ b0) : putL (64 * (64 * (64 * ((b0 : Int) - 240) + (b1 : Int) % 64) + (b2 : Int) % 64) + (b3 : Int) % 64) = [(b0 : Int), (b1 : Int), (b2 : Int), (b3 : Int)] ↔ 240 ≤ b0 ∧ b0 ≤ 244 ∧ 128 ≤ b1 ∧ b1 ≤ 191 ∧ 128 ≤ b2 ∧ b2 ≤ 191 ∧ 128 ≤ b3 ∧ b3 ≤ 191 ∧ (b0 = 240 → 144 ≤ b1) ∧ (b0 = 244 → b1 < 144) := by
  generalize hc : 64 * (64 * (64 * ((b0 : Int) - 240) + (b1 : Int) % 64) + (b2 : Int) % 64) + (b3 : Int) % 64 = c
  by_cases hs : c < 0 ∨ 1114111 < c ∨ (55296 ≤ c ∧ c ≤ 57343)
  · rw [putL_no hs]
    simp
    omega
  · rw [putL_ok (by omega) (by omega) (by omega)]
    by_cases h : c < 128
    · rw [if_pos h]; simp; omega
    · rw [if_neg h]
      by_cases h' : c < 2048
      · rw [if_pos h']; simp; omega
      · rw [if_neg h']
        by_cases h'' : c < 65536
        · rw [if_pos h'']; simp; omega
        · rw [if_neg h'']; simp; omega
end Go.Proofs.YtomfcgeibbicoaaGreat
