/- Walks: the document's number, Take, Bad, Valid. -/
import Derived.Test.YtkckeogdijdohaaUtfB
namespace Go.Proofs.Ytkckeogdijdohaa
open Go.RowKit
/-- What bytes would be as a rune, from the first one's bits on. -/
def numF (s : ByteArray) (f : Int) : Nat → Int
  | 0 => f
  | k + 1 => 64 * numF s f k + (byteAt s (k + 1) : Int) % 64
def lead (n : Nat) : Nat := if n = 2 then 192 else if n = 3 then 224 else 240
/-- What bytes would be as a rune; -1. -/
def numS (s : ByteArray) : Int := if s.size = 1 then byteAt s 0 else if byteAt s 0 < lead s.size then -1 else numF s ((byteAt s 0 : Int) - lead s.size) (s.size - 1)
theorem numF_le {s : ByteArray} {f : Int} (h0 : 0 ≤ f) (h1 : f ≤ 63) : ∀ k, k ≤ 3 → 0 ≤ numF s f k ∧ numF s f k ≤ 16777215 := by
  intro k hk
  have b1 := byteAt_lt s 1
  have b2 := byteAt_lt s 2
  have b3 := byteAt_lt s 3
  match k, hk with
  | 0, _ => simp only [numF]; omega
  | 1, _ => simp only [numF]; omega
  | 2, _ => simp only [numF]; omega
  | 3, _ => simp only [numF]; omega
set_option maxHeartbeats 1000000 in
theorem number_calls (s : ByteArray) (w : World) (h1 : 1 ≤ s.size) (h4 : s.size ≤ 4) : Calls Try.prog 87 #[.string s] w fun e w' => e = .returned (.int .i64 (numS s)) ∧ w' = w := by
  have hb := byteAt_lt s 0
  have hlt : 0 < s.size := by omega
  have eb := Lib.hid (byteAt_of (s := s) (i := 0) hlt)
  have hb2 : s[0].toNat < 256 := UInt8.toNat_lt _
  by_cases hs1 : s.size = 1
  · have H := Lib.hid (show numS s = byteAt s 0 from if_pos hs1)
    have e1 : ((s.size : Int) == 1) = true := by rw [beq_iff_eq]; omega
    clear hs1
    go_enter Try.func87, Try.ntmps87
    go_wp2
    go_ret
    exact ⟨ret_int (by rw [H.out, ← eb.out]), rfl⟩
  · have e1 : ((s.size : Int) == 1) = false := by rw [beq_eq_false_iff_ne]; omega
    by_cases hneg : byteAt s 0 < lead s.size
    · have H := Lib.hid (show numS s = -1 from by unfold numS; rw [if_neg hs1, if_pos hneg])
      rcases (show s.size = 2 ∨ s.size = 3 ∨ s.size = 4 by omega) with hs | hs | hs
      · have e2 : ((s.size : Int) == 2) = true := by rw [beq_iff_eq]; omega
        have hn : (s[0].toNat : Int) - 192 < 0 := by rw [hs] at hneg; have := eb.out; simp [lead] at hneg; omega
        clear hs hs1 hneg
        go_enter Try.func87, Try.ntmps87
        go_wp2
        go_ret
        exact ⟨ret_int H.out.symm, rfl⟩
      · have e2 : ((s.size : Int) == 2) = false := by rw [beq_eq_false_iff_ne]; omega
        have e3 : ((s.size : Int) == 3) = true := by rw [beq_iff_eq]; omega
        have hn : (s[0].toNat : Int) - 224 < 0 := by rw [hs] at hneg; have := eb.out; simp [lead] at hneg; omega
        clear hs hs1 hneg
        go_enter Try.func87, Try.ntmps87
        go_wp2
        go_ret
        exact ⟨ret_int H.out.symm, rfl⟩
      · have e2 : ((s.size : Int) == 2) = false := by rw [beq_eq_false_iff_ne]; omega
        have e3 : ((s.size : Int) == 3) = false := by rw [beq_eq_false_iff_ne]; omega
        have hn : (s[0].toNat : Int) - 240 < 0 := by rw [hs] at hneg; have := eb.out; simp [lead] at hneg; omega
        clear hs hs1 hneg
        go_enter Try.func87, Try.ntmps87
        go_wp2
        go_ret
        exact ⟨ret_int H.out.symm, rfl⟩
    · have hlead : 192 ≤ lead s.size := by unfold lead; split; (· omega); split <;> omega
      obtain ⟨f, hf, hf0, hf1⟩ : ∃ f : Int, f = (byteAt s 0 : Int) - lead s.size ∧ 0 ≤ f ∧ f ≤ 63 := ⟨_, rfl, by omega, by omega⟩
      have H := Lib.hid (show numS s = numF s f (s.size - 1) from by unfold numS; rw [if_neg hs1, if_neg hneg, hf])
      have Hf := Lib.hid (show (s[0].toNat : Int) - lead s.size = f from by rw [eb.out, hf])
      clear hf hneg
      have hle : ∀ k, k ≤ 3 → 0 ≤ numF s f k ∧ numF s f k ≤ 16777215 := numF_le hf0 hf1
      have HLE := Lib.hid hle
      clear hle
      rcases (show s.size = 2 ∨ s.size = 3 ∨ s.size = 4 by omega) with hs | hs | hs
      all_goals
        have Hs := Lib.hid hs
        first
        | (have e2 : ((s.size : Int) == 2) = true := by rw [beq_iff_eq]; omega
           have hff : (s[0].toNat : Int) - 192 = f := by have := Hf.out; rw [hs] at this; simpa [lead] using this)
        | (have e2 : ((s.size : Int) == 2) = false := by rw [beq_eq_false_iff_ne]; omega
           have e3 : ((s.size : Int) == 3) = true := by rw [beq_iff_eq]; omega
           have hff : (s[0].toNat : Int) - 224 = f := by have := Hf.out; rw [hs] at this; simpa [lead] using this)
        | (have e2 : ((s.size : Int) == 2) = false := by rw [beq_eq_false_iff_ne]; omega
           have e3 : ((s.size : Int) == 3) = false := by rw [beq_eq_false_iff_ne]; omega
           have hff : (s[0].toNat : Int) - 240 = f := by have := Hf.out; rw [hs] at this; simpa [lead] using this)
        clear hs hs1
        go_enter Try.func87, Try.ntmps87
        go_wp2
        go_loop [3, 4] (fun v i => ∃ k : Nat, k ≤ 3 ∧ k + 1 ≤ s.size ∧ i = .int .i64 ((k : Int) + 1) ∧ v = .int .i64 (numF s f k)) (fun _ i => s.size + 2 - (intOf i).toNat)
        case atStart => exact ⟨0, by omega, by omega, rfl, rfl⟩
        case round =>
          obtain ⟨k, hk3, hk, rfl, rfl⟩ := hrel
          obtain ⟨hn0, hn1⟩ := HLE.out k hk3
          by_cases hkl : k + 1 < s.size
          · have hbk := byteAt_lt s (k + 1)
            have ebk := Lib.hid (byteAt_of hkl)
            have hbk2 : s[k + 1].toNat < 256 := UInt8.toNat_lt _
            have HN := Lib.hid (show numF s f (k + 1) = 64 * numF s f k + (s[k + 1].toNat : Int) % 64 from by rw [ebk.out]; rfl)
            generalize numF s f k = z at hn0 hn1 HN ⊢
            go_wp2
            go_round
            case rel => exact ⟨k + 1, by omega, by omega, by go_num, by rw [HN.out]⟩
            case measure => simp [intOf]; omega
          · go_wp2
            go_ret
            exact ⟨ret_int (by rw [H.out, show s.size - 1 = k from by omega]), rfl⟩
theorem byteAt_ext {s : ByteArray} {a b i : Nat} (h : b ≤ s.size) (hi : a + i < b) : byteAt (s.extract a b) i = byteAt s (a + i) := by
  unfold byteAt
  have hs : (s.extract a b).size = b - a := by rw [ByteArray.size_extract]; omega
  rw [dif_pos (by omega), dif_pos (by omega)]
  congr 1
  exact ByteArray.getElem_extract _
theorem list_of_bytes (s : ByteArray) : s.toList.map (fun b => (b.toNat : Int)) = (List.range s.size).map fun i => (byteAt s i : Int) := by
  rw [ByteArray.toList_eq]
  apply List.ext_getElem
  · simp
  · intro i h1 h2
    have hi : i < s.size := by simpa using h2
    simp only [List.getElem_map, List.getElem_range]
    rw [← byteAt_of hi]
    rfl
theorem strOf_range {xs : List Int} (h : ∀ x ∈ xs, 0 ≤ x ∧ x < 256) : (strOfNums xs).toList.map (fun b => (b.toNat : Int)) = xs := by
  rw [ByteArray.toList_eq, strOfNums_data, List.map_map]
  conv => rhs; rw [← List.map_id xs]
  apply List.map_congr_left
  intro x hx
  have := h x hx
  simp only [Function.comp, id]
  rw [UInt8.toNat_ofNat']
  omega
theorem u8_inj {a b : List UInt8} (h : a.map (fun b => (b.toNat : Int)) = b.map (fun b => (b.toNat : Int))) : a = b := by
  apply List.map_inj_right (f := fun b : UInt8 => (b.toNat : Int)) (fun x y hxy => UInt8.toNat_inj.1 (by have hxy : (x.toNat : Int) = y.toNat := hxy; omega)) |>.1 h
theorem putL_range (c : Int) (h : 0 ≤ c) : ∀ x ∈ putL c, 0 ≤ x ∧ x < 256 := by
  by_cases hs : 1114111 < c ∨ (55296 ≤ c ∧ c ≤ 57343)
  · rw [putL_no (.inr hs)]; simp
  · rw [putL_ok h (by omega) (by omega)]
    intro x hx
    split at hx
    · simp at hx; omega
    · split at hx
      · simp at hx; omega
      · split at hx
        · simp at hx; omega
        · simp at hx; omega
/-- Put's bytes held against a piece of a text. -/
theorem put_eq {s : ByteArray} {a n : Nat} {c : Int} (hc : 0 ≤ c) (h : a + n ≤ s.size) : ((strOfNums (putL c)).toList == (s.extract a (a + n)).toList) = decide (putL c = (List.range n).map fun i => (byteAt s (a + i) : Int)) := by
  have h1 := strOf_range (putL_range c hc)
  have h2 := list_of_bytes (s.extract a (a + n))
  have h3 : (List.range (s.extract a (a + n)).size).map (fun i => (byteAt (s.extract a (a + n)) i : Int)) = (List.range n).map fun i => (byteAt s (a + i) : Int) := by
    rw [ByteArray.size_extract, show min (a + n) s.size - a = n from by omega]
    apply List.map_congr_left
    intro i hi
    rw [byteAt_ext h (by have := List.mem_range.1 hi; omega)]
  rw [h3] at h2
  rw [Bool.eq_iff_iff, beq_iff_eq, decide_eq_true_eq]
  constructor
  · intro e; rw [← h1, e, h2]
  · intro e; apply u8_inj; rw [h1, h2, e]
/-- Do n bytes at a place make a rune? -/
def isN (s : ByteArray) (a n : Nat) : Bool := decide (0 ≤ numS (s.extract a (a + n))) && ((strOfNums (putL (numS (s.extract a (a + n))))).toList == (s.extract a (a + n)).toList)
theorem numS_ext {s : ByteArray} {a n : Nat} (h1 : 1 ≤ n) (h4 : n ≤ 4) (h : a + n ≤ s.size) : numS (s.extract a (a + n)) =
    if n = 1 then (byteAt s a : Int) else if byteAt s a < lead n then -1 else if n = 2 then 64 * ((byteAt s a : Int) - 192) + (byteAt s (a + 1) : Int) % 64
    else if n = 3 then 64 * (64 * ((byteAt s a : Int) - 224) + (byteAt s (a + 1) : Int) % 64) + (byteAt s (a + 2) : Int) % 64
    else 64 * (64 * (64 * ((byteAt s a : Int) - 240) + (byteAt s (a + 1) : Int) % 64) + (byteAt s (a + 2) : Int) % 64) + (byteAt s (a + 3) : Int) % 64 := by
  have hs : (s.extract a (a + n)).size = n := by rw [ByteArray.size_extract]; omega
  have e0 : byteAt (s.extract a (a + n)) 0 = byteAt s a := byteAt_ext h (by omega)
  unfold numS
  rw [hs, e0]
  by_cases hn1 : n = 1
  · rw [if_pos hn1, if_pos hn1]
  · rw [if_neg hn1, if_neg hn1]
    have e1 : byteAt (s.extract a (a + n)) 1 = byteAt s (a + 1) := byteAt_ext h (by omega)
    by_cases hl : byteAt s a < lead n
    · rw [if_pos hl, if_pos hl]
    · rw [if_neg hl, if_neg hl]
      rcases (show n = 2 ∨ n = 3 ∨ n = 4 by omega) with rfl | rfl | rfl
      · simp only [numF, e1, lead]; rfl
      · have e2 : byteAt (s.extract a (a + 3)) 2 = byteAt s (a + 2) := byteAt_ext h (by omega)
        simp only [numF, e1, e2, lead]; rfl
      · have e2 : byteAt (s.extract a (a + 4)) 2 = byteAt s (a + 2) := byteAt_ext h (by omega)
        have e3 : byteAt (s.extract a (a + 4)) 3 = byteAt s (a + 3) := byteAt_ext h (by omega)
        simp only [numF, e1, e2, e3, lead]; rfl
theorem isN_iff {s : ByteArray} {a n : Nat} (h1 : 1 ≤ n) (h4 : n ≤ 4) (h : a + n ≤ s.size) : (isN s a n = true ↔ (takeU s a).2 = n) ∧ (isN s a n = true → numS (s.extract a (a + n)) = (takeU s a).1) := by
  have b0 := byteAt_lt s a
  have b1 := byteAt_lt s (a + 1)
  have b2 := byteAt_lt s (a + 2)
  have b3 := byteAt_lt s (a + 3)
  have hN := numS_ext h1 h4 h
  have hi : isN s a n = true ↔ 0 ≤ numS (s.extract a (a + n)) ∧ putL (numS (s.extract a (a + n))) = (List.range n).map fun i => (byteAt s (a + i) : Int) := by
    unfold isN
    rw [Bool.and_eq_true, decide_eq_true_eq]
    constructor
    · rintro ⟨x, y⟩; rw [put_eq x h, decide_eq_true_eq] at y; exact ⟨x, y⟩
    · rintro ⟨x, y⟩; exact ⟨x, by rw [put_eq x h, decide_eq_true_eq]; exact y⟩
  rw [hi, hN]
  clear hi hN
  unfold takeU takeB
  rcases (show n = 1 ∨ n = 2 ∨ n = 3 ∨ n = 4 by omega) with rfl | rfl | rfl | rfl
  · simp only [if_true, show (List.range 1).map (fun i => (byteAt s (a + i) : Int)) = [(byteAt s a : Int)] from rfl, put1 b0]
    repeat' split
    all_goals omega
  · simp only [show ¬ ((2 : Nat) = 1) by omega, if_false, if_true, show (List.range 2).map (fun i => (byteAt s (a + i) : Int)) = [(byteAt s a : Int), (byteAt s (a + 1) : Int)] from rfl, show lead 2 = 192 from rfl]
    by_cases hl : byteAt s a < 192
    · simp only [if_pos hl]
      repeat' split
      all_goals omega
    · simp only [if_neg hl, put2 b0 b1 (by omega)]
      repeat' split
      all_goals omega
  · simp only [show ¬ ((3 : Nat) = 1) by omega, show ¬ ((3 : Nat) = 2) by omega, if_false, if_true, show (List.range 3).map (fun i => (byteAt s (a + i) : Int)) = [(byteAt s a : Int), (byteAt s (a + 1) : Int), (byteAt s (a + 2) : Int)] from rfl, show lead 3 = 224 from rfl]
    by_cases hl : byteAt s a < 224
    · simp only [if_pos hl]
      repeat' split
      all_goals omega
    · simp only [if_neg hl, put3 b0 b1 b2 (by omega)]
      repeat' split
      all_goals omega
  · simp only [show ¬ ((4 : Nat) = 1) by omega, show ¬ ((4 : Nat) = 2) by omega, show ¬ ((4 : Nat) = 3) by omega, if_false, show (List.range 4).map (fun i => (byteAt s (a + i) : Int)) = [(byteAt s a : Int), (byteAt s (a + 1) : Int), (byteAt s (a + 2) : Int), (byteAt s (a + 3) : Int)] from rfl, show lead 4 = 240 from rfl]
    by_cases hl : byteAt s a < 240
    · simp only [if_pos hl]
      repeat' split
      all_goals omega
    · simp only [if_neg hl, put4 b0 b1 b2 b3 (by omega)]
      repeat' split
      all_goals omega
end Go.Proofs.Ytkckeogdijdohaa
