/- The plain law: marks that may be in a text, shifted by an edit, may be in what that makes. -/
import Derived.Test.YtkclpflgndgabaaEdB
namespace Go.Proofs.Ytkclpflgndgabaa
theorem byteAt_app (a b : ByteArray) (i : Nat) : byteAt (a ++ b) i = if i < a.size then byteAt a i else byteAt b (i - a.size) := by
  unfold byteAt
  by_cases h : i < a.size
  · rw [dif_pos (by rw [ByteArray.size_append]; omega), if_pos h, dif_pos h, ByteArray.getElem_append_left h]
  · rw [if_neg h]
    by_cases h' : i - a.size < b.size
    · rw [dif_pos (by rw [ByteArray.size_append]; omega), dif_pos h', ByteArray.getElem_append_right (by omega)]
    · rw [dif_neg (by rw [ByteArray.size_append]; omega), dif_neg h']
theorem valid_first {s : ByteArray} (h : validU s = true) (h0 : 0 < s.size) : onB (byteAt s 0) = false := by
  have hb := of_decide_eq_true h
  unfold badU at hb
  have ht : (takeU s 0).2 ≠ 0 := by
    intro e
    have : badF (s.size + 1) s 0 = 0 := by
      show (if s.size ≤ 0 then -1 else if (takeU s 0).2 = 0 then ((0 : Nat) : Int) else _) = _
      rw [if_neg (by omega), if_pos e]; rfl
    omega
  unfold onB
  rw [decide_eq_false_iff_not]
  intro hc
  apply ht
  unfold takeU takeB
  rw [if_neg (by omega), if_neg (by omega), if_neg (by omega), if_neg (by omega), if_neg (by omega)]
theorem edge_iff {s : ByteArray} {p : Int} : edge s p = true ↔ 0 ≤ p ∧ p ≤ s.size ∧ (p = 0 ∨ p = s.size ∨ onB (byteAt s p.toNat) = false) := by
  unfold edge
  rw [Bool.and_eq_true, decide_eq_true_eq, Bool.or_eq_true, Bool.or_eq_true, decide_eq_true_eq, decide_eq_true_eq, Bool.not_eq_true']
  constructor
  · rintro ⟨⟨a, b⟩, (c | c) | c⟩
    · exact ⟨a, b, .inl c⟩
    · exact ⟨a, b, .inr (.inl c)⟩
    · exact ⟨a, b, .inr (.inr c)⟩
  · rintro ⟨a, b, c | c | c⟩
    · exact ⟨⟨a, b⟩, .inl (.inl c)⟩
    · exact ⟨⟨a, b⟩, .inl (.inr c)⟩
    · exact ⟨⟨a, b⟩, .inr c⟩
theorem apply_ok {t : ByteArray} {e : Ed} (h : (applyR t e).2 = 0) : ∃ q : Nat, e.pl = q ∧ q + e.old.size ≤ t.size ∧ edge t q = true ∧ edge t ((q + e.old.size : Nat) : Int) = true ∧ validU e.nw = true ∧ (applyR t e).1 = t.extract 0 q ++ e.nw ++ t.extract (q + e.old.size) t.size := by
  unfold applyR at h ⊢
  split at h
  · cases h
  · rename_i h1
    split at h
    · cases h
    · rename_i h2
      split at h
      · cases h
      · rename_i h3
        split at h
        · cases h
        · rename_i h4
          split at h
          · cases h
          · rename_i h5
            rw [if_neg h1, if_neg h2, if_neg h3, if_neg h4, if_neg h5]
            simp only [Bool.not_eq_false] at h1 h2 h3 h4
            unfold okAt at h1
            have h1 := of_decide_eq_true h1
            unfold okOld at h2
            rw [Bool.and_eq_true, decide_eq_true_eq] at h2
            unfold okEdge at h3
            rw [Bool.and_eq_true] at h3
            unfold okForm at h4
            rw [Bool.and_eq_true] at h4
            have hq : e.pl = (e.pl.toNat : Int) := by omega
            refine ⟨e.pl.toNat, hq, by omega, by rw [← hq]; exact h3.1, ?_, h4.2, rfl⟩
            have := h3.2
            rw [hq] at this
            rw [show ((e.pl.toNat + e.old.size : Nat) : Int) = (e.pl.toNat : Int) + (e.old.size : Int) from by omega]
            exact this
theorem edge_shift {t : ByteArray} {e : Ed} {p : Int} (h : (applyR t e).2 = 0) (hp : edge t p = true) : edge (applyR t e).1 (shiftR e p) = true := by
  obtain ⟨q, hq, hn, e1, e2, hv, hs⟩ := apply_ok h
  rw [hs]
  clear hs h
  obtain ⟨p0, p1, p2⟩ := edge_iff.1 hp
  obtain ⟨_, _, r2⟩ := edge_iff.1 e2
  have hsz : (t.extract 0 q ++ e.nw ++ t.extract (q + e.old.size) t.size).size = t.size - e.old.size + e.nw.size := by
    rw [ByteArray.size_append, ByteArray.size_append, ByteArray.size_extract, ByteArray.size_extract]; omega
  have hbyte : ∀ i, byteAt (t.extract 0 q ++ e.nw ++ t.extract (q + e.old.size) t.size) i = if i < q then byteAt t i else if i < q + e.nw.size then byteAt e.nw (i - q) else if i < t.size - e.old.size + e.nw.size then byteAt t (i - e.nw.size + e.old.size) else 0 := by
    intro i
    have hx : (t.extract 0 q).size = q := by rw [ByteArray.size_extract]; omega
    rw [byteAt_app, ByteArray.size_append, byteAt_app, hx]
    by_cases h1 : i < q
    · rw [if_pos (by omega), if_pos h1, if_pos h1, byteAt_ext (by omega) (by omega), Nat.zero_add]
    · by_cases h2 : i < q + e.nw.size
      · simp only [if_neg h1, if_pos h2]
      · by_cases h3 : i < t.size - e.old.size + e.nw.size
        · simp only [if_neg h1, if_neg h2, if_pos h3]
          rw [byteAt_ext (Nat.le_refl _) (by omega)]
          congr 1; omega
        · simp only [if_neg h1, if_neg h2, if_neg h3]
          unfold byteAt
          rw [dif_neg (by rw [ByteArray.size_extract]; omega)]
  have hat : edge (t.extract 0 q ++ e.nw ++ t.extract (q + e.old.size) t.size) (q : Int) = true := by
    rw [edge_iff, hsz]
    refine ⟨by omega, by omega, ?_⟩
    rw [Int.toNat_natCast, hbyte, if_neg (by omega)]
    by_cases hw : 0 < e.nw.size
    · rw [if_pos (by omega), Nat.sub_self]
      exact .inr (.inr (valid_first hv hw))
    · rw [if_neg (by omega)]
      rcases r2 with r | r | r
      · exact .inl (by omega)
      · exact .inr (.inl (by omega))
      · by_cases hq0 : q < t.size - e.old.size + e.nw.size
        · rw [if_pos hq0]
          rw [Int.toNat_natCast] at r
          rw [show q - e.nw.size + e.old.size = q + e.old.size from by omega]
          exact .inr (.inr r)
        · exact .inr (.inl (by omega))
  unfold shiftR
  rw [hq]
  by_cases c1 : p ≤ (q : Int)
  · rw [if_pos c1]
    by_cases c0 : p = q
    · rw [c0]; exact hat
    · rw [edge_iff, hsz]
      refine ⟨p0, by omega, ?_⟩
      rcases p2 with r | r | r
      · exact .inl r
      · omega
      · rw [hbyte, if_pos (by omega)]; exact .inr (.inr r)
  · rw [if_neg c1]
    by_cases c2 : p - (q : Int) < e.old.size
    · rw [if_pos c2]; exact hat
    · rw [if_neg c2, edge_iff, hsz]
      refine ⟨by omega, by omega, ?_⟩
      rcases p2 with r | r | r
      · omega
      · exact .inr (.inl (by omega))
      · by_cases c3 : p = t.size
        · exact .inr (.inl (by omega))
        · rw [hbyte, if_neg (by omega), if_neg (by omega), if_pos (by omega), show (p - (e.old.size : Int) + (e.nw.size : Int)).toNat - e.nw.size + e.old.size = p.toNat from by omega]
          exact .inr (.inr r)
theorem rise_sh (e : Ed) : ∀ l : List Mk, rise (l.map (shM e)) = rise l
  | [] => rfl
  | [_] => rfl
  | a :: b :: r => by
    show (upN (shM e a).nm (shM e b).nm && rise ((b :: r).map (shM e))) = (upN a.nm b.nm && rise (b :: r))
    rw [rise_sh e (b :: r)]; rfl
theorem right_shift {t : ByteArray} {e : Ed} {l : List Mk} (h : (applyR t e).2 = 0) (hr : rightM t l = true) : rightM (applyR t e).1 (l.map (shM e)) = true := by
  unfold rightM at hr ⊢
  rw [Bool.and_eq_true, Bool.and_eq_true] at hr ⊢
  obtain ⟨⟨h1, h2⟩, h3⟩ := hr
  refine ⟨⟨by rw [List.length_map]; exact h1, ?_⟩, by rw [rise_sh]; exact h3⟩
  rw [List.all_eq_true] at h2 ⊢
  intro x hx
  obtain ⟨y, hy, rfl⟩ := List.mem_map.1 hx
  have := h2 y hy
  unfold okMk at this ⊢
  rw [Bool.and_eq_true] at this ⊢
  exact ⟨this.1, edge_shift h this.2⟩
end Go.Proofs.Ytkclpflgndgabaa
