/- The plain laws of lists of marks: one goes, one comes to its place. No program is named here. -/
import Derived.Test.YtcffkmlnbnjibaaGreatMkL
namespace Go.Proofs.YtcffkmlnbnjibaaGreat
/-- Has a mark another name? -/
def nmNot (s : ByteArray) (m : Mk) : Bool := !nmIs s m
theorem filt_yes {p : Mk → Bool} {l : List Mk} {k : Nat} (hk : k < l.length) (h : p l[k] = true) : (l.take (k + 1)).filter p = (l.take k).filter p ++ [l[k]] := by
  rw [List.take_succ_eq_append_getElem hk, List.filter_append]; simp [h]
theorem filt_no {p : Mk → Bool} {l : List Mk} {k : Nat} (hk : k < l.length) (h : p l[k] = false) : (l.take (k + 1)).filter p = (l.take k).filter p := by
  rw [List.take_succ_eq_append_getElem hk, List.filter_append]; simp [h]
theorem filt_len (p : Mk → Bool) (l : List Mk) (k : Nat) : ((l.take k).filter p).length ≤ k := Nat.le_trans (List.length_filter_le _ _) (List.length_take_le _ _)
/-- One more mark is gone over by the document's Set. -/
def stepI (m : Mk) (r : List Mk × Bool) (x : Mk) : List Mk × Bool := if (!r.2 && upN m.nm x.nm) = true then (r.1 ++ [m] ++ [x], true) else (r.1 ++ [x], r.2)
def foldI (m : Mk) (l : List Mk) : List Mk × Bool := l.foldl (stepI m) ([], false)
def endI (m : Mk) (r : List Mk × Bool) : List Mk := if r.2 = true then r.1 else r.1 ++ [m]
theorem foldI_succ (m : Mk) {l : List Mk} {k : Nat} (hk : k < l.length) : foldI m (l.take (k + 1)) = stepI m (foldI m (l.take k)) l[k] := by
  unfold foldI
  rw [List.take_succ_eq_append_getElem hk, List.foldl_append]; rfl
theorem stepI_len (m : Mk) (r : List Mk × Bool) (x : Mk) : (stepI m r x).1.length + (if (stepI m r x).2 = true then 0 else 1) = r.1.length + (if r.2 = true then 0 else 1) + 1 := by
  unfold stepI
  cases h : r.2 <;> cases h' : upN m.nm x.nm <;> simp
theorem foldI_len (m : Mk) (l : List Mk) : (foldI m l).1.length + (if (foldI m l).2 = true then 0 else 1) = l.length + 1 := by
  have : ∀ (l : List Mk) (r : List Mk × Bool), (l.foldl (stepI m) r).1.length + (if (l.foldl (stepI m) r).2 = true then 0 else 1) = r.1.length + (if r.2 = true then 0 else 1) + l.length := by
    intro l
    induction l with
    | nil => intro r; rfl
    | cons x l ih => intro r; rw [List.foldl_cons, ih, stepI_len, List.length_cons]; omega
  have := this l ([], false)
  unfold foldI
  rw [this]; simp; omega
theorem fold_pre (m : Mk) (r : List Mk) : ∀ (pre : List Mk), (∀ x ∈ pre, upN m.nm x.nm = false) → pre.foldl (stepI m) (r, false) = (r ++ pre, false) := by
  intro pre
  induction pre generalizing r with
  | nil => intro _; simp
  | cons x pre ih =>
    intro h
    have hx := h x (by simp)
    rw [List.foldl_cons, show stepI m (r, false) x = (r ++ [x], false) from by unfold stepI; rw [hx]; rfl, ih _ fun y hy => h y (by simp [hy])]
    simp
theorem fold_post (m : Mk) (r : List Mk) : ∀ (post : List Mk), post.foldl (stepI m) (r, true) = (r ++ post, true) := by
  intro post
  induction post generalizing r with
  | nil => simp
  | cons x post ih =>
    rw [List.foldl_cons, show stepI m (r, true) x = (r ++ [x], true) from by unfold stepI; rfl, ih]
    simp
theorem fold_mid (m : Mk) {pre post : List Mk} (h1 : ∀ x ∈ pre, upN m.nm x.nm = false) (h2 : ∀ x r, post = x :: r → upN m.nm x.nm = true) : endI m (foldI m (pre ++ post)) = pre ++ m :: post := by
  unfold foldI
  rw [List.foldl_append, fold_pre m [] pre h1, List.nil_append]
  cases post with
  | nil => rfl
  | cons x r =>
    have hx := h2 x r rfl
    rw [List.foldl_cons, show stepI m (pre, false) x = (pre ++ [m] ++ [x], true) from by unfold stepI; rw [hx]; rfl, fold_post]
    unfold endI
    simp
theorem cut_at {l : List Mk} {k : Nat} (hk : k < l.length) : l = l.take k ++ l[k] :: l.drop (k + 1) := by
  rw [← List.drop_eq_getElem_cons hk, List.take_append_drop]
theorem nm_eq {s : ByteArray} {m : Mk} (h : nmIs s m = true) : m.nm.toList = s.toList := by
  unfold nmIs at h; exact eq_of_beq h
theorem filt_found {s : ByteArray} {l : List Mk} {k : Nat} (hl : rise l = true) (hk : k < l.length) (hq : nmIs s l[k] = true) : l.filter (nmNot s) = l.take k ++ l.drop (k + 1) := by
  have hc := cut_at hk
  have hs := hl
  rw [hc] at hs
  obtain ⟨h1, h2⟩ := rise_split hs
  have he := nm_eq hq
  have e1 : (l.take k).filter (nmNot s) = l.take k := by
    rw [List.filter_eq_self]
    intro x hx
    have := up_ne (h1 x hx)
    unfold nmNot nmIs
    rw [← he, this]; rfl
  have e2 : (l.drop (k + 1)).filter (nmNot s) = l.drop (k + 1) := by
    rw [List.filter_eq_self]
    intro x hx
    have := up_ne (h2 x hx)
    unfold nmNot nmIs
    rw [← he, beq_eq_false_iff_ne.2 (fun e => (beq_eq_false_iff_ne.1 this) e.symm)]; rfl
  have e3 : nmNot s l[k] = false := by unfold nmNot; rw [hq]; rfl
  conv => lhs; rw [hc]
  rw [List.filter_append, List.filter_cons, e3, e1]
  simp only [Bool.false_eq_true, if_false]
  rw [e2]
end Go.Proofs.YtcffkmlnbnjibaaGreat
