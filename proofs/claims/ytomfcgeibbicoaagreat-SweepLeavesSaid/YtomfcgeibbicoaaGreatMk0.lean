/- Marks as values of Lean, and their cells. -/
import Derived.Test.YtomfcgeibbicoaaGreatBase
import Derived.Sort.Walk0
namespace Go.Proofs.YtomfcgeibbicoaaGreat
open Go.RowKit
structure Mk where
  nm : ByteArray
  pl : Int
namespace Mk
def enc (m : Mk) : List Value := [.string m.nm, .int .i64 m.pl]
def val (m : Mk) : Value := .agg #[.string m.nm, .int .i64 m.pl]
def cs (l : List Mk) : List Value := l.flatMap enc
theorem cs_len (l : List Mk) : (cs l).length = l.length * 2 := flat_len enc 2 (fun _ => rfl) l
end Mk
theorem Row.mk {w : World} {A : Option Addr} {n : Nat} {l : List Mk} (h : Row w 2 A n (Mk.cs l)) {i : Nat} (hi : i < l.length) :
    ∃ b o, A = some ⟨b, o, none⟩ ∧ w.cell? ⟨b, o + i * 2, none⟩ = some (.string l[i].nm) ∧ w.cell? ⟨b, o + i * 2 + 1, none⟩ = some (.int .i64 l[i].pl) := by
  have hn : n = l.length := by have := h.1; rw [Mk.cs_len] at this; omega
  obtain ⟨b, o, e, hc⟩ := h.2 (by omega)
  have h0 : ∀ j, j < 2 → (Mk.cs l)[i * 2 + j]? = (Mk.enc l[i])[j]? := fun j hj => flat_get Mk.enc 2 (fun _ => rfl) l i l[i] j (List.getElem?_eq_getElem hi) hj
  exact ⟨b, o, e, hc (i * 2) _ (h0 0 (by omega)), hc (i * 2 + 1) _ (h0 1 (by omega))⟩
theorem Row.mk_len {w : World} {A : Option Addr} {n : Nat} {l : List Mk} (h : Row w 2 A n (Mk.cs l)) : l.length = n := by
  have := h.1; rw [Mk.cs_len] at this; omega
end Go.Proofs.YtomfcgeibbicoaaGreat
namespace Go.Proofs.YtomfcgeibbicoaaGreat
/-- Has a mark this name? -/
def nmIs (s : ByteArray) (m : Mk) : Bool := m.nm.toList == s.toList
/-- The place of the first mark of a name; -1. -/
def atZ (s : ByteArray) (l : List Mk) : Int := match l.findIdx? (nmIs s) with | some i => i | none => -1
/-- The place in the text of the first mark of a name. -/
def findM (s : ByteArray) (l : List Mk) : Int × Bool := match l.find? (nmIs s) with | some m => (m.pl, true) | none => (0, false)
theorem idx_some {s : ByteArray} {l : List Mk} {k : Nat} (hk : k < l.length) (h : nmIs s l[k] = true) (hb : ∀ j (hj : j < l.length), j < k → nmIs s l[j] = false) : l.findIdx? (nmIs s) = some k := by
  rw [List.findIdx?_eq_some_iff_getElem]
  exact ⟨hk, h, fun j hj => by rw [hb j (by omega) hj]; simp⟩
theorem idx_none {s : ByteArray} {l : List Mk} (hb : ∀ j (hj : j < l.length), nmIs s l[j] = false) : l.findIdx? (nmIs s) = none := by
  rw [List.findIdx?_eq_none_iff]
  intro x hx
  obtain ⟨j, hj, rfl⟩ := List.getElem_of_mem hx
  exact hb j hj
theorem findM_some {s : ByteArray} {l : List Mk} {k : Nat} (hk : k < l.length) (h : nmIs s l[k] = true) (hb : ∀ j (hj : j < l.length), j < k → nmIs s l[j] = false) : findM s l = (l[k].pl, true) := by
  unfold findM
  have : l.find? (nmIs s) = some l[k] := by
    rw [List.find?_eq_some_iff_getElem]
    exact ⟨h, k, hk, rfl, fun j hj => by rw [hb j (by omega) hj]; rfl⟩
  rw [this]
theorem findM_none {s : ByteArray} {l : List Mk} (hb : ∀ j (hj : j < l.length), nmIs s l[j] = false) : findM s l = (0, false) := by
  unfold findM
  have : l.find? (nmIs s) = none := by
    rw [List.find?_eq_none]
    intro x hx
    obtain ⟨j, hj, rfl⟩ := List.getElem_of_mem hx
    rw [hb j hj]; simp
  rw [this]
/-- The place that atZ tells is one, or there is no such mark. -/
theorem atZ_cases (s : ByteArray) (l : List Mk) : (∃ k, ∃ hk : k < l.length, atZ s l = (k : Int) ∧ nmIs s l[k] = true ∧ ∀ j (hj : j < l.length), j < k → nmIs s l[j] = false) ∨ (atZ s l = -1 ∧ ∀ j (hj : j < l.length), nmIs s l[j] = false) := by
  cases h : l.findIdx? (nmIs s) with
  | some k =>
    obtain ⟨hk, h1, h2⟩ := List.findIdx?_eq_some_iff_getElem.1 h
    exact .inl ⟨k, hk, by simp [atZ, h], h1, fun j hj hjk => by have := h2 j hjk; simpa using this⟩
  | none =>
    rw [List.findIdx?_eq_none_iff] at h
    exact .inr ⟨by rw [atZ, List.findIdx?_eq_none_iff.2 h], fun j hj => h _ (List.getElem_mem hj)⟩
/-- One name stands ahead of another one. -/
def ltN (a b : ByteArray) : Bool := Op.bytesLess a.toList b.toList
/-- a does not stand behind b (Go's b <= a is false). -/
def upN (a b : ByteArray) : Bool := !(ltN b a || b.toList == a.toList)
/-- The names rise. -/
def rise : List Mk → Bool
  | a :: b :: r => upN a.nm b.nm && rise (b :: r)
  | _ => true
theorem rise_iff : ∀ {l : List Mk}, rise l = true ↔ ∀ j, (h : j + 1 < l.length) → upN l[j].nm l[j+1].nm = true
  | [] => by simp [rise]
  | [a] => by simp [rise]
  | a :: b :: r => by
    rw [rise, Bool.and_eq_true, rise_iff (l := b :: r)]
    constructor
    · rintro ⟨h1, h2⟩ j h
      cases j with
      | zero => exact h1
      | succ j => exact h2 j (by simpa using h)
    · intro h
      exact ⟨h 0 (by simp), fun j hj => h (j + 1) (by simpa using hj)⟩
theorem rise_no {l : List Mk} {j : Nat} (h : j + 1 < l.length) (hj : (ltN l[j+1].nm l[j].nm || l[j+1].nm.toList == l[j].nm.toList) = true) : rise l = false := by
  rw [Bool.eq_false_iff]
  intro hh
  have := rise_iff.1 hh j h
  unfold upN at this
  rw [hj] at this
  cases this
instance : DecidableEq Mk := fun a b => match a, b with
  | ⟨x, i⟩, ⟨y, j⟩ => if h : x = y ∧ i = j then isTrue (by rw [h.1, h.2]) else isFalse (fun e => h (by injection e with e1 e2; exact ⟨e1, e2⟩))
/-- Go's == of marks. -/
theorem mk_beq (a b : Mk) : (a.nm.toList == b.nm.toList && (a.pl == b.pl)) = decide (a = b) := by
  rw [Bool.eq_iff_iff, decide_eq_true_eq, Bool.and_eq_true, beq_iff_eq, beq_iff_eq]
  constructor
  · rintro ⟨h1, h2⟩
    cases a; cases b
    simp only at h1 h2
    rw [ByteArray.toList_eq, ByteArray.toList_eq] at h1
    have := ByteArray.ext (Array.toList_inj.1 h1)
    rw [this, h2]
  · rintro rfl; exact ⟨rfl, rfl⟩
/-- The first place at which p holds; -1. -/
def zIdx (p : Mk → Bool) (l : List Mk) : Int := match l.findIdx? p with | some i => i | none => -1
theorem zIdx_some {p : Mk → Bool} {l : List Mk} {k : Nat} (hk : k < l.length) (h : p l[k] = true) (hb : ∀ j (hj : j < l.length), j < k → p l[j] = false) : zIdx p l = k := by
  have : l.findIdx? p = some k := by
    rw [List.findIdx?_eq_some_iff_getElem]
    exact ⟨hk, h, fun j hj => by rw [hb j (by omega) hj]; simp⟩
  rw [zIdx, this]
theorem zIdx_none {p : Mk → Bool} {l : List Mk} (hb : ∀ j (hj : j < l.length), p l[j] = false) : zIdx p l = -1 := by
  have : l.findIdx? p = none := by
    rw [List.findIdx?_eq_none_iff]
    intro x hx
    obtain ⟨j, hj, rfl⟩ := List.getElem_of_mem hx
    exact hb j hj
  rw [zIdx, this]
theorem zIdx_cases (p : Mk → Bool) (l : List Mk) : (∃ k, ∃ hk : k < l.length, zIdx p l = (k : Int) ∧ p l[k] = true ∧ ∀ j (hj : j < l.length), j < k → p l[j] = false) ∨ (zIdx p l = -1 ∧ ∀ j (hj : j < l.length), p l[j] = false) := by
  cases h : l.findIdx? p with
  | some k =>
    obtain ⟨hk, h1, h2⟩ := List.findIdx?_eq_some_iff_getElem.1 h
    exact .inl ⟨k, hk, by simp [zIdx, h], h1, fun j hj hjk => by have := h2 j hjk; simpa using this⟩
  | none =>
    rw [List.findIdx?_eq_none_iff] at h
    exact .inr ⟨by rw [zIdx, List.findIdx?_eq_none_iff.2 h], fun j hj => h _ (List.getElem_mem hj)⟩
end Go.Proofs.YtomfcgeibbicoaaGreat
namespace Go.Proofs.YtomfcgeibbicoaaGreat
theorem up_iff (a b : ByteArray) : upN a b = true ↔ a.toList < b.toList := by
  unfold upN ltN
  rw [bytesLess_eq, Bool.not_eq_true', Bool.or_eq_false_iff, decide_eq_false_iff_not, beq_eq_false_iff_ne]
  constructor
  · rintro ⟨h1, h2⟩
    rcases Std.le_total (a := a.toList) (b := b.toList) with h | h
    · exact Std.lt_of_le_of_ne h (fun e => h2 e.symm)
    · exact absurd (Std.lt_of_le_of_ne h h2) h1
  · intro h
    exact ⟨fun h' => List.lt_irrefl _ (List.lt_trans h h'), fun e => by rw [e] at h; exact List.lt_irrefl _ h⟩
theorem up_trans {a b c : ByteArray} (h : upN a b = true) (h' : upN b c = true) : upN a c = true :=
  (up_iff _ _).2 (List.lt_trans ((up_iff _ _).1 h) ((up_iff _ _).1 h'))
theorem up_asymm {a b : ByteArray} (h : upN a b = true) : upN b a = false := by
  rw [Bool.eq_false_iff]
  intro h'
  exact List.lt_irrefl _ (List.lt_trans ((up_iff _ _).1 h) ((up_iff _ _).1 h'))
theorem up_ne {a b : ByteArray} (h : upN a b = true) : (a.toList == b.toList) = false := by
  rw [beq_eq_false_iff_ne]
  intro e
  have := (up_iff _ _).1 h
  rw [e] at this
  exact List.lt_irrefl _ this
theorem up_congr {a b c : ByteArray} (h : a.toList = b.toList) : upN a c = upN b c := by unfold upN ltN; rw [h]
theorem up_congr' {a b c : ByteArray} (h : a.toList = b.toList) : upN c a = upN c b := by unfold upN ltN; rw [h]
/-- Each name stands ahead of all behind it. -/
theorem rise_cons {a : Mk} {l : List Mk} (h : rise (a :: l) = true) : (∀ x ∈ l, upN a.nm x.nm = true) ∧ rise l = true := by
  induction l generalizing a with
  | nil => exact ⟨by simp, rfl⟩
  | cons b r ih =>
    rw [rise, Bool.and_eq_true] at h
    obtain ⟨h1, h2⟩ := ih h.2
    refine ⟨fun x hx => ?_, h.2⟩
    rcases List.mem_cons.1 hx with rfl | hx
    · exact h.1
    · exact up_trans h.1 (h1 x hx)
theorem rise_split {l1 l2 : List Mk} {x : Mk} (h : rise (l1 ++ x :: l2) = true) : (∀ y ∈ l1, upN y.nm x.nm = true) ∧ (∀ y ∈ l2, upN x.nm y.nm = true) := by
  induction l1 with
  | nil => exact ⟨by simp, (rise_cons h).1⟩
  | cons a r ih =>
    obtain ⟨h1, h2⟩ := rise_cons (l := r ++ x :: l2) h
    obtain ⟨h3, h4⟩ := ih h2
    refine ⟨fun y hy => ?_, h4⟩
    rcases List.mem_cons.1 hy with rfl | hy
    · exact h1 x (by simp)
    · exact h3 y hy
end Go.Proofs.YtomfcgeibbicoaaGreat
namespace Go.Proofs.YtomfcgeibbicoaaGreat
/-- Has a mark another name? -/
def nmNot (s : ByteArray) (m : Mk) : Bool := !nmIs s m
theorem filt_yes {p : Mk → Bool} {l : List Mk} {k : Nat} (hk : k < l.length) (h : p l[k] = true) : (l.take (k + 1)).filter p = (l.take k).filter p ++ [l[k]] := by
  rw [List.take_succ_eq_append_getElem hk, List.filter_append]; simp [h]
theorem filt_no {p : Mk → Bool} {l : List Mk} {k : Nat} (hk : k < l.length) (h : p l[k] = false) : (l.take (k + 1)).filter p = (l.take k).filter p := by
  rw [List.take_succ_eq_append_getElem hk, List.filter_append]; simp [h]
theorem filt_len (p : Mk → Bool) (l : List Mk) (k : Nat) : ((l.take k).filter p).length ≤ k := Nat.le_trans (List.length_filter_le _ _) (List.length_take_le _ _)
/-- One more mark is gone over by the document's Set. -/
def stepI (m : Mk) (r : List Mk × Bool) (x : Mk) : List Mk × Bool := if (!r.2 && upN m.nm x.nm) = true then (r.1 ++ [m] ++ [x], true) else (r.1 ++ [x], r.2)
def foldI (m : Mk) (l : List Mk) : List Mk × Bool := l.foldl (stepI m) ([], false)
def endI (m : Mk) (r : List Mk × Bool) : List Mk := if r.2 = true then r.1 else r.1 ++ [m]
theorem foldI_succ (m : Mk) {l : List Mk} {k : Nat} (hk : k < l.length) : foldI m (l.take (k + 1)) = stepI m (foldI m (l.take k)) l[k] := by
  unfold foldI
  rw [List.take_succ_eq_append_getElem hk, List.foldl_append]; rfl
theorem stepI_len (m : Mk) (r : List Mk × Bool) (x : Mk) : (stepI m r x).1.length + (if (stepI m r x).2 = true then 0 else 1) = r.1.length + (if r.2 = true then 0 else 1) + 1 := by
  unfold stepI
  cases h : r.2 <;> cases h' : upN m.nm x.nm <;> simp
theorem foldI_len (m : Mk) (l : List Mk) : (foldI m l).1.length + (if (foldI m l).2 = true then 0 else 1) = l.length + 1 := by
  have : ∀ (l : List Mk) (r : List Mk × Bool), (l.foldl (stepI m) r).1.length + (if (l.foldl (stepI m) r).2 = true then 0 else 1) = r.1.length + (if r.2 = true then 0 else 1) + l.length := by
    intro l
    induction l with
    | nil => intro r; rfl
    | cons x l ih => intro r; rw [List.foldl_cons, ih, stepI_len, List.length_cons]; omega
  have := this l ([], false)
  unfold foldI
  rw [this]; simp; omega
theorem fold_pre (m : Mk) (r : List Mk) : ∀ (pre : List Mk), (∀ x ∈ pre, upN m.nm x.nm = false) → pre.foldl (stepI m) (r, false) = (r ++ pre, false) := by
  intro pre
  induction pre generalizing r with
  | nil => intro _; simp
  | cons x pre ih =>
    intro h
    have hx := h x (by simp)
    rw [List.foldl_cons, show stepI m (r, false) x = (r ++ [x], false) from by unfold stepI; rw [hx]; rfl, ih _ fun y hy => h y (by simp [hy])]
    simp
theorem fold_post (m : Mk) (r : List Mk) : ∀ (post : List Mk), post.foldl (stepI m) (r, true) = (r ++ post, true) := by
  intro post
  induction post generalizing r with
  | nil => simp
  | cons x post ih =>
    rw [List.foldl_cons, show stepI m (r, true) x = (r ++ [x], true) from by unfold stepI; rfl, ih]
    simp
theorem fold_mid (m : Mk) {pre post : List Mk} (h1 : ∀ x ∈ pre, upN m.nm x.nm = false) (h2 : ∀ x r, post = x :: r → upN m.nm x.nm = true) : endI m (foldI m (pre ++ post)) = pre ++ m :: post := by
  unfold foldI
  rw [List.foldl_append, fold_pre m [] pre h1, List.nil_append]
  cases post with
  | nil => rfl
  | cons x r =>
    have hx := h2 x r rfl
    rw [List.foldl_cons, show stepI m (pre, false) x = (pre ++ [m] ++ [x], true) from by unfold stepI; rw [hx]; rfl, fold_post]
    unfold endI
    simp
theorem cut_at {l : List Mk} {k : Nat} (hk : k < l.length) : l = l.take k ++ l[k] :: l.drop (k + 1) := by
  rw [← List.drop_eq_getElem_cons hk, List.take_append_drop]
theorem nm_eq {s : ByteArray} {m : Mk} (h : nmIs s m = true) : m.nm.toList = s.toList := by
  unfold nmIs at h; exact eq_of_beq h
theorem filt_found {s : ByteArray} {l : List Mk} {k : Nat} (hl : rise l = true) (hk : k < l.length) (hq : nmIs s l[k] = true) : l.filter (nmNot s) = l.take k ++ l.drop (k + 1) := by
  have hc := cut_at hk
  have hs := hl
  rw [hc] at hs
  obtain ⟨h1, h2⟩ := rise_split hs
  have he := nm_eq hq
  have e1 : (l.take k).filter (nmNot s) = l.take k := by
    rw [List.filter_eq_self]
    intro x hx
    have := up_ne (h1 x hx)
    unfold nmNot nmIs
    rw [← he, this]; rfl
  have e2 : (l.drop (k + 1)).filter (nmNot s) = l.drop (k + 1) := by
    rw [List.filter_eq_self]
    intro x hx
    have := up_ne (h2 x hx)
    unfold nmNot nmIs
    rw [← he, beq_eq_false_iff_ne.2 (fun e => (beq_eq_false_iff_ne.1 this) e.symm)]; rfl
  have e3 : nmNot s l[k] = false := by unfold nmNot; rw [hq]; rfl
  conv => lhs; rw [hc]
  rw [List.filter_append, List.filter_cons, e3, e1]
  simp only [Bool.false_eq_true, if_false]
  rw [e2]
end Go.Proofs.YtomfcgeibbicoaaGreat
