/- What is asked of lists of marks, in plain Lean. -/
import Derived.Test.YtcffkmlnbnjibaaGreatMk
namespace Go.Proofs.YtcffkmlnbnjibaaGreat
/-- Has a mark this name? -/
def nmIs (s : ByteArray) (m : Mk) : Bool := m.nm.toList == s.toList
/-- The place of the first mark of a name; -1. -/
def atZ (s : ByteArray) (l : List Mk) : Int := match l.findIdx? (nmIs s) with | some i => i | none => -1
/-- The place in the text of the first mark of a name. -/
def findM (s : ByteArray) (l : List Mk) : Int × Bool := match l.find? (nmIs s) with | some m => (m.pl, true) | none => (0, false)
theorem idx_some {s : ByteArray} {l : List Mk} {k : Nat} (hk : k < l.length) (h : nmIs s l[k] = true) (hb : ∀ j (hj : j < l.length), j < k → nmIs s l[j] = false) : l.findIdx? (nmIs s) = some k := by
  rw [List.findIdx?_eq_some_iff_getElem]
  exact ⟨hk, h, fun j hj => by rw [hb j (by omega) hj]; simp⟩
theorem idx_none {s : ByteArray} {l : List Mk} (hb : ∀ j (hj : j < l.length), nmIs s l[j] = false) : l.findIdx? (nmIs s) = none := by
  rw [List.findIdx?_eq_none_iff]
  intro x hx
  obtain ⟨j, hj, rfl⟩ := List.getElem_of_mem hx
  exact hb j hj
theorem findM_some {s : ByteArray} {l : List Mk} {k : Nat} (hk : k < l.length) (h : nmIs s l[k] = true) (hb : ∀ j (hj : j < l.length), j < k → nmIs s l[j] = false) : findM s l = (l[k].pl, true) := by
  unfold findM
  have : l.find? (nmIs s) = some l[k] := by
    rw [List.find?_eq_some_iff_getElem]
    exact ⟨h, k, hk, rfl, fun j hj => by rw [hb j (by omega) hj]; rfl⟩
  rw [this]
theorem findM_none {s : ByteArray} {l : List Mk} (hb : ∀ j (hj : j < l.length), nmIs s l[j] = false) : findM s l = (0, false) := by
  unfold findM
  have : l.find? (nmIs s) = none := by
    rw [List.find?_eq_none]
    intro x hx
    obtain ⟨j, hj, rfl⟩ := List.getElem_of_mem hx
    rw [hb j hj]; simp
  rw [this]
/-- The place that atZ tells is one, or there is no such mark. -/
theorem atZ_cases (s : ByteArray) (l : List Mk) : (∃ k, ∃ hk : k < l.length, atZ s l = (k : Int) ∧ nmIs s l[k] = true ∧ ∀ j (hj : j < l.length), j < k → nmIs s l[j] = false) ∨ (atZ s l = -1 ∧ ∀ j (hj : j < l.length), nmIs s l[j] = false) := by
  cases h : l.findIdx? (nmIs s) with
  | some k =>
    obtain ⟨hk, h1, h2⟩ := List.findIdx?_eq_some_iff_getElem.1 h
    exact .inl ⟨k, hk, by simp [atZ, h], h1, fun j hj hjk => by have := h2 j hjk; simpa using this⟩
  | none =>
    rw [List.findIdx?_eq_none_iff] at h
    exact .inr ⟨by rw [atZ, List.findIdx?_eq_none_iff.2 h], fun j hj => h _ (List.getElem_mem hj)⟩
/-- One name stands ahead of another one. -/
def ltN (a b : ByteArray) : Bool := Op.bytesLess a.toList b.toList
/-- a does not stand behind b (Go's b <= a is false). -/
def upN (a b : ByteArray) : Bool := !(ltN b a || b.toList == a.toList)
/-- The names rise. -/
def rise : List Mk → Bool
  | a :: b :: r => upN a.nm b.nm && rise (b :: r)
  | _ => true
theorem rise_iff : ∀ {l : List Mk}, rise l = true ↔ ∀ j, (h : j + 1 < l.length) → upN l[j].nm l[j+1].nm = true
  | [] => by simp [rise]
  | [a] => by simp [rise]
  | a :: b :: r => by
    rw [rise, Bool.and_eq_true, rise_iff (l := b :: r)]
    constructor
    · rintro ⟨h1, h2⟩ j h
      cases j with
      | zero => exact h1
      | succ j => exact h2 j (by simpa using h)
    · intro h
      exact ⟨h 0 (by simp), fun j hj => h (j + 1) (by simpa using hj)⟩
theorem rise_no {l : List Mk} {j : Nat} (h : j + 1 < l.length) (hj : (ltN l[j+1].nm l[j].nm || l[j+1].nm.toList == l[j].nm.toList) = true) : rise l = false := by
  rw [Bool.eq_false_iff]
  intro hh
  have := rise_iff.1 hh j h
  unfold upN at this
  rw [hj] at this
  cases this
instance : DecidableEq Mk := fun a b => match a, b with
  | ⟨x, i⟩, ⟨y, j⟩ => if h : x = y ∧ i = j then isTrue (by rw [h.1, h.2]) else isFalse (fun e => h (by injection e with e1 e2; exact ⟨e1, e2⟩))
/-- Go's == of marks. -/
theorem mk_beq (a b : Mk) : (a.nm.toList == b.nm.toList && (a.pl == b.pl)) = decide (a = b) := by
  rw [Bool.eq_iff_iff, decide_eq_true_eq, Bool.and_eq_true, beq_iff_eq, beq_iff_eq]
  constructor
  · rintro ⟨h1, h2⟩
    cases a; cases b
    simp only at h1 h2
    rw [ByteArray.toList_eq, ByteArray.toList_eq] at h1
    have := ByteArray.ext (Array.toList_inj.1 h1)
    rw [this, h2]
  · rintro rfl; exact ⟨rfl, rfl⟩
/-- The first place at which p holds; -1. -/
def zIdx (p : Mk → Bool) (l : List Mk) : Int := match l.findIdx? p with | some i => i | none => -1
theorem zIdx_some {p : Mk → Bool} {l : List Mk} {k : Nat} (hk : k < l.length) (h : p l[k] = true) (hb : ∀ j (hj : j < l.length), j < k → p l[j] = false) : zIdx p l = k := by
  have : l.findIdx? p = some k := by
    rw [List.findIdx?_eq_some_iff_getElem]
    exact ⟨hk, h, fun j hj => by rw [hb j (by omega) hj]; simp⟩
  rw [zIdx, this]
theorem zIdx_none {p : Mk → Bool} {l : List Mk} (hb : ∀ j (hj : j < l.length), p l[j] = false) : zIdx p l = -1 := by
  have : l.findIdx? p = none := by
    rw [List.findIdx?_eq_none_iff]
    intro x hx
    obtain ⟨j, hj, rfl⟩ := List.getElem_of_mem hx
    exact hb j hj
  rw [zIdx, this]
theorem zIdx_cases (p : Mk → Bool) (l : List Mk) : (∃ k, ∃ hk : k < l.length, zIdx p l = (k : Int) ∧ p l[k] = true ∧ ∀ j (hj : j < l.length), j < k → p l[j] = false) ∨ (zIdx p l = -1 ∧ ∀ j (hj : j < l.length), p l[j] = false) := by
  cases h : l.findIdx? p with
  | some k =>
    obtain ⟨hk, h1, h2⟩ := List.findIdx?_eq_some_iff_getElem.1 h
    exact .inl ⟨k, hk, by simp [zIdx, h], h1, fun j hj hjk => by have := h2 j hjk; simpa using this⟩
  | none =>
    rw [List.findIdx?_eq_none_iff] at h
    exact .inr ⟨by rw [zIdx, List.findIdx?_eq_none_iff.2 h], fun j hj => h _ (List.getElem_mem hj)⟩
end Go.Proofs.YtcffkmlnbnjibaaGreat
