/- The plain law of Set and Drop: in a list whose names rise both texts come to the same. No Go here. -/
import Derived.Test.YtcffkmlnbnjibaaGreatMkS
import Derived.Sort.Walk0
namespace Go.Proofs.YtcffkmlnbnjibaaGreat
theorem up_iff (a b : ByteArray) : upN a b = true ↔ a.toList < b.toList := by
  unfold upN ltN
  rw [bytesLess_eq, Bool.not_eq_true', Bool.or_eq_false_iff, decide_eq_false_iff_not, beq_eq_false_iff_ne]
  constructor
  · rintro ⟨h1, h2⟩
    rcases Std.le_total (a := a.toList) (b := b.toList) with h | h
    · exact Std.lt_of_le_of_ne h (fun e => h2 e.symm)
    · exact absurd (Std.lt_of_le_of_ne h h2) h1
  · intro h
    exact ⟨fun h' => List.lt_irrefl _ (List.lt_trans h h'), fun e => by rw [e] at h; exact List.lt_irrefl _ h⟩
theorem up_trans {a b c : ByteArray} (h : upN a b = true) (h' : upN b c = true) : upN a c = true :=
  (up_iff _ _).2 (List.lt_trans ((up_iff _ _).1 h) ((up_iff _ _).1 h'))
theorem up_asymm {a b : ByteArray} (h : upN a b = true) : upN b a = false := by
  rw [Bool.eq_false_iff]
  intro h'
  exact List.lt_irrefl _ (List.lt_trans ((up_iff _ _).1 h) ((up_iff _ _).1 h'))
theorem up_ne {a b : ByteArray} (h : upN a b = true) : (a.toList == b.toList) = false := by
  rw [beq_eq_false_iff_ne]
  intro e
  have := (up_iff _ _).1 h
  rw [e] at this
  exact List.lt_irrefl _ this
theorem up_congr {a b c : ByteArray} (h : a.toList = b.toList) : upN a c = upN b c := by unfold upN ltN; rw [h]
theorem up_congr' {a b c : ByteArray} (h : a.toList = b.toList) : upN c a = upN c b := by unfold upN ltN; rw [h]
/-- Each name stands ahead of all behind it. -/
theorem rise_cons {a : Mk} {l : List Mk} (h : rise (a :: l) = true) : (∀ x ∈ l, upN a.nm x.nm = true) ∧ rise l = true := by
  induction l generalizing a with
  | nil => exact ⟨by simp, rfl⟩
  | cons b r ih =>
    rw [rise, Bool.and_eq_true] at h
    obtain ⟨h1, h2⟩ := ih h.2
    refine ⟨fun x hx => ?_, h.2⟩
    rcases List.mem_cons.1 hx with rfl | hx
    · exact h.1
    · exact up_trans h.1 (h1 x hx)
theorem rise_split {l1 l2 : List Mk} {x : Mk} (h : rise (l1 ++ x :: l2) = true) : (∀ y ∈ l1, upN y.nm x.nm = true) ∧ (∀ y ∈ l2, upN x.nm y.nm = true) := by
  induction l1 with
  | nil => exact ⟨by simp, (rise_cons h).1⟩
  | cons a r ih =>
    obtain ⟨h1, h2⟩ := rise_cons (l := r ++ x :: l2) h
    obtain ⟨h3, h4⟩ := ih h2
    refine ⟨fun y hy => ?_, h4⟩
    rcases List.mem_cons.1 hy with rfl | hy
    · exact h1 x (by simp)
    · exact h3 y hy
end Go.Proofs.YtcffkmlnbnjibaaGreat
