/- The plain law of Set and Drop, joined. -/
import Derived.Test.YtkclpflgndgabaaMkL
import Derived.Test.YtkclpflgndgabaaMkI
namespace Go.Proofs.Ytkclpflgndgabaa
theorem fold_pre (m : Mk) (r : List Mk) : ∀ (pre : List Mk), (∀ x ∈ pre, upN m.nm x.nm = false) → pre.foldl (stepI m) (r, false) = (r ++ pre, false) := by
  intro pre
  induction pre generalizing r with
  | nil => intro _; simp
  | cons x pre ih =>
    intro h
    have hx := h x (by simp)
    rw [List.foldl_cons, show stepI m (r, false) x = (r ++ [x], false) from by unfold stepI; rw [hx]; rfl, ih _ fun y hy => h y (by simp [hy])]
    simp
theorem fold_post (m : Mk) (r : List Mk) : ∀ (post : List Mk), post.foldl (stepI m) (r, true) = (r ++ post, true) := by
  intro post
  induction post generalizing r with
  | nil => simp
  | cons x post ih =>
    rw [List.foldl_cons, show stepI m (r, true) x = (r ++ [x], true) from by unfold stepI; rfl, ih]
    simp
theorem fold_mid (m : Mk) {pre post : List Mk} (h1 : ∀ x ∈ pre, upN m.nm x.nm = false) (h2 : ∀ x r, post = x :: r → upN m.nm x.nm = true) : endI m (foldI m (pre ++ post)) = pre ++ m :: post := by
  unfold foldI
  rw [List.foldl_append, fold_pre m [] pre h1, List.nil_append]
  cases post with
  | nil => rfl
  | cons x r =>
    have hx := h2 x r rfl
    rw [List.foldl_cons, show stepI m (pre, false) x = (pre ++ [m] ++ [x], true) from by unfold stepI; rw [hx]; rfl, fold_post]
    unfold endI
    simp
theorem cut_at {l : List Mk} {k : Nat} (hk : k < l.length) : l = l.take k ++ l[k] :: l.drop (k + 1) := by
  rw [← List.drop_eq_getElem_cons hk, List.take_append_drop]
theorem nm_eq {s : ByteArray} {m : Mk} (h : nmIs s m = true) : m.nm.toList = s.toList := by
  unfold nmIs at h; exact eq_of_beq h
theorem filt_found {s : ByteArray} {l : List Mk} {k : Nat} (hl : rise l = true) (hk : k < l.length) (hq : nmIs s l[k] = true) : l.filter (nmNot s) = l.take k ++ l.drop (k + 1) := by
  have hc := cut_at hk
  have hs := hl
  rw [hc] at hs
  obtain ⟨h1, h2⟩ := rise_split hs
  have he := nm_eq hq
  have e1 : (l.take k).filter (nmNot s) = l.take k := by
    rw [List.filter_eq_self]
    intro x hx
    have := up_ne (h1 x hx)
    unfold nmNot nmIs
    rw [← he, this]; rfl
  have e2 : (l.drop (k + 1)).filter (nmNot s) = l.drop (k + 1) := by
    rw [List.filter_eq_self]
    intro x hx
    have := up_ne (h2 x hx)
    unfold nmNot nmIs
    rw [← he, beq_eq_false_iff_ne.2 (fun e => (beq_eq_false_iff_ne.1 this) e.symm)]; rfl
  have e3 : nmNot s l[k] = false := by unfold nmNot; rw [hq]; rfl
  conv => lhs; rw [hc]
  rw [List.filter_append, List.filter_cons, e3, e1]
  simp only [Bool.false_eq_true, if_false]
  rw [e2]
theorem drop_same {s : ByteArray} {l : List Mk} (hl : rise l = true) : dropP s l = dropM s l := by
  unfold dropP dropM
  rcases atZ_cases s l with ⟨k, hk, hz, hq, hr⟩ | ⟨_, hr⟩
  · rw [if_pos (findM_of hk hq hr), if_pos (findM_of hk hq hr), hz, filt_found hl hk hq, Int.toNat_natCast, List.eraseIdx_eq_take_drop_succ]
  · rw [if_neg (by rw [findM_none hr]; simp), if_neg (by rw [findM_none hr]; simp)]
theorem set_same {l : List Mk} {m : Mk} (hl : rise l = true) : setM l m = setR l m := by
  unfold setM setR
  split
  · rfl
  · rcases atZ_cases m.nm l with ⟨k, hk, hz, hq, hr⟩ | ⟨_, hr⟩
    · rw [if_pos (findM_of hk hq hr), if_pos (findM_of hk hq hr), hz, filt_found hl hk hq, Int.toNat_natCast]
      have hs := hl
      rw [cut_at hk] at hs
      obtain ⟨h1, h2⟩ := rise_split hs
      have he := nm_eq hq
      rw [fold_mid m (fun x hx => up_asymm (by rw [← up_congr' he]; exact h1 x hx)) (fun x r hx => by rw [← up_congr he]; exact h2 x (by rw [hx]; simp))]
      rw [List.set_eq_take_append_cons_drop, if_pos hk]
    · have hf : ¬ (findM m.nm l).2 = true := by rw [findM_none hr]; simp
      rw [if_neg hf, if_neg hf]
      split
      · rfl
      · rcases zIdx_cases (fun x => upN m.nm x.nm) l with ⟨j, hj, hzj, hq, hb⟩ | ⟨hzj, hb⟩
        · rw [hzj, if_neg (by omega), Int.toNat_natCast]
          have := fold_mid m (pre := l.take j) (post := l.drop j) (fun x hx => by
            obtain ⟨i, hi, rfl⟩ := List.getElem_of_mem hx
            rw [List.length_take] at hi
            rw [List.getElem_take]
            exact hb i (by omega) (by omega)) (fun x r hx => by
            rw [List.drop_eq_getElem_cons hj] at hx
            injection hx with hx _
            rw [← hx]; exact hq)
          rw [List.take_append_drop] at this
          rw [this]
        · rw [hzj, if_pos rfl]
          have := fold_mid m (pre := l) (post := []) (fun x hx => by
            obtain ⟨i, hi, rfl⟩ := List.getElem_of_mem hx
            exact hb i hi) (fun x r hx => by cases hx)
          rw [List.append_nil] at this
          rw [this]
end Go.Proofs.Ytkclpflgndgabaa
