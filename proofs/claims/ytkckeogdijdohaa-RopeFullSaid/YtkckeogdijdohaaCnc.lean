/- Lists of chunks put together and mended. Plain Lean. -/
import Derived.Test.YtkckeogdijdohaaEdg
namespace Go.Proofs.Ytkckeogdijdohaa
open Go.RowKit
theorem tt_cons2 {a b : ByteArray} {l : List ByteArray} : Tt (a :: b :: l) ↔ 16 < a.size + b.size ∧ Tt (b :: l) := by
  constructor
  · intro h
    exact ⟨h 0 a b rfl rfl, fun i x y hx hy => h (i + 1) x y hx hy⟩
  · rintro ⟨h1, h2⟩ i x y hx hy
    cases i with
    | zero =>
      simp only [List.getElem?_cons_zero, Option.some.injEq, Nat.zero_add, List.getElem?_cons_succ] at hx hy
      subst hx; subst hy; exact h1
    | succ i => exact h2 i x y (by simpa using hx) (by simpa using hy)
theorem tt_nil : Tt [] := fun _ _ _ h => by simp at h
theorem tt_one (a : ByteArray) : Tt [a] := fun i _ _ _ h => by simp at h
theorem tt_mid {x : ByteArray} {b : List ByteArray} : ∀ {a : List ByteArray}, Tt (a ++ x :: b) ↔ Tt (a ++ [x]) ∧ Tt (x :: b)
  | [] => ⟨fun h => ⟨tt_one x, h⟩, fun h => h.2⟩
  | [c] => by
    show Tt (c :: x :: b) ↔ Tt (c :: x :: []) ∧ _
    rw [tt_cons2, tt_cons2]
    exact ⟨fun h => ⟨⟨h.1, tt_one x⟩, h.2⟩, fun h => ⟨h.1.1, h.2⟩⟩
  | c :: d :: a => by
    have ih := tt_mid (x := x) (b := b) (a := d :: a)
    show Tt (c :: d :: (a ++ x :: b)) ↔ Tt (c :: d :: (a ++ [x])) ∧ _
    rw [tt_cons2, tt_cons2]
    have ih' : Tt (d :: (a ++ x :: b)) ↔ Tt (d :: (a ++ [x])) ∧ Tt (x :: b) := ih
    rw [ih']
    exact ⟨fun h => ⟨⟨h.1, h.2.1⟩, h.2.2⟩, fun h => ⟨h.1.1, h.1.2, h.2⟩⟩
theorem tt_grow_head {y z : ByteArray} {t : List ByteArray} (h : Tt (y :: t)) (hz : y.size ≤ z.size) : Tt (z :: t) := by
  cases t with
  | nil => exact tt_one z
  | cons u t =>
    rw [tt_cons2] at h ⊢
    exact ⟨by omega, h.2⟩
theorem tt_grow_last {x z : ByteArray} : ∀ {d : List ByteArray}, Tt (d ++ [x]) → x.size ≤ z.size → Tt (d ++ [z])
  | [], _, _ => tt_one z
  | [c], h, hz => by
    have h' : Tt (c :: x :: []) := h
    show Tt (c :: z :: [])
    rw [tt_cons2] at h' ⊢
    exact ⟨by omega, tt_one z⟩
  | c :: d :: a, h, hz => by
    have h' : Tt (c :: d :: (a ++ [x])) := h
    show Tt (c :: d :: (a ++ [z]))
    rw [tt_cons2] at h' ⊢
    exact ⟨h'.1, tt_grow_last (d := d :: a) h'.2 hz⟩
theorem tt_seam {x y : ByteArray} {d t : List ByteArray} (h1 : Tt (d ++ [x])) (h2 : Tt (y :: t)) (h : 16 < x.size + y.size) : Tt (d ++ [x] ++ y :: t) := by
  rw [List.append_assoc]
  show Tt (d ++ x :: (y :: t))
  rw [tt_mid, tt_cons2]
  exact ⟨h1, h, h2⟩
def conc (ca cb : List ByteArray) : List ByteArray :=
  if ca = [] ∨ cb = [] ∨ 16 < (lastS ca).size + (headS cb).size then ca ++ cb else ca.dropLast ++ (lastS ca ++ headS cb) :: cb.tail
theorem last_split {ca : List ByteArray} (h : ca ≠ []) : ca = ca.dropLast ++ [lastS ca] := by
  have := (List.dropLast_concat_getLast h).symm
  have e : lastS ca = ca.getLast h := by
    unfold lastS
    rw [List.getLastD_eq_getLast?, List.getLast?_eq_some_getLast h]; rfl
  rw [e]; exact this
theorem head_split {cb : List ByteArray} (h : cb ≠ []) : cb = headS cb :: cb.tail := by
  cases cb with
  | nil => exact absurd rfl h
  | cons y t => rfl
theorem last_mem {ca : List ByteArray} (h : ca ≠ []) : lastS ca ∈ ca := by
  have hm : lastS ca ∈ ca.dropLast ++ [lastS ca] := by simp
  rwa [← last_split h] at hm
theorem head_mem {ca : List ByteArray} (h : ca ≠ []) : headS ca ∈ ca := by
  have hm : headS ca ∈ headS ca :: ca.tail := by simp
  rwa [← head_split h] at hm
theorem conc_good {ca cb : List ByteArray} (ha : GoodL ca) (hb : GoodL cb) : GoodL (conc ca cb) ∧ flat (conc ca cb) = flat ca ++ flat cb := by
  unfold conc
  split
  · next h =>
    refine ⟨⟨fun x hx => ?_, ?_⟩, flat_app ca cb⟩
    · rcases List.mem_append.1 hx with hx | hx
      · exact ha.1 x hx
      · exact hb.1 x hx
    · by_cases e1 : ca = []
      · subst e1; exact hb.2
      · by_cases e2 : cb = []
        · subst e2; rw [List.append_nil]; exact ha.2
        · have h3 := (h.resolve_left e1).resolve_left e2
          have s1 := last_split e1
          have s2 := head_split e2
          have t1 := ha.2
          have t2 := hb.2
          rw [s1] at t1
          rw [s2] at t2
          have := tt_seam t1 t2 h3
          rwa [← s1, ← s2] at this
  · next h =>
    have e1 : ca ≠ [] := fun e => h (.inl e)
    have e2 : cb ≠ [] := fun e => h (.inr (.inl e))
    have h3 : ¬ 16 < (lastS ca).size + (headS cb).size := fun e => h (.inr (.inr e))
    have s1 := last_split e1
    have s2 := head_split e2
    obtain ⟨g1, g2⟩ := ha
    obtain ⟨g3, g4⟩ := hb
    generalize lastS ca = x at *
    generalize headS cb = y at *
    generalize ca.dropLast = d at *
    generalize cb.tail = t at *
    subst s1; subst s2
    have fx := fitsB_iff.1 (g1 x (by simp))
    have fy := fitsB_iff.1 (g3 y (by simp))
    have hs := ByteArray.size_append (a := x) (b := y)
    refine ⟨⟨fun z hz => ?_, ?_⟩, ?_⟩
    · rcases List.mem_append.1 hz with hz | hz
      · exact g1 z (by simp [hz])
      · rcases List.mem_cons.1 hz with rfl | hz
        · exact fitsB_iff.2 ⟨by omega, by omega, valid_app fx.2.2 fy.2.2⟩
        · exact g3 z (by simp [hz])
    · rw [tt_mid]
      exact ⟨tt_grow_last g2 (by omega), tt_grow_head g4 (by omega)⟩
    · rw [flat_app, flat, flat_app, flat_one, flat]
      simp only [ByteArray.append_assoc]
theorem ct_seam {d b : List ByteArray} (hf : ∀ x ∈ b, fitsB x = true) : okAt (d ++ b) ((flat d).size : Int) ∧ ctL (d ++ b) ((flat d).size : Int) = d ∧ ctR (d ++ b) ((flat d).size : Int) = b := by
  have h := ct_app d b ((flat d).size : Int)
  rw [if_pos (Int.le_refl _), if_pos (Int.le_refl _), Int.sub_self, (ct_le hf (Int.le_refl 0)).1, (ct_le hf (Int.le_refl 0)).2, List.append_nil] at h
  refine ⟨?_, h.1, h.2⟩
  clear h
  induction d with
  | nil => exact okAt_zero hf
  | cons c d ih =>
    have hs := flat_size_cons c d
    simp only [List.cons_append, okAt]
    rw [if_pos (by omega)]
    have e : ((flat (c :: d)).size : Int) - (c.size : Int) = ((flat d).size : Int) := by omega
    rw [e]; exact ih
def mendL (cs : List ByteArray) : List ByteArray := if cs = [] then [] else conc cs.dropLast [lastS cs]
def mendR (cs : List ByteArray) : List ByteArray := if cs = [] then [] else conc [headS cs] cs.tail
theorem ctL_pre : ∀ (cs : List ByteArray) (p : Int), ∃ r, cs = (ctL cs p).dropLast ++ r
  | [], _ => ⟨[], rfl⟩
  | c :: cs, p => by
    simp only [ctL]
    split
    · obtain ⟨r, hr⟩ := ctL_pre cs (p - c.size)
      by_cases e : ctL cs (p - c.size) = []
      · rw [e]; exact ⟨_, rfl⟩
      · refine ⟨r, ?_⟩
        rw [List.dropLast_cons_of_ne_nil e, List.cons_append, ← hr]
    · split
      · exact ⟨_, rfl⟩
      · exact ⟨_, rfl⟩
theorem ctR_suf : ∀ (cs : List ByteArray) (p : Int), ∃ r, cs = r ++ (ctR cs p).tail
  | [], _ => ⟨[], rfl⟩
  | c :: cs, p => by
    simp only [ctR]
    split
    · obtain ⟨r, hr⟩ := ctR_suf cs (p - c.size)
      exact ⟨c :: r, by rw [List.cons_append, ← hr]⟩
    · split
      · exact ⟨[c], rfl⟩
      · exact ⟨[c], rfl⟩
theorem good_pre {a b : List ByteArray} (h : GoodL (a ++ b)) : GoodL a ∧ GoodL b := by
  refine ⟨⟨fun x hx => h.1 x (by simp [hx]), fun i x y hx hy => h.2 i x y ?_ ?_⟩, ⟨fun x hx => h.1 x (by simp [hx]), fun i x y hx hy => h.2 (a.length + i) x y ?_ ?_⟩⟩
  · rw [List.getElem?_append_left (List.getElem?_eq_some_iff.1 hx).1]; exact hx
  · rw [List.getElem?_append_left (List.getElem?_eq_some_iff.1 hy).1]; exact hy
  · rw [List.getElem?_append_right (by omega)]; rw [← hx]; congr 1; omega
  · rw [List.getElem?_append_right (by omega)]; rw [← hy]; congr 1; omega
theorem good_one {x : ByteArray} (h : fitsB x = true) : GoodL [x] := ⟨fun y hy => by rw [List.mem_singleton.1 hy]; exact h, tt_one x⟩
theorem mendL_good {cs : List ByteArray} {p : Int} (hg : GoodL cs) (ho : okAt cs p) : GoodL (mendL (ctL cs p)) ∧ flat (mendL (ctL cs p)) = flat (ctL cs p) := by
  unfold mendL
  split
  · next h => rw [h]; exact ⟨⟨(fun _ h => by cases h), tt_nil⟩, rfl⟩
  · next h =>
    obtain ⟨r, hr⟩ := ctL_pre cs p
    have h1 : GoodL (ctL cs p).dropLast := (good_pre (hr ▸ hg)).1
    have s1 := last_split h
    have hf := (ct_fit hg.1 ho).1
    have h2 : GoodL [lastS (ctL cs p)] := good_one (hf _ (last_mem h))
    obtain ⟨g1, g2⟩ := conc_good h1 h2
    exact ⟨g1, by rw [g2, ← flat_app, ← s1]⟩
theorem mendR_good {cs : List ByteArray} {p : Int} (hg : GoodL cs) (ho : okAt cs p) : GoodL (mendR (ctR cs p)) ∧ flat (mendR (ctR cs p)) = flat (ctR cs p) := by
  unfold mendR
  split
  · next h => rw [h]; exact ⟨⟨(fun _ h => by cases h), tt_nil⟩, rfl⟩
  · next h =>
    obtain ⟨r, hr⟩ := ctR_suf cs p
    have h1 : GoodL (ctR cs p).tail := (good_pre (hr ▸ hg)).2
    have s1 := head_split h
    have hf := (ct_fit hg.1 ho).2
    have h2 : GoodL [headS (ctR cs p)] := good_one (hf _ (head_mem h))
    obtain ⟨g1, g2⟩ := conc_good h2 h1
    refine ⟨g1, ?_⟩
    rw [g2, ← flat_app]
    show flat (headS (ctR cs p) :: (ctR cs p).tail) = _
    rw [← s1]
end Go.Proofs.Ytkckeogdijdohaa
