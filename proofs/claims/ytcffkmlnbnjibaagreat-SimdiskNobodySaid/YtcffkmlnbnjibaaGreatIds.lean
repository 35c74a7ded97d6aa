/- Numbers in a rising list, once each; sets of numbers as maps. No program is named here. -/
import Derived.Test.YtcffkmlnbnjibaaGreatMap
namespace Go.Proofs.YtcffkmlnbnjibaaGreat
open Go.RowKit Go.Maps
def insI (n : Int) : List Int → List Int
  | [] => [n]
  | x :: r => if n < x then n :: x :: r else x :: insI n r
def addI (l : List Int) (n : Int) : List Int := if n ∈ l then l else insI n l
theorem insI_mem (n x : Int) : ∀ l : List Int, x ∈ insI n l ↔ x = n ∨ x ∈ l
  | [] => by simp [insI]
  | y :: r => by
    unfold insI
    split
    · simp
    · rw [List.mem_cons, insI_mem n x r, List.mem_cons]
      constructor
      · rintro (h | h | h)
        · exact .inr (.inl h)
        · exact .inl h
        · exact .inr (.inr h)
      · rintro (h | h | h)
        · exact .inr (.inl h)
        · exact .inl h
        · exact .inr (.inr h)
theorem insI_len (n : Int) : ∀ l : List Int, (insI n l).length = l.length + 1
  | [] => rfl
  | x :: r => by
    unfold insI
    split
    · rfl
    · simp [insI_len n r]
theorem addI_mem (l : List Int) (n x : Int) : x ∈ addI l n ↔ x = n ∨ x ∈ l := by
  unfold addI
  split
  · rename_i h
    exact ⟨.inr, fun h' => by rcases h' with rfl | h'; exact h; exact h'⟩
  · exact insI_mem n x l
theorem addI_len (l : List Int) (n : Int) : (addI l n).length ≤ l.length + 1 := by
  unfold addI
  split
  · omega
  · rw [insI_len]; omega
abbrev Up (l : List Int) : Prop := l.Pairwise fun a b => a < b
theorem insI_up {n : Int} : ∀ {l : List Int}, Up l → n ∉ l → Up (insI n l)
  | [], _, _ => by simp [insI, Up]
  | x :: r, h, hn => by
    obtain ⟨h1, h2⟩ := List.pairwise_cons.1 h
    unfold insI
    split
    · rename_i hlt
      refine List.pairwise_cons.2 ⟨fun y hy => ?_, h⟩
      rcases List.mem_cons.1 hy with rfl | hy
      · exact hlt
      · have := h1 y hy; omega
    · rename_i hlt
      refine List.pairwise_cons.2 ⟨fun y hy => ?_, insI_up h2 fun hm => hn (by simp [hm])⟩
      rcases (insI_mem n y r).1 hy with rfl | hy
      · have : y ≠ x := fun e => hn (by simp [e])
        omega
      · exact h1 y hy
theorem addI_up {n : Int} {l : List Int} (h : Up l) : Up (addI l n) := by
  unfold addI
  split
  · exact h
  · rename_i hn; exact insI_up h hn
def setI (xs : List Int) : List Int := xs.foldl addI []
theorem foldI_up : ∀ (xs : List Int) {l : List Int}, Up l → Up (xs.foldl addI l)
  | [], _, h => h
  | _ :: r, _, h => foldI_up r (addI_up h)
theorem foldI_mem (x : Int) : ∀ (xs : List Int) (l : List Int), x ∈ xs.foldl addI l ↔ x ∈ xs ∨ x ∈ l
  | [], l => by simp
  | y :: r, l => by
    rw [List.foldl_cons, foldI_mem x r, addI_mem, List.mem_cons]
    constructor
    · rintro (h | h | h)
      · exact .inl (.inr h)
      · exact .inl (.inl h)
      · exact .inr h
    · rintro ((h | h) | h)
      · exact .inr (.inl h)
      · exact .inl h
      · exact .inr (.inr h)
theorem setI_up (xs : List Int) : Up (setI xs) := foldI_up xs List.Pairwise.nil
theorem setI_mem (x : Int) (xs : List Int) : x ∈ setI xs ↔ x ∈ xs := by
  unfold setI
  rw [foldI_mem]; simp
theorem foldI_lenI : ∀ (xs : List Int) (l : List Int), (xs.foldl addI l).length ≤ l.length + xs.length
  | [], l => by simp
  | y :: r, l => by
    have h1 := foldI_lenI r (addI l y)
    have h2 := addI_len l y
    rw [List.foldl_cons, List.length_cons]
    omega
theorem up_nodup {l : List Int} (h : Up l) : l.Nodup := h.imp fun {a b} h => by omega
/-- Rising lists of the same numbers are one. -/
theorem up_ext {l l' : List Int} (h : Up l) (h' : Up l') (hm : ∀ x, x ∈ l ↔ x ∈ l') : l = l' := by
  have hp := (List.perm_ext_iff_of_nodup (up_nodup h) (up_nodup h')).2 hm
  exact List.Perm.eq_of_pairwise (le := fun a b => a < b) (fun a b _ _ h1 h2 => by omega) h h' hp
theorem insL_mem (x p : Lit × Value) : ∀ l : List (Lit × Value), p ∈ insL x l ↔ p = x ∨ p ∈ l
  | [] => by simp [insL]
  | y :: r => by
    unfold insL
    split
    · simp
    · rw [List.mem_cons, insL_mem x p r, List.mem_cons]
      constructor
      · rintro (h | h | h)
        · exact .inr (.inl h)
        · exact .inl h
        · exact .inr (.inr h)
      · rintro (h | h | h)
        · exact .inr (.inl h)
        · exact .inl h
        · exact .inr (.inr h)
theorem stoL_mem (kl : Lit) (v : Value) (l : List (Lit × Value)) (p : Lit × Value) : p ∈ stoL kl v l ↔ p = (kl, v) ∨ (p ∈ l ∧ p.1.sameKey kl = false) := by
  unfold stoL delL
  rw [insL_mem, List.mem_filter]
  simp
theorem insL_len (x : Lit × Value) : ∀ l : List (Lit × Value), (insL x l).length = l.length + 1
  | [] => rfl
  | y :: r => by
    unfold insL
    split
    · rfl
    · simp [insL_len x r]
theorem stoL_len (kl : Lit) (v : Value) (l : List (Lit × Value)) : (stoL kl v l).length ≤ l.length + 1 := by
  unfold stoL
  rw [insL_len]
  have := List.length_filter_le (fun p : Lit × Value => !p.1.sameKey kl) l
  unfold delL
  omega
abbrev inK (x : Int) : Lit := .int .i64 x
theorem sameI (x y : Int) : (inK x).sameKey (inK y) = decide (x = y) := by
  show decide (IntKind.i64 = IntKind.i64 ∧ x = y) = _
  simp
/-- Numbers as keys, numbers as elements; the keys are those of S. -/
structure SetV (l : List (Lit × Value)) (S : Int → Prop) : Prop where
  el : ∀ p ∈ l, ∃ x c, p = (inK x, .int .i64 c)
  ke : ∀ x, (∃ c, (inK x, Value.int .i64 c) ∈ l) ↔ S x
theorem SetV.nil : SetV [] fun _ => False := ⟨(fun p hp => by cases hp), fun x => ⟨(fun ⟨_, h⟩ => by cases h), fun h => h.elim⟩⟩
theorem SetV.put {l : List (Lit × Value)} {S : Int → Prop} (h : SetV l S) (x c : Int) : SetV (stoL (inK x) (.int .i64 c) l) (fun y => y = x ∨ S y) := by
  refine ⟨fun p hp => ?_, fun y => ?_⟩
  · rcases (stoL_mem _ _ _ _).1 hp with rfl | ⟨hp, _⟩
    · exact ⟨x, c, rfl⟩
    · exact h.el p hp
  · constructor
    · rintro ⟨d, hd⟩
      rcases (stoL_mem _ _ _ _).1 hd with e | ⟨hp, _⟩
      · injection e with e1 e2
        injection e1 with _ e3
        exact .inl e3
      · exact .inr ((h.ke y).1 ⟨d, hp⟩)
    · intro hy
      by_cases e : y = x
      · subst e; exact ⟨c, (stoL_mem _ _ _ _).2 (.inl rfl)⟩
      · have hS : S y := by rcases hy with hy | hy; exact absurd hy e; exact hy
        obtain ⟨d, hd⟩ := (h.ke y).2 hS
        exact ⟨d, (stoL_mem _ _ _ _).2 (.inr ⟨hd, by rw [sameI]; exact decide_eq_false e⟩)⟩
theorem SetV.mono {l : List (Lit × Value)} {S T : Int → Prop} (h : SetV l S) (hS : ∀ x, S x ↔ T x) : SetV l T := ⟨h.el, fun x => (h.ke x).trans (hS x)⟩
theorem SetV.get {l : List (Lit × Value)} {S : Int → Prop} (h : SetV l S) (x : Int) : ∃ c, getL l (inK x) (.int .i64 0) = .int .i64 c := by
  unfold getL
  cases hf : l.find? (fun p => p.1.sameKey (inK x)) with
  | none => exact ⟨0, rfl⟩
  | some p =>
    obtain ⟨y, c, rfl⟩ := h.el p (List.mem_of_find?_eq_some hf)
    exact ⟨c, rfl⟩
theorem intKeys_asD (l : List (Lit × Value)) : intKeys (asD l) = l.map fun p => Go.intOf p.1 := by
  show (l.map fun p => (p.1, DataW.held p.2)).map (fun p => Go.intOf p.1) = _
  rw [List.map_map]
  rfl
theorem SetV.keys {l : List (Lit × Value)} {S : Int → Prop} (h : SetV l S) (x : Int) : x ∈ (l.map fun p => Go.intOf p.1) ↔ S x := by
  rw [← h.ke x, List.mem_map]
  constructor
  · rintro ⟨p, hp, hx⟩
    obtain ⟨y, c, rfl⟩ := h.el p hp
    obtain rfl : y = x := hx
    exact ⟨c, hp⟩
  · rintro ⟨c, hc⟩
    exact ⟨_, hc, rfl⟩
theorem SetV.up {l : List (Lit × Value)} {S : Int → Prop} (h : SetV l S) (hr : l.Pairwise fun p q => p.1.before q.1 = true) : Up (l.map fun p => Go.intOf p.1) := by
  show List.Pairwise _ _
  rw [List.pairwise_map]
  refine hr.imp_of_mem fun {p q} hp hq hb => ?_
  obtain ⟨x, c, rfl⟩ := h.el p hp
  obtain ⟨y, d, rfl⟩ := h.el q hq
  exact of_decide_eq_true hb
end Go.Proofs.YtcffkmlnbnjibaaGreat
