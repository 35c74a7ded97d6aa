/- Which blocks a tree lies in: it stands behind whatever changes others alone. s[k:]. -/
import Derived.Test.YtkckeogdijdohaaKnC
namespace Go.Proofs.Ytkckeogdijdohaa
open Go.RowKit
/-- All blocks of the tree at v, of height h, are ok. -/
def Fp (ok : Nat → Prop) : Nat → World → Value → Prop
  | 0, _, v => ∀ g, v = .pointer (some ⟨g, 0, none⟩) → ok g
  | h + 1, w, v => ∀ g, v = .pointer (some ⟨g, 0, none⟩) → ok g ∧ ∀ b o n c, w.cell? ⟨g, 5, none⟩ = some (.slice (some ⟨b, o, none⟩) n c) → ok b ∧ ∀ j q, j < n → w.cell? ⟨b, o + j, none⟩ = some q → Fp ok h w q
theorem Fp.mono {ok ok' : Nat → Prop} (hm : ∀ b, ok b → ok' b) : ∀ {h : Nat} {w : World} {v : Value}, Fp ok h w v → Fp ok' h w v
  | 0, _, _, x => fun g e => hm _ (x g e)
  | _ + 1, _, _, x => fun g e => ⟨hm _ (x g e).1, fun b o n c hc => ⟨hm _ ((x g e).2 b o n c hc).1, fun j q hj hq => (((x g e).2 b o n c hc).2 j q hj hq).mono hm⟩⟩
theorem Kids.mem_vs {ks : Kids} {j : Nat} {q : Value} (h : ks.vs[j]? = some q) : ∃ k ∈ ks, k.1 = q := by
  obtain ⟨k, hk, e⟩ := List.mem_map.1 (List.mem_of_getElem? h)
  exact ⟨k, hk, e⟩
theorem Row.kid_at {w : World} {b o n c : Nat} {A : Option Addr} {cap : Nat} {ks : Kids} {j : Nat} {q : Value} (hr : Row w 1 A ks.length ks.vs) (e : (Value.slice A ks.length cap) = .slice (some ⟨b, o, none⟩) n c) (hj : j < n) (hq : w.cell? ⟨b, o + j, none⟩ = some q) : ∃ k ∈ ks, k.1 = q := by
  injection e with e1 e2 e3
  subst e1; subst e2
  obtain ⟨b', o', e4, hc⟩ := hr.kid hj
  injection e4 with e4
  injection e4 with e5 e6
  subst e5; subst e6
  rw [hq] at hc
  injection hc with hc
  exact ⟨_, List.getElem_mem hj, hc.symm⟩
/-- A tree lies in blocks that are there. -/
theorem Kn.fp {ok : Nat → Prop} : ∀ {h : Nat} {w : World} {v : Value} {cs : List ByteArray}, Kn h w v cs → Fp ok h w v → Fp (fun b => ok b ∧ b < w.heap.size) h w v
  | 0, _, _, _, ⟨g, s, e, e1, hf, hn⟩, x => by
    subst e
    intro g' e'
    injection e' with e'; injection e' with e'; injection e' with e'
    subst e'
    exact ⟨x _ rfl, World.block_lt_of_cell? _ _ hn.c0⟩
  | h + 1, w, _, _, ⟨g, A, cap, ks, e, h2, h8, e1, hn, hr, hk⟩, x => by
    subst e
    intro g' e'
    injection e' with e'; injection e' with e'; injection e' with e'
    subst e'
    obtain ⟨x1, x2⟩ := x _ rfl
    refine ⟨⟨x1, World.block_lt_of_cell? _ _ hn.c0⟩, fun b o n c hc => ?_⟩
    have hc' := hc
    rw [hn.c5] at hc
    injection hc with hc
    obtain ⟨x3, x4⟩ := x2 b o n c hc'
    refine ⟨⟨x3, ?_⟩, fun j q hj hq => ?_⟩
    · obtain ⟨b', o', e4, hc4⟩ := hr.kid (k := 0) (by omega)
      injection hc with e5 e6
      rw [e5] at e4
      injection e4 with e4
      injection e4 with e7 e8
      subst e7
      exact World.block_lt_of_cell? _ _ hc4
    · obtain ⟨k, hm, rfl⟩ := Row.kid_at hr hc hj hq
      exact Kn.fp (hk k hm) (x4 j k.1 hj hq)
theorem Fp.all : ∀ {h : Nat} {w : World} {v : Value}, Fp (fun _ => True) h w v
  | 0, _, _ => fun _ _ => trivial
  | _ + 1, _, _ => fun _ _ => ⟨trivial, fun _ _ _ _ _ => ⟨trivial, fun _ _ _ _ => Fp.all⟩⟩
/-- A tree in a world in which its blocks read as before. -/
theorem Kn.keep {ok : Nat → Prop} : ∀ {h : Nat} {w w' : World} {v : Value} {cs : List ByteArray}, Kn h w v cs → Fp ok h w v → (∀ b o u, ok b → w.cell? ⟨b, o, none⟩ = some u → w'.cell? ⟨b, o, none⟩ = some u) → Kn h w' v cs ∧ Fp ok h w' v
  | 0, _, _, _, _, ⟨g, s, e, e1, hf, hn⟩, x, hk => by
    subst e
    have hg := x g rfl
    exact ⟨⟨g, s, rfl, e1, hf, ⟨hk _ _ _ hg hn.c0, hk _ _ _ hg hn.c1, hk _ _ _ hg hn.c2, hk _ _ _ hg hn.c3, hk _ _ _ hg hn.c4, hk _ _ _ hg hn.c5⟩⟩, x⟩
  | h + 1, w, w', _, cs, ⟨g, A, cap, ks, e, h2, h8, e1, hn, hr, hk⟩, x, hkeep => by
    subst e
    obtain ⟨hg, x2⟩ := x g rfl
    obtain ⟨b, o, e4, hc0⟩ := hr.kid (k := 0) (by omega)
    subst e4
    obtain ⟨hb, x4⟩ := x2 b o ks.length cap hn.c5
    have hrow : Row w' 1 (some ⟨b, o, none⟩) ks.length ks.vs := by
      refine ⟨hr.1, fun h0 => ⟨b, o, rfl, fun j u hu => ?_⟩⟩
      obtain ⟨b', o', e5, hcell⟩ := hr.2 h0
      injection e5 with e5
      injection e5 with e6 e7
      subst e6; subst e7
      exact hkeep _ _ _ hb (hcell j u hu)
    have hkid : ∀ k ∈ ks, Kn h w' k.1 k.2 ∧ Fp ok h w' k.1 := by
      intro k hm
      obtain ⟨j, hj, e⟩ := List.getElem_of_mem hm
      obtain ⟨b', o', e5, hcell⟩ := hr.kid hj
      injection e5 with e5
      injection e5 with e6 e7
      subst e6; subst e7
      rw [e] at hcell
      exact Kn.keep (hk k hm) (x4 j k.1 hj hcell) hkeep
    refine ⟨⟨g, _, cap, ks, rfl, h2, h8, e1, ⟨hkeep _ _ _ hg hn.c0, hkeep _ _ _ hg hn.c1, hkeep _ _ _ hg hn.c2, hkeep _ _ _ hg hn.c3, hkeep _ _ _ hg hn.c4, hkeep _ _ _ hg hn.c5⟩, hrow, fun k hm => (hkid k hm).1⟩, ?_⟩
    intro g' e'
    injection e' with e'; injection e' with e'; injection e' with e'
    subst e'
    refine ⟨hg, fun b' o' n c hc => ?_⟩
    rw [hkeep _ _ _ hg hn.c5] at hc
    injection hc with hc
    have hc' := hc
    injection hc with e5 e6 e7
    injection e5 with e5
    injection e5 with e8 e9
    subst e8; subst e9
    refine ⟨hb, fun j q hj hq => ?_⟩
    obtain ⟨k, hm, rfl⟩ := Row.kid_at hrow hc' hj hq
    exact (hkid k hm).2
/-- What stands in any other block stands behind an append. -/
theorem grown_cell {w w' : World} {r : Option Nat} (h : w.grownBy w' r) : ∀ b o u, (r ≠ some b) → w.cell? ⟨b, o, none⟩ = some u → w'.cell? ⟨b, o, none⟩ = some u := by
  intro b o u hr hc
  have hlt := World.block_lt_of_cell? _ _ hc
  have := h.block b hlt (fun e => hr e.symm)
  unfold World.cell? at hc ⊢
  simp only [this]
  exact hc
section
variable {P : Program}
theorem run_tail (w : World) (t e : TypeId) (k : Nat) (hu : P.underlying t = some (.slice e)) (hs : (P.info? e).map (·.size) = some k) (A : Option Addr) (n cap l : Nat) (h : l ≤ n) :
    (Instr.sliceAt t (.slice A n cap) (some (.int .i64 (l : Int))) none none).run P w = .ok (.slice (if cap = l then A else A.map (·.add (l * k))) (n - l) (cap - l)) w := by
  cases hq : P.info? e with
  | none => simp [hq] at hs
  | some i =>
    have hi : i.size = k := by simpa [hq] using hs
    have h1 : (l : Int) ≤ (n : Int) := by omega
    simp [Instr.sliceAt, Instr.slice, run_underlying hu, Instr.sliceBounds, run_sliceBound, h1, sizeOf, typeInfo, hq, hi]
theorem wpList_tail {w : World} {ops : Array Oper} {rest : List Oper} {o : Oper} {a : Act} {Q : Exit → Act → World → Prop} (hgd : o.guard = none) (t : TypeId) (x y : Operand) (ho : o.op = .slice t x (some y) none none) (e : TypeId) (k : Nat) (hu : P.underlying t = some (.slice e)) (hs : (P.info? e).map (·.size) = some k)
    (A : Option Addr) (n cap l : Nat) (cs : List Value) (hx : a.eval x = .slice A n cap) (hy : a.eval y = .int .i64 (l : Int)) (h : l ≤ n) (hc : n ≤ cap)
    (K : ∀ A', (∀ w2, Row w2 k A n cs → Row w2 k A' (n - l) (cs.drop (l * k))) → wpList P ops Q rest (a.put o.dst (.slice A' (n - l) (cap - l))) w) : wpList P ops Q (o :: rest) a w := by
  refine wpList_plain hgd fun _ hK => ?_
  unfold Oper.wp
  have := run_tail (P := P) w t e k hu hs A n cap l h
  simp only [execOp, ho, Option.map_some, Option.map_none, hx, hy, this, Sem.run_bind, Sem.run_pure, Result.andThen_ok]
  exact hK _ _ (K _ fun _ hr => hr.cut h hc)
theorem step_tail {w : World} {ops : Array Oper} {o : Oper} {a : Act} {K : Act → World → Prop} {Q : Exit → Act → World → Prop} {E : Prop} (hgd : o.guard = none) (t : TypeId) (x y : Operand) (ho : o.op = .slice t x (some y) none none) (e : TypeId) (k : Nat) (hu : P.underlying t = some (.slice e)) (hs : (P.info? e).map (·.size) = some k)
    (A : Option Addr) (n cap l : Nat) (cs : List Value) (hx : a.eval x = .slice A n cap) (hy : a.eval y = .int .i64 (l : Int)) (h : l ≤ n) (hc : n ≤ cap)
    (hK : ∀ A', (∀ w2, Row w2 k A n cs → Row w2 k A' (n - l) (cs.drop (l * k))) → K (a.put o.dst (.slice A' (n - l) (cap - l))) w) : if Region.wanted o (yielded ops a.tmps) = true then Oper.wp P o a w K Q else E := by
  rw [if_pos (by simp [Region.wanted, hgd])]
  unfold Oper.wp
  have := run_tail (P := P) w t e k hu hs A n cap l h
  simp only [execOp, ho, Option.map_some, Option.map_none, hx, hy, this, Sem.run_bind, Sem.run_pure, Result.andThen_ok]
  exact hK _ fun _ hr => hr.cut h hc
end
/-- What Leaf and Join hand back, and where it lies. -/
def NodeF (ok : Nat → Prop) (h : Nat) (cs : List ByteArray) (w : World) (e : Ending) (w' : World) : Prop := ∃ v, e = .returned v ∧ Kn h w' v cs ∧ Fp (fun b => ok b ∨ w.heap.size ≤ b) h w' v ∧ Ex w w'
theorem size_kn : (Try.prog.info? 23).map (·.size) = some 1 := by kernel_rfl
end Go.Proofs.Ytkckeogdijdohaa
