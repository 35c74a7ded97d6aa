/- Laws: a struct is stored into a block, and read as a result. No program is named here. -/
import Derived.Test.YtomfcgeibbicoaaGreatRun
namespace Go.Proofs.YtomfcgeibbicoaaGreat
open Go.RowKit
section
variable {P : Program}
theorem run_store_k (w : World) (ty : TypeId) (v : Value) (g o : Nat) (cur : List Value) (t : TypeId) (cs : List Value) (hv : v.cells.toList = cs) (hs : (P.info? ty).map (·.size) = some cs.length) (hg : Blk w g t cur) (hfit : o + cs.length ≤ cur.length) (h1 : ∀ v ∈ cs, v.oneCell' = true) :
    (storeVar ty ⟨g, o, none⟩ v).run P w = .ok () (w.setRow g (spl cur o cs).toArray) := by
  have hst := run_storeCells_at P g o t cs 0 cur.toArray w hg (by simpa using hfit) h1
  cases hq : P.info? ty with
  | none => simp [hq] at hs
  | some i =>
    have hsz : i.size = cs.length := by simpa [hq] using hs
    have hvs : v.cells.size = cs.length := by rw [← hv]; simp
    simp only [Nat.add_zero] at hst
    simp [storeVar, sizeOf, typeInfo, hq, hvs, hsz, hv, hst, spl]
theorem exec_store_k {w : World} {o : Oper} {a : Act} (ty : TypeId) (x y : Operand) (ho : o.op = .store ty x y) (v : Value) (g off : Nat) (cur : List Value) (t : TypeId) (cs : List Value) (hx : a.eval x = .pointer (some ⟨g, off, none⟩)) (hy : a.eval y = v)
    (hv : v.cells.toList = cs) (hs : (P.info? ty).map (·.size) = some cs.length) (hg : Blk w g t cur) (hfit : off + cs.length ≤ cur.length) (h1 : ∀ v ∈ cs, v.oneCell' = true) :
    (execOp a.eval o).run P w = .ok .skip (w.setRow g (spl cur off cs).toArray) := by
  have hrun := run_store_k (P := P) w ty v g off cur t cs hv hs hg hfit h1
  unfold execOp
  simp only [ho, hx, hy, Instr.storeAt, Instr.sureAddr, Sem.run_bind, Sem.run_pure, Result.andThen_ok, hrun]
theorem wpList_store_k {w : World} {ops : Array Oper} {rest : List Oper} {o : Oper} {a : Act} {Q : Exit → Act → World → Prop} (hgd : o.guard = none) (ty : TypeId) (x y : Operand) (ho : o.op = .store ty x y) (v : Value) (g off : Nat) (cur : List Value) (t : TypeId) (cs : List Value) (hx : a.eval x = .pointer (some ⟨g, off, none⟩)) (hy : a.eval y = v)
    (hv : v.cells.toList = cs) (hs : (P.info? ty).map (·.size) = some cs.length) (hg : Blk w g t cur) (hfit : off + cs.length ≤ cur.length) (h1 : ∀ v ∈ cs, v.oneCell' = true)
    (K : ∀ w', Blk w' g t (spl cur off cs) → w.grownBy w' (some g) → wpList P ops Q rest (a.put o.dst undef) w') : wpList P ops Q (o :: rest) a w :=
  wpList_plain hgd fun _ hK => by
    unfold Oper.wp
    rw [exec_store_k ty x y ho v g off cur t cs hx hy hv hs hg hfit h1]
    exact hK _ _ (K _ (blk_setRow hg) (grown_setRow w g _))
theorem step_store_k {w : World} {ops : Array Oper} {o : Oper} {a : Act} {K : Act → World → Prop} {Q : Exit → Act → World → Prop} {E : Prop} (hgd : o.guard = none) (ty : TypeId) (x y : Operand) (ho : o.op = .store ty x y) (v : Value) (g off : Nat) (cur : List Value) (t : TypeId) (cs : List Value) (hx : a.eval x = .pointer (some ⟨g, off, none⟩)) (hy : a.eval y = v)
    (hv : v.cells.toList = cs) (hs : (P.info? ty).map (·.size) = some cs.length) (hg : Blk w g t cur) (hfit : off + cs.length ≤ cur.length) (h1 : ∀ v ∈ cs, v.oneCell' = true)
    (hK : ∀ w', Blk w' g t (spl cur off cs) → w.grownBy w' (some g) → K (a.put o.dst undef) w') : if Region.wanted o (yielded ops a.tmps) = true then Oper.wp P o a w K Q else E := by
  rw [if_pos (by simp [Region.wanted, hgd])]
  unfold Oper.wp
  rw [exec_store_k ty x y ho v g off cur t cs hx hy hv hs hg hfit h1]
  exact hK _ (blk_setRow hg) (grown_setRow w g _)
/-- Behind a store into a new block all that was is as it was. -/
theorem below_store {B : Nat} {w0 w w' : World} {g : Nat} (hb : Below B w0 w) (hB : B ≤ g) (hBw : B ≤ w.heap.size) (hg : w.grownBy w' (some g)) : Below B w0 w' :=
  hb.grown hg hBw fun k hk => by injection hk with e; omega
end
theorem Blk.new (w : World) (cs : List Value) (t : TypeId) : Blk (w.alloc (.cells cs.toArray t)) w.heap.size t cs := heap_alloc_new w _
end Go.Proofs.YtomfcgeibbicoaaGreat
