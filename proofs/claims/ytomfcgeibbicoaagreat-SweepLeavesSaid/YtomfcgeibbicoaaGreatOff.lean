/- A call that writes into blocks of its own: which blocks may turn. -/
import Derived.Test.YtomfcgeibbicoaaGreatSto
namespace Go.Proofs.YtomfcgeibbicoaaGreat
open Go.RowKit
/-- Of what there was, only blocks of F have turned. -/
structure Off (F : Nat → Prop) (w w' : World) : Prop where
  os : w'.os = w.os
  tape : w'.tape = w.tape
  output : w'.output = w.output
  size : w.heap.size ≤ w'.heap.size
  block : ∀ k, k < w.heap.size → ¬ F k → w'.heap[k]? = w.heap[k]?
theorem Off.refl (F : Nat → Prop) (w : World) : Off F w w := ⟨rfl, rfl, rfl, Nat.le_refl _, fun _ _ _ => rfl⟩
theorem Off.trans {F : Nat → Prop} {a b c : World} (h : Off F a b) (k : Off F b c) : Off F a c :=
  ⟨k.os.trans h.os, k.tape.trans h.tape, k.output.trans h.output, Nat.le_trans h.size k.size, fun i hi hf => (k.block i (Nat.lt_of_lt_of_le hi h.size) hf).trans (h.block i hi hf)⟩
theorem Off.mono {F G : Nat → Prop} {w w' : World} (h : Off F w w') (hF : ∀ k, k < w.heap.size → F k → G k) : Off G w w' := ⟨h.os, h.tape, h.output, h.size, fun k hk hg => h.block k hk fun hf => hg (hF k hk hf)⟩
/-- The second call may write into new blocks of the first one. -/
theorem Off.then {F G : Nat → Prop} {a b c : World} (h : Off F a b) (k : Off G b c) (hG : ∀ k, k < a.heap.size → G k → F k) : Off F a c :=
  ⟨k.os.trans h.os, k.tape.trans h.tape, k.output.trans h.output, Nat.le_trans h.size k.size, fun i hi hf => (k.block i (Nat.lt_of_lt_of_le hi h.size) (fun hg => hf (hG i hi hg))).trans (h.block i hi hf)⟩
theorem Ex.off {w w' : World} (h : Ex w w') (F : Nat → Prop) : Off F w w' := ⟨h.os, h.tape, h.output, h.size, fun k hk _ => h.block k hk⟩
theorem Off.ex {F : Nat → Prop} {w w' : World} (h : Off F w w') (hF : ∀ k, k < w.heap.size → ¬ F k) : Ex w w' := ⟨h.os, h.tape, h.output, h.size, fun k hk => h.block k hk (hF k hk)⟩
theorem Off.below {F : Nat → Prop} {B : Nat} {w w' : World} (h : Off F w w') (hB : B ≤ w.heap.size) (hF : ∀ k, F k → B ≤ k) : Below B w w' := ⟨h.os, h.tape, h.output, h.size, fun k hk => h.block k (by omega) (fun hf => by have := hF k hf; omega)⟩
theorem Off.setCell {F : Nat → Prop} {a w : World} (h : Off F a w) {p : Addr} (hp : F p.block ∨ a.heap.size ≤ p.block) (u : Value) : Off F a (w.setCell p u) :=
  ⟨h.os, h.tape, h.output, by simpa [World.setCell] using h.size, fun k hk hf => (Below.heap_setCell _ _ _ _ (fun e => by subst e; rcases hp with hp | hp; exact hf hp; omega)).trans (h.block k hk hf)⟩
theorem off_set (w : World) (g k : Nat) (v : Value) : Off (· = g) w (w.setCell ⟨g, k, none⟩ v) := (Off.refl (· = g) w).setCell (p := ⟨g, k, none⟩) (.inl (show g = g from rfl)) v
theorem Off.drew {F : Nat → Prop} {a w : World} (h : Off F a w) : Off F a w.drew := ⟨h.os, h.tape, h.output, h.size, h.block⟩
theorem Off.alloc {F : Nat → Prop} {a w : World} (h : Off F a w) (o : Obj) : Off F a (w.alloc o) := h.trans ((ex_alloc (Ex.refl w) o).off F)
theorem Off.grown {F : Nat → Prop} {a w w' : World} {row : Option Nat} (h : Off F a w) (hg : w.grownBy w' row) (hr : ∀ k, row = some k → F k ∨ a.heap.size ≤ k) : Off F a w' :=
  ⟨hg.os.trans h.os, hg.tape.trans h.tape, hg.output.trans h.output, Nat.le_trans h.size hg.size, fun k hk hf => (hg.block k (Nat.lt_of_lt_of_le hk h.size) (fun e => by rcases hr k e.symm with h1 | h1; exact hf h1; omega)).trans (h.block k hk hf)⟩
theorem Blk.off {F : Nat → Prop} {w w' : World} {g : Nat} {e : TypeId} {cur : List Value} (h : Blk w g e cur) (hb : Off F w w') (hg : ¬ F g) : Blk w' g e cur := (hb.block g h.lt hg).trans h
theorem Off.cell {F : Nat → Prop} {w w' : World} (h : Off F w w') {b o : Nat} {u : Value} (hc : w.cell? ⟨b, o, none⟩ = some u) (hb : ¬ F b) : w'.cell? ⟨b, o, none⟩ = some u :=
  (World.cell?_of_block (w := w) (h.block b (World.block_lt_of_cell? w _ hc) hb)).trans hc
/-- A row that stands outside F. -/
def RowO (F : Nat → Prop) (w : World) (sz : Nat) (A : Option Addr) (n : Nat) (cs : List Value) : Prop := Row w sz A n cs ∧ ∀ a, A = some a → ¬ F a.block
theorem RowO.off {F : Nat → Prop} {w w' : World} {sz n : Nat} {A : Option Addr} {cs : List Value} (h : RowO F w sz A n cs) (hb : Off F w w') : RowO F w' sz A n cs := by
  refine ⟨⟨h.1.1, fun hn => ?_⟩, h.2⟩
  obtain ⟨b, o, e, hc⟩ := h.1.2 hn
  exact ⟨b, o, e, fun j u hu => hb.cell (hc j u hu) (h.2 _ e)⟩
/-- .. also where F has got new blocks. -/
theorem Row.lt {w : World} {sz n b o : Nat} {m : Option Nat} {cs : List Value} (h : Row w sz (some ⟨b, o, m⟩) n cs) (hn : 0 < n) (hs : 0 < sz) : b < w.heap.size := by
  obtain ⟨b', o', e, hc⟩ := h.2 hn
  have hl : 0 < cs.length := by rw [h.1]; exact Nat.mul_pos hn hs
  injection e with e
  injection e with e1 e2 e3
  have := World.block_lt_of_cell? w _ (hc 0 _ (List.getElem?_eq_getElem hl))
  rw [e1]; exact this
end Go.Proofs.YtomfcgeibbicoaaGreat
