/- A region that draws its order, whose operations come to the same values in every world that has grown out of the one ahead of it: one walk in the order of the text. -/
import Derived.Test.YtomfcgeibbicoaaGreatBase
import Derived.Deep.QuietTactic
import Derived.BigQuiet
namespace Go.Proofs.YtomfcgeibbicoaaGreat
open Go.RowKit
/-- A world that has grown out of w. -/
structure Wd (w : World) where
  v : World
  ex : Ex w v
instance (w : World) : Nonempty (Wd w) := ⟨⟨w, Ex.refl w⟩⟩
theorem Wd.cell {w : World} {b o : Nat} {u : Value} (hc : w.cell? ⟨b, o, none⟩ = some u) : ∀ x : Wd w, x.v.cell? ⟨b, o, none⟩ = some u := fun x => x.ex.cell hc
theorem wp_region_calm {P : Program} {id : Nat} {Q : Exit → Act → World → Prop} {a : Act} {w : World} {l : List Oper} (hm : P.follows .mixedOrders = true) (hB : Region.lexB .any l.toArray = true)
    (h : wpQuiet P l.toArray (fun w' => ∃ x : Wd w, w' = x.v) (fun a' => ∀ w', (∃ x : Wd w, w' = x.v) → Q .normal a' w') l a) : (Code.region id l.toArray true).wp P Q a w :=
  wp_region_quiet (C := fun w' => ∃ x : Wd w, w' = x.v) hm hB ⟨⟨w.drew, (Ex.refl w).drew⟩, rfl⟩ (by simpa using h)
theorem calm_world {w w' : World} (h : ∃ x : Wd w, w' = x.v) : Ex w w' := by
  obtain ⟨x, rfl⟩ := h
  exact x.ex
/-- A callee's contract, met in such a world. -/
theorem calm_of {P : Program} {f : FuncId} {args : Array Value} {w : World} {x : Wd w} {v : Value} (h : Calls P f args x.v fun e w' => e = .returned v ∧ Ex x.v w') : Calls P f args x.v fun e w'' => e = .returned v ∧ ∃ y : Wd w, w'' = y.v :=
  h.mono fun _ w' ⟨he, hb⟩ => ⟨he, ⟨⟨w', x.ex.trans hb⟩, rfl⟩⟩
theorem calm_same {P : Program} {f : FuncId} {args : Array Value} {w : World} {x : Wd w} {v : Value} (h : Calls P f args x.v fun e w' => e = .returned v ∧ w' = x.v) : Calls P f args x.v fun e w'' => e = .returned v ∧ ∃ y : Wd w, w'' = y.v :=
  h.mono fun _ _ ⟨he, hb⟩ => ⟨he, ⟨x, hb⟩⟩
end Go.Proofs.YtomfcgeibbicoaaGreat
