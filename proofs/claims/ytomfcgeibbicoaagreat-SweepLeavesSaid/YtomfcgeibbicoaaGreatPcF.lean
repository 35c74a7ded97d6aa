/- Walk: the document's answer for what is left of a text. -/
import Derived.Test.YtomfcgeibbicoaaGreatPc0
namespace Go.Proofs.YtomfcgeibbicoaaGreat
open Go.RowKit
theorem conv_made_at (w : World) (g : Nat) (hg : g = w.heap.size) (n : Nat) (hn : n ≤ 900000) : (convert 201 9 (.slice (some ⟨g, 0, none⟩) n n)).run Tryz.prog (w.alloc (.cells (bys (zeroS n)).toArray 5)) = .ok (.string (zeroS n)) (w.alloc (.cells (bys (zeroS n)).toArray 5)) := by
  subst hg
  exact conv_made w n hn
theorem cnt_mono {a b : Nat} (h : a ≤ b) : cntS a ≤ cntS b := by unfold cntS; omega
end Go.Proofs.YtomfcgeibbicoaaGreat
