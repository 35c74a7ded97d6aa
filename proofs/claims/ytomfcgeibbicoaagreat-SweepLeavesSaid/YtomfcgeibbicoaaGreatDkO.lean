/- Walks: the page's example of a disk; SimdiskNobody. -/
import Derived.Test.YtomfcgeibbicoaaGreatDkN
namespace Go.Proofs.YtomfcgeibbicoaaGreat
open Go.RowKit Go.Maps
/-- All blocks that were not there. -/
abbrev NewB (w : World) : Nat → Prop := fun k => w.heap.size ≤ k
theorem new_fresh {w wi wj : World} (hX : Ex w wi) : ∀ k, Fresh (NewB w) wi wj k → NewB w k := fun k hk => by
  rcases hk with hk | hk
  · exact hk
  · exact Nat.le_trans hX.size hk.1
theorem new_off {w wi wj : World} (hX : Ex w wi) (hO : Off (NewB w) wi wj) : Ex w wj := Below.trans hX (hO.below hX.size fun _ hk => hk)
/-- A step of a disk of the call's own. -/
theorem DkP.step {w wi wj : World} {g : Nat} {Q : DkV} (hX : Ex w wi) (h : DkP wj g (Fresh (NewB w) wi wj) Q) (hO : Off (NewB w) wi wj) : DkP wj g (NewB w) Q ∧ Ex w wj := ⟨h.more (new_fresh hX), new_off hX hO⟩
theorem DkP.bound {w : World} {g : Nat} {F : Nat → Prop} {Q : DkV} (h : DkP w g F Q) : DkP w g (fun k => F k ∧ k < w.heap.size) Q := by
  obtain ⟨tm, fg, fz, FF, l, tb, h⟩ := h
  exact ⟨tm, fg, fz, FF, l, tb, h.bound⟩
def sA : ByteArray := ⟨#[97]⟩
def sX : ByteArray := ⟨#[120]⟩
def sE : ByteArray := ⟨#[]⟩
end Go.Proofs.YtomfcgeibbicoaaGreat
