/- Arguments opened: a list of deeds upon a rope. -/
import Derived.Test.YtkckeogdijdohaaRpF
import Derived.Test.YtkckeogdijdohaaRowG
namespace Go.Proofs.Ytkckeogdijdohaa
open Go.ChangeShapes Go.WideShapes Go.ChangeAt Go.RowKit Go.Deep Go.Joins
section
variable {H : Type} {enc : TypeId × Value → H} {w : World} {base : Nat} {spare : Nat → Bool} {held : Bool}
set_option maxRecDepth 100000 in
theorem open_rop1 {fuel : Nat} {cs : List Value} {x : DataW H × List MemPlace} (h : DataW.trod enc Try.prog w base spare held fuel 49 cs = some x) : ∃ m : Op3, cs = Op3.cs m ∧ True := by
  obtain ⟨xs, n, _, _, hl, hxl, hf⟩ := DataW.trod_struct Try.underlying49 h
  have hl2 : cs.length = 3 := hl.trans (by kernel_rfl)
  match cs, hl2 with
  | [c0, c1, c2], _ =>
    have h0 : DataW.trod enc Try.prog w base spare held n 3 (([c0, c1, c2].drop 0).take (Try.prog.cellsOf 3)) = xs[0]? := hf 0 _ rfl
    have h1 : DataW.trod enc Try.prog w base spare held n 3 (([c0, c1, c2].drop 1).take (Try.prog.cellsOf 3)) = xs[1]? := hf 1 _ rfl
    have h2 : DataW.trod enc Try.prog w base spare held n 9 (([c0, c1, c2].drop 2).take (Try.prog.cellsOf 9)) = xs[2]? := hf 2 _ rfl
    have e0 : ([c0, c1, c2].drop 0).take (Try.prog.cellsOf 3) = [c0] := by rw [show Try.prog.cellsOf 3 = 1 from by kernel_rfl]; rfl
    have e1 : ([c0, c1, c2].drop 1).take (Try.prog.cellsOf 3) = [c1] := by rw [show Try.prog.cellsOf 3 = 1 from by kernel_rfl]; rfl
    have e2 : ([c0, c1, c2].drop 2).take (Try.prog.cellsOf 9) = [c2] := by rw [show Try.prog.cellsOf 9 = 1 from by kernel_rfl]; rfl
    rw [e0] at h0
    rw [e1] at h1
    rw [e2] at h2
    match xs, hxl with
    | [y0, y1, y2], _ =>
      obtain ⟨i, hi, _, hw⟩ := DataW.trod_int Try.underlying3 h0
      obtain ⟨j, hj, _, _⟩ := DataW.trod_int Try.underlying3 h1
      obtain ⟨s, hs, _, hsz⟩ := DataW.trod_string Try.underlying9 h2
      injection hs with hs
      injection hi with hi
      injection hj with hj
      subst hs; subst hi; subst hj
      exact ⟨⟨i, j, s⟩, rfl, trivial⟩
set_option maxRecDepth 100000 in
theorem open_rops' {a0 : Option Addr} {len0 cap0 : Nat} {t : TypeId} (ht : Try.prog.underlying t = some (.slice 49)) {d : DataW H} {p : List MemPlace} (h : DataW.Trod enc Try.prog w base spare held t (.slice a0 len0 cap0) d p) :
    ∃ l : List Op3, Row w 3 a0 len0 (l.flatMap Op3.cs) ∧ len0 ≤ cap0 ∧ cap0 ≤ maxLen ∧ (a0 = none → cap0 = 0) ∧ ∀ m ∈ l, True :=
  open_arg Op3.cs 3 (fun _ => rfl) (by decide) (fun _ => True) ht (by kernel_rfl) (fun _ _ _ hx => open_rop1 hx) h
end
end Go.Proofs.Ytkckeogdijdohaa
