/- Arguments opened: an edit. -/
import Derived.Test.YtkclpflgndgabaaRowKit
import Derived.Test.YtkclpflgndgabaaEdA
namespace Go.Proofs.Ytkclpflgndgabaa
open Go.ChangeShapes Go.WideShapes Go.ChangeAt Go.RowKit Go.Deep Go.Joins
section
variable {H : Type} {enc : TypeId × Value → H} {w : World} {base : Nat} {spare : Nat → Bool} {held : Bool}
theorem open_edit {r : Reach} {b0 : Nat} {v : Value} {d : DataW H} {p : List MemPlace} (hv : Value.okWide Try.prog w r b0 38 v) (h : DataW.Trod enc Try.prog w base spare held 38 v d p) :
    ∃ m : Ed, v = .agg #[.int .i64 m.pl, .string m.old, .string m.nw] ∧ m.old.size ≤ maxLen ∧ m.nw.size ≤ maxLen ∧ (Lit.int .i64 m.pl).wf = true := by
  obtain ⟨cs, rfl, hsz⟩ := okWide_struct Try.underlying38 hv
  obtain ⟨fuel, hf⟩ := h
  obtain ⟨xs, n, _, _, hl, hxl, hg⟩ := DataW.trod_struct Try.underlying38 hf
  have hl3 : cs.toList.length = 3 := hl.trans (by kernel_rfl)
  obtain ⟨l⟩ := cs
  match l, hl3 with
  | [c0, c1, c2], _ =>
    have h0 : DataW.trod enc Try.prog w base spare held n 3 (([c0, c1, c2].drop 0).take (Try.prog.cellsOf 3)) = xs[0]? := hg 0 _ rfl
    have h1 : DataW.trod enc Try.prog w base spare held n 9 (([c0, c1, c2].drop 1).take (Try.prog.cellsOf 9)) = xs[1]? := hg 1 _ rfl
    have h2 : DataW.trod enc Try.prog w base spare held n 9 (([c0, c1, c2].drop 2).take (Try.prog.cellsOf 9)) = xs[2]? := hg 2 _ rfl
    rw [show ([c0, c1, c2].drop 0).take (Try.prog.cellsOf 3) = [c0] from by rw [show Try.prog.cellsOf 3 = 1 from by kernel_rfl]; rfl] at h0
    rw [show ([c0, c1, c2].drop 1).take (Try.prog.cellsOf 9) = [c1] from by rw [show Try.prog.cellsOf 9 = 1 from by kernel_rfl]; rfl] at h1
    rw [show ([c0, c1, c2].drop 2).take (Try.prog.cellsOf 9) = [c2] from by rw [show Try.prog.cellsOf 9 = 1 from by kernel_rfl]; rfl] at h2
    match xs, hxl with
    | [y0, y1, y2], _ =>
      obtain ⟨i, hi, _, hw⟩ := DataW.trod_int Try.underlying3 h0
      obtain ⟨a, ha, _, hsa⟩ := DataW.trod_string Try.underlying9 h1
      obtain ⟨b, hb, _, hsb⟩ := DataW.trod_string Try.underlying9 h2
      injection hi with hi
      injection ha with ha
      injection hb with hb
      subst hi; subst ha; subst hb
      exact ⟨⟨i, a, b⟩, rfl, hsa, hsb, hw⟩
end
end Go.Proofs.Ytkclpflgndgabaa
