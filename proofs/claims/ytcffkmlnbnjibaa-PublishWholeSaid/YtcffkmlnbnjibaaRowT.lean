/- Arguments opened: three texts. -/
import Derived.Test.YtcffkmlnbnjibaaRowG
namespace Go.Proofs.Ytcffkmlnbnjibaa
open Go.ChangeShapes Go.WideShapes Go.ChangeAt Go.RowKit Go.Deep Go.Joins
section
variable {H : Type} {enc : TypeId × Value → H} {w : World} {base : Nat} {spare : Nat → Bool} {held : Bool}
set_option maxRecDepth 100000 in
theorem open_texts {r : Reach} {b0 : Nat} {v : Value} {d : DataW H} {p : List MemPlace} (hv : Value.okWide Try.prog w r b0 38 v) (h : DataW.Trod enc Try.prog w base spare held 38 v d p) :
    ∃ x y z : ByteArray, v = .agg #[.string x, .string y, .string z] ∧ x.size ≤ maxLen ∧ y.size ≤ maxLen ∧ z.size ≤ maxLen := by
  obtain ⟨cs, rfl, hsz⟩ := okWide_struct Try.underlying38 hv
  obtain ⟨fuel, hf⟩ := h
  have h1 : Try.prog.cellsOf 9 = 1 := by kernel_rfl
  obtain ⟨xs, m, _, _, hl, hxl, hi⟩ := DataW.trod_struct Try.underlying38 hf
  have hl2 : cs.toList.length = 3 := hl.trans (by kernel_rfl)
  obtain ⟨l, rfl⟩ : ∃ l : List Value, cs = l.toArray := ⟨cs.toList, by simp⟩
  match l, hl2 with
  | [c0, c1, c2], _ =>
    have i0 : DataW.trod enc Try.prog w base spare held m 9 (([c0, c1, c2].drop 0).take (Try.prog.cellsOf 9)) = xs[0]? := hi 0 _ rfl
    have i1 : DataW.trod enc Try.prog w base spare held m 9 (([c0, c1, c2].drop 1).take (Try.prog.cellsOf 9)) = xs[1]? := hi 1 _ rfl
    have i2 : DataW.trod enc Try.prog w base spare held m 9 (([c0, c1, c2].drop 2).take (Try.prog.cellsOf 9)) = xs[2]? := hi 2 _ rfl
    rw [h1] at i0 i1 i2
    have i0 : DataW.trod enc Try.prog w base spare held m 9 [c0] = xs[0]? := i0
    have i1 : DataW.trod enc Try.prog w base spare held m 9 [c1] = xs[1]? := i1
    have i2 : DataW.trod enc Try.prog w base spare held m 9 [c2] = xs[2]? := i2
    have hx3 : xs.length = 3 := hxl.trans (by kernel_rfl)
    rw [List.getElem?_eq_getElem (by omega)] at i0 i1 i2
    obtain ⟨x, ex, _, hx⟩ := DataW.trod_string Try.underlying9 i0
    obtain ⟨y, ey, _, hy⟩ := DataW.trod_string Try.underlying9 i1
    obtain ⟨z, ez, _, hz⟩ := DataW.trod_string Try.underlying9 i2
    injection ex with ex
    injection ey with ey
    injection ez with ez
    subst ex; subst ey; subst ez
    exact ⟨x, y, z, rfl, hx, hy, hz⟩
end
end Go.Proofs.Ytcffkmlnbnjibaa
