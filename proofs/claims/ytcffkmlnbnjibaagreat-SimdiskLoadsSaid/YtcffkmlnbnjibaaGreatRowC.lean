/- Arguments opened: files; a Call of three strings. -/
import Derived.Test.YtcffkmlnbnjibaaGreatRowF
namespace Go.Proofs.YtcffkmlnbnjibaaGreat
open Go.ChangeShapes Go.WideShapes Go.ChangeAt Go.RowKit Go.Deep Go.Joins
def FlV.ok (f : FlV) : Prop := f.nm.size ≤ maxLen ∧ f.dt.size ≤ maxLen
section
variable {H : Type} {enc : TypeId × Value → H} {w : World} {base : Nat} {spare : Nat → Bool} {held : Bool}
set_option maxRecDepth 100000 in
theorem open_call3 {r : Reach} {b0 : Nat} {v : Value} {d : DataW H} {p : List MemPlace} (hv : Value.okWide Tryz.prog w r b0 73 v) (h : DataW.Trod enc Tryz.prog w base spare held 73 v d p) :
    ∃ x y z : ByteArray, v = .agg #[.string x, .string y, .string z] ∧ x.size ≤ maxLen ∧ y.size ≤ maxLen ∧ z.size ≤ maxLen := by
  obtain ⟨cs, rfl, hsz⟩ := okWide_struct Tryz.underlying73 hv
  obtain ⟨fuel, hf⟩ := h
  have h1 : Tryz.prog.cellsOf 9 = 1 := by kernel_rfl
  obtain ⟨xs, m, _, _, hl, hxl, hi⟩ := DataW.trod_struct Tryz.underlying73 hf
  have hl2 : cs.toList.length = 3 := hl.trans (by kernel_rfl)
  obtain ⟨l, rfl⟩ : ∃ l : List Value, cs = l.toArray := ⟨cs.toList, by simp⟩
  match l, hl2 with
  | [c0, c1, c2], _ =>
    have i0 : DataW.trod enc Tryz.prog w base spare held m 9 (([c0, c1, c2].drop 0).take (Tryz.prog.cellsOf 9)) = xs[0]? := hi 0 _ rfl
    have i1 : DataW.trod enc Tryz.prog w base spare held m 9 (([c0, c1, c2].drop 1).take (Tryz.prog.cellsOf 9)) = xs[1]? := hi 1 _ rfl
    have i2 : DataW.trod enc Tryz.prog w base spare held m 9 (([c0, c1, c2].drop 2).take (Tryz.prog.cellsOf 9)) = xs[2]? := hi 2 _ rfl
    rw [h1] at i0 i1 i2
    have i0 : DataW.trod enc Tryz.prog w base spare held m 9 [c0] = xs[0]? := i0
    have i1 : DataW.trod enc Tryz.prog w base spare held m 9 [c1] = xs[1]? := i1
    have i2 : DataW.trod enc Tryz.prog w base spare held m 9 [c2] = xs[2]? := i2
    have hx3 : xs.length = 3 := hxl.trans (by kernel_rfl)
    rw [List.getElem?_eq_getElem (by omega)] at i0 i1 i2
    obtain ⟨x, ex, _, hx⟩ := DataW.trod_string Tryz.underlying9 i0
    obtain ⟨y, ey, _, hy⟩ := DataW.trod_string Tryz.underlying9 i1
    obtain ⟨z, ez, _, hz⟩ := DataW.trod_string Tryz.underlying9 i2
    injection ex with ex
    injection ey with ey
    injection ez with ez
    subst ex; subst ey; subst ez
    exact ⟨x, y, z, rfl, hx, hy, hz⟩
set_option maxRecDepth 100000 in
theorem open_fl1 {fuel : Nat} {cs : List Value} {x : DataW H × List MemPlace} (h : DataW.trod enc Tryz.prog w base spare held fuel 49 cs = some x) : ∃ f : FlV, cs = FlV.cs f ∧ FlV.ok f := by
  obtain ⟨xs, n, _, _, hl, hxl, hf⟩ := DataW.trod_struct Tryz.underlying49 h
  have hl2 : cs.length = 2 := hl.trans (by kernel_rfl)
  have k2 : Tryz.prog.cellsOf 9 = 1 := by kernel_rfl
  match cs, hl2 with
  | [c0, c1], _ =>
    have h0 : DataW.trod enc Tryz.prog w base spare held n 9 (([c0, c1].drop 0).take (Tryz.prog.cellsOf 9)) = xs[0]? := hf 0 _ rfl
    have h1 : DataW.trod enc Tryz.prog w base spare held n 9 (([c0, c1].drop 1).take (Tryz.prog.cellsOf 9)) = xs[1]? := hf 1 _ rfl
    rw [k2] at h0 h1
    have h0 : DataW.trod enc Tryz.prog w base spare held n 9 [c0] = xs[0]? := h0
    have h1 : DataW.trod enc Tryz.prog w base spare held n 9 [c1] = xs[1]? := h1
    have hx2 : xs.length = 2 := hxl.trans (by kernel_rfl)
    rw [List.getElem?_eq_getElem (by omega)] at h0 h1
    obtain ⟨i, ei, _, hi⟩ := DataW.trod_string Tryz.underlying9 h0
    obtain ⟨j, ej, _, hj⟩ := DataW.trod_string Tryz.underlying9 h1
    injection ei with ei
    injection ej with ej
    subst ei; subst ej
    exact ⟨⟨i, j⟩, rfl, hi, hj⟩
set_option maxRecDepth 100000 in
theorem open_files' {a0 : Option Addr} {len0 cap0 : Nat} {t : TypeId} (ht : Tryz.prog.underlying t = some (.slice 49)) {d : DataW H} {p : List MemPlace} (h : DataW.Trod enc Tryz.prog w base spare held t (.slice a0 len0 cap0) d p) :
    ∃ l : List FlV, Row w 2 a0 len0 (l.flatMap FlV.cs) ∧ len0 ≤ cap0 ∧ cap0 ≤ maxLen ∧ (a0 = none → cap0 = 0) ∧ ∀ m ∈ l, FlV.ok m :=
  open_arg FlV.cs 2 (fun _ => rfl) (by decide) FlV.ok ht (by kernel_rfl) (fun _ _ _ hx => open_fl1 hx) h
end
end Go.Proofs.YtcffkmlnbnjibaaGreat
