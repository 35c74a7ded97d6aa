/- Arguments opened: faults; an Ask. -/
import Derived.Test.YtomfcgeibbicoaaGreatLxA
import Derived.Test.YtomfcgeibbicoaaGreatRowG
namespace Go.Proofs.YtomfcgeibbicoaaGreat
open Go.ChangeShapes Go.WideShapes Go.ChangeAt Go.RowKit Go.Deep Go.Joins
section
variable {H : Type} {enc : TypeId × Value → H} {w : World} {base : Nat} {spare : Nat → Bool} {held : Bool}
set_option maxRecDepth 100000 in
theorem open_ft1 {fuel : Nat} {cs : List Value} {x : DataW H × List MemPlace} (h : DataW.trod enc Tryz.prog w base spare held fuel 45 cs = some x) : ∃ f : FtV, cs = FtV.cs f ∧ f.ok := by
  obtain ⟨xs, n, _, _, hl, hxl, hf⟩ := DataW.trod_struct Tryz.underlying45 h
  have hl2 : cs.length = 2 := hl.trans (by kernel_rfl)
  have k2 : Tryz.prog.cellsOf 3 = 1 := by kernel_rfl
  match cs, hl2 with
  | [c0, c1], _ =>
    have h0 : DataW.trod enc Tryz.prog w base spare held n 3 (([c0, c1].drop 0).take (Tryz.prog.cellsOf 3)) = xs[0]? := hf 0 _ rfl
    have h1 : DataW.trod enc Tryz.prog w base spare held n 3 (([c0, c1].drop 1).take (Tryz.prog.cellsOf 3)) = xs[1]? := hf 1 _ rfl
    rw [k2] at h0 h1
    have h0 : DataW.trod enc Tryz.prog w base spare held n 3 [c0] = xs[0]? := h0
    have h1 : DataW.trod enc Tryz.prog w base spare held n 3 [c1] = xs[1]? := h1
    have hx2 : xs.length = 2 := hxl.trans (by kernel_rfl)
    rw [List.getElem?_eq_getElem (by omega)] at h0 h1
    obtain ⟨i, ei, _, hi⟩ := DataW.trod_int Tryz.underlying3 h0
    obtain ⟨j, ej, _, hj⟩ := DataW.trod_int Tryz.underlying3 h1
    injection ei with ei
    injection ej with ej
    subst ei; subst ej
    exact ⟨⟨i, j⟩, rfl, (i64_wf hi).1, (i64_wf hi).2, (i64_wf hj).1, (i64_wf hj).2⟩
set_option maxRecDepth 100000 in
theorem open_faults' {a0 : Option Addr} {len0 cap0 : Nat} {t : TypeId} (ht : Tryz.prog.underlying t = some (.slice 45)) {d : DataW H} {p : List MemPlace} (h : DataW.Trod enc Tryz.prog w base spare held t (.slice a0 len0 cap0) d p) :
    ∃ l : List FtV, Row w 2 a0 len0 (l.flatMap FtV.cs) ∧ len0 ≤ cap0 ∧ cap0 ≤ maxLen ∧ (a0 = none → cap0 = 0) ∧ ∀ m ∈ l, m.ok :=
  open_arg FtV.cs 2 (fun _ => rfl) (by decide) FtV.ok ht (by kernel_rfl) (fun _ _ _ hx => open_ft1 hx) h
end
theorem Row.fts_len {w : World} {A : Option Addr} {n : Nat} {l : List FtV} (h : Row w 2 A n (l.flatMap FtV.cs)) : l.length = n := by
  have := h.1; rw [flat_len FtV.cs 2 (fun _ => rfl)] at this; omega
end Go.Proofs.YtomfcgeibbicoaaGreat
namespace Go.Proofs.YtomfcgeibbicoaaGreat
open Go.ChangeShapes Go.WideShapes Go.ChangeAt Go.RowKit Go.Deep Go.Joins
def FlV.ok (f : FlV) : Prop := f.nm.size ≤ maxLen ∧ f.dt.size ≤ maxLen
section
variable {H : Type} {enc : TypeId × Value → H} {w : World} {base : Nat} {spare : Nat → Bool} {held : Bool}
set_option maxRecDepth 100000 in
theorem open_fl1 {fuel : Nat} {cs : List Value} {x : DataW H × List MemPlace} (h : DataW.trod enc Tryz.prog w base spare held fuel 80 cs = some x) : ∃ f : FlV, cs = FlV.cs f ∧ FlV.ok f := by
  obtain ⟨xs, n, _, _, hl, hxl, hf⟩ := DataW.trod_struct Tryz.underlying80 h
  have hl2 : cs.length = 2 := hl.trans (by kernel_rfl)
  have k2 : Tryz.prog.cellsOf 9 = 1 := by kernel_rfl
  match cs, hl2 with
  | [c0, c1], _ =>
    have h0 : DataW.trod enc Tryz.prog w base spare held n 9 (([c0, c1].drop 0).take (Tryz.prog.cellsOf 9)) = xs[0]? := hf 0 _ rfl
    have h1 : DataW.trod enc Tryz.prog w base spare held n 9 (([c0, c1].drop 1).take (Tryz.prog.cellsOf 9)) = xs[1]? := hf 1 _ rfl
    rw [k2] at h0 h1
    have h0 : DataW.trod enc Tryz.prog w base spare held n 9 [c0] = xs[0]? := h0
    have h1 : DataW.trod enc Tryz.prog w base spare held n 9 [c1] = xs[1]? := h1
    have hx2 : xs.length = 2 := hxl.trans (by kernel_rfl)
    rw [List.getElem?_eq_getElem (by omega)] at h0 h1
    obtain ⟨i, ei, _, hi⟩ := DataW.trod_string Tryz.underlying9 h0
    obtain ⟨j, ej, _, hj⟩ := DataW.trod_string Tryz.underlying9 h1
    injection ei with ei
    injection ej with ej
    subst ei; subst ej
    exact ⟨⟨i, j⟩, rfl, hi, hj⟩
set_option maxRecDepth 100000 in
theorem open_files' {a0 : Option Addr} {len0 cap0 : Nat} {t : TypeId} (ht : Tryz.prog.underlying t = some (.slice 80)) {d : DataW H} {p : List MemPlace} (h : DataW.Trod enc Tryz.prog w base spare held t (.slice a0 len0 cap0) d p) :
    ∃ l : List FlV, Row w 2 a0 len0 (l.flatMap FlV.cs) ∧ len0 ≤ cap0 ∧ cap0 ≤ maxLen ∧ (a0 = none → cap0 = 0) ∧ ∀ m ∈ l, FlV.ok m :=
  open_arg FlV.cs 2 (fun _ => rfl) (by decide) FlV.ok ht (by kernel_rfl) (fun _ _ _ hx => open_fl1 hx) h
end
end Go.Proofs.YtomfcgeibbicoaaGreat
