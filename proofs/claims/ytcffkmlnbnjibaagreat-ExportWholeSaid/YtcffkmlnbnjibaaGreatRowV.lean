/- Arguments opened: lists of saves. -/
import Derived.Test.YtcffkmlnbnjibaaGreatExC
import Derived.Test.YtcffkmlnbnjibaaGreatRowG
namespace Go.Proofs.YtcffkmlnbnjibaaGreat
open Go.ChangeShapes Go.WideShapes Go.ChangeAt Go.RowKit Go.Deep Go.Joins
section
variable {H : Type} {enc : TypeId × Value → H} {w : World} {base : Nat} {spare : Nat → Bool} {held : Bool}
def svOk (f : SvV) : Prop := f.tx.size ≤ 9223372036854775807 ∧ -9223372036854775808 ≤ f.dn ∧ f.dn ≤ 9223372036854775807 ∧ f.ch.size ≤ 9223372036854775807
set_option maxRecDepth 100000 in
theorem open_sv1 {fuel : Nat} {cs : List Value} {x : DataW H × List MemPlace} (h : DataW.trod enc Tryz.prog w base spare held fuel 94 cs = some x) : ∃ f : SvV, cs = SvV.cs f ∧ svOk f := by
  obtain ⟨xs, n, _, _, hl, hxl, hf⟩ := DataW.trod_struct Tryz.underlying94 h
  have hl2 : cs.length = 3 := hl.trans (by kernel_rfl)
  have k1 : Tryz.prog.cellsOf 9 = 1 := by kernel_rfl
  have k2 : Tryz.prog.cellsOf 3 = 1 := by kernel_rfl
  match cs, hl2 with
  | [c0, c1, c2], _ =>
    have h0 : DataW.trod enc Tryz.prog w base spare held n 9 (([c0, c1, c2].drop 0).take (Tryz.prog.cellsOf 9)) = xs[0]? := hf 0 _ rfl
    have h1 : DataW.trod enc Tryz.prog w base spare held n 3 (([c0, c1, c2].drop 1).take (Tryz.prog.cellsOf 3)) = xs[1]? := hf 1 _ rfl
    have h2 : DataW.trod enc Tryz.prog w base spare held n 9 (([c0, c1, c2].drop 2).take (Tryz.prog.cellsOf 9)) = xs[2]? := hf 2 _ rfl
    rw [k1] at h0 h2
    rw [k2] at h1
    have h0 : DataW.trod enc Tryz.prog w base spare held n 9 [c0] = xs[0]? := h0
    have h1 : DataW.trod enc Tryz.prog w base spare held n 3 [c1] = xs[1]? := h1
    have h2 : DataW.trod enc Tryz.prog w base spare held n 9 [c2] = xs[2]? := h2
    have hx3 : xs.length = 3 := hxl.trans (by kernel_rfl)
    rw [List.getElem?_eq_getElem (by omega)] at h0 h1 h2
    obtain ⟨a, ea, _, ha⟩ := DataW.trod_string Tryz.underlying9 h0
    obtain ⟨i, ei, _, hi⟩ := DataW.trod_int Tryz.underlying3 h1
    obtain ⟨c, ec, _, hc⟩ := DataW.trod_string Tryz.underlying9 h2
    injection ea with ea
    injection ei with ei
    injection ec with ec
    subst ea; subst ei; subst ec
    exact ⟨⟨a, i, c⟩, rfl, ha, (i64_wf hi).1, (i64_wf hi).2, hc⟩
set_option maxRecDepth 100000 in
theorem open_saves' {a0 : Option Addr} {len0 cap0 : Nat} {t : TypeId} (ht : Tryz.prog.underlying t = some (.slice 94)) {d : DataW H} {p : List MemPlace} (h : DataW.Trod enc Tryz.prog w base spare held t (.slice a0 len0 cap0) d p) :
    ∃ l : List SvV, Row w 3 a0 len0 (l.flatMap SvV.cs) ∧ len0 ≤ cap0 ∧ cap0 ≤ maxLen ∧ (a0 = none → cap0 = 0) ∧ ∀ m ∈ l, svOk m :=
  open_arg SvV.cs 3 (fun _ => rfl) (by decide) svOk ht (by kernel_rfl) (fun _ _ _ hx => open_sv1 hx) h
end
theorem exwhole_calls' (A : Option Addr) (n c : Nat) (l : List SvV) (w : World) (hr : Row w 3 A n (l.flatMap SvV.cs)) (hl : ∀ f ∈ l, svOk f) :
    Calls Tryz.prog 8 #[.slice A n c] w fun e w' => e = .returned (.bool true) ∧ Ex w w' := by
  obtain rfl := hr.svs_len
  exact exwhole_calls A c l w hr hl
end Go.Proofs.YtcffkmlnbnjibaaGreat
