/- Arguments opened: calls of styluslaw11; the walk of SimdiskPlays at them. -/
import Derived.Test.YtcffkmlnbnjibaaGreatPzD
import Derived.Test.YtcffkmlnbnjibaaGreatRowF
namespace Go.Proofs.YtcffkmlnbnjibaaGreat
open Go.ChangeShapes Go.WideShapes Go.ChangeAt Go.RowKit Go.Deep Go.Joins
section
variable {H : Type} {enc : TypeId × Value → H} {w : World} {base : Nat} {spare : Nat → Bool} {held : Bool}
set_option maxRecDepth 100000 in
theorem open_op11 {fuel : Nat} {cs : List Value} {x : DataW H × List MemPlace} (h : DataW.trod enc Tryz.prog w base spare held fuel 68 cs = some x) : ∃ o : OpV, cs = OpV.cs o ∧ OpV.ok o := by
  obtain ⟨xs, n, _, _, hl, hxl, hf⟩ := DataW.trod_struct Tryz.underlying68 h
  have hl2 : cs.length = 6 := hl.trans (by kernel_rfl)
  have k1 : Tryz.prog.cellsOf 3 = 1 := by kernel_rfl
  have kS : Tryz.prog.cellsOf 9 = 1 := by kernel_rfl
  have kF : Tryz.prog.cellsOf 40 = 2 := by kernel_rfl
  match cs, hl2 with
  | [c0, c1, c2, c3, c4, c5], _ =>
    have h0 : DataW.trod enc Tryz.prog w base spare held n 3 (([c0, c1, c2, c3, c4, c5].drop 0).take (Tryz.prog.cellsOf 3)) = xs[0]? := hf 0 _ rfl
    have h1 : DataW.trod enc Tryz.prog w base spare held n 3 (([c0, c1, c2, c3, c4, c5].drop 1).take (Tryz.prog.cellsOf 3)) = xs[1]? := hf 1 _ rfl
    have h2 : DataW.trod enc Tryz.prog w base spare held n 9 (([c0, c1, c2, c3, c4, c5].drop 2).take (Tryz.prog.cellsOf 9)) = xs[2]? := hf 2 _ rfl
    have h3 : DataW.trod enc Tryz.prog w base spare held n 9 (([c0, c1, c2, c3, c4, c5].drop 3).take (Tryz.prog.cellsOf 9)) = xs[3]? := hf 3 _ rfl
    have h4 : DataW.trod enc Tryz.prog w base spare held n 40 (([c0, c1, c2, c3, c4, c5].drop 4).take (Tryz.prog.cellsOf 40)) = xs[4]? := hf 4 _ rfl
    rw [k1] at h0 h1
    rw [kS] at h2 h3
    rw [kF] at h4
    have h0 : DataW.trod enc Tryz.prog w base spare held n 3 [c0] = xs[0]? := h0
    have h1 : DataW.trod enc Tryz.prog w base spare held n 3 [c1] = xs[1]? := h1
    have h2 : DataW.trod enc Tryz.prog w base spare held n 9 [c2] = xs[2]? := h2
    have h3 : DataW.trod enc Tryz.prog w base spare held n 9 [c3] = xs[3]? := h3
    have h4 : DataW.trod enc Tryz.prog w base spare held n 40 [c4, c5] = xs[4]? := h4
    have hx5 : xs.length = 5 := hxl.trans (by kernel_rfl)
    rw [List.getElem?_eq_getElem (by omega)] at h0 h1 h2 h3 h4
    obtain ⟨a, ea, _, ha⟩ := DataW.trod_int Tryz.underlying3 h0
    obtain ⟨b, eb, _, hb⟩ := DataW.trod_int Tryz.underlying3 h1
    obtain ⟨s, es, _, hs⟩ := DataW.trod_string Tryz.underlying9 h2
    obtain ⟨t, et, _, ht⟩ := DataW.trod_string Tryz.underlying9 h3
    obtain ⟨f, ef, hf1, hf2, hf3, hf4⟩ := open_ft1 h4
    injection ea with ea
    injection eb with eb
    injection es with es
    injection et with et
    obtain ⟨fk, fa⟩ := f
    unfold FtV.cs at ef
    injection ef with e4 e5
    injection e5 with e5
    subst ea; subst eb; subst es; subst et; subst e4; subst e5
    exact ⟨⟨a, b, s, t, fk, fa⟩, rfl, (i64_wf ha).1, (i64_wf ha).2, (i64_wf hb).1, (i64_wf hb).2, hs, ht, hf2, hf4⟩
set_option maxRecDepth 100000 in
theorem open_ops11' {a0 : Option Addr} {len0 cap0 : Nat} {t : TypeId} (ht : Tryz.prog.underlying t = some (.slice 68)) {d : DataW H} {p : List MemPlace} (h : DataW.Trod enc Tryz.prog w base spare held t (.slice a0 len0 cap0) d p) :
    ∃ l : List OpV, Row w 6 a0 len0 (l.flatMap OpV.cs) ∧ len0 ≤ cap0 ∧ cap0 ≤ maxLen ∧ (a0 = none → cap0 = 0) ∧ ∀ m ∈ l, OpV.ok m :=
  open_arg OpV.cs 6 (fun _ => rfl) (by decide) OpV.ok ht (by kernel_rfl) (fun _ _ _ hx => open_op11 hx) h
end
theorem pzplays_calls' (n : Int) (A : Option Addr) (ln c : Nat) (l : List OpV) (w : World) (hr : Row w 6 A ln (l.flatMap OpV.cs)) (hl : ∀ o ∈ l, o.ok) :
    Calls Tryz.prog 5 #[.int .i64 n, .slice A ln c] w fun e w' => e = .returned (.bool true) ∧ Ex w w' := by
  obtain rfl := hr.opv_len
  exact pzplays_calls n A c l w hr hl
end Go.Proofs.YtcffkmlnbnjibaaGreat
