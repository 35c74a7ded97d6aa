/- Arguments opened: an Ask (a name, a text, faults). -/
import Derived.Test.YtcffkmlnbnjibaaGreatRowF
import Derived.Test.YtcffkmlnbnjibaaGreatLxB
namespace Go.Proofs.YtcffkmlnbnjibaaGreat
open Go.ChangeShapes Go.WideShapes Go.ChangeAt Go.RowKit Go.Deep Go.Joins
section
variable {H : Type} {enc : TypeId × Value → H} {w : World} {base : Nat} {spare : Nat → Bool} {held : Bool}
set_option maxRecDepth 100000 in
theorem open_ask {r : Reach} {b0 : Nat} {v : Value} {d : DataW H} {p : List MemPlace} (hv : Value.okWide Tryz.prog w r b0 86 v) (h : DataW.Trod enc Tryz.prog w base spare held 86 v d p) :
    ∃ (x y : ByteArray) (A : Option Addr) (n c : Nat) (l : List FtV), v = .agg #[.string x, .string y, .slice A n c] ∧ Row w 2 A n (l.flatMap FtV.cs) ∧ ∀ m ∈ l, m.ok := by
  obtain ⟨cs, rfl, hsz⟩ := okWide_struct Tryz.underlying86 hv
  obtain ⟨fuel, hf⟩ := h
  have h1 : Tryz.prog.cellsOf 9 = 1 := by kernel_rfl
  have h2 : Tryz.prog.cellsOf 74 = 1 := by kernel_rfl
  obtain ⟨xs, m, _, _, hl, hxl, hi⟩ := DataW.trod_struct Tryz.underlying86 hf
  have hl2 : cs.toList.length = 3 := hl.trans (by kernel_rfl)
  obtain ⟨l, rfl⟩ : ∃ l : List Value, cs = l.toArray := ⟨cs.toList, by simp⟩
  match l, hl2 with
  | [c0, c1, c2], _ =>
    have i0 : DataW.trod enc Tryz.prog w base spare held m 9 (([c0, c1, c2].drop 0).take (Tryz.prog.cellsOf 9)) = xs[0]? := hi 0 _ rfl
    have i1 : DataW.trod enc Tryz.prog w base spare held m 9 (([c0, c1, c2].drop 1).take (Tryz.prog.cellsOf 9)) = xs[1]? := hi 1 _ rfl
    have i2 : DataW.trod enc Tryz.prog w base spare held m 74 (([c0, c1, c2].drop 2).take (Tryz.prog.cellsOf 74)) = xs[2]? := hi 2 _ rfl
    rw [h1] at i0 i1
    rw [h2] at i2
    have i0 : DataW.trod enc Tryz.prog w base spare held m 9 [c0] = xs[0]? := i0
    have i1 : DataW.trod enc Tryz.prog w base spare held m 9 [c1] = xs[1]? := i1
    have i2 : DataW.trod enc Tryz.prog w base spare held m 74 [c2] = xs[2]? := i2
    have hx3 : xs.length = 3 := hxl.trans (by kernel_rfl)
    rw [List.getElem?_eq_getElem (by omega)] at i0 i1 i2
    obtain ⟨x, ex, _, _⟩ := DataW.trod_string Tryz.underlying9 i0
    obtain ⟨y, ey, _, _⟩ := DataW.trod_string Tryz.underlying9 i1
    obtain ⟨A, n, c, fl, ecs, hr, _, _, _, hok⟩ := open_gen FtV.cs 2 (fun _ => rfl) (by decide) FtV.ok Tryz.underlying74 (by kernel_rfl) (fun _ _ _ hx => open_ft1 hx) i2
    injection ex with ex
    injection ey with ey
    injection ecs with ecs
    subst ex; subst ey; subst ecs
    exact ⟨x, y, A, n, c, fl, rfl, hr, hok⟩
end
theorem exsaves_calls' (n : Int) (nm tx rd : ByteArray) (fA : Option Addr) (m fc : Nat) (l : List FtV) (w : World) (hn1 : -9223372036854775808 ≤ n) (hn2 : n ≤ 9223372036854775807) (hr : Row w 2 fA m (l.flatMap FtV.cs)) (hl : ∀ f ∈ l, f.ok) :
    Calls Tryz.prog 7 #[.int .i64 n, .agg #[.string nm, .string tx, .slice fA m fc], .string rd] w fun e w' => e = .returned (.bool true) ∧ Ex w w' := by
  obtain rfl := hr.fts_len
  exact exsaves_calls n nm tx rd fA fc l w hn1 hn2 hr hl
end Go.Proofs.YtcffkmlnbnjibaaGreat
