/- Arguments opened: an Ask of law 37 (names, an epoch, faults); the walk of SweepRemoves at a row's arguments. -/
import Derived.Test.YtomfcgeibbicoaaGreatRowF
import Derived.Test.YtomfcgeibbicoaaGreatSvC
namespace Go.Proofs.YtomfcgeibbicoaaGreat
open Go.ChangeShapes Go.WideShapes Go.ChangeAt Go.RowKit Go.Deep Go.Joins
def sCs (s : ByteArray) : List Value := [.string s]
theorem scs_map (l : List ByteArray) : l.flatMap sCs = l.map Value.string := by
  induction l with
  | nil => rfl
  | cons a r ih => rw [List.flatMap_cons, ih]; rfl
section
variable {H : Type} {enc : TypeId × Value → H} {w : World} {base : Nat} {spare : Nat → Bool} {held : Bool}
set_option maxRecDepth 100000 in
theorem open_s1 {fuel : Nat} {cs : List Value} {x : DataW H × List MemPlace} (h : DataW.trod enc Tryz.prog w base spare held fuel 9 cs = some x) : ∃ s : ByteArray, cs = sCs s ∧ s.size ≤ maxLen := by
  obtain ⟨s, es, _, hs⟩ := DataW.trod_string Tryz.underlying9 h
  exact ⟨s, es, hs⟩
set_option maxRecDepth 100000 in
theorem open_ask37 {r : Reach} {b0 : Nat} {v : Value} {d : DataW H} {p : List MemPlace} (hv : Value.okWide Tryz.prog w r b0 26 v) (h : DataW.Trod enc Tryz.prog w base spare held 26 v d p) :
    ∃ (B : Option Addr) (k b : Nat) (nl : List ByteArray) (y : Int) (A : Option Addr) (n c : Nat) (l : List FtV), v = .agg #[.slice B k b, .int .i64 y, .slice A n c] ∧ Row w 1 B k (nl.flatMap sCs) ∧ (∀ s ∈ nl, s.size ≤ maxLen) ∧ Row w 2 A n (l.flatMap FtV.cs) ∧ ∀ m ∈ l, m.ok := by
  obtain ⟨cs, rfl, hsz⟩ := okWide_struct Tryz.underlying26 hv
  obtain ⟨fuel, hf⟩ := h
  have h1 : Tryz.prog.cellsOf 23 = 1 := by kernel_rfl
  have h3 : Tryz.prog.cellsOf 3 = 1 := by kernel_rfl
  have h2 : Tryz.prog.cellsOf 24 = 1 := by kernel_rfl
  obtain ⟨xs, m, _, _, hl, hxl, hi⟩ := DataW.trod_struct Tryz.underlying26 hf
  have hl2 : cs.toList.length = 3 := hl.trans (by kernel_rfl)
  obtain ⟨l, rfl⟩ : ∃ l : List Value, cs = l.toArray := ⟨cs.toList, by simp⟩
  match l, hl2 with
  | [c0, c1, c2], _ =>
    have i0 : DataW.trod enc Tryz.prog w base spare held m 23 (([c0, c1, c2].drop 0).take (Tryz.prog.cellsOf 23)) = xs[0]? := hi 0 _ rfl
    have i1 : DataW.trod enc Tryz.prog w base spare held m 3 (([c0, c1, c2].drop 1).take (Tryz.prog.cellsOf 3)) = xs[1]? := hi 1 _ rfl
    have i2 : DataW.trod enc Tryz.prog w base spare held m 24 (([c0, c1, c2].drop 2).take (Tryz.prog.cellsOf 24)) = xs[2]? := hi 2 _ rfl
    rw [h1] at i0
    rw [h3] at i1
    rw [h2] at i2
    have i0 : DataW.trod enc Tryz.prog w base spare held m 23 [c0] = xs[0]? := i0
    have i1 : DataW.trod enc Tryz.prog w base spare held m 3 [c1] = xs[1]? := i1
    have i2 : DataW.trod enc Tryz.prog w base spare held m 24 [c2] = xs[2]? := i2
    have hx3 : xs.length = 3 := hxl.trans (by kernel_rfl)
    rw [List.getElem?_eq_getElem (by omega)] at i0 i1 i2
    obtain ⟨B, k, b, nl, ebs, hbr, _, _, _, hbok⟩ := open_gen sCs 1 (fun _ => rfl) (by decide) (fun s => s.size ≤ maxLen) Tryz.underlying23 (by kernel_rfl) (fun _ _ _ hx => open_s1 hx) i0
    obtain ⟨y, ey, _, _⟩ := DataW.trod_int Tryz.underlying3 i1
    obtain ⟨A, n, c, fl, ecs, hr, _, _, _, hok⟩ := open_gen FtV.cs 2 (fun _ => rfl) (by decide) FtV.ok Tryz.underlying24 (by kernel_rfl) (fun _ _ _ hx => open_ft1 hx) i2
    injection ebs with ebs
    injection ey with ey
    injection ecs with ecs
    subst ebs; subst ey; subst ecs
    exact ⟨B, k, b, nl, y, A, n, c, fl, rfl, hbr, hbok, hr, hok⟩
end
theorem swremoves_calls' (lA : Option Addr) (ln lc : Nat) (l : List FlV) (nA : Option Addr) (nn nc : Nat) (nl : List ByteArray) (ep : Int) (fA : Option Addr) (fn fc : Nat) (fl : List FtV) (w : World) (hlr : Row w 2 lA ln (l.flatMap FlV.cs)) (hln : ∀ f ∈ l, FlV.ok f) (hnr : Row w 1 nA nn (nl.flatMap sCs)) (hnn : ∀ s ∈ nl, s.size ≤ maxLen) (hr : Row w 2 fA fn (fl.flatMap FtV.cs)) (hl : ∀ f ∈ fl, f.ok) :
    Calls Tryz.prog 3 #[.slice lA ln lc, .agg #[.slice nA nn nc, .int .i64 ep, .slice fA fn fc]] w fun e w' => e = .returned (.bool true) ∧ Ex w w' := by
  obtain rfl := hr.fts_len
  obtain rfl := hlr.fls_len
  rw [scs_map] at hnr
  obtain rfl : nl.length = nn := by have := hnr.1; rw [List.length_map] at this; omega
  exact swremoves_calls lA lc l nA nc nl ep fA fc fl w hlr (fun f hf => (hln f hf).1) hnr hnn hr hl
end Go.Proofs.YtomfcgeibbicoaaGreat
