/- Arguments opened: lists of texts; two texts. -/
import Derived.Test.YtcffkmlnbnjibaaGreatRowG
namespace Go.Proofs.YtcffkmlnbnjibaaGreat
open Go.ChangeShapes Go.WideShapes Go.ChangeAt Go.RowKit Go.Deep Go.Joins
def str1 (x : ByteArray) : List Value := [.string x]
theorem strs_get {l : List ByteArray} {k : Nat} {x : ByteArray} (h : l[k]? = some x) : (l.flatMap str1)[k]? = some (.string x) := by
  have := flat_get str1 1 (fun _ => rfl) l k x 0 h (by omega)
  rw [Nat.mul_one, Nat.add_zero] at this
  rw [this]; rfl
theorem Row.str {w : World} {A : Option Addr} {n : Nat} {l : List ByteArray} (h : Row w 1 A n (l.flatMap str1)) {k : Nat} (hk : k < l.length) : ∃ b o, A = some ⟨b, o, none⟩ ∧ w.cell? ⟨b, o + k, none⟩ = some (.string l[k]) := by
  have hn := h.1
  rw [flat_len str1 1 (fun _ => rfl)] at hn
  obtain ⟨b, o, e, hc⟩ := h.2 (by omega)
  exact ⟨b, o, e, hc k _ (strs_get (List.getElem?_eq_getElem hk))⟩
theorem Row.strs_len {w : World} {A : Option Addr} {n : Nat} {l : List ByteArray} (h : Row w 1 A n (l.flatMap str1)) : l.length = n := by
  have hn := h.1
  rw [flat_len str1 1 (fun _ => rfl)] at hn
  omega
section
variable {H : Type} {enc : TypeId × Value → H} {w : World} {base : Nat} {spare : Nat → Bool} {held : Bool}
set_option maxRecDepth 100000 in
theorem open_strs' {a0 : Option Addr} {len0 cap0 : Nat} {t : TypeId} (ht : Tryz.prog.underlying t = some (.slice 9)) {d : DataW H} {p : List MemPlace} (h : DataW.Trod enc Tryz.prog w base spare held t (.slice a0 len0 cap0) d p) :
    ∃ l : List ByteArray, Row w 1 a0 len0 (l.flatMap str1) ∧ len0 ≤ cap0 ∧ cap0 ≤ maxLen ∧ (a0 = none → cap0 = 0) ∧ ∀ m ∈ l, m.size ≤ maxLen :=
  open_arg str1 1 (fun _ => rfl) (by decide) (fun m => m.size ≤ maxLen) ht (by kernel_rfl) (fun fuel cs x hx => by
    obtain ⟨i, hi, _, hw⟩ := DataW.trod_string Tryz.underlying9 hx
    exact ⟨i, hi, hw⟩) h
theorem okWide_array {P : Program} {r : Reach} {b0 n : Nat} {t e : TypeId} {v : Value} (ht : P.underlying t = some (.array n e)) (h : Value.okWide P w r b0 t v) : ∃ cs, v = .agg cs ∧ cs.size = P.cellsOf t := by
  simp only [Value.okWide, ht] at h
  obtain ⟨cs, h1, h2, _⟩ := h
  exact ⟨cs, h1, h2⟩
set_option maxRecDepth 100000 in
theorem open_two {r : Reach} {b0 : Nat} {t : TypeId} {v : Value} {d : DataW H} {p : List MemPlace} (ht : Tryz.prog.underlying t = some (.array 2 9)) (hc : Tryz.prog.cellsOf t = 2) (hv : Value.okWide Tryz.prog w r b0 t v) (h : DataW.Trod enc Tryz.prog w base spare held t v d p) :
    ∃ x y : ByteArray, v = .agg #[.string x, .string y] ∧ x.size ≤ maxLen ∧ y.size ≤ maxLen := by
  obtain ⟨cs, rfl, hsz⟩ := okWide_array ht hv
  obtain ⟨fuel, hf⟩ := h
  have h1 : Tryz.prog.cellsOf 9 = 1 := by kernel_rfl
  obtain ⟨xs, m, _, _, hl, hxl, hi⟩ := Go.DataW.trod_array ht hf
  have hl2 : cs.toList.length = 2 := hl.trans hc
  obtain ⟨l, rfl⟩ : ∃ l : List Value, cs = l.toArray := ⟨cs.toList, by simp⟩
  match l, hl2 with
  | [c0, c1], _ =>
    have i0 := hi 0 (by omega)
    have i1 := hi 1 (by omega)
    rw [h1] at i0 i1
    have i0 : DataW.trod enc Tryz.prog w base spare held m 9 [c0] = xs[0]? := i0
    have i1 : DataW.trod enc Tryz.prog w base spare held m 9 [c1] = xs[1]? := i1
    rw [List.getElem?_eq_getElem (by omega)] at i0 i1
    obtain ⟨x, ex, _, hx⟩ := DataW.trod_string Tryz.underlying9 i0
    obtain ⟨y, ey, _, hy⟩ := DataW.trod_string Tryz.underlying9 i1
    injection ex with ex
    injection ey with ey
    subst ex; subst ey
    exact ⟨x, y, rfl, hx, hy⟩
end
end Go.Proofs.YtcffkmlnbnjibaaGreat
