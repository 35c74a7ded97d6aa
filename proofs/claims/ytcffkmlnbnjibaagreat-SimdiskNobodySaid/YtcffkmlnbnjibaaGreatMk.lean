/- Marks as values of Lean, and their cells. -/
import Derived.Test.YtcffkmlnbnjibaaGreatBase
namespace Go.Proofs.YtcffkmlnbnjibaaGreat
open Go.RowKit
structure Mk where
  nm : ByteArray
  pl : Int
namespace Mk
def enc (m : Mk) : List Value := [.string m.nm, .int .i64 m.pl]
def val (m : Mk) : Value := .agg #[.string m.nm, .int .i64 m.pl]
def cs (l : List Mk) : List Value := l.flatMap enc
theorem cs_len (l : List Mk) : (cs l).length = l.length * 2 := flat_len enc 2 (fun _ => rfl) l
end Mk
theorem Row.mk {w : World} {A : Option Addr} {n : Nat} {l : List Mk} (h : Row w 2 A n (Mk.cs l)) {i : Nat} (hi : i < l.length) :
    ∃ b o, A = some ⟨b, o, none⟩ ∧ w.cell? ⟨b, o + i * 2, none⟩ = some (.string l[i].nm) ∧ w.cell? ⟨b, o + i * 2 + 1, none⟩ = some (.int .i64 l[i].pl) := by
  have hn : n = l.length := by have := h.1; rw [Mk.cs_len] at this; omega
  obtain ⟨b, o, e, hc⟩ := h.2 (by omega)
  have h0 : ∀ j, j < 2 → (Mk.cs l)[i * 2 + j]? = (Mk.enc l[i])[j]? := fun j hj => flat_get Mk.enc 2 (fun _ => rfl) l i l[i] j (List.getElem?_eq_getElem hi) hj
  exact ⟨b, o, e, hc (i * 2) _ (h0 0 (by omega)), hc (i * 2 + 1) _ (h0 1 (by omega))⟩
theorem Row.mk_len {w : World} {A : Option Addr} {n : Nat} {l : List Mk} (h : Row w 2 A n (Mk.cs l)) : l.length = n := by
  have := h.1; rw [Mk.cs_len] at this; omega
end Go.Proofs.YtcffkmlnbnjibaaGreat
