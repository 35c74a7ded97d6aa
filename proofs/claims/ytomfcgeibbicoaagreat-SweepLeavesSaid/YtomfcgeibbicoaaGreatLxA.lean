/- A disk of the program and one of the document, side by side. -/
import Derived.Test.YtomfcgeibbicoaaGreatRfM
import Derived.Test.YtomfcgeibbicoaaGreatDkF
namespace Go.Proofs.YtomfcgeibbicoaaGreat
open Go.RowKit Go.Maps
/-- The program's disk g is Qp, with the blocks F; the document's one lies in block b9 and is Qd. -/
structure Half (w0 w : World) (g b9 : Nat) (F : Nat → Prop) (Qp Qd : DkV) (tv sl : Value) : Prop where
  dk : DkP w g F Qp
  lt : ∀ k, F k → k < w.heap.size
  new : ∀ k, F k → w0.heap.size ≤ k
  doc : RdV (fun k => F k ∨ k = b9) w Qd tv sl
  cell : Blk w b9 40 (Qd.rcs tv sl)
  nb : ¬ F b9
  b0 : w0.heap.size ≤ b9
  ex : Ex w0 w
section
variable {w0 w w' w'' : World} {g b9 : Nat} {F : Nat → Prop} {Qp Qd Qp' Qd' : DkV} {tv sl tv' sl' : Value}
theorem Half.grow (h : Half w0 w g b9 F Qp Qd tv sl) (hb : Ex w w') : Half w0 w' g b9 F Qp Qd tv sl :=
  { h with dk := h.dk.ex hb, lt := fun k hk => Nat.lt_of_lt_of_le (h.lt k hk) hb.size, doc := h.doc.ex hb, cell := h.cell.ex hb, ex := h.ex.trans hb }
theorem Half.dlt (h : Half w0 w g b9 F Qp Qd tv sl) : ∀ k, (F k ∨ k = b9) → k < w.heap.size := fun k hk => by
  rcases hk with hk | rfl
  · exact h.lt k hk
  · exact h.cell.lt
theorem Half.prog (h : Half w0 w g b9 F Qp Qd tv sl) (hd : DkP w' g (Fresh F w w') Qp') (ho : Off F w w') : Half w0 w' g b9 (Fresh F w w') Qp' Qd tv sl := by
  have hz := h.ex.size
  refine ⟨hd, fun k hk => ?_, fun k hk => ?_, ?_, h.cell.off ho h.nb, fun hf => ?_, h.b0, ?_⟩
  · rcases hk with hk | hk
    · exact Nat.lt_of_lt_of_le (h.lt k hk) ho.size
    · exact hk.2
  · rcases hk with hk | hk
    · exact h.new k hk
    · omega
  · refine (h.doc.fresh (ho.mono fun k _ hk => .inl hk)).less fun k hk => ?_
    rcases hk with (hk | hk) | hk
    · exact .inl (.inl hk)
    · exact .inr hk
    · exact .inl (.inr hk)
  · have := h.cell.lt
    rcases hf with hf | hf
    · exact h.nb hf
    · omega
  · exact new_off h.ex (ho.mono fun k _ hk => h.new k hk)
theorem Half.stored (h : Half w0 w g b9 F Qp Qd tv sl) (hr : RdV (fun k => F k ∨ k = b9) w' Qd' tv' sl') (hX : Ex w w') (ho : Off (· = b9) w' w'') (hB : Blk w'' b9 40 (Qd'.rcs tv' sl')) : Half w0 w'' g b9 F Qp Qd' tv' sl' := by
  refine ⟨(h.dk.ex hX).off ho fun k _ hF e => h.nb (e ▸ hF), fun k hk => Nat.lt_of_lt_of_le (h.lt k hk) (Nat.le_trans hX.size ho.size), h.new, hr.offs ho fun k hk => .inr hk, hB, h.nb, h.b0, ?_⟩
  exact new_off (h.ex.trans hX) (ho.mono fun k _ hk => by have := h.b0; show w0.heap.size ≤ k; omega)
end
/-- A fault. -/
structure FtV where
  k : Int
  a : Int
def FtV.cs (f : FtV) : List Value := [.int .i64 f.k, .int .i64 f.a]
def FtV.ok (f : FtV) : Prop := -9223372036854775808 ≤ f.k ∧ f.k ≤ 9223372036854775807 ∧ -9223372036854775808 ≤ f.a ∧ f.a ≤ 9223372036854775807
theorem Row.ft {w : World} {A : Option Addr} {n : Nat} {l : List FtV} (h : Row w 2 A n (l.flatMap FtV.cs)) {i : Nat} {f : FtV} (hi : l[i]? = some f) :
    ∃ b o, A = some ⟨b, o, none⟩ ∧ w.cell? ⟨b, o + i * 2, none⟩ = some (.int .i64 f.k) ∧ w.cell? ⟨b, o + i * 2 + 1, none⟩ = some (.int .i64 f.a) := by
  obtain ⟨hl, e⟩ := List.getElem?_eq_some_iff.1 hi
  have hn : n = l.length := by have := h.1; rw [flat_len FtV.cs 2 (fun _ => rfl)] at this; omega
  obtain ⟨b, o, ea, hc⟩ := h.2 (by omega)
  have h0 : ∀ j, j < 2 → (l.flatMap FtV.cs)[i * 2 + j]? = (FtV.cs f)[j]? := fun j hj => flat_get FtV.cs 2 (fun _ => rfl) l i f j hi hj
  exact ⟨b, o, ea, hc (i * 2) _ (h0 0 (by omega)), hc (i * 2 + 1) _ (h0 1 (by omega))⟩
/-- Faults, one behind the other. -/
def DkV.faults (Q : DkV) (l : List FtV) : DkV := l.foldl (fun Q f => (Q.fault f.k f.a).1) Q
theorem faults_succ (Q : DkV) {l : List FtV} {k : Nat} {f : FtV} (h : l[k]? = some f) : Q.faults (l.take (k + 1)) = ((Q.faults (l.take k)).fault f.k f.a).1 := by
  unfold DkV.faults
  rw [List.take_add_one, h, Option.toList_some, List.foldl_append]; rfl
theorem faults_ok {M : Nat} : ∀ {l : List FtV} {Q : DkV}, Q.Ok M → (∀ f ∈ l, f.ok) → (Q.faults l).Ok M
  | [], _, h, _ => h
  | f :: r, Q, h, hl => by
    have hf := hl f (by simp)
    unfold FtV.ok at hf
    exact faults_ok (l := r) (fault_ok h (by omega)) (fun x hx => hl x (by simp [hx]))
theorem Idz.faults : ∀ {l : List FtV} {Q : DkV}, Idz Q → Idz (Q.faults l)
  | [], _, h => h
  | f :: r, _, h => Idz.faults (l := r) (h.fault f.k f.a)
end Go.Proofs.YtomfcgeibbicoaaGreat
