/- Arguments opened: a list of marks, a mark. -/
import Derived.Test.YtkclpflgndgabaaMk
import Derived.Test.YtkclpflgndgabaaRows
import Derived.ProofKit
import Derived.SizedLaws
import Derived.Deep.Slices
import Derived.Lib.SmallJoins
import Derived.Carry
namespace Go.Proofs.Ytkclpflgndgabaa
open Go.ChangeShapes Go.WideShapes Go.ChangeAt Go.RowKit Go.Deep Go.Joins
theorem own_ : ownKnob Try.prog.godebug = none := by kernel_rfl
theorem laidOut_ : laidOutB Try.prog = true := by kernel_rfl
section
variable {H : Type} {enc : TypeId × Value → H} {w : World} {base : Nat} {spare : Nat → Bool} {held : Bool}
/-- An address whose cell is there is plain. -/
theorem plain_addr {w : World} {a : Addr} {v : Value} (h : w.cell? a = some v) : ∃ b o, a = ⟨b, o, none⟩ := by
  obtain ⟨b, o, s⟩ := a
  cases s with
  | none => exact ⟨b, o, rfl⟩
  | some x =>
    unfold World.cell? at h
    split at h <;> simp at h
theorem open_mark1 {fuel : Nat} {cs : List Value} {x : DataW H × List MemPlace} (h : DataW.trod enc Try.prog w base spare held fuel 24 cs = some x) : ∃ m : Mk, cs = Mk.enc m ∧ m.nm.size ≤ maxLen ∧ (Lit.int .i64 m.pl).wf = true := by
  obtain ⟨xs, n, _, _, hl, hxl, hf⟩ := DataW.trod_struct Try.underlying24 h
  have hl2 : cs.length = 2 := hl.trans (by kernel_rfl)
  match cs, hl2 with
  | [c0, c1], _ =>
    have h0 : DataW.trod enc Try.prog w base spare held n 9 (([c0, c1].drop 0).take (Try.prog.cellsOf 9)) = xs[0]? := hf 0 _ rfl
    have h1 : DataW.trod enc Try.prog w base spare held n 3 (([c0, c1].drop 1).take (Try.prog.cellsOf 3)) = xs[1]? := hf 1 _ rfl
    have e0 : ([c0, c1].drop 0).take (Try.prog.cellsOf 9) = [c0] := by rw [show Try.prog.cellsOf 9 = 1 from by kernel_rfl]; rfl
    have e1 : ([c0, c1].drop 1).take (Try.prog.cellsOf 3) = [c1] := by rw [show Try.prog.cellsOf 3 = 1 from by kernel_rfl]; rfl
    rw [e0] at h0
    rw [e1] at h1
    match xs, hxl with
    | [y0, y1], _ =>
      obtain ⟨s, hs, _, hsz⟩ := DataW.trod_string Try.underlying9 h0
      obtain ⟨i, hi, _, hw⟩ := DataW.trod_int Try.underlying3 h1
      injection hs with hs
      injection hi with hi
      subst hs; subst hi
      exact ⟨⟨s, i⟩, rfl, hsz, hw⟩
theorem open_marks {fuel : Nat} {cs : List Value} {x : DataW H × List MemPlace} (h : DataW.trod enc Try.prog w base spare held fuel 22 cs = some x) :
    ∃ A n c l, cs = [.slice A n c] ∧ Row w 2 A n (Mk.cs l) ∧ n ≤ c ∧ c ≤ maxLen ∧ (A = none → c = 0) ∧ ∀ m ∈ l, m.nm.size ≤ maxLen ∧ (Lit.int .i64 m.pl).wf = true := by
  rcases open_slice Try.underlying22 h with ⟨rfl, _⟩ | ⟨a, len, cap, m, n, D, Pl, rfl, _, hl, hm, hmm, _, hi⟩
  · exact ⟨none, 0, 0, [], rfl, Row.nil _ _ _, Nat.le_refl _, Nat.zero_le _, fun _ => rfl, by simp⟩
  · have hc2 : Try.prog.cellsOf 24 = 2 := by kernel_rfl
    rw [hc2] at hi
    have hlm : len ≤ m := by rw [hmm]; split <;> omega
    have key : ∀ i, i < len → ∃ q : Mk, w.cell? (a.add (i * 2)) = some (.string q.nm) ∧ w.cell? (a.add (i * 2 + 1)) = some (.int .i64 q.pl) ∧ q.nm.size ≤ maxLen ∧ (Lit.int .i64 q.pl).wf = true := by
      intro i hil
      obtain ⟨cs', hc, ht⟩ := hi i (by omega)
      obtain ⟨_, _, hcell⟩ := World.cells?_some hc
      obtain ⟨q, rfl, h1, h2⟩ := open_mark1 ht
      have c0 := hcell 0 (by omega)
      have c1 := hcell 1 (by omega)
      rw [show (a.add (i * 2)).add 0 = a.add (i * 2) from by simp [Addr.add]] at c0
      rw [Go.Deep.add_add] at c1
      exact ⟨q, c0, c1, h1, h2⟩
    have ex : ∀ k, k ≤ len → ∃ l : List Mk, l.length = k ∧ ∀ i (hi : i < l.length), w.cell? (a.add (i * 2)) = some (.string l[i].nm) ∧ w.cell? (a.add (i * 2 + 1)) = some (.int .i64 l[i].pl) ∧ l[i].nm.size ≤ maxLen ∧ (Lit.int .i64 l[i].pl).wf = true := by
      intro k
      induction k with
      | zero => intro _; exact ⟨[], rfl, fun i hi => by simp at hi⟩
      | succ k ih =>
        intro hk
        obtain ⟨l, hl1, hl2⟩ := ih (by omega)
        obtain ⟨q, hq⟩ := key k (by omega)
        refine ⟨l ++ [q], by simp [hl1], fun i hi => ?_⟩
        by_cases e : i < l.length
        · rw [List.getElem_append_left e]; exact hl2 i e
        · have : i = k := by simp at hi; omega
          subst this
          simp only [← hl1, List.getElem_append_right (Nat.le_refl _), Nat.sub_self, List.getElem_cons_zero]
          rw [hl1]; exact hq
    obtain ⟨l, hll, hlc⟩ := ex len (Nat.le_refl _)
    refine ⟨some a, len, cap, l, rfl, ⟨by rw [Mk.cs_len, hll], fun hn => ?_⟩, hl, hm, (fun e => by cases e), fun q hq => ?_⟩
    · have c0 := (hlc 0 (by omega)).1
      rw [show a.add (0 * 2) = a from by simp [Addr.add]] at c0
      obtain ⟨b, o, rfl⟩ := plain_addr c0
      refine ⟨b, o, rfl, fun j u hu => ?_⟩
      have hj : j < l.length * 2 := by rw [← Mk.cs_len]; exact (List.getElem?_eq_some_iff.1 hu).1
      obtain ⟨p, r, hr, rfl⟩ : ∃ p r, r < 2 ∧ j = p * 2 + r := ⟨j / 2, j % 2, Nat.mod_lt _ (by omega), by omega⟩
      have hp : p < l.length := by omega
      rw [Mk.cs, flat_get Mk.enc 2 (fun _ => rfl) l p l[p] r (List.getElem?_eq_getElem hp) hr] at hu
      obtain ⟨d0, d1, _, _⟩ := hlc p hp
      rw [add_lit0] at d0 d1
      rcases (show r = 0 ∨ r = 1 by omega) with rfl | rfl
      · rw [Nat.add_zero, d0]; exact hu
      · rw [d1]; exact hu
    · obtain ⟨i, hi', rfl⟩ := List.getElem_of_mem hq
      exact (hlc i hi').2.2
theorem open_marks' {a0 : Option Addr} {len0 cap0 : Nat} {d : DataW H} {p : List MemPlace} (h : DataW.Trod enc Try.prog w base spare held 22 (.slice a0 len0 cap0) d p) :
    ∃ l, Row w 2 a0 len0 (Mk.cs l) ∧ len0 ≤ cap0 ∧ cap0 ≤ maxLen ∧ (a0 = none → cap0 = 0) ∧ ∀ m ∈ l, m.nm.size ≤ maxLen ∧ (Lit.int .i64 m.pl).wf = true := by
  obtain ⟨fuel, hf⟩ := h
  obtain ⟨A, n, c, l, ecs, h1, h2, h3, h4, h5⟩ := open_marks hf
  have ecs : [Value.slice a0 len0 cap0] = [.slice A n c] := ecs
  injection ecs with ecs
  injection ecs with e1 e2 e3
  subst e1; subst e2; subst e3
  exact ⟨l, h1, h2, h3, h4, h5⟩
theorem open_mark {r : Reach} {b0 : Nat} {v : Value} {d : DataW H} {p : List MemPlace} (hv : Value.okWide Try.prog w r b0 24 v) (h : DataW.Trod enc Try.prog w base spare held 24 v d p) : ∃ m : Mk, v = .agg #[.string m.nm, .int .i64 m.pl] ∧ m.nm.size ≤ maxLen ∧ (Lit.int .i64 m.pl).wf = true := by
  obtain ⟨cs, rfl, hsz⟩ := okWide_struct Try.underlying24 hv
  obtain ⟨fuel, hf⟩ := h
  obtain ⟨m, hm, h1, h2⟩ := open_mark1 hf
  refine ⟨m, ?_, h1, h2⟩
  have : cs = #[.string m.nm, .int .i64 m.pl] := Array.toList_inj.1 hm
  rw [this]
theorem open_string' {r : Reach} {b0 : Nat} {t : TypeId} {v : Value} {d : DataW H} {p : List MemPlace} (ht : Try.prog.underlying t = some .string) (hv : Value.okWide Try.prog w r b0 t v) (h : DataW.Trod enc Try.prog w base spare held t v d p) : ∃ s : ByteArray, v = .string s ∧ s.size ≤ maxLen := by
  obtain ⟨s, hs, _, _, hl⟩ := Go.ChangeMaps.open_string ht hv h
  exact ⟨s, hs, hl⟩
theorem open_int' {r : Reach} {b0 : Nat} {t : TypeId} {k : IntKind} {v : Value} {d : DataW H} {p : List MemPlace} (ht : Try.prog.underlying t = some (.int k)) (hv : Value.okWide Try.prog w r b0 t v) (h : DataW.Trod enc Try.prog w base spare held t v d p) : ∃ n : Int, v = .int k n ∧ (Lit.int k n).wf = true := by
  obtain ⟨n, hn, _, _, hw⟩ := open_int ht hv h
  exact ⟨n, hn, hw⟩
end
end Go.Proofs.Ytkclpflgndgabaa
