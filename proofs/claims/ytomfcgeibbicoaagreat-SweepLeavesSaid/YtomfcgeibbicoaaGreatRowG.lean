/- Arguments opened: texts, numbers, lists of numbers. -/
import Derived.Test.YtomfcgeibbicoaaGreatBase
import Derived.Test.YtomfcgeibbicoaaGreatRows
import Derived.ProofKit
import Derived.SizedLaws
import Derived.Deep.Slices
import Derived.Lib.SmallJoins
import Derived.Carry
namespace Go.Proofs.YtomfcgeibbicoaaGreat
open Go.ChangeShapes Go.WideShapes Go.ChangeAt Go.RowKit Go.Deep Go.Joins
theorem own_ : ownKnob Tryz.prog.godebug = none := by kernel_rfl
theorem laidOut_ : laidOutB Tryz.prog = true := by kernel_rfl
section
variable {H : Type} {enc : TypeId × Value → H} {w : World} {base : Nat} {spare : Nat → Bool} {held : Bool}
/-- An address whose cell is there is plain. -/
theorem plain_addr {w : World} {a : Addr} {v : Value} (h : w.cell? a = some v) : ∃ b o, a = ⟨b, o, none⟩ := by
  obtain ⟨b, o, s⟩ := a
  cases s with
  | none => exact ⟨b, o, rfl⟩
  | some x =>
    unfold World.cell? at h
    split at h <;> simp at h
/-- A slice whose elements are k cells each: f says which; ok holds of each. -/
theorem open_gen {α : Type} (f : α → List Value) (k : Nat) (hk : ∀ x, (f x).length = k) (hk0 : 0 < k) (ok : α → Prop) {t e : TypeId} (ht : Tryz.prog.underlying t = some (.slice e)) (hc : Tryz.prog.cellsOf e = k)
    (hel : ∀ fuel cs x, DataW.trod enc Tryz.prog w base spare held fuel e cs = some x → ∃ a, cs = f a ∧ ok a) {fuel : Nat} {cs : List Value} {x : DataW H × List MemPlace} (h : DataW.trod enc Tryz.prog w base spare held fuel t cs = some x) :
    ∃ A n c, ∃ l : List α, cs = [.slice A n c] ∧ Row w k A n (l.flatMap f) ∧ n ≤ c ∧ c ≤ maxLen ∧ (A = none → c = 0) ∧ ∀ m ∈ l, ok m := by
  rcases open_slice ht h with ⟨rfl, _⟩ | ⟨a, len, cap, m, n, D, Pl, rfl, _, hl, hm, hmm, _, hi⟩
  · exact ⟨none, 0, 0, [], rfl, Row.nil _ _ _, Nat.le_refl _, Nat.zero_le _, fun _ => rfl, by simp⟩
  · rw [hc] at hi
    have hlm : len ≤ m := by rw [hmm]; split <;> omega
    have key : ∀ i, i < len → ∃ q : α, (∀ r u, (f q)[r]? = some u → w.cell? (a.add (i * k + r)) = some u) ∧ ok q := by
      intro i hil
      obtain ⟨cs', hc', ht'⟩ := hi i (by omega)
      obtain ⟨_, hl', hcell⟩ := World.cells?_some hc'
      obtain ⟨q, rfl, h1⟩ := hel _ _ _ ht'
      refine ⟨q, fun r u hu => ?_, h1⟩
      have hr := (List.getElem?_eq_some_iff.1 hu).1
      have c0 := hcell r (by rw [hk] at hr; omega)
      rw [Go.Deep.add_add] at c0
      rw [c0]; exact hu
    have ex : ∀ j, j ≤ len → ∃ l : List α, l.length = j ∧ ∀ i q, l[i]? = some q → (∀ r u, (f q)[r]? = some u → w.cell? (a.add (i * k + r)) = some u) ∧ ok q := by
      intro j
      induction j with
      | zero => intro _; exact ⟨[], rfl, fun i q hi => by simp at hi⟩
      | succ j ih =>
        intro hk
        obtain ⟨l, hl1, hl2⟩ := ih (by omega)
        obtain ⟨q, hq⟩ := key j (by omega)
        refine ⟨l ++ [q], by simp [hl1], fun i q' hi => ?_⟩
        by_cases e : i < l.length
        · rw [List.getElem?_append_left e] at hi; exact hl2 i q' hi
        · have hlt := (List.getElem?_eq_some_iff.1 hi).1
          have : i = j := by simp at hlt; omega
          subst this
          rw [List.getElem?_append_right (by omega), hl1, Nat.sub_self] at hi
          simp only [List.getElem?_cons_zero, Option.some.injEq] at hi
          subst hi
          exact hq
    obtain ⟨l, hll, hlc⟩ := ex len (Nat.le_refl _)
    refine ⟨some a, len, cap, l, rfl, ⟨by rw [flat_len f k hk, hll], fun hn => ?_⟩, hl, hm, (fun e => by cases e), fun q hq => ?_⟩
    · have hx := List.getElem?_eq_getElem (l := l) (i := 0) (by omega)
      have hu := List.getElem?_eq_getElem (l := f (l[0]'(by omega))) (i := 0) (by rw [hk]; exact hk0)
      have c0 := (hlc 0 _ hx).1 0 _ hu
      rw [show a.add (0 * k + 0) = a from by simp [Addr.add]] at c0
      obtain ⟨b, o, rfl⟩ := plain_addr c0
      refine ⟨b, o, rfl, fun j u hu => ?_⟩
      have hj : j < l.length * k := by rw [← flat_len f k hk]; exact (List.getElem?_eq_some_iff.1 hu).1
      have hp : j / k < l.length := (Nat.div_lt_iff_lt_mul hk0).2 hj
      have hr : j % k < k := Nat.mod_lt _ hk0
      have e : j / k * k + j % k = j := by rw [Nat.mul_comm]; exact Nat.div_add_mod j k
      rw [← e, flat_get f k hk l (j / k) _ (j % k) (List.getElem?_eq_getElem hp) hr] at hu
      have := (hlc (j / k) _ (List.getElem?_eq_getElem hp)).1 (j % k) u hu
      rwa [add_lit0, e] at this
    · obtain ⟨i, hi', rfl⟩ := List.getElem_of_mem hq
      exact (hlc i _ (List.getElem?_eq_getElem hi')).2
/-- The same of an argument. -/
theorem open_arg {α : Type} (f : α → List Value) (k : Nat) (hk : ∀ x, (f x).length = k) (hk0 : 0 < k) (ok : α → Prop) {t e : TypeId} (ht : Tryz.prog.underlying t = some (.slice e)) (hc : Tryz.prog.cellsOf e = k)
    (hel : ∀ fuel cs x, DataW.trod enc Tryz.prog w base spare held fuel e cs = some x → ∃ a, cs = f a ∧ ok a) {a0 : Option Addr} {len0 cap0 : Nat} {d : DataW H} {p : List MemPlace} (h : DataW.Trod enc Tryz.prog w base spare held t (.slice a0 len0 cap0) d p) :
    ∃ l : List α, Row w k a0 len0 (l.flatMap f) ∧ len0 ≤ cap0 ∧ cap0 ≤ maxLen ∧ (a0 = none → cap0 = 0) ∧ ∀ m ∈ l, ok m := by
  obtain ⟨fuel, hf⟩ := h
  obtain ⟨A, n, c, l, ecs, h1, h2, h3, h4, h5⟩ := open_gen f k hk hk0 ok ht hc hel hf
  have ecs : [Value.slice a0 len0 cap0] = [.slice A n c] := ecs
  injection ecs with ecs
  injection ecs with e1 e2 e3
  subst e1; subst e2; subst e3
  exact ⟨l, h1, h2, h3, h4, h5⟩
theorem i64_wf {x : Int} (h : (Lit.int .i64 x).wf = true) : -9223372036854775808 ≤ x ∧ x ≤ 9223372036854775807 := by
  simp [Lit.wf, IntKind.min, IntKind.max, IntKind.signed, IntKind.bits] at h
  omega
def int1 (x : Int) : List Value := [.int .i64 x]
set_option maxRecDepth 100000 in
theorem open_ints' {a0 : Option Addr} {len0 cap0 : Nat} {t : TypeId} (ht : Tryz.prog.underlying t = some (.slice 3)) {d : DataW H} {p : List MemPlace} (h : DataW.Trod enc Tryz.prog w base spare held t (.slice a0 len0 cap0) d p) :
    ∃ l : List Int, Row w 1 a0 len0 (l.flatMap int1) ∧ len0 ≤ cap0 ∧ cap0 ≤ maxLen ∧ (a0 = none → cap0 = 0) ∧ ∀ m ∈ l, (Lit.int .i64 m).wf = true :=
  open_arg int1 1 (fun _ => rfl) (by decide) (fun m => (Lit.int .i64 m).wf = true) ht (by kernel_rfl) (fun fuel cs x hx => by
    obtain ⟨i, hi, _, hw⟩ := DataW.trod_int Tryz.underlying3 hx
    exact ⟨i, hi, hw⟩) h
set_option maxRecDepth 100000 in
theorem open_string' {r : Reach} {b0 : Nat} {t : TypeId} {v : Value} {d : DataW H} {p : List MemPlace} (ht : Tryz.prog.underlying t = some .string) (hv : Value.okWide Tryz.prog w r b0 t v) (h : DataW.Trod enc Tryz.prog w base spare held t v d p) : ∃ s : ByteArray, v = .string s ∧ s.size ≤ maxLen := by
  obtain ⟨s, hs, _, _, hl⟩ := Go.ChangeMaps.open_string ht hv h
  exact ⟨s, hs, hl⟩
set_option maxRecDepth 100000 in
theorem open_int' {r : Reach} {b0 : Nat} {t : TypeId} {k : IntKind} {v : Value} {d : DataW H} {p : List MemPlace} (ht : Tryz.prog.underlying t = some (.int k)) (hv : Value.okWide Tryz.prog w r b0 t v) (h : DataW.Trod enc Tryz.prog w base spare held t v d p) : ∃ n : Int, v = .int k n ∧ (Lit.int k n).wf = true := by
  obtain ⟨n, hn, _, _, hw⟩ := open_int ht hv h
  exact ⟨n, hn, hw⟩
end
end Go.Proofs.YtomfcgeibbicoaaGreat
