/- Validity as a chain of runes; texts cut at edges and put together. Plain Lean. -/
import Derived.Test.YtkckeogdijdohaaUtfH
namespace Go.Proofs.Ytkckeogdijdohaa
open Go.RowKit
/-- From here on all bytes are runes'. -/
inductive Ch (s : ByteArray) : Nat → Prop where
  | done : Ch s s.size
  | step (a n : Nat) : (takeU s a).2 = n → 0 < n → Ch s (a + n) → Ch s a
theorem take_in {s : ByteArray} {a n : Nat} (h : (takeU s a).2 = n) (h0 : 0 < n) : a + n ≤ s.size ∧ n ≤ 4 ∧ onB (byteAt s a) = false ∧ ∀ j, 0 < j → j < n → onB (byteAt s (a + j)) = true := by
  have b0 := byteAt_lt s a
  simp only [onB_not, onB_iff]
  unfold takeU takeB at h
  have key : ∀ j, 0 < j → j < n → j = 1 ∧ 1 < n ∨ j = 2 ∧ 2 < n ∨ j = 3 ∧ 3 < n ∨ 4 ≤ j := by omega
  repeat' split at h
  all_goals simp only [] at h
  all_goals subst h
  all_goals first | omega | skip
  all_goals refine ⟨by omega, by omega, by omega, fun j h1 h2 => ?_⟩
  all_goals rcases key j h1 h2 with ⟨rfl, _⟩ | ⟨rfl, _⟩ | ⟨rfl, _⟩ | _ <;> omega
/-- A rune stands where its bytes stand. -/
theorem take_same {s t : ByteArray} {a b n : Nat} (h : (takeU s a).2 = n) (h0 : 0 < n) (hb : b + n ≤ t.size) (he : ∀ j, j < n → byteAt t (b + j) = byteAt s (a + j)) : (takeU t b).2 = n := by
  have e0 := he 0 h0
  have e1 := he 1
  have e2 := he 2
  have e3 := he 3
  simp only [Nat.add_zero] at e0
  unfold takeU takeB at h ⊢
  rw [e0]
  generalize byteAt s a = c0 at *
  generalize byteAt s (a + 1) = c1 at *
  generalize byteAt s (a + 2) = c2 at *
  generalize byteAt s (a + 3) = c3 at *
  generalize byteAt t (b + 1) = d1 at *
  generalize byteAt t (b + 2) = d2 at *
  generalize byteAt t (b + 3) = d3 at *
  repeat' split at h
  all_goals simp only [] at h
  all_goals subst h
  all_goals first | omega | skip
  · rw [if_neg (by omega), if_pos (by assumption)]
  · have q1 := e1 (by omega)
    subst q1
    rw [if_neg (by omega), if_neg (by omega), if_pos (by omega)]
  · have q1 := e1 (by omega)
    have q2 := e2 (by omega)
    subst q1; subst q2
    rw [if_neg (by omega), if_neg (by omega), if_neg (by omega), if_pos (by omega)]
  · have q1 := e1 (by omega)
    have q2 := e2 (by omega)
    have q3 := e3 (by omega)
    subst q1; subst q2; subst q3
    rw [if_neg (by omega), if_neg (by omega), if_neg (by omega), if_neg (by omega), if_pos (by omega)]
theorem Ch.le {s : ByteArray} {a : Nat} (h : Ch s a) : a ≤ s.size := by
  induction h with
  | done => exact Nat.le_refl _
  | step a n _ _ _ ih => omega
theorem ch_bad {s : ByteArray} : ∀ (k a : Nat), a ≤ s.size → s.size < a + k → (Ch s a ↔ badF k s a < 0)
  | 0, a, h, h' => absurd h' (by omega)
  | k + 1, a, h, h' => by
    by_cases ha : s.size ≤ a
    · have : a = s.size := by omega
      subst this
      refine ⟨fun _ => ?_, fun _ => .done⟩
      unfold badF; rw [if_pos ha]; decide
    · by_cases h0 : (takeU s a).2 = 0
      · refine ⟨fun hc => ?_, fun hb => ?_⟩
        · cases hc with
          | done => omega
          | step _ n e hn _ => omega
        · unfold badF at hb
          rw [if_neg ha, if_pos h0] at hb
          omega
      · have hl := take_in (s := s) (a := a) rfl (by omega)
        rw [badF_go (by omega) h0, ← ch_bad k (a + (takeU s a).2) (by omega) (by omega)]
        refine ⟨fun hc => ?_, fun hc => .step a _ rfl (by omega) hc⟩
        cases hc with
        | done => omega
        | step _ n e hn h2 => rw [e]; exact h2
theorem valid_iff {s : ByteArray} : validU s = true ↔ Ch s 0 := by
  unfold validU badU
  rw [decide_eq_true_iff, ch_bad (s.size + 1) 0 (by omega) (by omega)]
/-- An edge behind a place of the chain is a place of it. -/
theorem Ch.at_edge {s : ByteArray} {a : Nat} (h : Ch s a) : ∀ p : Nat, a ≤ p → p ≤ s.size → edge s (p : Int) = true → Ch s p := by
  induction h with
  | done => intro p h1 h2 _; have : p = s.size := by omega
            subst this; exact .done
  | step a n e hn hc ih =>
    intro p h1 h2 he
    rcases Nat.lt_or_ge p (a + n) with hlt | hge
    · rcases Nat.eq_or_lt_of_le h1 with rfl | hgt
      · exact .step _ n e hn hc
      · obtain ⟨hi, _, _, hon⟩ := take_in e hn
        have := hon (p - a) (by omega) (by omega)
        rw [show a + (p - a) = p by omega] at this
        rw [edge_mid (by omega) (by omega), this] at he
        cases he
    · exact ih p hge h2 he
/-- A place of the chain is an edge. -/
theorem Ch.is_edge {s : ByteArray} {p : Nat} (h : Ch s p) : edge s (p : Int) = true := by
  rcases Nat.eq_zero_or_pos p with rfl | h0
  · exact edge0 s
  · cases h with
    | done => exact edge_end (.inr rfl)
    | step _ n e hn hc =>
      have := take_in e hn
      rw [edge_mid h0 (by omega), this.2.2.1]; rfl
theorem byteAt_left {a b : ByteArray} {i : Nat} (h : i < a.size) : byteAt (a ++ b) i = byteAt a i := by
  unfold byteAt
  rw [dif_pos h, dif_pos (by rw [ByteArray.size_append]; omega)]
  congr 1
  exact ByteArray.getElem_append_left h
theorem byteAt_right {a b : ByteArray} {i : Nat} (h : i < b.size) : byteAt (a ++ b) (a.size + i) = byteAt b i := by
  unfold byteAt
  rw [dif_pos h, dif_pos (by rw [ByteArray.size_append]; omega)]
  congr 1
  rw [ByteArray.getElem_append_right (by omega)]
  congr 1
  omega
theorem Ch.right {b : ByteArray} {j : Nat} (h : Ch b j) (a : ByteArray) : Ch (a ++ b) (a.size + j) := by
  induction h with
  | done => have := Ch.done (s := a ++ b); rwa [ByteArray.size_append] at this
  | step i n e hn _ ih =>
    have hi := take_in e hn
    refine .step _ n (take_same e hn (by rw [ByteArray.size_append]; omega) fun j hj => ?_) hn (by rw [Nat.add_assoc]; exact ih)
    rw [Nat.add_assoc]
    exact byteAt_right (by omega)
theorem Ch.app {a b : ByteArray} {i : Nat} (h : Ch a i) (hb : Ch b 0) : Ch (a ++ b) i := by
  induction h with
  | done => exact hb.right a
  | step i n e hn _ ih =>
    have hi := take_in e hn
    exact .step _ n (take_same e hn (by rw [ByteArray.size_append]; omega) fun j hj => byteAt_left (by omega)) hn ih
theorem Ch.head {s : ByteArray} {a p : Nat} (h : Ch s a) (hap : a ≤ p) (hp : Ch s p) : Ch (s.extract 0 p) a := by
  have hps := hp.le
  have hsz : (s.extract 0 p).size = p := by rw [ByteArray.size_extract]; omega
  induction h with
  | done =>
    have : p = s.size := by omega
    subst this
    have := Ch.done (s := s.extract 0 s.size)
    rwa [hsz] at this
  | step i n e hn hc ih =>
    rcases Nat.eq_or_lt_of_le hap with rfl | hlt
    · have := Ch.done (s := s.extract 0 i)
      rwa [hsz] at this
    · have hi := take_in e hn
      have hge : i + n ≤ p := by
        rcases Nat.lt_or_ge p (i + n) with h | h
        · have he := hp.is_edge
          have := hi.2.2.2 (p - i) (by omega) (by omega)
          rw [show i + (p - i) = p by omega] at this
          rw [edge_mid (by omega) (by omega), this] at he
          cases he
        · exact h
      refine .step _ n (take_same e hn (by omega) fun j hj => ?_) hn (ih hge)
      rw [byteAt_ext hps (by omega), Nat.zero_add]
theorem Ch.tail {s : ByteArray} {p i : Nat} (h : Ch s i) (hp : p ≤ i) : Ch (s.extract p s.size) (i - p) := by
  induction h with
  | done =>
    have := Ch.done (s := s.extract p s.size)
    rw [ByteArray.size_extract, Nat.min_self] at this
    exact this
  | step i n e hn hc ih =>
    have hi := take_in e hn
    refine .step _ n (take_same e hn (by rw [ByteArray.size_extract]; omega) fun j hj => ?_) hn ?_
    · rw [byteAt_ext (Nat.le_refl _) (by omega)]
      congr 1; omega
    · have := ih (by omega)
      rwa [show i + n - p = i - p + n by omega] at this
/-- A valid text, cut at an edge, is two. -/
theorem valid_cut {s : ByteArray} {p : Nat} (h : validU s = true) (hp : p ≤ s.size) (he : edge s (p : Int) = true) : validU (s.extract 0 p) = true ∧ validU (s.extract p s.size) = true := by
  rw [valid_iff] at h
  rw [valid_iff, valid_iff]
  have hc := h.at_edge p (by omega) hp he
  refine ⟨h.head (by omega) hc, ?_⟩
  have := hc.tail (Nat.le_refl p)
  rwa [Nat.sub_self] at this
theorem valid_app {a b : ByteArray} (ha : validU a = true) (hb : validU b = true) : validU (a ++ b) = true := by
  rw [valid_iff] at *
  exact ha.app hb
/-- Two edges next to one another are at most four bytes from each other. -/
theorem Ch.next {s : ByteArray} {a : Nat} (h : Ch s a) (ha : a < s.size) : ∃ n, 0 < n ∧ n ≤ 4 ∧ a + n ≤ s.size ∧ edge s ((a + n : Nat) : Int) = true ∧ ∀ p, a < p → p < a + n → edge s (p : Int) = false := by
  cases h with
  | done => omega
  | step _ n e hn hc =>
    have hi := take_in e hn
    refine ⟨n, hn, hi.2.1, hi.1, hc.is_edge, fun p h1 h2 => ?_⟩
    have := hi.2.2.2 (p - a) (by omega) (by omega)
    rw [show a + (p - a) = p by omega] at this
    rw [edge_mid (by omega) (by omega), this]; rfl
theorem backF_ge {s : ByteArray} {p : Nat} : ∀ {k : Nat}, p ≤ k → edge s (p : Int) = true → p ≤ backF s k
  | 0, h, _ => by omega
  | k + 1, h, he => by
    unfold backF
    split
    · omega
    · next hn =>
      rcases Nat.eq_or_lt_of_le h with rfl | hlt
      · exact absurd he hn
      · exact backF_ge (by omega) he
end Go.Proofs.Ytkckeogdijdohaa
