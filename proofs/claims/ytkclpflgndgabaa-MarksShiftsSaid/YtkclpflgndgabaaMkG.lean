/- Walks: whether names rise; whether two lists are alike. -/
import Derived.Test.YtkclpflgndgabaaMkC
import Derived.Laws.StructEq
namespace Go.Proofs.Ytkclpflgndgabaa
open Go.RowKit
theorem eq_mk (d : Nat) (w : World) (x0 y0 : ByteArray) (x1 y1 : Int) :
    (Op.equalIn (d + 2) 24 (.agg #[.string x0, .int .i64 x1]) (.agg #[.string y0, .int .i64 y1])).run Try.prog w = .ok (x0.toList == y0.toList && (x1 == y1)) w := by
  rw [run_equalIn_struct (P := Try.prog) w (d + 1) 24 _ _ (by kernel_rfl) (by kernel_rfl)]
  simp only [Program.fieldsOf, Try.underlying24]
  simp only [Op.eqFields]
  cases h : (x0.toList == y0.toList)
  · go_simp
  · by_cases h1 : x1 = y1
    · subst h1; go_simp
    · have h2 : (x1 == y1) = false := by rw [beq_eq_false_iff_ne]; exact h1
      go_simp
set_option maxHeartbeats 400000 in
theorem rise_calls (A : Option Addr) (n c : Nat) (l : List Mk) (w : World) (hn : n ≤ 1000000) (hm : Row w 2 A n (Mk.cs l)) :
    Calls Try.prog 8 #[.slice A n c] w fun e w' => e = .returned (.bool (rise l)) ∧ Dr w w' := by
  have hl := hm.mk_len
  subst hl
  have Hm := Lib.hid hm
  clear hm
  go_enter Try.func8, Try.ntmps8
  go_wp2
  go_loopw [3] (fun i wr => ∃ k : Nat, i = .int .i64 ((k : Int) + 1) ∧ (∀ j (hj : j + 1 < l.length), j < k → upN l[j].nm l[j+1].nm = true) ∧ Dr w wr) (fun i _ => l.length + 2 - (intOf i).toNat)
  case atStart => exact ⟨0, rfl, fun _ _ h => absurd h (by omega), Dr.refl _⟩
  case round =>
    obtain ⟨k, rfl, hr, hd⟩ := hrel
    have Hr := Lib.hid hr
    clear hr
    by_cases hlt : k + 1 < l.length
    · obtain ⟨nd, rfl⟩ := hd
      obtain ⟨b, o, rfl, c1, _⟩ := Hm.out.mk hlt
      obtain ⟨b', o', e, c2, _⟩ := Hm.out.mk (i := k) (by omega)
      injection e with e
      injection e with e1 e2 _
      subst e1; subst e2
      have w1 : IntKind.i64.wrap ((k : Int) + 1 - 1) = (k : Int) := by rw [show (k : Int) + 1 - 1 = k from by omega]; exact IntWalk.i64_in _ (by omega)
      have w2 : ((k : Int) + 1).toNat = k + 1 := by omega
      have w3 : (0 : Int) ≤ (k : Int) + 1 := by omega
      have w4 : (k : Int) + 1 < (l.length : Int) := by omega
      have w5 : (k : Int) < (l.length : Int) := by omega
      have w6 : k < l.length := by omega
      go_wp2
      go_quiet (fail)
      generalize hq : (Op.bytesLess l[k + 1].nm.toList l[k].nm.toList || l[k + 1].nm.toList == l[k].nm.toList) = q
      have Hq := Lib.hid hq
      clear hq
      cases q
      · go_wp2
        have hq : upN l[k].nm l[k+1].nm = true := by unfold upN ltN; rw [Hq.out]; rfl
        go_roundw
        case rel => exact ⟨k + 1, by go_num, fun j hj h => by by_cases e : j = k; (subst e; exact hq); exact Hr.out j hj (by omega), by first | exact Dr.one _ _ | exact Dr.two _ _ _⟩
        case measure => simp [intOf]; omega
      · go_wp2
        go_ret
        exact ⟨ret_bool (rise_no hlt Hq.out).symm, by first | exact Dr.one _ _ | exact Dr.two _ _ _⟩
    · go_wp2
      go_ret
      exact ⟨ret_bool (by rw [rise_iff.2 fun j h => Hr.out j h (by omega)]), hd⟩
theorem mk_cs_inj {l l' : List Mk} {n : Nat} (h1 : l.length = n) (h2 : l'.length = n) (h : ∀ j (h : j < l.length) (h' : j < l'.length), j < n → l[j] = l'[j]) : l = l' := by
  apply List.ext_getElem (by omega)
  intro i hi hi'
  exact h i hi hi' (by omega)
set_option maxHeartbeats 400000 in
theorem same_calls (A B : Option Addr) (n c m d : Nat) (l l' : List Mk) (w : World) (hn : n ≤ 1000000) (hm' : m ≤ 1000000) (hr1 : Row w 2 A n (Mk.cs l)) (hr2 : Row w 2 B m (Mk.cs l')) :
    Calls Try.prog 14 #[.slice A n c, .slice B m d] w fun e w' => e = .returned (.bool (decide (l = l'))) ∧ Dr w w' := by
  have hl := hr1.mk_len
  have hl' := hr2.mk_len
  have H1 := Lib.hid hr1
  have H2 := Lib.hid hr2
  clear hr1 hr2
  have heq := eq_mk 9998 
  by_cases hnm : n = m
  · subst hnm
    have Hl := Lib.hid hl
    have Hl' := Lib.hid hl'
    clear hl hl'
    go_enter Try.func14, Try.ntmps14
    go_wp2
    go_loopw [5] (fun i wr => ∃ k : Nat, k ≤ n ∧ i = .int .i64 k ∧ (∀ j (h : j < l.length) (h' : j < l'.length), j < k → l[j] = l'[j]) ∧ Dr w wr) (fun i _ => n - (intOf i).toNat)
    case atStart => exact ⟨0, Nat.zero_le _, rfl, fun _ _ _ h => absurd h (by omega), Dr.refl _⟩
    case round =>
      obtain ⟨k, hk, rfl, hr, hd⟩ := hrel
      have Hr := Lib.hid hr
      clear hr
      by_cases hlt : k < n
      · obtain ⟨nd, rfl⟩ := hd
        have hk1 : k < l.length := by have := Hl.out; omega
        have hk2 : k < l'.length := by have := Hl'.out; omega
        obtain ⟨b, o, rfl, c1, c2⟩ := H1.out.mk hk1
        obtain ⟨b', o', rfl, c3, c4⟩ := H2.out.mk hk2
        have w4 : (k : Int) < (n : Int) := by omega
        go_wp2
        go_quiet (fail)
        have hqq : (!l[k].nm.toList == l'[k].nm.toList || !l[k].pl == l'[k].pl) = !(decide (l[k] = l'[k])) := by rw [← Bool.not_and, mk_beq]
        rw [hqq]
        clear hqq
        by_cases hq : l[k] = l'[k]
        · have Hq := Lib.hid hq
          rw [decide_eq_true hq]
          clear hq
          go_wp2
          go_roundw
          case rel => exact ⟨k + 1, by omega, by go_num, fun j h h' hj => by by_cases e : j = k; (subst e; exact Hq.out); exact Hr.out j h h' (by omega), by first | exact Dr.one _ _ | exact Dr.two _ _ _⟩
          case measure => simp [intOf]; omega
        · rw [decide_eq_false hq]
          have Hq := Lib.hid (show decide (l = l') = false from by rw [decide_eq_false_iff_not]; rintro rfl; exact hq rfl)
          clear hq
          go_wp2
          go_ret
          exact ⟨ret_bool Hq.out.symm, by first | exact Dr.one _ _ | exact Dr.two _ _ _⟩
      · go_wp2
        go_ret
        have hll : l = l' := mk_cs_inj Hl.out Hl'.out fun j h h' _ => Hr.out j h h' (by have := Hl.out; omega)
        exact ⟨ret_bool (by rw [decide_eq_true hll]), hd⟩
  · have hq : decide (l = l') = false := by
      rw [decide_eq_false_iff_not]
      rintro rfl
      omega
    have Hq := Lib.hid hq
    have e1 : ((n : Int) != (m : Int)) = true := by rw [bne_iff_ne]; omega
    clear hq hl hl'
    go_enter Try.func14, Try.ntmps14
    go_wp2
    go_ret
    exact ⟨ret_bool Hq.out.symm, Dr.refl _⟩
end Go.Proofs.Ytkclpflgndgabaa
