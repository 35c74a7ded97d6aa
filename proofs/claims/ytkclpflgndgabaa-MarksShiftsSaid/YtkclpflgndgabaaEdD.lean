/- Walk: the statement MarksShifts. -/
import Derived.Test.YtkclpflgndgabaaEdC
namespace Go.Proofs.Ytkclpflgndgabaa
open Go.RowKit
set_option maxHeartbeats 1000000 in
theorem marksShifts_calls (A : Option Addr) (n c : Nat) (l : List Mk) (t : ByteArray) (e : Ed) (w : World) (hn : n ≤ 9223372036854775807) (hm : Row w 2 A n (Mk.cs l)) (hA : A = none → c = 0) (hsz : ∀ m ∈ l, m.nm.size ≤ 9223372036854775807) :
    Calls Try.prog 5 #[.slice A n c, .string t, .agg #[.int .i64 e.pl, .string e.old, .string e.nw]] w fun r w' => r = .returned (.bool true) ∧ Ex w w' := by
  have hl := hm.mk_len
  subst hl
  have Hm := Lib.hid hm
  have HA := Lib.hid hA
  have HZ := Lib.hid hsz
  clear hm hA hsz
  have X0 : Ex w (w.alloc (.cells #[.int .i64 e.pl, .string e.old, .string e.nw] 38)) := ex_alloc (Ex.refl _) _
  have g0 : (w.alloc (.cells #[.int .i64 e.pl, .string e.old, .string e.nw] 38)).cell? ⟨w.heap.size, 0, none⟩ = some (.int .i64 e.pl) := (show Blk _ _ 38 [.int .i64 e.pl, .string e.old, .string e.nw] from heap_alloc_new w _).cell 0
  have g1 : (w.alloc (.cells #[.int .i64 e.pl, .string e.old, .string e.nw] 38)).cell? ⟨w.heap.size, 1, none⟩ = some (.string e.old) := (show Blk _ _ 38 [.int .i64 e.pl, .string e.old, .string e.nw] from heap_alloc_new w _).cell 1
  have g2 : (w.alloc (.cells #[.int .i64 e.pl, .string e.old, .string e.nw] 38)).cell? ⟨w.heap.size, 2, none⟩ = some (.string e.nw) := (show Blk _ _ 38 [.int .i64 e.pl, .string e.old, .string e.nw] from heap_alloc_new w _).cell 2
  by_cases h40 : l.length ≤ 40
  · have E40 := Lib.hid (show decide ((l.length : Int) ≤ 40) = true from decide_eq_true (by omega))
    by_cases h6 : 600 < t.size ∨ 600 < e.old.size ∨ 600 < e.nw.size
    · rcases (show 600 < t.size ∨ (t.size ≤ 600 ∧ 600 < e.old.size) ∨ (t.size ≤ 600 ∧ e.old.size ≤ 600 ∧ 600 < e.nw.size) by omega) with h | ⟨h, h'⟩ | ⟨h, h', h''⟩
      all_goals
        clear h6
        go_enter Try.func5, Try.ntmps5
        go_wp2_with fail
        refine (few_calls _ _ _ _).mono ?_
        rintro r w1 ⟨rfl, rfl⟩
        rw [E40.out]
        go_wp2_with fail
        refine (lives_calls _).mono ?_
        rintro r w2 ⟨rfl, hb⟩
        go_wp2
        go_ret
        exact ⟨rfl, X0.trans hb⟩
    · have h6t : t.size ≤ 600 := by omega
      have h6o : e.old.size ≤ 600 := by omega
      have h6n : e.nw.size ≤ 600 := by omega
      clear h6
      cases hr : rightM t l
      · have HR := Lib.hid hr
        clear hr
        go_enter Try.func5, Try.ntmps5
        go_wp2_with fail
        refine (few_calls _ _ _ _).mono ?_
        rintro r w1 ⟨rfl, rfl⟩
        rw [E40.out]
        go_wp2_with fail
        refine (refRight_calls A l.length c l t _ (by omega) (Hm.out.ex X0) HZ.out).mono ?_
        rintro r w1 ⟨rfl, hb1⟩
        rw [HR.out]
        go_wp2_with fail
        refine (lives_calls _).mono ?_
        rintro r w2 ⟨rfl, hb⟩
        go_wp2
        go_ret
        exact ⟨rfl, (X0.trans hb1).trans hb⟩
      · have HR := Lib.hid hr
        have hpl : ∀ m ∈ l, -1000000000 ≤ m.pl ∧ m.pl ≤ 1000000000 := by
          intro m hm
          unfold rightM at hr
          rw [Bool.and_eq_true, Bool.and_eq_true] at hr
          have := List.all_eq_true.1 hr.1.2 m hm
          unfold okMk at this
          rw [Bool.and_eq_true] at this
          have := edge_iff.1 this.2
          omega
        have HPL := Lib.hid hpl
        clear hpl
        cases hv : validU t
        · have HV := Lib.hid hv
          clear hr hv
          go_enter Try.func5, Try.ntmps5
          go_wp2_with fail
          refine (few_calls _ _ _ _).mono ?_
          rintro r w1 ⟨rfl, rfl⟩
          rw [E40.out]
          go_wp2_with fail
          refine (refRight_calls A l.length c l t _ (by omega) (Hm.out.ex X0) HZ.out).mono ?_
          rintro r w1 ⟨rfl, hb1⟩
          rw [HR.out]
          go_wp2_with fail
          refine (refValid_calls _ _ (by omega)).mono ?_
          rintro r w2 ⟨rfl, hb2⟩
          rw [HV.out]
          go_wp2_with fail
          refine (lives_calls _).mono ?_
          rintro r w3 ⟨rfl, hb⟩
          go_wp2
          go_ret
          exact ⟨rfl, ((X0.trans hb1).trans hb2).trans hb⟩
        · have HV := Lib.hid hv
          by_cases hz : (applyR t e).2 = 0
          · have HZ0 := Lib.hid hz
            have HRS := Lib.hid (right_shift hz hr)
            obtain ⟨q, hq, hqn, _⟩ := apply_ok hz
            have hq0 : 0 ≤ e.pl := by omega
            have hq1 : e.pl ≤ 1000000000 := by omega
            have HZS := Lib.hid (show ∀ m ∈ l.map (shM e), m.nm.size ≤ 9223372036854775807 from fun m hm => by
              obtain ⟨y, hy, rfl⟩ := List.mem_map.1 hm
              exact HZ.out y hy)
            clear hr hv hz hq hqn
            go_enter Try.func5, Try.ntmps5
            go_wp2_with fail
            refine (few_calls _ _ _ _).mono ?_
            rintro r w1 ⟨rfl, rfl⟩
            rw [E40.out]
            go_wp2_with fail
            refine (refRight_calls A l.length c l t _ (by omega) (Hm.out.ex X0) HZ.out).mono ?_
            rintro r w1 ⟨rfl, hb1⟩
            rw [HR.out]
            have X1 : Ex w w1 := X0.trans hb1
            have a0 := Ex.cell hb1 g0
            have a1 := Ex.cell hb1 g1
            have a2 := Ex.cell hb1 g2
            go_wp2_with fail
            refine (refValid_calls _ _ (by omega)).mono ?_
            rintro r w2 ⟨rfl, hb2⟩
            rw [HV.out]
            have X2 : Ex w w2 := X1.trans hb2
            have b0 := Ex.cell hb2 a0
            have b1 := Ex.cell hb2 a1
            have b2 := Ex.cell hb2 a2
            go_wp2_with fail
            refine (refApply_calls t e _ (by omega) (by omega) (by omega)).mono ?_
            rintro r w3 ⟨rfl, hb3⟩
            rw [HZ0.out]
            have X3 : Ex w w3 := X2.trans hb3
            have c0 := Ex.cell hb3 b0
            have c1 := Ex.cell hb3 b1
            have c2 := Ex.cell hb3 b2
            generalize (applyR t e).1 = s at HRS ⊢
            go_wp2_with (first | (at_builtin; refine app_mk rfl (.tmp 52) (.tmp 53) rfl w3.heap.size (.slice (some ⟨w3.heap.size, 0, none⟩) 0 0) 0 [] rfl (own_lit w3 _ 2) A l.length c l rfl (Hm.out.ex (ex_alloc X3 _)) (by omega) (by simp) (ex_alloc (Ex.refl w3) _) ?_; intro va wa hoa hba _ _; have d0 := Ex.cell hba c0; have d1 := Ex.cell hba c1; have d2 := Ex.cell hba c2))
            have X4 : Ex w wa := X3.trans hba
            rw [Nat.zero_add, List.nil_append] at hoa
            refine (shift_calls A l.length c l e _ (by omega) (Hm.out.ex X4) HA.out hq0 hq1 HPL.out (by omega) (by omega)).mono ?_
            rintro r w5 ⟨v5, rfl, ho5, hb5⟩
            have X5 : Ex w w5 := X4.trans hb5
            have f0 := Ex.cell hb5 d0
            have f1 := Ex.cell hb5 d1
            have f2 := Ex.cell hb5 d2
            go_wp2_with fail
            refine (refShift_calls A l.length c l e _ (by omega) (Hm.out.ex X5) hq0 hq1 HPL.out (by omega) (by omega)).mono ?_
            rintro r w6 ⟨v6, rfl, ho6, hb6⟩
            have X6 : Ex w w6 := X5.trans hb6
            have o5 := own_ex ho5 hb6
            have oa := own_ex (own_ex hoa hb5) hb6
            obtain ⟨A5, c5, rfl, _⟩ := own_shape ho5
            obtain ⟨A6, c6, rfl, _⟩ := own_shape ho6
            obtain ⟨Aa, ca, rfl, _⟩ := own_shape hoa
            have R5 := Lib.hid (Row.of_own o5)
            have R6 := Lib.hid (Row.of_own ho6)
            have Ra := Lib.hid (Row.of_own oa)
            have R0 := Lib.hid (Hm.out.ex X6)
            clear o5 oa ho5 ho6 hoa
            generalize l.map (shM e) = L at *
            go_wp2_with fail
            refine (same_calls A5 A6 _ _ _ _ L L _ (by omega) (by omega) R5.out R6.out).mono ?_
            rintro r w7 ⟨rfl, hd7⟩
            rw [show decide (L = L) = true from decide_eq_true rfl]
            go_wp2_with fail
            refine (refRight_calls A5 _ _ L s _ (by omega) (R5.out.ex hd7.ex) HZS.out).mono ?_
            rintro r w8 ⟨rfl, hb8⟩
            rw [HRS.out]
            go_wp2_with fail
            refine (right_calls A5 _ _ L s _ (by omega) ((R5.out.ex hd7.ex).ex hb8) HZS.out).mono ?_
            rintro r w9 ⟨rfl, hb9⟩
            rw [HRS.out]
            go_wp2_with fail
            refine (same_calls Aa A _ _ _ _ l l _ (by omega) (by omega) (((Ra.out.ex hd7.ex).ex hb8).ex hb9) (((R0.out.ex hd7.ex).ex hb8).ex hb9)).mono ?_
            rintro r w10 ⟨rfl, hd10⟩
            rw [show decide (l = l) = true from decide_eq_true rfl]
            go_wp2_with fail
            refine (lives_calls _).mono ?_
            rintro r w11 ⟨rfl, hb⟩
            go_wp2
            go_ret
            exact ⟨rfl, ((((X6.trans hd7.ex).trans hb8).trans hb9).trans hd10.ex).trans hb⟩
          · have hne : ((applyR t e).2 != 0) = true := by rw [bne_iff_ne]; exact hz
            have HNE := Lib.hid hne
            clear hr hv hz hne
            go_enter Try.func5, Try.ntmps5
            go_wp2_with fail
            refine (few_calls _ _ _ _).mono ?_
            rintro r w1 ⟨rfl, rfl⟩
            rw [E40.out]
            go_wp2_with fail
            refine (refRight_calls A l.length c l t _ (by omega) (Hm.out.ex X0) HZ.out).mono ?_
            rintro r w1 ⟨rfl, hb1⟩
            rw [HR.out]
            have a0 := Ex.cell hb1 g0
            have a1 := Ex.cell hb1 g1
            have a2 := Ex.cell hb1 g2
            go_wp2_with fail
            refine (refValid_calls _ _ (by omega)).mono ?_
            rintro r w2 ⟨rfl, hb2⟩
            rw [HV.out]
            have b0 := Ex.cell hb2 a0
            have b1 := Ex.cell hb2 a1
            have b2 := Ex.cell hb2 a2
            go_wp2_with fail
            refine (refApply_calls t e _ (by omega) (by omega) (by omega)).mono ?_
            rintro r w3 ⟨rfl, hb3⟩
            generalize (applyR t e).2 = z at HNE ⊢
            have hz := HNE.out
            go_wp2_with fail
            refine (lives_calls _).mono ?_
            rintro r w4 ⟨rfl, hb⟩
            go_wp2
            go_ret
            exact ⟨rfl, (((X0.trans hb1).trans hb2).trans hb3).trans hb⟩
  · have E40 := Lib.hid (show decide ((l.length : Int) ≤ 40) = false from decide_eq_false (by omega))
    go_enter Try.func5, Try.ntmps5
    go_wp2_with fail
    refine (few_calls _ _ _ _).mono ?_
    rintro r w1 ⟨rfl, rfl⟩
    rw [E40.out]
    go_wp2_with fail
    refine (lives_calls _).mono ?_
    rintro r w2 ⟨rfl, hb⟩
    go_wp2
    go_ret
    exact ⟨rfl, X0.trans hb⟩
end Go.Proofs.Ytkclpflgndgabaa
