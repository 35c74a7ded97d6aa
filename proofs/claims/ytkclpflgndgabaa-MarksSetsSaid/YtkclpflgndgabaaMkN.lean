/- Walk: the statement MarksSets. -/
import Derived.Test.YtkclpflgndgabaaMkK
import Derived.Test.YtkclpflgndgabaaMkM
namespace Go.Proofs.Ytkclpflgndgabaa
open Go.RowKit
theorem endI_len (m : Mk) (l : List Mk) : (endI m (foldI m l)).length = l.length + 1 := by
  have := foldI_len m l
  unfold endI
  split
  · rename_i h; rw [h] at this; simpa using this
  · rename_i h; rw [if_neg h] at this; rw [List.length_append]; simpa using this
theorem setR_len (l : List Mk) (m : Mk) : (setR l m).1.length ≤ l.length + 1 := by
  unfold setR
  split
  · simp
  · split
    · rw [endI_len]; have := List.length_filter_le (nmNot m.nm) l; omega
    · split
      · simp
      · rw [endI_len]; omega
theorem dropM_len (s : ByteArray) (l : List Mk) : (dropM s l).1.length ≤ l.length := by
  unfold dropM
  split
  · exact List.length_filter_le _ _
  · simp
set_option maxHeartbeats 1000000 in
theorem marksSets_calls (A : Option Addr) (n c : Nat) (l : List Mk) (m : Mk) (s : ByteArray) (w : World) (hn : n ≤ 9223372036854775807) (hms : m.nm.size ≤ 9223372036854775807) (hm : Row w 2 A n (Mk.cs l)) (hA : A = none → c = 0) :
    Calls Try.prog 3 #[.slice A n c, .agg #[.string m.nm, .int .i64 m.pl], .string s] w fun e w' => e = .returned (.bool true) ∧ Ex w w' := by
  have Hm := Lib.hid hm
  have HA := Lib.hid hA
  clear hm hA
  have X0 : Ex w (w.alloc (.cells #[.string m.nm, .int .i64 m.pl] 24)) := ex_alloc (Ex.refl _) _
  have g0 : (w.alloc (.cells #[.string m.nm, .int .i64 m.pl] 24)).cell? ⟨w.heap.size, 0, none⟩ = some (.string m.nm) := (show Blk _ _ 24 (Mk.enc m) from heap_alloc_new w _).cell 0
  have g1 : (w.alloc (.cells #[.string m.nm, .int .i64 m.pl] 24)).cell? ⟨w.heap.size, 1, none⟩ = some (.int .i64 m.pl) := (show Blk _ _ 24 (Mk.enc m) from heap_alloc_new w _).cell 1
  by_cases h40 : n ≤ 40
  · have e40 : decide ((n : Int) ≤ 40) = true := decide_eq_true (by omega)
    have E40 := Lib.hid e40
    clear e40
    cases hr : rise l
    · have Hr := Lib.hid hr
      clear hr
      go_enter Try.func3, Try.ntmps3
      go_wp2_with fail
      refine (few_calls _ _ _ _).mono ?_
      rintro e w1 ⟨rfl, rfl⟩
      rw [E40.out]
      go_wp2_with fail
      refine (rise_calls A n c l _ (by omega) (Hm.out.ex X0)).mono ?_
      rintro e w1 ⟨rfl, hd⟩
      rw [Hr.out]
      go_wp2_with fail
      refine (lives_calls _).mono ?_
      rintro e w2 ⟨rfl, hb⟩
      go_wp2
      go_ret
      exact ⟨rfl, (X0.trans hd.ex).trans hb⟩
    · have Hr := Lib.hid hr
      have HS := Lib.hid (set_same (m := m) hr)
      have HD := Lib.hid (drop_same (s := s) hr)
      clear hr
      go_enter Try.func3, Try.ntmps3
      go_wp2_with fail
      refine (few_calls _ _ _ _).mono ?_
      rintro e w1 ⟨rfl, rfl⟩
      rw [E40.out]
      go_wp2_with fail
      refine (rise_calls A n c l _ (by omega) (Hm.out.ex X0)).mono ?_
      rintro e w1 ⟨rfl, hd⟩
      rw [Hr.out]
      have X1 : Ex w w1 := X0.trans hd.ex
      have a0 := Ex.cell hd.ex g0
      have a1 := Ex.cell hd.ex g1
      go_wp2_with (first | (at_builtin; refine app_mk rfl (.tmp 25) (.tmp 26) rfl w1.heap.size (.slice (some ⟨w1.heap.size, 0, none⟩) 0 0) 0 [] rfl (own_lit w1 _ 2) A n c l rfl (Hm.out.ex (ex_alloc X1 _)) (by omega) (by simp) (ex_alloc (Ex.refl w1) _) ?_; intro va wa hoa hba _ _; have b0 := Ex.cell hba a0; have b1 := Ex.cell hba a1))
      have X2 : Ex w wa := X1.trans hba
      rw [Nat.zero_add, List.nil_append] at hoa
      refine (set_calls A n c l m _ (by omega) hms (Hm.out.ex X2) HA.out).mono ?_
      rintro e w2 ⟨v2, rfl, ho2, hb2⟩
      rw [HS.out] at ho2 ⊢
      have X3 : Ex w w2 := X2.trans hb2
      have c0 := Ex.cell hb2 b0
      have c1 := Ex.cell hb2 b1
      go_wp2_with fail
      refine (refSet_calls A n c l m _ (by omega) hms (Hm.out.ex X3)).mono ?_
      rintro e w3 ⟨v3, rfl, ho3, hb3⟩
      have X4 : Ex w w3 := X3.trans hb3
      go_wp2_with fail
      refine (drop_calls A n c l s _ (by omega) (Hm.out.ex X4) HA.out).mono ?_
      rintro e w4 ⟨v4, rfl, ho4, hb4⟩
      rw [HD.out] at ho4 ⊢
      have X5 : Ex w w4 := X4.trans hb4
      go_wp2_with fail
      refine (refDrop_calls A n c l s _ (by omega) (Hm.out.ex X5)).mono ?_
      rintro e w5 ⟨v5, rfl, ho5, hb5⟩
      have X6 : Ex w w5 := X5.trans hb5
      have hl := Hm.out.mk_len
      have z1 := setR_len l m
      have z2 := dropM_len s l
      have o2 := own_ex (own_ex (own_ex ho2 hb3) hb4) hb5
      have o3 := own_ex (own_ex ho3 hb4) hb5
      have o4 := own_ex ho4 hb5
      obtain ⟨A2, c2, rfl, _⟩ := own_shape ho2
      obtain ⟨A3, c3, rfl, _⟩ := own_shape ho3
      obtain ⟨A4, c4, rfl, _⟩ := own_shape ho4
      obtain ⟨A5, c5, rfl, _⟩ := own_shape ho5
      have oa := own_ex (own_ex (own_ex (own_ex hoa hb2) hb3) hb4) hb5
      obtain ⟨Aa, ca, rfl, _⟩ := own_shape hoa
      have R2 := Lib.hid (Row.of_own o2)
      have R3 := Lib.hid (Row.of_own o3)
      have R4 := Lib.hid (Row.of_own o4)
      have R5 := Lib.hid (Row.of_own ho5)
      have Ra := Lib.hid (Row.of_own oa)
      have R0 := Lib.hid (Hm.out.ex X6)
      generalize setR l m = R at *
      generalize dropM s l = D at *
      clear o2 o3 o4 oa ho2 ho3 ho4 ho5 hoa HS HD
      have zR : R.1.length ≤ 1000000 := by omega
      have zD : D.1.length ≤ 1000000 := by omega
      clear hl z1 z2
      go_wp2_with fail
      refine (same_calls A2 A3 _ _ _ _ R.1 R.1 _ zR zR R2.out R3.out).mono ?_
      rintro e w6 ⟨rfl, hd6⟩
      rw [show decide (R.1 = R.1) = true from decide_eq_true rfl]
      go_wp2_with fail
      refine (same_calls A4 A5 _ _ _ _ D.1 D.1 _ zD zD (R4.out.ex hd6.ex) (R5.out.ex hd6.ex)).mono ?_
      rintro e w7 ⟨rfl, hd7⟩
      rw [show decide (D.1 = D.1) = true from decide_eq_true rfl]
      go_wp2_with fail
      refine (same_calls Aa A _ _ _ _ l l _ (by omega) (by omega) ((Ra.out.ex hd6.ex).ex hd7.ex) ((R0.out.ex hd6.ex).ex hd7.ex)).mono ?_
      rintro e w8 ⟨rfl, hd8⟩
      rw [show decide (l = l) = true from decide_eq_true rfl]
      go_wp2_with fail
      refine (lives_calls _).mono ?_
      rintro e w9 ⟨rfl, hb9⟩
      go_wp2
      go_ret
      exact ⟨rfl, (((X6.trans hd6.ex).trans hd7.ex).trans hd8.ex).trans hb9⟩
  · have e40 : decide ((n : Int) ≤ 40) = false := decide_eq_false (by omega)
    have E40 := Lib.hid e40
    clear e40
    go_enter Try.func3, Try.ntmps3
    go_wp2_with fail
    refine (few_calls _ _ _ _).mono ?_
    rintro e w1 ⟨rfl, rfl⟩
    rw [E40.out]
    go_wp2_with fail
    refine (lives_calls _).mono ?_
    rintro e w2 ⟨rfl, hb⟩
    go_wp2
    go_ret
    exact ⟨rfl, X0.trans hb⟩
end Go.Proofs.Ytkclpflgndgabaa
