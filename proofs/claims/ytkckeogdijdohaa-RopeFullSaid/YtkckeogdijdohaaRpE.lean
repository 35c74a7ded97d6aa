/- Walks: lives and good of styluslaw18; the statements RopeOfs and RopeNobody. -/
import Derived.Test.YtkckeogdijdohaaRpD
namespace Go.Proofs.Ytkckeogdijdohaa
open Go.RowKit
set_option maxRecDepth 100000 in
set_option maxHeartbeats 1000000 in
theorem good18_calls {v : Value} (s : ByteArray) (w : World) (x : Rp w v s) (hs : s.size ≤ 100000) : Calls Try.prog 21 #[v, .string s] w fun e w' => e = .returned (.bool true) ∧ Ex w w' := by
  obtain ⟨u, cs, h, h1, h2, -, h4, h5, h6, h7⟩ := x.root
  have X := Lib.hid x
  have H1 := Lib.hid h1
  have H2 := Lib.hid h2
  have H4 := Lib.hid h4
  have H7 := Lib.hid h7
  obtain ⟨c, hc⟩ : ∃ c, tally s = c := ⟨_, rfl⟩
  have HC := Lib.hid hc
  have HCT := Lib.hid (fun w (y : Rp w v s) => by have := rcount_calls s w y; rw [hc] at this; exact this)
  have HBT := Lib.hid (fun w => bits_calls s.size w (by omega))
  have hbl := bitsF_le s.size
  generalize bitsF s.size = bt at *
  have d1 : decide (h ≤ (bt : Int)) = true := decide_eq_true h6
  have heq := fun (w : World) (a b c a' b' c' : Int) => eql_c3 w a b c a' b' c'
  clear h1 h2 h4 h7 hc x
  go_enter Try.func21, Try.ntmps21
  go_wp2_with fail
  refine (rtext_calls s _ X.out hs).mono ?_
  rintro e w1 ⟨rfl, hb1⟩
  have HB1 := Lib.hid hb1
  clear hb1
  go_wp2_with fail
  refine (rlen_calls s _ (X.out.ex HB1.out)).mono ?_
  rintro e w2 ⟨rfl, hb2⟩
  have HB2 := Lib.hid (HB1.out.trans hb2)
  clear hb2
  go_wp2_with fail
  refine (HCT.out _ (X.out.ex HB2.out)).mono ?_
  rintro e w3 ⟨rfl, hb3⟩
  unfold C3.agg
  have HB3 := Lib.hid (HB2.out.trans hb3)
  clear hb3
  go_wp2_with fail
  refine (refTally_at s c _ hs HC.out).mono ?_
  rintro e w4 ⟨rfl, hb4⟩
  have HB4 := Lib.hid (HB3.out.trans hb4)
  clear hb4
  go_wp2_with fail
  refine (rright_calls s _ (X.out.ex HB4.out) hs).mono ?_
  rintro e w5 ⟨rfl, hb5⟩
  have HB5 := Lib.hid (HB4.out.trans hb5)
  clear hb5
  go_wp2_with fail
  refine (root_calls _ (H1.out.ex HB5.out)).mono ?_
  rintro e w6 ⟨rfl, rfl⟩
  go_wp2_with fail
  refine (text_at s _ (H2.out.ex HB5.out) H4.out hs).mono ?_
  rintro e w7 ⟨rfl, hb7⟩
  have HB7 := Lib.hid (HB5.out.trans hb7)
  clear hb7
  go_wp2_with fail
  refine (rheight_at _ (H1.out.ex HB7.out) (H7.out _ HB7.out)).mono ?_
  rintro e w8 ⟨rfl, rfl⟩
  go_wp2_with fail
  refine (root_calls _ (H1.out.ex HB7.out)).mono ?_
  rintro e w9 ⟨rfl, rfl⟩
  go_wp2_with fail
  refine (H7.out _ HB7.out).mono ?_
  rintro e w10 ⟨rfl, rfl⟩
  go_wp2_with fail
  refine (rheight_at _ (H1.out.ex HB7.out) (H7.out _ HB7.out)).mono ?_
  rintro e w11 ⟨rfl, rfl⟩
  go_wp2_with fail
  refine (HBT.out _).mono ?_
  rintro e w12 ⟨rfl, rfl⟩
  go_wp2_with fail
  go_ret
  exact ⟨rfl, HB7.out⟩
theorem ins_lit : insT ⟨#[97, 98]⟩ 1 ⟨#[120]⟩ = (0, ⟨#[97, 120, 98]⟩) := by decide
set_option maxRecDepth 100000 in
set_option maxHeartbeats 400000 in
theorem lives18_calls (w : World) : Calls Try.prog 19 #[] w fun e w' => e = .returned (.bool true) ∧ Ex w w' := by
  have HI := Lib.hid ins_lit
  go_enter Try.func19, Try.ntmps19
  go_wp2_with fail
  refine (rof_calls ⟨#[97, 98]⟩ _ (by decide) (by decide)).mono ?_
  rintro e w1 ⟨g1, rfl, hr1, hb1⟩
  have HR1 := Lib.hid hr1
  have HB1 := Lib.hid hb1
  clear hr1 hb1
  go_wp2_with fail
  refine (insert_ok (t := ⟨#[97, 120, 98]⟩) _ HR1.out (by decide) (by decide) HI.out).mono ?_
  rintro e w2 ⟨g2, rfl, hr2, hb2⟩
  have HR2 := Lib.hid hr2
  have HB2 := Lib.hid hb2
  clear hr2 hb2
  go_wp2_with fail
  refine (rtext_calls ⟨#[97, 120, 98]⟩ _ HR2.out (by decide)).mono ?_
  rintro e w3 ⟨rfl, hb3⟩
  have HB3 := Lib.hid hb3
  clear hb3
  go_wp2_with fail
  refine (rtext_calls ⟨#[97, 98]⟩ _ ((HR1.out.ex HB2.out).ex HB3.out) (by decide)).mono ?_
  rintro e w4 ⟨rfl, hb4⟩
  go_wp2_with fail
  go_ret
  exact ⟨rfl, ((HB1.out.trans HB2.out).trans HB3.out).trans hb4⟩
set_option maxRecDepth 100000 in
set_option maxHeartbeats 400000 in
theorem ropeOfs_calls (s : ByteArray) (p : Int) (w : World) : Calls Try.prog 7 #[.string s, .int .i64 p] w fun e w' => e = .returned (.bool true) ∧ Ex w w' := by
  by_cases h1 : s.size ≤ 5000
  · have d1 : decide ((5000 : Int) < (s.size : Int)) = false := decide_eq_false (by omega)
    cases hv : validU s
    · have HV := Lib.hid hv
      clear hv
      go_enter Try.func7, Try.ntmps7
      go_wp2_with fail
      refine (rof_form s _ (by omega) HV.out).mono ?_
      rintro e w1 ⟨rfl, hb1⟩
      go_wp2_with fail
      refine (refValid_calls s _ (by omega)).mono ?_
      rintro e w2 ⟨rfl, hb2⟩
      rw [HV.out]
      go_wp2_with fail
      refine (lives18_calls _).mono ?_
      rintro e w3 ⟨rfl, hb3⟩
      go_wp2_with fail
      go_ret
      exact ⟨rfl, (hb1.trans hb2).trans hb3⟩
    · have HV := Lib.hid hv
      clear hv
      by_cases h2 : s.size ≤ 4096
      · have d2 : decide ((4096 : Int) < (s.size : Int)) = false := decide_eq_false (by omega)
        go_enter Try.func7, Try.ntmps7
        go_wp2_with fail
        refine (rof_calls s _ h2 HV.out).mono ?_
        rintro e w1 ⟨g1, rfl, hr1, hb1⟩
        have HR1 := Lib.hid hr1
        have HB1 := Lib.hid hb1
        clear hr1 hb1
        go_wp2_with fail
        refine (refValid_calls s _ (by omega)).mono ?_
        rintro e w2 ⟨rfl, hb2⟩
        rw [HV.out]
        have HB2 := Lib.hid hb2
        clear hb2
        go_wp2_with fail
        refine (good18_calls s _ (HR1.out.ex HB2.out) (by omega)).mono ?_
        rintro e w3 ⟨rfl, hb3⟩
        have HB3 := Lib.hid (HB2.out.trans hb3)
        clear hb3
        go_wp2_with fail
        refine (redge_calls s p _ (HR1.out.ex HB3.out) (by omega)).mono ?_
        rintro e w4 ⟨rfl, hb4⟩
        have HB4 := Lib.hid (HB3.out.trans hb4)
        clear hb4
        go_wp2_with fail
        refine (refEdge_calls s p _).mono ?_
        rintro e w5 ⟨rfl, rfl⟩
        generalize edge s p = b
        go_wp2_with fail
        refine (lives18_calls _).mono ?_
        rintro e w6 ⟨rfl, hb6⟩
        go_wp2_with fail
        go_ret
        exact ⟨rfl, (HB1.out.trans HB4.out).trans hb6⟩
      · have d2 : decide ((4096 : Int) < (s.size : Int)) = true := decide_eq_true (by omega)
        go_enter Try.func7, Try.ntmps7
        go_wp2_with fail
        refine (rof_long s _ (by omega) (by omega) HV.out).mono ?_
        rintro e w1 ⟨rfl, hb1⟩
        go_wp2_with fail
        refine (refValid_calls s _ (by omega)).mono ?_
        rintro e w2 ⟨rfl, hb2⟩
        rw [HV.out]
        go_wp2_with fail
        refine (lives18_calls _).mono ?_
        rintro e w3 ⟨rfl, hb3⟩
        go_wp2_with fail
        go_ret
        exact ⟨rfl, (hb1.trans hb2).trans hb3⟩
  · have d1 : decide ((5000 : Int) < (s.size : Int)) = true := decide_eq_true (by omega)
    go_enter Try.func7, Try.ntmps7
    go_wp2_with fail
    refine (lives18_calls _).mono ?_
    rintro e w3 ⟨rfl, hb3⟩
    go_wp2_with fail
    go_ret
    exact ⟨rfl, hb3⟩
theorem ins_empty {s : ByteArray} (hv : validU s = true) (hs : s.size ≤ 600) : insT ⟨#[]⟩ 0 s = (0, s) := by
  unfold insT
  rw [if_neg (by decide), if_neg (by decide), if_neg (by rw [hv]; decide), if_neg (by show ¬ 4096 < 0 + s.size; omega)]
  congr 1
  rw [show (⟨#[]⟩ : ByteArray).extract 0 (Int.toNat 0) = ⟨#[]⟩ from by decide, ba_nil_app, show (⟨#[]⟩ : ByteArray).extract (Int.toNat 0) (⟨#[]⟩ : ByteArray).size = ⟨#[]⟩ from by decide, ba_app_nil]
theorem del_empty : delT ⟨#[]⟩ 0 1 = (3, ⟨#[]⟩) := by decide
theorem Rp.zero (w : World) (t : TypeId) : Rp (w.alloc (.cells #[.pointer none] t)) (.pointer (some ⟨w.heap.size, 0, none⟩)) ⟨#[]⟩ :=
  box_rope (.inl ⟨rfl, rfl⟩) ⟨(fun _ h => by cases h), tt_nil⟩ rfl t
set_option maxRecDepth 100000 in
set_option maxHeartbeats 1000000 in
theorem ropeNobody_calls (s : ByteArray) (w : World) : Calls Try.prog 10 #[.string s] w fun e w' => e = .returned (.bool true) ∧ Ex w w' := by
  by_cases h1 : s.size ≤ 600
  · have d1 : decide ((600 : Int) < (s.size : Int)) = false := decide_eq_false (by omega)
    cases hv : validU s
    · have HV := Lib.hid hv
      clear hv
      go_enter Try.func10, Try.ntmps10
      go_wp2_with fail
      refine (refValid_calls s _ (by omega)).mono ?_
      rintro e w2 ⟨rfl, hb2⟩
      rw [HV.out]
      go_wp2_with fail
      refine (lives18_calls _).mono ?_
      rintro e w3 ⟨rfl, hb3⟩
      go_wp2_with fail
      go_ret
      exact ⟨rfl, hb2.trans hb3⟩
    · have HV := Lib.hid hv
      have HI := Lib.hid (ins_empty hv h1)
      have HD := Lib.hid del_empty
      have he0 : Hid (edge ⟨#[]⟩ 0 = true) := Lib.hid (by decide)
      have he1 : Hid (edge ⟨#[]⟩ 1 = false) := Lib.hid (by decide)
      clear hv
      go_enter Try.func10, Try.ntmps10
      go_wp2_with fail
      refine (refValid_calls s _ (by omega)).mono ?_
      rintro e w1 ⟨rfl, hb1⟩
      rw [HV.out]
      have HZ := Lib.hid (Rp.zero w1 55)
      have HB1 := Lib.hid (ex_alloc hb1 (.cells #[.pointer none] 55))
      clear hb1
      go_wp2_with fail
      refine (insert_ok (t := s) _ (Rp.nil _) (by decide) (by omega) HI.out).mono ?_
      rintro e w2 ⟨g2, rfl, hr2, hb2⟩
      have HR2 := Lib.hid hr2
      have HZ2 := Lib.hid (HZ.out.ex hb2)
      have HB2 := Lib.hid (HB1.out.trans hb2)
      clear hr2 hb2
      go_wp2_with fail
      refine (insert_ok (t := s) _ HZ2.out (by decide) (by omega) HI.out).mono ?_
      rintro e w3 ⟨g3, rfl, hr3, hb3⟩
      have HR3 := Lib.hid hr3
      have HB3 := Lib.hid hb3
      clear hr3 hb3
      go_wp2_with fail
      refine (delete_no (m := 3) _ (Rp.nil _) (by decide) (by rw [HD.out]) (by decide)).mono ?_
      rintro e w4 ⟨rfl, hb4⟩
      have HB4 := Lib.hid hb4
      have HR34 := Lib.hid (HR3.out.ex hb4)
      have HX4 := Lib.hid (HB3.out.trans hb4)
      clear hb4
      have HZ4 := Lib.hid (HZ2.out.ex HX4.out)
      have HR24 := Lib.hid (HR2.out.ex HX4.out)
      go_wp2_with fail
      refine (rlen_calls ⟨#[]⟩ _ (Rp.nil _)).mono ?_
      rintro e w5 ⟨rfl, hb5⟩
      have HB5 := Lib.hid hb5
      clear hb5
      go_wp2_with fail
      refine (rlen_calls ⟨#[]⟩ _ (HZ4.out.ex HB5.out)).mono ?_
      rintro e w6 ⟨rfl, hb6⟩
      have HB6 := Lib.hid (HB5.out.trans hb6)
      clear hb6
      rw [show (((⟨#[]⟩ : ByteArray).size : Nat) : Int) = 0 from rfl]
      go_wp2_with fail
      refine (rtext_calls ⟨#[]⟩ _ (Rp.nil _) (by decide)).mono ?_
      rintro e w7 ⟨rfl, hb7⟩
      have HB7 := Lib.hid (HB6.out.trans hb7)
      clear hb7
      go_wp2_with fail
      refine (rheight_at _ (.inl ⟨rfl, rfl⟩) (height_nil _)).mono ?_
      rintro e w8 ⟨rfl, rfl⟩
      go_wp2_with fail
      refine (root_calls _ (.inl ⟨rfl, rfl⟩)).mono ?_
      rintro e w8 ⟨rfl, rfl⟩
      go_wp2_with fail
      refine (rright_calls ⟨#[]⟩ _ (Rp.nil _) (by decide)).mono ?_
      rintro e w9 ⟨rfl, hb9⟩
      have HB9 := Lib.hid (HB7.out.trans hb9)
      clear hb9
      go_wp2_with fail
      refine (rright_calls ⟨#[]⟩ _ (HZ4.out.ex HB9.out) (by decide)).mono ?_
      rintro e w10 ⟨rfl, hb10⟩
      have HB10 := Lib.hid (HB9.out.trans hb10)
      clear hb10
      go_wp2_with fail
      refine (redge_calls ⟨#[]⟩ 0 _ (Rp.nil _) (by decide)).mono ?_
      rintro e w11 ⟨rfl, hb11⟩
      rw [he0.out]
      have HB11 := Lib.hid (HB10.out.trans hb11)
      clear hb11
      go_wp2_with fail
      refine (redge_calls ⟨#[]⟩ 1 _ (Rp.nil _) (by decide)).mono ?_
      rintro e w12 ⟨rfl, hb12⟩
      rw [he1.out]
      have HB12 := Lib.hid (HB11.out.trans hb12)
      clear hb12
      go_wp2_with fail
      refine (rtext_calls s _ (HR24.out.ex HB12.out) (by omega)).mono ?_
      rintro e w13 ⟨rfl, hb13⟩
      have HB13 := Lib.hid (HB12.out.trans hb13)
      clear hb13
      go_wp2_with fail
      refine (rtext_calls s _ (HR34.out.ex HB13.out) (by omega)).mono ?_
      rintro e w14 ⟨rfl, hb14⟩
      have HB14 := Lib.hid (HB13.out.trans hb14)
      clear hb14
      go_wp2_with fail
      refine (lives18_calls _).mono ?_
      rintro e w15 ⟨rfl, hb15⟩
      go_wp2_with fail
      go_ret
      exact ⟨rfl, ((HB2.out.trans HX4.out).trans HB14.out).trans hb15⟩
  · have d1 : decide ((600 : Int) < (s.size : Int)) = true := decide_eq_true (by omega)
    go_enter Try.func10, Try.ntmps10
    go_wp2_with fail
    refine (lives18_calls _).mono ?_
    rintro e w3 ⟨rfl, hb3⟩
    go_wp2_with fail
    go_ret
    exact ⟨rfl, hb3⟩
end Go.Proofs.Ytkckeogdijdohaa
