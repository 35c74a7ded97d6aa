/- Walk: stands of styluslaw11: a disk of the program as the page's. -/
import Derived.Test.YtcffkmlnbnjibaaGreatPyA
namespace Go.Proofs.YtcffkmlnbnjibaaGreat
open Go.RowKit Go.Maps
set_option maxHeartbeats 2000000 in
set_option maxRecDepth 100000 in
theorem stands_calls {w : World} {g : Nat} {F D : Nat → Prop} {Q : DkV} {tv sl : Value} {M : Nat} (hP : DkP w g F Q) (hR : RdV D w Q tv sl) (ho : Q.Ok M) (hM : M ≤ 800000) (hD : ∀ k, D k → k < w.heap.size) :
    Calls Tryz.prog 28 #[ptrV g, .agg (Q.rcs tv sl).toArray] w fun e w' => e = .returned (.bool true) ∧ Ex w w' := by
  obtain ⟨tA, tc, sB, sn, sd, rfl, rfl⟩ := hR.shape
  have hX := ex_alloc (Ex.refl w) (.cells (Q.rcs (.slice tA Q.tapes.length tc) (.slice sB sn sd)).toArray 59)
  have hB := Blk.new w (Q.rcs (.slice tA Q.tapes.length tc) (.slice sB sn sd)) 59
  have HP0 := Lib.hid (hP.ex hX)
  have HR0 := Lib.hid (hR.ex hX)
  have HB0 := Lib.hid hB
  have HX0 := Lib.hid hX
  have HD0 := Lib.hid (fun k hk => Nat.lt_of_lt_of_le (hD k hk) hX.size)
  have hidz := hP.idz
  have htl6 : Q.tapes.length ≤ 1000000 := by have := ho.tl; omega
  have hfl6 : Q.files.length ≤ 1000000000 := by
    have : Q.files.length = Q.fo.now.length := by unfold DkV.files; rw [List.length_map]
    have := ho.fo.now_len; omega
  have HNM := Lib.hid (show Q.names.length = Q.fo.now.length from by unfold DkV.names; rw [List.length_map])
  have HCL := Lib.hid (fun (W : World) (h : DkP W g F Q) => dlist_calls h ho hM)
  have HCF := Lib.hid (fun (W : World) (h : DkP W g F Q) => dfiles_calls h ho hM)
  have HCE := Lib.hid (fun (W : World) (h : DkP W g F Q) => dfree_calls h ho hM)
  have HCN := Lib.hid (fun (W : World) (h : RdV D W Q (.slice tA Q.tapes.length tc) (.slice sB sn sd)) => rnames_calls h ho hM)
  have HCR := Lib.hid (fun (W : World) (hR : RdV D W Q (.slice tA Q.tapes.length tc) (.slice sB sn sd)) (hD : ∀ k, D k → k < W.heap.size) => rfree_calls hR ho.fo (by omega) hidz htl6 (by have := ho.s1; omega) (by have := ho.s2; omega) (fun t ht => by have := ho.tz t ht; omega) hD)
  have HCD := Lib.hid (fun (W : World) (hR : RdV D W Q (.slice tA Q.tapes.length tc) (.slice sB sn sd)) => rfiles_calls hR ho hM hidz)
  clear hP hR ho hX hB hD hidz
  unfold DkV.rcs at HCN HCR HCD HB0 HX0 HP0 HR0 HD0 ⊢
  generalize Q.tapes.length = tm at *
  generalize Q.fo.now.length = nl at *
  obtain ⟨W, hW⟩ : ∃ W, W = w.alloc (.cells [Value.int .i64 Q.sec, .slice tA tm tc, .slice sB sn sd, .int .i64 Q.fu.p, .int .i64 Q.fu.s, .int .i64 Q.fu.d, .bool Q.fu.off, .int .i64 (Q.calls : Int)].toArray 59) := ⟨_, rfl⟩
  rw [← hW] at HP0 HR0 HB0 HX0 HD0
  have HWE := Lib.hid hW
  clear hW
  by_cases hoff : Q.fu.off = true
  case pos =>
    have HOF := Lib.hid hoff
    have HL := Lib.hid (show ∀ W' w' e, ListP W' Q w' e → e = .returned (.tuple #[.slice none 0 0, .int .i64 14]) ∧ Ex W' w' from fun W' w' e h => by
      obtain ⟨⟨v, rfl, h1, _⟩, h2⟩ := h
      rw [h1 hoff, if_pos hoff]
      exact ⟨rfl, h2⟩)
    clear hoff
    rw [HOF.out] at HCN HCR HCD
    go_enter Tryz.func28, Tryz.ntmps28
    go_wp2_with fail
    rw [← HWE.out]
    refine (HCL.out _ HP0.out).mono ?_
    intro e w1 hl
    obtain ⟨rfl, hb1⟩ := HL.out _ _ _ hl
    have H1 := Lib.hid hb1
    obtain ⟨y0, y1, y2, y3, y4, y5, y6, y7⟩ := rd_cells (HB0.out.ex hb1)
    rw [HOF.out] at y6
    clear hl hb1
    go_wp2_with fail
    go_region_held3 (fun w' => w'.cell? ⟨w.heap.size, 0, none⟩ = some (.int .i64 Q.sec) ∧ w'.cell? ⟨w.heap.size, 1, none⟩ = some (.slice tA tm tc) ∧ w'.cell? ⟨w.heap.size, 2, none⟩ = some (.slice sB sn sd) ∧ w'.cell? ⟨w.heap.size, 3, none⟩ = some (.int .i64 Q.fu.p) ∧ w'.cell? ⟨w.heap.size, 4, none⟩ = some (.int .i64 Q.fu.s) ∧ w'.cell? ⟨w.heap.size, 5, none⟩ = some (.int .i64 Q.fu.d) ∧ w'.cell? ⟨w.heap.size, 6, none⟩ = some (.bool true) ∧ w'.cell? ⟨w.heap.size, 7, none⟩ = some (.int .i64 (Q.calls : Int))) (go_keep) (first
        | (go_at_call 19; ((with_reducible refine (HCF.out _ (HP0.out.ex (Ex.trans H1.out (Ex.refl w1).drew))).mono ?_); rintro e w11 ⟨v11, rfl, ho11, hb11⟩; obtain ⟨A11, c11, rfl, _⟩ := own_shape ho11; have H11 := Lib.hid (Ex.trans (Ex.trans H1.out (Ex.refl w1).drew) hb11); have HO11 := Lib.hid (Row.of_own ho11); clear ho11; obtain ⟨y0, y1, y2, y3, y4, y5, y6, y7⟩ := rd_cells (HB0.out.ex H11.out); rw [HOF.out] at y6; clear hb11))
        | (go_at_call 38; ((with_reducible refine (HCD.out _ (HR0.out.ex H11.out)).mono ?_); rintro e w12 ⟨v12, rfl, ho12, hb12⟩; obtain ⟨A12, c12, rfl, _⟩ := own_shape ho12; have H12 := Lib.hid (Ex.trans H11.out hb12); have HO12 := Lib.hid (Row.of_own ho12); have HP12 := Lib.hid (HO11.out.ex hb12); clear ho12; obtain ⟨y0, y1, y2, y3, y4, y5, y6, y7⟩ := rd_cells (HB0.out.ex H12.out); rw [HOF.out] at y6; clear hb12))
        | (go_at_call 81; ((with_reducible refine (files11_calls HP12.out HO12.out hfl6).mono ?_); rintro e w13 ⟨rfl, hb13⟩; have H13 := Lib.hid (Ex.trans H12.out hb13); obtain ⟨y0, y1, y2, y3, y4, y5, y6, y7⟩ := rd_cells (HB0.out.ex H13.out); rw [HOF.out] at y6; clear hb13))
        | (go_at_call 20; ((with_reducible refine (HCE.out _ (HP0.out.ex H13.out)).mono ?_); rintro e w14 ⟨rfl, hb14⟩; have H14 := Lib.hid (Ex.trans H13.out hb14); obtain ⟨y0, y1, y2, y3, y4, y5, y6, y7⟩ := rd_cells (HB0.out.ex H14.out); rw [HOF.out] at y6; clear hb14))
        | (go_at_call 39; ((with_reducible refine (HCR.out _ (HR0.out.ex H14.out) (fun k hk => Nat.lt_of_lt_of_le (HD0.out k hk) H14.out.size)).mono ?_); rintro e w15 ⟨rfl, hb15⟩; have H15 := Lib.hid (Ex.trans H14.out hb15); obtain ⟨y0, y1, y2, y3, y4, y5, y6, y7⟩ := rd_cells (HB0.out.ex H15.out); rw [HOF.out] at y6; clear hb15))
        | (go_at_call 23; ((with_reducible refine (dup_calls (HP0.out.ex H15.out)).mono ?_); rintro e w16 ⟨rfl, hb16⟩; have H16 := Lib.hid (Ex.trans H15.out hb16); rw [HOF.out]; obtain ⟨y0, y1, y2, y3, y4, y5, y6, y7⟩ := rd_cells (HB0.out.ex H16.out); rw [HOF.out] at y6; clear hb16))
        | (go_at_call 21; ((with_reducible refine (dcount_calls (HP0.out.ex H16.out)).mono ?_); rintro e w17 ⟨rfl, hb17⟩; have H17 := Lib.hid (Ex.trans H16.out hb17); obtain ⟨y0, y1, y2, y3, y4, y5, y6, y7⟩ := rd_cells (HB0.out.ex H17.out); rw [HOF.out] at y6; clear hb17)))
    go_wp2_with fail
    go_ret
    exact ⟨rfl, HX0.out.trans H17.out⟩
  case neg =>
    replace hoff := Bool.eq_false_iff.2 hoff
    have HOF := Lib.hid hoff
    have HL := Lib.hid (show ∀ W' w' e, ListP W' Q w' e → ∃ A c, e = .returned (.tuple #[.slice A nl c, .int .i64 0]) ∧ Ex W' w' from fun W' w' e h => by
      obtain ⟨⟨v, rfl, _, h1⟩, h2⟩ := h
      obtain ⟨A, c, rfl, _⟩ := own_shape (h1 hoff)
      rw [if_neg (by rw [hoff]; decide), HNM.out]
      exact ⟨A, c, rfl, h2⟩)
    clear hoff
    rw [HOF.out] at HCN HCR HCD
    go_enter Tryz.func28, Tryz.ntmps28
    go_wp2_with fail
    rw [← HWE.out]
    refine (HCL.out _ HP0.out).mono ?_
    intro e w1 hl
    obtain ⟨A1, c1, rfl, hb1⟩ := HL.out _ _ _ hl
    have H1 := Lib.hid hb1
    obtain ⟨y0, y1, y2, y3, y4, y5, y6, y7⟩ := rd_cells (HB0.out.ex hb1)
    rw [HOF.out] at y6
    clear hl hb1
    go_wp2_with fail
    refine (HCN.out _ (HR0.out.ex H1.out)).mono ?_
    rintro e w2 ⟨A2, c2, rfl, hb2⟩
    have H2 := Lib.hid (Ex.trans H1.out hb2)
    obtain ⟨y0, y1, y2, y3, y4, y5, y6, y7⟩ := rd_cells (HB0.out.ex H2.out)
    rw [HOF.out] at y6
    clear hb2
    go_wp2_with fail
    go_region_held3 (fun w' => w'.cell? ⟨w.heap.size, 0, none⟩ = some (.int .i64 Q.sec) ∧ w'.cell? ⟨w.heap.size, 1, none⟩ = some (.slice tA tm tc) ∧ w'.cell? ⟨w.heap.size, 2, none⟩ = some (.slice sB sn sd) ∧ w'.cell? ⟨w.heap.size, 3, none⟩ = some (.int .i64 Q.fu.p) ∧ w'.cell? ⟨w.heap.size, 4, none⟩ = some (.int .i64 Q.fu.s) ∧ w'.cell? ⟨w.heap.size, 5, none⟩ = some (.int .i64 Q.fu.d) ∧ w'.cell? ⟨w.heap.size, 6, none⟩ = some (.bool false) ∧ w'.cell? ⟨w.heap.size, 7, none⟩ = some (.int .i64 (Q.calls : Int))) (go_keep) (first
        | (go_at_call 19; ((with_reducible refine (HCF.out _ (HP0.out.ex (Ex.trans H2.out (Ex.refl w2).drew))).mono ?_); rintro e w11 ⟨v11, rfl, ho11, hb11⟩; obtain ⟨A11, c11, rfl, _⟩ := own_shape ho11; have H11 := Lib.hid (Ex.trans (Ex.trans H2.out (Ex.refl w2).drew) hb11); have HO11 := Lib.hid (Row.of_own ho11); clear ho11; obtain ⟨y0, y1, y2, y3, y4, y5, y6, y7⟩ := rd_cells (HB0.out.ex H11.out); rw [HOF.out] at y6; clear hb11))
        | (go_at_call 38; ((with_reducible refine (HCD.out _ (HR0.out.ex H11.out)).mono ?_); rintro e w12 ⟨v12, rfl, ho12, hb12⟩; obtain ⟨A12, c12, rfl, _⟩ := own_shape ho12; have H12 := Lib.hid (Ex.trans H11.out hb12); have HO12 := Lib.hid (Row.of_own ho12); have HP12 := Lib.hid (HO11.out.ex hb12); clear ho12; obtain ⟨y0, y1, y2, y3, y4, y5, y6, y7⟩ := rd_cells (HB0.out.ex H12.out); rw [HOF.out] at y6; clear hb12))
        | (go_at_call 81; ((with_reducible refine (files11_calls HP12.out HO12.out hfl6).mono ?_); rintro e w13 ⟨rfl, hb13⟩; have H13 := Lib.hid (Ex.trans H12.out hb13); obtain ⟨y0, y1, y2, y3, y4, y5, y6, y7⟩ := rd_cells (HB0.out.ex H13.out); rw [HOF.out] at y6; clear hb13))
        | (go_at_call 20; ((with_reducible refine (HCE.out _ (HP0.out.ex H13.out)).mono ?_); rintro e w14 ⟨rfl, hb14⟩; have H14 := Lib.hid (Ex.trans H13.out hb14); obtain ⟨y0, y1, y2, y3, y4, y5, y6, y7⟩ := rd_cells (HB0.out.ex H14.out); rw [HOF.out] at y6; clear hb14))
        | (go_at_call 39; ((with_reducible refine (HCR.out _ (HR0.out.ex H14.out) (fun k hk => Nat.lt_of_lt_of_le (HD0.out k hk) H14.out.size)).mono ?_); rintro e w15 ⟨rfl, hb15⟩; have H15 := Lib.hid (Ex.trans H14.out hb15); obtain ⟨y0, y1, y2, y3, y4, y5, y6, y7⟩ := rd_cells (HB0.out.ex H15.out); rw [HOF.out] at y6; clear hb15))
        | (go_at_call 23; ((with_reducible refine (dup_calls (HP0.out.ex H15.out)).mono ?_); rintro e w16 ⟨rfl, hb16⟩; have H16 := Lib.hid (Ex.trans H15.out hb16); rw [HOF.out]; obtain ⟨y0, y1, y2, y3, y4, y5, y6, y7⟩ := rd_cells (HB0.out.ex H16.out); rw [HOF.out] at y6; clear hb16))
        | (go_at_call 21; ((with_reducible refine (dcount_calls (HP0.out.ex H16.out)).mono ?_); rintro e w17 ⟨rfl, hb17⟩; have H17 := Lib.hid (Ex.trans H16.out hb17); obtain ⟨y0, y1, y2, y3, y4, y5, y6, y7⟩ := rd_cells (HB0.out.ex H17.out); rw [HOF.out] at y6; clear hb17)))
    go_wp2_with fail
    go_ret
    exact ⟨rfl, HX0.out.trans H17.out⟩
end Go.Proofs.YtcffkmlnbnjibaaGreat
