/- The walk of SweepRemoves. -/
import Derived.Test.YtomfcgeibbicoaaGreatSvA
import Derived.Test.YtomfcgeibbicoaaGreatRfN
namespace Go.Proofs.YtomfcgeibbicoaaGreat
open Go.RowKit Go.Maps
theorem faults_fo (Q : DkV) : ∀ l : List FtV, (Q.faults l).fo = Q.fo
  | [] => rfl
  | f :: r => by
    show ((Q.fault f.k f.a).1.faults r).fo = Q.fo
    rw [faults_fo _ r, fault_fo]
set_option maxHeartbeats 4000000 in
set_option maxRecDepth 100000 in
theorem swremoves_calls (lA : Option Addr) (lc : Nat) (l : List FlV) (nA : Option Addr) (nc : Nat) (nl : List ByteArray) (ep : Int) (fA : Option Addr) (fc : Nat) (fl : List FtV) (w : World) (hlr : Row w 2 lA l.length (l.flatMap FlV.cs)) (hln : ∀ f ∈ l, f.nm.size ≤ 9223372036854775807) (hnr : Row w 1 nA nl.length (nl.map Value.string)) (hnn : ∀ s ∈ nl, s.size ≤ 9223372036854775807) (hr : Row w 2 fA fl.length (fl.flatMap FtV.cs)) (hl : ∀ f ∈ fl, f.ok) :
    Calls Tryz.prog 3 #[.slice lA l.length lc, .agg #[.slice nA nl.length nc, .int .i64 ep, .slice fA fl.length fc]] w fun e w' => e = .returned (.bool true) ∧ Ex w w' := by
  have hX0 := ex_alloc (Ex.refl w) (.cells #[.slice nA nl.length nc, .int .i64 ep, .slice fA fl.length fc] 26)
  have hB0 : Blk (w.alloc (.cells #[.slice nA nl.length nc, .int .i64 ep, .slice fA fl.length fc] 26)) w.heap.size 26 [.slice nA nl.length nc, .int .i64 ep, .slice fA fl.length fc] := Blk.new w _ _
  have HR0 := Lib.hid (hr.ex hX0)
  have HLR0 := Lib.hid (hlr.ex hX0)
  have HNR0 := Lib.hid (hnr.ex hX0)
  have HL := Lib.hid hl
  have HLN := Lib.hid hln
  have HNN := Lib.hid hnn
  have HX0 := Lib.hid hX0
  have HB0 := Lib.hid hB0
  clear hr hl hlr hln hnr hnn
  go_enter Tryz.func3, Tryz.ntmps3
  go_wp2_with fail
  refine (few37_calls _ _ _ _ HLR0.out).mono ?_
  rintro e W ⟨rfl, hbf⟩
  have HXL := Lib.hid (HX0.out.trans hbf)
  have HB1 := Lib.hid (HB0.out.ex hbf)
  have HR := Lib.hid (HR0.out.ex hbf)
  have HLR := Lib.hid (HLR0.out.ex hbf)
  have HNR := Lib.hid (HNR0.out.ex hbf)
  have b0 : W.cell? ⟨w.heap.size, 0, none⟩ = some (.slice nA nl.length nc) := HB1.out.cell 0
  have b1 : W.cell? ⟨w.heap.size, 1, none⟩ = some (.int .i64 ep) := HB1.out.cell 1
  have b2 : W.cell? ⟨w.heap.size, 2, none⟩ = some (.slice fA fl.length fc) := HB1.out.cell 2
  have hz0 : w.heap.size < W.heap.size := HB1.out.lt
  clear hbf hX0 hB0
  cases hfw : fewB 20 100 l
  · go_wp2_with fail
    refine (lv37_calls _).mono ?_
    rintro e wl ⟨rfl, hbl⟩
    go_wp2_with fail
    go_ret
    exact ⟨rfl, HXL.out.trans hbl⟩
  by_cases c1 : 20 < nl.length
  · have d1 : decide ((20 : Int) < (nl.length : Int)) = true := decide_eq_true (by omega)
    go_wp2_with fail
    refine (lv37_calls _).mono ?_
    rintro e wl ⟨rfl, hbl⟩
    go_wp2_with fail
    go_ret
    exact ⟨rfl, HXL.out.trans hbl⟩
  have d1 : decide ((20 : Int) < (nl.length : Int)) = false := decide_eq_false (by omega)
  by_cases c2 : 3 < fl.length
  · have d2 : decide ((3 : Int) < (fl.length : Int)) = true := decide_eq_true (by omega)
    go_wp2_with fail
    refine (lv37_calls _).mono ?_
    rintro e wl ⟨rfl, hbl⟩
    go_wp2_with fail
    go_ret
    exact ⟨rfl, HXL.out.trans hbl⟩
  have d2 : decide ((3 : Int) < (fl.length : Int)) = false := decide_eq_false (by omega)
  have HLO := Lib.hid (show ∀ f ∈ l, f.nm.size ≤ 9223372036854775807 ∧ f.dt.size ≤ 131072 from fun f hf => ⟨HLN.out f hf, Nat.le_trans (fewB_dt hfw hf) (by decide)⟩)
  have hl20 := fewB_len hfw
  clear hfw
  go_wp2_with fail
  refine (dload_calls 100 lA lc l _ HLR.out HLO.out (by decide) (by decide)).mono ?_
  rintro e w2 ⟨⟨v, rfl, hno, hyes⟩, hX2⟩
  have HNO := Lib.hid hno
  have HYES := Lib.hid hyes
  have HX2 := Lib.hid hX2
  clear hno hyes
  go_wp2_with fail
  refine (rload_calls (F := fun k => NewB W k ∧ k < w2.heap.size) 100 lA lc l _ (HLR.out.ex HX2.out) HLO.out (fun k hk => hk.2)).mono ?_
  rintro e w3 ⟨⟨v', rfl, hno', hyes'⟩, hX3⟩
  have hno := HNO.out
  have hyes := HYES.out
  obtain ⟨r, c, hrc⟩ : ∃ r c, DkV.load 100 l = (r, c) := ⟨_, _, rfl⟩
  have HRC := Lib.hid hrc
  rw [hrc] at hno hyes hno' hyes' ⊢
  clear HNO HYES hrc
  cases r with
  | none =>
    obtain rfl := hno rfl
    obtain rfl := hno' rfl
    have HXL := Lib.hid (HXL.out.trans (HX2.out.trans (Ex.trans hX3 (ex_alloc (Ex.refl w3) (.cells zeroD.toArray 40)))))
    clear hno hno' hyes hyes' hX2 hX3
    unfold zeroD at *
    by_cases hq0 : c = 0
    · subst hq0
      go_wp2_with fail
      refine (lv37_calls _).mono ?_
      rintro e wl ⟨rfl, hbl⟩
      go_wp2_with fail
      go_ret
      exact ⟨rfl, HXL.out.trans hbl⟩
    · have q1 : decide (c = 0) = false := decide_eq_false hq0
      have q2 : (c == 0) = false := beq_eq_false_iff_ne.2 hq0
      have q3 : (c != 0) = true := by rw [bne, q2]; rfl
      go_wp2_with fail
      refine (lv37_calls _).mono ?_
      rintro e wl ⟨rfl, hbl⟩
      go_wp2_with fail
      go_ret
      exact ⟨rfl, HXL.out.trans hbl⟩
  | some Q0 =>
  obtain rfl : c = 0 := load_some HRC.out
  obtain ⟨g, rfl, hg, hP⟩ := hyes Q0 rfl
  obtain ⟨tv, sl, rfl, hR⟩ := hyes' Q0 rfl
  have HOk := Lib.hid (load_ok HLO.out HRC.out)
  have HNS := Lib.hid (load_nms HRC.out)
  have HIz := Lib.hid hP.idz
  have HP2 := Lib.hid (DkP.bound hP)
  have hz2 := hX2.size
  have hz3 := hX3.size
  have hE3 := Ex.trans hX3 (ex_alloc (Ex.refl w3) (.cells (Q0.rcs tv sl).toArray 40))
  have HH := Lib.hid (show Half W (w3.alloc (.cells (Q0.rcs tv sl).toArray 40)) g w3.heap.size (fun k => NewB W k ∧ k < w2.heap.size) Q0 Q0 tv sl from
    ⟨HP2.out.ex hE3, fun k hk => by have := hE3.size; omega, fun k hk => hk.1, (hR.fresh ((ex_alloc (Ex.refl w3) (.cells (Q0.rcs tv sl).toArray 40)).off _)).less (fun k hk => by
      rcases hk with hk | rfl
      · exact .inl hk
      · exact .inr ⟨Nat.le_refl _, by simp⟩), Blk.new w3 _ _, fun hf => by have := hf.2; omega, by omega, HX2.out.trans hE3⟩)
  obtain ⟨tA, tc, sB, sn, sd, rfl, rfl⟩ := hR.shape
  have hgn : ¬ (ptrV g = .pointer none) := by intro h; cases h
  clear hno hno' hyes hyes' hX2 hX3 hP hR HP2 hE3 HRC
  generalize hbw : w3.heap.size = b9 at *
  generalize Q0.tapes.length = tm at *
  unfold DkV.rcs
  go_wp2_with fail
  go_loopw [9] (fun v11 wr => ∃ (k : Nat) (F : Nat → Prop) (tv sl : Value), k ≤ fl.length ∧ v11 = .int .i64 (k : Int) ∧ Half W wr g b9 F (Q0.faults (fl.take k)) (Q0.faults (fl.take k)) tv sl) (fun v11 _ => fl.length - (intOf v11).toNat)
  case atStart => exact ⟨0, _, _, _, Nat.zero_le _, rfl, HH.out⟩
  case round =>
    clear HH
    obtain ⟨k, F, tv, sl, hk, rfl, hh⟩ := hrel
    have H := Lib.hid hh
    have hqok := Lib.hid (faults_ok (l := fl.take k) HOk.out (fun f hf => HL.out f (List.mem_of_mem_take hf)))
    have hqiz := Lib.hid (HIz.out.faults (l := fl.take k))
    have hqns := Lib.hid (faults_nms (l := fl.take k) HNS.out)
    have b2r := hh.ex.cell b2
    by_cases hlt : k < fl.length
    · obtain ⟨f, hf⟩ : ∃ f, fl[k]? = some f := ⟨_, List.getElem?_eq_getElem hlt⟩
      have HS := Lib.hid (faults_succ Q0 hf)
      obtain ⟨fb, fo, rfl, c1, c2⟩ := HR.out.ft hf
      have d1r := hh.ex.cell c1
      have d2r := hh.ex.cell c2
      have hkI : (k : Int) < (fl.length : Int) := by omega
      have hk0 : (0 : Int) ≤ (k : Int) := by omega
      have hkn : ((k : Int)).toNat = k := by omega
      clear hh hf
      generalize Q0.faults (fl.take k) = Q at *
      obtain ⟨fk, fa⟩ := f
      simp only at c1 c2 d1r d2r HS
      go_wp2_with fail
      refine (dfault_calls H.out.dk fk fa).mono ?_
      rintro e w4 ⟨rfl, hd4, ho4⟩
      obtain ⟨Q', qe, hq⟩ : ∃ Q' qe, Q.fault fk fa = (Q', qe) := ⟨_, _, rfl⟩
      rw [hq] at hd4 HS
      have H4 := Lib.hid (H.out.prog (hd4.more Fresh.same) ho4)
      obtain ⟨tA, tc, sB, sn, sd, rfl, rfl⟩ := H4.out.doc.shape
      obtain ⟨x0, x1, x2, x3, x4, x5, x6, x7⟩ := rd_cells H4.out.cell
      have c14 := H4.out.ex.cell c1
      have c24 := H4.out.ex.cell c2
      have b24 := H4.out.ex.cell b2
      have HCF := Lib.hid (fun W (hR : RdV (fun k => Fresh F wr w4 k ∨ k = b9) W Q (.slice tA Q.tapes.length tc) (.slice sB sn sd)) => rfault_calls fk fa hR)
      rw [hq] at HCF
      unfold DkV.rcs at HCF
      clear hd4 ho4 d1r d2r hq b2r
      generalize Q.tapes.length = tm4 at *
      go_wp2_with fail
      have hfb : fb < W.heap.size := World.block_lt_of_cell? W _ c1
      have hb9 := H4.out.b0
      have hn1 : ¬ b9 = fb := by omega
      have hn3 : ¬ fb = b9 := by omega
      have hn4 : ¬ b9 = w.heap.size := by omega
      have hn5 : ¬ w.heap.size = b9 := by omega
      go_region_with (go_at_call 13; ((with_reducible refine (HCF.out _ (H4.out.doc.ex (Ex.refl w4).drew)).mono ?_); rintro e w5 ⟨tv5, sl5, rfl, hR5, hX5⟩; simp only at hR5; obtain ⟨tA5, tc5, sB5, sn5, sd5, rfl, rfl⟩ := hR5.shape; generalize Q'.tapes.length = tm5 at *; have HR5 := Lib.hid hR5; have HX5 := Lib.hid (Ex.trans (Ex.refl w4).drew hX5); have HB5 := Lib.hid (H4.out.cell.ex HX5.out); clear hR5 hX5; have c15 := HX5.out.cell c14; have c25 := HX5.out.cell c24; have b25 := HX5.out.cell b24; have f0 := HB5.out.frozen 0; have f1 := HB5.out.frozen 1; have f2 := HB5.out.frozen 2; have f3 := HB5.out.frozen 3; have f4 := HB5.out.frozen 4; have f5 := HB5.out.frozen 5; have f6 := HB5.out.frozen 6; have f7 := HB5.out.frozen 7; obtain ⟨z0, z1, z2, z3, z4, z5, z6, z7⟩ := rd_cells HB5.out; unfold DkV.rcs))
      all_goals go_wp2_with fail
      all_goals exact ⟨⟨k + 1, _, _, _, by omega, by go_num, by rw [HS.out]; exact H4.out.stored HR5.out HX5.out (off_set8 _ _ _ _ _ _ _ _ _ _) (blk_set8 HB5.out _ _ _ _ _ _ _ _)⟩, by simp [intOf]; omega⟩
    · have hkl : k = fl.length := by omega
      subst hkl
      have b0r := hh.ex.cell b0
      have hn4 : ¬ b9 = w.heap.size := by have := H.out.b0; omega
      have hn5 : ¬ w.heap.size = b9 := by have := H.out.b0; omega
      have HNR5 := Lib.hid (HNR.out.ex hh.ex)
      have hM2 : l.length + 2 * nl.length ≤ 800000 := by omega
      clear hh
      generalize Q0.faults (fl.take fl.length) = Q at *
      go_wp2_with fail
      refine (sremove_calls H.out.dk hqok.out nA nc nl HNR5.out HNN.out hM2).mono ?_
      rintro e w5 ⟨rfl, hd5, ho5⟩
      have hok' := rems_ok (n := 0) hqok.out HNN.out
      have hiz' := Idz.rems (l := nl) (n := 0) hqiz.out
      have hns' : NmS (Q.rems nl 0).1 := hqns.out.fo rems_now
      have HCS := Lib.hid (fun (D : Nat → Prop) (W : World) (tv sl : Value) (hR : RdV D W Q tv sl) (hr : Row W 1 nA nl.length (nl.map Value.string)) (hD : ∀ k, D k → k < W.heap.size) => rsremove_calls hR hqok.out hqiz.out nA nc nl hr HNN.out hM2 hD)
      obtain ⟨Q', qn, qe, hq⟩ : ∃ Q' qn qe, Q.rems nl 0 = (Q', qn, qe) := ⟨_, _, _, rfl⟩
      rw [hq] at hd5 hok' hiz' hns' HCS ⊢
      have HOK := Lib.hid (hok'.up (N := 1000) (by omega))
      have HIZ := Lib.hid hiz'
      have HNS' := Lib.hid hns'
      have H5 := Lib.hid (H.out.prog hd5 ho5)
      obtain ⟨tA, tc, sB, sn, sd, rfl, rfl⟩ := H5.out.doc.shape
      obtain ⟨x0, x1, x2, x3, x4, x5, x6, x7⟩ := rd_cells H5.out.cell
      have y0 := H5.out.ex.cell b0
      have HNR6 := Lib.hid (HNR.out.ex H5.out.ex)
      clear hd5 ho5 b0r b2r hok' hiz' hns' hq
      have HDO := Lib.hid H5.out.doc
      generalize Q.tapes.length = tm4 at *
      unfold DkV.rcs at HCS
      go_wp2_with fail
      refine (HCS.out _ _ _ _ HDO.out HNR6.out H5.out.dlt).mono ?_
      rintro e w6 ⟨tv6, sl6, rfl, hR6, hX6⟩
      simp only at hR6
      obtain ⟨tA6, tc6, sB6, sn6, sd6, rfl, rfl⟩ := hR6.shape
      have HR6 := Lib.hid hR6
      have HX6 := Lib.hid hX6
      have HB6 := Lib.hid (H5.out.cell.ex hX6)
      have HW6 := Lib.hid (H5.out.ex.trans hX6)
      have HOn := Lib.hid (one_disk hR6)
      have hb9 := H5.out.b0
      have hM8 : 1000 ≤ 800000 := by decide
      have htl6 : Q'.tapes.length ≤ 1000000 := by have := HOK.out.tl; omega
      have hfl6 : Q'.files.length ≤ 1000000000 := by have : Q'.files.length = Q'.fo.now.length := by unfold DkV.files; rw [List.length_map]
                                                     have := HOK.out.fo.now_len; omega
      have HCD := Lib.hid (fun (D : Nat → Prop) (W : World) (hR : RdV D W Q' (.slice tA6 Q'.tapes.length tc6) (.slice sB6 sn6 sd6)) => rfiles_calls hR HOK.out (by omega) HIZ.out)
      unfold DkV.rcs at HCD
      clear hR6 hX6 x0 x1 x2 x3 x4 x5 x6 x7 y0
      obtain ⟨tm6, htm6⟩ : ∃ m, m = Q'.tapes.length := ⟨_, rfl⟩
      rw [← htm6] at HR6 HOn HCD ⊢
      have HTM := Lib.hid htm6
      clear htm6
      unfold DkV.rcs
      go_wp2_with (refine st_agg 40 rfl (.tmp 7) (.tmp 93) rfl b9 [.int .i64 Q.sec, .slice tA tm4 tc, .slice sB sn sd, .int .i64 Q.fu.p, .int .i64 Q.fu.s, .int .i64 Q.fu.d, .bool Q.fu.off, .int .i64 (Q.calls : Int)] [.int .i64 Q'.sec, .slice tA6 tm6 tc6, .slice sB6 sn6 sd6, .int .i64 Q'.fu.p, .int .i64 Q'.fu.s, .int .i64 Q'.fu.d, .bool Q'.fu.off, .int .i64 (Q'.calls : Int)] rfl rfl info_d11 rfl HOn.out HB6.out HW6.out hb9 ?_; intro w7 k7 X7 g7; have H7 := Lib.hid (H5.out.stored (Qd' := Q') (tv' := .slice tA6 tm6 tc6) (sl' := .slice sB6 sn6 sd6) HR6.out HX6.out (off_grown g7) k7); clear k7 X7 g7)
      obtain ⟨x0, x1, x2, x3, x4, x5, x6, x7⟩ := rd_cells H7.out.cell
      have hnn : decide ((qn : Int) = (qn : Int)) = true := decide_eq_true rfl
      have hnb : ((qn : Int) != (qn : Int)) = false := by simp
      have hne : (qe != qe) = false := by simp
      go_region_held3 (fun w' => w'.cell? ⟨b9, 0, none⟩ = some (.int .i64 Q'.sec) ∧ w'.cell? ⟨b9, 1, none⟩ = some (.slice tA6 tm6 tc6) ∧ w'.cell? ⟨b9, 2, none⟩ = some (.slice sB6 sn6 sd6) ∧ w'.cell? ⟨b9, 3, none⟩ = some (.int .i64 Q'.fu.p) ∧ w'.cell? ⟨b9, 4, none⟩ = some (.int .i64 Q'.fu.s) ∧ w'.cell? ⟨b9, 5, none⟩ = some (.int .i64 Q'.fu.d) ∧ w'.cell? ⟨b9, 6, none⟩ = some (.bool Q'.fu.off) ∧ w'.cell? ⟨b9, 7, none⟩ = some (.int .i64 (Q'.calls : Int))) (go_keep) (first
        | (go_at_call 17; ((with_reducible refine (dfiles_calls (H7.out.grow (Ex.refl w7).drew).dk HOK.out hM8).mono ?_); rintro e w11 ⟨v11, rfl, ho11, hb11⟩; obtain ⟨A11, c11, rfl, _⟩ := own_shape ho11; have H11 := Lib.hid (H7.out.grow (Ex.trans (Ex.refl w7).drew hb11)); have HO11 := Lib.hid (Row.of_own ho11); obtain ⟨y0, y1, y2, y3, y4, y5, y6, y7⟩ := rd_cells H11.out.cell; clear ho11 hb11))
        | (go_at_call 18; ((with_reducible refine (HCD.out _ _ H11.out.doc).mono ?_); rintro e w12 ⟨v12, rfl, ho12, hb12⟩; obtain ⟨A12, c12, rfl, _⟩ := own_shape ho12; have H12 := Lib.hid (H11.out.grow hb12); have HO12 := Lib.hid (Row.of_own ho12); have HP12 := Lib.hid (HO11.out.ex hb12); obtain ⟨z0, z1, z2, z3, z4, z5, z6, z7⟩ := rd_cells H12.out.cell; clear ho12 hb12))
        | (go_at_call 16; ((with_reducible refine (files37_calls HP12.out HO12.out hfl6).mono ?_); rintro e w13 ⟨rfl, hb13⟩; have H13 := Lib.hid (H12.out.grow hb13); obtain ⟨u0, u1, u2, u3, u4, u5, u6, u7⟩ := rd_cells H13.out.cell; clear hb13)))
      have y1 := H13.out.ex.cell b1
      have hri := H13.out.dk.rise
      have hok' := sold_ok HOK.out HNS'.out ep
      have hiz' := HIZ.out.sold ep
      have HCS := Lib.hid (fun (D : Nat → Prop) (W : World) (tv sl : Value) (hR : RdV D W Q' tv sl) (hD : ∀ k, D k → k < W.heap.size) => rsold_calls hR HOK.out HIZ.out hri HNS'.out.nms ep (by decide) hD)
      have hcp := sold_calls H13.out.dk HOK.out (by decide) HNS'.out.nms ep
      obtain ⟨Q2, n2, e2, hq2⟩ : ∃ Q2 n2 e2, Q'.sold ep = (Q2, n2, e2) := ⟨_, _, _, rfl⟩
      rw [hq2] at hok' hiz' HCS hcp
      have HCP := Lib.hid hcp
      have HOK2 := Lib.hid (hok'.up (N := 6000) (by decide))
      have HIZ2 := Lib.hid hiz'
      clear hri hok' hiz' hcp hq2 u0 u1 u2 u3 u4 u5 u6 u7 hnb hne hnn
      go_wp2_with fail
      refine HCP.out.mono ?_
      rintro e w14 ⟨rfl, hd14, ho14⟩
      have H14 := Lib.hid (H13.out.prog hd14 ho14)
      have y1' := H14.out.ex.cell b1
      have HDO2 := Lib.hid H14.out.doc
      obtain ⟨x0, x1, x2, x3, x4, x5, x6, x7⟩ := rd_cells H14.out.cell
      clear hd14 ho14 y1
      unfold DkV.rcs at HCS
      have HCS2 := Lib.hid (fun D W h hD => HCS.out D W (.slice tA6 Q'.tapes.length tc6) (.slice sB6 sn6 sd6) h hD)
      rw [← HTM.out] at HCS2
      clear HCS
      go_wp2_with fail
      refine (HCS2.out _ _ HDO2.out H14.out.dlt).mono ?_
      rintro e w15 ⟨tv15, sl15, rfl, hR15, hX15⟩
      simp only at hR15
      obtain ⟨tA15, tc15, sB15, sn15, sd15, rfl, rfl⟩ := hR15.shape
      have HR15 := Lib.hid hR15
      have HX15 := Lib.hid hX15
      have HB15 := Lib.hid (H14.out.cell.ex hX15)
      have HW15 := Lib.hid (H14.out.ex.trans hX15)
      have HOn2 := Lib.hid (one_disk hR15)
      have hfl7 : Q2.files.length ≤ 1000000000 := by have : Q2.files.length = Q2.fo.now.length := by unfold DkV.files; rw [List.length_map]
                                                     have := HOK2.out.fo.now_len; omega
      have HCD2 := Lib.hid (fun (D : Nat → Prop) (W : World) (hR : RdV D W Q2 (.slice tA15 Q2.tapes.length tc15) (.slice sB15 sn15 sd15)) => rfiles_calls hR HOK2.out (by omega) HIZ2.out)
      unfold DkV.rcs at HCD2
      clear hR15 hX15 x0 x1 x2 x3 x4 x5 x6 x7 y1'
      obtain ⟨tm7, htm7⟩ : ∃ m, m = Q2.tapes.length := ⟨_, rfl⟩
      rw [← htm7] at HR15 HOn2 HCD2 ⊢
      clear htm7
      unfold DkV.rcs
      go_wp2_with (refine st_agg 40 rfl (.tmp 7) (.tmp 124) rfl b9 [.int .i64 Q'.sec, .slice tA6 tm6 tc6, .slice sB6 sn6 sd6, .int .i64 Q'.fu.p, .int .i64 Q'.fu.s, .int .i64 Q'.fu.d, .bool Q'.fu.off, .int .i64 (Q'.calls : Int)] [.int .i64 Q2.sec, .slice tA15 tm7 tc15, .slice sB15 sn15 sd15, .int .i64 Q2.fu.p, .int .i64 Q2.fu.s, .int .i64 Q2.fu.d, .bool Q2.fu.off, .int .i64 (Q2.calls : Int)] rfl rfl info_d11 rfl HOn2.out HB15.out HW15.out hb9 ?_; intro w16 k16 X16 g16; have H16 := Lib.hid (H14.out.stored (Qd' := Q2) (tv' := .slice tA15 tm7 tc15) (sl' := .slice sB15 sn15 sd15) HR15.out HX15.out (off_grown g16) k16); clear k16 X16 g16)
      obtain ⟨x0, x1, x2, x3, x4, x5, x6, x7⟩ := rd_cells H16.out.cell
      have hnn : decide ((n2 : Int) = (n2 : Int)) = true := decide_eq_true rfl
      have hnb : ((n2 : Int) == (n2 : Int)) = true := by simp
      have hne : (e2 == e2) = true := by simp
      have hnc : decide (e2 = e2) = true := decide_eq_true rfl
      have hM9 : 6000 ≤ 800000 := by decide
      go_region_held3 (fun w' => w'.cell? ⟨b9, 0, none⟩ = some (.int .i64 Q2.sec) ∧ w'.cell? ⟨b9, 1, none⟩ = some (.slice tA15 tm7 tc15) ∧ w'.cell? ⟨b9, 2, none⟩ = some (.slice sB15 sn15 sd15) ∧ w'.cell? ⟨b9, 3, none⟩ = some (.int .i64 Q2.fu.p) ∧ w'.cell? ⟨b9, 4, none⟩ = some (.int .i64 Q2.fu.s) ∧ w'.cell? ⟨b9, 5, none⟩ = some (.int .i64 Q2.fu.d) ∧ w'.cell? ⟨b9, 6, none⟩ = some (.bool Q2.fu.off) ∧ w'.cell? ⟨b9, 7, none⟩ = some (.int .i64 (Q2.calls : Int))) (go_keep) (first
        | (go_at_call 17; ((with_reducible refine (dfiles_calls (H16.out.grow (Ex.refl w16).drew).dk HOK2.out hM9).mono ?_); rintro e w21 ⟨v21, rfl, ho21, hb21⟩; obtain ⟨A21, c21, rfl, _⟩ := own_shape ho21; have H21 := Lib.hid (H16.out.grow (Ex.trans (Ex.refl w16).drew hb21)); have HO21 := Lib.hid (Row.of_own ho21); obtain ⟨y0, y1, y2, y3, y4, y5, y6, y7⟩ := rd_cells H21.out.cell; clear ho21 hb21))
        | (go_at_call 18; ((with_reducible refine (HCD2.out _ _ H21.out.doc).mono ?_); rintro e w22 ⟨v22, rfl, ho22, hb22⟩; obtain ⟨A22, c22, rfl, _⟩ := own_shape ho22; have H22 := Lib.hid (H21.out.grow hb22); have HO22 := Lib.hid (Row.of_own ho22); have HP22 := Lib.hid (HO21.out.ex hb22); obtain ⟨z0, z1, z2, z3, z4, z5, z6, z7⟩ := rd_cells H22.out.cell; clear ho22 hb22))
        | (go_at_call 16; ((with_reducible refine (files37_calls HP22.out HO22.out hfl7).mono ?_); rintro e w23 ⟨rfl, hb23⟩; have H23 := Lib.hid (H22.out.grow hb23); obtain ⟨u0, u1, u2, u3, u4, u5, u6, u7⟩ := rd_cells H23.out.cell; clear hb23))
        | (go_at_call 21; ((with_reducible refine (dcount_calls H23.out.dk).mono ?_); rintro e w24 ⟨rfl, hb24⟩; have H24 := Lib.hid (H23.out.grow hb24); obtain ⟨v0, v1, v2, v3, v4, v5, v6, v7⟩ := rd_cells H24.out.cell; clear hb24))
        | (go_at_call 9; ((with_reducible refine (lv37_calls _).mono ?_); rintro e w27 ⟨rfl, hb27⟩; have H27 := Lib.hid (H24.out.grow hb27); obtain ⟨s0, s1, s2, s3, s4, s5, s6, s7⟩ := rd_cells H27.out.cell; clear hb27)))
      go_wp2_with fail
      go_ret
      exact ⟨rfl, HXL.out.trans H27.out.ex⟩
end Go.Proofs.YtomfcgeibbicoaaGreat
