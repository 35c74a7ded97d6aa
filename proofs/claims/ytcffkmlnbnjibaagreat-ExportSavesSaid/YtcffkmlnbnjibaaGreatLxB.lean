/- The walk of ExportSaves. -/
import Derived.Test.YtcffkmlnbnjibaaGreatLxA
import Derived.Test.YtcffkmlnbnjibaaGreatRfN
import Derived.Test.YtcffkmlnbnjibaaGreatExC
namespace Go.Proofs.YtcffkmlnbnjibaaGreat
open Go.RowKit Go.Maps
theorem Idz.save {Q : DkV} {nm x : ByteArray} (h : Idz Q) : Idz (Q.save nm x).1 := by
  unfold DkV.save
  split
  · exact h
  · split
    · exact h
    · exact h.pub _ _ _
set_option maxHeartbeats 8000000 in
set_option maxRecDepth 100000 in
theorem exsaves_calls (n : Int) (nm tx rd : ByteArray) (fA : Option Addr) (fc : Nat) (l : List FtV) (w : World) (hn1 : -9223372036854775808 ≤ n) (hn2 : n ≤ 9223372036854775807) (hr : Row w 2 fA l.length (l.flatMap FtV.cs)) (hl : ∀ f ∈ l, f.ok) :
    Calls Tryz.prog 7 #[.int .i64 n, .agg #[.string nm, .string tx, .slice fA l.length fc], .string rd] w fun e w' => e = .returned (.bool true) ∧ Ex w w' := by
  have hX0 := ex_alloc (Ex.refl w) (.cells #[.string nm, .string tx, .slice fA l.length fc] 86)
  have hB0 : Blk (w.alloc (.cells #[.string nm, .string tx, .slice fA l.length fc] 86)) w.heap.size 86 [.string nm, .string tx, .slice fA l.length fc] := Blk.new w _ _
  have HR := Lib.hid (hr.ex hX0)
  have HL := Lib.hid hl
  have HX0 := Lib.hid hX0
  have HB0 := Lib.hid hB0
  clear hr hl
  by_cases c0 : 3 < l.length
  · have d1 : decide ((3 : Int) < (l.length : Int)) = true := decide_eq_true (by omega)
    go_enter Tryz.func7, Tryz.ntmps7
    go_wp2_with fail
    refine (lives38_calls _).mono ?_
    rintro e wl ⟨rfl, hbl⟩
    go_wp2_with fail
    go_ret
    exact ⟨rfl, HX0.out.trans hbl⟩
  have d1 : decide ((3 : Int) < (l.length : Int)) = false := decide_eq_false (by omega)
  by_cases c1 : 5000 < tx.size
  · have d2 : decide ((5000 : Int) < (tx.size : Int)) = true := decide_eq_true (by omega)
    go_enter Tryz.func7, Tryz.ntmps7
    go_wp2_with fail
    refine (lives38_calls _).mono ?_
    rintro e wl ⟨rfl, hbl⟩
    go_wp2_with fail
    go_ret
    exact ⟨rfl, HX0.out.trans hbl⟩
  have d2 : decide ((5000 : Int) < (tx.size : Int)) = false := decide_eq_false (by omega)
  by_cases c2 : 100 < nm.size
  · have d3 : decide ((100 : Int) < (nm.size : Int)) = true := decide_eq_true (by omega)
    go_enter Tryz.func7, Tryz.ntmps7
    go_wp2_with fail
    refine (lives38_calls _).mono ?_
    rintro e wl ⟨rfl, hbl⟩
    go_wp2_with fail
    go_ret
    exact ⟨rfl, HX0.out.trans hbl⟩
  have d3 : decide ((100 : Int) < (nm.size : Int)) = false := decide_eq_false (by omega)
  by_cases c3 : 100 < rd.size
  · have d4 : decide ((100 : Int) < (rd.size : Int)) = true := decide_eq_true (by omega)
    go_enter Tryz.func7, Tryz.ntmps7
    go_wp2_with fail
    refine (lives38_calls _).mono ?_
    rintro e wl ⟨rfl, hbl⟩
    go_wp2_with fail
    go_ret
    exact ⟨rfl, HX0.out.trans hbl⟩
  have d4 : decide ((100 : Int) < (rd.size : Int)) = false := decide_eq_false (by omega)
  go_enter Tryz.func7, Tryz.ntmps7
  go_wp2_with fail
  have hz0 : (w.alloc (.cells #[.string nm, .string tx, .slice fA l.length fc] 86)).heap.size = w.heap.size + 1 := by simp
  generalize (w.alloc (.cells #[.string nm, .string tx, .slice fA l.length fc] 86)) = W at *
  have b0 := HB0.out.cell 0
  have b1 := HB0.out.cell 1
  have b2 := HB0.out.cell 2
  by_cases hn : n < 1 ∨ 4096 < n
  · refine (dnew_no n _ hn).mono ?_
    rintro e w1 ⟨rfl, hb1⟩
    go_wp2_with fail
    refine (rnew_calls (F := fun _ => False) n _ (fun k hk => hk.elim)).mono ?_
    rintro e w2 ⟨hN, hb2⟩
    obtain rfl : e = .returned (.tuple #[.agg zeroD.toArray, .int .i64 2]) := by
      rcases hN with ⟨_, e⟩ | ⟨h, _⟩
      · exact e
      · omega
    have HX2 := Lib.hid (HX0.out.trans (hb1.trans (Ex.trans hb2 (ex_alloc (Ex.refl w2) (.cells zeroD.toArray 59)))))
    clear hN hb1 hb2
    unfold zeroD at *
    go_wp2_with fail
    refine (lives38_calls _).mono ?_
    rintro e wl ⟨rfl, hbl⟩
    go_wp2_with fail
    go_ret
    exact ⟨rfl, HX2.out.trans hbl⟩
  have hn3 : 1 ≤ n ∧ n ≤ 4096 := by omega
  refine (dnew_calls n _ hn3.1 hn3.2).mono ?_
  rintro e w1 ⟨⟨g, rfl, hg, hP⟩, hb1⟩
  have HP1 := Lib.hid (DkP.bound (DkP.more (G := NewB W) hP (fun k hk => by rcases hk with hk | hk; exact hk.elim; exact hk.1)))
  have HX1 := Lib.hid hb1
  clear hP
  go_wp2_with fail
  refine (rnew_calls (F := fun k => NewB W k ∧ k < w1.heap.size) n _ (fun k hk => hk.2)).mono ?_
  rintro e w2 ⟨hN, hb2⟩
  obtain ⟨v, rfl, tv, sl, rfl, hR⟩ : ∃ v, e = .returned (.tuple #[v, .int .i64 0]) ∧ DocP (fun k => NewB W k ∧ k < w1.heap.size) w2 v (DkV.fresh n) := by
    rcases hN with ⟨h, _⟩ | ⟨_, h⟩
    · omega
    · exact h
  have hz1 := hb1.size
  have hz2 := hb2.size
  have hE2 := Ex.trans hb2 (ex_alloc (Ex.refl w2) (.cells ((DkV.fresh n).rcs tv sl).toArray 59))
  have HH := Lib.hid (show Half W (w2.alloc (.cells ((DkV.fresh n).rcs tv sl).toArray 59)) g w2.heap.size (fun k => NewB W k ∧ k < w1.heap.size) (DkV.fresh n) (DkV.fresh n) tv sl from
    ⟨HP1.out.ex hE2, fun k hk => by have := hE2.size; omega, fun k hk => hk.1, (hR.fresh ((ex_alloc (Ex.refl w2) (.cells ((DkV.fresh n).rcs tv sl).toArray 59)).off _)).less (fun k hk => by
      rcases hk with hk | rfl
      · exact .inl hk
      · exact .inr ⟨Nat.le_refl _, by simp⟩), Blk.new w2 _ _, fun hf => by have := hf.2; omega, by omega, HX1.out.trans hE2⟩)
  obtain ⟨tA, tc, sB, sn, sd, rfl, rfl⟩ := hR.shape
  have HOk := Lib.hid (fresh_ok hn3.1 hn3.2)
  have HIz := Lib.hid (Idz.fresh n)
  have hgn : ¬ (ptrV g = .pointer none) := by intro h; cases h
  clear hN hb1 hb2 hR HP1 hE2
  obtain ⟨Q0, hQ0⟩ : ∃ Q0, DkV.fresh n = Q0 := ⟨_, rfl⟩
  have e1 : (DkV.fresh n).rcs (.slice tA (DkV.fresh n).tapes.length tc) (.slice sB sn sd) = Q0.rcs (.slice tA Q0.tapes.length tc) (.slice sB sn sd) := by rw [hQ0]
  rw [hQ0] at HH HOk HIz ⊢
  clear e1 hQ0
  generalize hbw : w2.heap.size = b9 at *
  generalize Q0.tapes.length = tm at *
  unfold DkV.rcs
  go_wp2_with fail
  go_loopw [11] (fun v11 wr => ∃ (k : Nat) (F : Nat → Prop) (tv sl : Value), k ≤ l.length ∧ v11 = .int .i64 (k : Int) ∧ Half W wr g b9 F (Q0.faults (l.take k)) (Q0.faults (l.take k)) tv sl) (fun v11 _ => l.length - (intOf v11).toNat)
  case atStart => exact ⟨0, _, _, _, Nat.zero_le _, rfl, HH.out⟩
  case round =>
    clear HH
    obtain ⟨k, F, tv, sl, hk, rfl, hh⟩ := hrel
    have H := Lib.hid hh
    have hqok := Lib.hid (faults_ok (l := l.take k) HOk.out (fun f hf => HL.out f (List.mem_of_mem_take hf)))
    have hqiz := Lib.hid (HIz.out.faults (l := l.take k))
    have b2r := hh.ex.cell b2
    by_cases hlt : k < l.length
    · obtain ⟨f, hf⟩ : ∃ f, l[k]? = some f := ⟨_, List.getElem?_eq_getElem hlt⟩
      have HS := Lib.hid (faults_succ Q0 hf)
      obtain ⟨fb, fo, rfl, c1, c2⟩ := HR.out.ft hf
      have d1r := hh.ex.cell c1
      have d2r := hh.ex.cell c2
      have hkI : (k : Int) < (l.length : Int) := by omega
      have hk0 : (0 : Int) ≤ (k : Int) := by omega
      have hkn : ((k : Int)).toNat = k := by omega
      clear hh hf
      generalize Q0.faults (l.take k) = Q at *
      obtain ⟨fk, fa⟩ := f
      simp only at c1 c2 d1r d2r HS
      go_wp2_with fail
      refine (dfault_calls H.out.dk fk fa).mono ?_
      rintro e w4 ⟨rfl, hd4, ho4⟩
      obtain ⟨Q', qe, hq⟩ : ∃ Q' qe, Q.fault fk fa = (Q', qe) := ⟨_, _, rfl⟩
      rw [hq] at hd4 HS
      have H4 := Lib.hid (H.out.prog (hd4.more Fresh.same) ho4)
      obtain ⟨tA, tc, sB, sn, sd, rfl, rfl⟩ := H4.out.doc.shape
      obtain ⟨x0, x1, x2, x3, x4, x5, x6, x7⟩ := rd_cells H4.out.cell
      have b24 := H4.out.ex.cell b2
      have c14 := H4.out.ex.cell c1
      have c24 := H4.out.ex.cell c2
      have HCF := Lib.hid (fun W (hR : RdV (fun k => Fresh F wr w4 k ∨ k = b9) W Q (.slice tA Q.tapes.length tc) (.slice sB sn sd)) => rfault_calls fk fa hR)
      rw [hq] at HCF
      unfold DkV.rcs at HCF
      have HQ := Lib.hid hq
      clear hd4 ho4 b2r d1r d2r hq
      generalize Q.tapes.length = tm4 at *
      go_wp2_with fail
      have hfb : fb < W.heap.size := World.block_lt_of_cell? W _ c1
      have hb9 := H4.out.b0
      have hn1 : ¬ b9 = fb := by omega
      have hn2 : ¬ b9 = w.heap.size := by omega
      have hn3 : ¬ fb = b9 := by omega
      have hn4 : ¬ w.heap.size = b9 := by omega
      go_region_with (go_at_call 34; ((with_reducible refine (HCF.out _ (H4.out.doc.ex (Ex.refl w4).drew)).mono ?_); rintro e w5 ⟨tv5, sl5, rfl, hR5, hX5⟩; simp only at hR5; obtain ⟨tA5, tc5, sB5, sn5, sd5, rfl, rfl⟩ := hR5.shape; generalize Q'.tapes.length = tm5 at *; have HR5 := Lib.hid hR5; have HX5 := Lib.hid (Ex.trans (Ex.refl w4).drew hX5); have HB5 := Lib.hid (H4.out.cell.ex HX5.out); clear hR5 hX5; have b25 := HX5.out.cell b24; have c15 := HX5.out.cell c14; have c25 := HX5.out.cell c24; have f0 := HB5.out.frozen 0; have f1 := HB5.out.frozen 1; have f2 := HB5.out.frozen 2; have f3 := HB5.out.frozen 3; have f4 := HB5.out.frozen 4; have f5 := HB5.out.frozen 5; have f6 := HB5.out.frozen 6; have f7 := HB5.out.frozen 7; obtain ⟨z0, z1, z2, z3, z4, z5, z6, z7⟩ := rd_cells HB5.out; unfold DkV.rcs))
      all_goals go_wp2_with fail
      all_goals exact ⟨⟨k + 1, _, _, _, by omega, by go_num, by rw [HS.out]; exact H4.out.stored HR5.out HX5.out (off_set8 _ _ _ _ _ _ _ _ _ _) (blk_set8 HB5.out _ _ _ _ _ _ _ _)⟩, by simp [intOf]; omega⟩
    · have hkl : k = l.length := by omega
      subst hkl
      have b0r := hh.ex.cell b0
      have b1r := hh.ex.cell b1
      have hsx : tx.size ≤ 9223372036854775807 := by omega
      have hsm : tx.size ≤ 1000000 := by omega
      have hsn : nm.size ≤ 9223372036854775807 := by omega
      have hsr : rd.size ≤ 9223372036854775807 := by omega
      clear hh
      generalize Q0.faults (l.take l.length) = Q at *
      go_wp2_with fail
      refine (save_calls H.out.dk hqok.out (by omega) nm tx hsx).mono ?_
      rintro e w5 ⟨rfl, hd5, ho5⟩
      obtain ⟨Q', qn, qe, hq⟩ : ∃ Q' qn qe, Q.save nm tx = (Q', qn, qe) := ⟨_, _, _, rfl⟩
      have hok' := save_ok (nm := nm) (x := tx) hqok.out (by omega)
      have hiz' := Idz.save (nm := nm) (x := tx) hqiz.out
      have HCS := Lib.hid (fun (D : Nat → Prop) (W : World) (tv sl : Value) (hR : RdV D W Q tv sl) (hD : ∀ k, D k → k < W.heap.size) => rsave_calls nm tx hR hqok.out (by omega) hqiz.out hsn hsm hD)
      rw [hq] at hd5 hok' hiz' HCS ⊢
      have HOK := Lib.hid hok'
      have HIZ := Lib.hid hiz'
      have H5 := Lib.hid (H.out.prog hd5 ho5)
      obtain ⟨tA, tc, sB, sn, sd, rfl, rfl⟩ := H5.out.doc.shape
      obtain ⟨x0, x1, x2, x3, x4, x5, x6, x7⟩ := rd_cells H5.out.cell
      have y0 := H5.out.ex.cell b0
      have y1 := H5.out.ex.cell b1
      clear hd5 ho5 b0r b1r b2r hok' hiz' hq
      have HDO := Lib.hid H5.out.doc
      generalize Q.tapes.length = tm4 at *
      go_wp2_with fail
      refine (HCS.out _ _ _ _ HDO.out H5.out.dlt).mono ?_
      rintro e w6 ⟨tv6, sl6, rfl, hR6, hX6⟩
      simp only at hR6
      obtain ⟨tA6, tc6, sB6, sn6, sd6, rfl, rfl⟩ := hR6.shape
      have HR6 := Lib.hid hR6
      have HX6 := Lib.hid hX6
      have HB6 := Lib.hid (H5.out.cell.ex hX6)
      have HW6 := Lib.hid (H5.out.ex.trans hX6)
      have HOn := Lib.hid (one_disk hR6)
      have hb9 := H5.out.b0
      clear hR6 hX6 x0 x1 x2 x3 x4 x5 x6 x7 y0 y1
      generalize Q'.tapes.length = tm6 at *
      unfold DkV.rcs
      go_wp2_with (refine st_agg 59 rfl (.tmp 9) (.tmp 109) rfl b9 [.int .i64 Q.sec, .slice tA tm4 tc, .slice sB sn sd, .int .i64 Q.fu.p, .int .i64 Q.fu.s, .int .i64 Q.fu.d, .bool Q.fu.off, .int .i64 (Q.calls : Int)] [.int .i64 Q'.sec, .slice tA6 tm6 tc6, .slice sB6 sn6 sd6, .int .i64 Q'.fu.p, .int .i64 Q'.fu.s, .int .i64 Q'.fu.d, .bool Q'.fu.off, .int .i64 (Q'.calls : Int)] rfl rfl info_d11 rfl HOn.out HB6.out HW6.out hb9 ?_; intro w7 k7 X7 g7; have H7 := Lib.hid (H5.out.stored (Qd' := Q') (tv' := .slice tA6 tm6 tc6) (sl' := .slice sB6 sn6 sd6) HR6.out HX6.out (off_grown g7) k7); clear k7 X7 g7)
      refine (rexp_calls H7.out.dk HOK.out (by omega) rd).mono ?_
      rintro e w8 ⟨rfl, hb8⟩
      obtain ⟨ra, ri, hrr⟩ : ∃ ra ri, Q'.rexp rd = (ra, ri) := ⟨_, _, rfl⟩
      have HCR := Lib.hid (fun (D : Nat → Prop) (W : World) (tv sl : Value) (hR : RdV D W Q' tv sl) => rexread_calls rd hR HOK.out (by omega) HIZ.out hsr)
      rw [hrr] at HCR ⊢
      have H8 := Lib.hid (H7.out.grow hb8)
      obtain ⟨x0, x1, x2, x3, x4, x5, x6, x7⟩ := rd_cells H8.out.cell
      clear hb8 hrr
      go_wp2_with fail
      refine (HCR.out _ _ _ _ H8.out.doc).mono ?_
      rintro e w10 ⟨rfl, hb10⟩
      have H10 := Lib.hid (H8.out.grow hb10)
      clear hb10 x0 x1 x2 x3 x4 x5 x6 x7
      obtain ⟨x0, x1, x2, x3, x4, x5, x6, x7⟩ := rd_cells H10.out.cell
      have hnn : decide ((qn : Int) = (qn : Int)) = true := decide_eq_true rfl
      go_wp2_with fail
      go_region_held3 (fun w' => w'.cell? ⟨b9, 0, none⟩ = some (.int .i64 Q'.sec) ∧ w'.cell? ⟨b9, 1, none⟩ = some (.slice tA6 tm6 tc6) ∧ w'.cell? ⟨b9, 2, none⟩ = some (.slice sB6 sn6 sd6) ∧ w'.cell? ⟨b9, 3, none⟩ = some (.int .i64 Q'.fu.p) ∧ w'.cell? ⟨b9, 4, none⟩ = some (.int .i64 Q'.fu.s) ∧ w'.cell? ⟨b9, 5, none⟩ = some (.int .i64 Q'.fu.d) ∧ w'.cell? ⟨b9, 6, none⟩ = some (.bool Q'.fu.off) ∧ w'.cell? ⟨b9, 7, none⟩ = some (.int .i64 (Q'.calls : Int))) (go_keep) (first
        | (go_at_call 19; ((with_reducible refine (dfiles_calls (H10.out.grow (Ex.refl w10).drew).dk HOK.out (by omega)).mono ?_); rintro e w11 ⟨v11, rfl, ho11, hb11⟩; obtain ⟨A11, c11, rfl, _⟩ := own_shape ho11; have H11 := Lib.hid (H10.out.grow (Ex.trans (Ex.refl w10).drew hb11)); obtain ⟨y0, y1, y2, y3, y4, y5, y6, y7⟩ := rd_cells H11.out.cell; clear ho11 hb11))
        | (go_at_call 38; ((refine (rfiles_calls H11.out.doc HOK.out (by omega) HIZ.out).mono ?_); rintro e w12 ⟨v12, rfl, ho12, hb12⟩; obtain ⟨A12, c12, rfl, _⟩ := own_shape ho12; have H12 := Lib.hid (H11.out.grow hb12); obtain ⟨z0, z1, z2, z3, z4, z5, z6, z7⟩ := rd_cells H12.out.cell; clear ho12 hb12))
        | (go_at_call 21; ((with_reducible refine (dcount_calls H12.out.dk).mono ?_); rintro e w13 ⟨rfl, hb13⟩; have H13 := Lib.hid (H12.out.grow hb13); obtain ⟨u0, u1, u2, u3, u4, u5, u6, u7⟩ := rd_cells H13.out.cell; clear hb13))
        | (go_at_call 40; ((with_reducible refine (lives38_calls _).mono ?_); rintro e w14 ⟨rfl, hb14⟩; have H14 := Lib.hid (H13.out.grow hb14); obtain ⟨v0, v1, v2, v3, v4, v5, v6, v7⟩ := rd_cells H14.out.cell; clear hb14)))
      go_wp2_with fail
      go_ret
      exact ⟨rfl, HX0.out.trans H14.out.ex⟩
end Go.Proofs.YtcffkmlnbnjibaaGreat
