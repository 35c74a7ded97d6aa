/- The document's publish: Write; names of saved files; Save and Read. -/
import Derived.Test.YtcffkmlnbnjibaaGreatRfM
import Derived.Test.YtcffkmlnbnjibaaGreatExA
namespace Go.Proofs.YtcffkmlnbnjibaaGreat
open Go.RowKit
/-- Eight cells are stored into a block of eight. -/
theorem blk_set8 {w : World} {g : Nat} {T : TypeId} {o0 o1 o2 o3 o4 o5 o6 o7 : Value} (h : Blk w g T [o0, o1, o2, o3, o4, o5, o6, o7]) (a0 a1 a2 a3 a4 a5 a6 a7 : Value) : Blk ((((((((w.setCell ⟨g, 0, none⟩ a0).setCell ⟨g, 1, none⟩ a1).setCell ⟨g, 2, none⟩ a2).setCell ⟨g, 3, none⟩ a3).setCell ⟨g, 4, none⟩ a4).setCell ⟨g, 5, none⟩ a5).setCell ⟨g, 6, none⟩ a6).setCell ⟨g, 7, none⟩ a7) g T [a0, a1, a2, a3, a4, a5, a6, a7] := ((((((((h.setCell (i := 0) a0).setCell (i := 1) a1).setCell (i := 2) a2).setCell (i := 3) a3).setCell (i := 4) a4).setCell (i := 5) a5).setCell (i := 6) a6).setCell (i := 7) a7)
theorem off_set8 (w : World) (g : Nat) (a0 a1 a2 a3 a4 a5 a6 a7 : Value) : Off (· = g) w ((((((((w.setCell ⟨g, 0, none⟩ a0).setCell ⟨g, 1, none⟩ a1).setCell ⟨g, 2, none⟩ a2).setCell ⟨g, 3, none⟩ a3).setCell ⟨g, 4, none⟩ a4).setCell ⟨g, 5, none⟩ a5).setCell ⟨g, 6, none⟩ a6).setCell ⟨g, 7, none⟩ a7) := ((((((((off_set w g 0 a0).trans (off_set _ g 1 a1)).trans (off_set _ g 2 a2)).trans (off_set _ g 3 a3)).trans (off_set _ g 4 a4)).trans (off_set _ g 5 a5)).trans (off_set _ g 6 a6)).trans (off_set _ g 7 a7))
theorem off_ex8 {w0 w : World} {g : Nat} (h : Ex w0 w) (hg : w0.heap.size ≤ g) (a0 a1 a2 a3 a4 a5 a6 a7 : Value) : Ex w0 ((((((((w.setCell ⟨g, 0, none⟩ a0).setCell ⟨g, 1, none⟩ a1).setCell ⟨g, 2, none⟩ a2).setCell ⟨g, 3, none⟩ a3).setCell ⟨g, 4, none⟩ a4).setCell ⟨g, 5, none⟩ a5).setCell ⟨g, 6, none⟩ a6).setCell ⟨g, 7, none⟩ a7) := ((h.off fun k => k = g).trans (off_set8 w g a0 a1 a2 a3 a4 a5 a6 a7)).ex fun k hk e => by omega
set_option maxRecDepth 100000 in
set_option maxHeartbeats 1000000 in
theorem ruser_calls (s : ByteArray) (w : World) (hs : s.size ≤ 9223372036854775807) : Calls Tryz.prog 103 #[.string s] w fun e w' => e = .returned (.bool (userB s)) ∧ Ex w w' := by
  go_enter Tryz.func103, Tryz.ntmps103
  go_wp2_with fail
  go_loopw [3] (fun v3 wr => ∃ k : Nat, k ≤ s.size ∧ v3 = .int .i64 (k : Int) ∧ (∀ i, i < k → smallB (byteAt s i) = true) ∧ Ex w wr) (fun v3 _ => s.size - (intOf v3).toNat)
  case atStart => exact ⟨0, by omega, rfl, fun i hi => by omega, Ex.refl _⟩
  case round =>
    obtain ⟨k, hk, rfl, hall, hb⟩ := hrel
    have HX := Lib.hid hb
    have HA := Lib.hid hall
    clear hb hall
    by_cases hlt : k < s.size
    · have hbt : (s[k]'hlt).toNat = byteAt s k := by unfold byteAt; rw [dif_pos hlt]
      have hb256 : byteAt s k < 256 := byteAt_lt s k
      have HNO := Lib.hid (fun h => user_no hlt h)
      have HA1 : smallB (byteAt s k) = true → Hid (∀ i, i < k + 1 → smallB (byteAt s i) = true) := fun h i hi => by
        rcases Nat.lt_or_ge i k with h3 | h3
        · exact HA.out i h3
        · rw [show i = k by omega]; exact h
      generalize byteAt s k = b at *
      go_wp2_with fail
      refine (small_calls b _ hb256).mono ?_
      rintro e w1 ⟨rfl, hb1⟩
      have HX1 := Lib.hid (HX.out.trans hb1)
      clear hb1
      cases hsm : smallB b
      · have HM : Hid (userB s = false) := HNO.out hsm
        go_wp2_with fail
        go_ret
        exact ⟨by rw [HM.out]; rfl, HX1.out⟩
      · have HA1 := HA1 hsm
        go_wp2_with fail
        exact ⟨⟨k + 1, by omega, by go_num, HA1.out, HX1.out⟩, by simp [intOf]; omega⟩
    · have hks : k = s.size := by omega
      subst hks
      by_cases h0 : 0 < s.size ∧ s.size ≤ 16
      · have HM : Hid (userB s = true) := user_yes h0.1 h0.2 HA.out
        have d1 : decide (1 ≤ (s.size : Int)) = true := decide_eq_true (by omega)
        have d2 : decide ((s.size : Int) ≤ 16) = true := decide_eq_true (by omega)
        go_wp2_with fail
        go_ret
        exact ⟨by rw [HM.out]; rfl, HX.out⟩
      · have HM : Hid (userB s = false) := user_size h0
        by_cases h1 : s.size = 0
        · have d1 : decide (1 ≤ (s.size : Int)) = false := decide_eq_false (by omega)
          go_wp2_with fail
          go_ret
          exact ⟨by rw [HM.out]; rfl, HX.out⟩
        · have d1 : decide (1 ≤ (s.size : Int)) = true := decide_eq_true (by omega)
          have d2 : decide ((s.size : Int) ≤ 16) = false := decide_eq_false (by omega)
          go_wp2_with fail
          go_ret
          exact ⟨by rw [HM.out]; rfl, HX.out⟩
theorem rexport_calls (s : ByteArray) (w : World) (hs : s.size ≤ 9223372036854775807) : Calls Tryz.prog 104 #[.string s] w fun e w' => e = .returned (.string (expS s)) ∧ Ex w w' := by
  cases hu : userB s
  · have HE := Lib.hid (show expS s = ⟨#[]⟩ from by unfold expS; rw [hu]; rfl)
    go_enter Tryz.func104, Tryz.ntmps104
    go_wp2_with fail
    refine (ruser_calls s _ hs).mono ?_
    rintro e w1 ⟨rfl, hb1⟩
    rw [hu]
    go_wp2_with fail
    go_ret
    exact ⟨by rw [HE.out]; rfl, hb1⟩
  · have HE := Lib.hid (show expS s = ⟨#[120, 45]⟩ ++ s from by unfold expS; rw [hu]; rfl)
    have hz := user_le hu
    have hf : (⟨#[120, 45]⟩ : ByteArray).size = 2 := rfl
    go_enter Tryz.func104, Tryz.ntmps104
    go_wp2_with fail
    refine (ruser_calls s _ hs).mono ?_
    rintro e w1 ⟨rfl, hb1⟩
    rw [hu]
    go_wp2_with fail
    go_ret
    exact ⟨by rw [HE.out]; rfl, hb1⟩
set_option maxHeartbeats 4000000 in
set_option maxRecDepth 100000 in
theorem rwrite_calls {F : Nat → Prop} {w : World} {Q : DkV} {tv sl : Value} {M : Nat} (s b x : ByteArray) (h : RdV F w Q tv sl) (ho : Q.Ok M) (hM : M ≤ 600000) (hi : Idz Q) (hs : s.size ≤ 9223372036854775807) (hb : b.size ≤ 9223372036854775807) (hx : x.size ≤ 1000000) (hF : ∀ k, F k → k < w.heap.size) :
    Calls Tryz.prog 36 #[.agg (Q.rcs tv sl).toArray, .string s, .string b, .string x] w fun e w' => Op3 F w (Q.pub s b x) w' e := by
  obtain ⟨tA, tc, sB, sn, sd, rfl, rfl⟩ := h.shape
  have hX := ex_two w (.cells (Q.rcs (.slice tA Q.tapes.length tc) (.slice sB sn sd)).toArray 59) (.cells zeroD.toArray 59)
  have hB := (Blk.new w (Q.rcs (.slice tA Q.tapes.length tc) (.slice sB sn sd)) 59).ex (ex_alloc (Ex.refl _) (.cells zeroD.toArray 59))
  have HK0 := Lib.hid (blk_two w (.cells (Q.rcs (.slice tA Q.tapes.length tc) (.slice sB sn sd)).toArray 59) zeroD 59)
  obtain ⟨G, hG, eG⟩ := Grow.mk2 hX hF
  have HG := Lib.hid hG
  have HG0 := Lib.hid (hG.new w.heap.size (Nat.le_refl _) (by simp; omega))
  have HG1 := Lib.hid (hG.new (w.heap.size + 1) (Nat.le_succ _) (by simp))
  have HR0 := Lib.hid (hG.rd eG h)
  have HB0 := Lib.hid hB
  have HX0 := Lib.hid hX
  have HF0 := Lib.hid hG.lt
  have HI := Lib.hid hi
  have HO := Lib.hid ho
  have hle := Nat.le_refl w.heap.size
  have hle1 := Nat.le_succ w.heap.size
  have hne1 : w.heap.size + 1 ≠ w.heap.size := by omega
  clear h ho hi hX hB hG eG hF
  generalize Q.tapes.length = tm at *
  obtain ⟨r, hr⟩ : ∃ r, runP s b x 5 0 Q = r := ⟨_, rfl⟩
  obtain ⟨Q1, n1, e1⟩ := r
  have hok : Q1.Ok (M + 20) := by have := runP_ok (x := x) hs hb 5 0 HO.out (by omega); rw [hr] at this; exact this
  have hiz : Idz Q1 := by have := HI.out.run (s := s) (b := b) (x := x) 5 0; rw [hr] at this; exact this
  have HC := Lib.hid (fun W (hR : RdV G W Q (.slice tA tm tc) (.slice sB sn sd)) (hF : ∀ k, G k → k < W.heap.size) => rsteps_calls (F := G) s b x hR HO.out hM HI.out hs hb hx hF)
  have HPB := Lib.hid (show Q.pub s b x = if n1 < 4 then ((Q1.remove s).1, n1, e1) else (Q1, n1, e1) from by unfold DkV.pub; rw [hr])
  rw [hr] at HC
  have HOk1 := Lib.hid hok
  have HIz1 := Lib.hid hiz
  clear hr hok hiz
  unfold DkV.rcs
  go_enter Tryz.func36, Tryz.ntmps36
  go_wp2_with fail
  refine (HC.out _ HR0.out HF0.out).mono ?_
  rintro e w1 ⟨tv1, sl1, rfl, hR1, hX1⟩
  simp only at hR1
  obtain ⟨tA1, tc1, sB1, sn1, sd1, rfl, rfl⟩ := hR1.shape
  generalize Q1.tapes.length = tm1 at *
  have HBo1 := Lib.hid (HB0.out.ex hX1)
  have HKo1 := Lib.hid (HK0.out.ex hX1)
  have HXo1 := Lib.hid (HX0.out.trans hX1)
  have HFo1 := Lib.hid (lt_more HF0.out hX1.size)
  have HRo1 := Lib.hid hR1
  clear hR1 hX1 HC
  unfold DkV.rcs
  by_cases hn4 : ¬ n1 < 4
  · have d4 : decide ((n1 : Int) < 4) = false := decide_eq_false (by omega)
    go_wp2_with (first
      | (refine st_agg 59 rfl (.tmp 4) (.tmp 19) rfl w.heap.size [.int .i64 Q.sec, (.slice tA tm tc), (.slice sB sn sd), .int .i64 Q.fu.p, .int .i64 Q.fu.s, .int .i64 Q.fu.d, .bool Q.fu.off, .int .i64 (Q.calls : Int)] [.int .i64 Q1.sec, (.slice tA1 tm1 tc1), (.slice sB1 sn1 sd1), .int .i64 Q1.fu.p, .int .i64 Q1.fu.s, .int .i64 Q1.fu.d, .bool Q1.fu.off, .int .i64 (Q1.calls : Int)] rfl rfl info_d11 rfl (one_disk HRo1.out) HBo1.out HXo1.out hle ?_; intro w2 k2 X2 g2; have HB2 := Lib.hid k2; have HX2 := Lib.hid X2; have HK2 := Lib.hid (HKo1.out.grown g2 (ne_some hne1)); have HR2 := Lib.hid (HRo1.out.offs (off_grown g2) (same_blk HG0.out)); have HF2 := Lib.hid (lt_more HFo1.out g2.size); obtain ⟨x0, x1, x2, x3, x4, x5, x6, x7⟩ := rd_cells (Q := Q1) (tv := (.slice tA1 tm1 tc1)) (sl := (.slice sB1 sn1 sd1)) k2; clear k2 X2 g2)
      | (refine st_agg 59 rfl (.tmp 8) (.tmp 30) rfl (w.heap.size + 1) [.int .i64 0, .slice none 0 0, .slice none 0 0, .int .i64 0, .int .i64 0, .int .i64 0, .bool false, .int .i64 0] [.int .i64 Q1.sec, (.slice tA1 tm1 tc1), (.slice sB1 sn1 sd1), .int .i64 Q1.fu.p, .int .i64 Q1.fu.s, .int .i64 Q1.fu.d, .bool Q1.fu.off, .int .i64 (Q1.calls : Int)] rfl rfl info_d11 rfl (one_disk HR2.out) HK2.out HX2.out hle1 ?_; intro wz kz Xz gz))
    (try simp only [Exit.inBlock, Exit.then])
    refine bodyPost_ret (ret_agg3 rfl _ _ (w.heap.size + 1) [.int .i64 Q1.sec, (.slice tA1 tm1 tc1), (.slice sB1 sn1 sd1), .int .i64 Q1.fu.p, .int .i64 Q1.fu.s, .int .i64 Q1.fu.d, .bool Q1.fu.off, .int .i64 (Q1.calls : Int)] rfl kz Tryz.underlying59 info_d11) rfl ?_
    rw [HPB.out, if_neg hn4]
    exact op3 (Q := Q1) rfl HR2.out gz HG1.out HG.out.of Xz
  replace hn4 : n1 < 4 := Classical.byContradiction hn4
  have d4 : decide ((n1 : Int) < 4) = true := decide_eq_true (by omega)
  go_wp2_with (refine st_agg 59 rfl (.tmp 4) (.tmp 19) rfl w.heap.size [.int .i64 Q.sec, (.slice tA tm tc), (.slice sB sn sd), .int .i64 Q.fu.p, .int .i64 Q.fu.s, .int .i64 Q.fu.d, .bool Q.fu.off, .int .i64 (Q.calls : Int)] [.int .i64 Q1.sec, (.slice tA1 tm1 tc1), (.slice sB1 sn1 sd1), .int .i64 Q1.fu.p, .int .i64 Q1.fu.s, .int .i64 Q1.fu.d, .bool Q1.fu.off, .int .i64 (Q1.calls : Int)] rfl rfl info_d11 rfl (one_disk HRo1.out) HBo1.out HXo1.out hle ?_; intro w2 k2 X2 g2; have HB2 := Lib.hid k2; have HX2 := Lib.hid X2; have HK2 := Lib.hid (HKo1.out.grown g2 (ne_some hne1)); have HR2 := Lib.hid (HRo1.out.offs (off_grown g2) (same_blk HG0.out)); have HF2 := Lib.hid (lt_more HFo1.out g2.size); obtain ⟨x0, x1, x2, x3, x4, x5, x6, x7⟩ := rd_cells (Q := Q1) (tv := (.slice tA1 tm1 tc1)) (sl := (.slice sB1 sn1 sd1)) k2; clear k2 X2 g2)
  obtain ⟨Q3, e3, h3⟩ : ∃ Q' e', Q1.remove s = (Q', e') := ⟨_, _, rfl⟩
  have hok3 : Q3.Ok (M + 20 + 2) := by have := remove_ok HOk1.out hs; rw [h3] at this; exact this
  have hiz3 : Idz Q3 := by have := Idz.remove HIz1.out s; rw [h3] at this; exact this
  refine (rremove_calls (F := G) s HR2.out HOk1.out (by omega) HIz1.out HF2.out).mono ?_
  rintro e w3 ho3
  clear x0 x1 x2 x3 x4 x5 x6 x7
  rw [h3] at ho3
  obtain ⟨tv3, sl3, rfl, hR3, hX3⟩ := ho3
  simp only at hR3
  have HH3 := Lib.hid h3
  obtain ⟨tA3, tc3, sB3, sn3, sd3, rfl, rfl⟩ := hR3.shape
  generalize Q3.tapes.length = tm3 at *
  have HOk3 := Lib.hid hok3
  have HIz3 := Lib.hid hiz3
  have HBo3 := Lib.hid (HB2.out.ex hX3)
  have HKo3 := Lib.hid (HK2.out.ex hX3)
  have HXo3 := Lib.hid (HX2.out.trans hX3)
  have HFo3 := Lib.hid (lt_more HF2.out hX3.size)
  have HRo3 := Lib.hid hR3
  clear h3 hok3 hiz3 hR3 hX3
  unfold DkV.rcs
  go_wp2_with (first
    | (refine st_agg 59 rfl (.tmp 4) (.tmp 28) rfl w.heap.size [.int .i64 Q1.sec, (.slice tA1 tm1 tc1), (.slice sB1 sn1 sd1), .int .i64 Q1.fu.p, .int .i64 Q1.fu.s, .int .i64 Q1.fu.d, .bool Q1.fu.off, .int .i64 (Q1.calls : Int)] [.int .i64 Q3.sec, (.slice tA3 tm3 tc3), (.slice sB3 sn3 sd3), .int .i64 Q3.fu.p, .int .i64 Q3.fu.s, .int .i64 Q3.fu.d, .bool Q3.fu.off, .int .i64 (Q3.calls : Int)] rfl rfl info_d11 rfl (one_disk HRo3.out) HBo3.out HXo3.out hle ?_; intro w4 k4 X4 g4; have HB4 := Lib.hid k4; have HX4 := Lib.hid X4; have HK4 := Lib.hid (HKo3.out.grown g4 (ne_some hne1)); have HR4 := Lib.hid (HRo3.out.offs (off_grown g4) (same_blk HG0.out)); have HF4 := Lib.hid (lt_more HFo3.out g4.size); obtain ⟨x0, x1, x2, x3, x4, x5, x6, x7⟩ := rd_cells (Q := Q3) (tv := (.slice tA3 tm3 tc3)) (sl := (.slice sB3 sn3 sd3)) k4; clear k4 X4 g4)
    | (refine st_agg 59 rfl (.tmp 8) (.tmp 30) rfl (w.heap.size + 1) [.int .i64 0, .slice none 0 0, .slice none 0 0, .int .i64 0, .int .i64 0, .int .i64 0, .bool false, .int .i64 0] [.int .i64 Q3.sec, (.slice tA3 tm3 tc3), (.slice sB3 sn3 sd3), .int .i64 Q3.fu.p, .int .i64 Q3.fu.s, .int .i64 Q3.fu.d, .bool Q3.fu.off, .int .i64 (Q3.calls : Int)] rfl rfl info_d11 rfl (one_disk HR4.out) HK4.out HX4.out hle1 ?_; intro wz kz Xz gz))
  (try simp only [Exit.inBlock, Exit.then])
  refine bodyPost_ret (ret_agg3 rfl _ _ (w.heap.size + 1) [.int .i64 Q3.sec, (.slice tA3 tm3 tc3), (.slice sB3 sn3 sd3), .int .i64 Q3.fu.p, .int .i64 Q3.fu.s, .int .i64 Q3.fu.d, .bool Q3.fu.off, .int .i64 (Q3.calls : Int)] rfl kz Tryz.underlying59 info_d11) rfl ?_
  rw [HPB.out, if_pos hn4, HH3.out]
  exact op3 (Q := Q3) rfl HR4.out gz HG1.out HG.out.of Xz
set_option maxHeartbeats 4000000 in
set_option maxRecDepth 100000 in
theorem rsave_calls {F : Nat → Prop} {w : World} {Q : DkV} {tv sl : Value} {M : Nat} (nm x : ByteArray) (h : RdV F w Q tv sl) (ho : Q.Ok M) (hM : M ≤ 600000) (hi : Idz Q) (hs : nm.size ≤ 9223372036854775807) (hx : x.size ≤ 1000000) (hF : ∀ k, F k → k < w.heap.size) :
    Calls Tryz.prog 42 #[.agg (Q.rcs tv sl).toArray, .string nm, .string x] w fun e w' => Op3 F w (Q.save nm x) w' e := by
  obtain ⟨tA, tc, sB, sn, sd, rfl, rfl⟩ := h.shape
  have hX := ex_two w (.cells (Q.rcs (.slice tA Q.tapes.length tc) (.slice sB sn sd)).toArray 59) (.cells zeroD.toArray 59)
  have hB := (Blk.new w (Q.rcs (.slice tA Q.tapes.length tc) (.slice sB sn sd)) 59).ex (ex_alloc (Ex.refl _) (.cells zeroD.toArray 59))
  have HK0 := Lib.hid (blk_two w (.cells (Q.rcs (.slice tA Q.tapes.length tc) (.slice sB sn sd)).toArray 59) zeroD 59)
  obtain ⟨G, hG, eG⟩ := Grow.mk2 hX hF
  have HG := Lib.hid hG
  have HG0 := Lib.hid (hG.new w.heap.size (Nat.le_refl _) (by simp; omega))
  have HG1 := Lib.hid (hG.new (w.heap.size + 1) (Nat.le_succ _) (by simp))
  have HR0 := Lib.hid (hG.rd eG h)
  have HB0 := Lib.hid hB
  have HX0 := Lib.hid hX
  have HF0 := Lib.hid hG.lt
  have HI := Lib.hid hi
  have HO := Lib.hid ho
  have hle := Nat.le_refl w.heap.size
  have hle1 := Nat.le_succ w.heap.size
  have hne1 : w.heap.size + 1 ≠ w.heap.size := by omega
  clear h ho hi hX hB hG eG hF
  generalize Q.tapes.length = tm at *
  have HCU := Lib.hid (fun w => ruser_calls nm w hs)
  cases hu : userB nm
  · have HE := Lib.hid (show Q.save nm x = (Q, 0, 7) from by unfold DkV.save; rw [if_pos hu])
    rw [hu] at HCU
    clear hu
    unfold DkV.rcs
    go_enter Tryz.func42, Tryz.ntmps42
    go_wp2_with fail
    refine (HCU.out _).mono ?_
    rintro e w1 ⟨rfl, hb1⟩
    have HB1 := Lib.hid (HB0.out.ex hb1)
    have HK1 := Lib.hid (HK0.out.ex hb1)
    have HX1 := Lib.hid (HX0.out.trans hb1)
    have HR1 := Lib.hid (HR0.out.ex hb1)
    have HF1 := Lib.hid (fun k hk => Nat.lt_of_lt_of_le (HF0.out k hk) hb1.size)
    obtain ⟨x0, x1, x2, x3, x4, x5, x6, x7⟩ := rd_cells HB1.out
    clear hb1
    go_wp2_with (refine st_agg 59 rfl (.tmp 6) (.tmp 12) rfl (w.heap.size + 1) [.int .i64 0, .slice none 0 0, .slice none 0 0, .int .i64 0, .int .i64 0, .int .i64 0, .bool false, .int .i64 0] [.int .i64 Q.sec, (.slice tA tm tc), (.slice sB sn sd), .int .i64 Q.fu.p, .int .i64 Q.fu.s, .int .i64 Q.fu.d, .bool Q.fu.off, .int .i64 (Q.calls : Int)] rfl rfl info_d11 rfl (one_disk HR1.out) HK1.out HX1.out hle1 ?_; intro wz kz Xz gz)
    (try simp only [Exit.inBlock, Exit.then])
    refine bodyPost_ret (ret_agg3 rfl _ _ (w.heap.size + 1) [.int .i64 Q.sec, (.slice tA tm tc), (.slice sB sn sd), .int .i64 Q.fu.p, .int .i64 Q.fu.s, .int .i64 Q.fu.d, .bool Q.fu.off, .int .i64 (Q.calls : Int)] rfl kz Tryz.underlying59 info_d11) rfl ?_
    rw [HE.out]
    exact op3 (Q := Q) rfl HR1.out gz HG1.out HG.out.of Xz
  rw [hu] at HCU
  by_cases hl : 4096 < x.size
  · have HE := Lib.hid (show Q.save nm x = (Q, 0, 6) from by unfold DkV.save; rw [if_neg (by rw [hu]; decide), if_pos hl])
    have d1 : decide (4096 < (x.size : Int)) = true := decide_eq_true (by omega)
    clear hu
    unfold DkV.rcs
    go_enter Tryz.func42, Tryz.ntmps42
    go_wp2_with fail
    refine (HCU.out _).mono ?_
    rintro e w1 ⟨rfl, hb1⟩
    have HB1 := Lib.hid (HB0.out.ex hb1)
    have HK1 := Lib.hid (HK0.out.ex hb1)
    have HX1 := Lib.hid (HX0.out.trans hb1)
    have HR1 := Lib.hid (HR0.out.ex hb1)
    have HF1 := Lib.hid (fun k hk => Nat.lt_of_lt_of_le (HF0.out k hk) hb1.size)
    obtain ⟨x0, x1, x2, x3, x4, x5, x6, x7⟩ := rd_cells HB1.out
    clear hb1
    go_wp2_with (refine st_agg 59 rfl (.tmp 6) (.tmp 16) rfl (w.heap.size + 1) [.int .i64 0, .slice none 0 0, .slice none 0 0, .int .i64 0, .int .i64 0, .int .i64 0, .bool false, .int .i64 0] [.int .i64 Q.sec, (.slice tA tm tc), (.slice sB sn sd), .int .i64 Q.fu.p, .int .i64 Q.fu.s, .int .i64 Q.fu.d, .bool Q.fu.off, .int .i64 (Q.calls : Int)] rfl rfl info_d11 rfl (one_disk HR1.out) HK1.out HX1.out hle1 ?_; intro wz kz Xz gz)
    (try simp only [Exit.inBlock, Exit.then])
    refine bodyPost_ret (ret_agg3 rfl _ _ (w.heap.size + 1) [.int .i64 Q.sec, (.slice tA tm tc), (.slice sB sn sd), .int .i64 Q.fu.p, .int .i64 Q.fu.s, .int .i64 Q.fu.d, .bool Q.fu.off, .int .i64 (Q.calls : Int)] rfl kz Tryz.underlying59 info_d11) rfl ?_
    rw [HE.out]
    exact op3 (Q := Q) rfl HR1.out gz HG1.out HG.out.of Xz
  have d1 : decide (4096 < (x.size : Int)) = false := decide_eq_false (by omega)
  have hnz := user_le hu
  have HEX := Lib.hid (show expS nm = frExp ++ nm from by unfold expS; rw [hu]; rfl)
  obtain ⟨r, hr⟩ : ∃ r, Q.pub tmpS (frExp ++ nm) x = r := ⟨_, rfl⟩
  have HE := Lib.hid (show Q.save nm x = r from by rw [← hr]; unfold DkV.save; rw [if_neg (by rw [hu]; decide), if_neg hl])
  have HCW := Lib.hid (fun W (hR : RdV G W Q (.slice tA tm tc) (.slice sB sn sd)) (hF : ∀ k, G k → k < W.heap.size) => rwrite_calls (F := G) tmpS (frExp ++ nm) x hR HO.out hM HI.out (by decide) (by rw [ByteArray.size_append]; have : frExp.size = 2 := rfl; omega) hx hF)
  have HCE := Lib.hid (fun w => rexport_calls nm w hs)
  rw [hr] at HCW
  rw [HEX.out] at HCE
  obtain ⟨Q4, n4, e4⟩ := r
  obtain ⟨en, hen⟩ : ∃ en, frExp ++ nm = en := ⟨_, rfl⟩
  rw [hen] at HCW HCE
  clear hu hr hen
  unfold DkV.rcs tmpS at HCW
  unfold DkV.rcs
  go_enter Tryz.func42, Tryz.ntmps42
  go_wp2_with fail
  refine (HCU.out _).mono ?_
  rintro e w1 ⟨rfl, hb1⟩
  have HB1 := Lib.hid (HB0.out.ex hb1)
  have HK1 := Lib.hid (HK0.out.ex hb1)
  have HX1 := Lib.hid (HX0.out.trans hb1)
  have HR1 := Lib.hid (HR0.out.ex hb1)
  have HF1 := Lib.hid (fun k hk => Nat.lt_of_lt_of_le (HF0.out k hk) hb1.size)
  obtain ⟨x0, x1, x2, x3, x4, x5, x6, x7⟩ := rd_cells HB1.out
  clear hb1
  unfold zeroD at HK1
  go_wp2_with fail
  go_region_held3 (fun w' => w'.cell? ⟨w.heap.size, 0, none⟩ = some (.int .i64 Q.sec) ∧ w'.cell? ⟨w.heap.size, 1, none⟩ = some (.slice tA tm tc) ∧ w'.cell? ⟨w.heap.size, 2, none⟩ = some (.slice sB sn sd) ∧ w'.cell? ⟨w.heap.size, 3, none⟩ = some (.int .i64 Q.fu.p) ∧ w'.cell? ⟨w.heap.size, 4, none⟩ = some (.int .i64 Q.fu.s) ∧ w'.cell? ⟨w.heap.size, 5, none⟩ = some (.int .i64 Q.fu.d) ∧ w'.cell? ⟨w.heap.size, 6, none⟩ = some (.bool Q.fu.off) ∧ w'.cell? ⟨w.heap.size, 7, none⟩ = some (.int .i64 (Q.calls : Int))) (go_keep) (first
    | (go_at_call 104; ((with_reducible refine (HCE.out _).mono ?_); rintro e w3 ⟨rfl, hb3⟩; have HX3 := Lib.hid (Ex.trans (Ex.refl w1).drew hb3); clear hb3; have y0 := HX3.out.cell x0; have y1 := HX3.out.cell x1; have y2 := HX3.out.cell x2; have y3 := HX3.out.cell x3; have y4 := HX3.out.cell x4; have y5 := HX3.out.cell x5; have y6 := HX3.out.cell x6; have y7 := HX3.out.cell x7))
    | (go_at_call 36; ((with_reducible refine (HCW.out w3 (HR1.out.ex HX3.out) (lt_more HF1.out HX3.out.size)).mono ?_); rintro e w4 ⟨tv4, sl4, rfl, hR4, hX4⟩; simp only at hR4; obtain ⟨tA4, tc4, sB4, sn4, sd4, rfl, rfl⟩ := hR4.shape; generalize Q4.tapes.length = tm4 at *; have HR4 := Lib.hid hR4; have HX4 := Lib.hid (Ex.trans HX3.out hX4); clear hR4 hX4; have u0 := HX4.out.cell x0; have u1 := HX4.out.cell x1; have u2 := HX4.out.cell x2; have u3 := HX4.out.cell x3; have u4 := HX4.out.cell x4; have u5 := HX4.out.cell x5; have u6 := HX4.out.cell x6; have u7 := HX4.out.cell x7; have f0 := (HK1.out.ex HX4.out).frozen 0; have z0 := (HK1.out.ex HX4.out).cell 0; have f1 := (HK1.out.ex HX4.out).frozen 1; have z1 := (HK1.out.ex HX4.out).cell 1; have f2 := (HK1.out.ex HX4.out).frozen 2; have z2 := (HK1.out.ex HX4.out).cell 2; have f3 := (HK1.out.ex HX4.out).frozen 3; have z3 := (HK1.out.ex HX4.out).cell 3; have f4 := (HK1.out.ex HX4.out).frozen 4; have z4 := (HK1.out.ex HX4.out).cell 4; have f5 := (HK1.out.ex HX4.out).frozen 5; have z5 := (HK1.out.ex HX4.out).cell 5; have f6 := (HK1.out.ex HX4.out).frozen 6; have z6 := (HK1.out.ex HX4.out).cell 6; have f7 := (HK1.out.ex HX4.out).frozen 7; have z7 := (HK1.out.ex HX4.out).cell 7; unfold DkV.rcs)))
  go_wp2_with fail
  (try simp only [Exit.inBlock, Exit.then])
  refine bodyPost_ret (ret_agg3 rfl _ _ (w.heap.size + 1) [.int .i64 Q4.sec, (.slice tA4 tm4 tc4), (.slice sB4 sn4 sd4), .int .i64 Q4.fu.p, .int .i64 Q4.fu.s, .int .i64 Q4.fu.d, .bool Q4.fu.off, .int .i64 (Q4.calls : Int)] rfl (blk_set8 (HK1.out.ex HX4.out) _ _ _ _ _ _ _ _) Tryz.underlying59 info_d11) rfl ?_
  rw [HE.out]
  refine ⟨_, _, rfl, ?_, off_ex8 (HX1.out.trans HX4.out) (Nat.le_succ _) _ _ _ _ _ _ _ _⟩
  exact (HR4.out.offs (off_set8 _ _ _ _ _ _ _ _ _ _) (same_blk HG1.out)).less HG.out.of
set_option maxHeartbeats 4000000 in
set_option maxRecDepth 100000 in
theorem rexread_calls {F : Nat → Prop} {w : World} {Q : DkV} {tv sl : Value} {M : Nat} (nm : ByteArray) (h : RdV F w Q tv sl) (ho : Q.Ok M) (hM : M ≤ 600000) (hi : Idz Q) (hs : nm.size ≤ 9223372036854775807) :
    Calls Tryz.prog 44 #[.agg (Q.rcs tv sl).toArray, .string nm] w fun e w' => e = .returned (.tuple #[.string (Q.rexp nm).1, .int .i64 (Q.rexp nm).2]) ∧ Ex w w' := by
  obtain ⟨tA, tc, sB, sn, sd, rfl, rfl⟩ := h.shape
  have hX := ex_alloc (Ex.refl w) (.cells (Q.rcs (.slice tA Q.tapes.length tc) (.slice sB sn sd)).toArray 59)
  have HB0 := Lib.hid (Blk.new w (Q.rcs (.slice tA Q.tapes.length tc) (.slice sB sn sd)) 59)
  have HR0 := Lib.hid (h.ex hX)
  have HX0 := Lib.hid hX
  have HI := Lib.hid hi
  have HO := Lib.hid ho
  clear h ho hi hX
  generalize Q.tapes.length = tm at *
  have HCU := Lib.hid (fun w => ruser_calls nm w hs)
  cases hu : userB nm
  · have HE := Lib.hid (show Q.rexp nm = (⟨#[]⟩, 7) from by unfold DkV.rexp; rw [if_pos hu])
    rw [hu] at HCU
    clear hu
    unfold DkV.rcs
    go_enter Tryz.func44, Tryz.ntmps44
    go_wp2_with fail
    refine (HCU.out _).mono ?_
    rintro e w1 ⟨rfl, hb1⟩
    have HX1 := Lib.hid (HX0.out.trans hb1)
    go_wp2_with fail
    go_ret2
    exact ⟨by rw [HE.out]; rfl, HX1.out⟩
  rw [hu] at HCU
  have HCE := Lib.hid (fun w => rexport_calls nm w hs)
  rw [show expS nm = frExp ++ nm from by unfold expS; rw [hu]; rfl] at HCE
  have HCR := Lib.hid (fun W (hR : RdV (fun _ => False) W Q (.slice tA tm tc) (.slice sB sn sd)) => rread_calls (frExp ++ nm) hR HO.out (by omega) HI.out)
  obtain ⟨rr, hrr⟩ : ∃ rr, Q.read (frExp ++ nm) = rr := ⟨_, rfl⟩
  have HE := Lib.hid (show Q.rexp nm = rr from by rw [← hrr]; unfold DkV.rexp; rw [if_neg (by rw [hu]; decide)])
  rw [hrr] at HCR
  obtain ⟨rd, re⟩ := rr
  obtain ⟨en, hen⟩ : ∃ en, frExp ++ nm = en := ⟨_, rfl⟩
  rw [hen] at HCR HCE
  clear hu hrr hen
  unfold DkV.rcs at HCR
  unfold DkV.rcs
  go_enter Tryz.func44, Tryz.ntmps44
  go_wp2_with fail
  refine (HCU.out _).mono ?_
  rintro e w1 ⟨rfl, hb1⟩
  have HX1 := Lib.hid (HX0.out.trans hb1)
  have HB1 := Lib.hid (HB0.out.ex hb1)
  have HR1 := Lib.hid ((HR0.out.ex hb1).less (F := fun _ => False) fun _ h => h.elim)
  obtain ⟨x0, x1, x2, x3, x4, x5, x6, x7⟩ := rd_cells HB1.out
  have q0 := Wd.cell x0; have q1 := Wd.cell x1; have q2 := Wd.cell x2; have q3 := Wd.cell x3; have q4 := Wd.cell x4; have q5 := Wd.cell x5; have q6 := Wd.cell x6; have q7 := Wd.cell x7
  clear hb1
  go_wp2_with fail
  refine wp_region_calm (by kernel_rfl) (by kernel_rfl) ?_
  repeat (go_big_quiet_step ((first | (go_at_call 104; exact calm_of (HCE.out _)) | (go_at_call 88; exact calm_of (HCR.out _ (HR1.out.ex (Wd.ex _)))))))
  refine wpQuiet_nil ?_
  intro w2 hX2
  replace hX2 := calm_world hX2
  go_wp2_with fail
  go_ret2
  exact ⟨by rw [HE.out]; rfl, HX1.out.trans hX2⟩
end Go.Proofs.YtcffkmlnbnjibaaGreat
