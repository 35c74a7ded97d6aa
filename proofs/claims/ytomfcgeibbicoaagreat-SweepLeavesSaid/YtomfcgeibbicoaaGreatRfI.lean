/- The document's disk: Sync, SyncAll, Remove, Rename. -/
import Derived.Test.YtomfcgeibbicoaaGreatRfH
import Derived.Test.YtomfcgeibbicoaaGreatDk1
namespace Go.Proofs.YtomfcgeibbicoaaGreat
open Go.RowKit
theorem TpsV.addr {F : Nat → Prop} {w : World} {A : Option Addr} {n c i : Nat} {l : List TpV} (h : TpsV F w (.slice A n c) l) (hi : i < n) : ∃ b o, A = some ⟨b, o, none⟩ := by
  obtain ⟨b, o, e, _⟩ := h.row.2.2 (by omega)
  exact ⟨b, o, e⟩
theorem TpsV.at {F : Nat → Prop} {w : World} {b o n c i : Nat} {l : List TpV} {t : TpV} (h : TpsV F w (.slice (some ⟨b, o, none⟩) n c) l) (ht : l[i]? = some t) : w.cell? ⟨b, o + i * 2, none⟩ = some (.string t.kp) ∧ w.cell? ⟨b, o + i * 2 + 1, none⟩ = some (.string t.nw) := by
  obtain ⟨hi, e⟩ := List.getElem?_eq_some_iff.1 ht
  obtain ⟨b', o', e', h1, h2⟩ := h.row.2.tp hi
  injection e' with e'
  injection e' with e1 e2
  subst e1; subst e2
  rw [e] at h1 h2
  exact ⟨h1, h2⟩
theorem tapeAt_some {Q : DkV} {i : Nat} {t : TpV} (h : Q.tapes[i]? = some t) : Q.tapeAt ((i : Int) + 1) = t := by
  unfold DkV.tapeAt
  rw [show ((i : Int) + 1 - 1).toNat = i by omega, List.getD_eq_getElem?_getD, h]; rfl
set_option maxHeartbeats 2000000 in
set_option maxRecDepth 100000 in
theorem rsyncT_calls {F : Nat → Prop} {w : World} {Q : DkV} {tv sl : Value} {M : Nat} (s : ByteArray) (h : RdV F w Q tv sl) (ho : Q.Ok M) (hM : M ≤ 800000) (hi : Idz Q) (hF : ∀ k, F k → k < w.heap.size) :
    Calls Tryz.prog 173 #[.agg (Q.rcs tv sl).toArray, .string s] w fun e w' => OpR F w (Q.syncT s) w' e := by
  obtain ⟨tA, tc, sB, sn, sd, rfl, rfl⟩ := h.shape
  obtain ⟨tm, htm⟩ : ∃ m, m = Q.tapes.length := ⟨_, rfl⟩
  rw [← htm] at h ⊢
  have hX := ex_two w (.cells (Q.rcs (.slice tA tm tc) (.slice sB sn sd)).toArray 40) (.cells zeroD.toArray 40)
  have hB := (Blk.new w (Q.rcs (.slice tA tm tc) (.slice sB sn sd)) 40).ex (ex_alloc (Ex.refl _) (.cells zeroD.toArray 40))
  have HK0 := Lib.hid (blk_two w (.cells (Q.rcs (.slice tA tm tc) (.slice sB sn sd)).toArray 40) zeroD 40)
  obtain ⟨G, hG, eG⟩ := Grow.mk2 hX hF
  have HG := Lib.hid hG
  have HG0 := Lib.hid (hG.new w.heap.size (Nat.le_refl _) (by simp; omega))
  have HG1 := Lib.hid (hG.new (w.heap.size + 1) (Nat.le_succ _) (by simp))
  have HR0 := Lib.hid (hG.rd eG h)
  have HB0 := Lib.hid hB
  have HX0 := Lib.hid hX
  have HF0 := Lib.hid hG.lt
  have HRw := Lib.hid h
  have HI := Lib.hid hi
  have HO := Lib.hid ho
  have HOD := Lib.hid disk_one
  have hle := Nat.le_refl w.heap.size
  have hle1 := Nat.le_succ w.heap.size
  have hne1 : w.heap.size + 1 ≠ w.heap.size := by omega
  have htl : tm ≤ 800000 := by have := ho.tl; omega
  have hcalls : Q.calls ≤ 1000000 := by have := ho.cl; omega
  have HTM := Lib.hid htm
  clear h ho hi hX hB hG eG htm hF
  obtain ⟨qsec, qts, qfo, ⟨qp, qs, qd, qoff⟩, qcalls⟩ := Q
  cases qoff
  case true =>
    have HE := Lib.hid (show (⟨qsec, qts, qfo, ⟨qp, qs, qd, true⟩, qcalls⟩ : DkV).syncT s = ((⟨qsec, qts, qfo, ⟨qp, qs, qd, true⟩, qcalls⟩ : DkV), 14) from by unfold DkV.syncT; rw [if_pos rfl])
    unfold DkV.rcs
    go_enter Tryz.func173, Tryz.ntmps173
    go_wp2_with fail
    (try simp only [Exit.inBlock, Exit.then])
    refine bodyPost_ret (ret_agg2 rfl _ _ (w.heap.size + 1) ((⟨qsec, qts, qfo, ⟨qp, qs, qd, true⟩, qcalls⟩ : DkV).rcs (.slice tA tm tc) (.slice sB sn sd)) rfl (blk_two _ _ _ _) Tryz.underlying40 info_d11) rfl ?_
    rw [HE.out]
    exact ⟨_, _, rfl, HRw.out.ex (ex_two _ _ _), ex_two _ _ _⟩
  obtain ⟨Q1, hQ1⟩ : ∃ Q1, Q1 = ((⟨qsec, qts, qfo, ⟨qp, qs, qd, false⟩, qcalls⟩ : DkV).ask true).1 := ⟨_, rfl⟩
  obtain ⟨qe, hQe⟩ : ∃ qe, qe = ((⟨qsec, qts, qfo, ⟨qp, qs, qd, false⟩, qcalls⟩ : DkV).ask true).2 := ⟨_, rfl⟩
  have HTp1 := Lib.hid (show Q1.tapes = (⟨qsec, qts, qfo, ⟨qp, qs, qd, false⟩, qcalls⟩ : DkV).tapes from by rw [hQ1]; rfl)
  have HFo1 := Lib.hid (show Q1.fo = (⟨qsec, qts, qfo, ⟨qp, qs, qd, false⟩, qcalls⟩ : DkV).fo from by rw [hQ1]; rfl)
  have HQE := Lib.hid hQe
  have HQ1 := Lib.hid hQ1
  clear hQe hQ1
  unfold DkV.rcs
  go_enter Tryz.func173, Tryz.ntmps173
  go_wp2_with fail
  refine (rdfind_calls s HR0.out HO.out.fo (by omega)).mono ?_
  rintro e w1 ⟨rfl, hb1⟩
  have HB1 := Lib.hid (HB0.out.ex hb1)
  have HK1 := Lib.hid (HK0.out.ex hb1)
  have HX1 := Lib.hid (HX0.out.trans hb1)
  have HR1 := Lib.hid (HR0.out.ex hb1)
  have HF1 := Lib.hid (fun k hk => Nat.lt_of_lt_of_le (HF0.out k hk) hb1.size)
  obtain ⟨x0, x1, x2, x3, x4, x5, x6, x7⟩ := rd_cells HB1.out
  clear hb1
  cases hf : (findM s (⟨qsec, qts, qfo, ⟨qp, qs, qd, false⟩, qcalls⟩ : DkV).fo.now).2
  · have HE := Lib.hid (show (⟨qsec, qts, qfo, ⟨qp, qs, qd, false⟩, qcalls⟩ : DkV).syncT s = ((⟨qsec, qts, qfo, ⟨qp, qs, qd, false⟩, qcalls⟩ : DkV), 8) from by unfold DkV.syncT; rw [if_neg Bool.false_ne_true, if_pos hf])
    rw [idOf_none hf]
    clear hf
    go_wp2_with (refine st_agg 40 rfl (.tmp 4) (.tmp 18) rfl (w.heap.size + 1) [.int .i64 0, .slice none 0 0, .slice none 0 0, .int .i64 0, .int .i64 0, .int .i64 0, .bool false, .int .i64 0] ((⟨qsec, qts, qfo, ⟨qp, qs, qd, false⟩, qcalls⟩ : DkV).rcs (.slice tA tm tc) (.slice sB sn sd)) rfl rfl info_d11 rfl (HOD.out _ _ _ _ _ _ _) HK1.out HX1.out hle1 ?_; intro wz kz Xz gz)
    (try simp only [Exit.inBlock, Exit.then])
    refine bodyPost_ret (ret_agg2 rfl _ _ (w.heap.size + 1) ((⟨qsec, qts, qfo, ⟨qp, qs, qd, false⟩, qcalls⟩ : DkV).rcs (.slice tA tm tc) (.slice sB sn sd)) rfl kz Tryz.underlying40 info_d11) rfl ?_
    rw [HE.out]
    exact opR rfl HR1.out gz HG1.out HG.out.of Xz
  obtain ⟨i, hi2, hid⟩ := HI.out.find hf
  obtain ⟨t, ht⟩ : ∃ t, (⟨qsec, qts, qfo, ⟨qp, qs, qd, false⟩, qcalls⟩ : DkV).tapes[i]? = some t := ⟨_, List.getElem?_eq_getElem hi2⟩
  have HT := Lib.hid ht
  have hit : i < tm := by rw [HTM.out]; exact hi2
  have hitI : (i : Int) < (tm : Int) := by omega
  have hid1 : (i : Int) + 1 - 1 = (i : Int) := by omega
  have hid0 : ¬ ((i : Int) + 1 = 0) := by omega
  have hid2 : decide ((i : Int) + 1 = 0) = false := decide_eq_false hid0
  have hid3 : ((i : Int) + 1 == 0) = false := beq_eq_false_iff_ne.2 hid0
  have HID := Lib.hid hid
  have HTA := Lib.hid (show (⟨qsec, qts, qfo, ⟨qp, qs, qd, false⟩, qcalls⟩ : DkV).tapeAt ((⟨qsec, qts, qfo, ⟨qp, qs, qd, false⟩, qcalls⟩ : DkV).idOf s) = t from by rw [hid]; exact tapeAt_some ht)
  obtain ⟨b2, o2, rfl⟩ := HR1.out.tp.addr hit
  rw [hid]
  clear ht hi2 hid
  go_wp2_with fail
  have HC := Lib.hid (show (⟨qsec, qts, qfo, ⟨qp, qs, qd, false⟩, qcalls⟩ : DkV).syncT s = if ((⟨qsec, qts, qfo, ⟨qp, qs, qd, false⟩, qcalls⟩ : DkV).ask true).2 = 0 then (((⟨qsec, qts, qfo, ⟨qp, qs, qd, false⟩, qcalls⟩ : DkV).ask true).1.setT ((⟨qsec, qts, qfo, ⟨qp, qs, qd, false⟩, qcalls⟩ : DkV).idOf s) ⟨((⟨qsec, qts, qfo, ⟨qp, qs, qd, false⟩, qcalls⟩ : DkV).tapeAt ((⟨qsec, qts, qfo, ⟨qp, qs, qd, false⟩, qcalls⟩ : DkV).idOf s)).nw, ((⟨qsec, qts, qfo, ⟨qp, qs, qd, false⟩, qcalls⟩ : DkV).tapeAt ((⟨qsec, qts, qfo, ⟨qp, qs, qd, false⟩, qcalls⟩ : DkV).idOf s)).nw⟩, 0) else (⟨qsec, qts, qfo, ⟨qp, qs, qd, false⟩, qcalls⟩ : DkV).ask true from by unfold DkV.syncT; rw [if_neg Bool.false_ne_true, if_neg (by rw [hf]; simp)])
  clear hf
  refine (rask_calls true HR1.out HO.out.fu hcalls).mono ?_
  rintro e w2 ⟨rfl, hb2⟩
  clear x0 x1 x2 x3 x4 x5 x6 x7
  have HB2 := Lib.hid (HB1.out.ex hb2)
  have HK2 := Lib.hid (HK1.out.ex hb2)
  have HX2 := Lib.hid (HX1.out.trans hb2)
  have HR2 := Lib.hid (HR1.out.ex hb2)
  have HF2 := Lib.hid (fun k hk => Nat.lt_of_lt_of_le (HF1.out k hk) hb2.size)
  clear hb2
  rw [← HQ1.out, ← HQE.out]
  unfold DkV.rcs
  by_cases hq0 : ¬ qe = 0
  · have HE := Lib.hid (show (⟨qsec, qts, qfo, ⟨qp, qs, qd, false⟩, qcalls⟩ : DkV).syncT s = (Q1, qe) from by rw [HC.out, if_neg (by rw [← HQE.out]; exact hq0), HQ1.out, HQE.out])
    have q1 : decide (qe = 0) = false := decide_eq_false hq0
    have q2 : (qe == 0) = false := beq_eq_false_iff_ne.2 hq0
    have q3 : (qe != 0) = true := by rw [bne, q2]; rfl
    go_wp2_with (first
      | (refine st_agg 40 rfl (.tmp 2) (.tmp 22) rfl w.heap.size ((⟨qsec, qts, qfo, ⟨qp, qs, qd, false⟩, qcalls⟩ : DkV).rcs (.slice (some ⟨b2, o2, none⟩) tm tc) (.slice sB sn sd)) [.int .i64 Q1.sec, (.slice (some ⟨b2, o2, none⟩) tm tc), (.slice sB sn sd), .int .i64 Q1.fu.p, .int .i64 Q1.fu.s, .int .i64 Q1.fu.d, .bool Q1.fu.off, .int .i64 (Q1.calls : Int)] rfl rfl info_d11 rfl (HOD.out _ _ _ _ _ _ _) HB2.out HX2.out hle ?_; intro w3 k3 X3 g3; have HB3 := Lib.hid k3; have HX3 := Lib.hid X3; have HK3 := Lib.hid (HK2.out.grown g3 (ne_some hne1)); have HR3 := Lib.hid (((HR2.out.offs (off_grown g3) (same_blk HG0.out)).same (Q' := Q1) HTp1.out HFo1.out)); have HF3 := Lib.hid (fun k hk => Nat.lt_of_lt_of_le (HF2.out k hk) g3.size); obtain ⟨x0, x1, x2, x3, x4, x5, x6, x7⟩ := rd_cells (Q := Q1) (tv := (.slice (some ⟨b2, o2, none⟩) tm tc)) (sl := (.slice sB sn sd)) k3; clear k3 X3 g3; obtain ⟨ck, cn⟩ := HR3.out.tp.at (show Q1.tapes[i]? = some t from by rw [HTp1.out]; exact HT.out))
      | (refine st_agg 40 rfl (.tmp 4) (.tmp 26) rfl (w.heap.size + 1) [.int .i64 0, .slice none 0 0, .slice none 0 0, .int .i64 0, .int .i64 0, .int .i64 0, .bool false, .int .i64 0] [.int .i64 Q1.sec, (.slice (some ⟨b2, o2, none⟩) tm tc), (.slice sB sn sd), .int .i64 Q1.fu.p, .int .i64 Q1.fu.s, .int .i64 Q1.fu.d, .bool Q1.fu.off, .int .i64 (Q1.calls : Int)] rfl rfl info_d11 rfl (HOD.out Q1 _ _ _ _ _ _) HK3.out HX3.out hle1 ?_; intro wz kz Xz gz))
    (try simp only [Exit.inBlock, Exit.then])
    refine bodyPost_ret (ret_agg2 rfl _ _ (w.heap.size + 1) [.int .i64 Q1.sec, (.slice (some ⟨b2, o2, none⟩) tm tc), (.slice sB sn sd), .int .i64 Q1.fu.p, .int .i64 Q1.fu.s, .int .i64 Q1.fu.d, .bool Q1.fu.off, .int .i64 (Q1.calls : Int)] rfl kz Tryz.underlying40 info_d11) rfl ?_
    rw [HE.out]
    exact opR (Q := Q1) rfl HR3.out gz HG1.out HG.out.of Xz
  replace hq0 : qe = 0 := Classical.byContradiction hq0
  have HE := Lib.hid (show (⟨qsec, qts, qfo, ⟨qp, qs, qd, false⟩, qcalls⟩ : DkV).syncT s = (Q1.setT ((i : Int) + 1) ⟨t.nw, t.nw⟩, 0) from by rw [HC.out, if_pos (by rw [← HQE.out]; exact hq0), HTA.out, HID.out, ← HQ1.out])
  subst hq0
  go_wp2_with (refine st_agg 40 rfl (.tmp 2) (.tmp 22) rfl w.heap.size ((⟨qsec, qts, qfo, ⟨qp, qs, qd, false⟩, qcalls⟩ : DkV).rcs (.slice (some ⟨b2, o2, none⟩) tm tc) (.slice sB sn sd)) [.int .i64 Q1.sec, (.slice (some ⟨b2, o2, none⟩) tm tc), (.slice sB sn sd), .int .i64 Q1.fu.p, .int .i64 Q1.fu.s, .int .i64 Q1.fu.d, .bool Q1.fu.off, .int .i64 (Q1.calls : Int)] rfl rfl info_d11 rfl (HOD.out _ _ _ _ _ _ _) HB2.out HX2.out hle ?_; intro w3 k3 X3 g3; have HB3 := Lib.hid k3; have HX3 := Lib.hid X3; have HK3 := Lib.hid (HK2.out.grown g3 (ne_some hne1)); have HR3 := Lib.hid (((HR2.out.offs (off_grown g3) (same_blk HG0.out)).same (Q' := Q1) HTp1.out HFo1.out)); have HF3 := Lib.hid (fun k hk => Nat.lt_of_lt_of_le (HF2.out k hk) g3.size); obtain ⟨x0, x1, x2, x3, x4, x5, x6, x7⟩ := rd_cells (Q := Q1) (tv := (.slice (some ⟨b2, o2, none⟩) tm tc)) (sl := (.slice sB sn sd)) k3; clear k3 X3 g3; obtain ⟨ck, cn⟩ := HR3.out.tp.at (show Q1.tapes[i]? = some t from by rw [HTp1.out]; exact HT.out))
  refine (rtape_calls (F := G) ⟨t.nw, t.nw⟩ i HR3.out (by rw [HTp1.out, ← HTM.out]; exact hit) (by rw [HTp1.out, ← HTM.out]; omega) HF3.out).mono ?_
  rintro e w4 ⟨tv4, rfl, ht4, hb4⟩
  obtain ⟨A4, c4, rfl⟩ : ∃ A c, tv4 = .slice A tm c := by obtain ⟨A, c, e⟩ := ht4.shape; exact ⟨A, c, by rw [e, List.length_set, HTp1.out, HTM.out]⟩
  clear x0 x1 x2 x3 x4 x5 x6 x7 ck cn
  have HK4 := Lib.hid (HK3.out.ex hb4)
  have HX4 := Lib.hid (HX3.out.trans hb4)
  have HR4 := Lib.hid (show RdV G w4 (Q1.setT ((i : Int) + 1) ⟨t.nw, t.nw⟩) (.slice A4 tm c4) (.slice sB sn sd) from ⟨by rw [rsetT_at]; exact ht4, HR3.out.fo.ex hb4⟩)
  clear ht4 hb4
  rw [rsetT_at]
  unfold DkV.rcs
  go_wp2_with (refine st_agg 40 rfl (.tmp 4) (.tmp 40) rfl (w.heap.size + 1) [.int .i64 0, .slice none 0 0, .slice none 0 0, .int .i64 0, .int .i64 0, .int .i64 0, .bool false, .int .i64 0] [.int .i64 Q1.sec, (.slice A4 tm c4), (.slice sB sn sd), .int .i64 Q1.fu.p, .int .i64 Q1.fu.s, .int .i64 Q1.fu.d, .bool Q1.fu.off, .int .i64 (Q1.calls : Int)] rfl rfl info_d11 rfl (HOD.out Q1 _ _ _ _ _ _) HK4.out HX4.out hle1 ?_; intro wz kz Xz gz)
  (try simp only [Exit.inBlock, Exit.then])
  refine bodyPost_ret (ret_agg2 rfl _ _ (w.heap.size + 1) [.int .i64 Q1.sec, (.slice A4 tm c4), (.slice sB sn sd), .int .i64 Q1.fu.p, .int .i64 Q1.fu.s, .int .i64 Q1.fu.d, .bool Q1.fu.off, .int .i64 (Q1.calls : Int)] rfl kz Tryz.underlying40 info_d11) rfl ?_
  rw [HE.out]
  exact opR (Q := Q1.setT ((i : Int) + 1) ⟨t.nw, t.nw⟩) (tv := .slice A4 tm c4) (sl := (.slice sB sn sd)) (by rw [rsetT_at]; rfl) HR4.out gz HG1.out HG.out.of Xz
set_option maxHeartbeats 2000000 in
set_option maxRecDepth 100000 in
theorem rsyncAll_calls {F : Nat → Prop} {w : World} {Q : DkV} {tv sl : Value} {M : Nat}  (h : RdV F w Q tv sl) (ho : Q.Ok M) (hM : M ≤ 800000) (hi : Idz Q) (hF : ∀ k, F k → k < w.heap.size) :
    Calls Tryz.prog 61 #[.agg (Q.rcs tv sl).toArray] w fun e w' => OpR F w (Q.syncAll) w' e := by
  obtain ⟨tA, tc, sB, sn, sd, rfl, rfl⟩ := h.shape
  obtain ⟨tm, htm⟩ : ∃ m, m = Q.tapes.length := ⟨_, rfl⟩
  rw [← htm] at h ⊢
  have hX := ex_two w (.cells (Q.rcs (.slice tA tm tc) (.slice sB sn sd)).toArray 40) (.cells zeroD.toArray 40)
  have hB := (Blk.new w (Q.rcs (.slice tA tm tc) (.slice sB sn sd)) 40).ex (ex_alloc (Ex.refl _) (.cells zeroD.toArray 40))
  have HK0 := Lib.hid (blk_two w (.cells (Q.rcs (.slice tA tm tc) (.slice sB sn sd)).toArray 40) zeroD 40)
  obtain ⟨G, hG, eG⟩ := Grow.mk2 hX hF
  have HG := Lib.hid hG
  have HG0 := Lib.hid (hG.new w.heap.size (Nat.le_refl _) (by simp; omega))
  have HG1 := Lib.hid (hG.new (w.heap.size + 1) (Nat.le_succ _) (by simp))
  have HR0 := Lib.hid (hG.rd eG h)
  have HB0 := Lib.hid hB
  have HX0 := Lib.hid hX
  have HF0 := Lib.hid hG.lt
  have HRw := Lib.hid h
  have HI := Lib.hid hi
  have HO := Lib.hid ho
  have HOD := Lib.hid disk_one
  have hle := Nat.le_refl w.heap.size
  have hle1 := Nat.le_succ w.heap.size
  have hne1 : w.heap.size + 1 ≠ w.heap.size := by omega
  have htl : tm ≤ 800000 := by have := ho.tl; omega
  have hcalls : Q.calls ≤ 1000000 := by have := ho.cl; omega
  have HTM := Lib.hid htm
  clear h ho hi hX hB hG eG htm hF
  obtain ⟨qsec, qts, qfo, ⟨qp, qs, qd, qoff⟩, qcalls⟩ := Q
  cases qoff
  case true =>
    have HE := Lib.hid (show (⟨qsec, qts, qfo, ⟨qp, qs, qd, true⟩, qcalls⟩ : DkV).syncAll = ((⟨qsec, qts, qfo, ⟨qp, qs, qd, true⟩, qcalls⟩ : DkV), 14) from by unfold DkV.syncAll; rw [if_pos rfl])
    unfold DkV.rcs
    go_enter Tryz.func61, Tryz.ntmps61
    go_wp2_with fail
    (try simp only [Exit.inBlock, Exit.then])
    refine bodyPost_ret (ret_agg2 rfl _ _ (w.heap.size + 1) ((⟨qsec, qts, qfo, ⟨qp, qs, qd, true⟩, qcalls⟩ : DkV).rcs (.slice tA tm tc) (.slice sB sn sd)) rfl (blk_two _ _ _ _) Tryz.underlying40 info_d11) rfl ?_
    rw [HE.out]
    exact ⟨_, _, rfl, HRw.out.ex (ex_two _ _ _), ex_two _ _ _⟩
  obtain ⟨Q1, hQ1⟩ : ∃ Q1, Q1 = ((⟨qsec, qts, qfo, ⟨qp, qs, qd, false⟩, qcalls⟩ : DkV).ask true).1 := ⟨_, rfl⟩
  obtain ⟨qe, hQe⟩ : ∃ qe, qe = ((⟨qsec, qts, qfo, ⟨qp, qs, qd, false⟩, qcalls⟩ : DkV).ask true).2 := ⟨_, rfl⟩
  have HTp1 := Lib.hid (show Q1.tapes = (⟨qsec, qts, qfo, ⟨qp, qs, qd, false⟩, qcalls⟩ : DkV).tapes from by rw [hQ1]; rfl)
  have HFo1 := Lib.hid (show Q1.fo = (⟨qsec, qts, qfo, ⟨qp, qs, qd, false⟩, qcalls⟩ : DkV).fo from by rw [hQ1]; rfl)
  have HQE := Lib.hid hQe
  have HQ1 := Lib.hid hQ1
  clear hQe hQ1
  unfold DkV.rcs
  go_enter Tryz.func61, Tryz.ntmps61
  go_wp2_with fail
  have HC := Lib.hid (show (⟨qsec, qts, qfo, ⟨qp, qs, qd, false⟩, qcalls⟩ : DkV).syncAll = if ((⟨qsec, qts, qfo, ⟨qp, qs, qd, false⟩, qcalls⟩ : DkV).ask true).2 = 0 then ({ ((⟨qsec, qts, qfo, ⟨qp, qs, qd, false⟩, qcalls⟩ : DkV).ask true).1 with fo := (⟨qsec, qts, qfo, ⟨qp, qs, qd, false⟩, qcalls⟩ : DkV).fo.sync }, 0) else (⟨qsec, qts, qfo, ⟨qp, qs, qd, false⟩, qcalls⟩ : DkV).ask true from by unfold DkV.syncAll; rw [if_neg Bool.false_ne_true])
  refine (rask_calls true HR0.out HO.out.fu hcalls).mono ?_
  rintro e w1 ⟨rfl, hb1⟩
  have HB1 := Lib.hid (HB0.out.ex hb1)
  have HK1 := Lib.hid (HK0.out.ex hb1)
  have HX1 := Lib.hid (HX0.out.trans hb1)
  have HR1 := Lib.hid (HR0.out.ex hb1)
  have HF1 := Lib.hid (fun k hk => Nat.lt_of_lt_of_le (HF0.out k hk) hb1.size)
  clear hb1
  rw [← HQ1.out, ← HQE.out]
  unfold DkV.rcs
  by_cases hq0 : ¬ qe = 0
  · have HE := Lib.hid (show (⟨qsec, qts, qfo, ⟨qp, qs, qd, false⟩, qcalls⟩ : DkV).syncAll = (Q1, qe) from by rw [HC.out, if_neg (by rw [← HQE.out]; exact hq0), HQ1.out, HQE.out])
    have q1 : decide (qe = 0) = false := decide_eq_false hq0
    have q2 : (qe == 0) = false := beq_eq_false_iff_ne.2 hq0
    have q3 : (qe != 0) = true := by rw [bne, q2]; rfl
    go_wp2_with (first
      | (refine st_agg 40 rfl (.tmp 1) (.tmp 12) rfl w.heap.size ((⟨qsec, qts, qfo, ⟨qp, qs, qd, false⟩, qcalls⟩ : DkV).rcs (.slice tA tm tc) (.slice sB sn sd)) [.int .i64 Q1.sec, (.slice tA tm tc), (.slice sB sn sd), .int .i64 Q1.fu.p, .int .i64 Q1.fu.s, .int .i64 Q1.fu.d, .bool Q1.fu.off, .int .i64 (Q1.calls : Int)] rfl rfl info_d11 rfl (HOD.out _ _ _ _ _ _ _) HB1.out HX1.out hle ?_; intro w2 k2 X2 g2; have HB2 := Lib.hid k2; have HX2 := Lib.hid X2; have HK2 := Lib.hid (HK1.out.grown g2 (ne_some hne1)); have HR2 := Lib.hid (((HR1.out.offs (off_grown g2) (same_blk HG0.out)).same (Q' := Q1) HTp1.out HFo1.out)); have HF2 := Lib.hid (fun k hk => Nat.lt_of_lt_of_le (HF1.out k hk) g2.size); obtain ⟨x0, x1, x2, x3, x4, x5, x6, x7⟩ := rd_cells (Q := Q1) (tv := (.slice tA tm tc)) (sl := (.slice sB sn sd)) k2; clear k2 X2 g2)
      | (refine st_agg 40 rfl (.tmp 2) (.tmp 20) rfl (w.heap.size + 1) [.int .i64 0, .slice none 0 0, .slice none 0 0, .int .i64 0, .int .i64 0, .int .i64 0, .bool false, .int .i64 0] [.int .i64 Q1.sec, (.slice tA tm tc), (.slice sB sn sd), .int .i64 Q1.fu.p, .int .i64 Q1.fu.s, .int .i64 Q1.fu.d, .bool Q1.fu.off, .int .i64 (Q1.calls : Int)] rfl rfl info_d11 rfl (HOD.out Q1 _ _ _ _ _ _) HK2.out HX2.out hle1 ?_; intro wz kz Xz gz))
    (try simp only [Exit.inBlock, Exit.then])
    refine bodyPost_ret (ret_agg2 rfl _ _ (w.heap.size + 1) [.int .i64 Q1.sec, (.slice tA tm tc), (.slice sB sn sd), .int .i64 Q1.fu.p, .int .i64 Q1.fu.s, .int .i64 Q1.fu.d, .bool Q1.fu.off, .int .i64 (Q1.calls : Int)] rfl kz Tryz.underlying40 info_d11) rfl ?_
    rw [HE.out]
    exact opR (Q := Q1) rfl HR2.out gz HG1.out HG.out.of Xz
  replace hq0 : qe = 0 := Classical.byContradiction hq0
  have HE := Lib.hid (show (⟨qsec, qts, qfo, ⟨qp, qs, qd, false⟩, qcalls⟩ : DkV).syncAll = (({ Q1 with fo := Q1.fo.sync } : DkV), 0) from by rw [HC.out, if_pos (by rw [← HQE.out]; exact hq0), HFo1.out, ← HQ1.out])
  subst hq0
  have hf2 : 2 + 1 ≤ 8 := by decide
  go_wp2_with (refine st_agg 40 rfl (.tmp 1) (.tmp 12) rfl w.heap.size ((⟨qsec, qts, qfo, ⟨qp, qs, qd, false⟩, qcalls⟩ : DkV).rcs (.slice tA tm tc) (.slice sB sn sd)) [.int .i64 Q1.sec, (.slice tA tm tc), (.slice sB sn sd), .int .i64 Q1.fu.p, .int .i64 Q1.fu.s, .int .i64 Q1.fu.d, .bool Q1.fu.off, .int .i64 (Q1.calls : Int)] rfl rfl info_d11 rfl (HOD.out _ _ _ _ _ _ _) HB1.out HX1.out hle ?_; intro w2 k2 X2 g2; have HB2 := Lib.hid k2; have HX2 := Lib.hid X2; have HK2 := Lib.hid (HK1.out.grown g2 (ne_some hne1)); have HR2 := Lib.hid (((HR1.out.offs (off_grown g2) (same_blk HG0.out)).same (Q' := Q1) HTp1.out HFo1.out)); have HF2 := Lib.hid (fun k hk => Nat.lt_of_lt_of_le (HF1.out k hk) g2.size); obtain ⟨x0, x1, x2, x3, x4, x5, x6, x7⟩ := rd_cells (Q := Q1) (tv := (.slice tA tm tc)) (sl := (.slice sB sn sd)) k2; clear k2 X2 g2)
  refine (rfsync_calls (F := G) (q := Q1.fo) HR2.out.fo (by rw [HFo1.out]; show qfo.ch.length ≤ _; have : qfo.kept.length + qfo.ch.length ≤ M := HO.out.fo.kl; omega) HF2.out).mono ?_
  rintro e w3 ⟨sl3, rfl, hl3, hb3⟩
  obtain ⟨B3, n3, d3, rfl⟩ := hl3.shape
  clear x0 x1 x2 x3 x4 x5 x6 x7
  have HB3 := Lib.hid (HB2.out.ex hb3)
  have HK3 := Lib.hid (HK2.out.ex hb3)
  have HX3 := Lib.hid (HX2.out.trans hb3)
  have HR3 := Lib.hid (show RdV G w3 (({ Q1 with fo := Q1.fo.sync } : DkV)) (.slice tA tm tc) (.slice B3 n3 d3) from ⟨HR2.out.tp.ex hb3, hl3⟩)
  clear hl3 hb3
  go_wp2_with (first
    | (refine st_at 36 40 rfl (.tmp 19) (.tmp 18) rfl w.heap.size 2 _ [.int .i64 Q1.sec, (.slice tA tm tc), (.slice B3 n3 d3), .int .i64 Q1.fu.p, .int .i64 Q1.fu.s, .int .i64 Q1.fu.d, .bool Q1.fu.off, .int .i64 (Q1.calls : Int)] [.slice B3 n3 d3] _ rfl rfl HB3.out rfl info_f9 rfl hf2 (one_sl _ _ _) HX3.out hle ?_; intro w4 k4 X4 g4; have HX4 := Lib.hid X4; have HK4 := Lib.hid (HK3.out.grown g4 (ne_some hne1)); have HR4 := Lib.hid (HR3.out.offs (off_grown g4) (same_blk HG0.out)); obtain ⟨x0, x1, x2, x3, x4, x5, x6, x7⟩ := rd_cells (Q := Q1) (tv := (.slice tA tm tc)) (sl := .slice B3 n3 d3) k4; clear k4 X4 g4)
    | (refine st_agg 40 rfl (.tmp 2) (.tmp 20) rfl (w.heap.size + 1) [.int .i64 0, .slice none 0 0, .slice none 0 0, .int .i64 0, .int .i64 0, .int .i64 0, .bool false, .int .i64 0] [.int .i64 Q1.sec, (.slice tA tm tc), (.slice B3 n3 d3), .int .i64 Q1.fu.p, .int .i64 Q1.fu.s, .int .i64 Q1.fu.d, .bool Q1.fu.off, .int .i64 (Q1.calls : Int)] rfl rfl info_d11 rfl (HOD.out Q1 _ _ _ _ _ _) HK4.out HX4.out hle1 ?_; intro wz kz Xz gz))
  (try simp only [Exit.inBlock, Exit.then])
  refine bodyPost_ret (ret_agg2 rfl _ _ (w.heap.size + 1) [.int .i64 Q1.sec, (.slice tA tm tc), (.slice B3 n3 d3), .int .i64 Q1.fu.p, .int .i64 Q1.fu.s, .int .i64 Q1.fu.d, .bool Q1.fu.off, .int .i64 (Q1.calls : Int)] rfl kz Tryz.underlying40 info_d11) rfl ?_
  rw [HE.out]
  exact opR (Q := ({ Q1 with fo := Q1.fo.sync } : DkV)) rfl HR4.out gz HG1.out HG.out.of Xz
set_option maxHeartbeats 2000000 in
set_option maxRecDepth 100000 in
theorem rremove_calls {F : Nat → Prop} {w : World} {Q : DkV} {tv sl : Value} {M : Nat} (s : ByteArray) (h : RdV F w Q tv sl) (ho : Q.Ok M) (hM : M ≤ 800000) (hi : Idz Q) (hF : ∀ k, F k → k < w.heap.size) :
    Calls Tryz.prog 60 #[.agg (Q.rcs tv sl).toArray, .string s] w fun e w' => OpR F w (Q.remove s) w' e := by
  obtain ⟨tA, tc, sB, sn, sd, rfl, rfl⟩ := h.shape
  obtain ⟨tm, htm⟩ : ∃ m, m = Q.tapes.length := ⟨_, rfl⟩
  rw [← htm] at h ⊢
  have hX := ex_two w (.cells (Q.rcs (.slice tA tm tc) (.slice sB sn sd)).toArray 40) (.cells zeroD.toArray 40)
  have hB := (Blk.new w (Q.rcs (.slice tA tm tc) (.slice sB sn sd)) 40).ex (ex_alloc (Ex.refl _) (.cells zeroD.toArray 40))
  have HK0 := Lib.hid (blk_two w (.cells (Q.rcs (.slice tA tm tc) (.slice sB sn sd)).toArray 40) zeroD 40)
  obtain ⟨G, hG, eG⟩ := Grow.mk2 hX hF
  have HG := Lib.hid hG
  have HG0 := Lib.hid (hG.new w.heap.size (Nat.le_refl _) (by simp; omega))
  have HG1 := Lib.hid (hG.new (w.heap.size + 1) (Nat.le_succ _) (by simp))
  have HR0 := Lib.hid (hG.rd eG h)
  have HB0 := Lib.hid hB
  have HX0 := Lib.hid hX
  have HF0 := Lib.hid hG.lt
  have HRw := Lib.hid h
  have HI := Lib.hid hi
  have HO := Lib.hid ho
  have HOD := Lib.hid disk_one
  have hle := Nat.le_refl w.heap.size
  have hle1 := Nat.le_succ w.heap.size
  have hne1 : w.heap.size + 1 ≠ w.heap.size := by omega
  have htl : tm ≤ 800000 := by have := ho.tl; omega
  have hcalls : Q.calls ≤ 1000000 := by have := ho.cl; omega
  have HTM := Lib.hid htm
  clear h ho hi hX hB hG eG htm hF
  obtain ⟨qsec, qts, qfo, ⟨qp, qs, qd, qoff⟩, qcalls⟩ := Q
  cases qoff
  case true =>
    have HE := Lib.hid (show (⟨qsec, qts, qfo, ⟨qp, qs, qd, true⟩, qcalls⟩ : DkV).remove s = ((⟨qsec, qts, qfo, ⟨qp, qs, qd, true⟩, qcalls⟩ : DkV), 14) from by unfold DkV.remove; rw [if_pos rfl])
    unfold DkV.rcs
    go_enter Tryz.func60, Tryz.ntmps60
    go_wp2_with fail
    (try simp only [Exit.inBlock, Exit.then])
    refine bodyPost_ret (ret_agg2 rfl _ _ (w.heap.size + 1) ((⟨qsec, qts, qfo, ⟨qp, qs, qd, true⟩, qcalls⟩ : DkV).rcs (.slice tA tm tc) (.slice sB sn sd)) rfl (blk_two _ _ _ _) Tryz.underlying40 info_d11) rfl ?_
    rw [HE.out]
    exact ⟨_, _, rfl, HRw.out.ex (ex_two _ _ _), ex_two _ _ _⟩
  obtain ⟨Q1, hQ1⟩ : ∃ Q1, Q1 = ((⟨qsec, qts, qfo, ⟨qp, qs, qd, false⟩, qcalls⟩ : DkV).ask false).1 := ⟨_, rfl⟩
  obtain ⟨qe, hQe⟩ : ∃ qe, qe = ((⟨qsec, qts, qfo, ⟨qp, qs, qd, false⟩, qcalls⟩ : DkV).ask false).2 := ⟨_, rfl⟩
  have HTp1 := Lib.hid (show Q1.tapes = (⟨qsec, qts, qfo, ⟨qp, qs, qd, false⟩, qcalls⟩ : DkV).tapes from by rw [hQ1]; rfl)
  have HFo1 := Lib.hid (show Q1.fo = (⟨qsec, qts, qfo, ⟨qp, qs, qd, false⟩, qcalls⟩ : DkV).fo from by rw [hQ1]; rfl)
  have HQE := Lib.hid hQe
  have HQ1 := Lib.hid hQ1
  clear hQe hQ1
  unfold DkV.rcs
  go_enter Tryz.func60, Tryz.ntmps60
  go_wp2_with fail
  refine (rdfind_calls s HR0.out HO.out.fo (by omega)).mono ?_
  rintro e w1 ⟨rfl, hb1⟩
  have HB1 := Lib.hid (HB0.out.ex hb1)
  have HK1 := Lib.hid (HK0.out.ex hb1)
  have HX1 := Lib.hid (HX0.out.trans hb1)
  have HR1 := Lib.hid (HR0.out.ex hb1)
  have HF1 := Lib.hid (fun k hk => Nat.lt_of_lt_of_le (HF0.out k hk) hb1.size)
  obtain ⟨x0, x1, x2, x3, x4, x5, x6, x7⟩ := rd_cells HB1.out
  clear hb1
  cases hf : (findM s (⟨qsec, qts, qfo, ⟨qp, qs, qd, false⟩, qcalls⟩ : DkV).fo.now).2
  · have HE := Lib.hid (show (⟨qsec, qts, qfo, ⟨qp, qs, qd, false⟩, qcalls⟩ : DkV).remove s = ((⟨qsec, qts, qfo, ⟨qp, qs, qd, false⟩, qcalls⟩ : DkV), 8) from by unfold DkV.remove; rw [if_neg Bool.false_ne_true, if_pos hf])
    rw [idOf_none hf]
    clear hf
    go_wp2_with (refine st_agg 40 rfl (.tmp 4) (.tmp 15) rfl (w.heap.size + 1) [.int .i64 0, .slice none 0 0, .slice none 0 0, .int .i64 0, .int .i64 0, .int .i64 0, .bool false, .int .i64 0] ((⟨qsec, qts, qfo, ⟨qp, qs, qd, false⟩, qcalls⟩ : DkV).rcs (.slice tA tm tc) (.slice sB sn sd)) rfl rfl info_d11 rfl (HOD.out _ _ _ _ _ _ _) HK1.out HX1.out hle1 ?_; intro wz kz Xz gz)
    (try simp only [Exit.inBlock, Exit.then])
    refine bodyPost_ret (ret_agg2 rfl _ _ (w.heap.size + 1) ((⟨qsec, qts, qfo, ⟨qp, qs, qd, false⟩, qcalls⟩ : DkV).rcs (.slice tA tm tc) (.slice sB sn sd)) rfl kz Tryz.underlying40 info_d11) rfl ?_
    rw [HE.out]
    exact opR rfl HR1.out gz HG1.out HG.out.of Xz
  obtain ⟨i, hi2, hid⟩ := HI.out.find hf
  obtain ⟨t, ht⟩ : ∃ t, (⟨qsec, qts, qfo, ⟨qp, qs, qd, false⟩, qcalls⟩ : DkV).tapes[i]? = some t := ⟨_, List.getElem?_eq_getElem hi2⟩
  have HT := Lib.hid ht
  have hit : i < tm := by rw [HTM.out]; exact hi2
  have hitI : (i : Int) < (tm : Int) := by omega
  have hid1 : (i : Int) + 1 - 1 = (i : Int) := by omega
  have hid0 : ¬ ((i : Int) + 1 = 0) := by omega
  have hid2 : decide ((i : Int) + 1 = 0) = false := decide_eq_false hid0
  have hid3 : ((i : Int) + 1 == 0) = false := beq_eq_false_iff_ne.2 hid0
  have HID := Lib.hid hid
  have HTA := Lib.hid (show (⟨qsec, qts, qfo, ⟨qp, qs, qd, false⟩, qcalls⟩ : DkV).tapeAt ((⟨qsec, qts, qfo, ⟨qp, qs, qd, false⟩, qcalls⟩ : DkV).idOf s) = t from by rw [hid]; exact tapeAt_some ht)
  obtain ⟨b2, o2, rfl⟩ := HR1.out.tp.addr hit
  rw [hid]
  clear ht hi2 hid
  go_wp2_with fail
  have HC := Lib.hid (show (⟨qsec, qts, qfo, ⟨qp, qs, qd, false⟩, qcalls⟩ : DkV).remove s = if ((⟨qsec, qts, qfo, ⟨qp, qs, qd, false⟩, qcalls⟩ : DkV).ask false).2 = 0 then ({ ((⟨qsec, qts, qfo, ⟨qp, qs, qd, false⟩, qcalls⟩ : DkV).ask false).1 with fo := ((⟨qsec, qts, qfo, ⟨qp, qs, qd, false⟩, qcalls⟩ : DkV).fo.drop s).1 }, 0) else (⟨qsec, qts, qfo, ⟨qp, qs, qd, false⟩, qcalls⟩ : DkV).ask false from by unfold DkV.remove; rw [if_neg Bool.false_ne_true, if_neg (by rw [hf]; simp)])
  clear hf
  refine (rask_calls false HR1.out HO.out.fu hcalls).mono ?_
  rintro e w2 ⟨rfl, hb2⟩
  clear x0 x1 x2 x3 x4 x5 x6 x7
  have HB2 := Lib.hid (HB1.out.ex hb2)
  have HK2 := Lib.hid (HK1.out.ex hb2)
  have HX2 := Lib.hid (HX1.out.trans hb2)
  have HR2 := Lib.hid (HR1.out.ex hb2)
  have HF2 := Lib.hid (fun k hk => Nat.lt_of_lt_of_le (HF1.out k hk) hb2.size)
  clear hb2
  rw [← HQ1.out, ← HQE.out]
  unfold DkV.rcs
  by_cases hq0 : ¬ qe = 0
  · have HE := Lib.hid (show (⟨qsec, qts, qfo, ⟨qp, qs, qd, false⟩, qcalls⟩ : DkV).remove s = (Q1, qe) from by rw [HC.out, if_neg (by rw [← HQE.out]; exact hq0), HQ1.out, HQE.out])
    have q1 : decide (qe = 0) = false := decide_eq_false hq0
    have q2 : (qe == 0) = false := beq_eq_false_iff_ne.2 hq0
    have q3 : (qe != 0) = true := by rw [bne, q2]; rfl
    go_wp2_with (first
      | (refine st_agg 40 rfl (.tmp 2) (.tmp 19) rfl w.heap.size ((⟨qsec, qts, qfo, ⟨qp, qs, qd, false⟩, qcalls⟩ : DkV).rcs (.slice (some ⟨b2, o2, none⟩) tm tc) (.slice sB sn sd)) [.int .i64 Q1.sec, (.slice (some ⟨b2, o2, none⟩) tm tc), (.slice sB sn sd), .int .i64 Q1.fu.p, .int .i64 Q1.fu.s, .int .i64 Q1.fu.d, .bool Q1.fu.off, .int .i64 (Q1.calls : Int)] rfl rfl info_d11 rfl (HOD.out _ _ _ _ _ _ _) HB2.out HX2.out hle ?_; intro w3 k3 X3 g3; have HB3 := Lib.hid k3; have HX3 := Lib.hid X3; have HK3 := Lib.hid (HK2.out.grown g3 (ne_some hne1)); have HR3 := Lib.hid (((HR2.out.offs (off_grown g3) (same_blk HG0.out)).same (Q' := Q1) HTp1.out HFo1.out)); have HF3 := Lib.hid (fun k hk => Nat.lt_of_lt_of_le (HF2.out k hk) g3.size); obtain ⟨x0, x1, x2, x3, x4, x5, x6, x7⟩ := rd_cells (Q := Q1) (tv := (.slice (some ⟨b2, o2, none⟩) tm tc)) (sl := (.slice sB sn sd)) k3; clear k3 X3 g3)
      | (refine st_agg 40 rfl (.tmp 4) (.tmp 31) rfl (w.heap.size + 1) [.int .i64 0, .slice none 0 0, .slice none 0 0, .int .i64 0, .int .i64 0, .int .i64 0, .bool false, .int .i64 0] [.int .i64 Q1.sec, (.slice (some ⟨b2, o2, none⟩) tm tc), (.slice sB sn sd), .int .i64 Q1.fu.p, .int .i64 Q1.fu.s, .int .i64 Q1.fu.d, .bool Q1.fu.off, .int .i64 (Q1.calls : Int)] rfl rfl info_d11 rfl (HOD.out Q1 _ _ _ _ _ _) HK3.out HX3.out hle1 ?_; intro wz kz Xz gz))
    (try simp only [Exit.inBlock, Exit.then])
    refine bodyPost_ret (ret_agg2 rfl _ _ (w.heap.size + 1) [.int .i64 Q1.sec, (.slice (some ⟨b2, o2, none⟩) tm tc), (.slice sB sn sd), .int .i64 Q1.fu.p, .int .i64 Q1.fu.s, .int .i64 Q1.fu.d, .bool Q1.fu.off, .int .i64 (Q1.calls : Int)] rfl kz Tryz.underlying40 info_d11) rfl ?_
    rw [HE.out]
    exact opR (Q := Q1) rfl HR3.out gz HG1.out HG.out.of Xz
  replace hq0 : qe = 0 := Classical.byContradiction hq0
  have HE := Lib.hid (show (⟨qsec, qts, qfo, ⟨qp, qs, qd, false⟩, qcalls⟩ : DkV).remove s = (({ Q1 with fo := (Q1.fo.drop s).1 } : DkV), 0) from by rw [HC.out, if_pos (by rw [← HQE.out]; exact hq0), HFo1.out, ← HQ1.out])
  subst hq0
  have hf2 : 2 + 1 ≤ 8 := by decide
  go_wp2_with (refine st_agg 40 rfl (.tmp 2) (.tmp 19) rfl w.heap.size ((⟨qsec, qts, qfo, ⟨qp, qs, qd, false⟩, qcalls⟩ : DkV).rcs (.slice (some ⟨b2, o2, none⟩) tm tc) (.slice sB sn sd)) [.int .i64 Q1.sec, (.slice (some ⟨b2, o2, none⟩) tm tc), (.slice sB sn sd), .int .i64 Q1.fu.p, .int .i64 Q1.fu.s, .int .i64 Q1.fu.d, .bool Q1.fu.off, .int .i64 (Q1.calls : Int)] rfl rfl info_d11 rfl (HOD.out _ _ _ _ _ _ _) HB2.out HX2.out hle ?_; intro w3 k3 X3 g3; have HB3 := Lib.hid k3; have HX3 := Lib.hid X3; have HK3 := Lib.hid (HK2.out.grown g3 (ne_some hne1)); have HR3 := Lib.hid (((HR2.out.offs (off_grown g3) (same_blk HG0.out)).same (Q' := Q1) HTp1.out HFo1.out)); have HF3 := Lib.hid (fun k hk => Nat.lt_of_lt_of_le (HF2.out k hk) g3.size); obtain ⟨x0, x1, x2, x3, x4, x5, x6, x7⟩ := rd_cells (Q := Q1) (tv := (.slice (some ⟨b2, o2, none⟩) tm tc)) (sl := (.slice sB sn sd)) k3; clear k3 X3 g3)
  refine (rfdrop_calls (F := G) (q := Q1.fo) s HR3.out.fo (M := M) (by rw [HFo1.out]; exact HO.out.fo) (by omega) HF3.out).mono ?_
  rintro e w4 ⟨sl4, rfl, hl4, hb4⟩
  obtain ⟨B4, n4, d4, rfl⟩ := hl4.shape
  clear x0 x1 x2 x3 x4 x5 x6 x7
  have HB4 := Lib.hid (HB3.out.ex hb4)
  have HK4 := Lib.hid (HK3.out.ex hb4)
  have HX4 := Lib.hid (HX3.out.trans hb4)
  have HR4 := Lib.hid (show RdV G w4 (({ Q1 with fo := (Q1.fo.drop s).1 } : DkV)) (.slice (some ⟨b2, o2, none⟩) tm tc) (.slice B4 n4 d4) from ⟨HR3.out.tp.ex hb4, hl4⟩)
  clear hl4 hb4
  go_wp2_with (first
    | (refine st_at 36 40 rfl (.tmp 30) (.tmp 28) rfl w.heap.size 2 _ [.int .i64 Q1.sec, (.slice (some ⟨b2, o2, none⟩) tm tc), (.slice B4 n4 d4), .int .i64 Q1.fu.p, .int .i64 Q1.fu.s, .int .i64 Q1.fu.d, .bool Q1.fu.off, .int .i64 (Q1.calls : Int)] [.slice B4 n4 d4] _ rfl rfl HB4.out rfl info_f9 rfl hf2 (one_sl _ _ _) HX4.out hle ?_; intro w5 k5 X5 g5; have HX5 := Lib.hid X5; have HK5 := Lib.hid (HK4.out.grown g5 (ne_some hne1)); have HR5 := Lib.hid (HR4.out.offs (off_grown g5) (same_blk HG0.out)); obtain ⟨x0, x1, x2, x3, x4, x5, x6, x7⟩ := rd_cells (Q := Q1) (tv := (.slice (some ⟨b2, o2, none⟩) tm tc)) (sl := .slice B4 n4 d4) k5; clear k5 X5 g5)
    | (refine st_agg 40 rfl (.tmp 4) (.tmp 31) rfl (w.heap.size + 1) [.int .i64 0, .slice none 0 0, .slice none 0 0, .int .i64 0, .int .i64 0, .int .i64 0, .bool false, .int .i64 0] [.int .i64 Q1.sec, (.slice (some ⟨b2, o2, none⟩) tm tc), (.slice B4 n4 d4), .int .i64 Q1.fu.p, .int .i64 Q1.fu.s, .int .i64 Q1.fu.d, .bool Q1.fu.off, .int .i64 (Q1.calls : Int)] rfl rfl info_d11 rfl (HOD.out Q1 _ _ _ _ _ _) HK5.out HX5.out hle1 ?_; intro wz kz Xz gz))
  (try simp only [Exit.inBlock, Exit.then])
  refine bodyPost_ret (ret_agg2 rfl _ _ (w.heap.size + 1) [.int .i64 Q1.sec, (.slice (some ⟨b2, o2, none⟩) tm tc), (.slice B4 n4 d4), .int .i64 Q1.fu.p, .int .i64 Q1.fu.s, .int .i64 Q1.fu.d, .bool Q1.fu.off, .int .i64 (Q1.calls : Int)] rfl kz Tryz.underlying40 info_d11) rfl ?_
  rw [HE.out]
  exact opR (Q := ({ Q1 with fo := (Q1.fo.drop s).1 } : DkV)) rfl HR5.out gz HG1.out HG.out.of Xz
end Go.Proofs.YtomfcgeibbicoaaGreat
