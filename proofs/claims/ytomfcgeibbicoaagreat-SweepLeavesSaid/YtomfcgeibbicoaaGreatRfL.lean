/- The document's disk: Fault. -/
import Derived.Test.YtomfcgeibbicoaaGreatRfK
namespace Go.Proofs.YtomfcgeibbicoaaGreat
open Go.RowKit
set_option maxHeartbeats 2000000 in
set_option maxRecDepth 100000 in
theorem rfault_calls {F : Nat → Prop} {w : World} {Q : DkV} {tv sl : Value} (k a : Int) (h : RdV F w Q tv sl) :
    Calls Tryz.prog 13 #[.agg (Q.rcs tv sl).toArray, .agg #[.int .i64 k, .int .i64 a]] w fun e w' => OpR F w (Q.fault k a) w' e := by
  obtain ⟨tA, tc, sB, sn, sd, rfl, rfl⟩ := h.shape
  obtain ⟨tm, htm⟩ : ∃ m, m = Q.tapes.length := ⟨_, rfl⟩
  rw [← htm] at h ⊢
  have hX := ex_3 w (.cells (Q.rcs (.slice tA tm tc) (.slice sB sn sd)).toArray 40) (.cells #[.int .i64 k, .int .i64 a] 45) (.cells zeroD.toArray 40)
  have hB := (Blk.new w (Q.rcs (.slice tA tm tc) (.slice sB sn sd)) 40).ex (ex_two _ (.cells #[.int .i64 k, .int .i64 a] 45) (.cells zeroD.toArray 40))
  have hK := blk_three w (.cells (Q.rcs (.slice tA tm tc) (.slice sB sn sd)).toArray 40) (.cells #[.int .i64 k, .int .i64 a] 45) zeroD 40
  have HRw := Lib.hid h
  have HX0 := Lib.hid hX
  have HB0 := Lib.hid hB
  have HK0 := Lib.hid hK
  have hle := Nat.le_refl w.heap.size
  have hle2 : w.heap.size ≤ w.heap.size + 1 + 1 := by omega
  have hne2 : w.heap.size + 1 + 1 ≠ w.heap.size := by omega
  have HOD := Lib.hid disk_one
  clear h htm hX hB hK
  obtain ⟨qsec, qts, qfo, ⟨qp, qs, qd, qoff⟩, qcalls⟩ := Q
  cases qoff
  case true =>
    have HE := Lib.hid (show (⟨qsec, qts, qfo, ⟨qp, qs, qd, true⟩, qcalls⟩ : DkV).fault k a = ((⟨qsec, qts, qfo, ⟨qp, qs, qd, true⟩, qcalls⟩ : DkV), 14) from by unfold DkV.fault; rw [if_pos rfl])
    unfold DkV.rcs
    go_enter Tryz.func13, Tryz.ntmps13
    go_wp2_with fail
    (try simp only [Exit.inBlock, Exit.then])
    refine bodyPost_ret (ret_agg2 rfl _ _ (w.heap.size + 1 + 1) ((⟨qsec, qts, qfo, ⟨qp, qs, qd, true⟩, qcalls⟩ : DkV).rcs (.slice tA tm tc) (.slice sB sn sd)) rfl (blk_three _ _ _ _ _) Tryz.underlying40 info_d11) rfl ?_
    rw [HE.out]
    exact ⟨_, _, rfl, HRw.out.ex (ex_3 _ _ _ _), ex_3 _ _ _ _⟩
  have HC := Lib.hid (fun w => rfarm_calls (w := w) ⟨qp, qs, qd, false⟩ k a)
  have HFT := Lib.hid (show (⟨qsec, qts, qfo, ⟨qp, qs, qd, false⟩, qcalls⟩ : DkV).fault k a = if ((⟨qp, qs, qd, false⟩ : FuV).arm k a).2 = true then ({ (⟨qsec, qts, qfo, ⟨qp, qs, qd, false⟩, qcalls⟩ : DkV) with fu := ((⟨qp, qs, qd, false⟩ : FuV).arm k a).1 }, 0) else ((⟨qsec, qts, qfo, ⟨qp, qs, qd, false⟩, qcalls⟩ : DkV), 2) from by unfold DkV.fault; rw [if_neg Bool.false_ne_true])
  generalize FuV.arm (⟨qp, qs, qd, false⟩ : FuV) k a = fr at *
  obtain ⟨⟨fp, fs, fd, fo⟩, fb⟩ := fr
  simp only at HC HFT
  unfold DkV.rcs
  go_enter Tryz.func13, Tryz.ntmps13
  go_wp2_with fail
  refine (HC.out _).mono ?_
  rintro e w1 ⟨rfl, hb1⟩
  have hb2 := Ex.trans hb1 (ex_alloc (Ex.refl w1) (.cells #[.int .i64 fp, .int .i64 fs, .int .i64 fd, .bool fo] 38))
  have HB2 := Lib.hid (HB0.out.ex hb2)
  have HK2 := Lib.hid (HK0.out.ex hb2)
  have HX2 := Lib.hid (HX0.out.trans hb2)
  obtain ⟨x0, x1, x2, x3, x4, x5, x6, x7⟩ := rd_cells HB2.out
  clear hb1 hb2
  unfold FuV.agg
  have hf3 : 3 + 4 ≤ 8 := by decide
  cases fb
  · have HE := Lib.hid (show (⟨qsec, qts, qfo, ⟨qp, qs, qd, false⟩, qcalls⟩ : DkV).fault k a = ((⟨qsec, qts, qfo, ⟨qp, qs, qd, false⟩, qcalls⟩ : DkV), 2) from by rw [HFT.out, if_neg Bool.false_ne_true])
    go_wp2_with (refine st_agg 40 rfl (.tmp 4) (.tmp 21) rfl (w.heap.size + 1 + 1) [.int .i64 0, .slice none 0 0, .slice none 0 0, .int .i64 0, .int .i64 0, .int .i64 0, .bool false, .int .i64 0] ((⟨qsec, qts, qfo, ⟨qp, qs, qd, false⟩, qcalls⟩ : DkV).rcs (.slice tA tm tc) (.slice sB sn sd)) rfl rfl info_d11 rfl (HOD.out _ _ _ _ _ _ _) HK2.out HX2.out hle2 ?_; intro wz kz Xz gz)
    (try simp only [Exit.inBlock, Exit.then])
    refine bodyPost_ret (ret_agg2 rfl _ _ (w.heap.size + 1 + 1) ((⟨qsec, qts, qfo, ⟨qp, qs, qd, false⟩, qcalls⟩ : DkV).rcs (.slice tA tm tc) (.slice sB sn sd)) rfl kz Tryz.underlying40 info_d11) rfl ?_
    rw [HE.out]
    exact ⟨_, _, rfl, HRw.out.ex Xz, Xz⟩
  · have HE := Lib.hid (show (⟨qsec, qts, qfo, ⟨qp, qs, qd, false⟩, qcalls⟩ : DkV).fault k a = ((⟨qsec, qts, qfo, ⟨fp, fs, fd, fo⟩, qcalls⟩ : DkV), 0) from by rw [HFT.out, if_pos rfl])
    go_wp2_with (first
      | (refine st_at 38 40 rfl (.tmp 23) (.tmp 22) rfl w.heap.size 3 _ [.int .i64 qsec, .slice tA tm tc, .slice sB sn sd, .int .i64 fp, .int .i64 fs, .int .i64 fd, .bool fo, .int .i64 (qcalls : Int)] (FuV.rs ⟨fp, fs, fd, fo⟩) _ rfl rfl HB2.out rfl info_rf rfl hf3 (FuV.rs_one _) HX2.out hle ?_; intro w3 k3 X3 g3; have HX3 := Lib.hid X3; have HK3 := Lib.hid (HK2.out.grown g3 (ne_some hne2)); have y0 := k3.cell 0; have y1 := k3.cell 1; have y2 := k3.cell 2; have y3 := k3.cell 3; have y4 := k3.cell 4; have y5 := k3.cell 5; have y6 := k3.cell 6; have y7 := k3.cell 7; clear k3 X3)
      | (refine st_agg 40 rfl (.tmp 4) (.tmp 24) rfl (w.heap.size + 1 + 1) [.int .i64 0, .slice none 0 0, .slice none 0 0, .int .i64 0, .int .i64 0, .int .i64 0, .bool false, .int .i64 0] [.int .i64 qsec, .slice tA tm tc, .slice sB sn sd, .int .i64 fp, .int .i64 fs, .int .i64 fd, .bool fo, .int .i64 (qcalls : Int)] rfl rfl info_d11 rfl (HOD.out (⟨qsec, qts, qfo, ⟨fp, fs, fd, fo⟩, qcalls⟩ : DkV) _ _ _ _ _ _) HK3.out HX3.out hle2 ?_; intro wz kz Xz gz))
    (try simp only [Exit.inBlock, Exit.then])
    refine bodyPost_ret (ret_agg2 rfl _ _ (w.heap.size + 1 + 1) [.int .i64 qsec, .slice tA tm tc, .slice sB sn sd, .int .i64 fp, .int .i64 fs, .int .i64 fd, .bool fo, .int .i64 (qcalls : Int)] rfl kz Tryz.underlying40 info_d11) rfl ?_
    rw [HE.out]
    exact ⟨.slice tA tm tc, .slice sB sn sd, rfl, ⟨(HRw.out.ex Xz).tp, (HRw.out.ex Xz).fo⟩, Xz⟩
end Go.Proofs.YtomfcgeibbicoaaGreat
