/- The document's disk: Cut, Append. -/
import Derived.Test.YtomfcgeibbicoaaGreatRfI
namespace Go.Proofs.YtomfcgeibbicoaaGreat
open Go.RowKit
theorem tapeAt_set {Q : DkV} {i : Nat} (hi : i < Q.tapes.length) (t : TpV) {x : Int} (hx : 1 ≤ x) : (Q.setT ((i : Int) + 1) t).tapeAt x = if x = (i : Int) + 1 then t else Q.tapeAt x := by
  rw [rsetT_at]
  unfold DkV.tapeAt
  simp only [List.getD_eq_getElem?_getD, List.getElem?_set]
  by_cases h : x = (i : Int) + 1
  · rw [if_pos (by omega), if_pos hi, if_pos h]; rfl
  · rw [if_neg (by omega), if_neg h]
theorem sum_set {Q : DkV} {i : Nat} {t : TpV} (ht : Q.tapes[i]? = some t) (t' : TpV) : ∀ {l : List Int}, Up l → (∀ x ∈ l, 1 ≤ x) →
    sumT (Q.setT ((i : Int) + 1) t') l + (if (i : Int) + 1 ∈ l then cntT t else 0) = sumT Q l + (if (i : Int) + 1 ∈ l then cntT t' else 0)
  | [], _, _ => by simp [sumT]
  | x :: r, h, h1 => by
    obtain ⟨hi, _⟩ := List.getElem?_eq_some_iff.1 ht
    have hr := List.pairwise_cons.1 h
    have ih := sum_set ht t' hr.2 (fun y hy => h1 y (by simp [hy]))
    have hx := tapeAt_set hi t' (h1 x (by simp))
    unfold sumT at ih ⊢
    rw [List.map_cons, List.sum_cons, List.map_cons, List.sum_cons, hx]
    by_cases e : x = (i : Int) + 1
    · have hn : ¬ ((i : Int) + 1 ∈ r) := fun hm => by have := hr.1 _ hm; omega
      rw [if_pos e, if_pos (by simp [e]), if_pos (by simp [e])]
      rw [if_neg hn, if_neg hn] at ih
      have e2 : Q.tapeAt x = t := by rw [e]; exact tapeAt_some ht
      rw [e2]
      omega
    · rw [if_neg e]
      by_cases hm : (i : Int) + 1 ∈ r
      · rw [if_pos (by simp [hm]), if_pos (by simp [hm])]
        rw [if_pos hm, if_pos hm] at ih
        omega
      · have hn : ¬ ((i : Int) + 1 ∈ x :: r) := by simp [hm]; omega
        rw [if_neg hn, if_neg hn]
        rw [if_neg hm, if_neg hm] at ih
        omega
theorem Idz.has {Q : DkV} {s : ByteArray} (hf : (findM s Q.fo.now).2 = true) : Q.idOf s ∈ Q.fo.ids := by
  obtain ⟨m, hm, hmi, _, e⟩ := findM_mem (P := fun m => m.pl ∈ Q.fo.ids) (s := s) (l := Q.fo.now) (fun m hm => by
    have hL : Q.fo.now ∈ Q.fo.lists := List.mem_of_getElem? (lists_last Q.fo)
    unfold FoV.ids
    rw [setI_mem, List.mem_flatMap]
    exact ⟨_, hL, List.mem_map.2 ⟨m, hm, rfl⟩⟩) hf
  unfold DkV.idOf
  rw [e]
  exact hmi
theorem taken_set {Q : DkV} {i : Nat} {t : TpV} (hi : Idz Q) (ht : Q.tapes[i]? = some t) (hid : (i : Int) + 1 ∈ Q.fo.ids) (t' : TpV) : ((Q.setT ((i : Int) + 1) t').taken : Int) = (Q.taken : Int) - (cntT t : Int) + (cntT t' : Int) := by
  have h := sum_set ht t' Q.fo.ids_up (fun x hx => (hi x hx).1)
  rw [if_pos hid, if_pos hid] at h
  have e : (Q.setT ((i : Int) + 1) t').taken = sumT (Q.setT ((i : Int) + 1) t') Q.fo.ids := rfl
  unfold DkV.taken at *
  rw [e]
  omega
theorem Idz.set {Q : DkV} (h : Idz Q) (id : Int) (t : TpV) : Idz (Q.setT id t) := fun x hx => by
  have := h x hx
  unfold DkV.setT
  simp only [List.length_set]
  exact this
set_option maxHeartbeats 2000000 in
set_option maxRecDepth 100000 in
theorem rappend_calls {F : Nat → Prop} {w : World} {Q : DkV} {tv sl : Value} {M : Nat} (s x : ByteArray) (h : RdV F w Q tv sl) (ho : Q.Ok M) (hM : M ≤ 800000) (hi : Idz Q) (hx : x.size ≤ 1000000) (hF : ∀ k, F k → k < w.heap.size) :
    Calls Tryz.prog 170 #[.agg (Q.rcs tv sl).toArray, .string s, .string x] w fun e w' => OpR F w (Q.append s x) w' e := by
  obtain ⟨tA, tc, sB, sn, sd, rfl, rfl⟩ := h.shape
  obtain ⟨tm, htm⟩ : ∃ m, m = Q.tapes.length := ⟨_, rfl⟩
  rw [← htm] at h ⊢
  have hX := ex_two w (.cells (Q.rcs (.slice tA tm tc) (.slice sB sn sd)).toArray 40) (.cells zeroD.toArray 40)
  have hB := (Blk.new w (Q.rcs (.slice tA tm tc) (.slice sB sn sd)) 40).ex (ex_alloc (Ex.refl _) (.cells zeroD.toArray 40))
  have HK0 := Lib.hid (blk_two w (.cells (Q.rcs (.slice tA tm tc) (.slice sB sn sd)).toArray 40) zeroD 40)
  obtain ⟨G, hG, eG⟩ := Grow.mk2 hX hF
  have HG := Lib.hid hG
  have HG0 := Lib.hid (hG.new w.heap.size (Nat.le_refl _) (by simp; omega))
  have HG1 := Lib.hid (hG.new (w.heap.size + 1) (Nat.le_succ _) (by simp))
  have HR0 := Lib.hid (hG.rd eG h)
  have HB0 := Lib.hid hB
  have HX0 := Lib.hid hX
  have HF0 := Lib.hid hG.lt
  have HRw := Lib.hid h
  have HI := Lib.hid hi
  have HO := Lib.hid ho
  have HOD := Lib.hid disk_one
  have hle := Nat.le_refl w.heap.size
  have hle1 := Nat.le_succ w.heap.size
  have hne1 : w.heap.size + 1 ≠ w.heap.size := by omega
  have htl : tm ≤ 800000 := by have := ho.tl; omega
  have hcalls : Q.calls ≤ 1000000 := by have := ho.cl; omega
  have HTM := Lib.hid htm
  clear h ho hi hX hB hG eG htm hF
  obtain ⟨qsec, qts, qfo, ⟨qp, qs, qd, qoff⟩, qcalls⟩ := Q
  cases qoff
  case true =>
    have HE := Lib.hid (show (⟨qsec, qts, qfo, ⟨qp, qs, qd, true⟩, qcalls⟩ : DkV).append s x = ((⟨qsec, qts, qfo, ⟨qp, qs, qd, true⟩, qcalls⟩ : DkV), 14) from by unfold DkV.append; rw [if_pos rfl])
    unfold DkV.rcs
    go_enter Tryz.func170, Tryz.ntmps170
    go_wp2_with fail
    (try simp only [Exit.inBlock, Exit.then])
    refine bodyPost_ret (ret_agg2 rfl _ _ (w.heap.size + 1) ((⟨qsec, qts, qfo, ⟨qp, qs, qd, true⟩, qcalls⟩ : DkV).rcs (.slice tA tm tc) (.slice sB sn sd)) rfl (blk_two _ _ _ _) Tryz.underlying40 info_d11) rfl ?_
    rw [HE.out]
    exact ⟨_, _, rfl, HRw.out.ex (ex_two _ _ _), ex_two _ _ _⟩
  obtain ⟨Q1, hQ1⟩ : ∃ Q1, Q1 = ((⟨qsec, qts, qfo, ⟨qp, qs, qd, false⟩, qcalls⟩ : DkV).ask false).1 := ⟨_, rfl⟩
  obtain ⟨qe, hQe⟩ : ∃ qe, qe = ((⟨qsec, qts, qfo, ⟨qp, qs, qd, false⟩, qcalls⟩ : DkV).ask false).2 := ⟨_, rfl⟩
  have HTp1 := Lib.hid (show Q1.tapes = (⟨qsec, qts, qfo, ⟨qp, qs, qd, false⟩, qcalls⟩ : DkV).tapes from by rw [hQ1]; rfl)
  have HFo1 := Lib.hid (show Q1.fo = (⟨qsec, qts, qfo, ⟨qp, qs, qd, false⟩, qcalls⟩ : DkV).fo from by rw [hQ1]; rfl)
  have HQE := Lib.hid hQe
  have HQ1 := Lib.hid hQ1
  clear hQe hQ1
  unfold DkV.rcs
  go_enter Tryz.func170, Tryz.ntmps170
  go_wp2_with fail
  refine (rdfind_calls s HR0.out HO.out.fo (by omega)).mono ?_
  rintro e w1 ⟨rfl, hb1⟩
  have HB1 := Lib.hid (HB0.out.ex hb1)
  have HK1 := Lib.hid (HK0.out.ex hb1)
  have HX1 := Lib.hid (HX0.out.trans hb1)
  have HR1 := Lib.hid (HR0.out.ex hb1)
  have HF1 := Lib.hid (fun k hk => Nat.lt_of_lt_of_le (HF0.out k hk) hb1.size)
  obtain ⟨x0, x1, x2, x3, x4, x5, x6, x7⟩ := rd_cells HB1.out
  clear hb1
  cases hf : (findM s (⟨qsec, qts, qfo, ⟨qp, qs, qd, false⟩, qcalls⟩ : DkV).fo.now).2
  · have HE := Lib.hid (show (⟨qsec, qts, qfo, ⟨qp, qs, qd, false⟩, qcalls⟩ : DkV).append s x = ((⟨qsec, qts, qfo, ⟨qp, qs, qd, false⟩, qcalls⟩ : DkV), 8) from by unfold DkV.append; rw [if_neg Bool.false_ne_true, if_pos hf])
    rw [idOf_none hf]
    clear hf
    go_wp2_with (refine st_agg 40 rfl (.tmp 6) (.tmp 21) rfl (w.heap.size + 1) [.int .i64 0, .slice none 0 0, .slice none 0 0, .int .i64 0, .int .i64 0, .int .i64 0, .bool false, .int .i64 0] ((⟨qsec, qts, qfo, ⟨qp, qs, qd, false⟩, qcalls⟩ : DkV).rcs (.slice tA tm tc) (.slice sB sn sd)) rfl rfl info_d11 rfl (HOD.out _ _ _ _ _ _ _) HK1.out HX1.out hle1 ?_; intro wz kz Xz gz)
    (try simp only [Exit.inBlock, Exit.then])
    refine bodyPost_ret (ret_agg2 rfl _ _ (w.heap.size + 1) ((⟨qsec, qts, qfo, ⟨qp, qs, qd, false⟩, qcalls⟩ : DkV).rcs (.slice tA tm tc) (.slice sB sn sd)) rfl kz Tryz.underlying40 info_d11) rfl ?_
    rw [HE.out]
    exact opR rfl HR1.out gz HG1.out HG.out.of Xz
  obtain ⟨i, hi2, hid⟩ := HI.out.find hf
  obtain ⟨t, ht⟩ : ∃ t, (⟨qsec, qts, qfo, ⟨qp, qs, qd, false⟩, qcalls⟩ : DkV).tapes[i]? = some t := ⟨_, List.getElem?_eq_getElem hi2⟩
  have HT := Lib.hid ht
  have hit : i < tm := by rw [HTM.out]; exact hi2
  have hitI : (i : Int) < (tm : Int) := by omega
  have hid1 : (i : Int) + 1 - 1 = (i : Int) := by omega
  have hid0 : ¬ ((i : Int) + 1 = 0) := by omega
  have hid2 : decide ((i : Int) + 1 = 0) = false := decide_eq_false hid0
  have hid3 : ((i : Int) + 1 == 0) = false := beq_eq_false_iff_ne.2 hid0
  have HID := Lib.hid hid
  have HTA := Lib.hid (show (⟨qsec, qts, qfo, ⟨qp, qs, qd, false⟩, qcalls⟩ : DkV).tapeAt ((⟨qsec, qts, qfo, ⟨qp, qs, qd, false⟩, qcalls⟩ : DkV).idOf s) = t from by rw [hid]; exact tapeAt_some ht)
  obtain ⟨b2, o2, rfl⟩ := HR1.out.tp.addr hit
  rw [hid]
  clear ht hi2 hid
  have hf0 := Idz.has hf
  obtain ⟨ck, cn⟩ := HR1.out.tp.at HT.out
  have htz : t.kp.size ≤ 131072 ∧ t.nw.size ≤ 131072 := HO.out.tz t (List.mem_of_getElem? HT.out)
  have htz1 := htz.1
  have htz2 := htz.2
  have hb2 := ex_alloc (Ex.refl w1) (.cells #[.string t.kp, .string (t.nw ++ x)] 110)
  have HT2 := Lib.hid (Blk.new w1 (t.plus x).rs 110)
  have hw1 : w1.heap.size ≠ w.heap.size := by have := HX1.out.size; have := HB1.out.lt; omega
  have HF2 := Lib.hid (lt_more HF1.out hb2.size)
  have HX2 := Lib.hid (HX1.out.trans hb2)
  have HK2 := Lib.hid (HK1.out.ex hb2)
  have HB2 := Lib.hid (HB1.out.ex hb2)
  have HR2 := Lib.hid (HR1.out.ex hb2)
  obtain ⟨y0, y1, y2, y3, y4, y5, y6, y7⟩ := rd_cells HB2.out
  have hzx : (t.nw ++ x).size ≤ 9223372036854775807 := by rw [ByteArray.size_append]; omega
  clear hb2 htz
  go_wp2_with fail
  refine (rtape_calls (F := G) (t.plus x) i HR2.out (by rw [← HTM.out]; exact hit) (by rw [← HTM.out]; omega) HF2.out).mono ?_
  rintro e w3 ⟨tv3, rfl, ht3, hb3⟩
  obtain ⟨A3, c3, rfl⟩ : ∃ A c, tv3 = .slice A tm c := by obtain ⟨A, c, e⟩ := ht3.shape; exact ⟨A, c, by rw [e, List.length_set, HTM.out]⟩
  clear x0 x1 x2 x3 x4 x5 x6 x7 y0 y1 y2 y3 y4 y5 y6 y7 ck cn
  have hb4 := Ex.trans hb3 (ex_alloc (Ex.refl w3) (.cells #[.int .i64 qsec, (.slice A3 tm c3), (.slice sB sn sd), .int .i64 qp, .int .i64 qs, .int .i64 qd, .bool false, .int .i64 (qcalls : Int)] 40))
  have HA4 := Lib.hid (show RdV G _ ((⟨qsec, qts, qfo, ⟨qp, qs, qd, false⟩, qcalls⟩ : DkV).setT ((i : Int) + 1) (t.plus x)) (.slice A3 tm c3) (.slice sB sn sd) from ⟨by rw [rsetT_at]; exact ht3.ex (ex_alloc (Ex.refl w3) (.cells #[.int .i64 qsec, (.slice A3 tm c3), (.slice sB sn sd), .int .i64 qp, .int .i64 qs, .int .i64 qd, .bool false, .int .i64 (qcalls : Int)] 40)), HR2.out.fo.ex hb4⟩)
  have HT4 := Lib.hid (HT2.out.ex hb4)
  clear ht3 hb3
  rw [rsetT_at]
  unfold DkV.rcs
  have HB4 := Lib.hid (HB2.out.ex hb4)
  have HK4 := Lib.hid (HK2.out.ex hb4)
  have HX4 := Lib.hid (HX2.out.trans hb4)
  have HR4 := Lib.hid (HR2.out.ex hb4)
  have HF4 := Lib.hid (fun k hk => Nat.lt_of_lt_of_le (HF2.out k hk) hb4.size)
  obtain ⟨x0, x1, x2, x3, x4, x5, x6, x7⟩ := rd_cells HB4.out
  clear hb4
  have htk := taken_set HI.out HT.out (by rw [← HID.out]; exact hf0) (t.plus x)
  obtain ⟨fr, hfr⟩ : ∃ fr : Int, fr = qsec - (((⟨qsec, qts, qfo, ⟨qp, qs, qd, false⟩, qcalls⟩ : DkV).setT ((i : Int) + 1) (t.plus x)).taken : Int) := ⟨_, rfl⟩
  have HC4 := Lib.hid (fun W (hR : RdV G W ((⟨qsec, qts, qfo, ⟨qp, qs, qd, false⟩, qcalls⟩ : DkV).setT ((i : Int) + 1) (t.plus x)) (.slice A3 tm c3) (.slice sB sn sd)) (hF : ∀ k, G k → k < W.heap.size) => rfree_calls (F := G) (M := M) hR (by rw [rsetT_at]; exact HO.out.fo) (by omega) (HI.out.set _ _) (by rw [rsetT_at]; simp only [List.length_set]; rw [← HTM.out]; omega) (by rw [rsetT_at]; show 0 ≤ qsec; have : 1 ≤ qsec := HO.out.s1; omega) (by rw [rsetT_at]; exact HO.out.s2) (by
    rw [rsetT_at]
    intro t' ht'
    rcases List.mem_or_eq_of_mem_set ht' with h | h
    · have := HO.out.tz t' h; omega
    · rw [h]
      unfold TpV.plus
      simp only [ByteArray.size_append]
      omega) hF)
  have HSEC := Lib.hid (show ((⟨qsec, qts, qfo, ⟨qp, qs, qd, false⟩, qcalls⟩ : DkV).setT ((i : Int) + 1) (t.plus x)).sec - (((⟨qsec, qts, qfo, ⟨qp, qs, qd, false⟩, qcalls⟩ : DkV).setT ((i : Int) + 1) (t.plus x)).taken : Int) = fr from hfr.symm)
  have HAF := Lib.hid (show qsec - (⟨qsec, qts, qfo, ⟨qp, qs, qd, false⟩, qcalls⟩ : DkV).after s x = fr from by rw [hfr, htk]; unfold DkV.after; rw [HTA.out])
  clear hfr htk
  go_wp2_with fail
  refine (HC4.out _ HA4.out HF4.out).mono ?_
  rw [HSEC.out]
  rintro e w5 ⟨rfl, hb5⟩
  clear x0 x1 x2 x3 x4 x5 x6 x7
  have HT5 := Lib.hid (HT4.out.ex hb5)
  have HB5 := Lib.hid (HB4.out.ex hb5)
  have HK5 := Lib.hid (HK4.out.ex hb5)
  have HX5 := Lib.hid (HX4.out.trans hb5)
  have HR5 := Lib.hid (HR4.out.ex hb5)
  have HF5 := Lib.hid (fun k hk => Nat.lt_of_lt_of_le (HF4.out k hk) hb5.size)
  obtain ⟨x0, x1, x2, x3, x4, x5, x6, x7⟩ := rd_cells HB5.out
  clear hb5
  by_cases hfr0 : fr < 0
  · have HE := Lib.hid (show (⟨qsec, qts, qfo, ⟨qp, qs, qd, false⟩, qcalls⟩ : DkV).append s x = ((⟨qsec, qts, qfo, ⟨qp, qs, qd, false⟩, qcalls⟩ : DkV), 12) from by unfold DkV.append; rw [if_neg Bool.false_ne_true, if_neg (by rw [hf]; simp), if_pos (show qsec < (⟨qsec, qts, qfo, ⟨qp, qs, qd, false⟩, qcalls⟩ : DkV).after s x by have := HAF.out; omega)])
    have d0 : decide (fr < 0) = true := decide_eq_true hfr0
    go_wp2_with (refine st_agg 40 rfl (.tmp 6) (.tmp 40) rfl (w.heap.size + 1) [.int .i64 0, .slice none 0 0, .slice none 0 0, .int .i64 0, .int .i64 0, .int .i64 0, .bool false, .int .i64 0] ((⟨qsec, qts, qfo, ⟨qp, qs, qd, false⟩, qcalls⟩ : DkV).rcs (.slice (some ⟨b2, o2, none⟩) tm tc) (.slice sB sn sd)) rfl rfl info_d11 rfl (HOD.out _ _ _ _ _ _ _) HK5.out HX5.out hle1 ?_; intro wz kz Xz gz)
    (try simp only [Exit.inBlock, Exit.then])
    refine bodyPost_ret (ret_agg2 rfl _ _ (w.heap.size + 1) ((⟨qsec, qts, qfo, ⟨qp, qs, qd, false⟩, qcalls⟩ : DkV).rcs (.slice (some ⟨b2, o2, none⟩) tm tc) (.slice sB sn sd)) rfl kz Tryz.underlying40 info_d11) rfl ?_
    rw [HE.out]
    exact opR rfl HR5.out gz HG1.out HG.out.of Xz
  have d0 : decide (fr < 0) = false := decide_eq_false hfr0
  go_wp2_with fail
  have HC := Lib.hid (show (⟨qsec, qts, qfo, ⟨qp, qs, qd, false⟩, qcalls⟩ : DkV).append s x = if ((⟨qsec, qts, qfo, ⟨qp, qs, qd, false⟩, qcalls⟩ : DkV).ask false).2 = 0 then (((⟨qsec, qts, qfo, ⟨qp, qs, qd, false⟩, qcalls⟩ : DkV).ask false).1.setT ((⟨qsec, qts, qfo, ⟨qp, qs, qd, false⟩, qcalls⟩ : DkV).idOf s) (((⟨qsec, qts, qfo, ⟨qp, qs, qd, false⟩, qcalls⟩ : DkV).tapeAt ((⟨qsec, qts, qfo, ⟨qp, qs, qd, false⟩, qcalls⟩ : DkV).idOf s)).plus x), 0) else (⟨qsec, qts, qfo, ⟨qp, qs, qd, false⟩, qcalls⟩ : DkV).ask false from by unfold DkV.append; rw [if_neg Bool.false_ne_true, if_neg (by rw [hf]; simp), if_neg (show ¬ qsec < (⟨qsec, qts, qfo, ⟨qp, qs, qd, false⟩, qcalls⟩ : DkV).after s x by have := HAF.out; omega)])
  clear hf hf0
  refine (rask_calls false HR5.out HO.out.fu hcalls).mono ?_
  rintro e w6 ⟨rfl, hb6⟩
  clear x0 x1 x2 x3 x4 x5 x6 x7
  have HB6 := Lib.hid (HB5.out.ex hb6)
  have HK6 := Lib.hid (HK5.out.ex hb6)
  have HX6 := Lib.hid (HX5.out.trans hb6)
  have HR6 := Lib.hid (HR5.out.ex hb6)
  have HF6 := Lib.hid (fun k hk => Nat.lt_of_lt_of_le (HF5.out k hk) hb6.size)
  have HT6 := Lib.hid (HT5.out.ex hb6)
  clear hb6
  rw [← HQ1.out, ← HQE.out]
  unfold DkV.rcs
  by_cases hq0 : ¬ qe = 0
  · have HE := Lib.hid (show (⟨qsec, qts, qfo, ⟨qp, qs, qd, false⟩, qcalls⟩ : DkV).append s x = (Q1, qe) from by rw [HC.out, if_neg (by rw [← HQE.out]; exact hq0), HQ1.out, HQE.out])
    have q1 : decide (qe = 0) = false := decide_eq_false hq0
    have q2 : (qe == 0) = false := beq_eq_false_iff_ne.2 hq0
    have q3 : (qe != 0) = true := by rw [bne, q2]; rfl
    go_wp2_with (first
      | (refine st_agg 40 rfl (.tmp 3) (.tmp 44) rfl w.heap.size ((⟨qsec, qts, qfo, ⟨qp, qs, qd, false⟩, qcalls⟩ : DkV).rcs (.slice (some ⟨b2, o2, none⟩) tm tc) (.slice sB sn sd)) [.int .i64 Q1.sec, (.slice (some ⟨b2, o2, none⟩) tm tc), (.slice sB sn sd), .int .i64 Q1.fu.p, .int .i64 Q1.fu.s, .int .i64 Q1.fu.d, .bool Q1.fu.off, .int .i64 (Q1.calls : Int)] rfl rfl info_d11 rfl (HOD.out _ _ _ _ _ _ _) HB6.out HX6.out hle ?_; intro w7 k7 X7 g7; have HB7 := Lib.hid k7; have HX7 := Lib.hid X7; have HK7 := Lib.hid (HK6.out.grown g7 (ne_some hne1)); have HR7 := Lib.hid (((HR6.out.offs (off_grown g7) (same_blk HG0.out)).same (Q' := Q1) HTp1.out HFo1.out)); have HF7 := Lib.hid (fun k hk => Nat.lt_of_lt_of_le (HF6.out k hk) g7.size); obtain ⟨x0, x1, x2, x3, x4, x5, x6, x7⟩ := rd_cells (Q := Q1) (tv := (.slice (some ⟨b2, o2, none⟩) tm tc)) (sl := (.slice sB sn sd)) k7; clear k7 X7 g7; obtain ⟨ck, cn⟩ := HR7.out.tp.at (show Q1.tapes[i]? = some t from by rw [HTp1.out]; exact HT.out))
      | (refine st_agg 40 rfl (.tmp 6) (.tmp 48) rfl (w.heap.size + 1) [.int .i64 0, .slice none 0 0, .slice none 0 0, .int .i64 0, .int .i64 0, .int .i64 0, .bool false, .int .i64 0] [.int .i64 Q1.sec, (.slice (some ⟨b2, o2, none⟩) tm tc), (.slice sB sn sd), .int .i64 Q1.fu.p, .int .i64 Q1.fu.s, .int .i64 Q1.fu.d, .bool Q1.fu.off, .int .i64 (Q1.calls : Int)] rfl rfl info_d11 rfl (HOD.out Q1 _ _ _ _ _ _) HK7.out HX7.out hle1 ?_; intro wz kz Xz gz))
    (try simp only [Exit.inBlock, Exit.then])
    refine bodyPost_ret (ret_agg2 rfl _ _ (w.heap.size + 1) [.int .i64 Q1.sec, (.slice (some ⟨b2, o2, none⟩) tm tc), (.slice sB sn sd), .int .i64 Q1.fu.p, .int .i64 Q1.fu.s, .int .i64 Q1.fu.d, .bool Q1.fu.off, .int .i64 (Q1.calls : Int)] rfl kz Tryz.underlying40 info_d11) rfl ?_
    rw [HE.out]
    exact opR (Q := Q1) rfl HR7.out gz HG1.out HG.out.of Xz
  replace hq0 : qe = 0 := Classical.byContradiction hq0
  have HE := Lib.hid (show (⟨qsec, qts, qfo, ⟨qp, qs, qd, false⟩, qcalls⟩ : DkV).append s x = (Q1.setT ((i : Int) + 1) (t.plus x), 0) from by rw [HC.out, if_pos (by rw [← HQE.out]; exact hq0), HTA.out, HID.out, ← HQ1.out])
  subst hq0
  go_wp2_with (refine st_agg 40 rfl (.tmp 3) (.tmp 44) rfl w.heap.size ((⟨qsec, qts, qfo, ⟨qp, qs, qd, false⟩, qcalls⟩ : DkV).rcs (.slice (some ⟨b2, o2, none⟩) tm tc) (.slice sB sn sd)) [.int .i64 Q1.sec, (.slice (some ⟨b2, o2, none⟩) tm tc), (.slice sB sn sd), .int .i64 Q1.fu.p, .int .i64 Q1.fu.s, .int .i64 Q1.fu.d, .bool Q1.fu.off, .int .i64 (Q1.calls : Int)] rfl rfl info_d11 rfl (HOD.out _ _ _ _ _ _ _) HB6.out HX6.out hle ?_; intro w7 k7 X7 g7; have HB7 := Lib.hid k7; have HX7 := Lib.hid X7; have HK7 := Lib.hid (HK6.out.grown g7 (ne_some hne1)); have HR7 := Lib.hid (((HR6.out.offs (off_grown g7) (same_blk HG0.out)).same (Q' := Q1) HTp1.out HFo1.out)); have HF7 := Lib.hid (fun k hk => Nat.lt_of_lt_of_le (HF6.out k hk) g7.size); obtain ⟨x0, x1, x2, x3, x4, x5, x6, x7⟩ := rd_cells (Q := Q1) (tv := (.slice (some ⟨b2, o2, none⟩) tm tc)) (sl := (.slice sB sn sd)) k7; have hT7 := HT6.out.grown g7 (ne_some hw1); have u0 : w7.cell? ⟨w1.heap.size, 0, none⟩ = some (.string t.kp) := hT7.cell 0; have u1 : w7.cell? ⟨w1.heap.size, 1, none⟩ = some (.string (t.nw ++ x)) := hT7.cell 1; clear k7 X7 g7 hT7; obtain ⟨ck, cn⟩ := HR7.out.tp.at (show Q1.tapes[i]? = some t from by rw [HTp1.out]; exact HT.out))
  refine (rtape_calls (F := G) (t.plus x) i HR7.out (by rw [HTp1.out, ← HTM.out]; exact hit) (by rw [HTp1.out, ← HTM.out]; omega) HF7.out).mono ?_
  rintro e w8 ⟨tv8, rfl, ht8, hb8⟩
  obtain ⟨A8, c8, rfl⟩ : ∃ A c, tv8 = .slice A tm c := by obtain ⟨A, c, e⟩ := ht8.shape; exact ⟨A, c, by rw [e, List.length_set, HTp1.out, HTM.out]⟩
  clear x0 x1 x2 x3 x4 x5 x6 x7 ck cn u0 u1
  have HK8 := Lib.hid (HK7.out.ex hb8)
  have HX8 := Lib.hid (HX7.out.trans hb8)
  have HR8 := Lib.hid (show RdV G w8 (Q1.setT ((i : Int) + 1) (t.plus x)) (.slice A8 tm c8) (.slice sB sn sd) from ⟨by rw [rsetT_at]; exact ht8, HR7.out.fo.ex hb8⟩)
  clear ht8 hb8
  rw [rsetT_at]
  unfold DkV.rcs
  go_wp2_with (refine st_agg 40 rfl (.tmp 6) (.tmp 53) rfl (w.heap.size + 1) [.int .i64 0, .slice none 0 0, .slice none 0 0, .int .i64 0, .int .i64 0, .int .i64 0, .bool false, .int .i64 0] [.int .i64 Q1.sec, (.slice A8 tm c8), (.slice sB sn sd), .int .i64 Q1.fu.p, .int .i64 Q1.fu.s, .int .i64 Q1.fu.d, .bool Q1.fu.off, .int .i64 (Q1.calls : Int)] rfl rfl info_d11 rfl (HOD.out Q1 _ _ _ _ _ _) HK8.out HX8.out hle1 ?_; intro wz kz Xz gz)
  (try simp only [Exit.inBlock, Exit.then])
  refine bodyPost_ret (ret_agg2 rfl _ _ (w.heap.size + 1) [.int .i64 Q1.sec, (.slice A8 tm c8), (.slice sB sn sd), .int .i64 Q1.fu.p, .int .i64 Q1.fu.s, .int .i64 Q1.fu.d, .bool Q1.fu.off, .int .i64 (Q1.calls : Int)] rfl kz Tryz.underlying40 info_d11) rfl ?_
  rw [HE.out]
  exact opR (Q := Q1.setT ((i : Int) + 1) (t.plus x)) (tv := .slice A8 tm c8) (sl := (.slice sB sn sd)) (by rw [rsetT_at]; rfl) HR8.out gz HG1.out HG.out.of Xz
end Go.Proofs.YtomfcgeibbicoaaGreat
