/- The document's disk: another tape; what is free. -/
import Derived.Test.YtcffkmlnbnjibaaGreatRfF
namespace Go.Proofs.YtcffkmlnbnjibaaGreat
open Go.RowKit
theorem ex_3 (w : World) (A B C : Obj) : Ex w (((w.alloc A).alloc B).alloc C) := ex_alloc (ex_two w A B) C
theorem rsetT_at (Q : DkV) (i : Nat) (t : TpV) : Q.setT ((i : Int) + 1) t = { Q with tapes := Q.tapes.set i t } := by
  unfold DkV.setT
  rw [show ((i : Int) + 1 - 1).toNat = i by omega]
theorem own_pos {w : World} {base k n : Nat} {e : TypeId} {v : Value} {cs : List Value} (hn : 0 < n) (h : w.ownsRow base e k v n cs) :
    ∃ g cap cur, v = .slice (some ⟨g, 0, none⟩) n cap ∧ base ≤ g ∧ Blk w g e cur ∧ n ≤ cap ∧ cap ≤ maxLen ∧ cur.length = cap * k ∧ cur.take (n * k) = cs := by
  rcases own_blk h with ⟨_, h0, _⟩ | h
  · omega
  · exact h
theorem fit_tp {i n cap : Nat} {cur : List Value} {t : TpV} (hi : i < n) (hc : n ≤ cap) (hl : cur.length = cap * 2) : i * 2 + t.rs.length ≤ cur.length := by
  have : t.rs.length = 2 := rfl
  omega
theorem info_sl : (Tryz.prog.info? 52).map (·.size) = some 1 := by kernel_rfl
theorem disk_one (Q : DkV) (A : Option Addr) (n c : Nat) (B : Option Addr) (m d : Nat) : ∀ x ∈ Q.rcs (.slice A n c) (.slice B m d), x.oneCell' = true := by
  intro x hx
  simp only [DkV.rcs, List.mem_cons, List.not_mem_nil, or_false] at hx
  rcases hx with rfl | rfl | rfl | rfl | rfl | rfl | rfl | rfl <;> rfl
set_option maxHeartbeats 2000000 in
set_option maxRecDepth 100000 in
theorem rtape_calls {F : Nat → Prop} {w : World} {Q : DkV} {tv sl : Value} (t : TpV) (i : Nat) (h : RdV F w Q tv sl) (hi : i < Q.tapes.length) (hn : Q.tapes.length ≤ 1000000) (hF : ∀ k, F k → k < w.heap.size) :
    Calls Tryz.prog 131 #[.agg (Q.rcs tv sl).toArray, .int .i64 ((i : Int) + 1), t.agg] w fun e w' => ∃ tv', e = .returned (.agg ((Q.setT ((i : Int) + 1) t).rcs tv' sl).toArray) ∧ TpsV F w' tv' (Q.tapes.set i t) ∧ Ex w w' := by
  rw [rsetT_at]
  obtain ⟨⟨A, c, rfl, hrow⟩, hls⟩ := h
  obtain ⟨B, n, d, rfl⟩ := hls.shape
  have hX := ex_3 w (.cells (Q.rcs (.slice A Q.tapes.length c) (.slice B n d)).toArray 59) (.cells t.rs.toArray 124) (.cells zeroD.toArray 59)
  have hB := (Blk.new w (Q.rcs (.slice A Q.tapes.length c) (.slice B n d)) 59).ex (ex_two _ (.cells t.rs.toArray 124) (.cells zeroD.toArray 59))
  have hT := (blk_two w (.cells (Q.rcs (.slice A Q.tapes.length c) (.slice B n d)).toArray 59) t.rs 124).ex (ex_alloc (Ex.refl _) (.cells zeroD.toArray 59))
  have hK := blk_three w (.cells (Q.rcs (.slice A Q.tapes.length c) (.slice B n d)).toArray 59) (.cells t.rs.toArray 124) zeroD 59
  have hz : (((w.alloc (.cells (Q.rcs (.slice A Q.tapes.length c) (.slice B n d)).toArray 59)).alloc (.cells t.rs.toArray 124)).alloc (.cells zeroD.toArray 59)).heap.size = w.heap.size + 1 + 1 + 1 := by simp
  have HR := Lib.hid (hrow.row.ex hX)
  have HB := Lib.hid hB
  have HT := Lib.hid hT
  have HK := Lib.hid hK
  have HX := Lib.hid hX
  obtain ⟨x0, x1, x2, x3, x4, x5, x6, x7⟩ := rd_cells hB
  have y0 := hT.cell 0
  have y1 := hT.cell 1
  have HZ := Lib.hid hz
  clear hrow hls hX hB hT hK hz
  generalize hts : Q.tapes = ts at *
  have HOne := Lib.hid (tps_one ts)
  have e1 : ∀ A c, ({ Q with tapes := ts.set i t } : DkV).rcs (.slice A ts.length c) (.slice B n d) = [.int .i64 Q.sec, .slice A ts.length c, .slice B n d, .int .i64 Q.fu.p, .int .i64 Q.fu.s, .int .i64 Q.fu.d, .bool Q.fu.off, .int .i64 (Q.calls : Int)] := fun _ _ => rfl
  have HE := Lib.hid e1
  clear e1
  have hL := own_lit (((w.alloc (.cells (Q.rcs (.slice A ts.length c) (.slice B n d)).toArray 59)).alloc (.cells t.rs.toArray 124)).alloc (.cells zeroD.toArray 59)) 124 2
  rw [HZ.out] at hL
  have hBl := ex_alloc (Ex.refl (((w.alloc (.cells (Q.rcs (.slice A ts.length c) (.slice B n d)).toArray 59)).alloc (.cells t.rs.toArray 124)).alloc (.cells zeroD.toArray 59))) (.cells #[] 124)
  unfold Ex at hBl
  rw [HZ.out] at hBl
  have hB0 : w.heap.size + 1 + 1 + 1 ≤ ((((w.alloc (.cells (Q.rcs (.slice A ts.length c) (.slice B n d)).toArray 59)).alloc (.cells t.rs.toArray 124)).alloc (.cells zeroD.toArray 59)).alloc (.cells #[] 124)).heap.size := by simp
  have HR2 := Lib.hid (HR.out.ex (ex_alloc (Ex.refl _) (.cells #[] 124)))
  have HL := Lib.hid hL
  have HBl := Lib.hid hBl
  have hsm : 0 + ts.length ≤ 100000000 := by omega
  have hf1 : 1 + 1 ≤ 8 := by decide
  have hle := Nat.le_refl w.heap.size
  have hle2 : w.heap.size ≤ w.heap.size + 1 + 1 := by omega
  have hi2 : (i : Int) < (ts.length : Int) := by omega
  have hia : (i : Int) + 1 - 1 = (i : Int) := by omega
  have hpos : 0 < ts.length := by omega
  have HOD := Lib.hid (disk_one Q)
  have HSO := Lib.hid (show ∀ (A : Option Addr) (n c : Nat), ∀ v ∈ [Value.slice A n c], v.oneCell' = true from fun A n c v hv => by rw [List.mem_singleton.1 hv]; rfl)
  clear hL hBl x0 x1 x2 x3 x4 x5 x6 x7 y0 y1
  unfold DkV.rcs TpV.agg
  go_enter Tryz.func131, Tryz.ntmps131
  go_wp2_with (first
    | (at_builtin; refine app_own 52 124 (.agg #[.string ⟨#[]⟩, .string ⟨#[]⟩]) 2 32 Tryz.underlying52 info_t7 rfl (by decide) (by decide) rfl (.tmp 7) (.tmp 9) rfl (w.heap.size + 1 + 1 + 1) _ 0 [] rfl HL.out A ts.length c (ts.flatMap TpV.rs) rfl HR2.out HOne.out hsm hB0 HBl.out ?_; intro v1 w1 o1 b1; rw [Nat.zero_add, List.nil_append] at o1; obtain ⟨g1, cap, cur, rfl, hg1, k1, hc1, hc2, hc3, hc4⟩ := own_pos hpos o1; have K1 := Lib.hid k1; have HC4 := Lib.hid hc4; have B1 := Lib.hid b1; have HB1 := Lib.hid (HB.out.below b1 (by omega)); have HT1 := Lib.hid (HT.out.below b1 (by omega)); have HK1 := Lib.hid (HK.out.below b1 (by omega)); have HX1 := Lib.hid (Below.ex2 HX.out HZ.out b1); clear o1 b1 k1 hc4)
    | (refine st_at 52 59 rfl (.tmp 11) (.tmp 10) rfl w.heap.size 1 _ [.int .i64 Q.sec, .slice (some ⟨g1, 0, none⟩) ts.length cap, .slice B n d, .int .i64 Q.fu.p, .int .i64 Q.fu.s, .int .i64 Q.fu.d, .bool Q.fu.off, .int .i64 (Q.calls : Int)] [.slice (some ⟨g1, 0, none⟩) ts.length cap] _ rfl rfl HB1.out rfl info_sl rfl hf1 (HSO.out _ _ _) HX1.out hle ?_; intro w2 k2 X2 g2; have HB2 := Lib.hid k2; have HX2 := Lib.hid X2; have hn1 : g1 ≠ w.heap.size := (by omega); have hn2 : w.heap.size + 1 ≠ w.heap.size := (by omega); have hn3 : w.heap.size + 1 + 1 ≠ w.heap.size := (by omega); have K2 := Lib.hid (K1.out.grown g2 (ne_some hn1)); have HT2 := Lib.hid (HT1.out.grown g2 (ne_some hn2)); have HK2 := Lib.hid (HK1.out.grown g2 (ne_some hn3)); have y1 := k2.cell 1; have u0 : w2.cell? ⟨w.heap.size + 1, 0, none⟩ = some (.string t.kp) := HT2.out.cell 0; have u1 : w2.cell? ⟨w.heap.size + 1, 1, none⟩ = some (.string t.nw) := HT2.out.cell 1; clear k2 X2)
    | (refine wpList_store_k rfl 124 (.tmp 17) (.tmp 16) rfl t.agg g1 (i * 2) cur 124 t.rs rfl rfl rfl info_rt K2.out (fit_tp hi hc1 hc3) (TpV.rs_one t) ?_; intro w3 k3 g3; have K3 := Lib.hid k3; have hm1 : w.heap.size ≠ g1 := (by omega); have hm3 : w.heap.size + 1 + 1 ≠ g1 := (by omega); have hgw : w.heap.size ≤ g1 := (by omega); have HB3 := Lib.hid (HB2.out.grown g3 (ne_some hm1)); have HK3 := Lib.hid (HK2.out.grown g3 (ne_some hm3)); have HX3 := Lib.hid (ex_of_new HX2.out hgw g3); have z0 := HB3.out.cell 0; have z1 := HB3.out.cell 1; have z2 := HB3.out.cell 2; have z3 := HB3.out.cell 3; have z4 := HB3.out.cell 4; have z5 := HB3.out.cell 5; have z6 := HB3.out.cell 6; have z7 := HB3.out.cell 7; clear k3)
    | (refine st_agg 59 rfl (.tmp 6) (.tmp 18) rfl (w.heap.size + 1 + 1) [.int .i64 0, .slice none 0 0, .slice none 0 0, .int .i64 0, .int .i64 0, .int .i64 0, .bool false, .int .i64 0] [.int .i64 Q.sec, .slice (some ⟨g1, 0, none⟩) ts.length cap, .slice B n d, .int .i64 Q.fu.p, .int .i64 Q.fu.s, .int .i64 Q.fu.d, .bool Q.fu.off, .int .i64 (Q.calls : Int)] rfl rfl info_d11 rfl (HOD.out _ _ _ _ _ _) HK3.out HX3.out hle2 ?_; intro w4 k4 X4 g4))
  (try simp only [Exit.inBlock, Exit.then])
  refine bodyPost_ret (ret_agg1 rfl _ _ (w.heap.size + 1 + 1) [.int .i64 Q.sec, .slice (some ⟨g1, 0, none⟩) ts.length cap, .slice B n d, .int .i64 Q.fu.p, .int .i64 Q.fu.s, .int .i64 Q.fu.d, .bool Q.fu.off, .int .i64 (Q.calls : Int)] rfl k4 Tryz.underlying59 info_d11) rfl ?_
  have hn4 : g1 ≠ w.heap.size + 1 + 1 := by omega
  refine ⟨.slice (some ⟨g1, 0, none⟩) ts.length cap, rfl, ?_, X4⟩
  exact TpsV.own (own_set t (Nat.le_trans (by omega) hg1) hc1 hc2 hc3 HC4.out rfl hi (K3.out.grown g4 (ne_some hn4))) hF
theorem cnt8 {t : TpV} (h : t.kp.size ≤ 8000000 ∧ t.nw.size ≤ 8000000) : cntT t ≤ 250001 := by unfold cntT cntS; omega
theorem sumT_le8 {Q : DkV} (hz : ∀ t ∈ Q.tapes, t.kp.size ≤ 8000000 ∧ t.nw.size ≤ 8000000) (ids : List Int) : sumT Q ids ≤ 250001 * ids.length := by
  induction ids with
  | nil => simp [sumT]
  | cons x r ih =>
    have hx : cntT (Q.tapeAt x) ≤ 250001 := by
      unfold DkV.tapeAt
      rw [List.getD_eq_getElem?_getD]
      cases hq : Q.tapes[(x - 1).toNat]? with
      | none => exact cnt8 (t := ⟨⟨#[]⟩, ⟨#[]⟩⟩) ⟨Nat.zero_le _, Nat.zero_le _⟩
      | some t => exact cnt8 (hz t (List.mem_of_getElem? hq))
    unfold sumT at ih ⊢
    rw [List.map_cons, List.sum_cons, List.length_cons]
    omega
theorem Idz.len {Q : DkV} (h : Idz Q) : Q.fo.ids.length ≤ Q.tapes.length := up_len Q.fo.ids_up (fun x hx => (h x hx).1) (fun x hx => (h x hx).2)
theorem Idz.at {Q : DkV} (h : Idz Q) {x : Int} (hx : x ∈ Q.fo.ids) : ∃ i, i < Q.tapes.length ∧ x = (i : Int) + 1 := ⟨(x - 1).toNat, by have := h x hx; omega, by have := h x hx; omega⟩
theorem tapeAt_get {Q : DkV} {i : Nat} (hi : i < Q.tapes.length) : Q.tapeAt ((i : Int) + 1) = Q.tapes[i] := by
  unfold DkV.tapeAt
  rw [show ((i : Int) + 1 - 1).toNat = i by omega, List.getD_eq_getElem?_getD, List.getElem?_eq_getElem hi]; rfl
set_option maxHeartbeats 2000000 in
set_option maxRecDepth 100000 in
theorem rfree_calls {F : Nat → Prop} {w : World} {Q : DkV} {tv sl : Value} {M : Nat} (h : RdV F w Q tv sl) (ho : Q.fo.Ok M) (hM : M ≤ 1000000) (hi : Idz Q) (hn : Q.tapes.length ≤ 1000000) (hs1 : 0 ≤ Q.sec) (hs2 : Q.sec ≤ 4096) (hz : ∀ t ∈ Q.tapes, t.kp.size ≤ 8000000 ∧ t.nw.size ≤ 8000000) (hF : ∀ k, F k → k < w.heap.size) :
    Calls Tryz.prog 39 #[.agg (Q.rcs tv sl).toArray] w fun e w' => e = .returned (.int .i64 (Q.sec - (Q.taken : Int))) ∧ Ex w w' := by
  obtain ⟨⟨A, c, rfl, hrow⟩, hls⟩ := h
  obtain ⟨B, n, d, rfl⟩ := hls.shape
  have hX := ex_alloc (Ex.refl w) (.cells (Q.rcs (.slice A Q.tapes.length c) (.slice B n d)).toArray 59)
  have hB := Blk.new w (Q.rcs (.slice A Q.tapes.length c) (.slice B n d)) 59
  have hil := hi.len
  have HR := Lib.hid (hrow.row.ex hX)
  have HB := Lib.hid hB
  have HX := Lib.hid hX
  have HL := Lib.hid (hls.ex hX)
  have HI := Lib.hid hi
  have HO := Lib.hid ho
  have HZ := Lib.hid hz
  have HFw := Lib.hid (fun k hk => Nat.lt_of_lt_of_le (hF k hk) hX.size)
  have hsum := Lib.hid (fun k => sumT_le8 hz (Q.fo.ids.take k))
  clear hrow hls hX hB hi ho hz
  unfold DkV.rcs
  go_enter Tryz.func39, Tryz.ntmps39
  go_wp2_with fail
  refine (rfids_calls (T := Q.tapes.length) HL.out HO.out hM HI.out hn HFw.out).mono ?_
  rintro e w1 ⟨v1, rfl, ⟨iA, ic, rfl, hir⟩, hb1⟩
  have HIR := Lib.hid hir
  have HX1 := Lib.hid (HX.out.trans hb1)
  have HR1 := Lib.hid (HR.out.ex hb1)
  have HB1 := Lib.hid (HB.out.ex hb1)
  clear hir hb1
  go_wp2_with fail
  go_loopw [3, 5] (fun v i wr => ∃ k : Nat, k ≤ Q.fo.ids.length ∧ i = .int .i64 (k : Int) ∧ v = .int .i64 (Q.sec - (sumT Q (Q.fo.ids.take k) : Int)) ∧ Ex w1 wr) (fun _ i _ => Q.fo.ids.length - (intOf i).toNat)
  case atStart => exact ⟨0, Nat.zero_le _, rfl, by simp [sumT], Ex.refl _⟩
  case round =>
    obtain ⟨k, hk, rfl, rfl, hb⟩ := hrel
    have HB2 := Lib.hid hb
    clear hb
    have hs3 : sumT Q (Q.fo.ids.take k) ≤ 250001 * 1000000 := by
      have := hsum.out k
      have h2 : (Q.fo.ids.take k).length ≤ 1000000 := by rw [List.length_take]; omega
      have := Nat.mul_le_mul_left 250001 h2
      omega
    by_cases hlt : k < Q.fo.ids.length
    · obtain ⟨j, hj, ej⟩ := HI.out.at (List.getElem_mem hlt)
      obtain ⟨b, o, rfl, ci⟩ := row_at (HIR.out.row.ex HB2.out) (k := k) (v := .int .i64 Q.fo.ids[k]) (by rw [List.getElem?_map, List.getElem?_eq_getElem hlt]; rfl)
      obtain ⟨b2, o2, rfl, ck, cn⟩ := (HR1.out.ex HB2.out).tp hj
      rw [ej] at ci
      have hz3 := HZ.out _ (List.getElem_mem hj)
      have HS := Lib.hid (sumT_succ Q hlt)
      have HT := Lib.hid (show cntT (Q.tapeAt Q.fo.ids[k]) = cntS (max Q.tapes[j].nw.size Q.tapes[j].kp.size) from by rw [ej, tapeAt_get hj]; rfl)
      have hcb : cntS (max Q.tapes[j].nw.size Q.tapes[j].kp.size) ≤ 250001 := cnt8 (t := Q.tapes[j]) hz3
      have x1 : wr.cell? ⟨w.heap.size, 1, none⟩ = some (.slice (some ⟨b2, o2, none⟩) Q.tapes.length c) := HB2.out.cell (HB1.out.cell 1)
      have q1 := Wd.cell x1
      have qi := Wd.cell ci
      have qk := Wd.cell ck
      have qn := Wd.cell cn
      have hz3k := hz3.1
      have hz3n := hz3.2
      have hjI : (j : Int) + 1 - 1 = (j : Int) := by omega
      have hjl : (j : Int) < (Q.tapes.length : Int) := by omega
      have hjn : ((j : Int)).toNat = j := by omega
      clear x1 ci ck cn hz3
      generalize Q.tapes[j] = t at *
      go_wp2_with fail
      refine wp_region_calm (by kernel_rfl) (by kernel_rfl) ?_
      repeat (go_big_quiet_step ((go_at_call 99; exact calm_of (rtsectors_calls t hz3k hz3n))))
      refine wpQuiet_nil ?_
      intro w2 hX2
      replace hX2 := calm_world hX2
      go_wp2_with fail
      exact ⟨⟨k + 1, by omega, by go_num, by rw [HS.out, HT.out]; congr 1; omega, HB2.out.trans hX2⟩, by simp [intOf]; omega⟩
    · have hkl : k = Q.fo.ids.length := by omega
      subst hkl
      have HS := Lib.hid (List.take_length (l := Q.fo.ids))
      go_wp2_with fail
      go_ret
      exact ⟨by rw [HS.out]; rfl, HX1.out.trans HB2.out⟩
end Go.Proofs.YtcffkmlnbnjibaaGreat
