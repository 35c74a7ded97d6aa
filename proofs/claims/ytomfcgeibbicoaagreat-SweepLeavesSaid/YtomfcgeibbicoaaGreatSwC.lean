/- The document's sweep: Remove. -/
import Derived.StillTailTactics
import Derived.Test.YtomfcgeibbicoaaGreatSw0
import Derived.Test.YtomfcgeibbicoaaGreatRfN
namespace Go.Proofs.YtomfcgeibbicoaaGreat
open Go.RowKit
/-- The document's disk in a call's own block b; the result in b4. -/
structure Dg (G : Nat → Prop) (w0 w : World) (b b4 : Nat) (Q : DkV) (tv sl : Value) : Prop where
  rd : RdV G w Q tv sl
  blk : Blk w b 40 (Q.rcs tv sl)
  res : Blk w b4 40 zeroD
  ex : Ex w0 w
section
variable {G : Nat → Prop} {w0 w w1 w2 : World} {b b4 : Nat} {Q Q' : DkV} {tv sl tv' sl' : Value}
theorem Dg.grow (h : Dg G w0 w b b4 Q tv sl) (hb : Ex w w1) : Dg G w0 w1 b b4 Q tv sl := ⟨h.rd.ex hb, h.blk.ex hb, h.res.ex hb, h.ex.trans hb⟩
theorem Dg.next (h : Dg G w0 w b b4 Q tv sl) (hG : G b) (hb : w0.heap.size ≤ b) (hn : b4 ≠ b) (hX : Ex w w1) (hr : RdV G w1 Q' tv' sl') (ho : Off (· = b) w1 w2) (hB : Blk w2 b 40 (Q'.rcs tv' sl')) : Dg G w0 w2 b b4 Q' tv' sl' :=
  ⟨hr.offs ho (same_blk hG), hB, (h.res.ex hX).off ho hn, new_off (h.ex.trans hX) (ho.mono fun k _ (hk : k = b) => by show w0.heap.size ≤ k; omega)⟩
end
set_option maxHeartbeats 4000000 in
set_option maxRecDepth 100000 in
theorem rsremove_calls {F : Nat → Prop} {w : World} {Q : DkV} {tv sl : Value} {M : Nat} (h : RdV F w Q tv sl) (ho : Q.Ok M) (hi : Idz Q) (A : Option Addr) (c : Nat) (l : List ByteArray) (hr : Row w 1 A l.length (l.map Value.string)) (hl : ∀ s ∈ l, s.size ≤ 9223372036854775807) (hM : M + 2 * l.length ≤ 800000) (hF : ∀ k, F k → k < w.heap.size) :
    Calls Tryz.prog 15 #[.agg (Q.rcs tv sl).toArray, .slice A l.length c] w fun e w' => Op3 F w (Q.rems l 0) w' e := by
  obtain ⟨tA, tc, sB, sn, sd, rfl, rfl⟩ := h.shape
  have hX := ex_two w (.cells (Q.rcs (.slice tA Q.tapes.length tc) (.slice sB sn sd)).toArray 40) (.cells zeroD.toArray 40)
  have hB := (Blk.new w (Q.rcs (.slice tA Q.tapes.length tc) (.slice sB sn sd)) 40).ex (ex_alloc (Ex.refl _) (.cells zeroD.toArray 40))
  obtain ⟨G, hG, eG⟩ := Grow.mk2 hX hF
  have HG := Lib.hid hG
  have HG0 := Lib.hid (hG.new w.heap.size (Nat.le_refl _) (by simp; omega))
  have HG1 := Lib.hid (hG.new (w.heap.size + 1) (Nat.le_succ _) (by simp))
  have HFs := Lib.hid (show ∀ k, G k → k < w.heap.size + 1 + 1 from fun k hk => by have h1 := hG.lt k hk; simpa using h1)
  have HD := Lib.hid (show Dg G w ((w.alloc (.cells (Q.rcs (.slice tA Q.tapes.length tc) (.slice sB sn sd)).toArray 40)).alloc (.cells zeroD.toArray 40)) w.heap.size (w.heap.size + 1) Q (.slice tA Q.tapes.length tc) (.slice sB sn sd) from ⟨hG.rd eG h, hB, blk_two w (.cells (Q.rcs (.slice tA Q.tapes.length tc) (.slice sB sn sd)).toArray 40) zeroD 40, hX⟩)
  have HR := Lib.hid hr
  have HL := Lib.hid hl
  have HO := Lib.hid ho
  have HI := Lib.hid hi
  have hle := Nat.le_refl w.heap.size
  have hle1 := Nat.le_succ w.heap.size
  have hne1 : w.heap.size + 1 ≠ w.heap.size := by omega
  clear h hX hB hG eG hr hl ho hi hF
  unfold DkV.rcs at HD ⊢
  unfold zeroD at HD
  generalize Q.tapes.length = tm at *
  go_enter Tryz.func15, Tryz.ntmps15
  go_wp2_with fail
  go_loopw [7, 8] (fun v7 v8 wr => ∃ (k n : Nat) (Qk : DkV) (tv sl : Value), k ≤ l.length ∧ v8 = .int .i64 (k : Int) ∧ v7 = .int .i64 (n : Int) ∧ n ≤ k ∧ Dg G w wr w.heap.size (w.heap.size + 1) Qk tv sl ∧ Q.rems l 0 = Qk.rems (l.drop k) n ∧ Qk.Ok (M + 2 * k) ∧ Idz Qk) (fun _ v8 _ => l.length - (intOf v8).toNat)
  case atStart => exact ⟨0, 0, Q, _, _, Nat.zero_le _, rfl, rfl, Nat.le_refl _, HD.out, rfl, HO.out, HI.out⟩
  case round =>
    clear HD
    obtain ⟨k, n, Qk, tv, sl, hk, rfl, rfl, hnk, hh, heq, hok, hiz⟩ := hrel
    have H := Lib.hid hh
    have HEQ := Lib.hid heq
    have HOK := Lib.hid hok
    have HIZ := Lib.hid hiz
    have hres := hh.res.lt
    have HGW := Lib.hid (show ∀ j, G j → j < wr.heap.size from fun j hj => by have h1 := HFs.out j hj; omega)
    obtain ⟨A2, c2, sB2, sn2, sd2, rfl, rfl⟩ := hh.rd.shape
    obtain ⟨x0, x1, x2, x3, x4, x5, x6, x7⟩ := rd_cells hh.blk
    by_cases hlt : k < l.length
    · obtain ⟨ab, ao, rfl, c0⟩ := row_at (HR.out.ex hh.ex) (k := k) (v := .string l[k]) (by rw [List.getElem?_map, List.getElem?_eq_getElem hlt]; rfl)
      have hsz := HL.out _ (List.getElem_mem hlt)
      have hQ : Q.rems l 0 = if (Qk.remove l[k]).2 = 0 then (Qk.remove l[k]).1.rems (l.drop (k + 1)) (n + 1) else if (Qk.remove l[k]).2 = 8 then (Qk.remove l[k]).1.rems (l.drop (k + 1)) n else ((Qk.remove l[k]).1, n, (Qk.remove l[k]).2) := by rw [heq, drop_next hlt]; rfl
      generalize l[k] = s at *
      have hok2 := remove_ok (s := s) hok hsz
      have hiz2 := hiz.remove s
      have hcp := fun (W : World) (hR : RdV G W Qk (.slice A2 Qk.tapes.length c2) (.slice sB2 sn2 sd2)) (hF : ∀ j, G j → j < W.heap.size) => rremove_calls s hR hok (by omega) hiz hF
      obtain ⟨Q', qe, hq⟩ : ∃ Q' qe, Qk.remove s = (Q', qe) := ⟨_, _, rfl⟩
      rw [hq] at hQ hok2 hiz2 hcp
      have HQ := Lib.hid hQ
      have HOK2 := Lib.hid hok2
      have HIZ2 := Lib.hid hiz2
      have HCP := Lib.hid hcp
      have hkI : (k : Int) < (l.length : Int) := by omega
      have hk0 : (0 : Int) ≤ (k : Int) := by omega
      have hkn : ((k : Int)).toNat = k := by omega
      have hkw : IntKind.i64.wrap ((k : Int) + 1) = (k : Int) + 1 := IntWalk.i64_in _ (by omega)
      have hnw : IntKind.i64.wrap ((n : Int) + 1) = (n : Int) + 1 := IntWalk.i64_in _ (by omega)
      have HGD := Lib.hid (show ∀ j, G j → j < wr.drew.heap.size from HGW.out)
      have HRD := Lib.hid (hh.rd.ex (Ex.refl wr).drew)
      have HED := Lib.hid (Ex.refl wr).drew
      clear hQ hok2 hiz2 hcp hq hh heq hok hiz
      unfold DkV.rcs at HCP
      generalize Qk.tapes.length = n2 at *
      go_wp2_with fail
      go_region_with (go_at_call 60; ((with_reducible refine (HCP.out _ HRD.out HGD.out).mono ?_); rintro e w7 ⟨tv7, sl7, rfl, hR7, hX7⟩; simp only at hR7; obtain ⟨A7, c7, sB7, sn7, sd7, rfl, rfl⟩ := hR7.shape; have HR7 := Lib.hid hR7; have HX7 := Lib.hid (Ex.trans HED.out hX7); have HB7 := Lib.hid (H.out.blk.ex HX7.out); clear hR7 hX7; generalize Q'.tapes.length = n7 at *; obtain ⟨z0, z1, z2, z3, z4, z5, z6, z7⟩ := rd_cells HB7.out; have f0 := HB7.out.frozen 0; have f1 := HB7.out.frozen 1; have f2 := HB7.out.frozen 2; have f3 := HB7.out.frozen 3; have f4 := HB7.out.frozen 4; have f5 := HB7.out.frozen 5; have f6 := HB7.out.frozen 6; have f7 := HB7.out.frozen 7; unfold DkV.rcs))
      all_goals
        have HN := Lib.hid (H.out.next (Q' := Q') HG0.out hle hne1 HX7.out HR7.out (off_set8 w7 w.heap.size (.int .i64 Q'.sec) (.slice A7 n7 c7) (.slice sB7 sn7 sd7) (.int .i64 Q'.fu.p) (.int .i64 Q'.fu.s) (.int .i64 Q'.fu.d) (.bool Q'.fu.off) (.int .i64 (Q'.calls : Int))) (blk_set8 HB7.out (.int .i64 Q'.sec) (.slice A7 n7 c7) (.slice sB7 sn7 sd7) (.int .i64 Q'.fu.p) (.int .i64 Q'.fu.s) (.int .i64 Q'.fu.d) (.bool Q'.fu.off) (.int .i64 (Q'.calls : Int))))
        clear x0 x1 x2 x3 x4 x5 x6 x7 z0 z1 z2 z3 z4 z5 z6 z7 f0 f1 f2 f3 f4 f5 f6 f7 c0
        generalize ((((((((w7.setCell ⟨w.heap.size, 0, none⟩ (.int .i64 Q'.sec)).setCell ⟨w.heap.size, 1, none⟩ (.slice A7 n7 c7)).setCell ⟨w.heap.size, 2, none⟩ (.slice sB7 sn7 sd7)).setCell ⟨w.heap.size, 3, none⟩ (.int .i64 Q'.fu.p)).setCell ⟨w.heap.size, 4, none⟩ (.int .i64 Q'.fu.s)).setCell ⟨w.heap.size, 5, none⟩ (.int .i64 Q'.fu.d)).setCell ⟨w.heap.size, 6, none⟩ (.bool Q'.fu.off)).setCell ⟨w.heap.size, 7, none⟩ (.int .i64 (Q'.calls : Int))) = w8 at *
        obtain ⟨y0, y1, y2, y3, y4, y5, y6, y7⟩ := rd_cells HN.out.blk
        have HOn := Lib.hid (disk_one Q' A7 n7 c7 sB7 sn7 sd7)
        unfold DkV.rcs at HOn
        by_cases hq8 : qe = 8
        · subst hq8
          go_wp2_with fail
          exact ⟨⟨k + 1, n, Q', _, _, by omega, by go_num, rfl, by omega, HN.out, by rw [HQ.out, if_neg (by decide), if_pos rfl], HOK2.out.up (by omega), HIZ2.out⟩, by simp [intOf]; omega⟩
        · by_cases hq0 : qe = 0
          · subst hq0
            go_wp2_with fail
            exact ⟨⟨k + 1, n + 1, Q', _, _, by omega, by go_num, by go_num, by omega, HN.out, by rw [HQ.out, if_pos rfl], HOK2.out.up (by omega), HIZ2.out⟩, by simp [intOf]; omega⟩
          · have e0 : (qe == 0) = false := beq_eq_false_iff_ne.2 hq0
            have e8 : (qe == 8) = false := beq_eq_false_iff_ne.2 hq8
            have d0 : decide (qe = 0) = false := decide_eq_false hq0
            have d8 : decide (qe = 8) = false := decide_eq_false hq8
            have b0 : (qe != 0) = true := by rw [bne, e0]; rfl
            have HQ2 := Lib.hid (show Q.rems l 0 = (Q', n, qe) from by rw [HQ.out, if_neg hq0, if_neg hq8])
            clear hq0 hq8
            go_wp2_with (refine st_agg 40 rfl (.tmp 4) (.tmp 30) rfl (w.heap.size + 1) zeroD [.int .i64 Q'.sec, .slice A7 n7 c7, .slice sB7 sn7 sd7, .int .i64 Q'.fu.p, .int .i64 Q'.fu.s, .int .i64 Q'.fu.d, .bool Q'.fu.off, .int .i64 (Q'.calls : Int)] rfl rfl info_d11 rfl HOn.out HN.out.res HN.out.ex hle1 ?_; intro wz kz Xz gz)
            (try simp only [Exit.inBlock, Exit.then])
            refine bodyPost_ret (ret_agg3 rfl _ _ (w.heap.size + 1) [.int .i64 Q'.sec, .slice A7 n7 c7, .slice sB7 sn7 sd7, .int .i64 Q'.fu.p, .int .i64 Q'.fu.s, .int .i64 Q'.fu.d, .bool Q'.fu.off, .int .i64 (Q'.calls : Int)] rfl kz Tryz.underlying40 info_d11) rfl ?_
            rw [HQ2.out]
            exact op3 (Q := Q') rfl HN.out.rd gz HG1.out HG.out.of Xz
    · have hkl : k = l.length := by omega
      have HQ := Lib.hid (show Q.rems l 0 = if n = 0 then (Qk, 0, 0) else (Qk.syncAll.1, n, Qk.syncAll.2) from by rw [heq, hkl, List.drop_length]; rfl)
      have hcp := fun (W : World) (hR : RdV G W Qk (.slice A2 Qk.tapes.length c2) (.slice sB2 sn2 sd2)) (hF : ∀ j, G j → j < W.heap.size) => rsyncAll_calls hR hok (by omega) hiz hF
      obtain ⟨Q', qe, hq⟩ : ∃ Q' qe, Qk.syncAll = (Q', qe) := ⟨_, _, rfl⟩
      rw [hq] at hcp HQ
      have HCP := Lib.hid hcp
      have HRD := Lib.hid hh.rd
      have HOn2 := Lib.hid (disk_one Qk A2 Qk.tapes.length c2 sB2 sn2 sd2)
      clear hcp hq hh heq hok hiz hkl
      unfold DkV.rcs at HCP HOn2
      generalize Qk.tapes.length = n2 at *
      by_cases h0 : n = 0
      · have HQ2 := Lib.hid (show Q.rems l 0 = (Qk, 0, 0) from by rw [HQ.out, if_pos h0])
        subst h0
        go_wp2_with (refine st_agg 40 rfl (.tmp 4) (.tmp 37) rfl (w.heap.size + 1) zeroD [.int .i64 Qk.sec, .slice A2 n2 c2, .slice sB2 sn2 sd2, .int .i64 Qk.fu.p, .int .i64 Qk.fu.s, .int .i64 Qk.fu.d, .bool Qk.fu.off, .int .i64 (Qk.calls : Int)] rfl rfl info_d11 rfl HOn2.out H.out.res H.out.ex hle1 ?_; intro wz kz Xz gz)
        (try simp only [Exit.inBlock, Exit.then])
        refine bodyPost_ret (ret_agg3 rfl _ _ (w.heap.size + 1) [.int .i64 Qk.sec, .slice A2 n2 c2, .slice sB2 sn2 sd2, .int .i64 Qk.fu.p, .int .i64 Qk.fu.s, .int .i64 Qk.fu.d, .bool Qk.fu.off, .int .i64 (Qk.calls : Int)] rfl kz Tryz.underlying40 info_d11) rfl ?_
        rw [HQ2.out]
        exact op3 (Q := Qk) (n := 0) rfl HRD.out gz HG1.out HG.out.of Xz
      · have HQ2 := Lib.hid (show Q.rems l 0 = (Q', n, qe) from by rw [HQ.out, if_neg h0])
        have d0 : decide ((n : Int) = 0) = false := decide_eq_false (by omega)
        have e0 : ((n : Int) == 0) = false := beq_eq_false_iff_ne.2 (by omega)
        clear h0 HQ
        go_wp2_with fail
        refine (HCP.out _ HRD.out HGW.out).mono ?_
        rintro e w7 ⟨tv7, sl7, rfl, hR7, hX7⟩
        simp only at hR7
        obtain ⟨A7, c7, sB7, sn7, sd7, rfl, rfl⟩ := hR7.shape
        have HR7 := Lib.hid hR7
        have HX7 := Lib.hid hX7
        have HB7 := Lib.hid (H.out.blk.ex hX7)
        have HXa := Lib.hid (H.out.ex.trans hX7)
        clear hR7 hX7 x0 x1 x2 x3 x4 x5 x6 x7
        generalize Q'.tapes.length = n7 at *
        have HOn := Lib.hid (disk_one Q' A7 n7 c7 sB7 sn7 sd7)
        unfold DkV.rcs at HOn ⊢
        go_wp2_with (first
          | (refine st_agg 40 rfl (.tmp 2) (.tmp 41) rfl w.heap.size [.int .i64 Qk.sec, .slice A2 n2 c2, .slice sB2 sn2 sd2, .int .i64 Qk.fu.p, .int .i64 Qk.fu.s, .int .i64 Qk.fu.d, .bool Qk.fu.off, .int .i64 (Qk.calls : Int)] [.int .i64 Q'.sec, .slice A7 n7 c7, .slice sB7 sn7 sd7, .int .i64 Q'.fu.p, .int .i64 Q'.fu.s, .int .i64 Q'.fu.d, .bool Q'.fu.off, .int .i64 (Q'.calls : Int)] rfl rfl info_d11 rfl HOn.out HB7.out HXa.out hle ?_; intro w8 k8 X8 g8; have HN := Lib.hid (H.out.next (Q' := Q') (tv' := .slice A7 n7 c7) (sl' := .slice sB7 sn7 sd7) HG0.out hle hne1 HX7.out HR7.out (off_grown g8) k8); clear k8 X8 g8; obtain ⟨y0, y1, y2, y3, y4, y5, y6, y7⟩ := rd_cells HN.out.blk)
          | (refine st_agg 40 rfl (.tmp 4) (.tmp 43) rfl (w.heap.size + 1) zeroD [.int .i64 Q'.sec, .slice A7 n7 c7, .slice sB7 sn7 sd7, .int .i64 Q'.fu.p, .int .i64 Q'.fu.s, .int .i64 Q'.fu.d, .bool Q'.fu.off, .int .i64 (Q'.calls : Int)] rfl rfl info_d11 rfl HOn.out HN.out.res HN.out.ex hle1 ?_; intro wz kz Xz gz))
        (try simp only [Exit.inBlock, Exit.then])
        refine bodyPost_ret (ret_agg3 rfl _ _ (w.heap.size + 1) [.int .i64 Q'.sec, .slice A7 n7 c7, .slice sB7 sn7 sd7, .int .i64 Q'.fu.p, .int .i64 Q'.fu.s, .int .i64 Q'.fu.d, .bool Q'.fu.off, .int .i64 (Q'.calls : Int)] rfl kz Tryz.underlying40 info_d11) rfl ?_
        rw [HQ2.out]
        exact op3 (Q := Q') rfl HN.out.rd gz HG1.out HG.out.of Xz
end Go.Proofs.YtomfcgeibbicoaaGreat
