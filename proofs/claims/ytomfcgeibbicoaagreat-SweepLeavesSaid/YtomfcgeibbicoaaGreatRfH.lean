/- The document's disk: Create. -/
import Derived.Test.YtomfcgeibbicoaaGreatRf1
import Derived.Test.YtomfcgeibbicoaaGreatTiC
namespace Go.Proofs.YtomfcgeibbicoaaGreat
open Go.RowKit
/-- What a call of the document's disk gives: the disk, the error. -/
def OpR (F : Nat → Prop) (w : World) (r : DkV × Int) (w' : World) (e : Ending) : Prop := ∃ tv sl, e = .returned (.tuple #[.agg (r.1.rcs tv sl).toArray, .int .i64 r.2]) ∧ RdV F w' r.1 tv sl ∧ Ex w w'
theorem opR {F G : Nat → Prop} {w wn wz : World} {g : Nat} {Q : DkV} {c : Int} {tv sl : Value} {e : Ending} (he : e = .returned (.tuple #[.agg (Q.rcs tv sl).toArray, .int .i64 c])) (hR : RdV G wn Q tv sl) (hg : wn.grownBy wz (some g)) (h1 : G g) (hG : ∀ k, F k → G k) (hX : Ex w wz) : OpR F w (Q, c) wz e :=
  ⟨tv, sl, he, (hR.offs (off_grown hg) fun k hk => by rw [hk]; exact h1).less hG, hX⟩
theorem same_blk {G : Nat → Prop} {g : Nat} (h : G g) : ∀ k, k = g → G k := fun k hk => by rw [hk]; exact h
theorem Idz.find {Q : DkV} (h : Idz Q) {s : ByteArray} (hf : (findM s Q.fo.now).2 = true) : ∃ i, i < Q.tapes.length ∧ Q.idOf s = (i : Int) + 1 := by
  obtain ⟨m, hm, hmi, _, e⟩ := findM_mem (P := fun m => m.pl ∈ Q.fo.ids) (s := s) (l := Q.fo.now) (fun m hm => by
    have hL : Q.fo.now ∈ Q.fo.lists := List.mem_of_getElem? (lists_last Q.fo)
    unfold FoV.ids
    rw [setI_mem, List.mem_flatMap]
    exact ⟨_, hL, List.mem_map.2 ⟨m, hm, rfl⟩⟩) hf
  obtain ⟨i, hi, e2⟩ := h.at hmi
  exact ⟨i, hi, by unfold DkV.idOf; rw [e, e2]⟩
theorem TpsV.row {F : Nat → Prop} {w : World} {A : Option Addr} {n c : Nat} {l : List TpV} (h : TpsV F w (.slice A n c) l) : n = l.length ∧ Row w 2 A n (l.flatMap TpV.rs) := by
  obtain ⟨A', c', e, h⟩ := h
  injection e with e1 e2 e3
  subst e1; subst e2
  exact ⟨rfl, h.row⟩
theorem row_t {w : World} {T : TypeId} {t : TpV} : Row (w.alloc (.cells #[.string t.kp, .string t.nw] T)) 2 (some ⟨w.heap.size, 0, none⟩) 1 ([t].flatMap TpV.rs) := (Blk.new w t.rs T).row (k := 2) (n := 1) (Nat.le_refl 2)
theorem one_sl (A : Option Addr) (n c : Nat) : ∀ v ∈ [Value.slice A n c], v.oneCell' = true := fun v hv => by rw [List.mem_singleton.1 hv]; rfl
theorem lt_more {G : Nat → Prop} {a b : Nat} (h : ∀ k, G k → k < a) (hab : a ≤ b) : ∀ k, G k → k < b := fun k hk => Nat.lt_of_lt_of_le (h k hk) hab
theorem idOf_none {Q : DkV} {s : ByteArray} (hf : (findM s Q.fo.now).2 = false) : Q.idOf s = 0 := by
  unfold DkV.idOf findM at *
  cases h : Q.fo.now.find? (nmIs s) with
  | none => rfl
  | some m => rw [h] at hf; cases hf
set_option maxHeartbeats 2000000 in
set_option maxRecDepth 100000 in
theorem rcreate_calls {F : Nat → Prop} {w : World} {Q : DkV} {tv sl : Value} {M : Nat} (s : ByteArray) (h : RdV F w Q tv sl) (ho : Q.Ok M) (hM : M ≤ 800000) (hi : Idz Q) (hs : s.size ≤ 9223372036854775807) (hF : ∀ k, F k → k < w.heap.size) :
    Calls Tryz.prog 213 #[.agg (Q.rcs tv sl).toArray, .string s] w fun e w' => OpR F w (Q.create s) w' e := by
  obtain ⟨tA, tc, sB, sn, sd, rfl, rfl⟩ := h.shape
  obtain ⟨tm, htm⟩ : ∃ m, m = Q.tapes.length := ⟨_, rfl⟩
  rw [← htm] at h ⊢
  have hX := ex_two w (.cells (Q.rcs (.slice tA tm tc) (.slice sB sn sd)).toArray 40) (.cells zeroD.toArray 40)
  have hB := (Blk.new w (Q.rcs (.slice tA tm tc) (.slice sB sn sd)) 40).ex (ex_alloc (Ex.refl _) (.cells zeroD.toArray 40))
  have HK0 := Lib.hid (blk_two w (.cells (Q.rcs (.slice tA tm tc) (.slice sB sn sd)).toArray 40) zeroD 40)
  obtain ⟨G, hG, eG⟩ := Grow.mk2 hX hF
  have HG := Lib.hid hG
  have HG0 := Lib.hid (hG.new w.heap.size (Nat.le_refl _) (by simp; omega))
  have HG1 := Lib.hid (hG.new (w.heap.size + 1) (Nat.le_succ _) (by simp))
  have HR0 := Lib.hid (hG.rd eG h)
  have HB0 := Lib.hid hB
  have HX0 := Lib.hid hX
  have HF0 := Lib.hid hG.lt
  have HRw := Lib.hid h
  have HI := Lib.hid hi
  have HO := Lib.hid ho
  have HOD := Lib.hid disk_one
  have hle := Nat.le_refl w.heap.size
  have hle1 := Nat.le_succ w.heap.size
  have hne1 : w.heap.size + 1 ≠ w.heap.size := by omega
  have htl : tm ≤ 800000 := by have := ho.tl; omega
  have hcalls : Q.calls ≤ 1000000 := by have := ho.cl; omega
  have HTM := Lib.hid htm
  clear h ho hi hX hB hG eG htm hF
  obtain ⟨qsec, qts, qfo, ⟨qp, qs, qd, qoff⟩, qcalls⟩ := Q
  cases qoff
  · obtain ⟨Q1, hQ1⟩ : ∃ Q1, Q1 = ((⟨qsec, qts, qfo, ⟨qp, qs, qd, false⟩, qcalls⟩ : DkV).ask false).1 := ⟨_, rfl⟩
    obtain ⟨qe, hQe⟩ : ∃ qe, qe = ((⟨qsec, qts, qfo, ⟨qp, qs, qd, false⟩, qcalls⟩ : DkV).ask false).2 := ⟨_, rfl⟩
    have HTp1 := Lib.hid (show Q1.tapes = (⟨qsec, qts, qfo, ⟨qp, qs, qd, false⟩, qcalls⟩ : DkV).tapes from by rw [hQ1]; rfl)
    have HFo1 := Lib.hid (show Q1.fo = (⟨qsec, qts, qfo, ⟨qp, qs, qd, false⟩, qcalls⟩ : DkV).fo from by rw [hQ1]; rfl)
    have HQE := Lib.hid hQe
    have HQ1 := Lib.hid hQ1
    clear hQe hQ1
    unfold DkV.rcs
    go_enter Tryz.func213, Tryz.ntmps213
    go_wp2_with fail
    refine (rmay_calls s _ hs).mono ?_
    rintro e w1 ⟨rfl, hb1⟩
    have HB1 := Lib.hid (HB0.out.ex hb1)
    have HK1 := Lib.hid (HK0.out.ex hb1)
    have HX1 := Lib.hid (HX0.out.trans hb1)
    have HR1 := Lib.hid (HR0.out.ex hb1)
    have HF1 := Lib.hid (fun k hk => Nat.lt_of_lt_of_le (HF0.out k hk) hb1.size)
    obtain ⟨x0, x1, x2, x3, x4, x5, x6, x7⟩ := rd_cells HB1.out
    clear hb1
    cases hmay : mayB s
    · have HE := Lib.hid (show (⟨qsec, qts, qfo, ⟨qp, qs, qd, false⟩, qcalls⟩ : DkV).create s = ((⟨qsec, qts, qfo, ⟨qp, qs, qd, false⟩, qcalls⟩ : DkV), 7) from by unfold DkV.create; rw [if_neg Bool.false_ne_true, if_pos hmay])
      go_wp2_with (refine st_agg 40 rfl (.tmp 4) (.tmp 16) rfl (w.heap.size + 1) [.int .i64 0, .slice none 0 0, .slice none 0 0, .int .i64 0, .int .i64 0, .int .i64 0, .bool false, .int .i64 0] ((⟨qsec, qts, qfo, ⟨qp, qs, qd, false⟩, qcalls⟩ : DkV).rcs (.slice tA tm tc) (.slice sB sn sd)) rfl rfl info_d11 rfl (HOD.out _ _ _ _ _ _ _) HK1.out HX1.out hle1 ?_; intro wz kz Xz gz)
      (try simp only [Exit.inBlock, Exit.then])
      refine bodyPost_ret (ret_agg2 rfl _ _ (w.heap.size + 1) ((⟨qsec, qts, qfo, ⟨qp, qs, qd, false⟩, qcalls⟩ : DkV).rcs (.slice tA tm tc) (.slice sB sn sd)) rfl kz Tryz.underlying40 info_d11) rfl ?_
      rw [HE.out]
      exact opR rfl HR1.out gz HG1.out HG.out.of Xz
    · go_wp2_with fail
      refine (rdfind_calls s HR1.out HO.out.fo (by omega)).mono ?_
      rintro e w2 ⟨rfl, hb2⟩
      clear x0 x1 x2 x3 x4 x5 x6 x7
      have HB2 := Lib.hid (HB1.out.ex hb2)
      have HK2 := Lib.hid (HK1.out.ex hb2)
      have HX2 := Lib.hid (HX1.out.trans hb2)
      have HR2 := Lib.hid (HR1.out.ex hb2)
      have HF2 := Lib.hid (fun k hk => Nat.lt_of_lt_of_le (HF1.out k hk) hb2.size)
      obtain ⟨x0, x1, x2, x3, x4, x5, x6, x7⟩ := rd_cells HB2.out
      clear hb2
      cases hf : (findM s (⟨qsec, qts, qfo, ⟨qp, qs, qd, false⟩, qcalls⟩ : DkV).fo.now).2
      · rw [idOf_none hf]
        go_wp2_with fail
        refine (rfids_calls (T := tm) HR2.out.fo HO.out.fo (by omega) (fun x hx => by rw [HTM.out]; exact HI.out x hx) (by omega) HF2.out).mono ?_
        rintro e w3 ⟨v3, rfl, ⟨iA, ic, rfl, hir⟩, hb3⟩
        clear x0 x1 x2 x3 x4 x5 x6 x7
        have HB3 := Lib.hid (HB2.out.ex hb3)
        have HK3 := Lib.hid (HK2.out.ex hb3)
        have HX3 := Lib.hid (HX2.out.trans hb3)
        have HR3 := Lib.hid (HR2.out.ex hb3)
        have HF3 := Lib.hid (fun k hk => Nat.lt_of_lt_of_le (HF2.out k hk) hb3.size)
        obtain ⟨x0, x1, x2, x3, x4, x5, x6, x7⟩ := rd_cells HB3.out
        clear hb3
        obtain ⟨nl, hnl⟩ : ∃ nl, nl = (⟨qsec, qts, qfo, ⟨qp, qs, qd, false⟩, qcalls⟩ : DkV).fo.ids.length := ⟨_, rfl⟩
        rw [← hnl]
        by_cases h64 : 64 ≤ nl
        · have HE := Lib.hid (show (⟨qsec, qts, qfo, ⟨qp, qs, qd, false⟩, qcalls⟩ : DkV).create s = ((⟨qsec, qts, qfo, ⟨qp, qs, qd, false⟩, qcalls⟩ : DkV), 9) from by unfold DkV.create; rw [if_neg Bool.false_ne_true, if_neg (by rw [hmay]; simp), if_neg (by rw [hf]; simp), if_pos (by rw [← hnl]; exact h64)])
          have d64 : decide (64 ≤ (nl : Int)) = true := decide_eq_true (by omega)
          clear hnl hmay hf hir
          go_wp2_with (refine st_agg 40 rfl (.tmp 4) (.tmp 29) rfl (w.heap.size + 1) [.int .i64 0, .slice none 0 0, .slice none 0 0, .int .i64 0, .int .i64 0, .int .i64 0, .bool false, .int .i64 0] ((⟨qsec, qts, qfo, ⟨qp, qs, qd, false⟩, qcalls⟩ : DkV).rcs (.slice tA tm tc) (.slice sB sn sd)) rfl rfl info_d11 rfl (HOD.out _ _ _ _ _ _ _) HK3.out HX3.out hle1 ?_; intro wz kz Xz gz)
          (try simp only [Exit.inBlock, Exit.then])
          refine bodyPost_ret (ret_agg2 rfl _ _ (w.heap.size + 1) ((⟨qsec, qts, qfo, ⟨qp, qs, qd, false⟩, qcalls⟩ : DkV).rcs (.slice tA tm tc) (.slice sB sn sd)) rfl kz Tryz.underlying40 info_d11) rfl ?_
          rw [HE.out]
          exact opR rfl HR3.out gz HG1.out HG.out.of Xz
        · have d64 : decide (64 ≤ (nl : Int)) = false := decide_eq_false (by omega)
          have HC := Lib.hid (show (⟨qsec, qts, qfo, ⟨qp, qs, qd, false⟩, qcalls⟩ : DkV).create s = if ((⟨qsec, qts, qfo, ⟨qp, qs, qd, false⟩, qcalls⟩ : DkV).ask false).2 = 0 then (((⟨qsec, qts, qfo, ⟨qp, qs, qd, false⟩, qcalls⟩ : DkV).ask false).1.add s ⟨⟨#[]⟩, ⟨#[]⟩⟩, 0) else (⟨qsec, qts, qfo, ⟨qp, qs, qd, false⟩, qcalls⟩ : DkV).ask false from by unfold DkV.create; rw [if_neg Bool.false_ne_true, if_neg (by rw [hmay]; simp), if_neg (by rw [hf]; simp), if_neg (by rw [← hnl]; exact h64)])
          have HFN := Lib.hid hf
          clear hnl hmay hf hir
          go_wp2_with fail
          refine (rask_calls false HR3.out HO.out.fu hcalls).mono ?_
          rintro e w4 ⟨rfl, hb4⟩
          clear x0 x1 x2 x3 x4 x5 x6 x7
          have HB4 := Lib.hid (HB3.out.ex hb4)
          have HK4 := Lib.hid (HK3.out.ex hb4)
          have HX4 := Lib.hid (HX3.out.trans hb4)
          have HR4 := Lib.hid (HR3.out.ex hb4)
          have HF4 := Lib.hid (fun k hk => Nat.lt_of_lt_of_le (HF3.out k hk) hb4.size)
          clear hb4
          rw [← HQ1.out, ← HQE.out]
          unfold DkV.rcs
          by_cases hq0 : qe = 0
          · have HE := Lib.hid (show (⟨qsec, qts, qfo, ⟨qp, qs, qd, false⟩, qcalls⟩ : DkV).create s = (Q1.add s ⟨⟨#[]⟩, ⟨#[]⟩⟩, 0) from by rw [HC.out, if_pos (by rw [← HQE.out]; exact hq0), ← HQ1.out])
            subst hq0
            have HN5 := Lib.hid (HR4.out.tp.row).1
            have HOne := Lib.hid (tps_one Q1.tapes)
            have HOne2 := Lib.hid (tps_one [⟨⟨#[]⟩, ⟨#[]⟩⟩])
            have hsm : 0 + tm ≤ 100000000 := by omega
            have hsm2 : tm + 1 ≤ 100000000 := by omega
            have hf1 : 1 + 1 ≤ 8 := by decide
            have hf2 : 2 + 1 ≤ 8 := by decide
            have HOfo := Lib.hid (show Q1.fo.Ok M from by rw [HFo1.out]; exact HO.out.fo)
            have hM1 : M ≤ 1000000 := by omega
            have HP := Lib.hid (show (Q1.fo.put s ((tm : Int) + 1)).1 = (Q1.add s ⟨⟨#[]⟩, ⟨#[]⟩⟩).fo from by unfold FoV.put DkV.add; rw [HFo1.out, if_neg (by rw [HFN.out]; simp), HN5.out, HTp1.out])
            go_wp2_with (first
              | (refine st_agg 40 rfl (.tmp 2) (.tmp 33) rfl w.heap.size ((⟨qsec, qts, qfo, ⟨qp, qs, qd, false⟩, qcalls⟩ : DkV).rcs (.slice tA tm tc) (.slice sB sn sd)) [.int .i64 Q1.sec, (.slice tA tm tc), (.slice sB sn sd), .int .i64 Q1.fu.p, .int .i64 Q1.fu.s, .int .i64 Q1.fu.d, .bool Q1.fu.off, .int .i64 (Q1.calls : Int)] rfl rfl info_d11 rfl (HOD.out _ _ _ _ _ _ _) HB4.out HX4.out hle ?_; intro w5 k5 X5 g5; have HB5 := Lib.hid k5; have HX5 := Lib.hid X5; have HK5 := Lib.hid (HK4.out.grown g5 (ne_some hne1)); have HR5 := Lib.hid (((HR4.out.offs (off_grown g5) (same_blk HG0.out)).same (Q' := Q1) HTp1.out HFo1.out)); have HF5 := Lib.hid (fun k hk => Nat.lt_of_lt_of_le (HF4.out k hk) g5.size); obtain ⟨x0, x1, x2, x3, x4, x5, x6, x7⟩ := rd_cells (Q := Q1) (tv := (.slice tA tm tc)) (sl := (.slice sB sn sd)) k5; clear k5 X5 g5; have xa1 := (ex_alloc (Ex.refl w5) (.cells #[] 110)).cell x1)
              | (at_builtin; refine app_own 33 110 (.agg #[.string ⟨#[]⟩, .string ⟨#[]⟩]) 2 32 Tryz.underlying33 info_t7 rfl (by decide) (by decide) rfl (.tmp 39) (.tmp 41) rfl w5.heap.size _ 0 [] rfl (own_lit w5 110 2) tA tm tc (Q1.tapes.flatMap TpV.rs) rfl ((HR5.out.tp.row).2.ex (ex_alloc (Ex.refl w5) _)) HOne.out hsm (ex_alloc (Ex.refl w5) _).size (ex_alloc (Ex.refl w5) _) ?_; intro v6 w6 o6 b6; rw [Nat.zero_add, List.nil_append] at o6; obtain ⟨A6, c6, rfl, _⟩ := own_shape o6; have O6 := Lib.hid o6; have B6 := Lib.hid b6; have z6 := b6.size; clear o6 b6)
              | (at_builtin; refine app_own 33 110 (.agg #[.string ⟨#[]⟩, .string ⟨#[]⟩]) 2 32 Tryz.underlying33 info_t7 rfl (by decide) (by decide) rfl (.tmp 42) (.tmp 44) rfl w5.heap.size _ tm (Q1.tapes.flatMap TpV.rs) rfl (O6.out.alloc _) (some ⟨w6.heap.size, 0, none⟩) 1 1 ([⟨⟨#[]⟩, ⟨#[]⟩⟩].flatMap TpV.rs) rfl row_t HOne2.out hsm2 (Nat.le_trans z6 (ex_alloc (Ex.refl w6) _).size) (B6.out.alloc z6 _) ?_; intro v7 w7 o7 b7; rw [← List.flatMap_append] at o7; obtain ⟨A7, c7, rfl, _⟩ := own_shape o7; have O7 := Lib.hid o7; have HB7 := Lib.hid (HB5.out.ex b7); have HK7 := Lib.hid (HK5.out.ex b7); have HX7 := Lib.hid (HX5.out.trans b7); have HR7 := Lib.hid (HR5.out.ex b7); have HF7 := Lib.hid (TpsV.own (F := G) o7 HF5.out); have z7 := b7.size; clear o7 b7)
              | (refine st_at 33 40 rfl (.tmp 46) (.tmp 45) rfl w.heap.size 1 _ [.int .i64 Q1.sec, (.slice A7 (tm + 1) c7), (.slice sB sn sd), .int .i64 Q1.fu.p, .int .i64 Q1.fu.s, .int .i64 Q1.fu.d, .bool Q1.fu.off, .int .i64 (Q1.calls : Int)] [.slice A7 (tm + 1) c7] _ rfl rfl HB7.out rfl info_sl rfl hf1 (one_sl _ _ _) HX7.out hle ?_; intro w8 k8 X8 g8; have HB8 := Lib.hid k8; have HX8 := Lib.hid X8; have HK8 := Lib.hid (HK7.out.grown g8 (ne_some hne1)); have HL8 := Lib.hid (HR7.out.fo.offs (off_grown g8) (same_blk HG0.out)); have HT8 := Lib.hid (HF7.out.offs (off_grown g8) (same_blk HG0.out)); have HF8 := Lib.hid (lt_more HF5.out (Nat.le_trans z7 g8.size)); obtain ⟨x0, x1, x2, x3, x4, x5, x6, x7⟩ := rd_cells (Q := Q1) (tv := .slice A7 (tm + 1) c7) (sl := .slice sB sn sd) k8; clear k8 X8 g8))
            refine (rfput_calls (F := G) (q := Q1.fo) s ((tm : Int) + 1) HL8.out HOfo.out hM1 HF8.out).mono ?_
            rintro e w9 ⟨sl9, rfl, hl9, hb9⟩
            obtain ⟨B9, n9, d9, rfl⟩ := hl9.shape
            rw [HP.out] at hl9
            clear x0 x1 x2 x3 x4 x5 x6 x7
            have HB9 := Lib.hid (HB8.out.ex hb9)
            have HK9 := Lib.hid (HK8.out.ex hb9)
            have HX9 := Lib.hid (HX8.out.trans hb9)
            have HR9 := Lib.hid (show RdV G w9 (Q1.add s ⟨⟨#[]⟩, ⟨#[]⟩⟩) (.slice A7 (tm + 1) c7) (.slice B9 n9 d9) from ⟨HT8.out.ex hb9, hl9⟩)
            clear hl9 hb9
            go_wp2_with (first
              | (refine st_at 36 40 rfl (.tmp 57) (.tmp 55) rfl w.heap.size 2 _ [.int .i64 Q1.sec, (.slice A7 (tm + 1) c7), (.slice B9 n9 d9), .int .i64 Q1.fu.p, .int .i64 Q1.fu.s, .int .i64 Q1.fu.d, .bool Q1.fu.off, .int .i64 (Q1.calls : Int)] [.slice B9 n9 d9] _ rfl rfl HB9.out rfl info_f9 rfl hf2 (one_sl _ _ _) HX9.out hle ?_; intro w10 k10 X10 g10; have HX10 := Lib.hid X10; have HK10 := Lib.hid (HK9.out.grown g10 (ne_some hne1)); have HR10 := Lib.hid (HR9.out.offs (off_grown g10) (same_blk HG0.out)); obtain ⟨x0, x1, x2, x3, x4, x5, x6, x7⟩ := rd_cells (Q := Q1) (tv := .slice A7 (tm + 1) c7) (sl := .slice B9 n9 d9) k10; clear k10 X10 g10)
              | (refine st_agg 40 rfl (.tmp 4) (.tmp 58) rfl (w.heap.size + 1) [.int .i64 0, .slice none 0 0, .slice none 0 0, .int .i64 0, .int .i64 0, .int .i64 0, .bool false, .int .i64 0] [.int .i64 Q1.sec, (.slice A7 (tm + 1) c7), (.slice B9 n9 d9), .int .i64 Q1.fu.p, .int .i64 Q1.fu.s, .int .i64 Q1.fu.d, .bool Q1.fu.off, .int .i64 (Q1.calls : Int)] rfl rfl info_d11 rfl (HOD.out Q1 _ _ _ _ _ _) HK10.out HX10.out hle1 ?_; intro wz kz Xz gz))
            (try simp only [Exit.inBlock, Exit.then])
            refine bodyPost_ret (ret_agg2 rfl _ _ (w.heap.size + 1) [.int .i64 Q1.sec, (.slice A7 (tm + 1) c7), (.slice B9 n9 d9), .int .i64 Q1.fu.p, .int .i64 Q1.fu.s, .int .i64 Q1.fu.d, .bool Q1.fu.off, .int .i64 (Q1.calls : Int)] rfl kz Tryz.underlying40 info_d11) rfl ?_
            rw [HE.out]
            exact opR (Q := Q1.add s ⟨⟨#[]⟩, ⟨#[]⟩⟩) rfl HR10.out gz HG1.out HG.out.of Xz
          · have HE := Lib.hid (show (⟨qsec, qts, qfo, ⟨qp, qs, qd, false⟩, qcalls⟩ : DkV).create s = (Q1, qe) from by rw [HC.out, if_neg (by rw [← HQE.out]; exact hq0), HQ1.out, HQE.out])
            have q1 : decide (qe = 0) = false := decide_eq_false hq0
            have q2 : (qe == 0) = false := beq_eq_false_iff_ne.2 hq0
            have q3 : (qe != 0) = true := by rw [bne, q2]; rfl
            go_wp2_with (first
              | (refine st_agg 40 rfl (.tmp 2) (.tmp 33) rfl w.heap.size ((⟨qsec, qts, qfo, ⟨qp, qs, qd, false⟩, qcalls⟩ : DkV).rcs (.slice tA tm tc) (.slice sB sn sd)) [.int .i64 Q1.sec, (.slice tA tm tc), (.slice sB sn sd), .int .i64 Q1.fu.p, .int .i64 Q1.fu.s, .int .i64 Q1.fu.d, .bool Q1.fu.off, .int .i64 (Q1.calls : Int)] rfl rfl info_d11 rfl (HOD.out _ _ _ _ _ _ _) HB4.out HX4.out hle ?_; intro w5 k5 X5 g5; have HB5 := Lib.hid k5; have HX5 := Lib.hid X5; have HK5 := Lib.hid (HK4.out.grown g5 (ne_some hne1)); have HR5 := Lib.hid (((HR4.out.offs (off_grown g5) (same_blk HG0.out)).same (Q' := Q1) HTp1.out HFo1.out)); have HF5 := Lib.hid (fun k hk => Nat.lt_of_lt_of_le (HF4.out k hk) g5.size); obtain ⟨x0, x1, x2, x3, x4, x5, x6, x7⟩ := rd_cells (Q := Q1) (tv := (.slice tA tm tc)) (sl := (.slice sB sn sd)) k5; clear k5 X5 g5)
              | (refine st_agg 40 rfl (.tmp 4) (.tmp 37) rfl (w.heap.size + 1) [.int .i64 0, .slice none 0 0, .slice none 0 0, .int .i64 0, .int .i64 0, .int .i64 0, .bool false, .int .i64 0] [.int .i64 Q1.sec, (.slice tA tm tc), (.slice sB sn sd), .int .i64 Q1.fu.p, .int .i64 Q1.fu.s, .int .i64 Q1.fu.d, .bool Q1.fu.off, .int .i64 (Q1.calls : Int)] rfl rfl info_d11 rfl (HOD.out Q1 _ _ _ _ _ _) HK5.out HX5.out hle1 ?_; intro wz kz Xz gz))
            (try simp only [Exit.inBlock, Exit.then])
            refine bodyPost_ret (ret_agg2 rfl _ _ (w.heap.size + 1) [.int .i64 Q1.sec, (.slice tA tm tc), (.slice sB sn sd), .int .i64 Q1.fu.p, .int .i64 Q1.fu.s, .int .i64 Q1.fu.d, .bool Q1.fu.off, .int .i64 (Q1.calls : Int)] rfl kz Tryz.underlying40 info_d11) rfl ?_
            rw [HE.out]
            exact opR (Q := Q1) rfl HR5.out gz HG1.out HG.out.of Xz
      · obtain ⟨i, hi2, hid⟩ := HI.out.find hf
        have HE := Lib.hid (show (⟨qsec, qts, qfo, ⟨qp, qs, qd, false⟩, qcalls⟩ : DkV).create s = ((⟨qsec, qts, qfo, ⟨qp, qs, qd, false⟩, qcalls⟩ : DkV), 17) from by unfold DkV.create; rw [if_neg Bool.false_ne_true, if_neg (by rw [hmay]; simp), if_pos hf])
        rw [hid]
        have dI : decide (0 < (i : Int) + 1) = true := decide_eq_true (by omega)
        clear hid hmay hf hi2
        go_wp2_with (refine st_agg 40 rfl (.tmp 4) (.tmp 22) rfl (w.heap.size + 1) [.int .i64 0, .slice none 0 0, .slice none 0 0, .int .i64 0, .int .i64 0, .int .i64 0, .bool false, .int .i64 0] ((⟨qsec, qts, qfo, ⟨qp, qs, qd, false⟩, qcalls⟩ : DkV).rcs (.slice tA tm tc) (.slice sB sn sd)) rfl rfl info_d11 rfl (HOD.out _ _ _ _ _ _ _) HK2.out HX2.out hle1 ?_; intro wz kz Xz gz)
        (try simp only [Exit.inBlock, Exit.then])
        refine bodyPost_ret (ret_agg2 rfl _ _ (w.heap.size + 1) ((⟨qsec, qts, qfo, ⟨qp, qs, qd, false⟩, qcalls⟩ : DkV).rcs (.slice tA tm tc) (.slice sB sn sd)) rfl kz Tryz.underlying40 info_d11) rfl ?_
        rw [HE.out]
        exact opR rfl HR2.out gz HG1.out HG.out.of Xz
  · have HE := Lib.hid (show (⟨qsec, qts, qfo, ⟨qp, qs, qd, true⟩, qcalls⟩ : DkV).create s = ((⟨qsec, qts, qfo, ⟨qp, qs, qd, true⟩, qcalls⟩ : DkV), 14) from by unfold DkV.create; rw [if_pos rfl])
    unfold DkV.rcs
    go_enter Tryz.func213, Tryz.ntmps213
    go_wp2_with fail
    (try simp only [Exit.inBlock, Exit.then])
    refine bodyPost_ret (ret_agg2 rfl _ _ (w.heap.size + 1) ((⟨qsec, qts, qfo, ⟨qp, qs, qd, true⟩, qcalls⟩ : DkV).rcs (.slice tA tm tc) (.slice sB sn sd)) rfl (blk_two _ _ _ _) Tryz.underlying40 info_d11) rfl ?_
    rw [HE.out]
    exact ⟨_, _, rfl, HRw.out.ex (ex_two _ _ _), ex_two _ _ _⟩
end Go.Proofs.YtomfcgeibbicoaaGreat
