/- The document's disk: Crash. -/
import Derived.StillTailTactics
import Derived.Test.YtcffkmlnbnjibaaGreatRfO
import Derived.Test.YtcffkmlnbnjibaaGreatRfN
namespace Go.Proofs.YtcffkmlnbnjibaaGreat
open Go.RowKit
/-- What Crash of the document gives: the disk, how many choices were used. -/
def CrR (F : Nat → Prop) (w : World) (r : DkV × Nat) (w' : World) (e : Ending) : Prop := ∃ tv sl, e = .returned (.tuple #[.agg (r.1.rcs tv sl).toArray, .int .i64 (r.2 : Int)]) ∧ RdV F w' r.1 tv sl ∧ Ex w w'
/-- The document's disk while the power goes: it lies in block b; the numbers of all tapes. -/
structure Crg (G : Nat → Prop) (w0 w : World) (b b4 : Nat) (iv : Value) (ids : List Int) (Q : DkV) (tv sl : Value) : Prop where
  rd : RdV G w Q tv sl
  blk : Blk w b 59 (Q.rcs tv sl)
  res : Blk w b4 59 zeroD
  ids : InV G w iv ids
  ex : Ex w0 w
section
variable {G : Nat → Prop} {w0 w w1 w2 : World} {b b4 : Nat} {iv : Value} {ids : List Int} {Q : DkV} {tv sl tv' : Value}
theorem Crg.grow (h : Crg G w0 w b b4 iv ids Q tv sl) (hb : Ex w w1) : Crg G w0 w1 b b4 iv ids Q tv sl :=
  ⟨h.rd.ex hb, h.blk.ex hb, h.res.ex hb, h.ids.ex hb, h.ex.trans hb⟩
theorem Crg.next (h : Crg G w0 w b b4 iv ids Q tv sl) (hG : G b) (hb : w0.heap.size ≤ b) (hn : b4 ≠ b) {id : Int} {t : TpV} (hX : Ex w w1) (ht : TpsV G w1 tv' (Q.setT id t).tapes) (ho : Off (· = b) w1 w2) (hB : Blk w2 b 59 ((Q.setT id t).rcs tv' sl)) : Crg G w0 w2 b b4 iv ids (Q.setT id t) tv' sl :=
  ⟨⟨ht.offs ho (same_blk hG), (h.rd.fo.ex hX).offs ho (same_blk hG)⟩, hB, (h.res.ex hX).off ho hn, (h.ids.ex hX).offs ho (same_blk hG), new_off (h.ex.trans hX) (ho.mono fun k _ (hk : k = b) => by show w0.heap.size ≤ k; omega)⟩
end
theorem TpsV.shp {F : Nat → Prop} {w : World} {v : Value} {l : List TpV} (h : TpsV F w v l) : ∃ A n c, v = .slice A n c := by
  obtain ⟨A, c, e, _⟩ := h
  exact ⟨A, _, c, e⟩
theorem InV.row' {F : Nat → Prop} {w : World} {A : Option Addr} {n c : Nat} {l : List Int} (h : InV F w (.slice A n c) l) : Row w 1 A n (l.map (Value.int .i64)) := by
  obtain ⟨A', c', e, h⟩ := h
  injection e with e1 e2 e3
  subst e1; subst e2
  exact h.row
theorem rest_lt {ch : ByteArray} {u : Nat} (h : u < ch.size) : restS ch u = ch.extract u ch.size := by unfold restS; rw [Nat.min_eq_left (by omega)]
theorem rest_ge {ch : ByteArray} {u : Nat} (h : ¬ u < ch.size) : restS ch u = ⟨#[]⟩ := by
  unfold restS
  rw [Nat.min_eq_right (by omega)]
  exact ByteArray.extract_same
theorem crashL_len (ch : ByteArray) : ∀ (ids : List Int) (s : DkV × Nat), (crashL ch ids s).1.tapes.length = s.1.tapes.length
  | [], _ => rfl
  | id :: r, s => by
    unfold crashL
    rw [crashL_len ch r]
    unfold DkV.setT
    exact List.length_set
theorem crashL_fo (ch : ByteArray) : ∀ (ids : List Int) (s : DkV × Nat), (crashL ch ids s).1.fo = s.1.fo
  | [], _ => rfl
  | id :: r, s => by
    unfold crashL
    rw [crashL_fo ch r]
    rfl
set_option maxHeartbeats 12000000 in
set_option maxRecDepth 100000 in
theorem rcrash_calls {F : Nat → Prop} {w : World} {Q : DkV} {tv sl : Value} {M : Nat} (ch : ByteArray) (hs : ch.size ≤ 4611686018427387904) (h : RdV F w Q tv sl) (ho : Q.Ok M) (hM : M ≤ 800000) (hi : Idz Q) (hF : ∀ k, F k → k < w.heap.size) :
    Calls Tryz.prog 89 #[.agg (Q.rcs tv sl).toArray, .string ch] w fun e w' => CrR F w (Q.crash ch) w' e := by
  obtain ⟨tA, tc, sB, sn, sd, rfl, rfl⟩ := h.shape
  obtain ⟨tm, htm⟩ : ∃ m, m = Q.tapes.length := ⟨_, rfl⟩
  rw [← htm] at h ⊢
  have hX := ex_two w (.cells (Q.rcs (.slice tA tm tc) (.slice sB sn sd)).toArray 59) (.cells zeroD.toArray 59)
  have hB := (Blk.new w (Q.rcs (.slice tA tm tc) (.slice sB sn sd)) 59).ex (ex_alloc (Ex.refl _) (.cells zeroD.toArray 59))
  have HK0 := Lib.hid (blk_two w (.cells (Q.rcs (.slice tA tm tc) (.slice sB sn sd)).toArray 59) zeroD 59)
  obtain ⟨G, hG, eG⟩ := Grow.mk2 hX hF
  have HG := Lib.hid hG
  have HG0 := Lib.hid (hG.new w.heap.size (Nat.le_refl _) (by simp; omega))
  have HG1 := Lib.hid (hG.new (w.heap.size + 1) (Nat.le_succ _) (by simp))
  have HR0 := Lib.hid (hG.rd eG h)
  have HB0 := Lib.hid hB
  have HX0 := Lib.hid hX
  have HF0 := Lib.hid hG.lt
  have HFs := Lib.hid (show ∀ k, G k → k < w.heap.size + 1 + 1 from fun k hk => by have h1 := hG.lt k hk; simpa using h1)
  have HI := Lib.hid hi
  have HO := Lib.hid ho
  have HOD := Lib.hid disk_one
  have hle := Nat.le_refl w.heap.size
  have hle1 := Nat.le_succ w.heap.size
  have hne1 : w.heap.size + 1 ≠ w.heap.size := by omega
  have htl : tm ≤ 800000 := by have := ho.tl; omega
  have hil : Q.fo.ids.length ≤ 800000 := by have := hi.len; omega
  have HTM := Lib.hid htm
  have HC1 := Lib.hid (crash1_ok ho ch)
  have hfok := ho.fo
  have hq : Q.fo.ch.length ≤ 1000000 := by have := hfok.kl; omega
  have HFO := Lib.hid hfok
  clear h ho hi hX hB hG eG htm hF hfok
  have HQC := Lib.hid (show Q.crash ch = crashL ch Q.fo.ids (Q.crash1 ch, 1) from rfl)
  have HQ1 := Lib.hid (show Q.crash1 ch = (⟨Q.sec, Q.tapes, Q.fo.crash (byteAt ch 0 : Int), FuV.calm, Q.calls⟩ : DkV) from rfl)
  have hb256 := byteAt_lt ch 0
  have hf3 : 3 + 4 ≤ 8 := by decide
  have hf2 : 2 + 1 ≤ 8 := by decide
  have HF1 := Lib.hid (fun h : ¬ 0 < ch.size => show byteAt ch 0 = 0 from by unfold byteAt; rw [dif_neg (by omega)])
  unfold DkV.rcs
  go_enter Tryz.func89, Tryz.ntmps89
  go_wp2_with fail
  refine (rfnew_calls _).mono ?_
  rintro e w1 ⟨rfl, hb1⟩
  have HB1 := Lib.hid (HB0.out.ex hb1)
  have HK1 := Lib.hid (HK0.out.ex hb1)
  have HX1 := Lib.hid (HX0.out.trans hb1)
  have HR1 := Lib.hid (HR0.out.ex hb1)
  have HFa := Lib.hid (fun k hk => Nat.lt_of_lt_of_le (HF0.out k hk) hb1.size)
  clear hb1
  unfold FuV.agg
  by_cases h0 : 0 < ch.size
  case' pos =>
    have d0 : decide ((0 : Int) < (ch.size : Int)) = true := decide_eq_true (by omega)
    have hb0 : (ch[0]'(by omega)).toNat = byteAt ch 0 := by unfold byteAt; rw [dif_pos (by omega)]
  case' neg =>
    have d0 : decide ((0 : Int) < (ch.size : Int)) = false := decide_eq_false (by omega)
    have HBA := Lib.hid (HF1.out h0)
  all_goals
    go_wp2_with (refine st_at 57 59 rfl (.tmp 14) (.tmp 13) rfl w.heap.size 3 _ ((⟨Q.sec, Q.tapes, Q.fo, FuV.calm, Q.calls⟩ : DkV).rcs (.slice tA tm tc) (.slice sB sn sd)) (FuV.rs FuV.calm) _ rfl rfl HB1.out rfl info_rf rfl hf3 (FuV.rs_one _) HX1.out hle ?_; intro w2 k2 X2 g2; have HB2 := Lib.hid k2; have HX2 := Lib.hid X2; have HK2 := Lib.hid (HK1.out.grown g2 (ne_some hne1)); have HR2 := Lib.hid (HR1.out.offs (off_grown g2) (same_blk HG0.out)); have HF2 := Lib.hid (lt_more HFa.out g2.size); obtain ⟨x0, x1, x2, x3, x4, x5, x6, x7⟩ := rd_cells (Q := (⟨Q.sec, Q.tapes, Q.fo, FuV.calm, Q.calls⟩ : DkV)) (tv := (.slice tA tm tc)) (sl := (.slice sB sn sd)) k2; clear k2 X2 g2)
    refine (rfids_calls (T := tm) HR2.out.fo HFO.out (by omega) (fun x hx => by rw [HTM.out]; exact HI.out x hx) (by omega) HF2.out).mono ?_
    rintro e w3 ⟨v3, rfl, hir, hb3⟩
    obtain ⟨iA, ic, rfl⟩ := hir.shape
    clear x0 x1 x2 x3 x4 x5 x6 x7
    have HB3 := Lib.hid (HB2.out.ex hb3)
    have HK3 := Lib.hid (HK2.out.ex hb3)
    have HX3 := Lib.hid (HX2.out.trans hb3)
    have HR3 := Lib.hid (HR2.out.ex hb3)
    have HF3 := Lib.hid (lt_more HF2.out hb3.size)
    have HI3 := Lib.hid hir
    obtain ⟨x0, x1, x2, x3, x4, x5, x6, x7⟩ := rd_cells HB3.out
    clear hb3 hir
    go_wp2_with fail
    refine (rfcrash_calls _ (by omega) (by omega) HR3.out.fo hq HF3.out).mono ?_
    rintro e w4 ⟨sl4, rfl, hl4, hb4⟩
    have hl4' : LsV G w4 sl4 (Q.crash1 ch).fo.lists := by first | exact hl4 | (rw [HQ1.out, HBA.out]; exact hl4)
    obtain ⟨sB4, sn4, sd4, rfl⟩ := hl4'.shape
    have HB4 := Lib.hid (HB3.out.ex hb4)
    have HK4 := Lib.hid (HK3.out.ex hb4)
    have HX4 := Lib.hid (HX3.out.trans hb4)
    have HR4 := Lib.hid (show RdV G w4 (Q.crash1 ch) (.slice tA tm tc) (.slice sB4 sn4 sd4) from ⟨HR3.out.tp.ex hb4, hl4'⟩)
    have HI4 := Lib.hid (HI3.out.ex hb4)
    clear x0 x1 x2 x3 x4 x5 x6 x7 hb4 hl4 hl4'
    go_wp2_with (refine st_at 55 59 rfl (.tmp 31) (.tmp 29) rfl w.heap.size 2 _ ((Q.crash1 ch).rcs (.slice tA tm tc) (.slice sB4 sn4 sd4)) [.slice sB4 sn4 sd4] _ rfl rfl HB4.out rfl info_f9 rfl hf2 (one_sl _ _ _) HX4.out hle ?_; intro w5 k5 X5 g5; have HC5 := Lib.hid (show Crg G w w5 w.heap.size (w.heap.size + 1) (.slice iA Q.fo.ids.length ic) Q.fo.ids (Q.crash1 ch) (.slice tA tm tc) (.slice sB4 sn4 sd4) from ⟨HR4.out.offs (off_grown g5) (same_blk HG0.out), k5, HK4.out.grown g5 (ne_some hne1), HI4.out.offs (off_grown g5) (same_blk HG0.out), X5⟩); clear k5 X5 g5)
    clear HI4 HR4 HX4 HK4 HB4 HI3 HF3 HR3 HX3 HK3 HB3 HF2 HR2 HX2 HK2 HB2 HB1 HX1 HR1 HFa HK1
    have HIA := Lib.hid (show ∀ x ∈ Q.fo.ids, ∃ i, i < tm ∧ x = (i : Int) + 1 from fun x hx => by rw [HTM.out]; exact HI.out.at hx)
    have HN1 := Lib.hid (show (Q.crash1 ch).tapes.length = tm from by rw [HQ1.out, HTM.out])
    generalize Q.fo.ids = ids at *
    generalize Q.crash1 ch = Q1 at *
    go_loopw [8, 9] (fun v8 v9 wr => ∃ (k : Nat) (tv sl : Value), k ≤ ids.length ∧ v9 = .int .i64 (k : Int) ∧ v8 = .int .i64 ((crashL ch (ids.take k) (Q1, 1)).2 : Int) ∧ Crg G w wr w.heap.size (w.heap.size + 1) (.slice iA ids.length ic) ids (crashL ch (ids.take k) (Q1, 1)).1 tv sl) (fun _ v9 _ => ids.length - (intOf v9).toNat)
    case atStart => exact ⟨0, _, _, Nat.zero_le _, rfl, rfl, HC5.out⟩
    case round =>
      clear HC5
      obtain ⟨k, tv, sl, hk, rfl, rfl, hh⟩ := hrel
      have hcl := crashL_ok (ch := ch) (ids.take k) (Q1, 1) HC1.out
      have hcn := crashL_len ch (ids.take k) (Q1, 1)
      have htk : (ids.take k).length ≤ ids.length := by rw [List.length_take]; omega
      obtain ⟨A2, c2, sB2, sn2, sd2, rfl, rfl⟩ := hh.rd.shape
      by_cases hlt : k < ids.length
      · have HS := Lib.hid ((congrArg (fun x => crashL ch x (Q1, 1)) (List.take_succ_eq_append_getElem hlt)).trans (crashL_succ ch (ids.take k) (Q1, 1) ids[k]))
        obtain ⟨j, hj, ej⟩ := HIA.out _ (List.getElem_mem hlt)
        obtain ⟨ib, io, eib, ci⟩ := row_at hh.ids.row' (k := k) (v := .int .i64 ids[k]) (by rw [List.getElem?_map, List.getElem?_eq_getElem hlt]; rfl)
        rw [ej] at ci HS
        subst eib
        clear ej
        generalize crashL ch (ids.take k) (Q1, 1) = st at *
        obtain ⟨Qk, uk⟩ := st
        obtain ⟨hok, huk⟩ := hcl
        simp only at huk hok hcn hh HS ⊢
        have hj2 : j < Qk.tapes.length := by have := HN1.out; omega
        have hn2 : Qk.tapes.length ≤ 800000 := by have := HN1.out; omega
        obtain ⟨b2, o2, eb2, ck, cn⟩ := hh.rd.tp.row.2.tp hj2
        subst eb2
        have hTA := tapeAt_get hj2
        have hz := hok.tz _ (List.getElem_mem hj2)
        obtain ⟨rs, hrs⟩ : ∃ rs, restS ch uk = rs := ⟨_, rfl⟩
        have hst : crashL ch [(j : Int) + 1] (Qk, uk) = (Qk.setT ((j : Int) + 1) (Qk.tapes[j].left rs), uk + (mixS Qk.tapes[j].kp Qk.tapes[j].nw rs).2) := by
          rw [← hTA, ← hrs]; rfl
        rw [hst] at HS
        have hmz := mix_sz (ch := rs) hz.1 hz.2
        have HCT := Lib.hid (fun (W : World) => rtcrash_calls (w := W) Qk.tapes[j] rs (by omega) (by omega))
        have HCP := Lib.hid (fun (W : World) (hR : RdV G W Qk (.slice (some ⟨b2, o2, none⟩) Qk.tapes.length c2) (.slice sB2 sn2 sd2)) (hF : ∀ k, G k → k < W.heap.size) => rtape_calls (Qk.tapes[j].left rs) j hR hj2 (by omega) hF)
        have hH := hh
        obtain ⟨x0, x1, x2, x3, x4, x5, x6, x7⟩ := rd_cells hH.blk
        have H := Lib.hid hh
        have hju : (j : Int) < (Qk.tapes.length : Int) := by omega
        have hjI : (j : Int) + 1 - 1 = (j : Int) := by omega
        have hjn : ((j : Int)).toNat = j := by omega
        have hj0 : (0 : Int) ≤ (j : Int) := by omega
        have hkI : (k : Int) < (ids.length : Int) := by omega
        have hk0 : (0 : Int) ≤ (k : Int) := by omega
        have hkn : ((k : Int)).toNat = k := by omega
        have HOK := Lib.hid hok
        unfold TpV.agg at HCT HCP
        unfold DkV.rcs at HCP
        clear hTA hz hst hok hh hH hcn
        generalize Qk.tapes[j] = t at *
        generalize Qk.tapes.length = n2 at *
        obtain ⟨kp, nw⟩ := t
        simp only at ck cn HCT HCP hmz
        unfold TpV.left at HCT HCP HS
        generalize mixS kp nw rs = mx at *
        obtain ⟨mt, mu⟩ := mx
        simp only at HCT HCP hmz HS
        have hmu := hmz.2
        have hu4 : uk ≤ 4000000000 := by omega
        have hu40 : (0 : Int) ≤ (uk : Int) := by omega
        have hukn : ((uk : Int)).toNat = uk := by omega
        by_cases hus : uk < ch.size
        case' pos =>
          have d2 : decide ((uk : Int) < (ch.size : Int)) = true := decide_eq_true (by omega)
          have huc : (uk : Int) ≤ (ch.size : Int) := by omega
          have hex : ch.extract uk ch.size = rs := by rw [← hrs, rest_lt hus]
          clear hrs
        case' neg =>
          have d2 : decide ((uk : Int) < (ch.size : Int)) = false := decide_eq_false (by omega)
          obtain rfl : rs = ⟨#[]⟩ := by rw [← hrs, rest_ge hus]
          clear hrs
        all_goals
          have hbl := H.out.blk.lt
          have hibl := World.block_lt_of_cell? wr _ ci
          have hb2l := World.block_lt_of_cell? wr _ ck
          simp only at hibl hb2l
          have hjw : IntKind.i64.wrap (j : Int) = (j : Int) := IntWalk.i64_in _ (by omega)
          have hjw2 : IntKind.i64.wrap ((j : Int) + 1 - 1) = (j : Int) := by rw [hjI]; exact hjw
          have hm1 : ¬ wr.heap.size = w.heap.size := by omega
          have hm2 : ¬ w.heap.size = wr.heap.size := by omega
          have hm3 : ¬ wr.heap.size = ib := by omega
          have hm4 : ¬ ib = wr.heap.size := by omega
          have hm5 : ¬ wr.heap.size = b2 := by omega
          have hm6 : ¬ b2 = wr.heap.size := by omega
          go_wp2_with fail
          go_region_held3 (fun w' => w'.cell? ⟨w.heap.size, 1, none⟩ = some (.slice (some ⟨b2, o2, none⟩) n2 c2) ∧ w'.cell? ⟨ib, io + k, none⟩ = some (.int .i64 ((j : Int) + 1)) ∧ w'.cell? ⟨b2, o2 + j * 2, none⟩ = some (.string kp) ∧ w'.cell? ⟨b2, o2 + j * 2 + 1, none⟩ = some (.string nw)) (go_keep) ((go_at_call 133; ((with_reducible refine (HCT.out _).mono ?_); rintro e w6 ⟨rfl, hb6⟩; (first | (have HX6 := Lib.hid (Ex.trans (Ex.refl wr).drew hb6)) | (have HX6 := Lib.hid (Ex.trans (ex_alloc (Ex.refl wr).drew _) hb6); have hb9 := (Blk.new wr.drew [.string ⟨#[]⟩, .string ⟨#[]⟩] 124).ex hb6; have z90 : w6.cell? ⟨wr.heap.size, 0, none⟩ = some (.string ⟨#[]⟩) := hb9.cell 0; have z91 : w6.cell? ⟨wr.heap.size, 1, none⟩ = some (.string ⟨#[]⟩) := hb9.cell 1; have z9f : w6.frozen? ⟨wr.heap.size, 0, none⟩ = false := hb9.frozen 0; have z9g : w6.frozen? ⟨wr.heap.size, 1, none⟩ = false := hb9.frozen 1; have HB9 := Lib.hid hb9; clear hb9)); clear hb6; have y1 := HX6.out.cell x1; have yi := HX6.out.cell ci; have yk := HX6.out.cell ck; have yn := HX6.out.cell cn)))
          all_goals
            first
              | (have hE := ((HX6.out.off (fun j => j = wr.heap.size)).trans ((off_set w6 wr.heap.size 0 (.string mt)).trans (off_set (w6.setCell ⟨wr.heap.size, 0, none⟩ (.string mt)) wr.heap.size 1 (.string mt)))).ex (fun j hj (e : j = wr.heap.size) => by omega)
                 have hB9 : Blk ((w6.setCell ⟨wr.heap.size, 0, none⟩ (.string mt)).setCell ⟨wr.heap.size, 1, none⟩ (.string mt)) wr.heap.size 124 [.string mt, .string mt] := (HB9.out.setCell (i := 0) (.string mt)).setCell (i := 1) (.string mt)
                 clear HX6 HB9 z90 z91 z9f z9g
                 generalize (w6.setCell ⟨wr.heap.size, 0, none⟩ (.string mt)).setCell ⟨wr.heap.size, 1, none⟩ (.string mt) = W5 at *
                 obtain ⟨b9, hb9⟩ : ∃ b9, wr.heap.size = b9 := ⟨_, rfl⟩
                 rw [hb9] at hB9 ⊢)
              | (have hE := ex_alloc HX6.out (.cells #[.string mt, .string mt] 124)
                 have hB9 := Blk.new w6 [.string mt, .string mt] 124
                 have hz6 := HX6.out.size
                 clear HX6
                 obtain ⟨b9, hb9⟩ : ∃ b9, w6.heap.size = b9 := ⟨_, rfl⟩
                 rw [hb9] at hB9 ⊢
                 generalize w6.alloc (.cells [Value.string mt, Value.string mt].toArray 124) = W5 at *)
          all_goals
            have H5 := Lib.hid (H.out.grow hE)
            have z90 := hB9.cell 0
            have z91 := hB9.cell 1
            have HZB := Lib.hid hB9
            have HE5 := Lib.hid hE
            have ci5 := hE.cell ci
            have hz5 := hE.size
            clear hB9 hb9 x0 x1 x2 x3 x4 x5 x6 x7 y1 yi yk yn
            obtain ⟨x0, x1, x2, x3, x4, x5, x6, x7⟩ := rd_cells H5.out.blk
            have HGW := Lib.hid (show ∀ k, G k → k < W5.heap.size from fun k hk => by have h1 := HFs.out k hk; have h2 := H5.out.res.lt; omega)
            have hw2 : IntKind.i64.wrap ((uk : Int) + (mu : Int)) = (uk : Int) + (mu : Int) := IntWalk.i64_in _ (by omega)
            have HMU := Lib.hid (show ((uk + mu : Nat) : Int) = (uk : Int) + (mu : Int) from Int.natCast_add _ _)
            have hbw := Nat.le_refl w.heap.size
            have HGD := Lib.hid (show ∀ k, G k → k < W5.drew.heap.size from HGW.out)
            have HRD := Lib.hid (H5.out.rd.ex (Ex.refl W5).drew)
            go_wp2_with fail
            go_still_tail 6, (by kernel_rfl)
            change wpList _ _ _ _ _ W5.drew
            have HB6 := Lib.hid (H5.out.blk.ex (Ex.refl W5).drew)
            have HE6 := Lib.hid (Ex.refl W5).drew
            clear x0 x1 x2 x3 x4 x5 x6 x7
            generalize W5.drew = W6 at *
            go_wp2_with fail
            refine (HCP.out _ HRD.out HGD.out).mono ?_
            rintro e w7 ⟨tv7, rfl, ht7, hb7⟩
            obtain ⟨A7, n7, c7, rfl⟩ := TpsV.shp ht7
            have HT7 := Lib.hid (show TpsV G w7 (.slice A7 n7 c7) (Qk.setT ((j : Int) + 1) ⟨mt, mt⟩).tapes from by rw [rsetT_at]; exact ht7)
            have HX7 := Lib.hid (Ex.trans HE6.out hb7)
            have HB7 := Lib.hid (H5.out.blk.ex HX7.out)
            have HX8 := Lib.hid (H5.out.ex.trans HX7.out)
            have HOn := Lib.hid (disk_one (Qk.setT ((j : Int) + 1) ⟨mt, mt⟩) A7 n7 c7 sB2 sn2 sd2)
            clear ht7 hb7
            go_wp2_with (refine st_agg 59 rfl (.tmp 2) (.tmp 65) rfl w.heap.size (Qk.rcs (.slice (some ⟨b2, o2, none⟩) n2 c2) (.slice sB2 sn2 sd2)) ((Qk.setT ((j : Int) + 1) ⟨mt, mt⟩).rcs (.slice A7 n7 c7) (.slice sB2 sn2 sd2)) rfl rfl info_d11 rfl HOn.out HB7.out HX8.out hbw ?_; intro w8 k8 X8 g8; have HN := Lib.hid (H5.out.next HG0.out hbw hne1 HX7.out HT7.out (off_grown g8) k8); clear k8 X8 g8)
            exact ⟨⟨k + 1, _, _, by omega, by go_num, by rw [HS.out, HMU.out], by rw [HS.out]; exact HN.out⟩, by simp [intOf]; omega⟩
      · have hkl : k = ids.length := by omega
        subst hkl
        rw [List.take_length] at hh ⊢
        generalize crashL ch ids (Q1, 1) = st at *
        clear hcl hcn htk
        obtain ⟨Qf, uf⟩ := st
        simp only at hh ⊢
        generalize Qf.tapes.length = nf at *
        obtain ⟨x0, x1, x2, x3, x4, x5, x6, x7⟩ := rd_cells hh.blk
        have H := Lib.hid hh
        have HOn := Lib.hid (disk_one Qf A2 nf c2 sB2 sn2 sd2)
        clear hh
        go_wp2_with (refine st_agg 59 rfl (.tmp 4) (.tmp 69) rfl (w.heap.size + 1) zeroD (Qf.rcs (.slice A2 nf c2) (.slice sB2 sn2 sd2)) rfl rfl info_d11 rfl HOn.out H.out.res H.out.ex hle1 ?_; intro wz kz Xz gz)
        (try simp only [Exit.inBlock, Exit.then])
        refine bodyPost_ret (ret_agg2 rfl _ _ (w.heap.size + 1) (Qf.rcs (.slice A2 nf c2) (.slice sB2 sn2 sd2)) rfl kz Tryz.underlying59 info_d11) rfl ?_
        rw [HQC.out]
        exact ⟨_, _, rfl, (H.out.rd.offs (off_grown gz) (same_blk HG1.out)).less HG.out.of, Xz⟩
end Go.Proofs.YtcffkmlnbnjibaaGreat
