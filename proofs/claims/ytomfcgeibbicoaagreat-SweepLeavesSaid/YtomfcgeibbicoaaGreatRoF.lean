/- Walks: the sweep's Old, by the program and by the document. -/
import Derived.Test.YtomfcgeibbicoaaGreatRo1
import Derived.Test.YtomfcgeibbicoaaGreatRo0
import Derived.Test.YtomfcgeibbicoaaGreatSwC
import Derived.Test.YtomfcgeibbicoaaGreatDkF
import Derived.StillTailTactics
namespace Go.Proofs.YtomfcgeibbicoaaGreat
open Go.RowKit Go.Maps
def DkV.nms (Q : DkV) : List ByteArray := Q.fo.now.map Mk.nm
/-- What is of no use at an epoch goes. -/
def DkV.sold (Q : DkV) (ep : Int) : DkV × Nat × Int := if Q.fu.off = true then (Q, 0, 14) else Q.rems (pickN (isOld ep) Q.nms ++ pickN isTemp Q.nms) 0
theorem nms_map (Q : DkV) : (Q.fo.now.map fun m => Value.string m.nm) = Q.nms.map Value.string := by unfold DkV.nms; rw [List.map_map]; rfl
theorem nms_len (Q : DkV) : Q.nms.length = Q.fo.now.length := by unfold DkV.nms; rw [List.length_map]
theorem own_low {w : World} {base sz n c : Nat} {e : TypeId} {A : Option Addr} {cs : List Value} (h : w.ownsRow base e sz (.slice A n c) n cs) : ∀ a, A = some a → a.block < w.heap.size := by
  intro a ha
  rcases h.2 with ⟨hn, _⟩ | ⟨g, cap, cur, hv, _, hg, _⟩
  · injection hn with e1; rw [ha] at e1; cases e1
  · injection hv with e1
    rw [ha] at e1
    cases e1
    exact (Array.getElem?_eq_some_iff.1 hg).1
theorem DkP.rise {w : World} {g : Nat} {F : Nat → Prop} {Q : DkV} (h : DkP w g F Q) : Rise Q.nms := by
  obtain ⟨tm, fg, fz, FF, l, tb, hr⟩ := h
  obtain ⟨kb, nb, v, hf⟩ := hr.fob
  have h1 := rises_names hf.now
  rw [List.pairwise_map] at h1
  show List.Pairwise _ (List.map Mk.nm Q.fo.now)
  rw [List.pairwise_map]
  exact h1.imp fun {a b} hb => up_lt.2 hb
theorem strs_cell {l : List ByteArray} : ∀ u ∈ l.map Value.string, u.oneCell' = true := by
  intro u hu
  obtain ⟨n, _, rfl⟩ := List.mem_map.1 hu
  rfl
theorem pick_sz {Q : DkV} {ep : Int} (h : ∀ s ∈ Q.nms, s.size ≤ 9223372036854775806) : ∀ s ∈ pickN (isOld ep) Q.nms ++ pickN isTemp Q.nms, s.size ≤ 9223372036854775807 := by
  intro s hs
  rcases List.mem_append.1 hs with hs | hs <;> exact Nat.le_succ_of_le (h s (List.mem_filter.1 hs).1)
set_option maxHeartbeats 1000000 in
set_option maxRecDepth 100000 in
theorem sold_calls {w : World} {g : Nat} {F : Nat → Prop} {Q : DkV} (h : DkP w g F Q) {M : Nat} (ho : Q.Ok M) (hM : M ≤ 100000) (hs : ∀ s ∈ Q.nms, s.size ≤ 9223372036854775806) (ep : Int) :
    Calls Tryz.prog 19 #[ptrV g, .int .i64 ep] w fun e w' => e = .returned (.tuple #[.int .i64 ((Q.sold ep).2.1 : Int), .int .i64 (Q.sold ep).2.2]) ∧ DkP w' g (Fresh F w w') (Q.sold ep).1 ∧ Off F w w' := by
  have H := Lib.hid h
  have HP := Lib.hid (DkP.bound h)
  have HO := Lib.hid ho
  have HRI := Lib.hid h.rise
  have HS := Lib.hid hs
  have hnl : Q.nms.length ≤ 1000000 := by rw [nms_len]; have := ho.fo.now_len; omega
  have hnm : Q.nms.length ≤ M := by rw [nms_len]; exact ho.fo.now_len
  have HI := Lib.hid (show (Tryz.prog.info? 9).map (fun i => (i.zero, i.size, i.bytes)) = some (some (.string ⟨#[]⟩), 1, 16) from by kernel_rfl)
  have hC := dlist_calls h ho (by omega)
  unfold ListP DkV.names at hC
  rw [nms_map, List.length_map] at hC
  have HC := Lib.hid hC
  unfold DkV.sold
  clear h ho hs hC
  by_cases hoff : Q.fu.off = true
  · rw [if_pos hoff]
    have HSame := Lib.hid (fun w' (hb : Ex w w') => (H.out.ex hb).more (G := Fresh F w w') Fresh.same)
    have HOF := Lib.hid hoff
    clear hoff
    go_enter Tryz.func19, Tryz.ntmps19
    go_wp2_with fail
    refine HC.out.mono ?_
    rintro e w1 ⟨⟨v, rfl, hv, _⟩, hb1⟩
    obtain rfl := hv HOF.out
    rw [if_pos HOF.out]
    go_wp2_with fail
    go_ret2
    exact ⟨rfl, HSame.out _ hb1, hb1.off F⟩
  · rw [if_neg hoff]
    have HOF := Lib.hid (Bool.eq_false_iff.2 hoff)
    clear hoff
    have hSZ := pick_sz (ep := ep) HS.out
    have hL1 := pickN_len (isOld ep) Q.nms
    have hL2 := pickN_len isTemp Q.nms
    have HT1 := Lib.hid (fun A1 c1 w1 h1 h2 => told_calls A1 c1 Q.nms hnl HS.out HRI.out ep w1 h1 h2)
    have HT2 := Lib.hid (fun A1 c1 w1 h1 h2 => ttemps_calls A1 c1 Q.nms hnl HS.out HRI.out w1 h1 h2)
    obtain ⟨L1, hl1⟩ : ∃ L1, pickN (isOld ep) Q.nms = L1 := ⟨_, rfl⟩
    obtain ⟨L2, hl2⟩ : ∃ L2, pickN isTemp Q.nms = L2 := ⟨_, rfl⟩
    rw [hl1] at HT1 hSZ hL1 ⊢
    rw [hl2] at HT2 hSZ hL2 ⊢
    obtain ⟨L, hL⟩ : ∃ L, L1 ++ L2 = L := ⟨_, rfl⟩
    have hLn : L1.length + L2.length = L.length := by rw [← hL, List.length_append]
    have HLn := Lib.hid hLn
    have HMp := Lib.hid (show L1.map Value.string ++ L2.map Value.string = L.map Value.string from by rw [← hL, List.map_append])
    rw [hL] at hSZ ⊢
    have HSZ := Lib.hid hSZ
    have hM2 : M + 2 * L.length ≤ 800000 := by omega
    have hLm : L1.length + L2.length ≤ 100000000 := by omega
    clear hl1 hl2 hL hSZ hLn hL1 hL2
    go_enter Tryz.func19, Tryz.ntmps19
    go_wp2_with fail
    refine HC.out.mono ?_
    rintro e w1 ⟨⟨v, rfl, _, hv⟩, hb1⟩
    have ho1 := hv HOF.out
    rw [if_neg (by rw [HOF.out]; decide)]
    obtain ⟨A1, c1, rfl, _⟩ := own_shape ho1
    have HR1 := Lib.hid (Row.of_own ho1)
    have HLW := Lib.hid (own_low ho1)
    have HX1 := Lib.hid hb1
    clear ho1 hb1 hv
    go_wp2_with fail
    refine (HT1.out A1 c1 w1 HR1.out HLW.out).mono ?_
    rintro e w2 ⟨v2, rfl, ho2, hb2⟩
    have HO2 := Lib.hid ho2
    have HX2 := Lib.hid hb2
    clear ho2 hb2
    go_wp2_with fail
    refine (HT2.out A1 c1 w2 (HR1.out.ex HX2.out) (fun a ha => Nat.lt_of_lt_of_le (HLW.out a ha) HX2.out.size)).mono ?_
    rintro e w3 ⟨v3, rfl, ho3, hb3⟩
    obtain ⟨A3, c3, rfl, _⟩ := own_shape ho3
    have HR3 := Lib.hid (Row.of_own ho3)
    have HO3 := Lib.hid (own_ex HO2.out hb3)
    have HX3 := Lib.hid (HX1.out.trans (HX2.out.trans hb3))
    have HX13 := Lib.hid (HX2.out.trans hb3)
    clear ho3 hb3
    go_wp2_with (at_builtin; refine app_own 23 9 (.string ⟨#[]⟩) 1 16 Tryz.underlying23 HI.out rfl (by decide) (by decide) rfl (.tmp 19) (.tmp 21) rfl w1.heap.size _ _ _ rfl HO3.out A3 _ c3 _ rfl HR3.out strs_cell hLm HX13.out.size HX13.out ?_; intro v4 w4 ho4 hb4; obtain ⟨A4, c4, rfl, _⟩ := own_shape ho4; have HX4 := Lib.hid (HX1.out.trans hb4); rw [HMp.out, HLn.out] at ho4; have HR4 := Lib.hid (Row.of_own ho4); clear ho4 hb4; rw [HLn.out])
    refine (sremove_calls (HP.out.ex HX4.out) HO.out A4 c4 L HR4.out HSZ.out hM2).mono ?_
    rintro e w5 ⟨rfl, hd, hO⟩
    go_wp2_with fail
    go_ret2
    have hz4 := HX4.out.size
    exact ⟨rfl, hd.more (fun k hk => by
      rcases hk with hk | hk
      · exact .inl hk.1
      · exact .inr ⟨by omega, hk.2⟩), (HX4.out.off F).then hO fun k _ hf => hf.1⟩
end Go.Proofs.YtomfcgeibbicoaaGreat
namespace Go.Proofs.YtomfcgeibbicoaaGreat
open Go.RowKit Go.Maps
set_option maxHeartbeats 4000000 in
set_option maxRecDepth 100000 in
theorem rsold_calls {F : Nat → Prop} {w : World} {Q : DkV} {tv sl : Value} {M : Nat} (h : RdV F w Q tv sl) (ho : Q.Ok M) (hi : Idz Q) (hri : Rise Q.nms) (hs : ∀ s ∈ Q.nms, s.size ≤ 9223372036854775806) (ep : Int) (hM : M ≤ 100000) (hF : ∀ k, F k → k < w.heap.size) :
    Calls Tryz.prog 20 #[.agg (Q.rcs tv sl).toArray, .int .i64 ep] w fun e w' => Op3 F w (Q.sold ep) w' e := by
  obtain ⟨tA, tc, sB, sn, sd, rfl, rfl⟩ := h.shape
  have hX := ex_two w (.cells (Q.rcs (.slice tA Q.tapes.length tc) (.slice sB sn sd)).toArray 40) (.cells zeroD.toArray 40)
  have hB := (Blk.new w (Q.rcs (.slice tA Q.tapes.length tc) (.slice sB sn sd)) 40).ex (ex_alloc (Ex.refl _) (.cells zeroD.toArray 40))
  obtain ⟨G, hG, eG⟩ := Grow.mk2 hX hF
  have HG := Lib.hid hG
  have HG0 := Lib.hid (hG.new w.heap.size (Nat.le_refl _) (by simp; omega))
  have HG1 := Lib.hid (hG.new (w.heap.size + 1) (Nat.le_succ _) (by simp))
  have HFs := Lib.hid (show ∀ k, G k → k < w.heap.size + 1 + 1 from fun k hk => by have h1 := hG.lt k hk; simpa using h1)
  have HD := Lib.hid (show Dg G w ((w.alloc (.cells (Q.rcs (.slice tA Q.tapes.length tc) (.slice sB sn sd)).toArray 40)).alloc (.cells zeroD.toArray 40)) w.heap.size (w.heap.size + 1) Q (.slice tA Q.tapes.length tc) (.slice sB sn sd) from ⟨hG.rd eG h, hB, blk_two w (.cells (Q.rcs (.slice tA Q.tapes.length tc) (.slice sB sn sd)).toArray 40) zeroD 40, hX⟩)
  have HO := Lib.hid ho
  have HI := Lib.hid hi
  have HRI := Lib.hid hri
  have HS := Lib.hid hs
  have hle := Nat.le_refl w.heap.size
  have hle1 := Nat.le_succ w.heap.size
  have hnl : Q.nms.length ≤ 1000000 := by rw [nms_len]; have := ho.fo.now_len; omega
  have hnm : Q.nms.length ≤ M := by rw [nms_len]; exact ho.fo.now_len
  have HIN := Lib.hid (show (Tryz.prog.info? 9).map (fun i => (i.zero, i.size, i.bytes)) = some (some (.string ⟨#[]⟩), 1, 16) from by kernel_rfl)
  have HCN := Lib.hid (fun (W : World) (hR : RdV G W Q (.slice tA Q.tapes.length tc) (.slice sB sn sd)) => rnamesV_calls hR ho (by omega))
  have HOn := Lib.hid (disk_one Q tA Q.tapes.length tc sB sn sd)
  have HR0 := Lib.hid h
  unfold DkV.sold
  clear h hX hB hG eG ho hi hF hri hs
  unfold DkV.rcs at HD HCN HOn ⊢
  unfold zeroD at HD
  obtain ⟨tm, htm⟩ : ∃ m, m = Q.tapes.length := ⟨_, rfl⟩
  have HTM := Lib.hid htm
  rw [← htm] at HD HCN HOn ⊢
  clear htm
  have HBL := Lib.hid HD.out.blk
  have HRS := Lib.hid HD.out.res
  have HRD := Lib.hid HD.out.rd
  have HEX := Lib.hid HD.out.ex
  unfold DkV.rcs at HBL
  by_cases hoff : Q.fu.off = true
  · rw [if_pos hoff]
    have HOF := Lib.hid hoff
    rw [hoff] at HBL HOn HCN
    clear hoff HD
    have x0 := HBL.out.cell 0
    have x1 := HBL.out.cell 1
    have x2 := HBL.out.cell 2
    have x3 := HBL.out.cell 3
    have x4 := HBL.out.cell 4
    have x5 := HBL.out.cell 5
    have x6 := HBL.out.cell 6
    have x7 := HBL.out.cell 7
    clear x7
    have x7 := HBL.out.cell 7
    rw [HOF.out]
    go_enter Tryz.func20, Tryz.ntmps20
    go_wp2_with fail
    have hX9 := ex_two w (.cells #[.int .i64 Q.sec, .slice tA tm tc, .slice sB sn sd, .int .i64 Q.fu.p, .int .i64 Q.fu.s, .int .i64 Q.fu.d, .bool true, .int .i64 (Q.calls : Int)] 40) (.cells #[.int .i64 Q.sec, .slice tA tm tc, .slice sB sn sd, .int .i64 Q.fu.p, .int .i64 Q.fu.s, .int .i64 Q.fu.d, .bool true, .int .i64 (Q.calls : Int)] 40)
    refine bodyPost_ret (ret_agg3 rfl _ _ (w.heap.size + 1) [.int .i64 Q.sec, .slice tA tm tc, .slice sB sn sd, .int .i64 Q.fu.p, .int .i64 Q.fu.s, .int .i64 Q.fu.d, .bool true, .int .i64 (Q.calls : Int)] rfl (blk_two w (.cells #[.int .i64 Q.sec, .slice tA tm tc, .slice sB sn sd, .int .i64 Q.fu.p, .int .i64 Q.fu.s, .int .i64 Q.fu.d, .bool true, .int .i64 (Q.calls : Int)] 40) _ _) Tryz.underlying40 info_d11) rfl ?_
    exact ⟨.slice tA tm tc, .slice sB sn sd, by unfold DkV.rcs; rw [HOF.out]; rfl, by have h9 := HR0.out; rw [← HTM.out] at h9; exact h9.ex hX9, hX9⟩
  · rw [if_neg hoff]
    have hof := Bool.eq_false_iff.2 hoff
    have HOF := Lib.hid hof
    have hSZ := pick_sz (ep := ep) HS.out
    have hL1 := pickN_len (isOld ep) Q.nms
    have hL2 := pickN_len isTemp Q.nms
    have HT1 := Lib.hid (fun A1 c1 w1 h1 => rold_calls A1 c1 Q.nms ep w1 h1 hnl HRI.out HS.out)
    have HT2 := Lib.hid (fun A1 c1 w1 h1 => rtemps_calls A1 c1 Q.nms w1 h1 hnl HRI.out HS.out)
    obtain ⟨L1, hl1⟩ : ∃ L1, pickN (isOld ep) Q.nms = L1 := ⟨_, rfl⟩
    obtain ⟨L2, hl2⟩ : ∃ L2, pickN isTemp Q.nms = L2 := ⟨_, rfl⟩
    rw [hl1] at HT1 hSZ hL1 ⊢
    rw [hl2] at HT2 hSZ hL2 ⊢
    obtain ⟨L, hL⟩ : ∃ L, L1 ++ L2 = L := ⟨_, rfl⟩
    have hLn : L1.length + L2.length = L.length := by rw [← hL, List.length_append]
    have HLn := Lib.hid hLn
    have HMp := Lib.hid (show L1.map Value.string ++ L2.map Value.string = L.map Value.string from by rw [← hL, List.map_append])
    rw [hL] at hSZ ⊢
    have HSZ := Lib.hid hSZ
    have hM2 : M + 2 * L.length ≤ 800000 := by omega
    have hLm : L1.length + L2.length ≤ 100000000 := by omega
    have HRM := Lib.hid (fun (W : World) (A4 : Option Addr) (c4 : Nat) (hR : RdV G W Q (.slice tA Q.tapes.length tc) (.slice sB sn sd)) (hr : Row W 1 A4 L.length (L.map Value.string)) (hF : ∀ k, G k → k < W.heap.size) => rsremove_calls hR HO.out HI.out A4 c4 L hr HSZ.out hM2 hF)
    unfold DkV.rcs at HRM
    rw [← HTM.out] at HRM
    obtain ⟨⟨Q', qn, qe⟩, hq⟩ : ∃ r, Q.rems L 0 = r := ⟨_, rfl⟩
    rw [hq] at HRM ⊢
    clear hl1 hl2 hL hSZ hLn hL1 hL2 hq
    rw [hof] at HRM
    rw [hof] at HBL HRS HRD HEX HOn HCN ⊢
    clear hoff hof HD
    have x0 := HBL.out.cell 0
    have x1 := HBL.out.cell 1
    have x2 := HBL.out.cell 2
    have x3 := HBL.out.cell 3
    have x4 := HBL.out.cell 4
    have x5 := HBL.out.cell 5
    have x6 := HBL.out.cell 6
    have x7 := HBL.out.cell 7
    go_enter Tryz.func20, Tryz.ntmps20
    go_wp2_with fail
    refine (HCN.out _ HRD.out).mono ?_
    rintro e w1 ⟨v, rfl, ho1, hb1⟩
    rw [nms_map, ← nms_len] at ho1
    obtain ⟨A1, c1, rfl, _⟩ := own_shape ho1
    have HR1 := Lib.hid (Row.of_own ho1)
    have HX1 := Lib.hid (HEX.out.trans hb1)
    have HB1 := Lib.hid (HBL.out.ex hb1)
    have HS1 := Lib.hid (HRS.out.ex hb1)
    have HD1 := Lib.hid (HRD.out.ex hb1)
    have hz1 := hb1.size
    rw [World.size_alloc, World.size_alloc] at hz1
    have hn1 : ¬ w.heap.size + 1 = w.heap.size := by omega
    have hn2 : ¬ w.heap.size = w.heap.size + 1 := by omega
    clear ho1 hb1 x0 x1 x2 x3 x4 x5 x6 x7 HBL HRS HRD HEX HCN
    have x0 : w1.cell? ⟨w.heap.size, 0, none⟩ = some (.int .i64 Q.sec) := HB1.out.cell 0
    have x1 : w1.cell? ⟨w.heap.size, 1, none⟩ = some (.slice tA tm tc) := HB1.out.cell 1
    have x2 : w1.cell? ⟨w.heap.size, 2, none⟩ = some (.slice sB sn sd) := HB1.out.cell 2
    have x3 : w1.cell? ⟨w.heap.size, 3, none⟩ = some (.int .i64 Q.fu.p) := HB1.out.cell 3
    have x4 : w1.cell? ⟨w.heap.size, 4, none⟩ = some (.int .i64 Q.fu.s) := HB1.out.cell 4
    have x5 : w1.cell? ⟨w.heap.size, 5, none⟩ = some (.int .i64 Q.fu.d) := HB1.out.cell 5
    have x6 : w1.cell? ⟨w.heap.size, 6, none⟩ = some (.bool false) := HB1.out.cell 6
    have x7 : w1.cell? ⟨w.heap.size, 7, none⟩ = some (.int .i64 (Q.calls : Int)) := HB1.out.cell 7
    go_wp2_with fail
    go_region_held3 (fun w' => w'.cell? ⟨w.heap.size, 0, none⟩ = some (.int .i64 Q.sec) ∧ w'.cell? ⟨w.heap.size, 1, none⟩ = some (.slice tA tm tc) ∧ w'.cell? ⟨w.heap.size, 2, none⟩ = some (.slice sB sn sd) ∧ w'.cell? ⟨w.heap.size, 3, none⟩ = some (.int .i64 Q.fu.p) ∧ w'.cell? ⟨w.heap.size, 4, none⟩ = some (.int .i64 Q.fu.s) ∧ w'.cell? ⟨w.heap.size, 5, none⟩ = some (.int .i64 Q.fu.d) ∧ w'.cell? ⟨w.heap.size, 6, none⟩ = some (.bool false) ∧ w'.cell? ⟨w.heap.size, 7, none⟩ = some (.int .i64 (Q.calls : Int))) (go_keep) (first
      | (go_at_call 37; ((with_reducible refine (HT1.out A1 c1 _ (HR1.out.ex (by first | exact (Ex.refl _).drew | exact ex_alloc (Ex.refl _).drew _ | exact (ex_alloc (Ex.refl _) _).drew))).mono ?_); rintro e w2 ⟨v2, rfl, ho2, hb2⟩; have hX2 : Ex w1 w2 := Ex.trans (by first | exact (Ex.refl _).drew | exact ex_alloc (Ex.refl _).drew _ | exact (ex_alloc (Ex.refl _) _).drew) hb2; have y0 := hX2.cell x0; have y1 := hX2.cell x1; have y2 := hX2.cell x2; have y3 := hX2.cell x3; have y4 := hX2.cell x4; have y5 := hX2.cell x5; have y6 := hX2.cell x6; have y7 := hX2.cell x7; obtain ⟨A2, c2, rfl, _⟩ := own_shape ho2; have HR2 := Lib.hid (Row.of_own ho2); have HX2 := Lib.hid hX2; (first | (have HLa := Lib.hid (own_ex (own_lit w1 9 1) (Ex.trans (Ex.refl _).drew hb2))) | (have HLa := Lib.hid (own_ex (own_lit w1.drew 9 1) hb2)) | skip); have hz2 := hX2.size; clear ho2 hb2 hX2))
      | (go_at_call 38; ((with_reducible refine (HT2.out A1 c1 _ (HR1.out.ex HX3.out)).mono ?_); rintro e w4 ⟨v4, rfl, ho4, hb4⟩; obtain ⟨A4, c4, rfl, _⟩ := own_shape ho4; have HR4 := Lib.hid (Row.of_own ho4); have HX4 := Lib.hid (Ex.trans HX3.out hb4); have HO4 := Lib.hid (own_ex HO3.out hb4); have u0 := HX4.out.cell x0; have u1 := HX4.out.cell x1; have u2 := HX4.out.cell x2; have u3 := HX4.out.cell x3; have u4 := HX4.out.cell x4; have u5 := HX4.out.cell x5; have u6 := HX4.out.cell x6; have u7 := HX4.out.cell x7; clear ho4 hb4))
      | (have hd0 : (0 : Nat) < 1 := by decide
         have hd1 : (16 : Nat) ≤ 1000 := by decide
         have hd2 : 0 + L1.length ≤ 100000000 := by omega
         have hd3 := Nat.le_refl w1.heap.size
         try rw [if_pos (by rfl)]
         refine wp_app_own (w := w2) (w0 := w1) 23 9 (.string ⟨#[]⟩) 1 16 Tryz.underlying23 HIN.out rfl hd0 hd1 (.tmp 15) (.tmp 18) rfl w1.heap.size (.slice (some ⟨w1.heap.size, 0, none⟩) 0 0) 0 [] rfl HLa.out A2 L1.length c2 (L1.map Value.string) rfl HR2.out strs_cell hd2 HX2.out hd3 ?_
         intro v3 w3 ho3 hb3
         replace hb3 : Ex w1 w3 := hb3
         rw [Nat.zero_add, List.nil_append] at ho3
         obtain ⟨A3, c3, rfl, _⟩ := own_shape ho3
         have z0 := hb3.cell x0
         have z1 := hb3.cell x1
         have z2 := hb3.cell x2
         have z3 := hb3.cell x3
         have z4 := hb3.cell x4
         have z5 := hb3.cell x5
         have z6 := hb3.cell x6
         have z7 := hb3.cell x7
         have HO3 := Lib.hid ho3
         have HX3 := Lib.hid hb3
         clear ho3 hb3)
      | (have hd0 : (0 : Nat) < 1 := by decide
         have hd1 : (16 : Nat) ≤ 1000 := by decide
         have hd2 : 0 + L1.length ≤ 100000000 := by omega
         have hd3 := Nat.le_refl w1.heap.size
         try rw [if_pos (by rfl)]
         refine wp_app_own (w := w2.alloc (.cells #[] 9)) (w0 := w1) 23 9 (.string ⟨#[]⟩) 1 16 Tryz.underlying23 HIN.out rfl hd0 hd1 (.tmp 15) (.tmp 18) rfl w1.heap.size (.slice (some ⟨w2.heap.size, 0, none⟩) 0 0) 0 [] rfl (own_more (own_lit w2 9 1) hz2) A2 L1.length c2 (L1.map Value.string) rfl (HR2.out.ex (ex_alloc (Ex.refl _) _)) strs_cell hd2 (ex_alloc HX2.out _) hd3 ?_
         intro v3 w3 ho3 hb3
         replace hb3 : Ex w1 w3 := hb3
         rw [Nat.zero_add, List.nil_append] at ho3
         obtain ⟨A3, c3, rfl, _⟩ := own_shape ho3
         have z0 := hb3.cell x0
         have z1 := hb3.cell x1
         have z2 := hb3.cell x2
         have z3 := hb3.cell x3
         have z4 := hb3.cell x4
         have z5 := hb3.cell x5
         have z6 := hb3.cell x6
         have z7 := hb3.cell x7
         have HO3 := Lib.hid ho3
         have HX3 := Lib.hid hb3
         clear ho3 hb3)
      | (have hd0 : (0 : Nat) < 1 := by decide
         have hd1 : (16 : Nat) ≤ 1000 := by decide
         have hd3 := Nat.le_refl w1.heap.size
         try rw [if_pos (by rfl)]
         refine wp_app_own (w := w4) (w0 := w1) 23 9 (.string ⟨#[]⟩) 1 16 Tryz.underlying23 HIN.out rfl hd0 hd1 (.tmp 19) (.tmp 21) rfl w1.heap.size (.slice A3 L1.length c3) L1.length (L1.map Value.string) rfl HO4.out A4 L2.length c4 (L2.map Value.string) rfl HR4.out strs_cell hLm HX4.out hd3 ?_
         intro v5 w5 ho5 hb5
         replace hb5 : Ex w1 w5 := hb5
         rw [HLn.out, HMp.out] at ho5
         obtain ⟨A5, c5, rfl, _⟩ := own_shape ho5
         have p0 := hb5.cell x0
         have p1 := hb5.cell x1
         have p2 := hb5.cell x2
         have p3 := hb5.cell x3
         have p4 := hb5.cell x4
         have p5 := hb5.cell x5
         have p6 := hb5.cell x6
         have p7 := hb5.cell x7
         have HR5 := Lib.hid (Row.of_own ho5)
         have HX5 := Lib.hid hb5
         have HF5 := Lib.hid (show ∀ k, G k → k < w5.heap.size from fun k hk => by have h1 := HFs.out k hk; have h2 := hb5.size; omega)
         clear ho5 hb5)
      | (go_at_call 15; ((with_reducible refine (HRM.out w5 A5 c5 (HD1.out.ex HX5.out) HR5.out HF5.out).mono ?_); rintro e w6 ⟨tv6, sl6, rfl, hR6, hb6⟩; simp only at hR6; obtain ⟨A6, c6, sB6, sn6, sd6, rfl, rfl⟩ := hR6.shape; obtain ⟨n6, hn6⟩ : ∃ n6, n6 = Q'.tapes.length := ⟨_, rfl⟩; have HN6 := Lib.hid hn6; rw [← hn6] at hR6 ⊢; have HR6 := Lib.hid hR6; have hX6 := Ex.trans HX5.out hb6; have HX6 := Lib.hid hX6; have HK6 := Lib.hid (HS1.out.ex hX6); have q0 := hX6.cell x0; have q1 := hX6.cell x1; have q2 := hX6.cell x2; have q3 := hX6.cell x3; have q4 := hX6.cell x4; have q5 := hX6.cell x5; have q6 := hX6.cell x6; have q7 := hX6.cell x7; clear hR6 hb6 hX6 hn6; unfold DkV.rcs; have f0 := HK6.out.frozen 0; have f1 := HK6.out.frozen 1; have f2 := HK6.out.frozen 2; have f3 := HK6.out.frozen 3; have f4 := HK6.out.frozen 4; have f5 := HK6.out.frozen 5; have f6 := HK6.out.frozen 6; have f7 := HK6.out.frozen 7; have r0 : w6.cell? ⟨w.heap.size + 1, 0, none⟩ = some (.int .i64 0) := HK6.out.cell 0; have r1 : w6.cell? ⟨w.heap.size + 1, 1, none⟩ = some (.slice none 0 0) := HK6.out.cell 1; have r2 : w6.cell? ⟨w.heap.size + 1, 2, none⟩ = some (.slice none 0 0) := HK6.out.cell 2; have r3 : w6.cell? ⟨w.heap.size + 1, 3, none⟩ = some (.int .i64 0) := HK6.out.cell 3; have r4 : w6.cell? ⟨w.heap.size + 1, 4, none⟩ = some (.int .i64 0) := HK6.out.cell 4; have r5 : w6.cell? ⟨w.heap.size + 1, 5, none⟩ = some (.int .i64 0) := HK6.out.cell 5; have r6 : w6.cell? ⟨w.heap.size + 1, 6, none⟩ = some (.bool false) := HK6.out.cell 6; have r7 : w6.cell? ⟨w.heap.size + 1, 7, none⟩ = some (.int .i64 0) := HK6.out.cell 7)))
    all_goals
      have HB8 := Lib.hid (blk_set8 HK6.out (.int .i64 Q'.sec) (.slice A6 n6 c6) (.slice sB6 sn6 sd6) (.int .i64 Q'.fu.p) (.int .i64 Q'.fu.s) (.int .i64 Q'.fu.d) (.bool Q'.fu.off) (.int .i64 (Q'.calls : Int)))
      have HE8 := Lib.hid (off_ex8 (HX1.out.trans HX6.out) hle1 (.int .i64 Q'.sec) (.slice A6 n6 c6) (.slice sB6 sn6 sd6) (.int .i64 Q'.fu.p) (.int .i64 Q'.fu.s) (.int .i64 Q'.fu.d) (.bool Q'.fu.off) (.int .i64 (Q'.calls : Int)))
      have HR8 := Lib.hid ((HR6.out.offs (off_set8 w6 (w.heap.size + 1) (.int .i64 Q'.sec) (.slice A6 n6 c6) (.slice sB6 sn6 sd6) (.int .i64 Q'.fu.p) (.int .i64 Q'.fu.s) (.int .i64 Q'.fu.d) (.bool Q'.fu.off) (.int .i64 (Q'.calls : Int))) (same_blk HG1.out)).less HG.out.of)
      clear q0 q1 q2 q3 q4 q5 q6 q7 f0 f1 f2 f3 f4 f5 f6 f7 r0 r1 r2 r3 r4 r5 r6 r7
      generalize ((((((((w6.setCell ⟨w.heap.size + 1, 0, none⟩ (.int .i64 Q'.sec)).setCell ⟨w.heap.size + 1, 1, none⟩ (.slice A6 n6 c6)).setCell ⟨w.heap.size + 1, 2, none⟩ (.slice sB6 sn6 sd6)).setCell ⟨w.heap.size + 1, 3, none⟩ (.int .i64 Q'.fu.p)).setCell ⟨w.heap.size + 1, 4, none⟩ (.int .i64 Q'.fu.s)).setCell ⟨w.heap.size + 1, 5, none⟩ (.int .i64 Q'.fu.d)).setCell ⟨w.heap.size + 1, 6, none⟩ (.bool Q'.fu.off)).setCell ⟨w.heap.size + 1, 7, none⟩ (.int .i64 (Q'.calls : Int))) = w8 at *
      go_wp2_with fail
      (try simp only [Exit.inBlock, Exit.then])
      refine bodyPost_ret (ret_agg3 rfl _ _ (w.heap.size + 1) [.int .i64 Q'.sec, .slice A6 n6 c6, .slice sB6 sn6 sd6, .int .i64 Q'.fu.p, .int .i64 Q'.fu.s, .int .i64 Q'.fu.d, .bool Q'.fu.off, .int .i64 (Q'.calls : Int)] rfl HB8.out Tryz.underlying40 info_d11) rfl ?_
      have hn6 := HN6.out
      subst hn6
      exact ⟨_, _, rfl, HR8.out, HE8.out⟩
end Go.Proofs.YtomfcgeibbicoaaGreat
