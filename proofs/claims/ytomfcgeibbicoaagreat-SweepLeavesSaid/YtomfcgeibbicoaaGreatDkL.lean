/- Walks: a disk: Crash. -/
import Derived.Test.YtomfcgeibbicoaaGreatDk1
namespace Go.Proofs.YtomfcgeibbicoaaGreat
open Go.RowKit Go.Maps
section
variable {w w' : World} {g : Nat} {F : Nat → Prop} {Q : DkV} {tm fg fz : Nat} {FF : Nat → Prop} {l : List (Lit × Value)} {tb : Int → Nat}
theorem DkR.tapeL (h : DkR w g F Q tm fg fz FF l tb) {id : Int} (hid : (inK id, ptrV (tb id)) ∈ l) : TbOk w Q.tapes F FF g fz tm (tb id) id := by
  obtain ⟨id', e, ht⟩ := h.el _ hid
  injection e with e1 e2
  injection e1 with _ e3
  subst e3
  exact ht
theorem DkR.lookL (h : DkR w g F Q tm fg fz FF l tb) {id : Int} (hid : (inK id, ptrV (tb id)) ∈ l) {M : Nat} (ho : Q.Ok M) (hM : M ≤ 1000000) : (Instr.lookup 98 (.map (some tm)) (.int .i64 id) false).run Tryz.prog w = .ok (ptrV (tb id)) w := by
  have ht := h.tapeL hid
  have := MapB.look h.tpb intKey Tryz.underlying98 (zero_tape w) (key_int (x := id) (by have := ht.i1; omega) (by have := ht.i2; have := ho.tl; omega))
  rw [getL_of (h.tpb.rises intKey) hid] at this
  exact this
theorem DkR.setL_ {t : TpV} {id : Int} (h : DkR w g F Q tm fg fz FF l tb) (hl : (inK id, ptrV (tb id)) ∈ l) (hb : Off (· = tb id) w w') (hB : Blk w' (tb id) 174 t.cs) : DkR w' g F (Q.setT id t) tm fg fz FF l tb := by
  have ht := h.tapeL hl
  refine { h with ffl := fun k hk => Nat.lt_of_lt_of_le (h.ffl k hk) hb.size, blk := ?_, fob := h.fob.off hb (fun k _ hk e => ht.ff (e ▸ hk)), fub := h.fub.off hb (fun e => ht.nz e.symm), tpb := h.tpb.off hb (fun e => ht.nm e.symm), el := fun p hp => ?_ }
  · have := h.blk.off hb (fun e => ht.ng e.symm)
    unfold DkV.cells DkV.setT at *
    simpa using this
  · obtain ⟨x, e, hx⟩ := h.el p hp
    refine ⟨x, e, ?_⟩
    by_cases hxi : x = id
    · subst hxi
      exact { hx with i2 := by have := hx.i2; unfold DkV.setT; simpa using this, tp := ⟨t, by unfold DkV.setT; rw [List.getElem?_set_self (by have h1 := hx.i1; have h2 := hx.i2; omega)], hB⟩ }
    · have hne : ¬ tb x = tb id := fun he => hxi (h.inj x id (e ▸ hp) hl he)
      have hk := hx.keep (hb.block _ hx.lt hne)
      refine { hk with i2 := by have := hx.i2; unfold DkV.setT; simpa using this, tp := ?_ }
      obtain ⟨t', h1, h2⟩ := hk.tp
      have hn2 : (id - 1).toNat ≠ (x - 1).toNat := by have h1 := hx.i1; have h2 := ht.i1; omega
      exact ⟨t', by unfold DkV.setT; rw [List.getElem?_set_ne hn2]; exact h1, h2⟩
theorem DkR.bound (h : DkR w g F Q tm fg fz FF l tb) : DkR w g (fun k => F k ∧ k < w.heap.size) Q tm fg fz FF l tb := by
  refine { h with fg_ := ⟨h.fg_, h.blk.lt⟩, fz_ := ⟨h.fz_, h.fub.lt⟩, ft_ := ⟨h.ft_, h.tpb.lt⟩, sub := fun k hk => ⟨h.sub k hk, h.ffl k hk⟩, el := fun p hp => ?_ }
  obtain ⟨id, e, ht⟩ := h.el p hp
  exact ⟨id, e, { ht with f := ⟨ht.f, ht.lt⟩ }⟩
theorem DkR.offG {G : Nat → Prop} (h : DkR w g F Q tm fg fz FF l tb) (hb : Off G w w') (hG : ∀ k, k < w.heap.size → F k → ¬ G k) : DkR w' g F Q tm fg fz FF l tb := by
  refine { h with ffl := fun k hk => Nat.lt_of_lt_of_le (h.ffl k hk) hb.size, blk := h.blk.off hb (hG _ h.blk.lt h.fg_), fob := h.fob.off hb (fun k hk hf => hG k hk (h.sub k hf)), fub := h.fub.off hb (hG _ h.fub.lt h.fz_), tpb := h.tpb.off hb (hG _ h.tpb.lt h.ft_), el := fun p hp => ?_ }
  obtain ⟨id, e, ht⟩ := h.el p hp
  exact ⟨id, e, ht.keep (hb.block _ ht.lt (hG _ ht.lt ht.f))⟩
end
theorem calm_fuse {w w' : World} {g : Nat} {F : Nat → Prop} {Q : DkV} {tm fg fz : Nat} {FF : Nat → Prop} {l : List (Lit × Value)} {tb : Int → Nat} (h : DkR w g F Q tm fg fz FF l tb) (hb : Off (· = fz) w w') (hB : Blk w' fz 184 FuV.calm.cs) : DkR w' g F { Q with fu := FuV.calm } tm fg fz FF l tb := h.fuse_ hb hB
set_option maxHeartbeats 4000000 in
set_option maxRecDepth 100000 in
theorem dcrash_calls {w : World} {g : Nat} {F : Nat → Prop} {Q : DkV} (h : DkP w g F Q) {M : Nat} (ho : Q.Ok M) (hM : M ≤ 800000) (ch : ByteArray) (hs : ch.size ≤ 4611686018427387904) :
    Calls Tryz.prog 36 #[ptrV g, .string ch] w fun e w' => e = .returned (.int .i64 ((Q.crash ch).2 : Int)) ∧ DkP w' g (Fresh F w w') (Q.crash ch).1 ∧ Off F w w' := by
  have HP := Lib.hid h
  have HO := Lib.hid ho
  clear h ho
  go_enter Tryz.func36, Tryz.ntmps36
  go_wp2_with fail
  refine (dnone_calls HP.out).mono ?_
  rintro e w1 ⟨rfl, hb1⟩
  obtain ⟨tm, fg, fz, FF, l, tb, hR1⟩ := HP.out.ex hb1
  have hFlt : ∀ k, (F k ∧ k < w1.heap.size) → k < w1.heap.size := fun _ hk => hk.2
  have HFL := Lib.hid hFlt
  have HR1 := Lib.hid hR1.bound
  have HX1 := Lib.hid hb1
  have c5 : w1.cell? ⟨g, 5, none⟩ = some (ptrV fz) := by rw [hR1.blk.cell]; rfl
  clear hR1 hb1 hFlt
  go_wp2_with fail
  refine (freset_calls HR1.out.fub).mono ?_
  rintro e w2 ⟨rfl, hB2, hO2⟩
  have HR2 := Lib.hid (HR1.out.fuse_ hO2 hB2)
  have HO2 := Lib.hid (Off.mono (G := F) hO2 fun _ _ e => e ▸ HR1.out.fz_.1)
  have hz2 := hO2.size
  clear hB2 hO2 c5
  go_wp2_with fail
  refine (chooser_calls ch _).mono ?_
  rintro e w3 ⟨cb, ub, rfl, hcb, hub, hcu, hC3, hU3, hb3⟩
  have HR3 := Lib.hid (HR2.out.ex hb3)
  have HC3 := Lib.hid hC3
  have HU3 := Lib.hid hU3
  have HX3 := Lib.hid hb3
  have hz3 := hb3.size
  clear hC3 hU3 hb3
  go_wp2_with fail
  refine (rest_calls (u := 0) (by omega) hs (by rw [HC3.out.cell]; rfl) (by rw [HU3.out.cell]; rfl)).mono ?_
  rintro e w4 ⟨rfl, hb4⟩
  have HRS : Hid (restS ch 0 = ch) := by
    unfold Hid restS
    rw [Nat.zero_min]
    apply ba_data
    rw [ByteArray.data_extract]
    exact Array.extract_size
  rw [HRS.out]
  have HR4 := Lib.hid (HR3.out.ex hb4)
  have HC4 := Lib.hid (HC3.out.ex hb4)
  have HU4 := Lib.hid (HU3.out.ex hb4)
  have HX4 := Lib.hid (HX3.out.trans hb4)
  clear hb4
  have hz4 := HX4.out.size
  have hu4 : ub < w4.heap.size := HU4.out.lt
  have hb256 := byteAt_lt ch 0
  have HF0 : Hid (ch.size = 0 → byteAt ch 0 = 0) := fun h => by unfold byteAt; rw [dif_neg (by omega)]
  have hub1 : w1.heap.size ≤ ub := by omega
  have hcb1 : w1.heap.size ≤ cb := by omega
  by_cases h0 : ch.size = 0
  case' pos =>
    have e1 : ch.toList.isEmpty = true := by rw [noByte]; exact decide_eq_true h0
    have HB0 := Lib.hid (HF0.out h0)
    clear h0
  case' neg =>
    have e1 : ch.toList.isEmpty = false := by rw [noByte]; exact decide_eq_false h0
    have hb0 : (ch[0]'(by omega)).toNat = byteAt ch 0 := by unfold byteAt; rw [dif_pos (by omega)]
    have hpos : 0 < ch.size := by omega
  all_goals go_wp2_with fail
  all_goals
    refine (use_calls (u := 0) (n := 1) (by omega) HU4.out).mono ?_
    rintro e w5 ⟨rfl, hU5, hO5⟩
    have HU5 := Lib.hid hU5
    have hz5 := hO5.size
    have HR5 := Lib.hid (HR4.out.offG hO5 (fun k _ hk e => by have := HFL.out k hk; omega))
    have HC5 := Lib.hid (HC4.out.off hO5 hcu)
    have HO5 := Lib.hid (Off.then (F := F) (((HX1.out.off F).trans HO2.out).trans (HX4.out.off F)) hO5 (fun k hk e => absurd e (by have := HX1.out.size; omega)))
    have c4 : w5.cell? ⟨g, 4, none⟩ = some (ptrV fg) := by rw [HR5.out.blk.cell]; rfl
    clear hU5 hO5
    go_wp2_with fail
    refine (foids_calls HO.out.fo (by omega) HR5.out.fob).mono ?_
    rintro e w6 ⟨iv, rfl, ho6, hb6⟩
    obtain ⟨iA, ic, rfl, _⟩ := own_shape ho6
    have HI6 := Lib.hid ho6
    have HR6 := Lib.hid (HR5.out.ex hb6)
    have HU6 := Lib.hid (HU5.out.ex hb6)
    have HC6 := Lib.hid (HC5.out.ex hb6)
    have HO6 := Lib.hid (HO5.out.trans (hb6.off F))
    have c4' := Ex.cell hb6 c4
    have hz6 := hb6.size
    clear ho6 hb6 c4
    go_wp2_with fail
    refine (focrash_calls _ (by omega) (by omega) HO.out.fo (by omega) HR6.out.fob).mono ?_
    rintro e w7 ⟨rfl, hF7, hO7⟩
    have hF7' : FoP w7 fg (Fresh FF w6 w7) (Q.fo.crash (byteAt ch 0 : Int)) := by first | exact hF7 | (rw [HB0.out]; exact hF7)
    have HR7 := Lib.hid (show DkR w7 g (Fresh (fun k => F k ∧ k < w1.heap.size) w6 w7) (Q.crash1 ch) tm fg fz (Fresh FF w6 w7) l tb from HR6.out.fo_ hO7 hF7' (fun id hid => HR6.out.co id (settle_ids hid)))
    have hnF : ∀ k, w1.heap.size ≤ k → ¬ FF k := fun k hk hf => by have := HR1.out.ffl k hf; omega
    have HU7 := Lib.hid (HU6.out.off hO7 (hnF _ hub1))
    have HC7 := Lib.hid (HC6.out.off hO7 (hnF _ hcb1))
    have HI7 := Lib.hid (own_off HI6.out hO7 (fun k hk => hnF k (by have := HI6.out.lt k hk; omega)))
    have HO7 := Lib.hid (HO6.out.then hO7 (fun k hk hf => (HR1.out.sub k hf).1))
    have hz7 := hO7.size
    have HQ1 := Lib.hid (crash1_ok HO.out ch)
    have hil : Q.fo.ids.length ≤ 800000 := by have h1 := HR1.out.ids_len; have h2 := HO.out.tl; omega
    clear hF7 hF7' hO7 hnF c4'
    go_wp2_with fail
    go_loopw [46] (fun i wr => ∃ k : Nat, k ≤ Q.fo.ids.length ∧ i = .int .i64 (k : Int) ∧ DkR wr g (Fresh (fun k => F k ∧ k < w1.heap.size) w6 w7) (crashL ch (Q.fo.ids.take k) (Q.crash1 ch, 1)).1 tm fg fz (Fresh FF w6 w7) l tb ∧ Blk wr ub 3 [.int .i64 ((crashL ch (Q.fo.ids.take k) (Q.crash1 ch, 1)).2 : Int)] ∧ Blk wr cb 9 [.string ch] ∧
      wr.ownsRow w5.heap.size 3 1 (.slice iA Q.fo.ids.length ic) Q.fo.ids.length (Q.fo.ids.map (Value.int .i64)) ∧ Off F w wr ∧ w7.heap.size ≤ wr.heap.size) (fun i _ => Q.fo.ids.length - (intOf i).toNat)
    case atStart => exact ⟨0, Nat.zero_le _, rfl, HR7.out, HU7.out, HC7.out, HI7.out, HO7.out, Nat.le_refl _⟩
    case round =>
      obtain ⟨k, hk, rfl, hR, hU, hC, hI, hOf, hzr⟩ := hrel
      have HU := Lib.hid hU
      have HC := Lib.hid hC
      have HI := Lib.hid hI
      have HOf := Lib.hid hOf
      have hcl := crashL_ok (ch := ch) (Q.fo.ids.take k) (Q.crash1 ch, 1) HQ1.out
      have HR := Lib.hid hR
      have htl : (Q.fo.ids.take k).length ≤ Q.fo.ids.length := by rw [List.length_take]; omega
      clear hR hU hC hI hOf
      by_cases hlt : k < Q.fo.ids.length
      · have HS := Lib.hid ((congrArg (fun x => crashL ch x (Q.crash1 ch, 1)) (List.take_succ_eq_append_getElem hlt)).trans (crashL_succ ch (Q.fo.ids.take k) (Q.crash1 ch, 1) Q.fo.ids[k]))
        obtain ⟨b', o', hA, hc'⟩ := (Row.of_own HI.out).2 (by omega)
        have c0 : wr.cell? ⟨b', o' + k, none⟩ = some (.int .i64 Q.fo.ids[k]) := hc' k _ (by rw [List.getElem?_map, List.getElem?_eq_getElem hlt]; rfl)
        have hml := HR1.out.co _ (List.getElem_mem hlt)
        have htF : F (tb Q.fo.ids[k]) ∧ tb Q.fo.ids[k] < w1.heap.size := (HR1.out.tapeL hml).f
        generalize crashL ch (Q.fo.ids.take k) (Q.crash1 ch, 1) = st at *
        generalize Q.fo.ids[k] = id at *
        obtain ⟨Qk, uk⟩ := st
        obtain ⟨hok, huk⟩ := hcl
        simp only at huk hok
        have HOK := Lib.hid hok
        have HML := Lib.hid hml
        have hu2 : uk ≤ 4000000000 := by omega
        have hz0 := tapeAt_ok hok id
        have hmz := mix_sz (ch := restS ch uk) hz0.1 hz0.2
        have HMZ := Lib.hid hmz
        have hm2 := hmz.2
        have hkp : (Qk.tapeAt id).kp.size ≤ 800000 := by have := hz0.1; omega
        have hnw : (Qk.tapeAt id).nw.size ≤ 800000 := by have := hz0.2; omega
        have c3 : wr.cell? ⟨g, 3, none⟩ = some (.map (some tm)) := by rw [HR.out.blk.cell]; rfl
        have lk : (Instr.lookup 98 (.map (some tm)) (.int .i64 id) false).run Tryz.prog wr.drew = .ok (ptrV (tb id)) wr.drew := (HR.out.ex (Ex.refl wr).drew).lookL hml hok (by omega)
        have hgu : ¬ g = ub := fun e => by have h1 := HR1.out.blk.lt; omega
        have htu : ¬ ub = tb id := fun e => by omega
        have htc : ¬ cb = tb id := fun e => by omega
        have hgt : ¬ g = tb id := fun e => ((HR1.out.tapeL hml).ng e.symm)
        have HNU : Hid (∀ k, Fresh (fun k => F k ∧ k < w1.heap.size) w6 w7 k → ¬ k = ub) := fun k hk e => by
          rcases hk with hk | hk
          · have := hk.2; omega
          · omega
        subst hA
        clear hc' hok hml hz0 hmz huk
        generalize hmx : mixS (Qk.tapeAt id).kp (Qk.tapeAt id).nw (restS ch uk) = mx at *
        have HMX := Lib.hid hmx
        clear hmx
        go_wp2_with fail
        go_region_held3 (fun w' => w'.cell? ⟨g, 3, none⟩ = some (.map (some tm)) ∧ (Instr.lookup 98 (.map (some tm)) (.int .i64 id) false).run Tryz.prog w' = .ok (ptrV (tb id)) w') (go_keep) (first
          | (go_at_call 159; refine (rest_calls (u := uk) (by omega) hs (show wr.drew.cell? ⟨cb, 0, none⟩ = some (.string ch) from by have := HC.out.cell 0; exact this) (show wr.drew.cell? ⟨ub, 0, none⟩ = some (.int .i64 (uk : Int)) from by have := HU.out.cell 0; exact this)).mono ?_; rintro e w8 ⟨rfl, hb8⟩; have HR8 := Lib.hid ((HR.out.ex (Ex.refl wr).drew).ex hb8); have HU8 := Lib.hid ((HU.out.ex (Ex.refl wr).drew).ex hb8); have HC8 := Lib.hid ((HC.out.ex (Ex.refl wr).drew).ex hb8); have HI8 := Lib.hid (own_ex (own_ex HI.out (Ex.refl wr).drew) hb8); have HO8 := Lib.hid (HOf.out.trans (Ex.off (Ex.trans (Ex.refl wr).drew hb8) F)); have hz8 : wr.heap.size ≤ w8.heap.size := hb8.size; have c38 : w8.cell? ⟨g, 3, none⟩ = some (.map (some tm)) := (by rw [HR8.out.blk.cell]; rfl); have lk8 := HR8.out.lookL HML.out HOK.out (by omega); clear hb8)
          | (go_at_call 101; refine (tcrash_calls (restS ch uk) (HR8.out.tapeL HML.out).at.1 hkp hnw).mono ?_; rintro e w9 ⟨rfl, hB9, hO9⟩; rw [HMX.out] at hB9 ⊢; have HR9 := Lib.hid (HR8.out.setL_ HML.out hO9 hB9); have HU9 := Lib.hid (HU8.out.off hO9 htu); have HC9 := Lib.hid (HC8.out.off hO9 htc); have HI9 := Lib.hid (own_off HI8.out hO9 (fun k hk e => by have h1 := HI8.out.lt k hk; omega)); have HO9 := Lib.hid (HO8.out.trans (Off.mono (G := F) hO9 (fun _ _ e => e ▸ htF.1))); have hz9 : wr.heap.size ≤ w9.heap.size := Nat.le_trans hz8 hO9.size; have c39 : w9.cell? ⟨g, 3, none⟩ = some (.map (some tm)) := (by rw [HR9.out.blk.cell]; rfl); have lk9 := HR9.out.lookL HML.out (setT_ok HOK.out ⟨HMZ.out.1, HMZ.out.1⟩) (by omega); clear hB9 hO9)
          | (go_at_call 160; refine (use_calls (u := uk) (n := mx.2) (by omega) HU9.out).mono ?_; rintro e w10 ⟨rfl, hU10, hO10⟩; have HR10 := Lib.hid (HR9.out.offG hO10 (fun k _ hk => HNU.out k hk)); have HU10 := Lib.hid hU10; have HC10 := Lib.hid (HC9.out.off hO10 hcu); have HI10 := Lib.hid (own_off HI9.out hO10 (fun k hk e => by have h1 := HI9.out.lt k hk; omega)); have HO10 := Lib.hid (HO9.out.then hO10 (fun k hk e => absurd e (by have := HX1.out.size; omega))); have hz10 : wr.heap.size ≤ w10.heap.size := Nat.le_trans hz9 hO10.size; have c310 : w10.cell? ⟨g, 3, none⟩ = some (.map (some tm)) := (by rw [HR10.out.blk.cell]; rfl); have lk10 := HR10.out.lookL HML.out (setT_ok HOK.out ⟨HMZ.out.1, HMZ.out.1⟩) (by omega); clear hU10 hO10))
        all_goals go_wp2_with fail
        all_goals have hfin : crashL ch [id] (Qk, uk) = (Qk.setT id ⟨mx.1, mx.1⟩, uk + mx.2) := (by show (_, _) = _; rw [HMX.out])
        all_goals exact ⟨⟨k + 1, by omega, by go_num, by rw [HS.out, hfin]; exact HR10.out, by rw [HS.out, hfin]; exact HU10.out, HC10.out, HI10.out, HO10.out, by omega⟩, by simp [intOf]; omega⟩
      · have hkl : k = Q.fo.ids.length := by omega
        subst hkl
        rw [List.take_length] at hcl
        have hR' := HR.out
        rw [List.take_length] at hR'
        have HR := Lib.hid hR'
        have hU' := HU.out
        rw [List.take_length] at hU'
        have HU := Lib.hid hU'
        have HCE := Lib.hid (show crashL ch Q.fo.ids (Q.crash1 ch, 1) = Q.crash ch from rfl)
        generalize crashL ch Q.fo.ids (Q.crash1 ch, 1) = st at *
        obtain ⟨Qk, uk⟩ := st
        obtain ⟨hok, huk⟩ := hcl
        simp only at huk hok
        have HOK := Lib.hid hok
        have hu2 : uk ≤ 4000000000 := by omega
        have HNU : Hid (∀ k, Fresh (fun k => F k ∧ k < w1.heap.size) w6 w7 k → ¬ k = ub) := fun k hk e => by
          rcases hk with hk | hk
          · have := hk.2; omega
          · omega
        clear hR' hU' hok huk
        go_wp2_with fail
        refine (dsweep_calls HR.out HOK.out (by omega)).mono ?_
        rintro e w8 ⟨rfl, ⟨tm', l', hR8⟩, hO8⟩
        have HR8 := Lib.hid hR8
        have HU8 := Lib.hid (HU.out.off hO8 (fun hf => HNU.out _ hf rfl))
        have HO8 := Lib.hid hO8
        have hz8 := hO8.size
        have hul := HU.out.lt
        clear hR8 hO8
        go_wp2_with fail
        refine (use_calls (u := uk) (n := 0) (by omega) HU8.out).mono ?_
        rintro e w9 ⟨rfl, hU9, hO9⟩
        have HR9 := Lib.hid (HR8.out.offG hO9 (fun k _ hk e => by
          rcases hk with hk | hk
          · exact HNU.out k hk e
          · omega))
        have HO9 := Lib.hid hO9
        have hz9 := hO9.size
        clear hU9 hO9
        go_wp2_with fail
        go_ret
        have x1 := HX1.out.size
        have x2 := HOf.out.size
        have s1 : Off F w w8 := HOf.out.then HO8.out (fun k hk hf => by
          rcases hf with hf | hf
          · exact hf.1
          · omega)
        refine ⟨by rw [← HCE.out]; rfl, ?_, s1.then HO9.out (fun k hk e => by omega)⟩
        rw [← HCE.out]
        refine ⟨_, _, _, _, _, _, HR9.out.more (fun k hk => ?_)⟩
        rcases hk with (hk | hk) | hk
        · exact .inl hk.1
        · exact .inr ⟨by omega, by omega⟩
        · exact .inr ⟨by omega, by omega⟩
end Go.Proofs.YtomfcgeibbicoaaGreat
namespace Go.Proofs.YtomfcgeibbicoaaGreat
open Go.RowKit Go.Maps
theorem DkV.Ok.up {Q : DkV} {M N : Nat} (h : Q.Ok M) (hN : M ≤ N) : Q.Ok N := ⟨h.fo.up hN, h.fu, h.s1, h.s2, Nat.le_trans h.tl hN, Nat.le_trans h.cl hN, h.tz⟩
theorem fo_ok2 {Q : DkV} {M : Nat} {fo : FoV} (h : Q.Ok M) (hf : fo.Ok (M + 1)) : ({ Q with fo := fo } : DkV).Ok (M + 1) := ⟨hf, h.fu, h.s1, h.s2, Nat.le_succ_of_le h.tl, Nat.le_succ_of_le h.cl, h.tz⟩
theorem drop_ok {q : FoV} {M : Nat} {s : ByteArray} (h : q.Ok M) (hs : s.size ≤ 9223372036854775807) : (q.drop s).1.Ok (M + 1) := by
  unfold FoV.drop
  split
  · exact h.do (chg_drop hs)
  · exact h.up (Nat.le_succ M)
theorem move_ok {q : FoV} {M : Nat} {a b : ByteArray} (h : q.Ok M) (ha : a.size ≤ 9223372036854775807) (hb : b.size ≤ 9223372036854775807) : (q.move a b).1.Ok (M + 1) := by
  unfold FoV.move
  split
  · split
    · exact h.up (Nat.le_succ M)
    · have := findM_in h a
      exact h.do ⟨ha, hb, this.1, this.2⟩
  · exact h.up (Nat.le_succ M)
theorem add_ok {Q : DkV} {M : Nat} {s : ByteArray} {t : TpV} (h : Q.Ok M) (hM : M ≤ 1000000) (hs : s.size ≤ 9223372036854775807) (ht : t.kp.size ≤ 131072 ∧ t.nw.size ≤ 131072) : (Q.add s t).Ok (M + 1) := by
  have htl := h.tl
  refine ⟨h.fo.do (chg_put hs (by omega) (by omega)), h.fu, h.s1, h.s2, ?_, Nat.le_succ_of_le h.cl, fun x hx => ?_⟩
  · unfold DkV.add; rw [List.length_append]; simp only [List.length_cons, List.length_nil]; omega
  · rcases List.mem_append.1 hx with hx | hx
    · exact h.tz x hx
    · rcases List.mem_cons.1 hx with rfl | hx
      · exact ht
      · cases hx
theorem create_ok {Q : DkV} {M : Nat} {s : ByteArray} (h : Q.Ok M) (hM : M ≤ 900000) (hs : s.size ≤ 9223372036854775807) : (Q.create s).1.Ok (M + 2) := by
  unfold DkV.create
  split
  · exact h.up (by omega)
  · split
    · exact h.up (by omega)
    · split
      · exact h.up (by omega)
      · split
        · exact h.up (by omega)
        · split
          · exact add_ok (ask_ok h false) (by omega) hs ⟨Nat.zero_le _, Nat.zero_le _⟩
          · exact (ask_ok h false).up (by omega)
theorem syncT_ok {Q : DkV} {M : Nat} {s : ByteArray} (h : Q.Ok M) : (Q.syncT s).1.Ok (M + 1) := by
  have hz := tapeAt_ok h (Q.idOf s)
  unfold DkV.syncT
  split
  · exact h.up (by omega)
  · split
    · exact h.up (by omega)
    · split
      · exact setT_ok (ask_ok h true) ⟨hz.2, hz.2⟩
      · exact ask_ok h true
theorem cutT_ok {Q : DkV} {M : Nat} {s : ByteArray} {n : Int} (h : Q.Ok M) : (Q.cutT s n).1.Ok (M + 1) := by
  have hz := tapeAt_ok h (Q.idOf s)
  have h2 : ((Q.tapeAt (Q.idOf s)).cut n).kp.size ≤ 131072 ∧ ((Q.tapeAt (Q.idOf s)).cut n).nw.size ≤ 131072 := by
    unfold TpV.cut
    split
    · refine ⟨hz.1, ?_⟩
      show (ByteArray.extract _ 0 _).size ≤ _
      rw [ByteArray.size_extract]
      have := hz.2
      omega
    · exact hz
  unfold DkV.cutT
  split
  · exact h.up (by omega)
  · split
    · exact h.up (by omega)
    · split
      · exact h.up (by omega)
      · split
        · exact setT_ok (ask_ok h false) h2
        · exact ask_ok h false
theorem rename_ok {Q : DkV} {M : Nat} {s b : ByteArray} (h : Q.Ok M) (hs : s.size ≤ 9223372036854775807) (hb : b.size ≤ 9223372036854775807) : (Q.rename s b).1.Ok (M + 2) := by
  unfold DkV.rename
  split
  · exact h.up (by omega)
  · split
    · exact h.up (by omega)
    · split
      · exact h.up (by omega)
      · split
        · exact fo_ok2 (ask_ok h false) ((move_ok h.fo hs hb).up (by omega))
        · exact (ask_ok h false).up (by omega)
theorem remove_ok {Q : DkV} {M : Nat} {s : ByteArray} (h : Q.Ok M) (hs : s.size ≤ 9223372036854775807) : (Q.remove s).1.Ok (M + 2) := by
  unfold DkV.remove
  split
  · exact h.up (by omega)
  · split
    · exact h.up (by omega)
    · split
      · exact fo_ok2 (ask_ok h false) ((drop_ok h.fo hs).up (by omega))
      · exact (ask_ok h false).up (by omega)
theorem syncAll_ok {Q : DkV} {M : Nat} (h : Q.Ok M) : Q.syncAll.1.Ok (M + 1) := by
  unfold DkV.syncAll
  split
  · exact h.up (by omega)
  · split
    · exact fo_ok (ask_ok h true) ((FoV.Ok.settle h.fo (Nat.le_refl _)).up (Nat.le_succ M))
    · exact ask_ok h true
theorem fault_ok {Q : DkV} {M : Nat} {k a : Int} (h : Q.Ok M) (ha : a ≤ 9223372036854775807) : (Q.fault k a).1.Ok M := by
  unfold DkV.fault
  split
  · exact h
  · split
    · exact ⟨h.fo, FuV.arm_ok h.fu ha, h.s1, h.s2, h.tl, h.cl, h.tz⟩
    · exact h
theorem sumT_mem {Q : DkV} : ∀ {ids : List Int} {id : Int}, id ∈ ids → cntT (Q.tapeAt id) ≤ sumT Q ids
  | x :: r, id, h => by
    unfold sumT
    rw [List.map_cons, List.sum_cons]
    rcases List.mem_cons.1 h with rfl | h
    · omega
    · have := sumT_mem (Q := Q) h
      unfold sumT at this
      omega
theorem append_ok {Q : DkV} {M : Nat} {s x : ByteArray} (h : Q.Ok M) : (Q.append s x).1.Ok (M + 1) := by
  have hz := tapeAt_ok h (Q.idOf s)
  unfold DkV.append
  split
  · exact h.up (by omega)
  · split
    · exact h.up (by omega)
    · rename_i hn
      split
      · exact h.up (by omega)
      · rename_i hq
        split
        · refine setT_ok (ask_ok h false) ⟨hz.1, ?_⟩
          have hn' : (findM s Q.fo.now).2 = true := by cases hb : (findM s Q.fo.now).2; exact absurd hb hn; rfl
          have h1 := sumT_mem (Q := Q) (FoV.found_ids hn')
          have h2 := h.s2
          unfold DkV.after DkV.taken at hq
          have h3 : cntT ((Q.tapeAt (Q.idOf s)).plus x) ≤ 4096 := by
            have : cntT (Q.tapeAt (Q.idOf s)) ≤ sumT Q Q.fo.ids := h1
            omega
          unfold cntT cntS at h3
          omega
        · exact ask_ok h false
theorem fresh_ok {n : Int} (h1 : 1 ≤ n) (h2 : n ≤ 4096) : (DkV.fresh n).Ok 0 := ⟨⟨Nat.le_refl _, (fun m hm => by cases hm), (fun c hc => by cases hc)⟩, calm_ok, h1, h2, Nat.le_refl _, Nat.le_refl _, (fun t ht => by cases ht)⟩
end Go.Proofs.YtomfcgeibbicoaaGreat
