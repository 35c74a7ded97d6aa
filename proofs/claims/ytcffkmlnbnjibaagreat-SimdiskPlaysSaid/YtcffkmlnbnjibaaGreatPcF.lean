/- Walk: the document's answer for what is left of a text. -/
import Derived.Test.YtcffkmlnbnjibaaGreatPc0
namespace Go.Proofs.YtcffkmlnbnjibaaGreat
open Go.RowKit
theorem conv_made_at (w : World) (g : Nat) (hg : g = w.heap.size) (n : Nat) (hn : n ≤ 900000) : (convert 195 9 (.slice (some ⟨g, 0, none⟩) n n)).run Tryz.prog (w.alloc (.cells (bys (zeroS n)).toArray 5)) = .ok (.string (zeroS n)) (w.alloc (.cells (bys (zeroS n)).toArray 5)) := by
  subst hg
  exact conv_made w n hn
theorem cnt_mono {a b : Nat} (h : a ≤ b) : cntS a ≤ cntS b := by unfold cntS; omega
set_option maxRecDepth 100000 in
set_option maxHeartbeats 4000000 in
theorem rmix_calls (old now ch : ByteArray) (w : World) (h1 : old.size ≤ 800000) (h2 : now.size ≤ 800000) :
    Calls Tryz.prog 161 #[.string old, .string now, .string ch] w fun e w' => e = .returned (.tuple #[.string (mixS old now ch).1, .int .i64 ((mixS old now ch).2 : Int)]) ∧ Ex w w' := by
  rcases Nat.lt_or_ge (cntS old.size) (cntS now.size) with h | h
  · have hN : cntS (max old.size now.size) = cntS now.size := by
      rcases Nat.le_total old.size now.size with h3 | h3
      · rw [Nat.max_eq_right h3]
      · rw [Nat.max_eq_left h3]; have := cnt_mono h3; omega
    obtain ⟨A, hA⟩ : ∃ A, A = cntS old.size := ⟨_, rfl⟩
    obtain ⟨B, hB⟩ : ∃ B, B = cntS now.size := ⟨_, rfl⟩
    have hAb : A ≤ 25001 := by rw [hA]; unfold cntS; omega
    have hBb : B ≤ 25001 := by rw [hB]; unfold cntS; omega
    have HA := Lib.hid (fun w => hA ▸ rpcount_calls old.size w (by omega))
    have HB := Lib.hid (fun w => hB ▸ rpcount_calls now.size w (by omega))
    have c0 : A < B := by rw [hA, hB]; omega
    have HN := Lib.hid (show cntS (max old.size now.size) = B by rw [hN, hB])
    clear hN hA hB h
    go_enter Tryz.func161, Tryz.ntmps161
    go_wp2_with fail
    go_loopw [8, 9, 10] (fun v8 v9 v10 wr => ∃ k : Nat, k ≤ B ∧ v10 = .int .i64 (k : Int) ∧ v8 = .int .i64 ((mixTo old now ch k).2 : Int) ∧ v9 = .string (mixTo old now ch k).1 ∧ Ex w wr) (fun _ _ v10 _ => B - (intOf v10).toNat)
    case atStart => exact ⟨0, by omega, rfl, rfl, rfl, Ex.refl _⟩
    case round =>
      obtain ⟨k, hk, rfl, rfl, rfl, hb⟩ := hrel
      have HX := Lib.hid hb
      have hsz := mixTo_size old now ch k
      have HS := Lib.hid (mixTo_succ old now ch k)
      have hul : (mixTo old now ch k).2 ≤ k := by rw [mixTo_used]; have := List.length_filter_le (unS old now) (List.range k); rwa [List.length_range] at this
      obtain ⟨O, hO⟩ : ∃ O, O = (mixTo old now ch k).1 := ⟨_, rfl⟩
      obtain ⟨u, hu⟩ : ∃ u, u = (mixTo old now ch k).2 := ⟨_, rfl⟩
      have HE := Lib.hid (show mixTo old now ch k = (O, u) by rw [hO, hu])
      rw [← hO] at hsz ⊢
      rw [← hu] at hul ⊢
      clear hb hO hu
      go_wp2_with fail
      refine (HA.out _).mono ?_
      rintro e w1 ⟨rfl, hb1⟩
      have HX1 := Lib.hid (HX.out.trans hb1)
      clear hb1
      go_wp2_with fail
      refine (HB.out _).mono ?_
      rintro e w2 ⟨rfl, hb2⟩
      have HX2 := Lib.hid (HX1.out.trans hb2)
      clear hb2
      by_cases hlt : k < B
      · have HPK := Lib.hid (pick_size old now ch u k)
        have HSO := Lib.hid (sec_size old k)
        have HSN := Lib.hid (sec_size now k)
        go_wp2_with fail
        refine (rpslice_calls old k _ (by omega)).mono ?_
        rintro e w3 ⟨rfl, hb3⟩
        have HX3 := Lib.hid (HX2.out.trans hb3)
        clear hb3
        go_wp2_with fail
        refine (rpslice_calls now k _ (by omega)).mono ?_
        rintro e w4 ⟨rfl, hb4⟩
        have HX4 := Lib.hid (HX3.out.trans hb4)
        clear hb4
        cases hun : unS old now k
        · have hxy : secS old k = secS now k := by
            have h3 := hun
            unfold unS at h3
            exact of_decide_eq_true (by simpa using h3)
          rw [← hxy]
          clear hxy
          by_cases hx : ((secS old k)).size = 0
          · have e1 : ((secS old k)).toList.isEmpty = true := by rw [noByte]; exact decide_eq_true hx
            have e2 : ((secS old k)).toList = [] := List.isEmpty_iff.1 e1
            have HF : Hid (mixTo old now ch (k + 1) = (O, u)) := by
              have hl : layS O k (secS old k) = O := by unfold layS; rw [if_pos hx]
              rw [HS.out, HE.out]; unfold mixStep; rw [if_neg (by rw [hun]; decide)]; show ((layS O k (secS old k), u) : ByteArray × Nat) = _; rw [hl]
            go_wp2_with fail
            exact ⟨⟨k + 1, by omega, by go_num, by first | (rw [HF.out]; done) | (rw [HF.out]; go_num), by rw [HF.out], HX4.out⟩, by simp [intOf]; omega⟩
          · have e1 : ((secS old k)).toList.isEmpty = false := by rw [noByte]; exact decide_eq_false hx
            have e2 : ¬ ((secS old k)).toList = [] := fun h => by rw [List.isEmpty_iff.2 h] at e1; cases e1
            have HF : Hid (mixTo old now ch (k + 1) = (O ++ zeroS (32 * k - O.size) ++ (secS old k), u)) := by
              have hl : layS O k (secS old k) = O ++ zeroS (32 * k - O.size) ++ (secS old k) := by unfold layS; rw [if_neg hx]
              rw [HS.out, HE.out]; unfold mixStep; rw [if_neg (by rw [hun]; decide)]; show ((layS O k (secS old k), u) : ByteArray × Nat) = _; rw [hl]
            have hw1 : IntKind.i64.wrap (32 * (k : Int)) = 32 * (k : Int) := IntWalk.i64_in _ (by omega)
            have hw2 : IntKind.i64.wrap (32 * (k : Int) - (O.size : Int)) = 32 * (k : Int) - (O.size : Int) := IntWalk.i64_in _ (by omega)
            have hz : 32 * (k : Int) - (O.size : Int) = ((32 * k - O.size : Nat) : Int) := by omega
            have hmk2 := fun w => make_bytes w (32 * k - O.size) (by omega)
            have hcv2 := conv_made_at w4 (w4.heap.size) (by simp) (32 * k - O.size) (by omega)
            have hs1 := zeroS_size (32 * k - O.size)
            have hs2 := HSO.out
            have hs3 := HSN.out
            have hs4 := zeroS_size (secS now k).size
            have HXA := Lib.hid (ex_alloc HX4.out (.cells (bys (zeroS (32 * k - O.size))).toArray 5))
            go_wp2_with fail
            exact ⟨⟨k + 1, by omega, by go_num, by first | (rw [HF.out]; done) | (rw [HF.out]; go_num), by rw [HF.out], HXA.out⟩, by simp [intOf]; omega⟩
        · have hne : ((secS old k).toList == (secS now k).toList) = false := by
            have h3 : ¬ secS old k = secS now k := fun h4 => by unfold unS at hun; rw [decide_eq_true h4] at hun; cases hun
            rw [beq_eq_false_iff_ne]; intro h; exact h3 (ba_data (by rw [ByteArray.toList_eq, ByteArray.toList_eq] at h; exact Array.ext' h))
          go_wp2_with fail
          refine (rchoice_calls ch u _).mono ?_
          rintro e w5 ⟨rfl, hb5⟩
          have HX5 := Lib.hid (HX4.out.trans hb5)
          clear hb5
          by_cases hc1 : chS ch u = 1
          · have HPS : Hid (pickS old now ch u k = secS now k) := by unfold pickS; rw [if_pos hc1]; exact rfl
            rw [hc1]
            by_cases hx : ((secS now k)).size = 0
            · have e1 : ((secS now k)).toList.isEmpty = true := by rw [noByte]; exact decide_eq_true hx
              have e2 : ((secS now k)).toList = [] := List.isEmpty_iff.1 e1
              have HF : Hid (mixTo old now ch (k + 1) = (O, u + 1)) := by
                have hl : layS O k (secS now k) = O := by unfold layS; rw [if_pos hx]
                rw [HS.out, HE.out]; unfold mixStep; rw [if_pos hun]; show ((layS O k (pickS old now ch u k), u + 1) : ByteArray × Nat) = _; rw [HPS.out]; rw [hl]
              go_wp2_with fail
              exact ⟨⟨k + 1, by omega, by go_num, by first | (rw [HF.out]; done) | (rw [HF.out]; go_num), by rw [HF.out], HX5.out⟩, by simp [intOf]; omega⟩
            · have e1 : ((secS now k)).toList.isEmpty = false := by rw [noByte]; exact decide_eq_false hx
              have e2 : ¬ ((secS now k)).toList = [] := fun h => by rw [List.isEmpty_iff.2 h] at e1; cases e1
              have HF : Hid (mixTo old now ch (k + 1) = (O ++ zeroS (32 * k - O.size) ++ (secS now k), u + 1)) := by
                have hl : layS O k (secS now k) = O ++ zeroS (32 * k - O.size) ++ (secS now k) := by unfold layS; rw [if_neg hx]
                rw [HS.out, HE.out]; unfold mixStep; rw [if_pos hun]; show ((layS O k (pickS old now ch u k), u + 1) : ByteArray × Nat) = _; rw [HPS.out]; rw [hl]
              have hw1 : IntKind.i64.wrap (32 * (k : Int)) = 32 * (k : Int) := IntWalk.i64_in _ (by omega)
              have hw2 : IntKind.i64.wrap (32 * (k : Int) - (O.size : Int)) = 32 * (k : Int) - (O.size : Int) := IntWalk.i64_in _ (by omega)
              have hz : 32 * (k : Int) - (O.size : Int) = ((32 * k - O.size : Nat) : Int) := by omega
              have hmk2 := fun w => make_bytes w (32 * k - O.size) (by omega)
              have hcv2 := conv_made_at w5 (w5.heap.size) (by simp) (32 * k - O.size) (by omega)
              have hs1 := zeroS_size (32 * k - O.size)
              have hs2 := HSO.out
              have hs3 := HSN.out
              have hs4 := zeroS_size (secS now k).size
              have HXA := Lib.hid (ex_alloc HX5.out (.cells (bys (zeroS (32 * k - O.size))).toArray 5))
              go_wp2_with fail
              exact ⟨⟨k + 1, by omega, by go_num, by first | (rw [HF.out]; done) | (rw [HF.out]; go_num), by rw [HF.out], HXA.out⟩, by simp [intOf]; omega⟩
          · by_cases hc2 : chS ch u = 2
            · have HPS : Hid (pickS old now ch u k = zeroS (secS now k).size) := by unfold pickS; rw [if_neg hc1, if_pos hc2]; exact rfl
              have hsn := HSN.out
              have hmk := fun w => make_bytes w (secS now k).size (by omega)
              have hcv := conv_made w5 (secS now k).size (by omega)
              have HX6 := Lib.hid (ex_alloc HX5.out (.cells (bys (zeroS (secS now k).size)).toArray 5))
              rw [hc2]
              by_cases hx : ((zeroS (secS now k).size)).size = 0
              · have e1 : ((zeroS (secS now k).size)).toList.isEmpty = true := by rw [noByte]; exact decide_eq_true hx
                have e2 : ((zeroS (secS now k).size)).toList = [] := List.isEmpty_iff.1 e1
                have HF : Hid (mixTo old now ch (k + 1) = (O, u + 1)) := by
                  have hl : layS O k (zeroS (secS now k).size) = O := by unfold layS; rw [if_pos hx]
                  rw [HS.out, HE.out]; unfold mixStep; rw [if_pos hun]; show ((layS O k (pickS old now ch u k), u + 1) : ByteArray × Nat) = _; rw [HPS.out]; rw [hl]
                go_wp2_with fail
                exact ⟨⟨k + 1, by omega, by go_num, by first | (rw [HF.out]; done) | (rw [HF.out]; go_num), by rw [HF.out], HX6.out⟩, by simp [intOf]; omega⟩
              · have e1 : ((zeroS (secS now k).size)).toList.isEmpty = false := by rw [noByte]; exact decide_eq_false hx
                have e2 : ¬ ((zeroS (secS now k).size)).toList = [] := fun h => by rw [List.isEmpty_iff.2 h] at e1; cases e1
                have HF : Hid (mixTo old now ch (k + 1) = (O ++ zeroS (32 * k - O.size) ++ (zeroS (secS now k).size), u + 1)) := by
                  have hl : layS O k (zeroS (secS now k).size) = O ++ zeroS (32 * k - O.size) ++ (zeroS (secS now k).size) := by unfold layS; rw [if_neg hx]
                  rw [HS.out, HE.out]; unfold mixStep; rw [if_pos hun]; show ((layS O k (pickS old now ch u k), u + 1) : ByteArray × Nat) = _; rw [HPS.out]; rw [hl]
                have hw1 : IntKind.i64.wrap (32 * (k : Int)) = 32 * (k : Int) := IntWalk.i64_in _ (by omega)
                have hw2 : IntKind.i64.wrap (32 * (k : Int) - (O.size : Int)) = 32 * (k : Int) - (O.size : Int) := IntWalk.i64_in _ (by omega)
                have hz : 32 * (k : Int) - (O.size : Int) = ((32 * k - O.size : Nat) : Int) := by omega
                have hmk2 := fun w => make_bytes w (32 * k - O.size) (by omega)
                have hcv2 := conv_made_at (w5.alloc (.cells (bys (zeroS (secS now k).size)).toArray 5)) (w5.heap.size + 1) (by simp) (32 * k - O.size) (by omega)
                have hs1 := zeroS_size (32 * k - O.size)
                have hs2 := HSO.out
                have hs3 := HSN.out
                have hs4 := zeroS_size (secS now k).size
                have HXA := Lib.hid (ex_alloc HX6.out (.cells (bys (zeroS (32 * k - O.size))).toArray 5))
                go_wp2_with fail
                exact ⟨⟨k + 1, by omega, by go_num, by first | (rw [HF.out]; done) | (rw [HF.out]; go_num), by rw [HF.out], HXA.out⟩, by simp [intOf]; omega⟩
            · have HPS : Hid (pickS old now ch u k = secS old k) := by unfold pickS; rw [if_neg hc1, if_neg hc2]; exact rfl
              have d3 : decide ((chS ch u : Int) = 1) = false := decide_eq_false (by omega)
              have d4 : decide ((chS ch u : Int) = 2) = false := decide_eq_false (by omega)
              generalize chS ch u = c at *
              by_cases hx : ((secS old k)).size = 0
              · have e1 : ((secS old k)).toList.isEmpty = true := by rw [noByte]; exact decide_eq_true hx
                have e2 : ((secS old k)).toList = [] := List.isEmpty_iff.1 e1
                have HF : Hid (mixTo old now ch (k + 1) = (O, u + 1)) := by
                  have hl : layS O k (secS old k) = O := by unfold layS; rw [if_pos hx]
                  rw [HS.out, HE.out]; unfold mixStep; rw [if_pos hun]; show ((layS O k (pickS old now ch u k), u + 1) : ByteArray × Nat) = _; rw [HPS.out]; rw [hl]
                go_wp2_with fail
                exact ⟨⟨k + 1, by omega, by go_num, by first | (rw [HF.out]; done) | (rw [HF.out]; go_num), by rw [HF.out], HX5.out⟩, by simp [intOf]; omega⟩
              · have e1 : ((secS old k)).toList.isEmpty = false := by rw [noByte]; exact decide_eq_false hx
                have e2 : ¬ ((secS old k)).toList = [] := fun h => by rw [List.isEmpty_iff.2 h] at e1; cases e1
                have HF : Hid (mixTo old now ch (k + 1) = (O ++ zeroS (32 * k - O.size) ++ (secS old k), u + 1)) := by
                  have hl : layS O k (secS old k) = O ++ zeroS (32 * k - O.size) ++ (secS old k) := by unfold layS; rw [if_neg hx]
                  rw [HS.out, HE.out]; unfold mixStep; rw [if_pos hun]; show ((layS O k (pickS old now ch u k), u + 1) : ByteArray × Nat) = _; rw [HPS.out]; rw [hl]
                have hw1 : IntKind.i64.wrap (32 * (k : Int)) = 32 * (k : Int) := IntWalk.i64_in _ (by omega)
                have hw2 : IntKind.i64.wrap (32 * (k : Int) - (O.size : Int)) = 32 * (k : Int) - (O.size : Int) := IntWalk.i64_in _ (by omega)
                have hz : 32 * (k : Int) - (O.size : Int) = ((32 * k - O.size : Nat) : Int) := by omega
                have hmk2 := fun w => make_bytes w (32 * k - O.size) (by omega)
                have hcv2 := conv_made_at w5 (w5.heap.size) (by simp) (32 * k - O.size) (by omega)
                have hs1 := zeroS_size (32 * k - O.size)
                have hs2 := HSO.out
                have hs3 := HSN.out
                have hs4 := zeroS_size (secS now k).size
                have HXA := Lib.hid (ex_alloc HX5.out (.cells (bys (zeroS (32 * k - O.size))).toArray 5))
                go_wp2_with fail
                exact ⟨⟨k + 1, by omega, by go_num, by first | (rw [HF.out]; done) | (rw [HF.out]; go_num), by rw [HF.out], HXA.out⟩, by simp [intOf]; omega⟩
      · have hkN : k = B := by omega
        subst hkN
        have HM : Hid (mixS old now ch = (O, u)) := by unfold mixS; rw [HN.out]; exact HE.out
        go_wp2_with fail
        go_ret2
        exact ⟨by rw [HM.out]; rfl, HX2.out⟩
  · have hN : cntS (max old.size now.size) = cntS old.size := by
      rcases Nat.le_total old.size now.size with h3 | h3
      · rw [Nat.max_eq_right h3]; have := cnt_mono h3; omega
      · rw [Nat.max_eq_left h3]
    obtain ⟨A, hA⟩ : ∃ A, A = cntS old.size := ⟨_, rfl⟩
    obtain ⟨B, hB⟩ : ∃ B, B = cntS now.size := ⟨_, rfl⟩
    have hAb : A ≤ 25001 := by rw [hA]; unfold cntS; omega
    have hBb : B ≤ 25001 := by rw [hB]; unfold cntS; omega
    have HA := Lib.hid (fun w => hA ▸ rpcount_calls old.size w (by omega))
    have HB := Lib.hid (fun w => hB ▸ rpcount_calls now.size w (by omega))
    have c0 : ¬ A < B := by rw [hA, hB]; omega
    have HN := Lib.hid (show cntS (max old.size now.size) = A by rw [hN, hA])
    clear hN hA hB h
    go_enter Tryz.func161, Tryz.ntmps161
    go_wp2_with fail
    go_loopw [8, 9, 10] (fun v8 v9 v10 wr => ∃ k : Nat, k ≤ A ∧ v10 = .int .i64 (k : Int) ∧ v8 = .int .i64 ((mixTo old now ch k).2 : Int) ∧ v9 = .string (mixTo old now ch k).1 ∧ Ex w wr) (fun _ _ v10 _ => A - (intOf v10).toNat)
    case atStart => exact ⟨0, by omega, rfl, rfl, rfl, Ex.refl _⟩
    case round =>
      obtain ⟨k, hk, rfl, rfl, rfl, hb⟩ := hrel
      have HX := Lib.hid hb
      have hsz := mixTo_size old now ch k
      have HS := Lib.hid (mixTo_succ old now ch k)
      have hul : (mixTo old now ch k).2 ≤ k := by rw [mixTo_used]; have := List.length_filter_le (unS old now) (List.range k); rwa [List.length_range] at this
      obtain ⟨O, hO⟩ : ∃ O, O = (mixTo old now ch k).1 := ⟨_, rfl⟩
      obtain ⟨u, hu⟩ : ∃ u, u = (mixTo old now ch k).2 := ⟨_, rfl⟩
      have HE := Lib.hid (show mixTo old now ch k = (O, u) by rw [hO, hu])
      rw [← hO] at hsz ⊢
      rw [← hu] at hul ⊢
      clear hb hO hu
      go_wp2_with fail
      refine (HA.out _).mono ?_
      rintro e w1 ⟨rfl, hb1⟩
      have HX1 := Lib.hid (HX.out.trans hb1)
      clear hb1
      go_wp2_with fail
      refine (HB.out _).mono ?_
      rintro e w2 ⟨rfl, hb2⟩
      have HX2 := Lib.hid (HX1.out.trans hb2)
      clear hb2
      by_cases hlt : k < A
      · have HPK := Lib.hid (pick_size old now ch u k)
        have HSO := Lib.hid (sec_size old k)
        have HSN := Lib.hid (sec_size now k)
        go_wp2_with fail
        refine (rpslice_calls old k _ (by omega)).mono ?_
        rintro e w3 ⟨rfl, hb3⟩
        have HX3 := Lib.hid (HX2.out.trans hb3)
        clear hb3
        go_wp2_with fail
        refine (rpslice_calls now k _ (by omega)).mono ?_
        rintro e w4 ⟨rfl, hb4⟩
        have HX4 := Lib.hid (HX3.out.trans hb4)
        clear hb4
        cases hun : unS old now k
        · have hxy : secS old k = secS now k := by
            have h3 := hun
            unfold unS at h3
            exact of_decide_eq_true (by simpa using h3)
          rw [← hxy]
          clear hxy
          by_cases hx : ((secS old k)).size = 0
          · have e1 : ((secS old k)).toList.isEmpty = true := by rw [noByte]; exact decide_eq_true hx
            have e2 : ((secS old k)).toList = [] := List.isEmpty_iff.1 e1
            have HF : Hid (mixTo old now ch (k + 1) = (O, u)) := by
              have hl : layS O k (secS old k) = O := by unfold layS; rw [if_pos hx]
              rw [HS.out, HE.out]; unfold mixStep; rw [if_neg (by rw [hun]; decide)]; show ((layS O k (secS old k), u) : ByteArray × Nat) = _; rw [hl]
            go_wp2_with fail
            exact ⟨⟨k + 1, by omega, by go_num, by first | (rw [HF.out]; done) | (rw [HF.out]; go_num), by rw [HF.out], HX4.out⟩, by simp [intOf]; omega⟩
          · have e1 : ((secS old k)).toList.isEmpty = false := by rw [noByte]; exact decide_eq_false hx
            have e2 : ¬ ((secS old k)).toList = [] := fun h => by rw [List.isEmpty_iff.2 h] at e1; cases e1
            have HF : Hid (mixTo old now ch (k + 1) = (O ++ zeroS (32 * k - O.size) ++ (secS old k), u)) := by
              have hl : layS O k (secS old k) = O ++ zeroS (32 * k - O.size) ++ (secS old k) := by unfold layS; rw [if_neg hx]
              rw [HS.out, HE.out]; unfold mixStep; rw [if_neg (by rw [hun]; decide)]; show ((layS O k (secS old k), u) : ByteArray × Nat) = _; rw [hl]
            have hw1 : IntKind.i64.wrap (32 * (k : Int)) = 32 * (k : Int) := IntWalk.i64_in _ (by omega)
            have hw2 : IntKind.i64.wrap (32 * (k : Int) - (O.size : Int)) = 32 * (k : Int) - (O.size : Int) := IntWalk.i64_in _ (by omega)
            have hz : 32 * (k : Int) - (O.size : Int) = ((32 * k - O.size : Nat) : Int) := by omega
            have hmk2 := fun w => make_bytes w (32 * k - O.size) (by omega)
            have hcv2 := conv_made_at w4 (w4.heap.size) (by simp) (32 * k - O.size) (by omega)
            have hs1 := zeroS_size (32 * k - O.size)
            have hs2 := HSO.out
            have hs3 := HSN.out
            have hs4 := zeroS_size (secS now k).size
            have HXA := Lib.hid (ex_alloc HX4.out (.cells (bys (zeroS (32 * k - O.size))).toArray 5))
            go_wp2_with fail
            exact ⟨⟨k + 1, by omega, by go_num, by first | (rw [HF.out]; done) | (rw [HF.out]; go_num), by rw [HF.out], HXA.out⟩, by simp [intOf]; omega⟩
        · have hne : ((secS old k).toList == (secS now k).toList) = false := by
            have h3 : ¬ secS old k = secS now k := fun h4 => by unfold unS at hun; rw [decide_eq_true h4] at hun; cases hun
            rw [beq_eq_false_iff_ne]; intro h; exact h3 (ba_data (by rw [ByteArray.toList_eq, ByteArray.toList_eq] at h; exact Array.ext' h))
          go_wp2_with fail
          refine (rchoice_calls ch u _).mono ?_
          rintro e w5 ⟨rfl, hb5⟩
          have HX5 := Lib.hid (HX4.out.trans hb5)
          clear hb5
          by_cases hc1 : chS ch u = 1
          · have HPS : Hid (pickS old now ch u k = secS now k) := by unfold pickS; rw [if_pos hc1]; exact rfl
            rw [hc1]
            by_cases hx : ((secS now k)).size = 0
            · have e1 : ((secS now k)).toList.isEmpty = true := by rw [noByte]; exact decide_eq_true hx
              have e2 : ((secS now k)).toList = [] := List.isEmpty_iff.1 e1
              have HF : Hid (mixTo old now ch (k + 1) = (O, u + 1)) := by
                have hl : layS O k (secS now k) = O := by unfold layS; rw [if_pos hx]
                rw [HS.out, HE.out]; unfold mixStep; rw [if_pos hun]; show ((layS O k (pickS old now ch u k), u + 1) : ByteArray × Nat) = _; rw [HPS.out]; rw [hl]
              go_wp2_with fail
              exact ⟨⟨k + 1, by omega, by go_num, by first | (rw [HF.out]; done) | (rw [HF.out]; go_num), by rw [HF.out], HX5.out⟩, by simp [intOf]; omega⟩
            · have e1 : ((secS now k)).toList.isEmpty = false := by rw [noByte]; exact decide_eq_false hx
              have e2 : ¬ ((secS now k)).toList = [] := fun h => by rw [List.isEmpty_iff.2 h] at e1; cases e1
              have HF : Hid (mixTo old now ch (k + 1) = (O ++ zeroS (32 * k - O.size) ++ (secS now k), u + 1)) := by
                have hl : layS O k (secS now k) = O ++ zeroS (32 * k - O.size) ++ (secS now k) := by unfold layS; rw [if_neg hx]
                rw [HS.out, HE.out]; unfold mixStep; rw [if_pos hun]; show ((layS O k (pickS old now ch u k), u + 1) : ByteArray × Nat) = _; rw [HPS.out]; rw [hl]
              have hw1 : IntKind.i64.wrap (32 * (k : Int)) = 32 * (k : Int) := IntWalk.i64_in _ (by omega)
              have hw2 : IntKind.i64.wrap (32 * (k : Int) - (O.size : Int)) = 32 * (k : Int) - (O.size : Int) := IntWalk.i64_in _ (by omega)
              have hz : 32 * (k : Int) - (O.size : Int) = ((32 * k - O.size : Nat) : Int) := by omega
              have hmk2 := fun w => make_bytes w (32 * k - O.size) (by omega)
              have hcv2 := conv_made_at w5 (w5.heap.size) (by simp) (32 * k - O.size) (by omega)
              have hs1 := zeroS_size (32 * k - O.size)
              have hs2 := HSO.out
              have hs3 := HSN.out
              have hs4 := zeroS_size (secS now k).size
              have HXA := Lib.hid (ex_alloc HX5.out (.cells (bys (zeroS (32 * k - O.size))).toArray 5))
              go_wp2_with fail
              exact ⟨⟨k + 1, by omega, by go_num, by first | (rw [HF.out]; done) | (rw [HF.out]; go_num), by rw [HF.out], HXA.out⟩, by simp [intOf]; omega⟩
          · by_cases hc2 : chS ch u = 2
            · have HPS : Hid (pickS old now ch u k = zeroS (secS now k).size) := by unfold pickS; rw [if_neg hc1, if_pos hc2]; exact rfl
              have hsn := HSN.out
              have hmk := fun w => make_bytes w (secS now k).size (by omega)
              have hcv := conv_made w5 (secS now k).size (by omega)
              have HX6 := Lib.hid (ex_alloc HX5.out (.cells (bys (zeroS (secS now k).size)).toArray 5))
              rw [hc2]
              by_cases hx : ((zeroS (secS now k).size)).size = 0
              · have e1 : ((zeroS (secS now k).size)).toList.isEmpty = true := by rw [noByte]; exact decide_eq_true hx
                have e2 : ((zeroS (secS now k).size)).toList = [] := List.isEmpty_iff.1 e1
                have HF : Hid (mixTo old now ch (k + 1) = (O, u + 1)) := by
                  have hl : layS O k (zeroS (secS now k).size) = O := by unfold layS; rw [if_pos hx]
                  rw [HS.out, HE.out]; unfold mixStep; rw [if_pos hun]; show ((layS O k (pickS old now ch u k), u + 1) : ByteArray × Nat) = _; rw [HPS.out]; rw [hl]
                go_wp2_with fail
                exact ⟨⟨k + 1, by omega, by go_num, by first | (rw [HF.out]; done) | (rw [HF.out]; go_num), by rw [HF.out], HX6.out⟩, by simp [intOf]; omega⟩
              · have e1 : ((zeroS (secS now k).size)).toList.isEmpty = false := by rw [noByte]; exact decide_eq_false hx
                have e2 : ¬ ((zeroS (secS now k).size)).toList = [] := fun h => by rw [List.isEmpty_iff.2 h] at e1; cases e1
                have HF : Hid (mixTo old now ch (k + 1) = (O ++ zeroS (32 * k - O.size) ++ (zeroS (secS now k).size), u + 1)) := by
                  have hl : layS O k (zeroS (secS now k).size) = O ++ zeroS (32 * k - O.size) ++ (zeroS (secS now k).size) := by unfold layS; rw [if_neg hx]
                  rw [HS.out, HE.out]; unfold mixStep; rw [if_pos hun]; show ((layS O k (pickS old now ch u k), u + 1) : ByteArray × Nat) = _; rw [HPS.out]; rw [hl]
                have hw1 : IntKind.i64.wrap (32 * (k : Int)) = 32 * (k : Int) := IntWalk.i64_in _ (by omega)
                have hw2 : IntKind.i64.wrap (32 * (k : Int) - (O.size : Int)) = 32 * (k : Int) - (O.size : Int) := IntWalk.i64_in _ (by omega)
                have hz : 32 * (k : Int) - (O.size : Int) = ((32 * k - O.size : Nat) : Int) := by omega
                have hmk2 := fun w => make_bytes w (32 * k - O.size) (by omega)
                have hcv2 := conv_made_at (w5.alloc (.cells (bys (zeroS (secS now k).size)).toArray 5)) (w5.heap.size + 1) (by simp) (32 * k - O.size) (by omega)
                have hs1 := zeroS_size (32 * k - O.size)
                have hs2 := HSO.out
                have hs3 := HSN.out
                have hs4 := zeroS_size (secS now k).size
                have HXA := Lib.hid (ex_alloc HX6.out (.cells (bys (zeroS (32 * k - O.size))).toArray 5))
                go_wp2_with fail
                exact ⟨⟨k + 1, by omega, by go_num, by first | (rw [HF.out]; done) | (rw [HF.out]; go_num), by rw [HF.out], HXA.out⟩, by simp [intOf]; omega⟩
            · have HPS : Hid (pickS old now ch u k = secS old k) := by unfold pickS; rw [if_neg hc1, if_neg hc2]; exact rfl
              have d3 : decide ((chS ch u : Int) = 1) = false := decide_eq_false (by omega)
              have d4 : decide ((chS ch u : Int) = 2) = false := decide_eq_false (by omega)
              generalize chS ch u = c at *
              by_cases hx : ((secS old k)).size = 0
              · have e1 : ((secS old k)).toList.isEmpty = true := by rw [noByte]; exact decide_eq_true hx
                have e2 : ((secS old k)).toList = [] := List.isEmpty_iff.1 e1
                have HF : Hid (mixTo old now ch (k + 1) = (O, u + 1)) := by
                  have hl : layS O k (secS old k) = O := by unfold layS; rw [if_pos hx]
                  rw [HS.out, HE.out]; unfold mixStep; rw [if_pos hun]; show ((layS O k (pickS old now ch u k), u + 1) : ByteArray × Nat) = _; rw [HPS.out]; rw [hl]
                go_wp2_with fail
                exact ⟨⟨k + 1, by omega, by go_num, by first | (rw [HF.out]; done) | (rw [HF.out]; go_num), by rw [HF.out], HX5.out⟩, by simp [intOf]; omega⟩
              · have e1 : ((secS old k)).toList.isEmpty = false := by rw [noByte]; exact decide_eq_false hx
                have e2 : ¬ ((secS old k)).toList = [] := fun h => by rw [List.isEmpty_iff.2 h] at e1; cases e1
                have HF : Hid (mixTo old now ch (k + 1) = (O ++ zeroS (32 * k - O.size) ++ (secS old k), u + 1)) := by
                  have hl : layS O k (secS old k) = O ++ zeroS (32 * k - O.size) ++ (secS old k) := by unfold layS; rw [if_neg hx]
                  rw [HS.out, HE.out]; unfold mixStep; rw [if_pos hun]; show ((layS O k (pickS old now ch u k), u + 1) : ByteArray × Nat) = _; rw [HPS.out]; rw [hl]
                have hw1 : IntKind.i64.wrap (32 * (k : Int)) = 32 * (k : Int) := IntWalk.i64_in _ (by omega)
                have hw2 : IntKind.i64.wrap (32 * (k : Int) - (O.size : Int)) = 32 * (k : Int) - (O.size : Int) := IntWalk.i64_in _ (by omega)
                have hz : 32 * (k : Int) - (O.size : Int) = ((32 * k - O.size : Nat) : Int) := by omega
                have hmk2 := fun w => make_bytes w (32 * k - O.size) (by omega)
                have hcv2 := conv_made_at w5 (w5.heap.size) (by simp) (32 * k - O.size) (by omega)
                have hs1 := zeroS_size (32 * k - O.size)
                have hs2 := HSO.out
                have hs3 := HSN.out
                have hs4 := zeroS_size (secS now k).size
                have HXA := Lib.hid (ex_alloc HX5.out (.cells (bys (zeroS (32 * k - O.size))).toArray 5))
                go_wp2_with fail
                exact ⟨⟨k + 1, by omega, by go_num, by first | (rw [HF.out]; done) | (rw [HF.out]; go_num), by rw [HF.out], HXA.out⟩, by simp [intOf]; omega⟩
      · have hkN : k = A := by omega
        subst hkN
        have HM : Hid (mixS old now ch = (O, u)) := by unfold mixS; rw [HN.out]; exact HE.out
        go_wp2_with fail
        go_ret2
        exact ⟨by rw [HM.out]; rfl, HX2.out⟩
end Go.Proofs.YtcffkmlnbnjibaaGreat
