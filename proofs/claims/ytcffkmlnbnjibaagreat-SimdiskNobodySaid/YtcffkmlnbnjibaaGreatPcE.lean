/- Walk: what is left of a text when the power goes. -/
import Derived.Test.YtcffkmlnbnjibaaGreatPcD
import Derived.Laws.MakeOwn
import Derived.WalkMore
namespace Go.Proofs.YtcffkmlnbnjibaaGreat
open Go.RowKit
theorem row_at {w : World} {A : Option Addr} {n : Nat} {cs : List Value} (h : Row w 1 A n cs) {k : Nat} {v : Value} (hk : cs[k]? = some v) : ∃ b o, A = some ⟨b, o, none⟩ ∧ w.cell? ⟨b, o + k, none⟩ = some v := by
  have hl := (List.getElem?_eq_some_iff.1 hk).1
  rw [h.1] at hl
  obtain ⟨b, o, e, hc⟩ := h.2 (by omega)
  exact ⟨b, o, e, hc k _ hk⟩
/-- make([]byte, n), and that as a text. -/
theorem make_bytes (w : World) (n : Nat) (hn : n ≤ 900000) : (Instr.makeSlice 195 (.int .i64 (n : Int)) (.int .i64 (n : Int))).run Tryz.prog w = .ok (.slice (some ⟨w.heap.size, 0, none⟩) n n) (w.alloc (.cells (bys (zeroS n)).toArray 5)) := by
  obtain ⟨i0, hi0, hz0, hz1, hz2⟩ := info_parts info_b1
  have := run_make (P := Tryz.prog) w 195 5 i0 (.int .u8 0) Tryz.underlying195 hi0 hz0 .i64 .i64 (n : Int) (n : Int) (by omega) (Int.le_refl _) (by rw [hz2]; omega) (by omega)
  rw [Int.toNat_natCast, hz1, Nat.mul_one] at this
  rw [this]
  have e : (madeCells (Value.int .u8 0).cells n) = (bys (zeroS n)).toArray := by
    rw [bys_zero]
    apply Array.ext'
    apply List.ext_getElem?
    intro i
    by_cases h : i < n
    · simp [madeCells, Value.cells, h, Nat.mod_one]
    · simp [madeCells, Value.cells, h, Nat.mod_one]
  rw [e]
theorem conv_made (w : World) (n : Nat) (hn : n ≤ 900000) : (convert 195 9 (.slice (some ⟨w.heap.size, 0, none⟩) n n)).run Tryz.prog (w.alloc (.cells (bys (zeroS n)).toArray 5)) = .ok (.string (zeroS n)) (w.alloc (.cells (bys (zeroS n)).toArray 5)) :=
  conv_bytes _ 195 9 5 Tryz.underlying195 Tryz.underlying5 Tryz.underlying9 (base := 0) (n := n) (own_of_blk (Blk.new w (bys (zeroS n)) 5) (Nat.zero_le _) (Nat.le_refl _) (by unfold maxLen; omega) (by rw [bys_len, zeroS_size]; omega) (by rw [List.take_of_length_le (by rw [bys_len, zeroS_size]; omega)]))
set_option maxRecDepth 100000 in
set_option maxHeartbeats 4000000 in
theorem pmix_calls (old now ch : ByteArray) (w : World) (h1 : old.size ≤ 800000) (h2 : now.size ≤ 800000) :
    Calls Tryz.prog 122 #[.string old, .string now, .string ch] w fun e w' => e = .returned (.tuple #[.string (mixS old now ch).1, .int .i64 ((mixS old now ch).2 : Int)]) ∧ Ex w w' := by
  rcases Nat.lt_or_ge old.size now.size with h | h
  · have hM : max old.size now.size = now.size := by omega
    have hN : cntS (max old.size now.size) = cntS now.size := by rw [hM]
    obtain ⟨N, hNN⟩ : ∃ N, N = cntS now.size := ⟨_, rfl⟩
    have hNb : N ≤ 25000 := by rw [hNN]; unfold cntS; omega
    have HN := Lib.hid (hN.trans hNN.symm)
    have HP := Lib.hid (fun w => hNN ▸ pcount_calls now.size w (by omega))
    have c0 : old.size < now.size := by omega
    obtain ⟨U, hU⟩ : ∃ U, U = unlikeS old now := ⟨_, rfl⟩
    have HU := Lib.hid (show U = (List.range N).filter (unS old now) by rw [hU]; unfold unlikeS; rw [HN.out])
    have HC := Lib.hid (fun w => hU ▸ unlike_calls old now w (by omega) (by omega))
    have hUl : U.length ≤ N := by rw [HU.out]; have := List.length_filter_le (unS old now) (List.range N); rwa [List.length_range] at this
    clear hM hN hNN h hU
    go_enter Tryz.func122, Tryz.ntmps122
    go_wp2_with fail
    go_step3
    go_wp2_with fail
    refine (HC.out _).mono ?_
    rintro e w1 ⟨vU, rfl, hrU, hb1⟩
    obtain ⟨AU, cU, rfl⟩ : ∃ A c, vU = .slice A U.length c := by
      rcases own_blk hrU with ⟨rfl, hz, _⟩ | ⟨g, cap, cur, rfl, _⟩
      · exact ⟨_, _, by rw [hz]⟩
      · exact ⟨_, _, rfl⟩
    have HRU := Lib.hid (Row.of_own hrU)
    have HB1 := Lib.hid hb1
    clear hrU hb1
    go_wp2_with fail
    go_step3
    go_wp2_with fail
    refine (HP.out _).mono ?_
    rintro e w2 ⟨rfl, hb2⟩
    have HB2 := Lib.hid hb2
    clear hb2
    go_wp2_with fail
    go_loopw [9, 10, 24] (fun v9 v10 v24 wr => ∃ k : Nat, k ≤ N ∧ v24 = .int .i64 (k : Int) ∧ v10 = .int .i64 ((mixTo old now ch k).2 : Int) ∧ wr.ownsRow w2.heap.size 5 1 v9 (mixTo old now ch k).1.size (bys (mixTo old now ch k).1) ∧ Ex w2 wr) (fun _ _ v24 _ => N - (intOf v24).toNat)
    case atStart => exact ⟨0, by omega, rfl, rfl, World.ownsRow_nil _ _ _ _, Ex.refl _⟩
    case round =>
      obtain ⟨k, hk, rfl, rfl, hr, hb⟩ := hrel
      have HR := Lib.hid hr
      have HX := Lib.hid hb
      have hsz := mixTo_size old now ch k
      have hus := mixTo_used old now ch k
      have HS := Lib.hid (mixTo_succ old now ch k)
      have hul : (mixTo old now ch k).2 ≤ k := by rw [hus]; have := List.length_filter_le (unS old now) (List.range k); rwa [List.length_range] at this
      have HUS := Lib.hid hus
      obtain ⟨O, hO⟩ : ∃ O, O = (mixTo old now ch k).1 := ⟨_, rfl⟩
      obtain ⟨u, hu⟩ : ∃ u, u = (mixTo old now ch k).2 := ⟨_, rfl⟩
      have HE := Lib.hid (show mixTo old now ch k = (O, u) by rw [hO, hu])
      rw [← hO] at hr hsz
      rw [← hu] at hul hus ⊢
      have HR := Lib.hid hr
      have HUS := Lib.hid hus
      clear hr hb hus hu hO
      by_cases hlt : k < N
      · have HPK := Lib.hid (pick_size old now ch u k)
        have HSO := Lib.hid (sec_size old k)
        have HSN := Lib.hid (sec_size now k)
        go_wp2_with fail
        refine (pslice_calls old k _ (by omega)).mono ?_
        rintro e w3 ⟨rfl, hb3⟩
        have HX3 := Lib.hid (HX.out.trans hb3)
        have HR3 := Lib.hid (own_ex' HR.out hb3)
        clear hb3
        go_wp2_with fail
        refine (pslice_calls now k _ (by omega)).mono ?_
        rintro e w4 ⟨rfl, hb4⟩
        have HX4 := Lib.hid (HX3.out.trans hb4)
        have HR4 := Lib.hid (own_ex' HR3.out hb4)
        have hb24 := HX4.out.size
        clear hb4
        cases hun : unS old now k
        · have HRU4 := Lib.hid (HRU.out.ex (HB2.out.trans HX4.out))
          by_cases hul2 : U.length ≤ u
          · have d1 : decide ((U.length : Int) ≤ (u : Int)) = true := decide_eq_true (by omega)
            go_wp2_with fail
            refine (lay_calls O (secS old k) k u9 w2.heap.size _ HR4.out hb24 hsz (by have := HSO.out; have := HSN.out; have := HPK.out; (try rw [zeroS_size]); omega)).mono ?_
            rintro e w5 ⟨v5, rfl, hr5, hb5⟩
            have HR5 := Lib.hid hr5
            have HX5 := Lib.hid (Below.trans HX4.out hb5)
            have HF : Hid (mixTo old now ch (k + 1) = (layS O k (secS old k), u)) := by
              rw [HS.out, HE.out]; unfold mixStep; rw [if_neg (by rw [hun]; decide)]; exact rfl
            clear hr5 hb5
            go_wp2_with fail
            exact ⟨⟨k + 1, by omega, by go_num, by first | (rw [HF.out]; done) | (rw [HF.out]; go_num), by rw [HF.out]; exact HR5.out, HX5.out⟩, by simp [intOf]; omega⟩
          · have d1 : decide ((U.length : Int) ≤ (u : Int)) = false := decide_eq_false (by omega)
            obtain ⟨m, hm⟩ : ∃ m, U[u]? = some m := ⟨_, List.getElem?_eq_getElem (by omega)⟩
            have hmk : m ≠ k := by have h3 := hm; rw [HU.out, HUS.out] at h3; exact un_neg hlt hun h3
            have d2 : decide ((m : Int) = (k : Int)) = false := decide_eq_false (by omega)
            obtain ⟨b, o, rfl, hcell⟩ := row_at HRU4.out (k := u) (v := .int .i64 (m : Int)) (by unfold nats; rw [List.getElem?_map, hm]; exact rfl)
            clear hm
            have hlu : (u : Int) < (U.length : Int) := by omega
            go_wp2_with fail
            refine (lay_calls O (secS old k) k u9 w2.heap.size _ HR4.out hb24 hsz (by have := HSO.out; have := HSN.out; have := HPK.out; (try rw [zeroS_size]); omega)).mono ?_
            rintro e w5 ⟨v5, rfl, hr5, hb5⟩
            have HR5 := Lib.hid hr5
            have HX5 := Lib.hid (Below.trans HX4.out hb5)
            have HF : Hid (mixTo old now ch (k + 1) = (layS O k (secS old k), u)) := by
              rw [HS.out, HE.out]; unfold mixStep; rw [if_neg (by rw [hun]; decide)]; exact rfl
            clear hr5 hb5
            go_wp2_with fail
            exact ⟨⟨k + 1, by omega, by go_num, by first | (rw [HF.out]; done) | (rw [HF.out]; go_num), by rw [HF.out]; exact HR5.out, HX5.out⟩, by simp [intOf]; omega⟩
        · have HRU4 := Lib.hid (HRU.out.ex (HB2.out.trans HX4.out))
          have hm : U[u]? = some k := by rw [HU.out, HUS.out]; exact un_pos hlt hun
          have hul2 : u < U.length := (List.getElem?_eq_some_iff.1 hm).1
          have d1 : decide ((U.length : Int) ≤ (u : Int)) = false := decide_eq_false (by omega)
          obtain ⟨b, o, rfl, hcell⟩ := row_at HRU4.out (k := u) (v := .int .i64 (k : Int)) (by unfold nats; rw [List.getElem?_map, hm]; exact rfl)
          clear hm
          have hlu : (u : Int) < (U.length : Int) := by omega
          go_wp2_with fail
          refine (choose_calls ch u _).mono ?_
          rintro e w5 ⟨rfl, hb5⟩
          have HX5' := Lib.hid (HX4.out.trans hb5)
          have HR5' := Lib.hid (own_ex' HR4.out hb5)
          have hb25 := HX5'.out.size
          clear hb5
          by_cases hc1 : chS ch u = 1
          · have HPS : Hid (pickS old now ch u k = secS now k) := by unfold pickS; rw [if_pos hc1]; exact rfl
            rw [hc1]
            go_wp2_with fail
            refine (lay_calls O (secS now k) k u9 w2.heap.size _ HR5'.out hb25 hsz (by have := HSO.out; have := HSN.out; have := HPK.out; (try rw [zeroS_size]); omega)).mono ?_
            rintro e w6 ⟨v5, rfl, hr5, hb5⟩
            have HR5 := Lib.hid hr5
            have HX5 := Lib.hid (Below.trans HX5'.out hb5)
            have HF : Hid (mixTo old now ch (k + 1) = (layS O k (secS now k), u + 1)) := by
              rw [HS.out, HE.out]; unfold mixStep; rw [if_pos hun]; show ((layS O k (pickS old now ch u k), u + 1) : ByteArray × Nat) = _; rw [HPS.out]
            clear hr5 hb5
            go_wp2_with fail
            exact ⟨⟨k + 1, by omega, by go_num, by first | (rw [HF.out]; done) | (rw [HF.out]; go_num), by rw [HF.out]; exact HR5.out, HX5.out⟩, by simp [intOf]; omega⟩
          · by_cases hc2 : chS ch u = 2
            · have HPS : Hid (pickS old now ch u k = zeroS (secS now k).size) := by unfold pickS; rw [if_neg hc1, if_pos hc2]; exact rfl
              have hsn := HSN.out
              have hmk := fun w => make_bytes w (secS now k).size (by omega)
              have hcv := conv_made w5 (secS now k).size (by omega)
              have HX6 := Lib.hid (ex_alloc HX5'.out (.cells (bys (zeroS (secS now k).size)).toArray 5))
              have HR6 := Lib.hid (own_ex' HR5'.out (ex_alloc (Ex.refl _) (.cells (bys (zeroS (secS now k).size)).toArray 5)))
              have hb26 := HX6.out.size
              rw [hc2]
              go_wp2_with fail
              refine (lay_calls O (zeroS (secS now k).size) k u9 w2.heap.size _ HR6.out hb26 hsz (by have := HSO.out; have := HSN.out; have := HPK.out; (try rw [zeroS_size]); omega)).mono ?_
              rintro e w6 ⟨v5, rfl, hr5, hb5⟩
              have HR5 := Lib.hid hr5
              have HX5 := Lib.hid (Below.trans HX6.out hb5)
              have HF : Hid (mixTo old now ch (k + 1) = (layS O k (zeroS (secS now k).size), u + 1)) := by
                rw [HS.out, HE.out]; unfold mixStep; rw [if_pos hun]; show ((layS O k (pickS old now ch u k), u + 1) : ByteArray × Nat) = _; rw [HPS.out]
              clear hr5 hb5
              go_wp2_with fail
              exact ⟨⟨k + 1, by omega, by go_num, by first | (rw [HF.out]; done) | (rw [HF.out]; go_num), by rw [HF.out]; exact HR5.out, HX5.out⟩, by simp [intOf]; omega⟩
            · have HPS : Hid (pickS old now ch u k = secS old k) := by unfold pickS; rw [if_neg hc1, if_neg hc2]; exact rfl
              have d3 : decide ((chS ch u : Int) = 1) = false := decide_eq_false (by omega)
              have d4 : decide ((chS ch u : Int) = 2) = false := decide_eq_false (by omega)
              generalize chS ch u = c at *
              go_wp2_with fail
              refine (lay_calls O (secS old k) k u9 w2.heap.size _ HR5'.out hb25 hsz (by have := HSO.out; have := HSN.out; have := HPK.out; (try rw [zeroS_size]); omega)).mono ?_
              rintro e w6 ⟨v5, rfl, hr5, hb5⟩
              have HR5 := Lib.hid hr5
              have HX5 := Lib.hid (Below.trans HX5'.out hb5)
              have HF : Hid (mixTo old now ch (k + 1) = (layS O k (secS old k), u + 1)) := by
                rw [HS.out, HE.out]; unfold mixStep; rw [if_pos hun]; show ((layS O k (pickS old now ch u k), u + 1) : ByteArray × Nat) = _; rw [HPS.out]
              clear hr5 hb5
              go_wp2_with fail
              exact ⟨⟨k + 1, by omega, by go_num, by first | (rw [HF.out]; done) | (rw [HF.out]; go_num), by rw [HF.out]; exact HR5.out, HX5.out⟩, by simp [intOf]; omega⟩
      · have hkN : k = N := by omega
        subst hkN
        have hcv := conv_bytes (P := Tryz.prog) wr 195 9 5 Tryz.underlying195 Tryz.underlying5 Tryz.underlying9 HR.out
        have HM : Hid (mixS old now ch = (O, u)) := by unfold mixS; rw [HN.out]; exact HE.out
        have HXX := Lib.hid ((HB1.out.trans HB2.out).trans HX.out)
        go_wp2_with fail
        (try rw [Exit.noGoto_ret])
        go_ret2
        exact ⟨by rw [HM.out]; rfl, HXX.out⟩
  · have hM : max old.size now.size = old.size := by omega
    have hN : cntS (max old.size now.size) = cntS old.size := by rw [hM]
    obtain ⟨N, hNN⟩ : ∃ N, N = cntS old.size := ⟨_, rfl⟩
    have hNb : N ≤ 25000 := by rw [hNN]; unfold cntS; omega
    have HN := Lib.hid (hN.trans hNN.symm)
    have HP := Lib.hid (fun w => hNN ▸ pcount_calls old.size w (by omega))
    have c0 : ¬ old.size < now.size := by omega
    obtain ⟨U, hU⟩ : ∃ U, U = unlikeS old now := ⟨_, rfl⟩
    have HU := Lib.hid (show U = (List.range N).filter (unS old now) by rw [hU]; unfold unlikeS; rw [HN.out])
    have HC := Lib.hid (fun w => hU ▸ unlike_calls old now w (by omega) (by omega))
    have hUl : U.length ≤ N := by rw [HU.out]; have := List.length_filter_le (unS old now) (List.range N); rwa [List.length_range] at this
    clear hM hN hNN h hU
    go_enter Tryz.func122, Tryz.ntmps122
    go_wp2_with fail
    go_step3
    go_wp2_with fail
    refine (HC.out _).mono ?_
    rintro e w1 ⟨vU, rfl, hrU, hb1⟩
    obtain ⟨AU, cU, rfl⟩ : ∃ A c, vU = .slice A U.length c := by
      rcases own_blk hrU with ⟨rfl, hz, _⟩ | ⟨g, cap, cur, rfl, _⟩
      · exact ⟨_, _, by rw [hz]⟩
      · exact ⟨_, _, rfl⟩
    have HRU := Lib.hid (Row.of_own hrU)
    have HB1 := Lib.hid hb1
    clear hrU hb1
    go_wp2_with fail
    go_step3
    go_wp2_with fail
    refine (HP.out _).mono ?_
    rintro e w2 ⟨rfl, hb2⟩
    have HB2 := Lib.hid hb2
    clear hb2
    go_wp2_with fail
    go_loopw [9, 10, 24] (fun v9 v10 v24 wr => ∃ k : Nat, k ≤ N ∧ v24 = .int .i64 (k : Int) ∧ v10 = .int .i64 ((mixTo old now ch k).2 : Int) ∧ wr.ownsRow w2.heap.size 5 1 v9 (mixTo old now ch k).1.size (bys (mixTo old now ch k).1) ∧ Ex w2 wr) (fun _ _ v24 _ => N - (intOf v24).toNat)
    case atStart => exact ⟨0, by omega, rfl, rfl, World.ownsRow_nil _ _ _ _, Ex.refl _⟩
    case round =>
      obtain ⟨k, hk, rfl, rfl, hr, hb⟩ := hrel
      have HR := Lib.hid hr
      have HX := Lib.hid hb
      have hsz := mixTo_size old now ch k
      have hus := mixTo_used old now ch k
      have HS := Lib.hid (mixTo_succ old now ch k)
      have hul : (mixTo old now ch k).2 ≤ k := by rw [hus]; have := List.length_filter_le (unS old now) (List.range k); rwa [List.length_range] at this
      have HUS := Lib.hid hus
      obtain ⟨O, hO⟩ : ∃ O, O = (mixTo old now ch k).1 := ⟨_, rfl⟩
      obtain ⟨u, hu⟩ : ∃ u, u = (mixTo old now ch k).2 := ⟨_, rfl⟩
      have HE := Lib.hid (show mixTo old now ch k = (O, u) by rw [hO, hu])
      rw [← hO] at hr hsz
      rw [← hu] at hul hus ⊢
      have HR := Lib.hid hr
      have HUS := Lib.hid hus
      clear hr hb hus hu hO
      by_cases hlt : k < N
      · have HPK := Lib.hid (pick_size old now ch u k)
        have HSO := Lib.hid (sec_size old k)
        have HSN := Lib.hid (sec_size now k)
        go_wp2_with fail
        refine (pslice_calls old k _ (by omega)).mono ?_
        rintro e w3 ⟨rfl, hb3⟩
        have HX3 := Lib.hid (HX.out.trans hb3)
        have HR3 := Lib.hid (own_ex' HR.out hb3)
        clear hb3
        go_wp2_with fail
        refine (pslice_calls now k _ (by omega)).mono ?_
        rintro e w4 ⟨rfl, hb4⟩
        have HX4 := Lib.hid (HX3.out.trans hb4)
        have HR4 := Lib.hid (own_ex' HR3.out hb4)
        have hb24 := HX4.out.size
        clear hb4
        cases hun : unS old now k
        · have HRU4 := Lib.hid (HRU.out.ex (HB2.out.trans HX4.out))
          by_cases hul2 : U.length ≤ u
          · have d1 : decide ((U.length : Int) ≤ (u : Int)) = true := decide_eq_true (by omega)
            go_wp2_with fail
            refine (lay_calls O (secS old k) k u9 w2.heap.size _ HR4.out hb24 hsz (by have := HSO.out; have := HSN.out; have := HPK.out; (try rw [zeroS_size]); omega)).mono ?_
            rintro e w5 ⟨v5, rfl, hr5, hb5⟩
            have HR5 := Lib.hid hr5
            have HX5 := Lib.hid (Below.trans HX4.out hb5)
            have HF : Hid (mixTo old now ch (k + 1) = (layS O k (secS old k), u)) := by
              rw [HS.out, HE.out]; unfold mixStep; rw [if_neg (by rw [hun]; decide)]; exact rfl
            clear hr5 hb5
            go_wp2_with fail
            exact ⟨⟨k + 1, by omega, by go_num, by first | (rw [HF.out]; done) | (rw [HF.out]; go_num), by rw [HF.out]; exact HR5.out, HX5.out⟩, by simp [intOf]; omega⟩
          · have d1 : decide ((U.length : Int) ≤ (u : Int)) = false := decide_eq_false (by omega)
            obtain ⟨m, hm⟩ : ∃ m, U[u]? = some m := ⟨_, List.getElem?_eq_getElem (by omega)⟩
            have hmk : m ≠ k := by have h3 := hm; rw [HU.out, HUS.out] at h3; exact un_neg hlt hun h3
            have d2 : decide ((m : Int) = (k : Int)) = false := decide_eq_false (by omega)
            obtain ⟨b, o, rfl, hcell⟩ := row_at HRU4.out (k := u) (v := .int .i64 (m : Int)) (by unfold nats; rw [List.getElem?_map, hm]; exact rfl)
            clear hm
            have hlu : (u : Int) < (U.length : Int) := by omega
            go_wp2_with fail
            refine (lay_calls O (secS old k) k u9 w2.heap.size _ HR4.out hb24 hsz (by have := HSO.out; have := HSN.out; have := HPK.out; (try rw [zeroS_size]); omega)).mono ?_
            rintro e w5 ⟨v5, rfl, hr5, hb5⟩
            have HR5 := Lib.hid hr5
            have HX5 := Lib.hid (Below.trans HX4.out hb5)
            have HF : Hid (mixTo old now ch (k + 1) = (layS O k (secS old k), u)) := by
              rw [HS.out, HE.out]; unfold mixStep; rw [if_neg (by rw [hun]; decide)]; exact rfl
            clear hr5 hb5
            go_wp2_with fail
            exact ⟨⟨k + 1, by omega, by go_num, by first | (rw [HF.out]; done) | (rw [HF.out]; go_num), by rw [HF.out]; exact HR5.out, HX5.out⟩, by simp [intOf]; omega⟩
        · have HRU4 := Lib.hid (HRU.out.ex (HB2.out.trans HX4.out))
          have hm : U[u]? = some k := by rw [HU.out, HUS.out]; exact un_pos hlt hun
          have hul2 : u < U.length := (List.getElem?_eq_some_iff.1 hm).1
          have d1 : decide ((U.length : Int) ≤ (u : Int)) = false := decide_eq_false (by omega)
          obtain ⟨b, o, rfl, hcell⟩ := row_at HRU4.out (k := u) (v := .int .i64 (k : Int)) (by unfold nats; rw [List.getElem?_map, hm]; exact rfl)
          clear hm
          have hlu : (u : Int) < (U.length : Int) := by omega
          go_wp2_with fail
          refine (choose_calls ch u _).mono ?_
          rintro e w5 ⟨rfl, hb5⟩
          have HX5' := Lib.hid (HX4.out.trans hb5)
          have HR5' := Lib.hid (own_ex' HR4.out hb5)
          have hb25 := HX5'.out.size
          clear hb5
          by_cases hc1 : chS ch u = 1
          · have HPS : Hid (pickS old now ch u k = secS now k) := by unfold pickS; rw [if_pos hc1]; exact rfl
            rw [hc1]
            go_wp2_with fail
            refine (lay_calls O (secS now k) k u9 w2.heap.size _ HR5'.out hb25 hsz (by have := HSO.out; have := HSN.out; have := HPK.out; (try rw [zeroS_size]); omega)).mono ?_
            rintro e w6 ⟨v5, rfl, hr5, hb5⟩
            have HR5 := Lib.hid hr5
            have HX5 := Lib.hid (Below.trans HX5'.out hb5)
            have HF : Hid (mixTo old now ch (k + 1) = (layS O k (secS now k), u + 1)) := by
              rw [HS.out, HE.out]; unfold mixStep; rw [if_pos hun]; show ((layS O k (pickS old now ch u k), u + 1) : ByteArray × Nat) = _; rw [HPS.out]
            clear hr5 hb5
            go_wp2_with fail
            exact ⟨⟨k + 1, by omega, by go_num, by first | (rw [HF.out]; done) | (rw [HF.out]; go_num), by rw [HF.out]; exact HR5.out, HX5.out⟩, by simp [intOf]; omega⟩
          · by_cases hc2 : chS ch u = 2
            · have HPS : Hid (pickS old now ch u k = zeroS (secS now k).size) := by unfold pickS; rw [if_neg hc1, if_pos hc2]; exact rfl
              have hsn := HSN.out
              have hmk := fun w => make_bytes w (secS now k).size (by omega)
              have hcv := conv_made w5 (secS now k).size (by omega)
              have HX6 := Lib.hid (ex_alloc HX5'.out (.cells (bys (zeroS (secS now k).size)).toArray 5))
              have HR6 := Lib.hid (own_ex' HR5'.out (ex_alloc (Ex.refl _) (.cells (bys (zeroS (secS now k).size)).toArray 5)))
              have hb26 := HX6.out.size
              rw [hc2]
              go_wp2_with fail
              refine (lay_calls O (zeroS (secS now k).size) k u9 w2.heap.size _ HR6.out hb26 hsz (by have := HSO.out; have := HSN.out; have := HPK.out; (try rw [zeroS_size]); omega)).mono ?_
              rintro e w6 ⟨v5, rfl, hr5, hb5⟩
              have HR5 := Lib.hid hr5
              have HX5 := Lib.hid (Below.trans HX6.out hb5)
              have HF : Hid (mixTo old now ch (k + 1) = (layS O k (zeroS (secS now k).size), u + 1)) := by
                rw [HS.out, HE.out]; unfold mixStep; rw [if_pos hun]; show ((layS O k (pickS old now ch u k), u + 1) : ByteArray × Nat) = _; rw [HPS.out]
              clear hr5 hb5
              go_wp2_with fail
              exact ⟨⟨k + 1, by omega, by go_num, by first | (rw [HF.out]; done) | (rw [HF.out]; go_num), by rw [HF.out]; exact HR5.out, HX5.out⟩, by simp [intOf]; omega⟩
            · have HPS : Hid (pickS old now ch u k = secS old k) := by unfold pickS; rw [if_neg hc1, if_neg hc2]; exact rfl
              have d3 : decide ((chS ch u : Int) = 1) = false := decide_eq_false (by omega)
              have d4 : decide ((chS ch u : Int) = 2) = false := decide_eq_false (by omega)
              generalize chS ch u = c at *
              go_wp2_with fail
              refine (lay_calls O (secS old k) k u9 w2.heap.size _ HR5'.out hb25 hsz (by have := HSO.out; have := HSN.out; have := HPK.out; (try rw [zeroS_size]); omega)).mono ?_
              rintro e w6 ⟨v5, rfl, hr5, hb5⟩
              have HR5 := Lib.hid hr5
              have HX5 := Lib.hid (Below.trans HX5'.out hb5)
              have HF : Hid (mixTo old now ch (k + 1) = (layS O k (secS old k), u + 1)) := by
                rw [HS.out, HE.out]; unfold mixStep; rw [if_pos hun]; show ((layS O k (pickS old now ch u k), u + 1) : ByteArray × Nat) = _; rw [HPS.out]
              clear hr5 hb5
              go_wp2_with fail
              exact ⟨⟨k + 1, by omega, by go_num, by first | (rw [HF.out]; done) | (rw [HF.out]; go_num), by rw [HF.out]; exact HR5.out, HX5.out⟩, by simp [intOf]; omega⟩
      · have hkN : k = N := by omega
        subst hkN
        have hcv := conv_bytes (P := Tryz.prog) wr 195 9 5 Tryz.underlying195 Tryz.underlying5 Tryz.underlying9 HR.out
        have HM : Hid (mixS old now ch = (O, u)) := by unfold mixS; rw [HN.out]; exact HE.out
        have HXX := Lib.hid ((HB1.out.trans HB2.out).trans HX.out)
        go_wp2_with fail
        (try rw [Exit.noGoto_ret])
        go_ret2
        exact ⟨by rw [HM.out]; rfl, HXX.out⟩
end Go.Proofs.YtcffkmlnbnjibaaGreat
