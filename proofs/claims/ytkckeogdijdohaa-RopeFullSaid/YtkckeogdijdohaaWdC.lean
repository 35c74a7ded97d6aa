/- Walks: weld.Concat, mend, Split. -/
import Derived.Test.YtkckeogdijdohaaCnc
namespace Go.Proofs.Ytkckeogdijdohaa
open Go.RowKit
theorem Tr.ne {w : World} {v : Value} {cs : List ByteArray} (x : Tr w v cs) (h : cs ≠ []) : ∃ k, Kn k w v cs := by
  rcases x with ⟨_, e⟩ | x
  · exact absurd e h
  · exact x
theorem Dr.exx {w w' : World} (h : Dr w w') : Ex w w' := h.ex
set_option maxRecDepth 100000 in
set_option maxHeartbeats 1000000 in
theorem concat_calls {va vb : Value} {ca cb : List ByteArray} (w : World) (xa : Tr w va ca) (xb : Tr w vb cb) (hs : (flat ca).size + (flat cb).size ≤ 100000) : Calls Try.prog 15 #[va, vb] w (TrP (conc ca cb) w) := by
  have XA := Lib.hid xa
  have XB := Lib.hid xb
  have hfa := xa.fit
  have hfb := xb.fit
  have HS := Lib.hid hs
  by_cases hm : ca = [] ∨ cb = [] ∨ 16 < (lastS ca).size + (headS cb).size
  · have HC := Lib.hid (show conc ca cb = ca ++ cb from if_pos hm)
    have hl : (lastS ca).size = 0 → ca = [] := fun h => by
      rcases Decidable.em (ca = []) with e | e
      · exact e
      · have := (fitsB_iff.1 (hfa _ (last_mem e))).1; omega
    have hh : (headS cb).size = 0 → cb = [] := fun h => by
      rcases Decidable.em (cb = []) with e | e
      · exact e
      · have := (fitsB_iff.1 (hfb _ (head_mem e))).1; omega
    have hl16 : (lastS ca).size ≤ 16 := by
      rcases Decidable.em (ca = []) with e | e
      · rw [e]; exact Nat.zero_le _
      · exact (fitsB_iff.1 (hfa _ (last_mem e))).2.1
    have hh16 : (headS cb).size ≤ 16 := by
      rcases Decidable.em (cb = []) with e | e
      · rw [e]; exact Nat.zero_le _
      · exact (fitsB_iff.1 (hfb _ (head_mem e))).2.1
    have hl' : ca = [] → (lastS ca).size = 0 := fun e => by rw [e]; rfl
    have hh' : cb = [] → (headS cb).size = 0 := fun e => by rw [e]; rfl
    have hcase : (lastS ca).size = 0 ∨ (headS cb).size = 0 ∨ 16 < (lastS ca).size + (headS cb).size := by
      rcases hm with h | h | h
      · exact .inl (hl' h)
      · exact .inr (.inl (hh' h))
      · exact .inr (.inr h)
    have hex := empty_iff (s := lastS ca)
    have hey := empty_iff (s := headS cb)
    have HLC := Lib.hid (fun w (x : Tr w va ca) => last_calls w x)
    have HFC := Lib.hid (fun w (x : Tr w vb cb) => first_calls w x)
    generalize lastS ca = x at *
    generalize headS cb = y at *
    clear hl hh hl' hh' hm hfa hfb xa xb hs
    by_cases c1 : x.size = 0
    · rw [decide_eq_true c1] at hex
      clear hcase hey c1
      go_enter Try.func15, Try.ntmps15
      go_wp2_with fail
      refine (HLC.out _ XA.out).mono ?_
      rintro e w1 ⟨rfl, hd1⟩
      have HB1 := Lib.hid hd1.ex
      clear hd1
      go_wp2_with fail
      refine (HFC.out _ (XB.out.ex HB1.out)).mono ?_
      rintro e w2 ⟨rfl, rfl⟩
      go_wp2_with fail
      refine (raw_calls _ (XA.out.ex HB1.out) (XB.out.ex HB1.out) (by rw [flat_size_app]; exact HS.out)).mono ?_
      rintro e w3 ⟨v3, rfl, ht3, hb3⟩
      have HT3 := Lib.hid ht3
      clear ht3
      go_wp2_with fail
      go_ret
      exact ⟨_, rfl, by rw [HC.out]; exact HT3.out, HB1.out.trans hb3⟩
    · rw [decide_eq_false c1] at hex
      by_cases c2 : y.size = 0
      · rw [decide_eq_true c2] at hey
        clear hcase c1 c2
        go_enter Try.func15, Try.ntmps15
        go_wp2_with fail
        refine (HLC.out _ XA.out).mono ?_
        rintro e w1 ⟨rfl, hd1⟩
        have HB1 := Lib.hid hd1.ex
        clear hd1
        go_wp2_with fail
        refine (HFC.out _ (XB.out.ex HB1.out)).mono ?_
        rintro e w2 ⟨rfl, rfl⟩
        go_wp2_with fail
        refine (raw_calls _ (XA.out.ex HB1.out) (XB.out.ex HB1.out) (by rw [flat_size_app]; exact HS.out)).mono ?_
        rintro e w3 ⟨v3, rfl, ht3, hb3⟩
        have HT3 := Lib.hid ht3
        clear ht3
        go_wp2_with fail
        go_ret
        exact ⟨_, rfl, by rw [HC.out]; exact HT3.out, HB1.out.trans hb3⟩
      · rw [decide_eq_false c2] at hey
        have c3 : 16 < x.size + y.size := by omega
        have d1 : decide ((16 : Int) < (x.size : Int) + (y.size : Int)) = true := decide_eq_true (by omega)
        clear hcase c1 c2 c3
        go_enter Try.func15, Try.ntmps15
        go_wp2_with fail
        refine (HLC.out _ XA.out).mono ?_
        rintro e w1 ⟨rfl, hd1⟩
        have HB1 := Lib.hid hd1.ex
        clear hd1
        go_wp2_with fail
        refine (HFC.out _ (XB.out.ex HB1.out)).mono ?_
        rintro e w2 ⟨rfl, rfl⟩
        go_wp2_with fail
        refine (raw_calls _ (XA.out.ex HB1.out) (XB.out.ex HB1.out) (by rw [flat_size_app]; exact HS.out)).mono ?_
        rintro e w3 ⟨v3, rfl, ht3, hb3⟩
        have HT3 := Lib.hid ht3
        clear ht3
        go_wp2_with fail
        go_ret
        exact ⟨_, rfl, by rw [HC.out]; exact HT3.out, HB1.out.trans hb3⟩
  · have HC := Lib.hid (show conc ca cb = ca.dropLast ++ (lastS ca ++ headS cb) :: cb.tail from if_neg hm)
    have e1 : ca ≠ [] := fun e => hm (.inl e)
    have e2 : cb ≠ [] := fun e => hm (.inr (.inl e))
    have h16 : ¬ 16 < (lastS ca).size + (headS cb).size := fun e => hm (.inr (.inr e))
    have hx := fitsB_iff.1 (hfa _ (last_mem e1))
    have hy := fitsB_iff.1 (hfb _ (head_mem e2))
    have hex := empty_iff (s := lastS ca)
    have hey := empty_iff (s := headS cb)
    rw [decide_eq_false (by omega)] at hex hey
    obtain ⟨ha, ka⟩ := xa.ne e1
    obtain ⟨hb, kb⟩ := xb.ne e2
    have s1 := last_split e1
    have s2 := head_split e2
    have hsa : (flat ca).size = (flat ca.dropLast).size + (lastS ca).size := by
      have := congrArg (fun l => (flat l).size) s1
      simp only [flat_size_app, flat_one] at this
      exact this
    have hsb : (flat cb).size = (headS cb).size + (flat cb.tail).size := by
      have := congrArg (fun l => (flat l).size) s2
      simp only [flat_size_cons] at this
      exact this
    have hsm1 := ct_seam (d := ca.dropLast) (b := [lastS ca]) (fun z hz => by rw [List.mem_singleton.1 hz]; exact hfa _ (last_mem e1))
    have hsm2 := ct_seam (d := [headS cb]) (b := cb.tail) (fun z hz => hfb _ (List.mem_of_mem_tail hz))
    rw [← s1] at hsm1
    have s2' : [headS cb] ++ cb.tail = cb := s2.symm
    rw [s2', flat_one] at hsm2
    have HSM1 := Lib.hid hsm1
    have HSM2 := Lib.hid hsm2
    have HFS := Lib.hid (show fitsB (lastS ca ++ headS cb) = true from fitsB_iff.2 ⟨by rw [ByteArray.size_append]; omega, by rw [ByteArray.size_append]; omega, valid_app hx.2.2 hy.2.2⟩)
    have HLC := Lib.hid (fun w (x : Tr w va ca) => last_calls w x)
    have HFC := Lib.hid (fun w (x : Tr w vb cb) => first_calls w x)
    have KA := Lib.hid ka
    have HCA := Lib.hid (fun w' (x : Kn ha w' va ca) => count_at w' x)
    have HSA := Lib.hid (show (flat ca).size ≤ 100000 by omega)
    have HSB := Lib.hid (show (flat cb).size ≤ 100000 by omega)
    generalize ca.dropLast = d at *
    generalize cb.tail = t at *
    generalize lastS ca = x at *
    generalize headS cb = y at *
    have hx1 := hx.1
    have hx2 := hx.2.1
    have hy1 := hy.1
    have hy2 := hy.2.1
    have d1 : decide ((16 : Int) < (x.size : Int) + (y.size : Int)) = false := decide_eq_false (by omega)
    have hfd := fun (a b c : Int) (w : World) => field_b a b c w
    have hna : ((flat ca).size : Int) - (x.size : Int) = ((flat d).size : Int) := by omega
    have HNA := Lib.hid hna
    have hxna : x.size ≤ (flat ca).size := by omega
    have hnz : (flat ca).size ≤ 100000 := by omega
    have HZ := Lib.hid (show (flat d).size + (x.size + y.size) + (flat t).size ≤ 100000 by omega)
    clear hm hfa hfb xa xb hs e1 e2 ka kb s1 s2 s2' hsa hsb hsm1 hsm2 hx hy h16 hna
    go_enter Try.func15, Try.ntmps15
    go_wp2_with fail
    refine (HLC.out _ XA.out).mono ?_
    rintro e w1 ⟨rfl, hd1⟩
    have HB1 := Lib.hid hd1.ex
    clear hd1
    go_wp2_with fail
    refine (HFC.out _ (XB.out.ex HB1.out)).mono ?_
    rintro e w2 ⟨rfl, rfl⟩
    go_wp2_with fail
    refine (HCA.out _ (KA.out.ex HB1.out)).mono ?_
    rintro e w3 ⟨rfl, hb3⟩
    have HB3 := Lib.hid (HB1.out.trans hb3)
    clear hb3
    go_wp2_with fail
    rw [HNA.out]
    refine (split_calls _ _ (XA.out.ex HB3.out) HSA.out HSM1.out.1 (by omega) (by have := HZ.out; omega)).mono ?_
    rintro e w4 ⟨l4, r4, rfl, hl4, -, hb4⟩
    rw [HSM1.out.2.1] at hl4
    have HL4 := Lib.hid hl4
    have HB4 := Lib.hid (HB3.out.trans hb4)
    clear hl4 hb4
    go_wp2_with fail
    refine (split_calls _ _ (XB.out.ex HB4.out) HSB.out HSM2.out.1 (by omega) (by omega)).mono ?_
    rintro e w5 ⟨l5, r5, rfl, -, hr5, hb5⟩
    rw [HSM2.out.2.2] at hr5
    have HR5 := Lib.hid hr5
    have HL5 := Lib.hid (HL4.out.ex hb5)
    have HB5 := Lib.hid (HB4.out.trans hb5)
    clear hr5 hb5
    go_wp2_with fail
    refine (leaf_calls _ _ HFS.out).mono ?_
    rintro e w6 ⟨g6, rfl, -, hk6, hb6⟩
    have HK6 := Lib.hid hk6
    have HB6 := Lib.hid hb6
    clear hk6 hb6
    go_wp2_with fail
    refine (raw_calls _ (HL5.out.ex HB6.out) (.inr ⟨0, HK6.out⟩) (by rw [flat_size_app, flat_one, ByteArray.size_append]; have := HZ.out; omega)).mono ?_
    rintro e w7 ⟨v7, rfl, ht7, hb7⟩
    have HT7 := Lib.hid ht7
    have HB7 := Lib.hid (HB6.out.trans hb7)
    clear ht7 hb7
    go_wp2_with fail
    refine (raw_calls _ HT7.out (HR5.out.ex HB7.out) (by rw [flat_size_app, flat_size_app, flat_one, ByteArray.size_append]; exact HZ.out)).mono ?_
    rintro e w8 ⟨v8, rfl, ht8, hb8⟩
    have HT8 := Lib.hid ht8
    clear ht8
    go_wp2_with fail
    go_ret
    refine ⟨_, rfl, ?_, (HB5.out.trans HB7.out).trans hb8⟩
    rw [HC.out]
    have := HT8.out
    rwa [List.append_assoc] at this
set_option maxHeartbeats 400000 in
theorem mend_small {v : Value} {cs : List ByteArray} (b : Bool) (w : World) (x : Tr w v cs) (h : cs = [] ∨ Kn 0 w v cs) : Calls Try.prog 49 #[v, .bool b] w fun e w' => e = .returned v ∧ w' = w := by
  rcases h with rfl | h
  · have hv : v = .pointer none := by
      rcases x with ⟨e, _⟩ | ⟨k, x⟩
      · exact e
      · have := x.pos; simp at this
    subst hv
    clear x
    go_enter Try.func49, Try.ntmps49
    go_wp2_with fail
    refine (height_nil _).mono ?_
    rintro e w1 ⟨rfl, rfl⟩
    go_wp2_with fail
    go_ret
    exact ⟨rfl, rfl⟩
  · have X := Lib.hid h
    clear x h
    go_enter Try.func49, Try.ntmps49
    go_wp2_with fail
    refine (height_calls _ X.out).mono ?_
    rintro e w1 ⟨rfl, rfl⟩
    go_wp2_with fail
    go_ret
    exact ⟨rfl, rfl⟩
theorem conc_nil {s : List ByteArray} : conc [] s = s ∧ conc s [] = s := by
  unfold conc
  rw [if_pos (.inl rfl), if_pos (.inr (.inl rfl))]
  exact ⟨rfl, List.append_nil s⟩
set_option maxRecDepth 100000 in
set_option maxHeartbeats 400000 in
theorem mendL_kn {h : Nat} {v : Value} {cs : List ByteArray} (w : World) (x : Kn (h + 1) w v cs) (hs : (flat cs).size ≤ 100000) : Calls Try.prog 49 #[v, .bool true] w (TrP (mendL cs) w) := by
  have hne : cs ≠ [] := fun e => by have := x.pos; rw [e] at this; simp at this
  have HM := Lib.hid (show mendL cs = conc cs.dropLast [lastS cs] from if_neg hne)
  have hht := x.small hs
  have s1 := last_split hne
  have hfl := x.fit _ (last_mem hne)
  have hsa : (flat cs).size = (flat cs.dropLast).size + (lastS cs).size := by
    have := congrArg (fun l => (flat l).size) s1
    simp only [flat_size_app, flat_one] at this
    exact this
  have hsm1 := ct_seam (d := cs.dropLast) (b := [lastS cs]) (fun z hz => by rw [List.mem_singleton.1 hz]; exact hfl)
  rw [← s1] at hsm1
  have HSM := Lib.hid hsm1
  have HF := Lib.hid hfl
  have X := Lib.hid x
  have HS := Lib.hid hs
  have HLC := Lib.hid (fun w' (x : Tr w' v cs) => last_calls w' x)
  have HCA := Lib.hid (fun w' (x : Kn (h + 1) w' v cs) => count_at w' x)
  generalize cs.dropLast = d at *
  generalize lastS cs = y at *
  have hna : ((flat cs).size : Int) - (y.size : Int) = ((flat d).size : Int) := by omega
  have HNA := Lib.hid hna
  have hy : y.size ≤ (flat cs).size := by omega
  have HZ := Lib.hid (show (flat d).size + y.size ≤ 100000 by omega)
  have hfd := fun (a b c : Int) (w : World) => field_b a b c w
  obtain ⟨hh, hhe⟩ : ∃ hh : Nat, hh = h + 1 := ⟨_, rfl⟩
  have d1 : decide ((hh : Int) ≤ 0) = false := decide_eq_false (by omega)
  have d2 : decide (hh = 0) = false := decide_eq_false (by omega)
  rw [← hhe] at X HCA hht
  clear x s1 hfl hsa hsm1 hna hne hhe
  go_enter Try.func49, Try.ntmps49
  go_wp2_with fail
  refine (height_calls _ X.out).mono ?_
  rintro e w1 ⟨rfl, rfl⟩
  go_wp2_with fail
  refine (HLC.out _ (.inr ⟨_, X.out⟩)).mono ?_
  rintro e w2 ⟨rfl, hd2⟩
  have HB2 := Lib.hid hd2.ex
  clear hd2
  go_wp2_with fail
  refine (HCA.out _ (X.out.ex HB2.out)).mono ?_
  rintro e w3 ⟨rfl, hb3⟩
  have HB3 := Lib.hid (HB2.out.trans hb3)
  clear hb3
  go_wp2_with fail
  rw [HNA.out]
  refine (split_calls _ _ (.inr ⟨_, X.out.ex HB3.out⟩) HS.out HSM.out.1 (by omega) (by have := HZ.out; omega)).mono ?_
  rintro e w4 ⟨l4, r4, rfl, hl4, -, hb4⟩
  rw [HSM.out.2.1] at hl4
  have HL4 := Lib.hid hl4
  have HB4 := Lib.hid (HB3.out.trans hb4)
  clear hl4 hb4
  go_wp2_with fail
  refine (leaf_calls _ _ HF.out).mono ?_
  rintro e w6 ⟨g6, rfl, -, hk6, hb6⟩
  have HK6 := Lib.hid hk6
  have HB6 := Lib.hid hb6
  clear hk6 hb6
  go_wp2_with fail
  refine (concat_calls _ (HL4.out.ex HB6.out) (.inr ⟨0, HK6.out⟩) (by rw [flat_one]; exact HZ.out)).mono ?_
  rintro e w7 ⟨v7, rfl, ht7, hb7⟩
  have HT7 := Lib.hid ht7
  clear ht7
  go_wp2_with fail
  go_ret
  exact ⟨_, rfl, by rw [HM.out]; exact HT7.out, (HB4.out.trans HB6.out).trans hb7⟩
set_option maxRecDepth 100000 in
set_option maxHeartbeats 400000 in
theorem mendR_kn {h : Nat} {v : Value} {cs : List ByteArray} (w : World) (x : Kn (h + 1) w v cs) (hs : (flat cs).size ≤ 100000) : Calls Try.prog 49 #[v, .bool false] w (TrP (mendR cs) w) := by
  have hne : cs ≠ [] := fun e => by have := x.pos; rw [e] at this; simp at this
  have HM := Lib.hid (show mendR cs = conc [headS cs] cs.tail from if_neg hne)
  have hht := x.small hs
  have s1 := head_split hne
  have hfl := x.fit _ (head_mem hne)
  have hft : ∀ z ∈ cs.tail, fitsB z = true := fun z hz => x.fit z (List.mem_of_mem_tail hz)
  have hsa : (flat cs).size = (headS cs).size + (flat cs.tail).size := by
    have := congrArg (fun l => (flat l).size) s1
    simp only [flat_size_cons] at this
    exact this
  have hsm1 := ct_seam (d := [headS cs]) (b := cs.tail) hft
  have s2 : [headS cs] ++ cs.tail = cs := s1.symm
  rw [s2, flat_one] at hsm1
  have HSM := Lib.hid hsm1
  have HF := Lib.hid hfl
  have X := Lib.hid x
  have HS := Lib.hid hs
  have HFC := Lib.hid (fun w' (x : Tr w' v cs) => first_calls w' x)
  generalize cs.tail = t at *
  generalize headS cs = y at *
  have hy : y.size ≤ (flat cs).size := by omega
  have hyz : y.size ≤ 100000 := by omega
  have HZ := Lib.hid (show y.size + (flat t).size ≤ 100000 by omega)
  obtain ⟨hh, hhe⟩ : ∃ hh : Nat, hh = h + 1 := ⟨_, rfl⟩
  have d1 : decide ((hh : Int) ≤ 0) = false := decide_eq_false (by omega)
  have d2 : decide (hh = 0) = false := decide_eq_false (by omega)
  rw [← hhe] at X hht
  clear x s1 s2 hfl hft hsa hsm1 hne hhe
  go_enter Try.func49, Try.ntmps49
  go_wp2_with fail
  refine (height_calls _ X.out).mono ?_
  rintro e w1 ⟨rfl, rfl⟩
  go_wp2_with fail
  refine (HFC.out _ (.inr ⟨_, X.out⟩)).mono ?_
  rintro e w2 ⟨rfl, rfl⟩
  go_wp2_with fail
  refine (split_calls _ _ (.inr ⟨_, X.out⟩) HS.out HSM.out.1 (by omega) (by omega)).mono ?_
  rintro e w4 ⟨l4, r4, rfl, -, hr4, hb4⟩
  rw [HSM.out.2.2] at hr4
  have HR4 := Lib.hid hr4
  have HB4 := Lib.hid hb4
  clear hr4 hb4
  go_wp2_with fail
  refine (leaf_calls _ _ HF.out).mono ?_
  rintro e w6 ⟨g6, rfl, -, hk6, hb6⟩
  have HK6 := Lib.hid hk6
  have HB6 := Lib.hid hb6
  clear hk6 hb6
  go_wp2_with fail
  refine (concat_calls _ (.inr ⟨0, HK6.out⟩) (HR4.out.ex HB6.out) (by rw [flat_one]; exact HZ.out)).mono ?_
  rintro e w7 ⟨v7, rfl, ht7, hb7⟩
  have HT7 := Lib.hid ht7
  clear ht7
  go_wp2_with fail
  go_ret
  exact ⟨_, rfl, by rw [HM.out]; exact HT7.out, (HB4.out.trans HB6.out).trans hb7⟩
theorem mend_one {cs : List ByteArray} {w : World} {v : Value} (x : Kn 0 w v cs) : mendL cs = cs ∧ mendR cs = cs := by
  obtain ⟨g, s, e, e1, hf, hn⟩ := x
  subst e1
  unfold mendL mendR
  rw [if_neg (by simp), if_neg (by simp)]
  exact ⟨conc_nil.1, conc_nil.2⟩
theorem mendL_tr {v : Value} {cs : List ByteArray} (w : World) (x : Tr w v cs) (hs : (flat cs).size ≤ 100000) : Calls Try.prog 49 #[v, .bool true] w (TrP (mendL cs) w) := by
  rcases id x with ⟨rfl, rfl⟩ | ⟨h, k⟩
  · refine (mend_small true w x (.inl rfl)).mono ?_
    rintro e w' ⟨rfl, rfl⟩
    exact ⟨_, rfl, x, Ex.refl _⟩
  · cases h with
    | zero =>
      refine (mend_small true w x (.inr k)).mono ?_
      rintro e w' ⟨rfl, rfl⟩
      exact ⟨_, rfl, by rw [(mend_one k).1]; exact x, Ex.refl _⟩
    | succ h => exact mendL_kn w k hs
theorem mendR_tr {v : Value} {cs : List ByteArray} (w : World) (x : Tr w v cs) (hs : (flat cs).size ≤ 100000) : Calls Try.prog 49 #[v, .bool false] w (TrP (mendR cs) w) := by
  rcases id x with ⟨rfl, rfl⟩ | ⟨h, k⟩
  · refine (mend_small false w x (.inl rfl)).mono ?_
    rintro e w' ⟨rfl, rfl⟩
    exact ⟨_, rfl, x, Ex.refl _⟩
  · cases h with
    | zero =>
      refine (mend_small false w x (.inr k)).mono ?_
      rintro e w' ⟨rfl, rfl⟩
      exact ⟨_, rfl, by rw [(mend_one k).2]; exact x, Ex.refl _⟩
    | succ h => exact mendR_kn w k hs
/-- Two trees, as they must be, with just these texts. -/
def Split2P (s t : ByteArray) (w : World) (e : Ending) (w' : World) : Prop := ∃ l r cl cr, e = .returned (.tuple #[l, r]) ∧ Tr w' l cl ∧ Tr w' r cr ∧ GoodL cl ∧ GoodL cr ∧ flat cl = s ∧ flat cr = t ∧ Ex w w'
theorem back_cut {cs : List ByteArray} {p : Int} (hg : GoodL cs) : flat (ctL cs (edgeL cs p : Nat)) = (flat cs).extract 0 (backU (flat cs) p) ∧ flat (ctR cs (edgeL cs p : Nat)) = (flat cs).extract (backU (flat cs) p) (flat cs).size := by
  have h1 := ct_flat cs (edgeL cs p : Nat)
  have h2 := ct_size cs (edgeL cs p) (edgeL_le hg.1)
  rw [edgeL_back hg.1] at h1 h2 ⊢
  have hle := backU_le (flat cs) p
  generalize flat (ctL cs (backU (flat cs) p : Nat)) = a at *
  generalize flat (ctR cs (backU (flat cs) p : Nat)) = b at *
  generalize backU (flat cs) p = n at *
  have hs := congrArg ByteArray.size h1
  rw [ByteArray.size_append] at hs
  rw [← h1]
  subst h2
  constructor
  · rw [ByteArray.extract_append_eq_left rfl]
  · rw [ByteArray.size_append, ByteArray.extract_append_eq_right rfl rfl]
set_option maxRecDepth 100000 in
set_option maxHeartbeats 400000 in
theorem wsplit_calls {v : Value} {cs : List ByteArray} (p : Int) (w : World) (x : Tr w v cs) (hs : (flat cs).size ≤ 100000) (hg : GoodL cs) (hp : p ≤ 9223372036854775807) : Calls Try.prog 16 #[v, .int .i64 p] w (Split2P ((flat cs).extract 0 (backU (flat cs) p)) ((flat cs).extract (backU (flat cs) p) (flat cs).size) w) := by
  have X := Lib.hid x
  have HS := Lib.hid hs
  have hle := edgeL_le (p := p) hg.1
  have HOK := Lib.hid (okAt_edge (p := p) hg.1)
  have HL := Lib.hid (mendL_good hg HOK.out)
  have HR := Lib.hid (mendR_good hg HOK.out)
  have HB := Lib.hid (back_cut (p := p) hg)
  have hfl := congrArg ByteArray.size (ct_flat cs (edgeL cs p : Nat))
  rw [ByteArray.size_append] at hfl
  have HSL := Lib.hid (show (flat (ctL cs (edgeL cs p : Nat))).size ≤ 100000 by omega)
  have HSR := Lib.hid (show (flat (ctR cs (edgeL cs p : Nat))).size ≤ 100000 by omega)
  have hE := fun w (x : Tr w v cs) => edge_tr p w x hs hp
  have HE := Lib.hid hE
  generalize edgeL cs p = n at *
  have hn : n ≤ 100000 := by omega
  clear x hs hg hle hfl hE
  go_enter Try.func16, Try.ntmps16
  go_wp2_with fail
  refine (HE.out _ X.out).mono ?_
  rintro e w1 ⟨rfl, hb1⟩
  have HB1 := Lib.hid hb1
  clear hb1
  go_wp2_with fail
  refine (split_calls _ _ (X.out.ex HB1.out) HS.out HOK.out (by omega) (by omega)).mono ?_
  rintro e w2 ⟨l2, r2, rfl, hl2, hr2, hb2⟩
  have HL2 := Lib.hid hl2
  have HR2 := Lib.hid hr2
  have HB2 := Lib.hid (HB1.out.trans hb2)
  clear hl2 hr2 hb2
  go_wp2_with fail
  refine (mendL_tr _ HL2.out HSL.out).mono ?_
  rintro e w3 ⟨v3, rfl, ht3, hb3⟩
  have HT3 := Lib.hid ht3
  have HB3 := Lib.hid hb3
  clear ht3 hb3
  go_wp2_with fail
  refine (mendR_tr _ (HR2.out.ex HB3.out) HSR.out).mono ?_
  rintro e w4 ⟨v4, rfl, ht4, hb4⟩
  have HT4 := Lib.hid ht4
  have HB4 := Lib.hid hb4
  clear ht4 hb4
  go_wp2_with fail
  go_ret2
  exact ⟨_, _, _, _, rfl, HT3.out.ex HB4.out, HT4.out, HL.out.1, HR.out.1, by rw [HL.out.2, HB.out.1], by rw [HR.out.2, HB.out.2], (HB2.out.trans HB3.out).trans HB4.out⟩
end Go.Proofs.Ytkckeogdijdohaa
