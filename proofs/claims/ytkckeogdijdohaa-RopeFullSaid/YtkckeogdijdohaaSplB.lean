/- Walk: weld.split. -/
import Derived.Test.YtkckeogdijdohaaSplA
namespace Go.Proofs.Ytkckeogdijdohaa
open Go.RowKit
theorem text_at {v : Value} {cs : List ByteArray} (s : ByteArray) (w : World) (x : Tr w v cs) (he : flat cs = s) (hs : s.size ≤ 100000) : Calls Try.prog 18 #[v] w fun e w' => e = .returned (.string s) ∧ Ex w w' := by
  subst he; exact text_calls w x hs
theorem field_b (a b c : Int) (w : World) : (Instr.field 67 (.agg #[.int .i64 a, .int .i64 b, .int .i64 c]) 0).run Try.prog w = .ok (.int .i64 a) w := by kernel_rfl
set_option maxRecDepth 100000 in
set_option maxHeartbeats 400000 in
theorem split_low {h : Nat} {v : Value} {cs : List ByteArray} (p : Int) (w : World) (x : Kn h w v cs) (hp : p ≤ 0) : Calls Try.prog 46 #[v, .int .i64 p] w (SplP cs p w) := by
  have X := Lib.hid x
  have HF := Lib.hid (ct_le x.fit hp)
  have d1 : decide ((h : Int) < 0) = false := decide_eq_false (by omega)
  have d2 : decide (p ≤ 0) = true := decide_eq_true hp
  clear x hp
  have hfd := fun (a b c : Int) (w : World) => field_b a b c w
  go_enter Try.func46, Try.ntmps46
  go_wp2_with fail
  refine (count_at _ X.out).mono ?_
  rintro e w1 ⟨rfl, hb1⟩
  have X1 := Lib.hid (X.out.ex hb1)
  go_wp2_with fail
  refine (height_calls _ X1.out).mono ?_
  rintro e w2 ⟨rfl, rfl⟩
  go_wp2_with fail
  go_ret2
  exact ⟨_, _, rfl, by rw [HF.out.1]; exact .inl ⟨rfl, rfl⟩, by rw [HF.out.2]; exact .inr ⟨h, X1.out⟩, hb1⟩
set_option maxRecDepth 100000 in
set_option maxHeartbeats 400000 in
theorem split_high {h : Nat} {v : Value} {cs : List ByteArray} (p : Int) (w : World) (x : Kn h w v cs) (hp : 0 < p) (hn : ((flat cs).size : Int) ≤ p) : Calls Try.prog 46 #[v, .int .i64 p] w (SplP cs p w) := by
  have X := Lib.hid x
  have HF := Lib.hid (ct_ge hn)
  have d1 : decide ((h : Int) < 0) = false := decide_eq_false (by omega)
  have d2 : decide (p ≤ 0) = false := decide_eq_false (by omega)
  have d3 : decide (((flat cs).size : Int) ≤ p) = true := decide_eq_true hn
  clear x hp hn
  have hfd := fun (a b c : Int) (w : World) => field_b a b c w
  go_enter Try.func46, Try.ntmps46
  go_wp2_with fail
  refine (count_at _ X.out).mono ?_
  rintro e w1 ⟨rfl, hb1⟩
  have X1 := Lib.hid (X.out.ex hb1)
  go_wp2_with fail
  refine (height_calls _ X1.out).mono ?_
  rintro e w2 ⟨rfl, rfl⟩
  go_wp2_with fail
  go_ret2
  exact ⟨_, _, rfl, by rw [HF.out.1]; exact .inr ⟨h, X1.out⟩, by rw [HF.out.2]; exact .inl ⟨rfl, rfl⟩, hb1⟩
set_option maxRecDepth 100000 in
set_option maxHeartbeats 400000 in
theorem split_leaf {v : Value} {cs : List ByteArray} (p : Nat) (w : World) (x : Kn 0 w v cs) (hs : (flat cs).size ≤ 100000) (hp : 0 < p) (hn : p < (flat cs).size) (ho : okAt cs (p : Int)) : Calls Try.prog 46 #[v, .int .i64 (p : Int)] w (SplP cs (p : Int) w) := by
  have X := Lib.hid x
  obtain ⟨g, s, hv, e1, hf, hnd⟩ := x
  have HV := Lib.hid hv
  subst e1
  have hfs : flat [s] = s := flat_one s
  have hz : (flat [s]).size = s.size := by rw [hfs]
  have HFS := Lib.hid hfs
  have d1 : decide ((p : Int) ≤ 0) = false := decide_eq_false (by omega)
  have d2 : decide ((((flat [s]).size : Nat) : Int) ≤ (p : Int)) = false := decide_eq_false (by omega)
  have d3 : decide ((flat [s]).size ≤ p) = false := decide_eq_false (by omega)
  have HC := Lib.hid (show ctL [s] (p : Int) = [s.extract 0 p] ∧ ctR [s] (p : Int) = [s.extract p s.size] from by
    simp only [ctL, ctR]
    rw [if_neg (by omega), if_neg (by omega), if_neg (by omega), if_neg (by omega), Int.toNat_natCast]
    exact ⟨rfl, rfl⟩)
  have hft := ct_fit (cs := [s]) (p := (p : Int)) (fun y hy => by rw [List.mem_singleton.1 hy]; exact hf) ho
  rw [HC.out.1, HC.out.2] at hft
  have HL := Lib.hid (hft.1 _ (List.mem_singleton.2 rfl))
  have HRr := Lib.hid (hft.2 _ (List.mem_singleton.2 rfl))
  have i1 : p ≤ s.size := by omega
  have i2 : (p : Int) ≤ (s.size : Int) := by omega
  have i3 : s.size ≤ 100000 := by omega
  clear hnd hv hfs hz hft hf ho hn hs
  have hfd := fun (a b c : Int) (w : World) => field_b a b c w
  go_enter Try.func46, Try.ntmps46
  go_wp2_with fail
  refine (count_at _ X.out).mono ?_
  rintro e w1 ⟨rfl, hb1⟩
  have X1 := Lib.hid (X.out.ex hb1)
  have HB1 := Lib.hid hb1
  clear hb1
  go_wp2_with fail
  refine (height_calls _ X1.out).mono ?_
  rintro e w2 ⟨rfl, rfl⟩
  go_wp2_with fail
  refine (height_calls _ X1.out).mono ?_
  rintro e w3 ⟨rfl, rfl⟩
  go_wp2_with fail
  refine (text_at s _ (.inr ⟨0, X1.out⟩) HFS.out i3).mono ?_
  rintro e w4 ⟨rfl, hb4⟩
  have HB4 := Lib.hid (HB1.out.trans hb4)
  clear hb4
  go_wp2_with fail
  go_region_with (first | (go_at_call 34; (with_reducible refine (leaf_calls (s.extract 0 p) _ HL.out).mono ?_); rintro e w5 ⟨g5, rfl, -, hk5, hb5⟩; have HK5 := Lib.hid hk5; have HB5 := Lib.hid (Ex.trans (Ex.refl w4).drew hb5); clear hk5 hb5) | (go_at_call 34; (with_reducible refine (leaf_calls (s.extract p s.size) _ HRr.out).mono ?_); rintro e w6 ⟨g6, rfl, -, hk6, hb6⟩; have HK6 := Lib.hid hk6; have HB6 := Lib.hid hb6; clear hk6 hb6))
  all_goals
    go_wp2_with fail
    go_ret2
    exact ⟨_, _, rfl, by rw [HC.out.1]; exact .inr ⟨0, HK5.out.ex HB6.out⟩, by rw [HC.out.2]; exact .inr ⟨0, HK6.out⟩, (HB4.out.trans HB5.out).trans HB6.out⟩
set_option maxRecDepth 100000 in
set_option maxHeartbeats 2000000 in
theorem split_in {h : Nat} (ih : ∀ {v : Value} {cs : List ByteArray} (p : Int) (w : World), Kn h w v cs → (flat cs).size ≤ 100000 → okAt cs p → -200000 ≤ p → p ≤ 200000 → Calls Try.prog 46 #[v, .int .i64 p] w (SplP cs p w)) {v : Value} {cs : List ByteArray} (p : Nat) (w : World) (x : Kn (h + 1) w v cs) (hs : (flat cs).size ≤ 100000) (hp : 0 < p) (hn : p < (flat cs).size) (ho : okAt cs (p : Int)) : Calls Try.prog 46 #[v, .int .i64 (p : Int)] w (SplP cs (p : Int) w) := by
  have IH := Lib.hid (fun (v : Value) (cs : List ByteArray) => ih (v := v) (cs := cs))
  have X := Lib.hid x
  have hht := x.small hs
  have HS := Lib.hid hs
  have HOK := Lib.hid ho
  have d1 : decide ((p : Int) ≤ 0) = false := decide_eq_false (by omega)
  have d2 : decide ((((flat cs).size : Nat) : Int) ≤ (p : Int)) = false := decide_eq_false (by omega)
  have d3 : decide ((flat cs).size ≤ p) = false := decide_eq_false (by omega)
  obtain ⟨hh, hhe⟩ : ∃ hh : Nat, hh = h + 1 := ⟨_, rfl⟩
  have HHE := Lib.hid hhe
  have d4 : ((hh : Int) == 0) = false := by rw [beq_eq_false_iff_ne]; omega
  have d5 : decide ((hh : Int) < 0) = false := decide_eq_false (by omega)
  have hpm : p ≤ 100000 := by omega
  rw [← hhe] at X
  clear x ih hs ho hht hn hhe
  have hfd := fun (a b c : Int) (w : World) => field_b a b c w
  go_enter Try.func46, Try.ntmps46
  go_wp2_with fail
  refine (count_at _ X.out).mono ?_
  rintro e w1 ⟨rfl, hb1⟩
  have X1 := Lib.hid (X.out.ex hb1)
  have HB1 := Lib.hid hb1
  clear hb1
  go_wp2_with fail
  refine (height_calls _ X1.out).mono ?_
  rintro e w2 ⟨rfl, rfl⟩
  go_wp2_with fail
  refine (height_calls _ X1.out).mono ?_
  rintro e w3 ⟨rfl, rfl⟩
  rw [HHE.out] at X1
  go_wp2_with fail
  refine (kids_calls _ X1.out).mono ?_
  rintro e w4 ⟨A, c, ks, rfl, hc, h2, h8, hcs, hr, hk, hb4⟩
  have HR := Lib.hid hr
  have HK := Lib.hid hk
  have HB4 := Lib.hid (HB1.out.trans hb4)
  have HCS := Lib.hid hcs
  have HST := Lib.hid (SplI.start ks (p : Int) w4)
  clear hr hk hb4 hcs d1 d2 d3 d4 d5
  go_wp2_with fail
  go_loopw [1, 8, 9, 10, 11, 13, 14, 48] (fun v1 v8 v9 v10 v11 _ _ v48 wr => ∃ k : Nat, k ≤ ks.length ∧ v48 = .int .i64 (k : Int) ∧ SplI ks (p : Int) w4 k v1 v8 v9 v10 v11 wr) (fun _ _ _ _ _ _ _ v48 _ => ks.length - (intOf v48).toNat)
  case atStart => exact ⟨0, by omega, rfl, HST.out⟩
  case round =>
    obtain ⟨k, hk, rfl, hI⟩ := hrel
    by_cases hlt : k < ks.length
    · obtain ⟨ls, rs, cl, cr, hJ⟩ := hI
      have HJ := Lib.hid hJ
      obtain ⟨hv1, -, -, -, -, -, -, -, -, -, -, hl12, hl13, hb⟩ := hJ
      subst hv1
      obtain ⟨b, o, rfl, hcell⟩ := (HR.out.ex hb).kid hlt
      have hq := (HK.out ks[k] (List.getElem_mem hlt)).ex hb
      have hfl := flat_many hq.fit
      have hpos := hq.pos
      have hcut := Kids.split_at hlt
      have hsz := HS.out
      rw [HCS.out, hcut, flat_size_app, flat_size_app] at hsz
      have hok := HOK.out
      rw [HCS.out, hcut] at hok
      have hoq := okAt_app hok
      obtain ⟨pq, hpq⟩ := hq.ptr
      rw [hpq] at hcell
      have HPQ := Lib.hid hpq
      have HFIT := Lib.hid hq.fit
      have hFT := Fl.take hlt
      have hIL := fun v8' w' (h1 : 1 ≤ (flat ks[k].2).size) => SplI.left (v8' := v8') (w' := w') hlt h1 (HJ.out)
      obtain ⟨A0, hA0⟩ : ∃ A0, A0 = (flat (Kids.cs (ks.take k))).size := ⟨_, rfl⟩
      obtain ⟨Q0, hQ0⟩ : ∃ Q0, Q0 = (flat ks[k].2).size := ⟨_, rfl⟩
      have HA0 := Lib.hid hA0
      have HQ0 := Lib.hid hQ0
      rw [← hA0] at hsz hoq HJ ⊢
      rw [← hQ0] at hsz hfl
      have hQ1 : 1 ≤ Q0 := by omega
      have hAQ : A0 + Q0 ≤ 100000 := by omega
      have HOQ := Lib.hid (show 0 < (p : Int) - A0 → (p : Int) - A0 < Q0 → okAt ks[k].2 ((p : Int) - A0) from fun h1 h2 => by
        have h3 := okAt_app (hoq.1 (by omega))
        exact h3.2 (by rw [← hQ0]; omega))
      have HQK := Lib.hid (show Kn h wr (.pointer pq) ks[k].2 from by rw [← hpq]; exact hq)
      have HCT := Lib.hid (fun w' (x : Kn h w' (.pointer pq) ks[k].2) => by have := count_at w' x; rw [← hQ0] at this; exact this)
      have HSQ := Lib.hid (show (flat ks[k].2).size ≤ 100000 from by rw [← hQ0]; omega)
      have HLT := Lib.hid hlt
      clear hq hfl hpos hcut hpq hA0 hQ0 hsz hok hoq hFT hIL
      have hsz4 := hb.size
      by_cases c1 : (Q0 : Int) ≤ (p : Int) - A0
      · have d1 : decide ((Q0 : Int) ≤ (p : Int) - (A0 : Int)) = true := decide_eq_true c1
        go_wp2_with fail
        refine (HCT.out _ HQK.out).mono ?_
        rintro e w5 ⟨rfl, hb5⟩
        have HJ5 := Lib.hid (HJ.out.ex hb5)
        have HB5 := Lib.hid (hb.trans hb5)
        clear hb5
        go_wp2_with (at_builtin; go_must (refine app_kn rfl (.tmp 65) (.tmp 67) rfl w4.heap.size u8 ls.length ls.vs rfl (own_ex HJ5.out.2.1 (ex_alloc (Ex.refl _) _)) (some ⟨w5.heap.size, 0, none⟩) 1 1 [.pointer pq] rfl (row_lit w5 [.pointer pq] 23) (fun u hu => ⟨_, List.mem_singleton.1 hu⟩) (by omega) (by have := HB5.out.size; simp; omega) (ex_alloc HB5.out _) ?_; intro v6 w6 q1 q2 q3 q4; have HO6 := Lib.hid q1; have HB6 := Lib.hid q2; clear q1 q2 q3 q4))
        have h1 := HA0.out
        have h2 := HQ0.out
        subst h1; subst h2
        exact ⟨⟨k + 1, HLT.out, by go_num, SplI.left HLT.out hQ1 HJ5.out c1 (by rw [HPQ.out]; exact HO6.out) HB6.out⟩, by have := HLT.out; simp [intOf]; omega⟩
      · have d1 : decide ((Q0 : Int) ≤ (p : Int) - (A0 : Int)) = false := decide_eq_false c1
        by_cases c2 : (p : Int) - A0 ≤ 0
        · have d2 : decide ((p : Int) - (A0 : Int) ≤ 0) = true := decide_eq_true c2
          go_wp2_with fail
          refine (HCT.out _ HQK.out).mono ?_
          rintro e w5 ⟨rfl, hb5⟩
          have HJ5 := Lib.hid (HJ.out.ex hb5)
          have HB5 := Lib.hid (hb.trans hb5)
          clear hb5
          go_wp2_with (at_builtin; go_must (refine app_kn rfl (.tmp 72) (.tmp 74) rfl w4.heap.size u9 rs.length rs.vs rfl (own_ex HJ5.out.2.2.1 (ex_alloc (Ex.refl _) _)) (some ⟨w5.heap.size, 0, none⟩) 1 1 [.pointer pq] rfl (row_lit w5 [.pointer pq] 23) (fun u hu => ⟨_, List.mem_singleton.1 hu⟩) (by omega) (by have := HB5.out.size; simp; omega) (ex_alloc HB5.out _) ?_; intro v6 w6 q1 q2 q3 q4; have HO6 := Lib.hid q1; have HB6 := Lib.hid q2; have H63 := Lib.hid q3; have H64 := Lib.hid q4; clear q1 q2 q3 q4))
          have h1 := HA0.out
          have h2 := HQ0.out
          subst h1; subst h2
          exact ⟨⟨k + 1, HLT.out, by go_num, SplI.right HLT.out HFIT.out (HJ5.out.ex (ex_alloc (Ex.refl _) _)) c2 (by rw [HPQ.out]; exact HO6.out) H63.out H64.out HB6.out⟩, by have := HLT.out; simp [intOf]; omega⟩
        · have d2 : decide ((p : Int) - (A0 : Int) ≤ 0) = false := decide_eq_false c2
          go_wp2_with fail
          refine (HCT.out _ HQK.out).mono ?_
          rintro e w5 ⟨rfl, hb5⟩
          have HJ5 := Lib.hid (HJ.out.ex hb5)
          have HQ5 := Lib.hid (HQK.out.ex hb5)
          clear hb5
          go_wp2_with fail
          refine (IH.out _ _ ((p : Int) - A0) _ HQ5.out HSQ.out (HOQ.out (by omega) (by omega)) (by omega) (by omega)).mono ?_
          rintro e w6 ⟨l6, r6, rfl, hl6, hr6, hb6⟩
          have HL6 := Lib.hid hl6
          have HR6 := Lib.hid hr6
          have HB6 := Lib.hid hb6
          clear hl6 hr6 hb6
          go_wp2_with fail
          have h1 := HA0.out
          have h2 := HQ0.out
          subst h1; subst h2
          exact ⟨⟨k + 1, HLT.out, by go_num, SplI.cut HLT.out HJ5.out (by omega) (by omega) HL6.out HR6.out HB6.out⟩, by have := HLT.out; simp [intOf]; omega⟩
    · obtain ⟨ls, rs, cl, cr, hJ⟩ := hI
      obtain ⟨hv1, h2', h3', h4, h5, h6, h7, -, h9, h10, -, hl12, hl13, hb⟩ := hJ
      have hkl : k = ks.length := by omega
      rw [hkl, List.take_length, ← HCS.out] at h9 h10
      subst hv1
      have HL := Lib.hid h9
      have HRR := Lib.hid h10
      have H6 := Lib.hid h6.tr
      have H7 := Lib.hid h7.tr
      have HB := Lib.hid hb
      have HX := Lib.hid (HB4.out.trans hb)
      obtain ⟨A8, c8, hv8, hc8⟩ := own_shape h2'
      obtain ⟨A9, c9, hv9, hc9⟩ := own_shape h3'
      subst hv8; subst hv9
      have H8 := Lib.hid (Row.of_own h2')
      have H9 := Lib.hid (Row.of_own h3')
      have HKL := Lib.hid (show ∀ q ∈ ls, Kn h wr q.1 q.2 from fun q hm => (HK.out q (h4 q hm)).ex hb)
      have HKR := Lib.hid (show ∀ q ∈ rs, Kn h wr q.1 q.2 from fun q hm => (HK.out q (h5 q hm)).ex hb)
      have hfl := ct_flat cs (p : Int)
      have hsz := congrArg ByteArray.size hfl
      rw [ByteArray.size_append, ← h9, ← h10, flat_size_app, flat_size_app] at hsz
      have hss := HS.out
      have HSL := Lib.hid (show (flat ls.cs).size + (flat cl).size ≤ 100000 by omega)
      have HSR := Lib.hid (show (flat cr).size + (flat rs.cs).size ≤ 100000 by omega)
      have hl100 : ls.length ≤ 100000 := by omega
      have hr100 : rs.length ≤ 100000 := by omega
      clear h2' h3' h4 h5 h6 h7 h9 h10 hb hkl hfl hsz hss
      go_wp2_with fail
      refine (up_tr (h := h) ls A8 c8 _ rfl hc8 hl100 (by have := HSL.out; omega) H8.out HKL.out).mono ?_
      rintro e w5 ⟨v5, rfl, ht5, hb5⟩
      have HT5 := Lib.hid ht5
      have HB5 := Lib.hid hb5
      clear ht5 hb5
      go_wp2_with fail
      refine (raw_calls _ HT5.out (H6.out.ex HB5.out) (by rw [flat_size_app]; exact HSL.out)).mono ?_
      rintro e w6 ⟨v6, rfl, ht6, hb6⟩
      have HT6 := Lib.hid ht6
      have HB6 := Lib.hid (HB5.out.trans hb6)
      clear ht6 hb6
      go_wp2_with fail
      refine (up_tr (h := h) rs A9 c9 _ rfl hc9 hr100 (by have := HSR.out; omega) (H9.out.ex HB6.out) (fun q hm => (HKR.out q hm).ex HB6.out)).mono ?_
      rintro e w7 ⟨v7, rfl, ht7, hb7⟩
      have HT7 := Lib.hid ht7
      have HB7 := Lib.hid hb7
      clear ht7 hb7
      go_wp2_with fail
      refine (raw_calls _ ((H7.out.ex HB6.out).ex HB7.out) HT7.out (by rw [flat_size_app]; exact HSR.out)).mono ?_
      rintro e w8 ⟨v8, rfl, ht8, hb8⟩
      have HT8 := Lib.hid ht8
      have HB8 := Lib.hid (HB7.out.trans hb8)
      clear ht8 hb8
      go_wp2_with fail
      go_ret2
      refine ⟨_, _, rfl, ?_, ?_, (HX.out.trans HB6.out).trans HB8.out⟩
      · rw [← HL.out]; exact HT6.out.ex HB8.out
      · rw [← HRR.out]; exact HT8.out
theorem split_kn : ∀ {h : Nat} {v : Value} {cs : List ByteArray} (p : Int) (w : World), Kn h w v cs → (flat cs).size ≤ 100000 → okAt cs p → -200000 ≤ p → p ≤ 200000 → Calls Try.prog 46 #[v, .int .i64 p] w (SplP cs p w) := by
  intro h
  induction h with
  | zero =>
    intro v cs p w x hs ho h1 h2
    by_cases c1 : p ≤ 0
    · exact split_low p w x c1
    · by_cases c2 : ((flat cs).size : Int) ≤ p
      · exact split_high p w x (by omega) c2
      · obtain ⟨n, rfl⟩ := Int.eq_ofNat_of_zero_le (show 0 ≤ p by omega)
        exact split_leaf n w x hs (by omega) (by omega) ho
  | succ h ih =>
    intro v cs p w x hs ho h1 h2
    by_cases c1 : p ≤ 0
    · exact split_low p w x c1
    · by_cases c2 : ((flat cs).size : Int) ≤ p
      · exact split_high p w x (by omega) c2
      · obtain ⟨n, rfl⟩ := Int.eq_ofNat_of_zero_le (show 0 ≤ p by omega)
        exact split_in (fun p w => ih p w) n w x hs (by omega) (by omega) ho
set_option maxHeartbeats 400000 in
theorem split_calls {v : Value} {cs : List ByteArray} (p : Int) (w : World) (x : Tr w v cs) (hs : (flat cs).size ≤ 100000) (ho : okAt cs p) (h1 : -200000 ≤ p) (h2 : p ≤ 200000) : Calls Try.prog 46 #[v, .int .i64 p] w (SplP cs p w) := by
  rcases x with ⟨rfl, rfl⟩ | ⟨h, x⟩
  · have hfd := fun (a b c : Int) (w : World) => field_b a b c w
    go_enter Try.func46, Try.ntmps46
    go_wp2_with fail
    refine (count_nil' _).mono ?_
    rintro e w1 ⟨rfl, hb1⟩
    go_wp2_with fail
    refine (height_nil _).mono ?_
    rintro e w2 ⟨rfl, rfl⟩
    go_wp2_with fail
    go_ret2
    exact ⟨_, _, rfl, .inl ⟨rfl, rfl⟩, .inl ⟨rfl, rfl⟩, hb1⟩
  · exact split_kn p w x hs ho h1 h2
end Go.Proofs.Ytkckeogdijdohaa
