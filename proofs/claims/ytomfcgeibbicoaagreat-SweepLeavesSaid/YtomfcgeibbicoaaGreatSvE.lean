/- The walk of SweepLeaves. -/
import Derived.Test.YtomfcgeibbicoaaGreatSvD
namespace Go.Proofs.YtomfcgeibbicoaaGreat
open Go.RowKit Go.Maps
theorem RowO.fresh {F : Nat → Prop} {w w' : World} {sz n : Nat} {A : Option Addr} {cs : List Value} (h : RowO F w sz A n cs) (hb : Off F w w') (hl : ∀ a, A = some a → a.block < w.heap.size) : RowO (Fresh F w w') w' sz A n cs := by
  refine ⟨(h.off hb).1, fun a ha hf => ?_⟩
  rcases hf with hf | hf
  · exact h.2 a ha hf
  · have := hl a ha; omega
def nmCs (l : List FlV) : List Value := (l.map FlV.nm).map Value.string
set_option maxHeartbeats 4000000 in
set_option maxRecDepth 100000 in
theorem swleaves_calls (lA : Option Addr) (lc : Nat) (l : List FlV) (ep : Int) (ch : ByteArray) (w : World) (hlr : Row w 2 lA l.length (l.flatMap FlV.cs)) (hln : ∀ f ∈ l, f.nm.size ≤ 9223372036854775807) :
    Calls Tryz.prog 6 #[.slice lA l.length lc, .int .i64 ep, .string ch] w fun e w' => e = .returned (.bool true) ∧ Ex w w' := by
  have HLR0 := Lib.hid hlr
  have HLN := Lib.hid hln
  clear hlr hln
  go_enter Tryz.func6, Tryz.ntmps6
  go_wp2_with fail
  refine (few37_calls _ _ _ _ HLR0.out).mono ?_
  rintro e W ⟨rfl, hbf⟩
  have HXL := Lib.hid hbf
  have HLR := Lib.hid (HLR0.out.ex hbf)
  clear hbf
  cases hfw : fewB 20 100 l
  · go_wp2_with fail
    refine (lv37_calls _).mono ?_
    rintro e wl ⟨rfl, hbl⟩
    go_wp2_with fail
    go_ret
    exact ⟨rfl, HXL.out.trans hbl⟩
  by_cases c1 : 100 < ch.size
  · have d1 : decide ((100 : Int) < (ch.size : Int)) = true := decide_eq_true (by omega)
    go_wp2_with fail
    refine (lv37_calls _).mono ?_
    rintro e wl ⟨rfl, hbl⟩
    go_wp2_with fail
    go_ret
    exact ⟨rfl, HXL.out.trans hbl⟩
  have d1 : decide ((100 : Int) < (ch.size : Int)) = false := decide_eq_false (by omega)
  have HLO := Lib.hid (show ∀ f ∈ l, f.nm.size ≤ 9223372036854775807 ∧ f.dt.size ≤ 131072 from fun f hf => ⟨HLN.out f hf, Nat.le_trans (fewB_dt hfw hf) (by decide)⟩)
  have hl20 := fewB_len hfw
  clear hfw
  go_wp2_with fail
  refine (dload_calls 100 lA lc l _ HLR.out HLO.out (by decide) (by decide)).mono ?_
  rintro e w2 ⟨⟨v, rfl, hno, hyes⟩, hX2⟩
  obtain ⟨r, c, hrc⟩ : ∃ r c, DkV.load 100 l = (r, c) := ⟨_, _, rfl⟩
  have HRC := Lib.hid hrc
  rw [hrc] at hno hyes ⊢
  clear hrc
  have HX2 := Lib.hid (HXL.out.trans hX2)
  have HZ2 := Lib.hid hX2.size
  clear hX2
  cases r with
  | none =>
    obtain rfl := hno rfl
    clear hno hyes
    have hq0 := load_none HRC.out
    have q1 : decide (c = 0) = false := decide_eq_false hq0
    have q2 : (c == 0) = false := beq_eq_false_iff_ne.2 hq0
    have q3 : (c != 0) = true := by rw [bne, q2]; rfl
    clear hq0
    go_wp2_with fail
    refine (lv37_calls _).mono ?_
    rintro e wl ⟨rfl, hbl⟩
    go_wp2_with fail
    go_ret
    exact ⟨rfl, HX2.out.trans hbl⟩
  | some Q0 =>
  obtain rfl : c = 0 := load_some HRC.out
  obtain ⟨g, rfl, hg, hP⟩ := hyes Q0 rfl
  have HOK := Lib.hid ((load_ok HLO.out HRC.out).up (N := 20) hl20)
  have HNS := Lib.hid (load_nms HRC.out)
  have HLA := Lib.hid (load_lasts HRC.out)
  have HRI := Lib.hid hP.rise
  have HP2 := Lib.hid (DkP.bound hP)
  have hgn : ¬ (ptrV g = .pointer none) := by intro h; cases h
  have hnw : ∀ k, NewB W k → w.heap.size ≤ k := fun k hk => Nat.le_trans HXL.out.size hk
  have HNW := Lib.hid hnw
  clear hno hyes hP HRC hnw
  go_wp2_with fail
  refine (dfiles_calls HP2.out HOK.out (by decide)).mono ?_
  rintro e w3 ⟨v3, rfl, ho3, hb3⟩
  obtain ⟨A3, c3, rfl, _⟩ := own_shape ho3
  have HW3 := Lib.hid (show RowO (fun k => NewB W k ∧ k < w2.heap.size) w3 2 A3 Q0.files.length (Q0.files.flatMap FlV.cs) from ⟨Row.of_own ho3, fun a ha hf => by
    rcases ho3.2 with ⟨hn, _⟩ | ⟨g3, cap, cur, hv, hge, _, _⟩
    · injection hn with e1; rw [ha] at e1; cases e1
    · injection hv with e1
      rw [ha] at e1
      cases e1
      have := hf.2
      simp only at this
      omega⟩)
  have HLW3 := Lib.hid (own_low ho3)
  have HX3 := Lib.hid (HX2.out.trans hb3)
  have HP3 := Lib.hid (HP2.out.ex hb3)
  have hlen0 : Q0.files.length ≤ 20 := by
    have : Q0.files.length = Q0.fo.now.length := by unfold DkV.files; rw [List.length_map]
    have := HOK.out.fo.now_len; omega
  clear ho3 hb3
  obtain ⟨l1, l2, l3⟩ := sold_law HLA.out HRI.out ep
  have hok1 := sold_ok HOK.out HNS.out ep
  have hns1 := sold_nms HNS.out ep
  have hC := sold_calls HP3.out HOK.out (by decide) HNS.out.nms ep
  obtain ⟨Q1, n1, e1, hq1⟩ : ∃ Q1 n1 e1, Q0.sold ep = (Q1, n1, e1) := ⟨_, _, _, rfl⟩
  rw [hq1] at l1 l2 l3 hok1 hns1 hC
  obtain rfl : e1 = 0 := l1
  have HC := Lib.hid hC
  have HL2 := Lib.hid l2
  have HL3 := Lib.hid l3
  have HOK1 := Lib.hid (hok1.up (N := 200) (by decide))
  have HNS1 := Lib.hid hns1
  clear l2 l3 hok1 hns1 hC hq1
  go_wp2_with fail
  refine HC.out.mono ?_
  rintro e w4 ⟨rfl, hP4, hO4⟩
  have HP4 := Lib.hid hP4
  have HW4 := Lib.hid (HW3.out.fresh hO4 HLW3.out)
  have HX4 := Lib.hid (new_off HX3.out (hO4.mono fun k _ hk => HNW.out k hk.1))
  have HLW4 := Lib.hid (fun a ha => Nat.lt_of_lt_of_le (HLW3.out a ha) hO4.size)
  have HRI1 := Lib.hid hP4.rise
  clear hP4 hO4 HC HW3
  go_wp2_with fail
  refine (dcrash_calls HP4.out HOK1.out (by decide) ch (by omega)).mono ?_
  rintro e w5 ⟨rfl, hP5, hO5⟩
  rw [HL2.out.crash ch] at hP5
  have HP5 := Lib.hid hP5
  have HW5 := Lib.hid (HW4.out.fresh hO5 HLW4.out).1
  have HX5 := Lib.hid (show Ex w w5 from new_off HX4.out (hO5.mono fun k _ hk => by
    rcases hk with hk | hk
    · exact HNW.out k hk.1
    · have := HX3.out.size; show w.heap.size ≤ k; omega))
  clear hP5 hO5 HW4
  go_wp2_with fail
  refine (dfiles_calls HP5.out HOK1.out (by decide)).mono ?_
  rintro e w6 ⟨v6, rfl, ho6, hb6⟩
  obtain ⟨A6, c6, rfl, _⟩ := own_shape ho6
  have HI6 := Lib.hid (Row.of_own ho6)
  have HW6 := Lib.hid (HW5.out.ex hb6)
  have HX6 := Lib.hid (HX5.out.trans hb6)
  clear ho6 hb6
  have hfn := files_nms Q1
  have HSN := Lib.hid (stay_none HL3.out)
  have hlen1 : Q1.files.length ≤ 20 := by rw [HL3.out]; exact Nat.le_trans (List.length_filter_le _ _) hlen0
  have hnz : Q1.nms.length = Q1.files.length := by rw [← files_nms, List.length_map]
  have HNM := Lib.hid HNS1.out.nms
  have HNM0 := Lib.hid HNS.out.nms
  have hf0 := files_nms Q0
  have HINT := Lib.hid (show (Tryz.prog.info? 9).map (fun i => (i.zero, i.size, i.bytes)) = some (some (.string ⟨#[]⟩), 1, 16) from by kernel_rfl)
  obtain ⟨L, hL⟩ : ∃ L, Q1.files = L := ⟨_, rfl⟩
  obtain ⟨L0, hL0⟩ : ∃ L0, Q0.files = L0 := ⟨_, rfl⟩
  rw [hL] at HI6 HL3 hfn hlen1 hnz ⊢
  rw [hL0] at HW6 HL3 hlen0 hf0 ⊢
  have HFN := Lib.hid hfn
  have HF0 := Lib.hid hf0
  clear hfn hf0 hL hL0
  have HOLD := Lib.hid (show ∀ (A : Option Addr) (c : Nat) (w : World), Row w 1 A L.length (Q1.nms.map Value.string) → Calls Tryz.prog 37 #[.slice A L.length c, .int .i64 ep] w fun e w' => ∃ B d, e = .returned (.slice B 0 d) ∧ Ex w w' from fun A c w hr => by
    have h := rold_calls A c Q1.nms ep w (by rw [hnz]; exact hr) (by omega) HRI1.out HNM.out
    rw [hnz] at h
    refine h.mono ?_
    rintro e w' ⟨v, rfl, ho, hb⟩
    rw [HSN.out.1] at ho
    obtain ⟨B, d, rfl, _⟩ := own_shape ho
    exact ⟨B, d, rfl, hb⟩)
  have HTMP := Lib.hid (show ∀ (A : Option Addr) (c : Nat) (w : World), Row w 1 A L.length (Q1.nms.map Value.string) → Calls Tryz.prog 38 #[.slice A L.length c] w fun e w' => ∃ B d, e = .returned (.slice B 0 d) ∧ Ex w w' from fun A c w hr => by
    have h := rtemps_calls A c Q1.nms w (by rw [hnz]; exact hr) (by omega) HRI1.out HNM.out
    rw [hnz] at h
    refine h.mono ?_
    rintro e w' ⟨v, rfl, ho, hb⟩
    rw [HSN.out.2] at ho
    obtain ⟨B, d, rfl, _⟩ := own_shape ho
    exact ⟨B, d, rfl, hb⟩)
  have hnm1 : (L.map fun f => Value.string f.nm) = Q1.nms.map Value.string := by rw [← HFN.out, List.map_map]; rfl
  have HNM1 := Lib.hid hnm1
  have HS0 := Lib.hid (show ∀ f ∈ L0, f.nm.size ≤ 9223372036854775806 from fun f hf => HNM0.out _ (by rw [← HF0.out]; exact List.mem_map.2 ⟨f, hf, rfl⟩))
  clear hnm1 hnz HSN HNM HNM0 HRI1 HFN HF0 HRI HNS HLA HL2 HNS1
  go_wp2_with fail
  go_loopw [13, 14] (fun v i wr => ∃ k : Nat, k ≤ L.length ∧ i = .int .i64 (k : Int) ∧ wr.ownsRow w6.heap.size 9 1 v k ((L.take k).map fun f => Value.string f.nm) ∧ Ex w6 wr) (fun _ i _ => L.length - (intOf i).toNat)
  case atStart => exact ⟨0, Nat.zero_le _, rfl, World.ownsRow_nil _ _ _ _, Ex.refl _⟩
  case round =>
    obtain ⟨k, hk, rfl, ho, hb⟩ := hrel
    have hzb := hb.size
    by_cases hlt : k < L.length
    · obtain ⟨b, o, rfl, f1, f2⟩ := (HI6.out.ex hb).fl hlt
      have h1 : ∀ u ∈ [Value.string L[k].nm], u.oneCell' = true := fun u hu => by rw [List.mem_singleton.1 hu]; rfl
      have HTK := Lib.hid (List.take_succ_eq_append_getElem hlt)
      have HO := Lib.hid ho
      have HB := Lib.hid hb
      generalize L[k] = m at *
      obtain ⟨mn, md⟩ := m
      simp only at f1 f2 h1
      have HH1 := Lib.hid h1
      have hkI : (k : Int) < (L.length : Int) := by omega
      have hk0 : (0 : Int) ≤ (k : Int) := by omega
      have hkn : ((k : Int)).toNat = k := by omega
      clear h1 ho hb
      go_wp2_with (at_builtin; refine app_own 23 9 (.string ⟨#[]⟩) 1 16 Tryz.underlying23 HINT.out rfl (by decide) (by decide) rfl (.tmp 62) (.tmp 68) rfl w6.heap.size _ k _ rfl (own_ex HO.out (ex_alloc (Ex.refl wr) _)) (some ⟨wr.heap.size, 0, none⟩) 1 1 [.string mn] rfl (row_lit1 wr [.string mn] _) HH1.out (by omega) (Nat.le_trans hzb (ex_alloc (Ex.refl wr) _).size) (ex_alloc HB.out _) ?_; intro v' w' ho' hb')
      exact ⟨⟨k + 1, by omega, by go_num, by rw [HTK.out, List.map_append]; exact ho', hb'⟩, by simp [intOf]; omega⟩
    · have hkl : k = L.length := by omega
      subst hkl
      rw [List.take_length, HNM1.out] at ho
      obtain ⟨A7, c7, rfl, _⟩ := own_shape ho
      have HR7 := Lib.hid (Row.of_own ho)
      have HX7 := Lib.hid (HX6.out.trans hb)
      have HI7 := Lib.hid (HI6.out.ex hb)
      have HW7 := Lib.hid (HW6.out.ex hb)
      clear ho hb hzb HI6 HW6 HX6 hlt hk
      go_wp2_with fail
      refine (HOLD.out A7 c7 _ HR7.out).mono ?_
      rintro e w8 ⟨B8, d8, rfl, hb8⟩
      have HX8 := Lib.hid hb8
      clear hb8
      go_wp2_with fail
      refine (HTMP.out A7 c7 _ (HR7.out.ex HX8.out)).mono ?_
      rintro e w9 ⟨B9, d9, rfl, hb9⟩
      have HX9 := Lib.hid (HX8.out.trans hb9)
      have HI9 := Lib.hid (HI7.out.ex HX9.out)
      have HW9 := Lib.hid (HW7.out.ex HX9.out)
      have HXW := Lib.hid (HX7.out.trans HX9.out)
      clear hb9 HR7 HX7 HI7 HW7 HX8 HX9
      go_wp2_with fail
      go_loopw [15, 16] (fun v15 v16 wr => ∃ i : Nat, i ≤ L0.length ∧ v16 = .int .i64 (i : Int) ∧ v15 = .int .i64 (((L0.take i).filter fun f => stayN ep f.nm).length : Int) ∧ Ex w9 wr) (fun _ v16 _ => L0.length - (intOf v16).toNat)
      case atStart => exact ⟨0, Nat.zero_le _, rfl, rfl, Ex.refl _⟩
      case round =>
        obtain ⟨i, hi, rfl, rfl, hb⟩ := hrel
        have HB := Lib.hid hb
        clear hb
        by_cases hlt : i < L0.length
        · obtain ⟨b, o, hA3, f1, f2⟩ := (HW9.out.ex HB.out).fl hlt
          subst hA3
          have HTK := Lib.hid (List.take_succ_eq_append_getElem hlt)
          have hsz := HS0.out _ (List.getElem_mem hlt)
          have HFA := Lib.hid (fun h => filter_at (fun f : FlV => stayN ep f.nm) L0 i hlt h)
          rw [← HL3.out] at HFA
          have hkl0 : ((L0.take i).filter fun f => stayN ep f.nm).length ≤ i := Nat.le_trans (List.length_filter_le _ _) (by rw [List.length_take]; omega)
          generalize hkk : ((L0.take i).filter fun f => stayN ep f.nm).length = k at *
          have HKK := Lib.hid hkk
          clear hkk
          generalize L0[i] = f at *
          obtain ⟨mn, md⟩ := f
          simp only at f1 f2 hsz HFA
          have hiI : (i : Int) < (L0.length : Int) := by omega
          have hi0 : (0 : Int) ≤ (i : Int) := by omega
          have hin : ((i : Int)).toNat = i := by omega
          have hR1 := Lib.hid (row_lit1 wr [Value.string mn] 9)
          have hX1 := Lib.hid (ex_alloc (Ex.refl wr) (.cells #[.string mn] 9))
          have HC1 := Lib.hid (fun W A c h => rold_calls A c [mn] ep W h (show 1 ≤ 1000000 by decide) (List.pairwise_singleton _ _) (fun s hs => by rw [List.mem_singleton.1 hs]; exact hsz))
          have HC2 := Lib.hid (fun W A c h => rtemps_calls A c [mn] W h (show 1 ≤ 1000000 by decide) (List.pairwise_singleton _ _) (fun s hs => by rw [List.mem_singleton.1 hs]; exact hsz))
          go_wp2_with fail
          refine (HC1.out _ _ _ hR1.out).mono ?_
          rintro e w11 ⟨v11, rfl, ho11, hb11⟩
          obtain ⟨A11, c11, rfl, _⟩ := own_shape ho11
          have HX11 := Lib.hid (hX1.out.trans hb11)
          have HR11 := Lib.hid (hR1.out.ex hb11)
          clear ho11 hb11
          go_wp2_with fail
          refine (HC2.out _ _ _ HR11.out).mono ?_
          rintro e w12 ⟨v12, rfl, ho12, hb12⟩
          obtain ⟨A12, c12, rfl, _⟩ := own_shape ho12
          have HXr := Lib.hid (HX11.out.trans hb12)
          have HX12 := Lib.hid (HB.out.trans HXr.out)
          clear ho12 hb12 HR11 HX11 hR1 hX1 HC1 HC2
          have hp : ∀ p : TitV → Bool, pickN p [mn] = if p (titR mn) = true then [mn] else [] := fun p => by
            have := pickN_snoc p [] mn
            rw [List.nil_append] at this
            rw [this]
            show [] ++ _ = _
            rw [List.nil_append]
          rw [hp (isOld ep), hp isTemp]
          clear hp
          obtain ⟨na, hna⟩ : ∃ n, (if isOld ep (titR mn) = true then [mn] else []).length = n := ⟨_, rfl⟩
          obtain ⟨nb, hnb⟩ : ∃ n, (if isTemp (titR mn) = true then [mn] else []).length = n := ⟨_, rfl⟩
          rw [hna, hnb]
          have hna1 : na ≤ 1 := by rw [← hna]; split <;> simp
          have hnb1 : nb ≤ 1 := by rw [← hnb]; split <;> simp
          have hw : IntKind.i64.wrap ((na : Int) + (nb : Int)) = (na : Int) + (nb : Int) := IntWalk.i64_in _ (by omega)
          cases hst : stayN ep mn
          · have hpos : 1 ≤ na + nb := by
              rw [← hna, ← hnb]
              unfold stayN at hst
              cases ho : isOld ep (titR mn) <;> cases ht : isTemp (titR mn) <;> rw [ho, ht] at hst <;> first | (cases hst; done) | simp
            have hgt : decide ((0 : Int) < (na : Int) + (nb : Int)) = true := decide_eq_true (by omega)
            have HK0 := Lib.hid (show ((L0.take (i + 1)).filter fun f => stayN ep f.nm).length = k from by
              rw [HTK.out, List.filter_append, List.length_append, HKK.out, List.filter_cons_of_neg (by simp only [hst]; decide)]; rfl)
            clear hna hnb hst HFA
            go_wp2_with fail
            exact ⟨⟨i + 1, by omega, by go_num, by rw [HK0.out], HX12.out⟩, by simp [intOf]; omega⟩
          · have hz : na = 0 ∧ nb = 0 := by
              rw [← hna, ← hnb]
              unfold stayN at hst
              cases ho : isOld ep (titR mn) <;> cases ht : isTemp (titR mn) <;> rw [ho, ht] at hst <;> first | (cases hst; done) | exact ⟨rfl, rfl⟩
            obtain ⟨rfl, rfl⟩ := hz
            have hk2 := HFA.out hst
            obtain ⟨hkL, hkE⟩ := List.getElem?_eq_some_iff.1 hk2
            have HK0 := Lib.hid (show ((L0.take (i + 1)).filter fun f => stayN ep f.nm).length = k + 1 from by
              rw [HTK.out, List.filter_append, List.length_append, HKK.out, List.filter_cons_of_pos (by exact hst)]; rfl)
            obtain ⟨b2, o2, hA6, g1, g2⟩ := (HI9.out.ex HX12.out).fl hkL
            subst hA6
            rw [hkE] at g1 g2
            simp only at g1 g2
            have x1 := HXr.out.cell f1
            have x2 := HXr.out.cell f2
            have hkI : (k : Int) < (L.length : Int) := by omega
            have hk0 : (0 : Int) ≤ (k : Int) := by omega
            have hkn : ((k : Int)).toNat = k := by omega
            have hge : decide ((L.length : Int) ≤ (k : Int)) = false := decide_eq_false (by omega)
            have hkw : IntKind.i64.wrap ((k : Int) + 1) = (k : Int) + 1 := IntWalk.i64_in _ (by omega)
            clear hna hnb hst HFA hk2 hkE f1 f2
            go_wp2_with fail
            go_quiet (fail)
            have HX13 := Lib.hid (HX12.out.trans (Dr.ex (w' := w12.drewN nq) ⟨nq, rfl⟩))
            go_wp2_with fail
            exact ⟨⟨i + 1, by omega, by go_num, by rw [HK0.out]; go_num, HX13.out⟩, by simp [intOf]; omega⟩
        · have hil : i = L0.length := by omega
          subst hil
          have he : ((L0.take L0.length).filter fun f => stayN ep f.nm).length = L.length := by rw [List.take_length, ← HL3.out]
          rw [he]
          clear he
          go_wp2_with fail
          refine (lv37_calls _).mono ?_
          rintro e wl ⟨rfl, hbl⟩
          go_wp2_with fail
          go_ret
          exact ⟨rfl, HXW.out.trans (HB.out.trans hbl)⟩
end Go.Proofs.YtomfcgeibbicoaaGreat
