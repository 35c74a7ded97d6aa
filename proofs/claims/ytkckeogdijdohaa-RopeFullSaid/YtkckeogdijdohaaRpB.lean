/- Walks: ropes: leaf, Edge, within, cut, Insert, Delete. -/
import Derived.Test.YtkckeogdijdohaaRpA
namespace Go.Proofs.Ytkckeogdijdohaa
open Go.RowKit
/-- A place of a list of chunks is one of a chunk. -/
theorem edge_chunk {a b : List ByteArray} {c : ByteArray} {k : Nat} (hf : ∀ x ∈ a ++ c :: b, fitsB x = true) (hk : k < c.size) : edge (flat (a ++ c :: b)) (((flat a).size + k : Nat) : Int) = edge c (k : Int) := by
  have hc := fitsB_iff.1 (hf c (by simp))
  have hb := flat_valid (cs := b) fun x hx => hf x (by simp [hx])
  have hcb : validU (c ++ flat b) = true := valid_app hc.2.2 hb
  rw [flat_app, flat]
  rcases Nat.eq_zero_or_pos k with rfl | h0
  · rw [Nat.add_zero, edge_seam hcb]; exact (edge_end (.inl rfl)).symm
  · rw [edge_right h0 (by rw [ByteArray.size_append]; omega), edge_left h0 hk]
/-- What leaf hands back. -/
def LeafAt (s : ByteArray) (p : Nat) (w : World) (e : Ending) (w' : World) : Prop := ∃ (c : ByteArray) (k : Nat), e = .returned (.tuple #[.string c, .int .i64 (k : Int)]) ∧ edge s (p : Int) = edge c (k : Int) ∧ Ex w w'
set_option maxRecDepth 100000 in
set_option maxHeartbeats 2000000 in
theorem rleaf_calls {v : Value} (s : ByteArray) (p : Nat) (w : World) (x : Rp w v s) (hs : s.size ≤ 100000) (hp : p < s.size) : Calls Try.prog 54 #[v, .int .i64 (p : Int)] w (LeafAt s p w) := by
  obtain ⟨u, cs, h1, h2, h3, h4⟩ := x
  have hne : cs ≠ [] := fun e => by rw [e] at h4; rw [← h4] at hp; exact absurd hp (by show ¬ p < 0; omega)
  obtain ⟨h, k⟩ := h2.ne hne
  have H1 := Lib.hid h1
  have K := Lib.hid k
  have H3 := Lib.hid h3
  have H4 := Lib.hid h4
  have hpz : p ≤ 100000 := by omega
  have HP := Lib.hid (show p < (flat cs).size from by rw [h4]; exact hp)
  clear h1 h2 h3 h4 hne k hp
  go_enter Try.func54, Try.ntmps54
  go_wp2_with fail
  refine (root_calls _ H1.out).mono ?_
  rintro e w1 ⟨rfl, rfl⟩
  go_wp2_with fail
  go_loopw [1, 6, 8, 9] (fun v1 v6 _ _ wr => ∃ (h : Nat) (c1 a b : List ByteArray) (q : Nat), v1 = .int .i64 (q : Int) ∧ Kn h wr v6 c1 ∧ cs = a ++ (c1 ++ b) ∧ p = (flat a).size + q ∧ q < (flat c1).size ∧ Ex w1 wr) (fun _ v6 _ _ wr => htOf wr v6)
  case atStart => exact ⟨h, cs, [], [], p, rfl, K.out, by simp, by show p = 0 + p; omega, HP.out, Ex.refl _⟩
  case round =>
    clear K h
    obtain ⟨h, c1, a, b, q, rfl, hk, hcs, hpq, hq, hb⟩ := hrel
    have HK := Lib.hid hk
    have HCS := Lib.hid hcs
    have HPQ := Lib.hid hpq
    have HHT := Lib.hid hk.ht
    have hqz : q ≤ 100000 := by omega
    have hsz : (flat c1).size ≤ 100000 := by
      have := congrArg (fun l => (flat l).size) hcs
      simp only [flat_size_app, H4.out] at this
      omega
    cases h with
    | zero =>
      obtain ⟨g, c, e0, e1, hf, hn⟩ := id hk
      subst e1
      have HF := Lib.hid (flat_one c)
      have hcz : c.size ≤ 100000 := by rw [flat_one] at hsz; exact hsz
      have HED := Lib.hid (show edge s (p : Int) = edge c (q : Int) from by
        rw [← H4.out, hcs, hpq]
        have hall : ∀ x ∈ a ++ c :: b, fitsB x = true := fun x hx => H3.out.1 x (by rw [hcs]; simpa using hx)
        have := edge_chunk (a := a) (b := b) (c := c) (k := q) hall (by rw [flat_one] at hq; exact hq)
        simpa using this)
      clear hk hcs hpq hn e0 hsz hq hf
      go_wp2_with fail
      refine (height_calls _ HK.out).mono ?_
      rintro e w2 ⟨rfl, rfl⟩
      go_wp2_with fail
      refine (text_at c _ (.inr ⟨0, HK.out⟩) HF.out hcz).mono ?_
      rintro e w3 ⟨rfl, hb3⟩
      go_wp2_with fail
      go_ret2
      exact ⟨c, q, rfl, HED.out, hb.trans hb3⟩
    | succ h =>
      have hht := hk.small hsz
      have HQ := Lib.hid hq
      have HSZ := Lib.hid hsz
      obtain ⟨hh, hhe⟩ : ∃ hh : Nat, hh = h + 1 := ⟨_, rfl⟩
      have d1 : decide ((0 : Int) < (hh : Int)) = true := decide_eq_true (by omega)
      have d2 : decide (0 < hh) = true := decide_eq_true (by omega)
      have HHE := Lib.hid hhe
      rw [← hhe] at HK hht
      clear hk hcs hpq hhe
      obtain ⟨wo, rfl⟩ : ∃ wo : World, wo = wr := ⟨_, rfl⟩
      go_wp2_with fail
      refine (height_calls _ HK.out).mono ?_
      rintro e w2 ⟨rfl, rfl⟩
      rw [HHE.out] at HK
      go_wp2_with fail
      refine (kids_calls _ HK.out).mono ?_
      rintro e w4 ⟨A, c, ks, rfl, hc, h2', h8, hcs', hr, hk', hb4⟩
      have HR := Lib.hid hr
      have HKK := Lib.hid hk'
      have HB4 := Lib.hid (hb.trans hb4)
      have HC1 := Lib.hid hcs'
      clear hr hk' hcs' d1 d2 hb4 hq hsz
      go_wp2_with fail
      go_loopw [1, 6, 8, 9, 18] (fun v1 _ _ _ v18 wr => ∃ (k q' : Nat), k ≤ ks.length ∧ v18 = .int .i64 (k : Int) ∧ v1 = .int .i64 (q' : Int) ∧ q = (flat (Kids.cs (ks.take k))).size + q' ∧ Ex w4 wr) (fun _ _ _ _ v18 _ => ks.length - (intOf v18).toNat)
      case atStart => exact ⟨0, q, by omega, rfl, rfl, by show q = 0 + q; omega, Ex.refl _⟩
      case round =>
        obtain ⟨k, q', hk, rfl, rfl, hqq, hb2⟩ := hrel
        have HQQ := Lib.hid hqq
        by_cases hlt : k < ks.length
        · obtain ⟨bb, o, rfl, hcell⟩ := (HR.out.ex hb2).kid hlt
          have hqn := (HKK.out ks[k] (List.getElem_mem hlt)).ex hb2
          have hcut := Kids.split_at hlt
          have hsz := HSZ.out
          rw [HC1.out, hcut, flat_size_app, flat_size_app] at hsz
          have hFT := Fl.take hlt
          obtain ⟨pq, hpq⟩ := hqn.ptr
          rw [hpq] at hcell
          have HCUT := Lib.hid hcut
          obtain ⟨Q0, hQ0⟩ : ∃ Q0, Q0 = (flat ks[k].2).size := ⟨_, rfl⟩
          rw [← hQ0] at hsz hFT
          have HQ0 := Lib.hid hQ0
          have HFT := Lib.hid hFT
          have hQz : Q0 ≤ 100000 := by omega
          have hq'z : q' ≤ 100000 := by omega
          have HQK := Lib.hid (show Kn h wr (.pointer pq) ks[k].2 from by rw [← hpq]; exact hqn)
          have HCT := Lib.hid (fun w' (x : Kn h w' (.pointer pq) ks[k].2) => by have := count_at w' x; rw [← hQ0] at this; exact this)
          have hfd := fun (a b c : Int) (w : World) => field_b a b c w
          clear hqn hcut hpq hsz hFT hQ0 hqq
          by_cases c2 : q' < Q0
          · have d1 : decide ((q' : Int) < (Q0 : Int)) = true := decide_eq_true (by omega)
            have d2 : decide (q' < Q0) = true := decide_eq_true c2
            have HCSN := Lib.hid (show cs = (a ++ Kids.cs (ks.take k)) ++ (ks[k].2 ++ (Kids.cs (ks.drop (k + 1)) ++ b)) from by
              rw [HCS.out, HC1.out, HCUT.out]; simp only [List.append_assoc])
            have HPN := Lib.hid (show p = (flat (a ++ Kids.cs (ks.take k))).size + q' from by rw [flat_size_app, HPQ.out, HQQ.out]; omega)
            have HLT2 := Lib.hid (show q' < (flat ks[k].2).size from by rw [← HQ0.out]; exact c2)
            have HKH := Lib.hid (HQK.out.ht)
            go_wp2_with fail
            refine (HCT.out _ HQK.out).mono ?_
            rintro e w5 ⟨rfl, hb5⟩
            have HQ5 := Lib.hid (HQK.out.ex hb5)
            have HB5 := Lib.hid ((HB4.out.trans hb2).trans hb5)
            have HH5 := Lib.hid HQ5.out.ht
            clear hb5 c2
            go_wp2_with fail
            exact ⟨⟨h, _, _, _, q', rfl, HQ5.out, HCSN.out, HPN.out, HLT2.out, HB5.out⟩, by rw [HH5.out, HHT.out]; omega⟩
          · have d1 : decide ((q' : Int) < (Q0 : Int)) = false := decide_eq_false (by omega)
            have d2 : decide (q' < Q0) = false := decide_eq_false c2
            have hqd : (q' : Int) - (Q0 : Int) = ((q' - Q0 : Nat) : Int) := by omega
            have HQD := Lib.hid hqd
            have HN := Lib.hid (show q = (flat (Kids.cs (ks.take (k + 1)))).size + (q' - Q0) from by rw [HFT.out, HQQ.out]; omega)
            clear hqd
            go_wp2_with fail
            refine (HCT.out _ HQK.out).mono ?_
            rintro e w5 ⟨rfl, hb5⟩
            go_wp2_with fail
            go_roundw
            case rel => exact ⟨k + 1, q' - Q0, by omega, by go_num, by rw [HQD.out], HN.out, hb2.trans hb5⟩
            case measure => simp [intOf]; omega
        · have hkl : k = ks.length := by omega
          have h5 := HQ.out
          rw [HC1.out] at h5
          rw [hkl, List.take_length] at hqq
          omega
theorem edge_bool {s : ByteArray} {p : Int} (h : p ≤ 0 ∨ (s.size : Int) ≤ p) : edge s p = (decide (p = 0) || decide (p = s.size)) := by
  by_cases h0 : p = 0
  · rw [edge_end (.inl h0), decide_eq_true h0]; rfl
  · by_cases h1 : p = s.size
    · rw [edge_end (.inr h1), decide_eq_true h1, Bool.or_true]
    · rw [edge_no (by omega), decide_eq_false h0, decide_eq_false h1]; rfl
set_option maxRecDepth 100000 in
set_option maxHeartbeats 400000 in
theorem redge_calls {v : Value} (s : ByteArray) (p : Int) (w : World) (x : Rp w v s) (hs : s.size ≤ 100000) : Calls Try.prog 22 #[v, .int .i64 p] w fun e w' => e = .returned (.bool (edge s p)) ∧ Ex w w' := by
  have X := Lib.hid x
  clear x
  by_cases h : p ≤ 0 ∨ (s.size : Int) ≤ p
  · have HE := Lib.hid (edge_bool h)
    by_cases h0 : p ≤ 0
    · have d1 : decide (p ≤ 0) = true := decide_eq_true h0
      by_cases h1 : p = 0
      · subst h1
        go_enter Try.func22, Try.ntmps22
        go_wp2_with fail
        refine (rlen_calls s _ X.out).mono ?_
        rintro e w1 ⟨rfl, hb1⟩
        go_wp2_with fail
        go_ret
        exact ⟨ret_bool (by rw [HE.out]; rfl), hb1⟩
      · have d2 : (p == 0) = false := beq_eq_false_iff_ne.2 h1
        have d3 : (p == (s.size : Int)) = false := by rw [beq_eq_false_iff_ne]; omega
        have HF := Lib.hid (show edge s p = false from edge_no (by omega))
        go_enter Try.func22, Try.ntmps22
        go_wp2_with fail
        refine (rlen_calls s _ X.out).mono ?_
        rintro e w1 ⟨rfl, hb1⟩
        go_wp2_with fail
        go_ret
        exact ⟨ret_bool (by rw [HF.out]), hb1⟩
    · have d1 : decide (p ≤ 0) = false := decide_eq_false h0
      have d4 : decide ((s.size : Int) ≤ p) = true := decide_eq_true (by omega)
      have d2 : (p == 0) = false := by rw [beq_eq_false_iff_ne]; omega
      by_cases h1 : p = s.size
      · have d3 : (p == (s.size : Int)) = true := beq_iff_eq.2 h1
        have HF := Lib.hid (show edge s p = true from edge_end (.inr h1))
        clear h1
        go_enter Try.func22, Try.ntmps22
        go_wp2_with fail
        refine (rlen_calls s _ X.out).mono ?_
        rintro e w1 ⟨rfl, hb1⟩
        go_wp2_with fail
        go_ret
        exact ⟨ret_bool (by rw [HF.out]), hb1⟩
      · have d3 : (p == (s.size : Int)) = false := beq_eq_false_iff_ne.2 h1
        have HF := Lib.hid (show edge s p = false from edge_no (by omega))
        go_enter Try.func22, Try.ntmps22
        go_wp2_with fail
        refine (rlen_calls s _ X.out).mono ?_
        rintro e w1 ⟨rfl, hb1⟩
        go_wp2_with fail
        go_ret
        exact ⟨ret_bool (by rw [HF.out]), hb1⟩
  · obtain ⟨n, rfl⟩ := Int.eq_ofNat_of_zero_le (show 0 ≤ p by omega)
    have d1 : decide ((n : Int) ≤ 0) = false := decide_eq_false (by omega)
    have d2 : decide ((s.size : Int) ≤ (n : Int)) = false := decide_eq_false (by omega)
    have d3 : decide (s.size ≤ n) = false := decide_eq_false (by omega)
    have d4 : decide (n = 0) = false := decide_eq_false (by omega)
    have hn : n < s.size := by omega
    clear h
    go_enter Try.func22, Try.ntmps22
    go_wp2_with fail
    refine (rlen_calls s _ X.out).mono ?_
    rintro e w1 ⟨rfl, hb1⟩
    go_wp2_with fail
    refine (rleaf_calls s n _ (X.out.ex hb1) hs hn).mono ?_
    rintro e w2 ⟨c, k, rfl, he, hb2⟩
    have HE := Lib.hid he
    clear he
    go_wp2_with fail
    refine (edge_calls c (k : Int) _).mono ?_
    rintro e w3 ⟨rfl, rfl⟩
    go_wp2_with fail
    go_ret
    exact ⟨ret_bool (by rw [HE.out]), hb1.trans hb2⟩
def inB (s : ByteArray) (p n : Int) : Bool := decide (0 ≤ p ∧ 0 ≤ n ∧ p ≤ s.size ∧ n ≤ s.size - p)
set_option maxRecDepth 100000 in
set_option maxHeartbeats 400000 in
theorem within_calls {v : Value} (s : ByteArray) (p n : Int) (w : World) (x : Rp w v s) (hs : s.size ≤ 100000) : Calls Try.prog 57 #[v, .int .i64 p, .int .i64 n] w fun e w' => e = .returned (.bool (inB s p n)) ∧ Ex w w' := by
  have X := Lib.hid x
  clear x
  by_cases h1 : 0 ≤ p
  · have d1 : decide (0 ≤ p) = true := decide_eq_true h1
    by_cases h2 : 0 ≤ n
    · have d2 : decide (0 ≤ n) = true := decide_eq_true h2
      by_cases h3 : p ≤ s.size
      · have d3 : decide (p ≤ (s.size : Int)) = true := decide_eq_true h3
        have HF := Lib.hid (show inB s p n = decide (n ≤ (s.size : Int) - p) from decide_eq_decide.2 (by omega))
        go_enter Try.func57, Try.ntmps57
        go_wp2_with fail
        refine (rlen_calls s _ X.out).mono ?_
        rintro e w1 ⟨rfl, hb1⟩
        go_wp2_with fail
        go_ret
        exact ⟨ret_bool (by rw [HF.out]), hb1⟩
      · have d3 : decide (p ≤ (s.size : Int)) = false := decide_eq_false h3
        have HF := Lib.hid (show inB s p n = false from decide_eq_false (by omega))
        go_enter Try.func57, Try.ntmps57
        go_wp2_with fail
        refine (rlen_calls s _ X.out).mono ?_
        rintro e w1 ⟨rfl, hb1⟩
        go_wp2_with fail
        go_ret
        exact ⟨ret_bool (by rw [HF.out]), hb1⟩
    · have d2 : decide (0 ≤ n) = false := decide_eq_false h2
      have HF := Lib.hid (show inB s p n = false from decide_eq_false (by omega))
      go_enter Try.func57, Try.ntmps57
      go_wp2_with fail
      refine (rlen_calls s _ X.out).mono ?_
      rintro e w1 ⟨rfl, hb1⟩
      go_wp2_with fail
      go_ret
      exact ⟨ret_bool (by rw [HF.out]), hb1⟩
  · have d1 : decide (0 ≤ p) = false := decide_eq_false h1
    have HF := Lib.hid (show inB s p n = false from decide_eq_false (by omega))
    go_enter Try.func57, Try.ntmps57
    go_wp2_with fail
    refine (rlen_calls s _ X.out).mono ?_
    rintro e w1 ⟨rfl, hb1⟩
    go_wp2_with fail
    go_ret
    exact ⟨ret_bool (by rw [HF.out]), hb1⟩
theorem rcut_calls {v : Value} (s : ByteArray) (p : Int) (w : World) (x : Rp w v s) (hs : s.size ≤ 100000) (hp : p ≤ 9223372036854775807) : Calls Try.prog 58 #[v, .int .i64 p] w (Split2P (s.extract 0 (backU s p)) (s.extract (backU s p) s.size) w) := by
  obtain ⟨u, cs, h1, h2, h3, h4⟩ := x
  have H1 := Lib.hid h1
  have HSP := Lib.hid (fun w (y : Tr w u cs) => by have := wsplit_calls p w y (by rw [h4]; exact hs) h3 hp; rw [h4] at this; exact this)
  have H2 := Lib.hid h2
  clear h1 h2 h3 h4
  go_enter Try.func58, Try.ntmps58
  go_wp2_with fail
  refine (root_calls _ H1.out).mono ?_
  rintro e w1 ⟨rfl, rfl⟩
  go_wp2_with fail
  refine (HSP.out _ H2.out).mono ?_
  rintro e w2 ⟨l, r, cl, cr, rfl, hl, hr, hgl, hgr, hfl, hfr, hb2⟩
  have HL := Lib.hid hl
  have HR := Lib.hid hr
  have HGL := Lib.hid hgl
  have HGR := Lib.hid hgr
  have HFL := Lib.hid hfl
  have HFR := Lib.hid hfr
  clear hl hr hgl hgr hfl hfr
  go_wp2_with fail
  go_ret2
  exact ⟨l, r, cl, cr, rfl, HL.out, HR.out, HGL.out, HGR.out, HFL.out, HFR.out, hb2⟩
end Go.Proofs.Ytkckeogdijdohaa
