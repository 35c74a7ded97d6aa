/- The walk of SimdiskLoads. -/
import Derived.Test.YtcffkmlnbnjibaaGreatPyS
namespace Go.Proofs.YtcffkmlnbnjibaaGreat
open Go.RowKit Go.Maps
set_option maxHeartbeats 2000000 in
set_option maxRecDepth 100000 in
theorem pyloads_calls (n : Int) (lA : Option Addr) (lc : Nat) (l : List FlV) (ch : ByteArray) (w : World) (hn1 : -9223372036854775808 ≤ n) (hn2 : n ≤ 9223372036854775807) (hlr : Row w 2 lA l.length (l.flatMap FlV.cs)) (hln : ∀ f ∈ l, f.nm.size ≤ 9223372036854775807) :
    Calls Tryz.prog 4 #[.int .i64 n, .slice lA l.length lc, .string ch] w fun e w' => e = .returned (.bool true) ∧ Ex w w' := by
  have HLR := Lib.hid hlr
  have HLN := Lib.hid hln
  clear hlr hln
  by_cases c1 : 70 < l.length
  · have d1 : decide ((70 : Int) < (l.length : Int)) = true := decide_eq_true (by omega)
    go_enter Tryz.func4, Tryz.ntmps4
    go_wp2_with fail
    refine (dlives_calls _).mono ?_
    rintro e wl ⟨rfl, hbl⟩
    go_wp2_with fail
    go_ret
    exact ⟨rfl, hbl⟩
  have d1 : decide ((70 : Int) < (l.length : Int)) = false := decide_eq_false (by omega)
  by_cases c2 : 100 < ch.size
  · have d2 : decide ((100 : Int) < (ch.size : Int)) = true := decide_eq_true (by omega)
    go_enter Tryz.func4, Tryz.ntmps4
    go_wp2_with fail
    refine (dlives_calls _).mono ?_
    rintro e wl ⟨rfl, hbl⟩
    go_wp2_with fail
    go_ret
    exact ⟨rfl, hbl⟩
  have d2 : decide ((100 : Int) < (ch.size : Int)) = false := decide_eq_false (by omega)
  go_enter Tryz.func4, Tryz.ntmps4
  go_wp2_with fail
  go_loopw [7] (fun v wr => wr = w ∧ ∃ k : Nat, k ≤ l.length ∧ v = .int .i64 (k : Int) ∧ ∀ f ∈ l.take k, f.dt.size ≤ 200) (fun v _ => l.length - (intOf v).toNat)
  case atStart => exact ⟨rfl, 0, Nat.zero_le _, rfl, fun f hf => by rw [List.take_zero] at hf; cases hf⟩
  case round =>
    obtain ⟨rfl, k, hk, rfl, hall⟩ := hrel
    have HALL := Lib.hid hall
    clear hall
    by_cases hlt : k < l.length
    · obtain ⟨fb, fo, rfl, c1, c2⟩ := HLR.out.fl hlt
      obtain ⟨f, hf⟩ : ∃ f, l[k] = f := ⟨_, rfl⟩
      have hfg : l[k]? = some f := by rw [← hf]; exact List.getElem?_eq_getElem hlt
      have HFG := Lib.hid hfg
      rw [hf] at c1 c2
      clear hf hfg
      have hkI : (k : Int) < (l.length : Int) := by omega
      have hk0 : (0 : Int) ≤ (k : Int) := by omega
      have hkn : ((k : Int)).toNat = k := by omega
      obtain ⟨nm, dt⟩ := f
      simp only at c1 c2
      by_cases h3 : 200 < dt.size
      · have d3 : decide ((200 : Int) < (dt.size : Int)) = true := decide_eq_true (by omega)
        go_wp2_with fail
        refine (dlives_calls _).mono ?_
        rintro e wl ⟨rfl, hbl⟩
        go_wp2_with fail
        go_ret
        exact ⟨rfl, hbl⟩
      · have d3 : decide ((200 : Int) < (dt.size : Int)) = false := decide_eq_false (by omega)
        go_wp2_with fail
        exact ⟨⟨(by first | rfl | trivial), k + 1, by omega, by go_num, fun f hf => by
          rw [List.take_add_one, HFG.out] at hf
          rcases List.mem_append.1 hf with hf | hf
          · exact HALL.out f hf
          · rw [Option.toList_some, List.mem_singleton] at hf
            subst hf
            exact Nat.le_of_not_lt h3⟩, by simp [intOf]; omega⟩
    · have hkl : k = l.length := by omega
      subst hkl
      have HLO := Lib.hid (show ∀ f ∈ l, f.nm.size ≤ 9223372036854775807 ∧ f.dt.size ≤ 131072 from fun f hf => ⟨HLN.out f hf, Nat.le_trans (HALL.out f (by rw [List.take_length]; exact hf)) (by decide)⟩)
      clear HALL
      rename World => W
      go_wp2_with fail
      refine (dload_calls n lA lc l _ HLR.out HLO.out hn1 hn2).mono ?_
      rintro e w2 ⟨⟨v, rfl, hno, hyes⟩, hX2⟩
      have HNO := Lib.hid hno
      have HYES := Lib.hid hyes
      have HX2 := Lib.hid hX2
      clear hno hyes
      go_wp2_with fail
      refine (rload_calls (F := fun k => NewB W k ∧ k < w2.heap.size) n lA lc l _ (HLR.out.ex HX2.out) HLO.out (fun k hk => hk.2)).mono ?_
      rintro e w3 ⟨⟨v', rfl, hno', hyes'⟩, hX3⟩
      have hno := HNO.out
      have hyes := HYES.out
      obtain ⟨r, c, hrc⟩ : ∃ r c, DkV.load n l = (r, c) := ⟨_, _, rfl⟩
      have HRC := Lib.hid hrc
      rw [hrc] at hno hyes hno' hyes' ⊢
      clear HNO HYES hrc
      cases r with
      | none =>
        obtain rfl := hno rfl
        obtain rfl := hno' rfl
        have HXL := Lib.hid (HX2.out.trans (Ex.trans hX3 (ex_alloc (Ex.refl w3) (.cells zeroD.toArray 59))))
        clear hno hno' hyes hyes' hX2 hX3
        unfold zeroD at *
        have hq0 : ¬ c = 0 := load_none HRC.out
        have q1 : decide (c = 0) = false := decide_eq_false hq0
        have q2 : (c == 0) = false := beq_eq_false_iff_ne.2 hq0
        have q3 : (c != 0) = true := by rw [bne, q2]; rfl
        clear HRC
        go_wp2_with fail
        refine (dlives_calls _).mono ?_
        rintro e wl ⟨rfl, hbl⟩
        go_wp2_with fail
        go_ret
        exact ⟨rfl, HXL.out.trans hbl⟩
      | some Q0 =>
      obtain rfl : c = 0 := load_some HRC.out
      obtain ⟨g, rfl, hg, hP⟩ := hyes Q0 rfl
      obtain ⟨tv, sl, rfl, hR⟩ := hyes' Q0 rfl
      have HOk := Lib.hid (load_ok HLO.out HRC.out)
      have HCR := Lib.hid ((load_lasts HRC.out).crash ch)
      have HP2 := Lib.hid (DkP.bound hP)
      have hz2 := hX2.size
      have hz3 := hX3.size
      have hE3 := Ex.trans hX3 (ex_alloc (Ex.refl w3) (.cells (Q0.rcs tv sl).toArray 59))
      have HH := Lib.hid (show Half W (w3.alloc (.cells (Q0.rcs tv sl).toArray 59)) g w3.heap.size (fun k => NewB W k ∧ k < w2.heap.size) Q0 Q0 tv sl from
        ⟨HP2.out.ex hE3, fun k hk => by have := hE3.size; omega, fun k hk => hk.1, (hR.fresh ((ex_alloc (Ex.refl w3) (.cells (Q0.rcs tv sl).toArray 59)).off _)).less (fun k hk => by
          rcases hk with hk | rfl
          · exact .inl hk
          · exact .inr ⟨Nat.le_refl _, by simp⟩), Blk.new w3 _ _, fun hf => by have := hf.2; omega, by omega, HX2.out.trans hE3⟩)
      obtain ⟨tA, tc, sB, sn, sd, rfl, rfl⟩ := hR.shape
      have hgn : ¬ (ptrV g = .pointer none) := by intro h; cases h
      clear hno hno' hyes hyes' hX2 hX3 hP hR HP2 hE3 HRC
      generalize hbw : w3.heap.size = b9 at *
      have HCS := Lib.hid (fun (F D : Nat → Prop) (W : World) (h1 : DkP W g F Q0) (h2 : RdV D W Q0 (.slice tA Q0.tapes.length tc) (.slice sB sn sd)) => stands_calls h1 h2 HOk.out (by omega))
      unfold DkV.rcs at HCS
      generalize Q0.tapes.length = tm at *
      unfold DkV.rcs
      go_wp2_with fail
      refine (dcrash_calls HH.out.dk HOk.out (by omega) ch (by omega)).mono ?_
      rintro e w5 ⟨rfl, hd5, ho5⟩
      rw [HCR.out] at hd5
      have H5 := Lib.hid (HH.out.prog hd5 ho5)
      obtain ⟨y0, y1, y2, y3, y4, y5, y6, y7⟩ := rd_cells H5.out.cell
      clear hd5 ho5
      go_wp2_with fail
      refine (HCS.out _ _ _ H5.out.dk H5.out.doc H5.out.dlt).mono ?_
      rintro e w6 ⟨rfl, hb6⟩
      have H6 := Lib.hid (H5.out.grow hb6)
      clear hb6
      go_wp2_with fail
      refine (dlives_calls _).mono ?_
      rintro e wl ⟨rfl, hbl⟩
      go_wp2_with fail
      go_ret
      exact ⟨rfl, H6.out.ex.trans hbl⟩
end Go.Proofs.YtcffkmlnbnjibaaGreat
