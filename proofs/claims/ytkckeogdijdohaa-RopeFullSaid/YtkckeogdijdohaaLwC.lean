/- Walk: the statement WeldMixes. -/
import Derived.Test.YtkckeogdijdohaaLwB
import Derived.Test.YtkckeogdijdohaaRowG
namespace Go.Proofs.Ytkckeogdijdohaa
open Go.RowKit
theorem ints_get {l : List Int} {k : Nat} {x : Int} (h : l[k]? = some x) : (l.flatMap int1)[k]? = some (.int .i64 x) := by
  have := flat_get int1 1 (fun _ => rfl) l k x 0 h (by decide)
  rw [Nat.mul_one, Nat.add_zero] at this
  rw [this]; rfl
theorem Row.int {w : World} {A : Option Addr} {n : Nat} {l : List Int} (h : Row w 1 A n (l.flatMap int1)) {k : Nat} (hk : k < l.length) : ∃ b o, A = some ⟨b, o, none⟩ ∧ w.cell? ⟨b, o + k, none⟩ = some (.int .i64 l[k]) := by
  have hn := h.1
  rw [flat_len int1 1 (fun _ => rfl)] at hn
  obtain ⟨b, o, e, hc⟩ := h.2 (by omega)
  exact ⟨b, o, e, hc k _ (ints_get (List.getElem?_eq_getElem hk))⟩
theorem Row.ints_len {w : World} {A : Option Addr} {n : Nat} {l : List Int} (h : Row w 1 A n (l.flatMap int1)) : l.length = n := by
  have hn := h.1
  rw [flat_len int1 1 (fun _ => rfl)] at hn
  omega
theorem wf_i64 {x : Int} (h : (Lit.int .i64 x).wf = true) : -9223372036854775808 ≤ x ∧ x ≤ 9223372036854775807 := by
  simp [Lit.wf, IntKind.min, IntKind.max, IntKind.signed, IntKind.bits] at h
  omega
set_option maxRecDepth 100000 in
set_option maxHeartbeats 2000000 in
theorem weldMixes_calls (s : ByteArray) (A : Option Addr) (n c : Nat) (l : List Int) (w : World) (hr : Row w 1 A n (l.flatMap int1)) (hw : ∀ m ∈ l, (Lit.int .i64 m).wf = true) : Calls Try.prog 6 #[.string s, .slice A n c] w fun e w' => e = .returned (.bool true) ∧ Ex w w' := by
  have hln := hr.ints_len
  subst hln
  by_cases h1 : s.size ≤ 600
  · have d1 : decide ((600 : Int) < (s.size : Int)) = false := decide_eq_false (by omega)
    by_cases h2 : l.length ≤ 30
    · have d2 : decide ((30 : Int) < (l.length : Int)) = false := decide_eq_false (by omega)
      cases hv : validU s
      · have HV := Lib.hid hv
        clear hv hr
        go_enter Try.func6, Try.ntmps6
        go_wp2_with fail
        refine (refValid_calls s _ (by omega)).mono ?_
        rintro e w1 ⟨rfl, hb1⟩
        rw [HV.out]
        go_wp2_with fail
        refine (lives17_calls _).mono ?_
        rintro e w3 ⟨rfl, hb3⟩
        go_wp2_with fail
        go_ret
        exact ⟨rfl, hb1.trans hb3⟩
      · have HV := Lib.hid hv
        have HR := Lib.hid hr
        have HW := Lib.hid (show ∀ (k : Nat) (h : k < l.length), -9223372036854775808 ≤ l[k] ∧ l[k] ≤ 9223372036854775807 from fun k h => by
          exact wf_i64 (hw _ (List.getElem_mem h)))
        clear hv hr hw
        go_enter Try.func6, Try.ntmps6
        go_wp2_with fail
        refine (refValid_calls s _ (by omega)).mono ?_
        rintro e w1 ⟨rfl, hb1⟩
        rw [HV.out]
        have HB1 := Lib.hid hb1
        clear hb1
        go_wp2_with fail
        refine (of_calls s _ (by omega) HV.out).mono ?_
        rintro e w2 ⟨cs, hg, hf, v, rfl, ht, hb2⟩
        have HG := Lib.hid hg
        have HF := Lib.hid hf
        have HT := Lib.hid ht
        have HB2 := Lib.hid (HB1.out.trans hb2)
        clear hg hf ht hb2
        go_wp2_with fail
        go_loopw [0, 5, 6, 7, 8, 9] (fun v0 v5 v6 _ _ _ wr => ∃ (k : Nat) (t : ByteArray) (cs : List ByteArray), k ≤ l.length ∧ v6 = .int .i64 (k : Int) ∧ v0 = .string t ∧ t.size = s.size ∧ Tr wr v5 cs ∧ GoodL cs ∧ flat cs = t ∧ Ex w wr) (fun _ _ v6 _ _ _ _ => l.length - (intOf v6).toNat)
        case atStart => exact ⟨0, s, cs, by omega, rfl, rfl, rfl, HT.out, HG.out, HF.out, HB2.out⟩
        case round =>
          clear HT HG HF HB2
          obtain ⟨k, t, cs, hk, rfl, rfl, hts, ht, hg, hf, hb⟩ := hrel
          have HT := Lib.hid ht
          have HG := Lib.hid hg
          have HF := Lib.hid hf
          have HTS := Lib.hid hts
          have HB := Lib.hid hb
          have htz : t.size ≤ 600 := by omega
          clear ht hg hf hts
          by_cases hlt : k < l.length
          · obtain ⟨b, o, rfl, hcell⟩ := (HR.out.ex hb).int hlt
            obtain ⟨x1, x2⟩ := HW.out k hlt
            generalize l[k] = x at hcell x1 x2
            have hbl := backU_le t x
            have HBK := Lib.hid (fun w => refBack_calls t x w (by omega))
            have HSP := Lib.hid (fun v cs w (y : Tr w v cs) (hz : (flat cs).size ≤ 100000) (hg : GoodL cs) (he : flat cs = t) => by have := wsplit_calls x w y hz hg x2; rw [he] at this; exact this)
            generalize backU t x = n at *
            have hni : (n : Int) ≤ (t.size : Int) := by omega
            obtain ⟨ta, hta⟩ : ∃ ta, ta = t.extract 0 n := ⟨_, rfl⟩
            obtain ⟨tb, htb⟩ : ∃ tb, tb = t.extract n t.size := ⟨_, rfl⟩
            have HSZ := Lib.hid (show ta.size ≤ 600 ∧ tb.size ≤ 600 ∧ (tb ++ ta).size = s.size from by
              rw [ByteArray.size_append, hta, htb, ByteArray.size_extract, ByteArray.size_extract, ← HTS.out]; omega)
            have HTA := Lib.hid hta
            have HTB := Lib.hid htb
            rw [← hta, ← htb] at HSP
            clear hb hta htb
            go_wp2_with fail
            refine (HSP.out _ _ _ HT.out (by rw [HF.out]; omega) HG.out HF.out).mono ?_
            rintro e w3 ⟨lv, rv, cl, cr, rfl, hl, hrr, hgl, hgr, hfl, hfr, hb3⟩
            have HL := Lib.hid hl
            have HRR := Lib.hid hrr
            have HGC := Lib.hid (conc_good hgr hgl)
            have HFL := Lib.hid hfl
            have HFR := Lib.hid hfr
            have HB3 := Lib.hid (HB.out.trans hb3)
            have hcell := hb3.cell hcell
            clear hl hrr hgl hgr hfl hfr hb3
            go_wp2_with fail
            refine (HBK.out _).mono ?_
            rintro e w4 ⟨rfl, hb4⟩
            have HL4 := Lib.hid (HL.out.ex hb4)
            have HR4 := Lib.hid (HRR.out.ex hb4)
            have HB4 := Lib.hid (HB3.out.trans hb4)
            clear hb4 hcell
            go_wp2_with fail
            refine wp_region_calm (by kernel_rfl) (by kernel_rfl) ?_
            repeat (go_big_quiet_step ((fail)))
            refine wpQuiet_nil ?_
            intro w5 hX5
            replace hX5 := calm_world hX5
            rw [← HTA.out, ← HTB.out]
            have HL5 := Lib.hid (HL4.out.ex hX5)
            have HR5 := Lib.hid (HR4.out.ex hX5)
            have HB5 := Lib.hid (HB4.out.trans hX5)
            clear hX5
            obtain ⟨z1, z2, z3⟩ := HSZ.out
            have HZ3 := Lib.hid z3
            clear z3
            go_wp2_with fail
            refine (concat_calls _ HR5.out HL5.out (by rw [HFL.out, HFR.out]; omega)).mono ?_
            rintro e w6 ⟨v6, rfl, ht6, hb6⟩
            have HT6 := Lib.hid ht6
            have HB6 := Lib.hid (HB5.out.trans hb6)
            have HF6 := Lib.hid (show flat (conc cr cl) = tb ++ ta from by rw [HGC.out.2, HFL.out, HFR.out])
            clear ht6 hb6
            have hsz6 : (tb ++ ta).size ≤ 100000 := by rw [HZ3.out]; omega
            go_wp2_with fail
            refine (text_at (tb ++ ta) _ HT6.out HF6.out hsz6).mono ?_
            rintro e w7 ⟨rfl, hb7⟩
            have HT7 := Lib.hid (HT6.out.ex hb7)
            have HB7 := Lib.hid (HB6.out.trans hb7)
            clear hb7
            go_wp2_with fail
            go_roundw
            case rel => exact ⟨k + 1, tb ++ ta, conc cr cl, by omega, by go_num, rfl, HZ3.out, HT7.out, HGC.out.1, HF6.out, HB7.out⟩
            case measure => simp [intOf]; omega
          · go_wp2_with fail
            refine (good_calls t _ HT.out (by omega) HG.out HF.out).mono ?_
            rintro e w3 ⟨rfl, hb3⟩
            have HB3 := Lib.hid (HB.out.trans hb3)
            clear hb3
            go_wp2_with fail
            refine (lives17_calls _).mono ?_
            rintro e w4 ⟨rfl, hb4⟩
            go_wp2_with fail
            go_ret
            exact ⟨rfl, HB3.out.trans hb4⟩
    · have d2 : decide ((30 : Int) < (l.length : Int)) = true := decide_eq_true (by omega)
      clear hr
      go_enter Try.func6, Try.ntmps6
      go_wp2_with fail
      refine (lives17_calls _).mono ?_
      rintro e w3 ⟨rfl, hb3⟩
      go_wp2_with fail
      go_ret
      exact ⟨rfl, hb3⟩
  · have d1 : decide ((600 : Int) < (s.size : Int)) = true := decide_eq_true (by omega)
    clear hr
    go_enter Try.func6, Try.ntmps6
    go_wp2_with fail
    refine (lives17_calls _).mono ?_
    rintro e w3 ⟨rfl, hb3⟩
    go_wp2_with fail
    go_ret
    exact ⟨rfl, hb3⟩
end Go.Proofs.Ytkckeogdijdohaa
