/- Walks: the statements WeldOfs, WeldConcats, WeldSplits. -/
import Derived.Test.YtkckeogdijdohaaLwA
namespace Go.Proofs.Ytkckeogdijdohaa
open Go.RowKit
theorem of_not (s : ByteArray) (w : World) (hs : s.size ≤ 100000) (hv : validU s = false) : Calls Try.prog 12 #[.string s] w fun e w' => e = .returned (.pointer none) ∧ Ex w w' := by
  go_enter Try.func12, Try.ntmps12
  go_wp2_with fail
  refine (cut_not s _ hs hv).mono ?_
  rintro e w1 ⟨rfl, hb1⟩
  go_wp2_with fail
  go_loopw [3, 5, 9] (fun v3 _ v9 wr => v3 = .slice none 0 0 ∧ v9 = .int .i64 0 ∧ Ex w wr) (fun _ _ _ _ => 0)
  case atStart => exact ⟨rfl, rfl, hb1⟩
  case round =>
    obtain ⟨rfl, rfl, hb⟩ := hrel
    go_wp2_with fail
    refine (up_nil _ _ _).mono ?_
    rintro e w2 ⟨rfl, rfl⟩
    go_wp2_with fail
    go_ret
    exact ⟨rfl, hb⟩
set_option maxRecDepth 100000 in
set_option maxHeartbeats 400000 in
theorem weldOfs_calls (s : ByteArray) (w : World) : Calls Try.prog 3 #[.string s] w fun e w' => e = .returned (.bool true) ∧ Ex w w' := by
  by_cases h : s.size ≤ 1500
  · have d1 : decide ((1500 : Int) < (s.size : Int)) = false := decide_eq_false (by omega)
    cases hv : validU s
    · have HV := Lib.hid hv
      clear hv
      go_enter Try.func3, Try.ntmps3
      go_wp2_with fail
      refine (of_not s _ (by omega) HV.out).mono ?_
      rintro e w1 ⟨rfl, hb1⟩
      go_wp2_with fail
      refine (refValid_calls s _ (by omega)).mono ?_
      rintro e w2 ⟨rfl, hb2⟩
      rw [HV.out]
      go_wp2_with fail
      refine (lives17_calls _).mono ?_
      rintro e w3 ⟨rfl, hb3⟩
      go_wp2_with fail
      go_ret
      exact ⟨rfl, (hb1.trans hb2).trans hb3⟩
    · have HV := Lib.hid hv
      clear hv
      go_enter Try.func3, Try.ntmps3
      go_wp2_with fail
      refine (of_calls s _ (by omega) HV.out).mono ?_
      rintro e w1 ⟨cs, hg, hf, v, rfl, ht, hb1⟩
      have HG := Lib.hid hg
      have HF := Lib.hid hf
      have HT := Lib.hid ht
      have HB1 := Lib.hid hb1
      clear hg hf ht hb1
      go_wp2_with fail
      refine (refValid_calls s _ (by omega)).mono ?_
      rintro e w2 ⟨rfl, hb2⟩
      rw [HV.out]
      have HB2 := Lib.hid (HB1.out.trans hb2)
      have HT2 := Lib.hid (HT.out.ex hb2)
      clear hb2
      go_wp2_with fail
      refine (good_calls s _ HT2.out (by omega) HG.out HF.out).mono ?_
      rintro e w3 ⟨rfl, hb3⟩
      have HB3 := Lib.hid (HB2.out.trans hb3)
      clear hb3
      go_wp2_with fail
      refine (lives17_calls _).mono ?_
      rintro e w4 ⟨rfl, hb4⟩
      go_wp2_with fail
      go_ret
      exact ⟨rfl, HB3.out.trans hb4⟩
  · have d1 : decide ((1500 : Int) < (s.size : Int)) = true := decide_eq_true (by omega)
    clear h
    go_enter Try.func3, Try.ntmps3
    go_wp2_with fail
    refine (lives17_calls _).mono ?_
    rintro e w3 ⟨rfl, hb3⟩
    go_wp2_with fail
    go_ret
    exact ⟨rfl, hb3⟩
set_option maxRecDepth 100000 in
set_option maxHeartbeats 400000 in
theorem weldConcats_calls (a b : ByteArray) (w : World) : Calls Try.prog 4 #[.string a, .string b] w fun e w' => e = .returned (.bool true) ∧ Ex w w' := by
  by_cases h1 : a.size ≤ 1500
  · have d1 : decide ((1500 : Int) < (a.size : Int)) = false := decide_eq_false (by omega)
    by_cases h2 : b.size ≤ 1500
    · have d2 : decide ((1500 : Int) < (b.size : Int)) = false := decide_eq_false (by omega)
      cases hva : validU a
      · have HV := Lib.hid hva
        clear hva
        go_enter Try.func4, Try.ntmps4
        go_wp2_with fail
        refine (refValid_calls a _ (by omega)).mono ?_
        rintro e w1 ⟨rfl, hb1⟩
        rw [HV.out]
        go_wp2_with fail
        refine (lives17_calls _).mono ?_
        rintro e w3 ⟨rfl, hb3⟩
        go_wp2_with fail
        go_ret
        exact ⟨rfl, hb1.trans hb3⟩
      · have HV := Lib.hid hva
        clear hva
        cases hvb : validU b
        · have HW := Lib.hid hvb
          clear hvb
          go_enter Try.func4, Try.ntmps4
          go_wp2_with fail
          refine (refValid_calls a _ (by omega)).mono ?_
          rintro e w1 ⟨rfl, hb1⟩
          rw [HV.out]
          go_wp2_with fail
          refine (refValid_calls b _ (by omega)).mono ?_
          rintro e w2 ⟨rfl, hb2⟩
          rw [HW.out]
          go_wp2_with fail
          refine (lives17_calls _).mono ?_
          rintro e w3 ⟨rfl, hb3⟩
          go_wp2_with fail
          go_ret
          exact ⟨rfl, (hb1.trans hb2).trans hb3⟩
        · have HW := Lib.hid hvb
          have HAB := Lib.hid (show (a ++ b).size ≤ 100000 from by rw [ByteArray.size_append]; omega)
          clear hvb
          go_enter Try.func4, Try.ntmps4
          go_wp2_with fail
          refine (refValid_calls a _ (by omega)).mono ?_
          rintro e w1 ⟨rfl, hb1⟩
          rw [HV.out]
          have HB1 := Lib.hid hb1
          clear hb1
          go_wp2_with fail
          refine (refValid_calls b _ (by omega)).mono ?_
          rintro e w2 ⟨rfl, hb2⟩
          rw [HW.out]
          have HB2 := Lib.hid (HB1.out.trans hb2)
          clear hb2
          go_wp2_with fail
          refine (of_calls a _ (by omega) HV.out).mono ?_
          rintro e w3 ⟨ca, hga, hfa, va, rfl, hta, hb3⟩
          have HGA := Lib.hid hga
          have HFA := Lib.hid hfa
          have HTA := Lib.hid hta
          have HB3 := Lib.hid (HB2.out.trans hb3)
          clear hga hfa hta hb3
          go_wp2_with fail
          refine (of_calls b _ (by omega) HW.out).mono ?_
          rintro e w4 ⟨cb, hgb, hfb, vb, rfl, htb, hb4⟩
          have HGB := Lib.hid hgb
          have HFB := Lib.hid hfb
          have HTB := Lib.hid htb
          have HTA4 := Lib.hid (HTA.out.ex hb4)
          have HB4 := Lib.hid (HB3.out.trans hb4)
          have HGC := Lib.hid (conc_good HGA.out hgb)
          clear hgb hfb htb hb4
          go_wp2_with fail
          refine (concat_calls _ HTA4.out HTB.out (by rw [HFA.out, HFB.out]; omega)).mono ?_
          rintro e w5 ⟨v5, rfl, ht5, hb5⟩
          have HT5 := Lib.hid ht5
          have HB5 := Lib.hid (HB4.out.trans hb5)
          clear ht5 hb5
          go_wp2_with fail
          refine (good_calls (a ++ b) _ HT5.out HAB.out HGC.out.1 (by rw [HGC.out.2, HFA.out, HFB.out])).mono ?_
          rintro e w6 ⟨rfl, hb6⟩
          have HB6 := Lib.hid (HB5.out.trans hb6)
          clear hb6
          go_wp2_with fail
          refine (lives17_calls _).mono ?_
          rintro e w7 ⟨rfl, hb7⟩
          go_wp2_with fail
          go_ret
          exact ⟨rfl, HB6.out.trans hb7⟩
    · have d2 : decide ((1500 : Int) < (b.size : Int)) = true := decide_eq_true (by omega)
      go_enter Try.func4, Try.ntmps4
      go_wp2_with fail
      refine (lives17_calls _).mono ?_
      rintro e w3 ⟨rfl, hb3⟩
      go_wp2_with fail
      go_ret
      exact ⟨rfl, hb3⟩
  · have d1 : decide ((1500 : Int) < (a.size : Int)) = true := decide_eq_true (by omega)
    go_enter Try.func4, Try.ntmps4
    go_wp2_with fail
    refine (lives17_calls _).mono ?_
    rintro e w3 ⟨rfl, hb3⟩
    go_wp2_with fail
    go_ret
    exact ⟨rfl, hb3⟩
set_option maxRecDepth 100000 in
set_option maxHeartbeats 400000 in
theorem weldSplits_calls (s : ByteArray) (p : Int) (w : World) (hp : p ≤ 9223372036854775807) : Calls Try.prog 5 #[.string s, .int .i64 p] w fun e w' => e = .returned (.bool true) ∧ Ex w w' := by
  by_cases h1 : s.size ≤ 1500
  · have d1 : decide ((1500 : Int) < (s.size : Int)) = false := decide_eq_false (by omega)
    cases hv : validU s
    · have HV := Lib.hid hv
      clear hv
      go_enter Try.func5, Try.ntmps5
      go_wp2_with fail
      refine (refValid_calls s _ (by omega)).mono ?_
      rintro e w1 ⟨rfl, hb1⟩
      rw [HV.out]
      go_wp2_with fail
      refine (lives17_calls _).mono ?_
      rintro e w3 ⟨rfl, hb3⟩
      go_wp2_with fail
      go_ret
      exact ⟨rfl, hb1.trans hb3⟩
    · have HV := Lib.hid hv
      have hbl := backU_le s p
      have HBK := Lib.hid (fun w => refBack_calls s p w (by omega))
      have HSP := Lib.hid (fun v cs w (x : Tr w v cs) (hz : (flat cs).size ≤ 100000) (hg : GoodL cs) (he : flat cs = s) => by have := wsplit_calls p w x hz hg hp; rw [he] at this; exact this)
      generalize backU s p = n at *
      have hni : (n : Int) ≤ (s.size : Int) := by omega
      have HZ1 := Lib.hid (show (s.extract 0 n).size ≤ 100000 from by rw [ByteArray.size_extract]; omega)
      have HZ2 := Lib.hid (show (s.extract n s.size).size ≤ 100000 from by rw [ByteArray.size_extract]; omega)
      clear hv
      go_enter Try.func5, Try.ntmps5
      go_wp2_with fail
      refine (refValid_calls s _ (by omega)).mono ?_
      rintro e w1 ⟨rfl, hb1⟩
      rw [HV.out]
      have HB1 := Lib.hid hb1
      clear hb1
      go_wp2_with fail
      refine (of_calls s _ (by omega) HV.out).mono ?_
      rintro e w2 ⟨cs, hg, hf, v, rfl, ht, hb2⟩
      have HG := Lib.hid hg
      have HF := Lib.hid hf
      have HT := Lib.hid ht
      have HB2 := Lib.hid (HB1.out.trans hb2)
      clear hg hf ht hb2
      go_wp2_with fail
      refine (HSP.out _ _ _ HT.out (by rw [HF.out]; omega) HG.out HF.out).mono ?_
      rintro e w3 ⟨l, r, cl, cr, rfl, hl, hr, hgl, hgr, hfl, hfr, hb3⟩
      have HL := Lib.hid hl
      have HR := Lib.hid hr
      have HGL := Lib.hid hgl
      have HGR := Lib.hid hgr
      have HFL := Lib.hid hfl
      have HFR := Lib.hid hfr
      have HB3 := Lib.hid (HB2.out.trans hb3)
      clear hl hr hgl hgr hfl hfr hb3
      go_wp2_with fail
      refine (HBK.out _).mono ?_
      rintro e w4 ⟨rfl, hb4⟩
      have HL4 := Lib.hid (HL.out.ex hb4)
      have HR4 := Lib.hid (HR.out.ex hb4)
      have HB4 := Lib.hid (HB3.out.trans hb4)
      clear hb4
      go_wp2_with fail
      refine (good_calls (s.extract 0 n) _ HL4.out HZ1.out HGL.out HFL.out).mono ?_
      rintro e w5 ⟨rfl, hb5⟩
      have HR5 := Lib.hid (HR4.out.ex hb5)
      have HB5 := Lib.hid (HB4.out.trans hb5)
      clear hb5
      go_wp2_with fail
      refine (good_calls (s.extract n s.size) _ HR5.out HZ2.out HGR.out HFR.out).mono ?_
      rintro e w6 ⟨rfl, hb6⟩
      have HB6 := Lib.hid (HB5.out.trans hb6)
      clear hb6
      go_wp2_with fail
      refine (lives17_calls _).mono ?_
      rintro e w7 ⟨rfl, hb7⟩
      go_wp2_with fail
      go_ret
      exact ⟨rfl, HB6.out.trans hb7⟩
  · have d1 : decide ((1500 : Int) < (s.size : Int)) = true := decide_eq_true (by omega)
    go_enter Try.func5, Try.ntmps5
    go_wp2_with fail
    refine (lives17_calls _).mono ?_
    rintro e w3 ⟨rfl, hb3⟩
    go_wp2_with fail
    go_ret
    exact ⟨rfl, hb3⟩
end Go.Proofs.Ytkckeogdijdohaa
