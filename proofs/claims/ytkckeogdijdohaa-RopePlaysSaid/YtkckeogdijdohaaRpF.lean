/- Walk: the statement RopePlays. -/
import Derived.Test.YtkckeogdijdohaaRpE
import Derived.Test.YtkckeogdijdohaaLwC
namespace Go.Proofs.Ytkckeogdijdohaa
open Go.RowKit
structure Op3 where
  pl : Int
  n : Int
  s : ByteArray
def Op3.cs (o : Op3) : List Value := [.int .i64 o.pl, .int .i64 o.n, .string o.s]
theorem ops_get {l : List Op3} {k : Nat} {x : Op3} (h : l[k]? = some x) : (l.flatMap Op3.cs)[k * 3]? = some (.int .i64 x.pl) ∧ (l.flatMap Op3.cs)[k * 3 + 1]? = some (.int .i64 x.n) ∧ (l.flatMap Op3.cs)[k * 3 + 2]? = some (.string x.s) :=
  ⟨(flat_get Op3.cs 3 (fun _ => rfl) l k x 0 h (by decide)).trans rfl, (flat_get Op3.cs 3 (fun _ => rfl) l k x 1 h (by decide)).trans rfl, (flat_get Op3.cs 3 (fun _ => rfl) l k x 2 h (by decide)).trans rfl⟩
theorem Row.op3 {w : World} {A : Option Addr} {n : Nat} {l : List Op3} (h : Row w 3 A n (l.flatMap Op3.cs)) {k : Nat} (hk : k < l.length) : ∃ b o, A = some ⟨b, o, none⟩ ∧ w.cell? ⟨b, o + k * 3, none⟩ = some (.int .i64 l[k].pl) ∧ w.cell? ⟨b, o + k * 3 + 1, none⟩ = some (.int .i64 l[k].n) ∧ w.cell? ⟨b, o + k * 3 + 2, none⟩ = some (.string l[k].s) := by
  have hn := h.1
  rw [flat_len Op3.cs 3 (fun _ => rfl)] at hn
  obtain ⟨b, o, e, hc⟩ := h.2 (by omega)
  obtain ⟨g0, g1, g2⟩ := ops_get (List.getElem?_eq_getElem hk)
  exact ⟨b, o, e, hc _ _ g0, hc _ _ g1, hc _ _ g2⟩
theorem Row.op3_len {w : World} {A : Option Addr} {n : Nat} {l : List Op3} (h : Row w 3 A n (l.flatMap Op3.cs)) : l.length = n := by
  have hn := h.1
  rw [flat_len Op3.cs 3 (fun _ => rfl)] at hn
  omega
theorem insT_size {s x t : ByteArray} {p : Int} (h : insT s p x = (0, t)) : t.size ≤ 4096 := by
  unfold insT at h
  repeat' split at h
  all_goals (injection h with h1 h2)
  all_goals first | omega | skip
  rw [← h2, ByteArray.size_append, ByteArray.size_append, ByteArray.size_extract, ByteArray.size_extract]
  next h3 _ _ _ =>
    have := inB_iff.1 (by simpa using h3 : inB s p 0 = true)
    omega
theorem delT_size {s t : ByteArray} {p n : Int} (h : delT s p n = (0, t)) : t.size ≤ s.size := by
  unfold delT at h
  repeat' split at h
  all_goals (injection h with h1 h2)
  all_goals first | omega | skip
  rw [← h2, ByteArray.size_append, ByteArray.size_extract, ByteArray.size_extract]
  next h3 _ _ =>
    have := inB_iff.1 (by simpa using h3 : inB s p n = true)
    omega
set_option maxRecDepth 100000 in
set_option maxHeartbeats 4000000 in
theorem ropePlays_calls (s : ByteArray) (A : Option Addr) (n c : Nat) (l : List Op3) (w : World) (hr : Row w 3 A n (l.flatMap Op3.cs)) : Calls Try.prog 9 #[.string s, .slice A n c] w fun e w' => e = .returned (.bool true) ∧ Ex w w' := by
  have hln := hr.op3_len
  subst hln
  by_cases h1 : s.size ≤ 600
  · have d1 : decide ((600 : Int) < (s.size : Int)) = false := decide_eq_false (by omega)
    by_cases h2 : l.length ≤ 20
    · have d2 : decide ((20 : Int) < (l.length : Int)) = false := decide_eq_false (by omega)
      cases hv : validU s
      · have HV := Lib.hid hv
        clear hv hr
        go_enter Try.func9, Try.ntmps9
        go_wp2_with fail
        refine (rof_form s _ (by omega) HV.out).mono ?_
        rintro e w1 ⟨rfl, hb1⟩
        go_wp2_with fail
        refine (refValid_calls s _ (by omega)).mono ?_
        rintro e w2 ⟨rfl, hb2⟩
        rw [HV.out]
        go_wp2_with fail
        refine (lives18_calls _).mono ?_
        rintro e w3 ⟨rfl, hb3⟩
        go_wp2_with fail
        go_ret
        exact ⟨rfl, (hb1.trans hb2).trans hb3⟩
      · have HV := Lib.hid hv
        have HR := Lib.hid hr
        clear hv hr
        go_enter Try.func9, Try.ntmps9
        go_wp2_with fail
        refine (rof_calls s _ (by omega) HV.out).mono ?_
        rintro e w1 ⟨g1, rfl, hr1, hb1⟩
        have HR1 := Lib.hid hr1
        have HB1 := Lib.hid hb1
        have hsz1 : s.size ≤ 4096 := by omega
        clear hr1 hb1
        go_wp2_with fail
        go_loopw [0, 5, 7, 8, 9, 10, 11, 12] (fun v0 v5 v7 _ _ _ _ _ wr => ∃ (k : Nat) (t : ByteArray), k ≤ l.length ∧ v7 = .int .i64 (k : Int) ∧ v0 = .string t ∧ t.size ≤ 4096 ∧ Rp wr v5 t ∧ Ex w wr) (fun _ _ v7 _ _ _ _ _ _ => l.length - (intOf v7).toNat)
        case atStart => exact ⟨0, s, by omega, rfl, rfl, hsz1, HR1.out, HB1.out⟩
        case round =>
          clear HR1 HB1
          obtain ⟨k, t, hk, rfl, rfl, hts, hrp, hb⟩ := hrel
          have HRP := Lib.hid hrp
          clear hrp
          by_cases hlt : k < l.length
          · obtain ⟨b, o, rfl, hc0, hc1, hc2⟩ := (HR.out.ex hb).op3 hlt
            generalize l[k] = q at hc0 hc1 hc2
            obtain ⟨pl, n, x⟩ := q
            have hc0 : wr.cell? ⟨b, o + k * 3, none⟩ = some (.int .i64 pl) := hc0
            have hc1 : wr.cell? ⟨b, o + k * 3 + 1, none⟩ = some (.int .i64 n) := hc1
            have hc2 : wr.cell? ⟨b, o + k * 3 + 2, none⟩ = some (.string x) := hc2
            have HK0 := Lib.hid (Blk.new wr [.int .i64 pl, .int .i64 n, .string x] 49)
            have HX0 := Lib.hid (ex_alloc (Ex.refl wr) (.cells #[.int .i64 pl, .int .i64 n, .string x] 49))
            have HBX := Lib.hid (Ex.trans hb HX0.out)
            have HRP0 := Lib.hid (HRP.out.ex HX0.out)
            by_cases hx : x.size ≤ 600
            · have d3 : decide ((600 : Int) < (x.size : Int)) = false := decide_eq_false (by omega)
              have m0 : (wr.alloc (.cells #[.int .i64 pl, .int .i64 n, .string x] 49)).cell? ⟨wr.heap.size, 0, none⟩ = some (.int .i64 pl) := by have := HK0.out.cell 0; exact this
              have m1 : (wr.alloc (.cells #[.int .i64 pl, .int .i64 n, .string x] 49)).cell? ⟨wr.heap.size, 1, none⟩ = some (.int .i64 n) := by have := HK0.out.cell 1; exact this
              have m2 : (wr.alloc (.cells #[.int .i64 pl, .int .i64 n, .string x] 49)).cell? ⟨wr.heap.size, 2, none⟩ = some (.string x) := by have := HK0.out.cell 2; exact this
              obtain ⟨E, hE⟩ : ∃ E, E = (delT t pl n).1 := ⟨_, rfl⟩
              obtain ⟨T, hT⟩ : ∃ T, T = (delT t pl n).2 := ⟨_, rfl⟩
              have HRD := Lib.hid (fun w => by have := refDelete_calls t pl n w hts; rw [← hE, ← hT] at this; exact this)
              have HDE := Lib.hid (show delT t pl n = (E, T) from by rw [hE, hT])
              clear hE hT
              by_cases hn : n = 0
              · subst hn
                obtain ⟨E2, hE2⟩ : ∃ E2, E2 = (insT t pl x).1 := ⟨_, rfl⟩
                obtain ⟨T2, hT2⟩ : ∃ T2, T2 = (insT t pl x).2 := ⟨_, rfl⟩
                have HRI := Lib.hid (fun w => by have := refInsert_calls t x pl w hts (by omega); rw [← hE2, ← hT2] at this; exact this)
                have HIE := Lib.hid (show insT t pl x = (E2, T2) from by rw [hE2, hT2])
                clear hE2 hT2
                by_cases hE0 : E2 = 0
                · have HIE0 := Lib.hid (show insT t pl x = (0, T2) from by rw [HIE.out, hE0])
                  have hTz : T2.size ≤ 4096 := insT_size HIE0.out
                  subst hE0
                  go_wp2_with fail
                  refine (HRD.out _).mono ?_
                  rintro e w2 ⟨rfl, hb2⟩
                  have HB2 := Lib.hid hb2
                  have m0 := hb2.cell m0
                  have m1 := hb2.cell m1
                  have m2 := hb2.cell m2
                  have HRP2 := Lib.hid (HRP0.out.ex hb2)
                  clear hb2
                  go_wp2_with fail
                  refine (delete_any t pl 0 _ HRP2.out hts).mono ?_
                  rintro e w3 ⟨u3, i3, rfl, hb3⟩
                  have HB3 := Lib.hid ((HBX.out.trans HB2.out).trans hb3)
                  have m0 := hb3.cell m0
                  have m1 := hb3.cell m1
                  have m2 := hb3.cell m2
                  have HRP3 := Lib.hid (HRP2.out.ex hb3)
                  clear hb3
                  go_wp2_with fail
                  refine (HRI.out _).mono ?_
                  rintro e w4 ⟨rfl, hb4⟩
                  have HB4 := Lib.hid (HB3.out.trans hb4)
                  have m0 := hb4.cell m0
                  have m1 := hb4.cell m1
                  have m2 := hb4.cell m2
                  have HRP4 := Lib.hid (HRP3.out.ex hb4)
                  clear hb4
                  go_wp2_with fail
                  refine (insert_ok (t := T2) _ HRP4.out hts (by omega) HIE0.out).mono ?_
                  rintro e w5 ⟨g5, rfl, hr5, hb5⟩
                  have HR5 := Lib.hid hr5
                  clear hr5
                  have HRPn := Lib.hid (HRP4.out.ex hb5)
                  have HBn := Lib.hid (HB4.out.trans hb5)
                  clear hb5 m0 m1 m2
                  go_wp2_with fail
                  refine (rtext_calls t _ HRPn.out (by omega)).mono ?_
                  rintro e w6 ⟨rfl, hb6⟩
                  have HB6 := Lib.hid hb6
                  clear hb6
                  go_wp2_with fail
                  refine (good18_calls T2 _ (HR5.out.ex HB6.out) (by omega)).mono ?_
                  rintro e w7 ⟨rfl, hb7⟩
                  have HRF := Lib.hid ((HR5.out.ex HB6.out).ex hb7)
                  have HBF := Lib.hid ((HBn.out.trans HB6.out).trans hb7)
                  clear hb7
                  go_wp2_with fail
                  go_roundw
                  case rel => exact ⟨k + 1, T2, by omega, by go_num, rfl, hTz, HRF.out, HBF.out⟩
                  case measure => simp [intOf]; omega
                · have e1 : (E2 == 0) = false := beq_eq_false_iff_ne.2 hE0
                  have e2 : (E2 != 0) = true := bne_iff_ne.2 hE0
                  go_wp2_with fail
                  refine (HRD.out _).mono ?_
                  rintro e w2 ⟨rfl, hb2⟩
                  have HB2 := Lib.hid hb2
                  have m0 := hb2.cell m0
                  have m1 := hb2.cell m1
                  have m2 := hb2.cell m2
                  have HRP2 := Lib.hid (HRP0.out.ex hb2)
                  clear hb2
                  go_wp2_with fail
                  refine (delete_any t pl 0 _ HRP2.out hts).mono ?_
                  rintro e w3 ⟨u3, i3, rfl, hb3⟩
                  have HB3 := Lib.hid ((HBX.out.trans HB2.out).trans hb3)
                  have m0 := hb3.cell m0
                  have m1 := hb3.cell m1
                  have m2 := hb3.cell m2
                  have HRP3 := Lib.hid (HRP2.out.ex hb3)
                  clear hb3
                  go_wp2_with fail
                  refine (HRI.out _).mono ?_
                  rintro e w4 ⟨rfl, hb4⟩
                  have HB4 := Lib.hid (HB3.out.trans hb4)
                  have m0 := hb4.cell m0
                  have m1 := hb4.cell m1
                  have m2 := hb4.cell m2
                  have HRP4 := Lib.hid (HRP3.out.ex hb4)
                  clear hb4
                  go_wp2_with fail
                  refine (insert_no (n := E2) _ HRP4.out hts (by omega) (by rw [HIE.out]) hE0).mono ?_
                  rintro e w5 ⟨rfl, hb5⟩
                  have HRPn := Lib.hid (HRP4.out.ex hb5)
                  have HBn := Lib.hid (HB4.out.trans hb5)
                  clear hb5 m0 m1 m2
                  go_wp2_with fail
                  refine (rtext_calls t _ HRPn.out (by omega)).mono ?_
                  rintro e w6 ⟨rfl, hb6⟩
                  have HB6 := Lib.hid hb6
                  clear hb6
                  go_wp2_with fail
                  refine (good18_calls t _ (HRPn.out.ex HB6.out) (by omega)).mono ?_
                  rintro e w7 ⟨rfl, hb7⟩
                  have HRF := Lib.hid ((HRPn.out.ex HB6.out).ex hb7)
                  have HBF := Lib.hid ((HBn.out.trans HB6.out).trans hb7)
                  clear hb7
                  go_wp2_with fail
                  go_roundw
                  case rel => exact ⟨k + 1, t, by omega, by go_num, rfl, hts, HRF.out, HBF.out⟩
                  case measure => simp [intOf]; omega
              · have n0 : (n == 0) = false := beq_eq_false_iff_ne.2 hn
                by_cases hE0 : E = 0
                · have HDE0 := Lib.hid (show delT t pl n = (0, T) from by rw [HDE.out, hE0])
                  have hTz : T.size ≤ 4096 := Nat.le_trans (delT_size HDE0.out) hts
                  subst hE0
                  go_wp2_with fail
                  refine (HRD.out _).mono ?_
                  rintro e w2 ⟨rfl, hb2⟩
                  have HB2 := Lib.hid hb2
                  have m0 := hb2.cell m0
                  have m1 := hb2.cell m1
                  have m2 := hb2.cell m2
                  have HRP2 := Lib.hid (HRP0.out.ex hb2)
                  clear hb2
                  go_wp2_with fail
                  refine (delete_ok (t := T) _ HRP2.out hts HDE0.out).mono ?_
                  rintro e w3 ⟨g3, rfl, hr3, hb3⟩
                  have HR3 := Lib.hid hr3
                  clear hr3
                  have HB3 := Lib.hid ((HBX.out.trans HB2.out).trans hb3)
                  have m0 := hb3.cell m0
                  have m1 := hb3.cell m1
                  have m2 := hb3.cell m2
                  have HRP3 := Lib.hid (HRP2.out.ex hb3)
                  clear hb3
                  have HRPn := Lib.hid HRP3.out
                  have HBn := Lib.hid HB3.out
                  go_wp2_with fail
                  refine (rtext_calls t _ HRPn.out (by omega)).mono ?_
                  rintro e w6 ⟨rfl, hb6⟩
                  have HB6 := Lib.hid hb6
                  clear hb6
                  go_wp2_with fail
                  refine (good18_calls T _ (HR3.out.ex HB6.out) (by omega)).mono ?_
                  rintro e w7 ⟨rfl, hb7⟩
                  have HRF := Lib.hid ((HR3.out.ex HB6.out).ex hb7)
                  have HBF := Lib.hid ((HBn.out.trans HB6.out).trans hb7)
                  clear hb7
                  go_wp2_with fail
                  go_roundw
                  case rel => exact ⟨k + 1, T, by omega, by go_num, rfl, hTz, HRF.out, HBF.out⟩
                  case measure => simp [intOf]; omega
                · have e1 : (E == 0) = false := beq_eq_false_iff_ne.2 hE0
                  have e2 : (E != 0) = true := bne_iff_ne.2 hE0
                  go_wp2_with fail
                  refine (HRD.out _).mono ?_
                  rintro e w2 ⟨rfl, hb2⟩
                  have HB2 := Lib.hid hb2
                  have m0 := hb2.cell m0
                  have m1 := hb2.cell m1
                  have m2 := hb2.cell m2
                  have HRP2 := Lib.hid (HRP0.out.ex hb2)
                  clear hb2
                  go_wp2_with fail
                  refine (delete_no (m := E) _ HRP2.out hts (by rw [HDE.out]) hE0).mono ?_
                  rintro e w3 ⟨rfl, hb3⟩
                  have HB3 := Lib.hid ((HBX.out.trans HB2.out).trans hb3)
                  have m0 := hb3.cell m0
                  have m1 := hb3.cell m1
                  have m2 := hb3.cell m2
                  have HRP3 := Lib.hid (HRP2.out.ex hb3)
                  clear hb3
                  have HRPn := Lib.hid HRP3.out
                  have HBn := Lib.hid HB3.out
                  go_wp2_with fail
                  refine (rtext_calls t _ HRPn.out (by omega)).mono ?_
                  rintro e w6 ⟨rfl, hb6⟩
                  have HB6 := Lib.hid hb6
                  clear hb6
                  go_wp2_with fail
                  refine (good18_calls t _ (HRPn.out.ex HB6.out) (by omega)).mono ?_
                  rintro e w7 ⟨rfl, hb7⟩
                  have HRF := Lib.hid ((HRPn.out.ex HB6.out).ex hb7)
                  have HBF := Lib.hid ((HBn.out.trans HB6.out).trans hb7)
                  clear hb7
                  go_wp2_with fail
                  go_roundw
                  case rel => exact ⟨k + 1, t, by omega, by go_num, rfl, hts, HRF.out, HBF.out⟩
                  case measure => simp [intOf]; omega
            · have d3 : decide ((600 : Int) < (x.size : Int)) = true := decide_eq_true (by omega)
              go_wp2_with fail
              refine (lives18_calls _).mono ?_
              rintro e w3 ⟨rfl, hb3⟩
              go_wp2_with fail
              go_ret
              exact ⟨rfl, HBX.out.trans hb3⟩
          · go_wp2_with fail
            refine (lives18_calls _).mono ?_
            rintro e w4 ⟨rfl, hb4⟩
            go_wp2_with fail
            go_ret
            exact ⟨rfl, hb.trans hb4⟩
    · have d2 : decide ((20 : Int) < (l.length : Int)) = true := decide_eq_true (by omega)
      clear hr
      go_enter Try.func9, Try.ntmps9
      go_wp2_with fail
      refine (lives18_calls _).mono ?_
      rintro e w3 ⟨rfl, hb3⟩
      go_wp2_with fail
      go_ret
      exact ⟨rfl, hb3⟩
  · have d1 : decide ((600 : Int) < (s.size : Int)) = true := decide_eq_true (by omega)
    clear hr
    go_enter Try.func9, Try.ntmps9
    go_wp2_with fail
    refine (lives18_calls _).mono ?_
    rintro e w3 ⟨rfl, hb3⟩
    go_wp2_with fail
    go_ret
    exact ⟨rfl, hb3⟩
end Go.Proofs.Ytkckeogdijdohaa
