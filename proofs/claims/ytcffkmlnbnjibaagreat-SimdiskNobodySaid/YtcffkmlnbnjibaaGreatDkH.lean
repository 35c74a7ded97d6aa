/- Walks: a disk: Append, Read. -/
import Derived.Test.YtcffkmlnbnjibaaGreatDkG
namespace Go.Proofs.YtcffkmlnbnjibaaGreat
open Go.RowKit Go.Maps
/-- A tape with more bytes. -/
def TpV.plus (t : TpV) (x : ByteArray) : TpV := ⟨t.kp, t.nw ++ x⟩
/-- How many sectors are taken behind an append. -/
def DkV.after (Q : DkV) (s x : ByteArray) : Int := (Q.taken : Int) - (cntT (Q.tapeAt (Q.idOf s)) : Int) + (cntT ((Q.tapeAt (Q.idOf s)).plus x) : Int)
def DkV.append (Q : DkV) (s x : ByteArray) : DkV × Int :=
  if Q.fu.off = true then (Q, 14) else if (findM s Q.fo.now).2 = false then (Q, 8) else if Q.sec < Q.after s x then (Q, 12) else
    if (Q.ask false).2 = 0 then ((Q.ask false).1.setT (Q.idOf s) ((Q.tapeAt (Q.idOf s)).plus x), 0) else Q.ask false
def DkV.read (Q : DkV) (s : ByteArray) : ByteArray × Int :=
  if Q.fu.off = true then (⟨#[]⟩, 14) else if (findM s Q.fo.now).2 = false then (⟨#[]⟩, 8) else ((Q.tapeAt (Q.idOf s)).nw, 0)
theorem tsec_calls {w : World} {g : Nat} {t : TpV} (hB : Blk w g 148 t.cs) (h1 : t.kp.size ≤ 8000000) (h2 : t.nw.size ≤ 8000000) :
    Calls Tryz.prog 58 #[ptrV g] w fun e w' => e = .returned (.int .i64 (cntT t : Int)) ∧ Ex w w' := tsectors_calls hB h1 h2
set_option maxHeartbeats 2000000 in
set_option maxRecDepth 100000 in
theorem dappend_calls {w : World} {g : Nat} {F : Nat → Prop} {Q : DkV} (h : DkP w g F Q) {M : Nat} (ho : Q.Ok M) (hM : M ≤ 800000) (s x : ByteArray) (hs : s.size ≤ 9223372036854775807) (hx : x.size ≤ 1000000) :
    Calls Tryz.prog 12 #[ptrV g, .string s, .string x] w fun e w' => e = .returned (.int .i64 (Q.append s x).2) ∧ DkP w' g (Fresh F w w') (Q.append s x).1 ∧ Off F w w' := by
  obtain ⟨tm, fg, fz, FF, l, tb, h⟩ := h
  have HR := Lib.hid h
  have HO := Lib.hid ho
  clear h ho
  cases hf : Q.fu.off
  · have HF := Lib.hid hf
    cases hn : (findM s Q.fo.now).2
    · have HN := Lib.hid hn
      have HE := Lib.hid (show Q.append s x = (Q, 8) from by unfold DkV.append; rw [if_neg (by rw [hf]; decide), if_pos hn])
      clear hf hn
      go_enter Tryz.func12, Tryz.ntmps12
      go_wp2_with fail
      refine (dfind_none s hs HR.out HF.out HN.out).mono ?_
      rintro e w1 ⟨rfl, hb1⟩
      go_wp2_with fail
      go_ret
      exact ⟨by rw [HE.out]; rfl, by rw [HE.out]; exact ⟨_, _, _, _, _, _, (HR.out.ex hb1).more Fresh.same⟩, hb1.off F⟩
    · have HN := Lib.hid hn
      have hid : Q.idOf s ∈ Q.fo.ids := FoV.found_ids hn
      have HI := Lib.hid hid
      have HTZ := Lib.hid (HO.out.tz _ (HR.out.tape hid).at.2)
      have htk := sumT_le HO.out Q.fo.ids
      have hil := HR.out.ids_len
      have htl := HO.out.tl
      have hc1 : cntT (Q.tapeAt (Q.idOf s)) ≤ 4096 := cntT_le HTZ.out
      have hc2 : cntT ((Q.tapeAt (Q.idOf s)).plus x) ≤ 100000 := by
        have h1 := HTZ.out.1
        have h2 := HTZ.out.2
        unfold TpV.plus cntT cntS
        simp only [ByteArray.size_append]
        omega
      obtain ⟨tk, htk0⟩ : ∃ tk, tk = Q.taken := ⟨_, rfl⟩
      obtain ⟨c1, hc10⟩ : ∃ c1, c1 = cntT (Q.tapeAt (Q.idOf s)) := ⟨_, rfl⟩
      obtain ⟨c2, hc20⟩ : ∃ c2, c2 = cntT ((Q.tapeAt (Q.idOf s)).plus x) := ⟨_, rfl⟩
      have HTK := Lib.hid htk0
      have HC1 := Lib.hid hc10
      have HC2 := Lib.hid hc20
      have htk' : tk ≤ 4096000000 := by rw [htk0]; unfold DkV.taken; omega
      rw [← hc10] at hc1
      rw [← hc20] at hc2
      have hs1 := HO.out.s1
      have hs2 := HO.out.s2
      have hAf : Hid (Q.after s x = (tk : Int) - (c1 : Int) + (c2 : Int)) := by unfold Hid DkV.after; rw [htk0, hc10, hc20]
      have hw1 : IntKind.i64.wrap ((tk : Int) - (c1 : Int)) = (tk : Int) - (c1 : Int) := IntWalk.i64_in _ (by omega)
      have hw2 : IntKind.i64.wrap ((tk : Int) - (c1 : Int) + (c2 : Int)) = (tk : Int) - (c1 : Int) + (c2 : Int) := IntWalk.i64_in _ (by omega)
      clear htk hil htl htk0 hc10 hc20
      have HZ1 := Lib.hid (show (Q.tapeAt (Q.idOf s)).kp.size ≤ 8000000 from by have := HTZ.out.1; omega)
      have HZ2 := Lib.hid (show (Q.tapeAt (Q.idOf s)).nw.size ≤ 8000000 from by have := HTZ.out.2; omega)
      have HZ3 := Lib.hid (show ((Q.tapeAt (Q.idOf s)).nw ++ x).size ≤ 8000000 from by have := HTZ.out.2; rw [ByteArray.size_append]; omega)
      have hz22 : (Q.tapeAt (Q.idOf s)).nw.size ≤ 8000000 := HZ2.out
      by_cases hq : Q.sec < Q.after s x
      · have HE := Lib.hid (show Q.append s x = (Q, 12) from by unfold DkV.append; rw [if_neg (by rw [hf]; decide), if_neg (by rw [hn]; decide), if_pos hq])
        have d1 : decide (Q.sec < (tk : Int) - (c1 : Int) + (c2 : Int)) = true := decide_eq_true (by rw [← hAf.out]; exact hq)
        clear hf hn hid hq
        go_enter Tryz.func12, Tryz.ntmps12
        go_wp2_with fail
        refine (dfind_some s hs HR.out HO.out (by omega) HF.out HN.out).mono ?_
        rintro e w1 ⟨rfl, hb1⟩
        have HX := Lib.hid hb1
        clear hb1
        rw [show (findM s Q.fo.now).1 = Q.idOf s from rfl]
        go_wp2_with fail
        refine (tkept_calls ((HR.out.ex HX.out).tape HI.out).at.1).mono ?_
        rintro e w2 ⟨rfl, hb2⟩
        have HX2 := Lib.hid (HX.out.trans hb2)
        clear hb2
        go_wp2_with fail
        refine (tnow_calls ((HR.out.ex HX2.out).tape HI.out).at.1).mono ?_
        rintro e w3 ⟨rfl, hb3⟩
        have HX3 := Lib.hid (HX2.out.trans hb3)
        clear hb3
        go_wp2_with fail
        refine (tload_calls _ _ _).mono ?_
        rintro e w4 ⟨m, rfl, hm4, hB4, hb4⟩
        have HB4 := Lib.hid (show Blk w4 m 148 ((Q.tapeAt (Q.idOf s)).plus x).cs from hB4)
        have HX4 := Lib.hid (HX3.out.trans hb4)
        have HR4 := Lib.hid (HR.out.ex HX4.out)
        have q0 := Wd.cell (show w4.cell? ⟨g, 0, none⟩ = some (.int .i64 Q.sec) by rw [HR4.out.blk.cell]; rfl)
        clear hB4 hb4 hm4
        go_wp2_with fail
        have KT := Lib.hid (show ∀ y : Wd w4, Calls Tryz.prog 57 #[ptrV g] y.v fun e w' => e = .returned (.int .i64 (tk : Int)) ∧ Ex y.v w' from fun y => by rw [HTK.out]; exact dtaken_calls (HR4.out.ex y.ex) HO.out (by omega))
        have K1 := Lib.hid (show ∀ y : Wd w4, Calls Tryz.prog 58 #[ptrV (tb (Q.idOf s))] y.v fun e w' => e = .returned (.int .i64 (c1 : Int)) ∧ Ex y.v w' from fun y => by rw [HC1.out]; exact tsec_calls ((HR4.out.ex y.ex).tape HI.out).at.1 HZ1.out HZ2.out)
        have K2 := Lib.hid (show ∀ y : Wd w4, Calls Tryz.prog 58 #[ptrV m] y.v fun e w' => e = .returned (.int .i64 (c2 : Int)) ∧ Ex y.v w' from fun y => by rw [HC2.out]; exact tsec_calls (HB4.out.ex y.ex) HZ1.out HZ3.out)
        refine wp_region_calm (by kernel_rfl) (by kernel_rfl) ?_
        repeat (go_big_quiet_step ((first | (go_at_call 57; with_reducible exact calm_of (KT.out _)) | (go_at_call 58; with_reducible exact calm_of (K1.out _)) | (go_at_call 58; with_reducible exact calm_of (K2.out _)))))
        refine wpQuiet_nil ?_
        intro w5 hX5
        replace hX5 := calm_world hX5
        have HX5 := Lib.hid (HX4.out.trans hX5)
        clear hX5
        go_wp2_with fail
        go_ret
        exact ⟨by rw [HE.out]; rfl, by rw [HE.out]; exact ⟨_, _, _, _, _, _, (HR.out.ex HX5.out).more Fresh.same⟩, HX5.out.off F⟩
      · have d1 : decide (Q.sec < (tk : Int) - (c1 : Int) + (c2 : Int)) = false := decide_eq_false (by rw [← hAf.out]; exact hq)
        obtain ⟨e0, he0⟩ : ∃ e0, e0 = (Q.ask false).2 := ⟨_, rfl⟩
        have HE0 := Lib.hid he0
        by_cases hz : e0 = 0
        · have HE := Lib.hid (show Q.append s x = ((Q.ask false).1.setT (Q.idOf s) ((Q.tapeAt (Q.idOf s)).plus x), 0) from by unfold DkV.append; rw [if_neg (by rw [hf]; decide), if_neg (by rw [hn]; decide), if_neg hq, if_pos (by rw [← he0]; exact hz)])
          subst hz
          clear hf hn hid hq he0
          go_enter Tryz.func12, Tryz.ntmps12
          go_wp2_with fail
          refine (dfind_some s hs HR.out HO.out (by omega) HF.out HN.out).mono ?_
          rintro e w1 ⟨rfl, hb1⟩
          have HX := Lib.hid hb1
          clear hb1
          rw [show (findM s Q.fo.now).1 = Q.idOf s from rfl]
          go_wp2_with fail
          refine (tkept_calls ((HR.out.ex HX.out).tape HI.out).at.1).mono ?_
          rintro e w2 ⟨rfl, hb2⟩
          have HX2 := Lib.hid (HX.out.trans hb2)
          clear hb2
          go_wp2_with fail
          refine (tnow_calls ((HR.out.ex HX2.out).tape HI.out).at.1).mono ?_
          rintro e w3 ⟨rfl, hb3⟩
          have HX3 := Lib.hid (HX2.out.trans hb3)
          clear hb3
          go_wp2_with fail
          refine (tload_calls _ _ _).mono ?_
          rintro e w4 ⟨m, rfl, hm4, hB4, hb4⟩
          have HB4 := Lib.hid (show Blk w4 m 148 ((Q.tapeAt (Q.idOf s)).plus x).cs from hB4)
          have HX4 := Lib.hid (HX3.out.trans hb4)
          have HR4 := Lib.hid (HR.out.ex HX4.out)
          have q0 := Wd.cell (show w4.cell? ⟨g, 0, none⟩ = some (.int .i64 Q.sec) by rw [HR4.out.blk.cell]; rfl)
          clear hB4 hb4 hm4
          go_wp2_with fail
          have KT := Lib.hid (show ∀ y : Wd w4, Calls Tryz.prog 57 #[ptrV g] y.v fun e w' => e = .returned (.int .i64 (tk : Int)) ∧ Ex y.v w' from fun y => by rw [HTK.out]; exact dtaken_calls (HR4.out.ex y.ex) HO.out (by omega))
          have K1 := Lib.hid (show ∀ y : Wd w4, Calls Tryz.prog 58 #[ptrV (tb (Q.idOf s))] y.v fun e w' => e = .returned (.int .i64 (c1 : Int)) ∧ Ex y.v w' from fun y => by rw [HC1.out]; exact tsec_calls ((HR4.out.ex y.ex).tape HI.out).at.1 HZ1.out HZ2.out)
          have K2 := Lib.hid (show ∀ y : Wd w4, Calls Tryz.prog 58 #[ptrV m] y.v fun e w' => e = .returned (.int .i64 (c2 : Int)) ∧ Ex y.v w' from fun y => by rw [HC2.out]; exact tsec_calls (HB4.out.ex y.ex) HZ1.out HZ3.out)
          refine wp_region_calm (by kernel_rfl) (by kernel_rfl) ?_
          repeat (go_big_quiet_step ((first | (go_at_call 57; with_reducible exact calm_of (KT.out _)) | (go_at_call 58; with_reducible exact calm_of (K1.out _)) | (go_at_call 58; with_reducible exact calm_of (K2.out _)))))
          refine wpQuiet_nil ?_
          intro w5 hX5
          replace hX5 := calm_world hX5
          have HX5 := Lib.hid (HX4.out.trans hX5)
          clear hX5
          go_wp2_with fail
          refine (dput_calls (HR.out.ex HX5.out) HO.out (by omega)).mono ?_
          rintro e w6 ⟨rfl, hR6, hO6⟩
          have HR6 := Lib.hid hR6
          have HO6 := Lib.hid hO6
          clear hR6 hO6
          rw [← HE0.out]
          go_wp2_with fail
          refine (tappend_calls x (HR6.out.tape HI.out).at.1 HZ2.out (by omega)).mono ?_
          rintro e w7 ⟨rfl, hB7, hO7⟩
          rw [show (Q.ask false).1.tapeAt (Q.idOf s) = Q.tapeAt (Q.idOf s) from rfl] at hB7
          have HR7 := Lib.hid (HR6.out.set_ (t := (Q.tapeAt (Q.idOf s)).plus x) HI.out hO7 hB7)
          have HO7 := Lib.hid (HR6.out.off_set_ HI.out hO7)
          clear hB7 hO7
          go_wp2_with fail
          go_ret
          exact ⟨by rw [HE.out]; rfl, by rw [HE.out]; exact ⟨_, _, _, _, _, _, HR7.out.more Fresh.same⟩, ((HX5.out.off F).trans HO6.out).trans HO7.out⟩
        · have HE := Lib.hid (show Q.append s x = Q.ask false from by unfold DkV.append; rw [if_neg (by rw [hf]; decide), if_neg (by rw [hn]; decide), if_neg hq, if_neg (by rw [← he0]; exact hz)])
          have z1 : decide (e0 = 0) = false := decide_eq_false hz
          have z2 : (e0 == 0) = false := by rw [beq_eq_false_iff_ne]; exact hz
          clear hf hn hid hq he0 hz
          go_enter Tryz.func12, Tryz.ntmps12
          go_wp2_with fail
          refine (dfind_some s hs HR.out HO.out (by omega) HF.out HN.out).mono ?_
          rintro e w1 ⟨rfl, hb1⟩
          have HX := Lib.hid hb1
          clear hb1
          rw [show (findM s Q.fo.now).1 = Q.idOf s from rfl]
          go_wp2_with fail
          refine (tkept_calls ((HR.out.ex HX.out).tape HI.out).at.1).mono ?_
          rintro e w2 ⟨rfl, hb2⟩
          have HX2 := Lib.hid (HX.out.trans hb2)
          clear hb2
          go_wp2_with fail
          refine (tnow_calls ((HR.out.ex HX2.out).tape HI.out).at.1).mono ?_
          rintro e w3 ⟨rfl, hb3⟩
          have HX3 := Lib.hid (HX2.out.trans hb3)
          clear hb3
          go_wp2_with fail
          refine (tload_calls _ _ _).mono ?_
          rintro e w4 ⟨m, rfl, hm4, hB4, hb4⟩
          have HB4 := Lib.hid (show Blk w4 m 148 ((Q.tapeAt (Q.idOf s)).plus x).cs from hB4)
          have HX4 := Lib.hid (HX3.out.trans hb4)
          have HR4 := Lib.hid (HR.out.ex HX4.out)
          have q0 := Wd.cell (show w4.cell? ⟨g, 0, none⟩ = some (.int .i64 Q.sec) by rw [HR4.out.blk.cell]; rfl)
          clear hB4 hb4 hm4
          go_wp2_with fail
          have KT := Lib.hid (show ∀ y : Wd w4, Calls Tryz.prog 57 #[ptrV g] y.v fun e w' => e = .returned (.int .i64 (tk : Int)) ∧ Ex y.v w' from fun y => by rw [HTK.out]; exact dtaken_calls (HR4.out.ex y.ex) HO.out (by omega))
          have K1 := Lib.hid (show ∀ y : Wd w4, Calls Tryz.prog 58 #[ptrV (tb (Q.idOf s))] y.v fun e w' => e = .returned (.int .i64 (c1 : Int)) ∧ Ex y.v w' from fun y => by rw [HC1.out]; exact tsec_calls ((HR4.out.ex y.ex).tape HI.out).at.1 HZ1.out HZ2.out)
          have K2 := Lib.hid (show ∀ y : Wd w4, Calls Tryz.prog 58 #[ptrV m] y.v fun e w' => e = .returned (.int .i64 (c2 : Int)) ∧ Ex y.v w' from fun y => by rw [HC2.out]; exact tsec_calls (HB4.out.ex y.ex) HZ1.out HZ3.out)
          refine wp_region_calm (by kernel_rfl) (by kernel_rfl) ?_
          repeat (go_big_quiet_step ((first | (go_at_call 57; with_reducible exact calm_of (KT.out _)) | (go_at_call 58; with_reducible exact calm_of (K1.out _)) | (go_at_call 58; with_reducible exact calm_of (K2.out _)))))
          refine wpQuiet_nil ?_
          intro w5 hX5
          replace hX5 := calm_world hX5
          have HX5 := Lib.hid (HX4.out.trans hX5)
          clear hX5
          go_wp2_with fail
          refine (dput_calls (HR.out.ex HX5.out) HO.out (by omega)).mono ?_
          rintro e w6 ⟨rfl, hR6, hO6⟩
          have HR6 := Lib.hid hR6
          have HO6 := Lib.hid hO6
          clear hR6 hO6
          rw [← HE0.out]
          go_wp2_with fail
          go_ret
          exact ⟨by rw [HE.out, ← HE0.out]; rfl, by rw [HE.out]; exact ⟨_, _, _, _, _, _, HR6.out.more Fresh.same⟩, (HX5.out.off F).trans HO6.out⟩
  · have HF := Lib.hid hf
    have HE := Lib.hid (show Q.append s x = (Q, 14) from by unfold DkV.append; rw [if_pos hf])
    clear hf
    go_enter Tryz.func12, Tryz.ntmps12
    go_wp2_with fail
    refine (dfind_down s HR.out HF.out).mono ?_
    rintro e w1 ⟨rfl, hb1⟩
    go_wp2_with fail
    go_ret
    exact ⟨by rw [HE.out]; rfl, by rw [HE.out]; exact ⟨_, _, _, _, _, _, (HR.out.ex hb1).more Fresh.same⟩, hb1.off F⟩
theorem dread_calls {w : World} {g : Nat} {F : Nat → Prop} {Q : DkV} (h : DkP w g F Q) {M : Nat} (ho : Q.Ok M) (hM : M ≤ 800000) (s : ByteArray) (hs : s.size ≤ 9223372036854775807) :
    Calls Tryz.prog 9 #[ptrV g, .string s] w fun e w' => e = .returned (.tuple #[.string (Q.read s).1, .int .i64 (Q.read s).2]) ∧ Ex w w' := by
  obtain ⟨tm, fg, fz, FF, l, tb, h⟩ := h
  have HR := Lib.hid h
  have HO := Lib.hid ho
  clear h ho
  cases hf : Q.fu.off
  · have HF := Lib.hid hf
    cases hn : (findM s Q.fo.now).2
    · have HN := Lib.hid hn
      have HE := Lib.hid (show Q.read s = (⟨#[]⟩, 8) from by unfold DkV.read; rw [if_neg (by rw [hf]; decide), if_pos hn])
      clear hf hn
      go_enter Tryz.func9, Tryz.ntmps9
      go_wp2_with fail
      refine (dfind_none s hs HR.out HF.out HN.out).mono ?_
      rintro e w1 ⟨rfl, hb1⟩
      go_wp2_with fail
      go_ret2
      exact ⟨by rw [HE.out]; rfl, hb1⟩
    · have HN := Lib.hid hn
      have HI := Lib.hid (show Q.idOf s ∈ Q.fo.ids from FoV.found_ids hn)
      have HE := Lib.hid (show Q.read s = ((Q.tapeAt (Q.idOf s)).nw, 0) from by unfold DkV.read; rw [if_neg (by rw [hf]; decide), if_neg (by rw [hn]; decide)])
      clear hf hn
      go_enter Tryz.func9, Tryz.ntmps9
      go_wp2_with fail
      refine (dfind_some s hs HR.out HO.out (by omega) HF.out HN.out).mono ?_
      rintro e w1 ⟨rfl, hb1⟩
      rw [show (findM s Q.fo.now).1 = Q.idOf s from rfl]
      go_wp2_with fail
      refine (tnow_calls ((HR.out.ex hb1).tape HI.out).at.1).mono ?_
      rintro e w2 ⟨rfl, hb2⟩
      go_wp2_with fail
      go_ret2
      exact ⟨by rw [HE.out]; rfl, hb1.trans hb2⟩
  · have HF := Lib.hid hf
    have HE := Lib.hid (show Q.read s = (⟨#[]⟩, 14) from by unfold DkV.read; rw [if_pos hf])
    clear hf
    go_enter Tryz.func9, Tryz.ntmps9
    go_wp2_with fail
    refine (dfind_down s HR.out HF.out).mono ?_
    rintro e w1 ⟨rfl, hb1⟩
    go_wp2_with fail
    go_ret2
    exact ⟨by rw [HE.out]; rfl, hb1⟩
end Go.Proofs.YtcffkmlnbnjibaaGreat
