/- Walks: a disk: Sync, Cut, Rename, Remove. -/
import Derived.Test.YtcffkmlnbnjibaaGreatDkF
namespace Go.Proofs.YtcffkmlnbnjibaaGreat
open Go.RowKit Go.Maps
namespace DkV
def rename (Q : DkV) (s b : ByteArray) : DkV × Int :=
  if Q.fu.off = true then (Q, 14) else if (findM s Q.fo.now).2 = false then (Q, 8) else if mayB b = false then (Q, 7) else
    if (Q.ask false).2 = 0 then ({ (Q.ask false).1 with fo := (Q.fo.move s b).1 }, 0) else Q.ask false
def remove (Q : DkV) (s : ByteArray) : DkV × Int :=
  if Q.fu.off = true then (Q, 14) else if (findM s Q.fo.now).2 = false then (Q, 8) else
    if (Q.ask false).2 = 0 then ({ (Q.ask false).1 with fo := (Q.fo.drop s).1 }, 0) else Q.ask false
end DkV
theorem do_ids {q : FoV} {c : Chg} {x : Int} (h : x ∈ (q.doC c).ids) : x ∈ q.ids ∨ (c.pu = true ∧ c.id = x) := by
  rw [FoV.ids_mem] at h
  rcases h with h | ⟨d, hd, h1, h2⟩
  · exact .inl ((q.ids_mem x).2 (.inl h))
  · unfold FoV.doC at hd
    rcases List.mem_append.1 hd with hd | hd
    · exact .inl ((q.ids_mem x).2 (.inr ⟨d, hd, h1, h2⟩))
    · rcases List.mem_cons.1 hd with rfl | hd
      · exact .inr ⟨h1, h2⟩
      · cases hd
theorem cut_in {t : TpV} {n : Int} (h : ¬ t.cutOk n = false) : 0 ≤ n ∧ n ≤ (t.nw.size : Int) := by
  unfold TpV.cutOk at h
  rw [decide_eq_false_iff_not, Classical.not_not] at h
  exact h
theorem cut_out {t : TpV} {n : Int} (h : t.cutOk n = false) : n < 0 ∨ (0 ≤ n ∧ (t.nw.size : Int) < n) := by
  unfold TpV.cutOk at h
  rw [decide_eq_false_iff_not] at h
  omega
theorem drop_ids {q : FoV} {s : ByteArray} {x : Int} (h : x ∈ (q.drop s).1.ids) : x ∈ q.ids := by
  unfold FoV.drop at h
  split at h
  · rcases do_ids h with h | ⟨h, _⟩
    · exact h
    · cases h
  · exact h
theorem move_ids {q : FoV} {a b : ByteArray} {x : Int} (h : x ∈ (q.move a b).1.ids) : x ∈ q.ids := by
  unfold FoV.move at h
  split at h
  · rename_i hf
    split at h
    · exact h
    · rcases do_ids h with h | ⟨_, h⟩
      · exact h
      · rw [← h]; exact FoV.found_ids hf
  · exact h
set_option maxHeartbeats 2000000 in
theorem dsync_calls {w : World} {g : Nat} {F : Nat → Prop} {Q : DkV} (h : DkP w g F Q) {M : Nat} (ho : Q.Ok M) (hM : M ≤ 800000) (s : ByteArray) (hs : s.size ≤ 9223372036854775807) :
    Calls Tryz.prog 14 #[ptrV g, .string s] w fun e w' => e = .returned (.int .i64 (Q.syncT s).2) ∧ DkP w' g (Fresh F w w') (Q.syncT s).1 ∧ Off F w w' := by
  obtain ⟨tm, fg, fz, FF, l, tb, h⟩ := h
  have HR := Lib.hid h
  have HO := Lib.hid ho
  clear h ho
  cases hf : Q.fu.off
  · have HF := Lib.hid hf
    cases hn : (findM s Q.fo.now).2
    · have HN := Lib.hid hn
      have HE := Lib.hid (show Q.syncT s = (Q, 8) from by unfold DkV.syncT; rw [if_neg (by rw [hf]; decide), if_pos hn])
      go_enter Tryz.func14, Tryz.ntmps14
      go_wp2_with fail
      refine (dfind_none s hs HR.out HF.out HN.out).mono ?_
      rintro e w1 ⟨rfl, hb1⟩
      have HX := Lib.hid hb1
      go_wp2_with fail
      go_ret
      exact ⟨by rw [HE.out]; rfl, by rw [HE.out]; exact ⟨_, _, _, _, _, _, (HR.out.ex HX.out).more Fresh.same⟩, HX.out.off F⟩
    · have HN := Lib.hid hn
      have hid : Q.idOf s ∈ Q.fo.ids := FoV.found_ids hn
      have HT := Lib.hid (HR.out.tape hid)
      have HI := Lib.hid hid
      have HTZ := Lib.hid (HO.out.tz _ HT.out.at.2)
      obtain ⟨e0, he0⟩ : ∃ e0, e0 = (Q.ask true).2 := ⟨_, rfl⟩
      have HE0 := Lib.hid he0
      have HA := Lib.hid (ask_ok HO.out true)
      by_cases hz : e0 = 0
      · have HE := Lib.hid (show Q.syncT s = ((Q.ask true).1.setT (Q.idOf s) ⟨(Q.tapeAt (Q.idOf s)).nw, (Q.tapeAt (Q.idOf s)).nw⟩, 0) from by unfold DkV.syncT; rw [if_neg (by rw [hf]; decide), if_neg (by rw [hn]; decide), if_pos (by rw [← he0]; exact hz)])
        subst hz
        clear hf hn he0 hid
        go_enter Tryz.func14, Tryz.ntmps14
        go_wp2_with fail
        refine (dfind_some s hs HR.out HO.out (by omega) HF.out HN.out).mono ?_
        rintro e w1 ⟨rfl, hb1⟩
        have HX := Lib.hid hb1
        clear hb1
        rw [show (findM s Q.fo.now).1 = Q.idOf s from rfl]
        go_wp2_with fail
        refine (dsyncf_calls (HR.out.ex HX.out) HO.out (by omega)).mono ?_
        rintro e w5 ⟨rfl, hR5, hO5⟩
        have HR5 := Lib.hid hR5
        have HO5 := Lib.hid hO5
        clear hR5 hO5
        have c4 : w5.cell? ⟨g, 4, none⟩ = some (ptrV fg) := by rw [HR5.out.blk.cell]; rfl
        rw [← HE0.out]
        go_wp2_with fail
        refine (tsync_calls (HR5.out.tape HI.out).at.1).mono ?_
        rintro e w6 ⟨rfl, hB6, hO6⟩
        rw [show (Q.ask true).1.tapeAt (Q.idOf s) = Q.tapeAt (Q.idOf s) from rfl] at hB6
        have HR6 := Lib.hid (HR5.out.set_ HI.out hO6 hB6)
        have HO6 := Lib.hid (HR5.out.off_set_ HI.out hO6)
        clear hB6 hO6
        go_wp2_with fail
        go_ret
        exact ⟨by rw [HE.out]; rfl, by rw [HE.out]; exact ⟨_, _, _, _, _, _, HR6.out.more Fresh.same⟩, ((HX.out.off F).trans HO5.out).trans HO6.out⟩
      · have HE := Lib.hid (show Q.syncT s = Q.ask true from by unfold DkV.syncT; rw [if_neg (by rw [hf]; decide), if_neg (by rw [hn]; decide), if_neg (by rw [← he0]; exact hz)])
        have z1 : decide (e0 = 0) = false := decide_eq_false hz
        have z2 : (e0 == 0) = false := by rw [beq_eq_false_iff_ne]; exact hz
        clear hf hn he0 hid hz
        go_enter Tryz.func14, Tryz.ntmps14
        go_wp2_with fail
        refine (dfind_some s hs HR.out HO.out (by omega) HF.out HN.out).mono ?_
        rintro e w1 ⟨rfl, hb1⟩
        have HX := Lib.hid hb1
        clear hb1
        rw [show (findM s Q.fo.now).1 = Q.idOf s from rfl]
        go_wp2_with fail
        refine (dsyncf_calls (HR.out.ex HX.out) HO.out (by omega)).mono ?_
        rintro e w5 ⟨rfl, hR5, hO5⟩
        have HR5 := Lib.hid hR5
        have HO5 := Lib.hid hO5
        clear hR5 hO5
        have c4 : w5.cell? ⟨g, 4, none⟩ = some (ptrV fg) := by rw [HR5.out.blk.cell]; rfl
        rw [← HE0.out]
        go_wp2_with fail
        go_ret
        exact ⟨by rw [HE.out, ← HE0.out]; rfl, by rw [HE.out]; exact ⟨_, _, _, _, _, _, HR5.out.more Fresh.same⟩, (HX.out.off F).trans HO5.out⟩
  · have HF := Lib.hid hf
    have HE := Lib.hid (show Q.syncT s = (Q, 14) from by unfold DkV.syncT; rw [if_pos hf])
    go_enter Tryz.func14, Tryz.ntmps14
    go_wp2_with fail
    refine (dfind_down s HR.out HF.out).mono ?_
    rintro e w1 ⟨rfl, hb1⟩
    have HX := Lib.hid hb1
    go_wp2_with fail
    go_ret
    exact ⟨by rw [HE.out]; rfl, by rw [HE.out]; exact ⟨_, _, _, _, _, _, (HR.out.ex HX.out).more Fresh.same⟩, HX.out.off F⟩
set_option maxHeartbeats 2000000 in
theorem dcut_calls {w : World} {g : Nat} {F : Nat → Prop} {Q : DkV} (h : DkP w g F Q) {M : Nat} (ho : Q.Ok M) (hM : M ≤ 800000) (s : ByteArray) (n : Int) (hs : s.size ≤ 9223372036854775807) :
    Calls Tryz.prog 13 #[ptrV g, .string s, .int .i64 n] w fun e w' => e = .returned (.int .i64 (Q.cutT s n).2) ∧ DkP w' g (Fresh F w w') (Q.cutT s n).1 ∧ Off F w w' := by
  obtain ⟨tm, fg, fz, FF, l, tb, h⟩ := h
  have HR := Lib.hid h
  have HO := Lib.hid ho
  clear h ho
  cases hf : Q.fu.off
  · have HF := Lib.hid hf
    cases hn : (findM s Q.fo.now).2
    · have HN := Lib.hid hn
      have HE := Lib.hid (show Q.cutT s n = (Q, 8) from by unfold DkV.cutT; rw [if_neg (by rw [hf]; decide), if_pos hn])
      go_enter Tryz.func13, Tryz.ntmps13
      go_wp2_with fail
      refine (dfind_none s hs HR.out HF.out HN.out).mono ?_
      rintro e w1 ⟨rfl, hb1⟩
      have HX := Lib.hid hb1
      go_wp2_with fail
      go_ret
      exact ⟨by rw [HE.out]; rfl, by rw [HE.out]; exact ⟨_, _, _, _, _, _, (HR.out.ex HX.out).more Fresh.same⟩, HX.out.off F⟩
    · have HN := Lib.hid hn
      have hid : Q.idOf s ∈ Q.fo.ids := FoV.found_ids hn
      have HT := Lib.hid (HR.out.tape hid)
      have HI := Lib.hid hid
      have HTZ := Lib.hid (HO.out.tz _ HT.out.at.2)
      by_cases hq : (Q.tapeAt (Q.idOf s)).cutOk n = false
      · have hq2 := cut_out hq
        rcases hq2 with hq2 | hq2
        · have tok : True := trivial
          have HE := Lib.hid (show Q.cutT s n = (Q, 3) from by unfold DkV.cutT; rw [if_neg (by rw [hf]; decide), if_neg (by rw [hn]; decide), if_pos hq])
          go_enter Tryz.func13, Tryz.ntmps13
          go_wp2_with fail
          refine (dfind_some s hs HR.out HO.out (by omega) HF.out HN.out).mono ?_
          rintro e w1 ⟨rfl, hb1⟩
          have HX := Lib.hid hb1
          clear hb1
          rw [show (findM s Q.fo.now).1 = Q.idOf s from rfl]
          go_wp2_with fail
          go_ret
          exact ⟨by rw [HE.out]; rfl, by rw [HE.out]; exact ⟨_, _, _, _, _, _, (HR.out.ex HX.out).more Fresh.same⟩, HX.out.off F⟩
        · obtain ⟨n1, n2⟩ := hq2
          have m1 : ¬ n < 0 := by omega
          have HE := Lib.hid (show Q.cutT s n = (Q, 3) from by unfold DkV.cutT; rw [if_neg (by rw [hf]; decide), if_neg (by rw [hn]; decide), if_pos hq])
          go_enter Tryz.func13, Tryz.ntmps13
          go_wp2_with fail
          refine (dfind_some s hs HR.out HO.out (by omega) HF.out HN.out).mono ?_
          rintro e w1 ⟨rfl, hb1⟩
          have HX := Lib.hid hb1
          clear hb1
          rw [show (findM s Q.fo.now).1 = Q.idOf s from rfl]
          go_wp2_with fail
          refine (tnow_calls ((HR.out.ex HX.out).tape HI.out).at.1).mono ?_
          rintro e w2 ⟨rfl, hb2⟩
          have HX2 := Lib.hid (HX.out.trans hb2)
          clear HX hb2
          have HX := HX2
          clear HX2
          go_wp2_with fail
          go_ret
          exact ⟨by rw [HE.out]; rfl, by rw [HE.out]; exact ⟨_, _, _, _, _, _, (HR.out.ex HX.out).more Fresh.same⟩, HX.out.off F⟩
      · have hq2 := cut_in hq
        have n1 : 0 ≤ n := hq2.1
        have n2 : n ≤ ((Q.tapeAt (Q.idOf s)).nw.size : Int) := hq2.2
        have m1 : ¬ n < 0 := by omega
        have m2 : ¬ ((Q.tapeAt (Q.idOf s)).nw.size : Int) < n := by omega
        clear hq2
        obtain ⟨e0, he0⟩ : ∃ e0, e0 = (Q.ask false).2 := ⟨_, rfl⟩
        have HE0 := Lib.hid he0
        have HA := Lib.hid (ask_ok HO.out false)
        by_cases hz : e0 = 0
        · have HE := Lib.hid (show Q.cutT s n = ((Q.ask false).1.setT (Q.idOf s) ((Q.tapeAt (Q.idOf s)).cut n), 0) from by unfold DkV.cutT; rw [if_neg (by rw [hf]; decide), if_neg (by rw [hn]; decide), if_neg hq, if_pos (by rw [← he0]; exact hz)])
          subst hz
          clear hf hn he0 hid
          go_enter Tryz.func13, Tryz.ntmps13
          go_wp2_with fail
          refine (dfind_some s hs HR.out HO.out (by omega) HF.out HN.out).mono ?_
          rintro e w1 ⟨rfl, hb1⟩
          have HX := Lib.hid hb1
          clear hb1
          rw [show (findM s Q.fo.now).1 = Q.idOf s from rfl]
          go_wp2_with fail
          refine (tnow_calls ((HR.out.ex HX.out).tape HI.out).at.1).mono ?_
          rintro e w2 ⟨rfl, hb2⟩
          have HX2 := Lib.hid (HX.out.trans hb2)
          clear HX hb2
          have HX := HX2
          clear HX2
          go_wp2_with fail
          refine (dput_calls (HR.out.ex HX.out) HO.out (by omega)).mono ?_
          rintro e w5 ⟨rfl, hR5, hO5⟩
          have HR5 := Lib.hid hR5
          have HO5 := Lib.hid hO5
          clear hR5 hO5
          have c4 : w5.cell? ⟨g, 4, none⟩ = some (ptrV fg) := by rw [HR5.out.blk.cell]; rfl
          rw [← HE0.out]
          go_wp2_with fail
          refine (tcut_calls n (HR5.out.tape HI.out).at.1).mono ?_
          rintro e w6 ⟨rfl, hB6, hO6⟩
          rw [show (Q.ask false).1.tapeAt (Q.idOf s) = Q.tapeAt (Q.idOf s) from rfl] at hB6
          have HR6 := Lib.hid (HR5.out.set_ HI.out hO6 hB6)
          have HO6 := Lib.hid (HR5.out.off_set_ HI.out hO6)
          clear hB6 hO6
          go_wp2_with fail
          go_ret
          exact ⟨by rw [HE.out]; rfl, by rw [HE.out]; exact ⟨_, _, _, _, _, _, HR6.out.more Fresh.same⟩, ((HX.out.off F).trans HO5.out).trans HO6.out⟩
        · have HE := Lib.hid (show Q.cutT s n = Q.ask false from by unfold DkV.cutT; rw [if_neg (by rw [hf]; decide), if_neg (by rw [hn]; decide), if_neg hq, if_neg (by rw [← he0]; exact hz)])
          have z1 : decide (e0 = 0) = false := decide_eq_false hz
          have z2 : (e0 == 0) = false := by rw [beq_eq_false_iff_ne]; exact hz
          clear hf hn he0 hid hz
          go_enter Tryz.func13, Tryz.ntmps13
          go_wp2_with fail
          refine (dfind_some s hs HR.out HO.out (by omega) HF.out HN.out).mono ?_
          rintro e w1 ⟨rfl, hb1⟩
          have HX := Lib.hid hb1
          clear hb1
          rw [show (findM s Q.fo.now).1 = Q.idOf s from rfl]
          go_wp2_with fail
          refine (tnow_calls ((HR.out.ex HX.out).tape HI.out).at.1).mono ?_
          rintro e w2 ⟨rfl, hb2⟩
          have HX2 := Lib.hid (HX.out.trans hb2)
          clear HX hb2
          have HX := HX2
          clear HX2
          go_wp2_with fail
          refine (dput_calls (HR.out.ex HX.out) HO.out (by omega)).mono ?_
          rintro e w5 ⟨rfl, hR5, hO5⟩
          have HR5 := Lib.hid hR5
          have HO5 := Lib.hid hO5
          clear hR5 hO5
          have c4 : w5.cell? ⟨g, 4, none⟩ = some (ptrV fg) := by rw [HR5.out.blk.cell]; rfl
          rw [← HE0.out]
          go_wp2_with fail
          go_ret
          exact ⟨by rw [HE.out, ← HE0.out]; rfl, by rw [HE.out]; exact ⟨_, _, _, _, _, _, HR5.out.more Fresh.same⟩, (HX.out.off F).trans HO5.out⟩
  · have HF := Lib.hid hf
    have HE := Lib.hid (show Q.cutT s n = (Q, 14) from by unfold DkV.cutT; rw [if_pos hf])
    go_enter Tryz.func13, Tryz.ntmps13
    go_wp2_with fail
    refine (dfind_down s HR.out HF.out).mono ?_
    rintro e w1 ⟨rfl, hb1⟩
    have HX := Lib.hid hb1
    go_wp2_with fail
    go_ret
    exact ⟨by rw [HE.out]; rfl, by rw [HE.out]; exact ⟨_, _, _, _, _, _, (HR.out.ex HX.out).more Fresh.same⟩, HX.out.off F⟩
set_option maxHeartbeats 2000000 in
theorem drename_calls {w : World} {g : Nat} {F : Nat → Prop} {Q : DkV} (h : DkP w g F Q) {M : Nat} (ho : Q.Ok M) (hM : M ≤ 800000) (s b : ByteArray) (hs : s.size ≤ 9223372036854775807) (hsb : b.size ≤ 9223372036854775807) :
    Calls Tryz.prog 15 #[ptrV g, .string s, .string b] w fun e w' => e = .returned (.int .i64 (Q.rename s b).2) ∧ DkP w' g (Fresh F w w') (Q.rename s b).1 ∧ Off F w w' := by
  obtain ⟨tm, fg, fz, FF, l, tb, h⟩ := h
  have HR := Lib.hid h
  have HO := Lib.hid ho
  clear h ho
  cases hf : Q.fu.off
  · have HF := Lib.hid hf
    cases hn : (findM s Q.fo.now).2
    · have HN := Lib.hid hn
      have HE := Lib.hid (show Q.rename s b = (Q, 8) from by unfold DkV.rename; rw [if_neg (by rw [hf]; decide), if_pos hn])
      go_enter Tryz.func15, Tryz.ntmps15
      go_wp2_with fail
      refine (dfind_none s hs HR.out HF.out HN.out).mono ?_
      rintro e w1 ⟨rfl, hb1⟩
      have HX := Lib.hid hb1
      go_wp2_with fail
      go_ret
      exact ⟨by rw [HE.out]; rfl, by rw [HE.out]; exact ⟨_, _, _, _, _, _, (HR.out.ex HX.out).more Fresh.same⟩, HX.out.off F⟩
    · have HN := Lib.hid hn
      have hid : Q.idOf s ∈ Q.fo.ids := FoV.found_ids hn
      have HT := Lib.hid (HR.out.tape hid)
      have HI := Lib.hid hid
      have HTZ := Lib.hid (HO.out.tz _ HT.out.at.2)
      by_cases hq : mayB b = false
      · have HMB := Lib.hid hq
        have HE := Lib.hid (show Q.rename s b = (Q, 7) from by unfold DkV.rename; rw [if_neg (by rw [hf]; decide), if_neg (by rw [hn]; decide), if_pos hq])
        go_enter Tryz.func15, Tryz.ntmps15
        go_wp2_with fail
        refine (dfind_some s hs HR.out HO.out (by omega) HF.out HN.out).mono ?_
        rintro e w1 ⟨rfl, hb1⟩
        have HX := Lib.hid hb1
        clear hb1
        rw [show (findM s Q.fo.now).1 = Q.idOf s from rfl]
        go_wp2_with fail
        refine (may_calls b _).mono ?_
        rintro e w2 ⟨rfl, hb2⟩
        rw [HMB.out]
        have HX2 := Lib.hid (HX.out.trans hb2)
        clear HX hb2
        have HX := HX2
        clear HX2
        go_wp2_with fail
        go_ret
        exact ⟨by rw [HE.out]; rfl, by rw [HE.out]; exact ⟨_, _, _, _, _, _, (HR.out.ex HX.out).more Fresh.same⟩, HX.out.off F⟩
      · have HMB : Hid (mayB b = true) := by have hq' := hq; cases h : mayB b; exact absurd h hq'; exact rfl
        obtain ⟨e0, he0⟩ : ∃ e0, e0 = (Q.ask false).2 := ⟨_, rfl⟩
        have HE0 := Lib.hid he0
        have HA := Lib.hid (ask_ok HO.out false)
        by_cases hz : e0 = 0
        · have HE := Lib.hid (show Q.rename s b = ({ (Q.ask false).1 with fo := (Q.fo.move s b).1 }, 0) from by unfold DkV.rename; rw [if_neg (by rw [hf]; decide), if_neg (by rw [hn]; decide), if_neg hq, if_pos (by rw [← he0]; exact hz)])
          subst hz
          clear hf hn he0 hid
          go_enter Tryz.func15, Tryz.ntmps15
          go_wp2_with fail
          refine (dfind_some s hs HR.out HO.out (by omega) HF.out HN.out).mono ?_
          rintro e w1 ⟨rfl, hb1⟩
          have HX := Lib.hid hb1
          clear hb1
          rw [show (findM s Q.fo.now).1 = Q.idOf s from rfl]
          go_wp2_with fail
          refine (may_calls b _).mono ?_
          rintro e w2 ⟨rfl, hb2⟩
          rw [HMB.out]
          have HX2 := Lib.hid (HX.out.trans hb2)
          clear HX hb2
          have HX := HX2
          clear HX2
          go_wp2_with fail
          refine (dput_calls (HR.out.ex HX.out) HO.out (by omega)).mono ?_
          rintro e w5 ⟨rfl, hR5, hO5⟩
          have HR5 := Lib.hid hR5
          have HO5 := Lib.hid hO5
          clear hR5 hO5
          have c4 : w5.cell? ⟨g, 4, none⟩ = some (ptrV fg) := by rw [HR5.out.blk.cell]; rfl
          rw [← HE0.out]
          go_wp2_with fail
          refine (fomove_calls s b hs hsb HO.out.fo (by omega) HR5.out.fob).mono ?_
          rintro e w6 ⟨rfl, hF6, hO6⟩
          have HF6 := Lib.hid hF6
          have HO6 := Lib.hid hO6
          clear hF6 hO6
          go_wp2_with fail
          go_ret
          have z1 := HX.out.size
          have z2 := HO5.out.size
          refine ⟨by rw [HE.out]; rfl, ?_, ((HX.out.off F).trans HO5.out).then HO6.out (fun k _ hk => HR5.out.sub k hk)⟩
          rw [HE.out]
          exact ⟨_, _, _, _, _, _, (HR5.out.fo_ HO6.out HF6.out (fun id hid => HR5.out.co id (move_ids hid))).more (Fresh.sub (Nat.le_trans z1 z2))⟩
        · have HE := Lib.hid (show Q.rename s b = Q.ask false from by unfold DkV.rename; rw [if_neg (by rw [hf]; decide), if_neg (by rw [hn]; decide), if_neg hq, if_neg (by rw [← he0]; exact hz)])
          have z1 : decide (e0 = 0) = false := decide_eq_false hz
          have z2 : (e0 == 0) = false := by rw [beq_eq_false_iff_ne]; exact hz
          clear hf hn he0 hid hz
          go_enter Tryz.func15, Tryz.ntmps15
          go_wp2_with fail
          refine (dfind_some s hs HR.out HO.out (by omega) HF.out HN.out).mono ?_
          rintro e w1 ⟨rfl, hb1⟩
          have HX := Lib.hid hb1
          clear hb1
          rw [show (findM s Q.fo.now).1 = Q.idOf s from rfl]
          go_wp2_with fail
          refine (may_calls b _).mono ?_
          rintro e w2 ⟨rfl, hb2⟩
          rw [HMB.out]
          have HX2 := Lib.hid (HX.out.trans hb2)
          clear HX hb2
          have HX := HX2
          clear HX2
          go_wp2_with fail
          refine (dput_calls (HR.out.ex HX.out) HO.out (by omega)).mono ?_
          rintro e w5 ⟨rfl, hR5, hO5⟩
          have HR5 := Lib.hid hR5
          have HO5 := Lib.hid hO5
          clear hR5 hO5
          have c4 : w5.cell? ⟨g, 4, none⟩ = some (ptrV fg) := by rw [HR5.out.blk.cell]; rfl
          rw [← HE0.out]
          go_wp2_with fail
          go_ret
          exact ⟨by rw [HE.out, ← HE0.out]; rfl, by rw [HE.out]; exact ⟨_, _, _, _, _, _, HR5.out.more Fresh.same⟩, (HX.out.off F).trans HO5.out⟩
  · have HF := Lib.hid hf
    have HE := Lib.hid (show Q.rename s b = (Q, 14) from by unfold DkV.rename; rw [if_pos hf])
    go_enter Tryz.func15, Tryz.ntmps15
    go_wp2_with fail
    refine (dfind_down s HR.out HF.out).mono ?_
    rintro e w1 ⟨rfl, hb1⟩
    have HX := Lib.hid hb1
    go_wp2_with fail
    go_ret
    exact ⟨by rw [HE.out]; rfl, by rw [HE.out]; exact ⟨_, _, _, _, _, _, (HR.out.ex HX.out).more Fresh.same⟩, HX.out.off F⟩
set_option maxHeartbeats 2000000 in
theorem dremove_calls {w : World} {g : Nat} {F : Nat → Prop} {Q : DkV} (h : DkP w g F Q) {M : Nat} (ho : Q.Ok M) (hM : M ≤ 800000) (s : ByteArray) (hs : s.size ≤ 9223372036854775807) :
    Calls Tryz.prog 16 #[ptrV g, .string s] w fun e w' => e = .returned (.int .i64 (Q.remove s).2) ∧ DkP w' g (Fresh F w w') (Q.remove s).1 ∧ Off F w w' := by
  obtain ⟨tm, fg, fz, FF, l, tb, h⟩ := h
  have HR := Lib.hid h
  have HO := Lib.hid ho
  clear h ho
  cases hf : Q.fu.off
  · have HF := Lib.hid hf
    cases hn : (findM s Q.fo.now).2
    · have HN := Lib.hid hn
      have HE := Lib.hid (show Q.remove s = (Q, 8) from by unfold DkV.remove; rw [if_neg (by rw [hf]; decide), if_pos hn])
      go_enter Tryz.func16, Tryz.ntmps16
      go_wp2_with fail
      refine (dfind_none s hs HR.out HF.out HN.out).mono ?_
      rintro e w1 ⟨rfl, hb1⟩
      have HX := Lib.hid hb1
      go_wp2_with fail
      go_ret
      exact ⟨by rw [HE.out]; rfl, by rw [HE.out]; exact ⟨_, _, _, _, _, _, (HR.out.ex HX.out).more Fresh.same⟩, HX.out.off F⟩
    · have HN := Lib.hid hn
      have hid : Q.idOf s ∈ Q.fo.ids := FoV.found_ids hn
      have HT := Lib.hid (HR.out.tape hid)
      have HI := Lib.hid hid
      have HTZ := Lib.hid (HO.out.tz _ HT.out.at.2)
      obtain ⟨e0, he0⟩ : ∃ e0, e0 = (Q.ask false).2 := ⟨_, rfl⟩
      have HE0 := Lib.hid he0
      have HA := Lib.hid (ask_ok HO.out false)
      by_cases hz : e0 = 0
      · have HE := Lib.hid (show Q.remove s = ({ (Q.ask false).1 with fo := (Q.fo.drop s).1 }, 0) from by unfold DkV.remove; rw [if_neg (by rw [hf]; decide), if_neg (by rw [hn]; decide), if_pos (by rw [← he0]; exact hz)])
        subst hz
        clear hf hn he0 hid
        go_enter Tryz.func16, Tryz.ntmps16
        go_wp2_with fail
        refine (dfind_some s hs HR.out HO.out (by omega) HF.out HN.out).mono ?_
        rintro e w1 ⟨rfl, hb1⟩
        have HX := Lib.hid hb1
        clear hb1
        rw [show (findM s Q.fo.now).1 = Q.idOf s from rfl]
        go_wp2_with fail
        refine (dput_calls (HR.out.ex HX.out) HO.out (by omega)).mono ?_
        rintro e w5 ⟨rfl, hR5, hO5⟩
        have HR5 := Lib.hid hR5
        have HO5 := Lib.hid hO5
        clear hR5 hO5
        have c4 : w5.cell? ⟨g, 4, none⟩ = some (ptrV fg) := by rw [HR5.out.blk.cell]; rfl
        rw [← HE0.out]
        go_wp2_with fail
        refine (fodrop_calls s hs HO.out.fo (by omega) HR5.out.fob).mono ?_
        rintro e w6 ⟨rfl, hF6, hO6⟩
        have HF6 := Lib.hid hF6
        have HO6 := Lib.hid hO6
        clear hF6 hO6
        go_wp2_with fail
        go_ret
        have z1 := HX.out.size
        have z2 := HO5.out.size
        refine ⟨by rw [HE.out]; rfl, ?_, ((HX.out.off F).trans HO5.out).then HO6.out (fun k _ hk => HR5.out.sub k hk)⟩
        rw [HE.out]
        exact ⟨_, _, _, _, _, _, (HR5.out.fo_ HO6.out HF6.out (fun id hid => HR5.out.co id (drop_ids hid))).more (Fresh.sub (Nat.le_trans z1 z2))⟩
      · have HE := Lib.hid (show Q.remove s = Q.ask false from by unfold DkV.remove; rw [if_neg (by rw [hf]; decide), if_neg (by rw [hn]; decide), if_neg (by rw [← he0]; exact hz)])
        have z1 : decide (e0 = 0) = false := decide_eq_false hz
        have z2 : (e0 == 0) = false := by rw [beq_eq_false_iff_ne]; exact hz
        clear hf hn he0 hid hz
        go_enter Tryz.func16, Tryz.ntmps16
        go_wp2_with fail
        refine (dfind_some s hs HR.out HO.out (by omega) HF.out HN.out).mono ?_
        rintro e w1 ⟨rfl, hb1⟩
        have HX := Lib.hid hb1
        clear hb1
        rw [show (findM s Q.fo.now).1 = Q.idOf s from rfl]
        go_wp2_with fail
        refine (dput_calls (HR.out.ex HX.out) HO.out (by omega)).mono ?_
        rintro e w5 ⟨rfl, hR5, hO5⟩
        have HR5 := Lib.hid hR5
        have HO5 := Lib.hid hO5
        clear hR5 hO5
        have c4 : w5.cell? ⟨g, 4, none⟩ = some (ptrV fg) := by rw [HR5.out.blk.cell]; rfl
        rw [← HE0.out]
        go_wp2_with fail
        go_ret
        exact ⟨by rw [HE.out, ← HE0.out]; rfl, by rw [HE.out]; exact ⟨_, _, _, _, _, _, HR5.out.more Fresh.same⟩, (HX.out.off F).trans HO5.out⟩
  · have HF := Lib.hid hf
    have HE := Lib.hid (show Q.remove s = (Q, 14) from by unfold DkV.remove; rw [if_pos hf])
    go_enter Tryz.func16, Tryz.ntmps16
    go_wp2_with fail
    refine (dfind_down s HR.out HF.out).mono ?_
    rintro e w1 ⟨rfl, hb1⟩
    have HX := Lib.hid hb1
    go_wp2_with fail
    go_ret
    exact ⟨by rw [HE.out]; rfl, by rw [HE.out]; exact ⟨_, _, _, _, _, _, (HR.out.ex HX.out).more Fresh.same⟩, HX.out.off F⟩
end Go.Proofs.YtcffkmlnbnjibaaGreat
