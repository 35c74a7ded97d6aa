/- Walks: a disk: Sync, Cut, Rename, Remove. -/
import Derived.Test.YtomfcgeibbicoaaGreatDk0
namespace Go.Proofs.YtomfcgeibbicoaaGreat
open Go.RowKit Go.Maps
namespace DkV
def rename (Q : DkV) (s b : ByteArray) : DkV × Int :=
  if Q.fu.off = true then (Q, 14) else if (findM s Q.fo.now).2 = false then (Q, 8) else if mayB b = false then (Q, 7) else
    if (Q.ask false).2 = 0 then ({ (Q.ask false).1 with fo := (Q.fo.move s b).1 }, 0) else Q.ask false
def remove (Q : DkV) (s : ByteArray) : DkV × Int :=
  if Q.fu.off = true then (Q, 14) else if (findM s Q.fo.now).2 = false then (Q, 8) else
    if (Q.ask false).2 = 0 then ({ (Q.ask false).1 with fo := (Q.fo.drop s).1 }, 0) else Q.ask false
end DkV
theorem do_ids {q : FoV} {c : Chg} {x : Int} (h : x ∈ (q.doC c).ids) : x ∈ q.ids ∨ (c.pu = true ∧ c.id = x) := by
  rw [FoV.ids_mem] at h
  rcases h with h | ⟨d, hd, h1, h2⟩
  · exact .inl ((q.ids_mem x).2 (.inl h))
  · unfold FoV.doC at hd
    rcases List.mem_append.1 hd with hd | hd
    · exact .inl ((q.ids_mem x).2 (.inr ⟨d, hd, h1, h2⟩))
    · rcases List.mem_cons.1 hd with rfl | hd
      · exact .inr ⟨h1, h2⟩
      · cases hd
theorem cut_in {t : TpV} {n : Int} (h : ¬ t.cutOk n = false) : 0 ≤ n ∧ n ≤ (t.nw.size : Int) := by
  unfold TpV.cutOk at h
  rw [decide_eq_false_iff_not, Classical.not_not] at h
  exact h
theorem cut_out {t : TpV} {n : Int} (h : t.cutOk n = false) : n < 0 ∨ (0 ≤ n ∧ (t.nw.size : Int) < n) := by
  unfold TpV.cutOk at h
  rw [decide_eq_false_iff_not] at h
  omega
theorem drop_ids {q : FoV} {s : ByteArray} {x : Int} (h : x ∈ (q.drop s).1.ids) : x ∈ q.ids := by
  unfold FoV.drop at h
  split at h
  · rcases do_ids h with h | ⟨h, _⟩
    · exact h
    · cases h
  · exact h
theorem move_ids {q : FoV} {a b : ByteArray} {x : Int} (h : x ∈ (q.move a b).1.ids) : x ∈ q.ids := by
  unfold FoV.move at h
  split at h
  · rename_i hf
    split at h
    · exact h
    · rcases do_ids h with h | ⟨_, h⟩
      · exact h
      · rw [← h]; exact FoV.found_ids hf
  · exact h
set_option maxHeartbeats 2000000 in
theorem dsync_calls {w : World} {g : Nat} {F : Nat → Prop} {Q : DkV} (h : DkP w g F Q) {M : Nat} (ho : Q.Ok M) (hM : M ≤ 800000) (s : ByteArray) (hs : s.size ≤ 9223372036854775807) :
    Calls Tryz.prog 86 #[ptrV g, .string s] w fun e w' => e = .returned (.int .i64 (Q.syncT s).2) ∧ DkP w' g (Fresh F w w') (Q.syncT s).1 ∧ Off F w w' := by
  obtain ⟨tm, fg, fz, FF, l, tb, h⟩ := h
  have HR := Lib.hid h
  have HO := Lib.hid ho
  clear h ho
  cases hf : Q.fu.off
  · have HF := Lib.hid hf
    cases hn : (findM s Q.fo.now).2
    · have HN := Lib.hid hn
      have HE := Lib.hid (show Q.syncT s = (Q, 8) from by unfold DkV.syncT; rw [if_neg (by rw [hf]; decide), if_pos hn])
      go_enter Tryz.func86, Tryz.ntmps86
      go_wp2_with fail
      refine (dfind_none s hs HR.out HF.out HN.out).mono ?_
      rintro e w1 ⟨rfl, hb1⟩
      have HX := Lib.hid hb1
      go_wp2_with fail
      go_ret
      exact ⟨by rw [HE.out]; rfl, by rw [HE.out]; exact ⟨_, _, _, _, _, _, (HR.out.ex HX.out).more Fresh.same⟩, HX.out.off F⟩
    · have HN := Lib.hid hn
      have hid : Q.idOf s ∈ Q.fo.ids := FoV.found_ids hn
      have HT := Lib.hid (HR.out.tape hid)
      have HI := Lib.hid hid
      have HTZ := Lib.hid (HO.out.tz _ HT.out.at.2)
      obtain ⟨e0, he0⟩ : ∃ e0, e0 = (Q.ask true).2 := ⟨_, rfl⟩
      have HE0 := Lib.hid he0
      have HA := Lib.hid (ask_ok HO.out true)
      by_cases hz : e0 = 0
      · have HE := Lib.hid (show Q.syncT s = ((Q.ask true).1.setT (Q.idOf s) ⟨(Q.tapeAt (Q.idOf s)).nw, (Q.tapeAt (Q.idOf s)).nw⟩, 0) from by unfold DkV.syncT; rw [if_neg (by rw [hf]; decide), if_neg (by rw [hn]; decide), if_pos (by rw [← he0]; exact hz)])
        subst hz
        clear hf hn he0 hid
        go_enter Tryz.func86, Tryz.ntmps86
        go_wp2_with fail
        refine (dfind_some s hs HR.out HO.out (by omega) HF.out HN.out).mono ?_
        rintro e w1 ⟨rfl, hb1⟩
        have HX := Lib.hid hb1
        clear hb1
        rw [show (findM s Q.fo.now).1 = Q.idOf s from rfl]
        go_wp2_with fail
        refine (dsyncf_calls (HR.out.ex HX.out) HO.out (by omega)).mono ?_
        rintro e w5 ⟨rfl, hR5, hO5⟩
        have HR5 := Lib.hid hR5
        have HO5 := Lib.hid hO5
        clear hR5 hO5
        have c4 : w5.cell? ⟨g, 4, none⟩ = some (ptrV fg) := by rw [HR5.out.blk.cell]; rfl
        rw [← HE0.out]
        go_wp2_with fail
        refine (tsync_calls (HR5.out.tape HI.out).at.1).mono ?_
        rintro e w6 ⟨rfl, hB6, hO6⟩
        rw [show (Q.ask true).1.tapeAt (Q.idOf s) = Q.tapeAt (Q.idOf s) from rfl] at hB6
        have HR6 := Lib.hid (HR5.out.set_ HI.out hO6 hB6)
        have HO6 := Lib.hid (HR5.out.off_set_ HI.out hO6)
        clear hB6 hO6
        go_wp2_with fail
        go_ret
        exact ⟨by rw [HE.out]; rfl, by rw [HE.out]; exact ⟨_, _, _, _, _, _, HR6.out.more Fresh.same⟩, ((HX.out.off F).trans HO5.out).trans HO6.out⟩
      · have HE := Lib.hid (show Q.syncT s = Q.ask true from by unfold DkV.syncT; rw [if_neg (by rw [hf]; decide), if_neg (by rw [hn]; decide), if_neg (by rw [← he0]; exact hz)])
        have z1 : decide (e0 = 0) = false := decide_eq_false hz
        have z2 : (e0 == 0) = false := by rw [beq_eq_false_iff_ne]; exact hz
        clear hf hn he0 hid hz
        go_enter Tryz.func86, Tryz.ntmps86
        go_wp2_with fail
        refine (dfind_some s hs HR.out HO.out (by omega) HF.out HN.out).mono ?_
        rintro e w1 ⟨rfl, hb1⟩
        have HX := Lib.hid hb1
        clear hb1
        rw [show (findM s Q.fo.now).1 = Q.idOf s from rfl]
        go_wp2_with fail
        refine (dsyncf_calls (HR.out.ex HX.out) HO.out (by omega)).mono ?_
        rintro e w5 ⟨rfl, hR5, hO5⟩
        have HR5 := Lib.hid hR5
        have HO5 := Lib.hid hO5
        clear hR5 hO5
        have c4 : w5.cell? ⟨g, 4, none⟩ = some (ptrV fg) := by rw [HR5.out.blk.cell]; rfl
        rw [← HE0.out]
        go_wp2_with fail
        go_ret
        exact ⟨by rw [HE.out, ← HE0.out]; rfl, by rw [HE.out]; exact ⟨_, _, _, _, _, _, HR5.out.more Fresh.same⟩, (HX.out.off F).trans HO5.out⟩
  · have HF := Lib.hid hf
    have HE := Lib.hid (show Q.syncT s = (Q, 14) from by unfold DkV.syncT; rw [if_pos hf])
    go_enter Tryz.func86, Tryz.ntmps86
    go_wp2_with fail
    refine (dfind_down s HR.out HF.out).mono ?_
    rintro e w1 ⟨rfl, hb1⟩
    have HX := Lib.hid hb1
    go_wp2_with fail
    go_ret
    exact ⟨by rw [HE.out]; rfl, by rw [HE.out]; exact ⟨_, _, _, _, _, _, (HR.out.ex HX.out).more Fresh.same⟩, HX.out.off F⟩
set_option maxHeartbeats 2000000 in
theorem dremove_calls {w : World} {g : Nat} {F : Nat → Prop} {Q : DkV} (h : DkP w g F Q) {M : Nat} (ho : Q.Ok M) (hM : M ≤ 800000) (s : ByteArray) (hs : s.size ≤ 9223372036854775807) :
    Calls Tryz.prog 59 #[ptrV g, .string s] w fun e w' => e = .returned (.int .i64 (Q.remove s).2) ∧ DkP w' g (Fresh F w w') (Q.remove s).1 ∧ Off F w w' := by
  obtain ⟨tm, fg, fz, FF, l, tb, h⟩ := h
  have HR := Lib.hid h
  have HO := Lib.hid ho
  clear h ho
  cases hf : Q.fu.off
  · have HF := Lib.hid hf
    cases hn : (findM s Q.fo.now).2
    · have HN := Lib.hid hn
      have HE := Lib.hid (show Q.remove s = (Q, 8) from by unfold DkV.remove; rw [if_neg (by rw [hf]; decide), if_pos hn])
      go_enter Tryz.func59, Tryz.ntmps59
      go_wp2_with fail
      refine (dfind_none s hs HR.out HF.out HN.out).mono ?_
      rintro e w1 ⟨rfl, hb1⟩
      have HX := Lib.hid hb1
      go_wp2_with fail
      go_ret
      exact ⟨by rw [HE.out]; rfl, by rw [HE.out]; exact ⟨_, _, _, _, _, _, (HR.out.ex HX.out).more Fresh.same⟩, HX.out.off F⟩
    · have HN := Lib.hid hn
      have hid : Q.idOf s ∈ Q.fo.ids := FoV.found_ids hn
      have HT := Lib.hid (HR.out.tape hid)
      have HI := Lib.hid hid
      have HTZ := Lib.hid (HO.out.tz _ HT.out.at.2)
      obtain ⟨e0, he0⟩ : ∃ e0, e0 = (Q.ask false).2 := ⟨_, rfl⟩
      have HE0 := Lib.hid he0
      have HA := Lib.hid (ask_ok HO.out false)
      by_cases hz : e0 = 0
      · have HE := Lib.hid (show Q.remove s = ({ (Q.ask false).1 with fo := (Q.fo.drop s).1 }, 0) from by unfold DkV.remove; rw [if_neg (by rw [hf]; decide), if_neg (by rw [hn]; decide), if_pos (by rw [← he0]; exact hz)])
        subst hz
        clear hf hn he0 hid
        go_enter Tryz.func59, Tryz.ntmps59
        go_wp2_with fail
        refine (dfind_some s hs HR.out HO.out (by omega) HF.out HN.out).mono ?_
        rintro e w1 ⟨rfl, hb1⟩
        have HX := Lib.hid hb1
        clear hb1
        rw [show (findM s Q.fo.now).1 = Q.idOf s from rfl]
        go_wp2_with fail
        refine (dput_calls (HR.out.ex HX.out) HO.out (by omega)).mono ?_
        rintro e w5 ⟨rfl, hR5, hO5⟩
        have HR5 := Lib.hid hR5
        have HO5 := Lib.hid hO5
        clear hR5 hO5
        have c4 : w5.cell? ⟨g, 4, none⟩ = some (ptrV fg) := by rw [HR5.out.blk.cell]; rfl
        rw [← HE0.out]
        go_wp2_with fail
        refine (fodrop_calls s hs HO.out.fo (by omega) HR5.out.fob).mono ?_
        rintro e w6 ⟨rfl, hF6, hO6⟩
        have HF6 := Lib.hid hF6
        have HO6 := Lib.hid hO6
        clear hF6 hO6
        go_wp2_with fail
        go_ret
        have z1 := HX.out.size
        have z2 := HO5.out.size
        refine ⟨by rw [HE.out]; rfl, ?_, ((HX.out.off F).trans HO5.out).then HO6.out (fun k _ hk => HR5.out.sub k hk)⟩
        rw [HE.out]
        exact ⟨_, _, _, _, _, _, (HR5.out.fo_ HO6.out HF6.out (fun id hid => HR5.out.co id (drop_ids hid))).more (Fresh.sub (Nat.le_trans z1 z2))⟩
      · have HE := Lib.hid (show Q.remove s = Q.ask false from by unfold DkV.remove; rw [if_neg (by rw [hf]; decide), if_neg (by rw [hn]; decide), if_neg (by rw [← he0]; exact hz)])
        have z1 : decide (e0 = 0) = false := decide_eq_false hz
        have z2 : (e0 == 0) = false := by rw [beq_eq_false_iff_ne]; exact hz
        clear hf hn he0 hid hz
        go_enter Tryz.func59, Tryz.ntmps59
        go_wp2_with fail
        refine (dfind_some s hs HR.out HO.out (by omega) HF.out HN.out).mono ?_
        rintro e w1 ⟨rfl, hb1⟩
        have HX := Lib.hid hb1
        clear hb1
        rw [show (findM s Q.fo.now).1 = Q.idOf s from rfl]
        go_wp2_with fail
        refine (dput_calls (HR.out.ex HX.out) HO.out (by omega)).mono ?_
        rintro e w5 ⟨rfl, hR5, hO5⟩
        have HR5 := Lib.hid hR5
        have HO5 := Lib.hid hO5
        clear hR5 hO5
        have c4 : w5.cell? ⟨g, 4, none⟩ = some (ptrV fg) := by rw [HR5.out.blk.cell]; rfl
        rw [← HE0.out]
        go_wp2_with fail
        go_ret
        exact ⟨by rw [HE.out, ← HE0.out]; rfl, by rw [HE.out]; exact ⟨_, _, _, _, _, _, HR5.out.more Fresh.same⟩, (HX.out.off F).trans HO5.out⟩
  · have HF := Lib.hid hf
    have HE := Lib.hid (show Q.remove s = (Q, 14) from by unfold DkV.remove; rw [if_pos hf])
    go_enter Tryz.func59, Tryz.ntmps59
    go_wp2_with fail
    refine (dfind_down s HR.out HF.out).mono ?_
    rintro e w1 ⟨rfl, hb1⟩
    have HX := Lib.hid hb1
    go_wp2_with fail
    go_ret
    exact ⟨by rw [HE.out]; rfl, by rw [HE.out]; exact ⟨_, _, _, _, _, _, (HR.out.ex HX.out).more Fresh.same⟩, HX.out.off F⟩
end Go.Proofs.YtomfcgeibbicoaaGreat
namespace Go.Proofs.YtomfcgeibbicoaaGreat
open Go.RowKit Go.Maps
/-- A tape with more bytes. -/
def TpV.plus (t : TpV) (x : ByteArray) : TpV := ⟨t.kp, t.nw ++ x⟩
/-- How many sectors are taken behind an append. -/
def DkV.after (Q : DkV) (s x : ByteArray) : Int := (Q.taken : Int) - (cntT (Q.tapeAt (Q.idOf s)) : Int) + (cntT ((Q.tapeAt (Q.idOf s)).plus x) : Int)
def DkV.append (Q : DkV) (s x : ByteArray) : DkV × Int :=
  if Q.fu.off = true then (Q, 14) else if (findM s Q.fo.now).2 = false then (Q, 8) else if Q.sec < Q.after s x then (Q, 12) else
    if (Q.ask false).2 = 0 then ((Q.ask false).1.setT (Q.idOf s) ((Q.tapeAt (Q.idOf s)).plus x), 0) else Q.ask false
def DkV.read (Q : DkV) (s : ByteArray) : ByteArray × Int :=
  if Q.fu.off = true then (⟨#[]⟩, 14) else if (findM s Q.fo.now).2 = false then (⟨#[]⟩, 8) else ((Q.tapeAt (Q.idOf s)).nw, 0)
theorem tsec_calls {w : World} {g : Nat} {t : TpV} (hB : Blk w g 174 t.cs) (h1 : t.kp.size ≤ 8000000) (h2 : t.nw.size ≤ 8000000) :
    Calls Tryz.prog 114 #[ptrV g] w fun e w' => e = .returned (.int .i64 (cntT t : Int)) ∧ Ex w w' := tsectors_calls hB h1 h2
set_option maxHeartbeats 2000000 in
set_option maxRecDepth 100000 in
theorem dappend_calls {w : World} {g : Nat} {F : Nat → Prop} {Q : DkV} (h : DkP w g F Q) {M : Nat} (ho : Q.Ok M) (hM : M ≤ 800000) (s x : ByteArray) (hs : s.size ≤ 9223372036854775807) (hx : x.size ≤ 1000000) :
    Calls Tryz.prog 147 #[ptrV g, .string s, .string x] w fun e w' => e = .returned (.int .i64 (Q.append s x).2) ∧ DkP w' g (Fresh F w w') (Q.append s x).1 ∧ Off F w w' := by
  obtain ⟨tm, fg, fz, FF, l, tb, h⟩ := h
  have HR := Lib.hid h
  have HO := Lib.hid ho
  clear h ho
  cases hf : Q.fu.off
  · have HF := Lib.hid hf
    cases hn : (findM s Q.fo.now).2
    · have HN := Lib.hid hn
      have HE := Lib.hid (show Q.append s x = (Q, 8) from by unfold DkV.append; rw [if_neg (by rw [hf]; decide), if_pos hn])
      clear hf hn
      go_enter Tryz.func147, Tryz.ntmps147
      go_wp2_with fail
      refine (dfind_none s hs HR.out HF.out HN.out).mono ?_
      rintro e w1 ⟨rfl, hb1⟩
      go_wp2_with fail
      go_ret
      exact ⟨by rw [HE.out]; rfl, by rw [HE.out]; exact ⟨_, _, _, _, _, _, (HR.out.ex hb1).more Fresh.same⟩, hb1.off F⟩
    · have HN := Lib.hid hn
      have hid : Q.idOf s ∈ Q.fo.ids := FoV.found_ids hn
      have HI := Lib.hid hid
      have HTZ := Lib.hid (HO.out.tz _ (HR.out.tape hid).at.2)
      have htk := sumT_le HO.out Q.fo.ids
      have hil := HR.out.ids_len
      have htl := HO.out.tl
      have hc1 : cntT (Q.tapeAt (Q.idOf s)) ≤ 4096 := cntT_le HTZ.out
      have hc2 : cntT ((Q.tapeAt (Q.idOf s)).plus x) ≤ 100000 := by
        have h1 := HTZ.out.1
        have h2 := HTZ.out.2
        unfold TpV.plus cntT cntS
        simp only [ByteArray.size_append]
        omega
      obtain ⟨tk, htk0⟩ : ∃ tk, tk = Q.taken := ⟨_, rfl⟩
      obtain ⟨c1, hc10⟩ : ∃ c1, c1 = cntT (Q.tapeAt (Q.idOf s)) := ⟨_, rfl⟩
      obtain ⟨c2, hc20⟩ : ∃ c2, c2 = cntT ((Q.tapeAt (Q.idOf s)).plus x) := ⟨_, rfl⟩
      have HTK := Lib.hid htk0
      have HC1 := Lib.hid hc10
      have HC2 := Lib.hid hc20
      have htk' : tk ≤ 4096000000 := by rw [htk0]; unfold DkV.taken; omega
      rw [← hc10] at hc1
      rw [← hc20] at hc2
      have hs1 := HO.out.s1
      have hs2 := HO.out.s2
      have hAf : Hid (Q.after s x = (tk : Int) - (c1 : Int) + (c2 : Int)) := by unfold Hid DkV.after; rw [htk0, hc10, hc20]
      have hw1 : IntKind.i64.wrap ((tk : Int) - (c1 : Int)) = (tk : Int) - (c1 : Int) := IntWalk.i64_in _ (by omega)
      have hw2 : IntKind.i64.wrap ((tk : Int) - (c1 : Int) + (c2 : Int)) = (tk : Int) - (c1 : Int) + (c2 : Int) := IntWalk.i64_in _ (by omega)
      clear htk hil htl htk0 hc10 hc20
      have HZ1 := Lib.hid (show (Q.tapeAt (Q.idOf s)).kp.size ≤ 8000000 from by have := HTZ.out.1; omega)
      have HZ2 := Lib.hid (show (Q.tapeAt (Q.idOf s)).nw.size ≤ 8000000 from by have := HTZ.out.2; omega)
      have HZ3 := Lib.hid (show ((Q.tapeAt (Q.idOf s)).nw ++ x).size ≤ 8000000 from by have := HTZ.out.2; rw [ByteArray.size_append]; omega)
      have hz22 : (Q.tapeAt (Q.idOf s)).nw.size ≤ 8000000 := HZ2.out
      by_cases hq : Q.sec < Q.after s x
      · have HE := Lib.hid (show Q.append s x = (Q, 12) from by unfold DkV.append; rw [if_neg (by rw [hf]; decide), if_neg (by rw [hn]; decide), if_pos hq])
        have d1 : decide (Q.sec < (tk : Int) - (c1 : Int) + (c2 : Int)) = true := decide_eq_true (by rw [← hAf.out]; exact hq)
        clear hf hn hid hq
        go_enter Tryz.func147, Tryz.ntmps147
        go_wp2_with fail
        refine (dfind_some s hs HR.out HO.out (by omega) HF.out HN.out).mono ?_
        rintro e w1 ⟨rfl, hb1⟩
        have HX := Lib.hid hb1
        clear hb1
        rw [show (findM s Q.fo.now).1 = Q.idOf s from rfl]
        go_wp2_with fail
        refine (tkept_calls ((HR.out.ex HX.out).tape HI.out).at.1).mono ?_
        rintro e w2 ⟨rfl, hb2⟩
        have HX2 := Lib.hid (HX.out.trans hb2)
        clear hb2
        go_wp2_with fail
        refine (tnow_calls ((HR.out.ex HX2.out).tape HI.out).at.1).mono ?_
        rintro e w3 ⟨rfl, hb3⟩
        have HX3 := Lib.hid (HX2.out.trans hb3)
        clear hb3
        go_wp2_with fail
        refine (tload_calls _ _ _).mono ?_
        rintro e w4 ⟨m, rfl, hm4, hB4, hb4⟩
        have HB4 := Lib.hid (show Blk w4 m 174 ((Q.tapeAt (Q.idOf s)).plus x).cs from hB4)
        have HX4 := Lib.hid (HX3.out.trans hb4)
        have HR4 := Lib.hid (HR.out.ex HX4.out)
        have q0 := Wd.cell (show w4.cell? ⟨g, 0, none⟩ = some (.int .i64 Q.sec) by rw [HR4.out.blk.cell]; rfl)
        clear hB4 hb4 hm4
        go_wp2_with fail
        have KT := Lib.hid (show ∀ y : Wd w4, Calls Tryz.prog 48 #[ptrV g] y.v fun e w' => e = .returned (.int .i64 (tk : Int)) ∧ Ex y.v w' from fun y => by rw [HTK.out]; exact dtaken_calls (HR4.out.ex y.ex) HO.out (by omega))
        have K1 := Lib.hid (show ∀ y : Wd w4, Calls Tryz.prog 114 #[ptrV (tb (Q.idOf s))] y.v fun e w' => e = .returned (.int .i64 (c1 : Int)) ∧ Ex y.v w' from fun y => by rw [HC1.out]; exact tsec_calls ((HR4.out.ex y.ex).tape HI.out).at.1 HZ1.out HZ2.out)
        have K2 := Lib.hid (show ∀ y : Wd w4, Calls Tryz.prog 114 #[ptrV m] y.v fun e w' => e = .returned (.int .i64 (c2 : Int)) ∧ Ex y.v w' from fun y => by rw [HC2.out]; exact tsec_calls (HB4.out.ex y.ex) HZ1.out HZ3.out)
        refine wp_region_calm (by kernel_rfl) (by kernel_rfl) ?_
        repeat (go_big_quiet_step ((first | (go_at_call 48; with_reducible exact calm_of (KT.out _)) | (go_at_call 114; with_reducible exact calm_of (K1.out _)) | (go_at_call 114; with_reducible exact calm_of (K2.out _)))))
        refine wpQuiet_nil ?_
        intro w5 hX5
        replace hX5 := calm_world hX5
        have HX5 := Lib.hid (HX4.out.trans hX5)
        clear hX5
        go_wp2_with fail
        go_ret
        exact ⟨by rw [HE.out]; rfl, by rw [HE.out]; exact ⟨_, _, _, _, _, _, (HR.out.ex HX5.out).more Fresh.same⟩, HX5.out.off F⟩
      · have d1 : decide (Q.sec < (tk : Int) - (c1 : Int) + (c2 : Int)) = false := decide_eq_false (by rw [← hAf.out]; exact hq)
        obtain ⟨e0, he0⟩ : ∃ e0, e0 = (Q.ask false).2 := ⟨_, rfl⟩
        have HE0 := Lib.hid he0
        by_cases hz : e0 = 0
        · have HE := Lib.hid (show Q.append s x = ((Q.ask false).1.setT (Q.idOf s) ((Q.tapeAt (Q.idOf s)).plus x), 0) from by unfold DkV.append; rw [if_neg (by rw [hf]; decide), if_neg (by rw [hn]; decide), if_neg hq, if_pos (by rw [← he0]; exact hz)])
          subst hz
          clear hf hn hid hq he0
          go_enter Tryz.func147, Tryz.ntmps147
          go_wp2_with fail
          refine (dfind_some s hs HR.out HO.out (by omega) HF.out HN.out).mono ?_
          rintro e w1 ⟨rfl, hb1⟩
          have HX := Lib.hid hb1
          clear hb1
          rw [show (findM s Q.fo.now).1 = Q.idOf s from rfl]
          go_wp2_with fail
          refine (tkept_calls ((HR.out.ex HX.out).tape HI.out).at.1).mono ?_
          rintro e w2 ⟨rfl, hb2⟩
          have HX2 := Lib.hid (HX.out.trans hb2)
          clear hb2
          go_wp2_with fail
          refine (tnow_calls ((HR.out.ex HX2.out).tape HI.out).at.1).mono ?_
          rintro e w3 ⟨rfl, hb3⟩
          have HX3 := Lib.hid (HX2.out.trans hb3)
          clear hb3
          go_wp2_with fail
          refine (tload_calls _ _ _).mono ?_
          rintro e w4 ⟨m, rfl, hm4, hB4, hb4⟩
          have HB4 := Lib.hid (show Blk w4 m 174 ((Q.tapeAt (Q.idOf s)).plus x).cs from hB4)
          have HX4 := Lib.hid (HX3.out.trans hb4)
          have HR4 := Lib.hid (HR.out.ex HX4.out)
          have q0 := Wd.cell (show w4.cell? ⟨g, 0, none⟩ = some (.int .i64 Q.sec) by rw [HR4.out.blk.cell]; rfl)
          clear hB4 hb4 hm4
          go_wp2_with fail
          have KT := Lib.hid (show ∀ y : Wd w4, Calls Tryz.prog 48 #[ptrV g] y.v fun e w' => e = .returned (.int .i64 (tk : Int)) ∧ Ex y.v w' from fun y => by rw [HTK.out]; exact dtaken_calls (HR4.out.ex y.ex) HO.out (by omega))
          have K1 := Lib.hid (show ∀ y : Wd w4, Calls Tryz.prog 114 #[ptrV (tb (Q.idOf s))] y.v fun e w' => e = .returned (.int .i64 (c1 : Int)) ∧ Ex y.v w' from fun y => by rw [HC1.out]; exact tsec_calls ((HR4.out.ex y.ex).tape HI.out).at.1 HZ1.out HZ2.out)
          have K2 := Lib.hid (show ∀ y : Wd w4, Calls Tryz.prog 114 #[ptrV m] y.v fun e w' => e = .returned (.int .i64 (c2 : Int)) ∧ Ex y.v w' from fun y => by rw [HC2.out]; exact tsec_calls (HB4.out.ex y.ex) HZ1.out HZ3.out)
          refine wp_region_calm (by kernel_rfl) (by kernel_rfl) ?_
          repeat (go_big_quiet_step ((first | (go_at_call 48; with_reducible exact calm_of (KT.out _)) | (go_at_call 114; with_reducible exact calm_of (K1.out _)) | (go_at_call 114; with_reducible exact calm_of (K2.out _)))))
          refine wpQuiet_nil ?_
          intro w5 hX5
          replace hX5 := calm_world hX5
          have HX5 := Lib.hid (HX4.out.trans hX5)
          clear hX5
          go_wp2_with fail
          refine (dput_calls (HR.out.ex HX5.out) HO.out (by omega)).mono ?_
          rintro e w6 ⟨rfl, hR6, hO6⟩
          have HR6 := Lib.hid hR6
          have HO6 := Lib.hid hO6
          clear hR6 hO6
          rw [← HE0.out]
          go_wp2_with fail
          refine (tappend_calls x (HR6.out.tape HI.out).at.1 HZ2.out (by omega)).mono ?_
          rintro e w7 ⟨rfl, hB7, hO7⟩
          rw [show (Q.ask false).1.tapeAt (Q.idOf s) = Q.tapeAt (Q.idOf s) from rfl] at hB7
          have HR7 := Lib.hid (HR6.out.set_ (t := (Q.tapeAt (Q.idOf s)).plus x) HI.out hO7 hB7)
          have HO7 := Lib.hid (HR6.out.off_set_ HI.out hO7)
          clear hB7 hO7
          go_wp2_with fail
          go_ret
          exact ⟨by rw [HE.out]; rfl, by rw [HE.out]; exact ⟨_, _, _, _, _, _, HR7.out.more Fresh.same⟩, ((HX5.out.off F).trans HO6.out).trans HO7.out⟩
        · have HE := Lib.hid (show Q.append s x = Q.ask false from by unfold DkV.append; rw [if_neg (by rw [hf]; decide), if_neg (by rw [hn]; decide), if_neg hq, if_neg (by rw [← he0]; exact hz)])
          have z1 : decide (e0 = 0) = false := decide_eq_false hz
          have z2 : (e0 == 0) = false := by rw [beq_eq_false_iff_ne]; exact hz
          clear hf hn hid hq he0 hz
          go_enter Tryz.func147, Tryz.ntmps147
          go_wp2_with fail
          refine (dfind_some s hs HR.out HO.out (by omega) HF.out HN.out).mono ?_
          rintro e w1 ⟨rfl, hb1⟩
          have HX := Lib.hid hb1
          clear hb1
          rw [show (findM s Q.fo.now).1 = Q.idOf s from rfl]
          go_wp2_with fail
          refine (tkept_calls ((HR.out.ex HX.out).tape HI.out).at.1).mono ?_
          rintro e w2 ⟨rfl, hb2⟩
          have HX2 := Lib.hid (HX.out.trans hb2)
          clear hb2
          go_wp2_with fail
          refine (tnow_calls ((HR.out.ex HX2.out).tape HI.out).at.1).mono ?_
          rintro e w3 ⟨rfl, hb3⟩
          have HX3 := Lib.hid (HX2.out.trans hb3)
          clear hb3
          go_wp2_with fail
          refine (tload_calls _ _ _).mono ?_
          rintro e w4 ⟨m, rfl, hm4, hB4, hb4⟩
          have HB4 := Lib.hid (show Blk w4 m 174 ((Q.tapeAt (Q.idOf s)).plus x).cs from hB4)
          have HX4 := Lib.hid (HX3.out.trans hb4)
          have HR4 := Lib.hid (HR.out.ex HX4.out)
          have q0 := Wd.cell (show w4.cell? ⟨g, 0, none⟩ = some (.int .i64 Q.sec) by rw [HR4.out.blk.cell]; rfl)
          clear hB4 hb4 hm4
          go_wp2_with fail
          have KT := Lib.hid (show ∀ y : Wd w4, Calls Tryz.prog 48 #[ptrV g] y.v fun e w' => e = .returned (.int .i64 (tk : Int)) ∧ Ex y.v w' from fun y => by rw [HTK.out]; exact dtaken_calls (HR4.out.ex y.ex) HO.out (by omega))
          have K1 := Lib.hid (show ∀ y : Wd w4, Calls Tryz.prog 114 #[ptrV (tb (Q.idOf s))] y.v fun e w' => e = .returned (.int .i64 (c1 : Int)) ∧ Ex y.v w' from fun y => by rw [HC1.out]; exact tsec_calls ((HR4.out.ex y.ex).tape HI.out).at.1 HZ1.out HZ2.out)
          have K2 := Lib.hid (show ∀ y : Wd w4, Calls Tryz.prog 114 #[ptrV m] y.v fun e w' => e = .returned (.int .i64 (c2 : Int)) ∧ Ex y.v w' from fun y => by rw [HC2.out]; exact tsec_calls (HB4.out.ex y.ex) HZ1.out HZ3.out)
          refine wp_region_calm (by kernel_rfl) (by kernel_rfl) ?_
          repeat (go_big_quiet_step ((first | (go_at_call 48; with_reducible exact calm_of (KT.out _)) | (go_at_call 114; with_reducible exact calm_of (K1.out _)) | (go_at_call 114; with_reducible exact calm_of (K2.out _)))))
          refine wpQuiet_nil ?_
          intro w5 hX5
          replace hX5 := calm_world hX5
          have HX5 := Lib.hid (HX4.out.trans hX5)
          clear hX5
          go_wp2_with fail
          refine (dput_calls (HR.out.ex HX5.out) HO.out (by omega)).mono ?_
          rintro e w6 ⟨rfl, hR6, hO6⟩
          have HR6 := Lib.hid hR6
          have HO6 := Lib.hid hO6
          clear hR6 hO6
          rw [← HE0.out]
          go_wp2_with fail
          go_ret
          exact ⟨by rw [HE.out, ← HE0.out]; rfl, by rw [HE.out]; exact ⟨_, _, _, _, _, _, HR6.out.more Fresh.same⟩, (HX5.out.off F).trans HO6.out⟩
  · have HF := Lib.hid hf
    have HE := Lib.hid (show Q.append s x = (Q, 14) from by unfold DkV.append; rw [if_pos hf])
    clear hf
    go_enter Tryz.func147, Tryz.ntmps147
    go_wp2_with fail
    refine (dfind_down s HR.out HF.out).mono ?_
    rintro e w1 ⟨rfl, hb1⟩
    go_wp2_with fail
    go_ret
    exact ⟨by rw [HE.out]; rfl, by rw [HE.out]; exact ⟨_, _, _, _, _, _, (HR.out.ex hb1).more Fresh.same⟩, hb1.off F⟩
end Go.Proofs.YtomfcgeibbicoaaGreat
namespace Go.Proofs.YtomfcgeibbicoaaGreat
open Go.RowKit Go.Maps
namespace DkV
def syncAll (Q : DkV) : DkV × Int := if Q.fu.off = true then (Q, 14) else if (Q.ask true).2 = 0 then ({ (Q.ask true).1 with fo := Q.fo.sync }, 0) else Q.ask true
def fault (Q : DkV) (k a : Int) : DkV × Int := if Q.fu.off = true then (Q, 14) else if (Q.fu.arm k a).2 = true then ({ Q with fu := (Q.fu.arm k a).1 }, 0) else (Q, 2)
end DkV
theorem settle_ids {q : FoV} {n : Nat} {x : Int} (h : x ∈ (q.settle n).ids) : x ∈ q.ids := by
  rw [FoV.ids_mem] at h
  rcases h with ⟨m, hm, e⟩ | ⟨c, hc, _⟩
  · have := fold_all (P := fun m => m.pl ∈ q.ids) (ch := q.ch.take n) (fun c hc hp => (q.ids_mem _).2 (.inr ⟨c, List.mem_of_mem_take hc, hp, rfl⟩)) (l := q.kept) (fun m hm => (q.ids_mem _).2 (.inl ⟨m, hm, rfl⟩)) m hm
    rw [← e]; exact this
  · cases hc
theorem fo_ok {Q : DkV} {M : Nat} {fo : FoV} (h : Q.Ok M) (hf : fo.Ok M) : ({ Q with fo := fo } : DkV).Ok M := ⟨hf, h.fu, h.s1, h.s2, h.tl, h.cl, h.tz⟩
theorem FoV.Ok.up {q : FoV} {M N : Nat} (h : q.Ok M) (hN : M ≤ N) : q.Ok N := ⟨Nat.le_trans h.kl hN, h.ks, h.cs⟩
set_option maxHeartbeats 2000000 in
theorem dsyncAll_calls {w : World} {g : Nat} {F : Nat → Prop} {Q : DkV} (h : DkP w g F Q) {M : Nat} (ho : Q.Ok M) (hM : M ≤ 800000) :
    Calls Tryz.prog 125 #[ptrV g] w fun e w' => e = .returned (.int .i64 Q.syncAll.2) ∧ DkP w' g (Fresh F w w') Q.syncAll.1 ∧ Off F w w' := by
  have HP := Lib.hid h
  have HO := Lib.hid ho
  clear h ho
  cases hf : Q.fu.off
  · have HF := Lib.hid hf
    have HA := Lib.hid (ask_ok HO.out true)
    obtain ⟨e0, he0⟩ : ∃ e0, e0 = (Q.ask true).2 := ⟨_, rfl⟩
    have HE0 := Lib.hid he0
    by_cases hz : e0 = 0
    · have HE := Lib.hid (show Q.syncAll = ({ (Q.ask true).1 with fo := Q.fo.sync }, 0) from by unfold DkV.syncAll; rw [if_neg (by rw [hf]; decide), if_pos (by rw [← he0]; exact hz)])
      subst hz
      clear hf he0
      go_enter Tryz.func125, Tryz.ntmps125
      go_wp2_with fail
      refine (dready_calls HP.out).mono ?_
      rintro e w1 ⟨rfl, hb1⟩
      rw [HF.out]
      obtain ⟨tm, fg, fz, FF, l, tb, hR⟩ := HP.out.ex hb1
      have HR := Lib.hid hR
      have HX := Lib.hid hb1
      clear hR hb1
      go_wp2_with fail
      refine (dsyncf_calls HR.out HO.out (by omega)).mono ?_
      rintro e w5 ⟨rfl, hR5, hO5⟩
      have HR5 := Lib.hid hR5
      have HO5 := Lib.hid hO5
      have c4 : w5.cell? ⟨g, 4, none⟩ = some (ptrV fg) := by rw [HR5.out.blk.cell]; rfl
      clear hR5 hO5
      rw [← HE0.out]
      go_wp2_with fail
      refine (fosync_calls HO.out.fo (by omega) HR5.out.fob).mono ?_
      rintro e w6 ⟨rfl, hF6, hO6⟩
      have HR6 := Lib.hid (HR5.out.fo_ hO6 hF6 (fun id hid => HR5.out.co id (settle_ids hid)))
      have HO6 := Lib.hid hO6
      have HS := Lib.hid (fo_ok HA.out ((FoV.Ok.settle HO.out.fo (Nat.le_refl _)).up (Nat.le_succ M)))
      clear hF6 hO6
      go_wp2_with fail
      refine (dsweep_calls HR6.out HS.out (by omega)).mono ?_
      rintro e w7 ⟨rfl, ⟨tm', l', hR7⟩, hO7⟩
      have HR7 := Lib.hid hR7
      have HO7 := Lib.hid hO7
      clear hR7 hO7
      go_wp2_with fail
      go_ret
      have z1 := HX.out.size
      have z2 := HO5.out.size
      have z3 := HO6.out.size
      have z4 := HO7.out.size
      refine ⟨by rw [HE.out]; rfl, ?_, ?_⟩
      · rw [HE.out]
        refine ⟨_, _, _, _, _, _, HR7.out.more (fun k hk => ?_)⟩
        rcases hk with (hk | hk) | hk
        · exact .inl hk
        · exact .inr ⟨by omega, by omega⟩
        · exact .inr ⟨by omega, hk.2⟩
      · have q1 : Off F w w6 := (((HX.out.off F).trans HO5.out).trans (HO6.out.mono fun k _ hk => HR5.out.sub k hk))
        exact q1.then HO7.out fun k hk hk' => by
          rcases hk' with hk' | hk'
          · exact hk'
          · omega
    · have HE := Lib.hid (show Q.syncAll = Q.ask true from by unfold DkV.syncAll; rw [if_neg (by rw [hf]; decide), if_neg (by rw [← he0]; exact hz)])
      have z1 : decide (e0 = 0) = false := decide_eq_false hz
      have z2 : (e0 == 0) = false := by rw [beq_eq_false_iff_ne]; exact hz
      clear hf he0 hz
      go_enter Tryz.func125, Tryz.ntmps125
      go_wp2_with fail
      refine (dready_calls HP.out).mono ?_
      rintro e w1 ⟨rfl, hb1⟩
      rw [HF.out]
      obtain ⟨tm, fg, fz, FF, l, tb, hR⟩ := HP.out.ex hb1
      have HR := Lib.hid hR
      have HX := Lib.hid hb1
      clear hR hb1
      go_wp2_with fail
      refine (dsyncf_calls HR.out HO.out (by omega)).mono ?_
      rintro e w5 ⟨rfl, hR5, hO5⟩
      rw [← HE0.out]
      go_wp2_with fail
      go_ret
      exact ⟨by rw [HE.out, ← HE0.out]; rfl, by rw [HE.out]; exact ⟨_, _, _, _, _, _, hR5.more Fresh.same⟩, (HX.out.off F).trans hO5⟩
  · have HF := Lib.hid hf
    have HE := Lib.hid (show Q.syncAll = (Q, 14) from by unfold DkV.syncAll; rw [if_pos hf])
    clear hf
    go_enter Tryz.func125, Tryz.ntmps125
    go_wp2_with fail
    refine (dready_calls HP.out).mono ?_
    rintro e w1 ⟨rfl, hb1⟩
    rw [HF.out]
    go_wp2_with fail
    go_ret
    exact ⟨by rw [HE.out]; rfl, by rw [HE.out]; exact (HP.out.ex hb1).more Fresh.same, hb1.off F⟩
theorem dup_calls {w : World} {g : Nat} {F : Nat → Prop} {Q : DkV} (h : DkP w g F Q) : Calls Tryz.prog 110 #[ptrV g] w fun e w' => e = .returned (.bool (!Q.fu.off)) ∧ Ex w w' := by
  have H := Lib.hid h
  clear h
  go_enter Tryz.func110, Tryz.ntmps110
  go_wp2_with fail
  refine (dnone_calls H.out).mono ?_
  rintro e w1 ⟨rfl, hb1⟩
  obtain ⟨tm, fg, fz, FF, l, tb, h⟩ := H.out.ex hb1
  have hc : w1.cell? ⟨g, 5, none⟩ = some (ptrV fz) := by rw [h.blk.cell]; rfl
  have HZ := Lib.hid h.fub
  clear h
  go_wp2_with fail
  refine (fup_calls HZ.out).mono ?_
  rintro e w2 ⟨rfl, hb2⟩
  go_wp2_with fail
  go_ret
  exact ⟨rfl, hb1.trans hb2⟩
theorem dcount_calls {w : World} {g : Nat} {F : Nat → Prop} {Q : DkV} (h : DkP w g F Q) : Calls Tryz.prog 21 #[ptrV g] w fun e w' => e = .returned (.int .i64 (Q.calls : Int)) ∧ Ex w w' := by
  have H := Lib.hid h
  clear h
  go_enter Tryz.func21, Tryz.ntmps21
  go_wp2_with fail
  refine (dnone_calls H.out).mono ?_
  rintro e w1 ⟨rfl, hb1⟩
  obtain ⟨tm, fg, fz, FF, l, tb, h⟩ := H.out.ex hb1
  have hc : w1.cell? ⟨g, 2, none⟩ = some (.int .i64 (Q.calls : Int)) := by rw [h.blk.cell]; rfl
  clear h
  go_wp2_with fail
  go_ret
  exact ⟨rfl, hb1⟩
theorem arm_no {f : FuV} {k a : Int} (h : (f.arm k a).2 = false) : (f.arm k a).1 = f := by
  unfold FuV.arm at *
  by_cases h1 : k < 0 ∨ 4 ≤ k ∨ a < 0
  · rw [if_pos h1]
  · rw [if_neg h1] at h
    by_cases h2 : k = 0
    · rw [if_pos h2] at h; cases h
    · rw [if_neg h2] at h
      by_cases h3 : k = 1
      · rw [if_pos h3] at h; cases h
      · rw [if_neg h3] at h
        by_cases h4 : k = 2
        · rw [if_pos h4] at h; cases h
        · rw [if_neg h4] at h; cases h
set_option maxHeartbeats 1000000 in
set_option maxRecDepth 100000 in
theorem dfault_calls {w : World} {g : Nat} {F : Nat → Prop} {Q : DkV} (h : DkP w g F Q) (k a : Int) :
    Calls Tryz.prog 12 #[ptrV g, .agg #[.int .i64 k, .int .i64 a]] w fun e w' => e = .returned (.int .i64 (Q.fault k a).2) ∧ DkP w' g F (Q.fault k a).1 ∧ Off F w w' := by
  have HP := Lib.hid h
  clear h
  have hX0 := ex_alloc (Ex.refl w) (.cells #[.int .i64 k, .int .i64 a] 45)
  have hK : Blk (w.alloc (.cells #[.int .i64 k, .int .i64 a] 45)) w.heap.size 45 [.int .i64 k, .int .i64 a] := Blk.new w _ _
  cases hf : Q.fu.off
  · have HF := Lib.hid hf
    cases ha : (Q.fu.arm k a).2
    · have HE := Lib.hid (show Q.fault k a = (Q, 2) from by unfold DkV.fault; rw [if_neg (by rw [hf]; decide), if_neg (by rw [ha]; decide)])
      have HA := Lib.hid ha
      clear hf ha
      go_enter Tryz.func12, Tryz.ntmps12
      go_wp2_with fail
      refine (dready_calls (HP.out.ex hX0)).mono ?_
      rintro e w1 ⟨rfl, hb1⟩
      rw [HF.out]
      have HX := Lib.hid (hX0.trans hb1)
      have HK1 := hK.ex hb1
      obtain ⟨tm, fg, fz, FF, l, tb, hR⟩ := HP.out.ex HX.out
      have c5 : w1.cell? ⟨g, 5, none⟩ = some (ptrV fz) := by rw [hR.blk.cell]; rfl
      have k0 : w1.cell? ⟨w.heap.size, 0, none⟩ = some (.int .i64 k) := by rw [HK1.cell]; rfl
      have k1 : w1.cell? ⟨w.heap.size, 1, none⟩ = some (.int .i64 a) := by rw [HK1.cell]; rfl
      have HR := Lib.hid hR
      have hgz : ¬ w.heap.size = fz := fun e => by
        have h1 := HR.out.fub.cell 5
        rw [← e] at h1
        have h2 := HK1.cell 5
        rw [h2] at h1
        cases h1
      have hgz' : ¬ g = fz := hR.gz
      clear hR hb1 hX0 hK HK1
      go_wp2_with fail
      go_region_held3 (fun w' => w'.cell? ⟨g, 5, none⟩ = some (ptrV fz) ∧ w'.cell? ⟨w.heap.size, 0, none⟩ = some (.int .i64 k) ∧ w'.cell? ⟨w.heap.size, 1, none⟩ = some (.int .i64 a)) (go_keep) ((go_at_call 55; refine (farm_calls k a (HR.out.ex (Ex.refl w1).drew).fub).mono ?_; rintro e w2 ⟨rfl, hB2, hO2⟩; rw [HA.out]; have HR2 := Lib.hid (DkR.fuse_ (HR.out.ex (Ex.refl w1).drew) hO2 hB2); have HO2 := Lib.hid (Off.trans (Ex.off (Ex.refl w1).drew F) (hO2.mono fun _ _ e => e ▸ HR.out.fz_)); have d5 := hO2.cell (show w1.drew.cell? ⟨g, 5, none⟩ = some (ptrV fz) from c5) hgz'; have e0 := hO2.cell (show w1.drew.cell? ⟨w.heap.size, 0, none⟩ = some (.int .i64 k) from k0) hgz; have e1 := hO2.cell (show w1.drew.cell? ⟨w.heap.size, 1, none⟩ = some (.int .i64 a) from k1) hgz; clear hB2 hO2))
      go_wp2_with fail
      go_ret
      have e1 : ({ Q with fu := (Q.fu.arm k a).1 } : DkV) = Q := by
        have : (Q.fu.arm k a).1 = Q.fu := arm_no HA.out
        rw [this]
      have h2 := HR2.out
      rw [e1] at h2
      exact ⟨by rw [HE.out]; rfl, by rw [HE.out]; exact ⟨_, _, _, _, _, _, h2⟩, (HX.out.off F).trans HO2.out⟩
    · have HE := Lib.hid (show Q.fault k a = ({ Q with fu := (Q.fu.arm k a).1 }, 0) from by unfold DkV.fault; rw [if_neg (by rw [hf]; decide), if_pos ha])
      have HA := Lib.hid ha
      clear hf ha
      go_enter Tryz.func12, Tryz.ntmps12
      go_wp2_with fail
      refine (dready_calls (HP.out.ex hX0)).mono ?_
      rintro e w1 ⟨rfl, hb1⟩
      rw [HF.out]
      have HX := Lib.hid (hX0.trans hb1)
      have HK1 := hK.ex hb1
      obtain ⟨tm, fg, fz, FF, l, tb, hR⟩ := HP.out.ex HX.out
      have c5 : w1.cell? ⟨g, 5, none⟩ = some (ptrV fz) := by rw [hR.blk.cell]; rfl
      have k0 : w1.cell? ⟨w.heap.size, 0, none⟩ = some (.int .i64 k) := by rw [HK1.cell]; rfl
      have k1 : w1.cell? ⟨w.heap.size, 1, none⟩ = some (.int .i64 a) := by rw [HK1.cell]; rfl
      have HR := Lib.hid hR
      have hgz : ¬ w.heap.size = fz := fun e => by
        have h1 := HR.out.fub.cell 5
        rw [← e] at h1
        have h2 := HK1.cell 5
        rw [h2] at h1
        cases h1
      have hgz' : ¬ g = fz := hR.gz
      clear hR hb1 hX0 hK HK1
      go_wp2_with fail
      go_region_held3 (fun w' => w'.cell? ⟨g, 5, none⟩ = some (ptrV fz) ∧ w'.cell? ⟨w.heap.size, 0, none⟩ = some (.int .i64 k) ∧ w'.cell? ⟨w.heap.size, 1, none⟩ = some (.int .i64 a)) (go_keep) ((go_at_call 55; refine (farm_calls k a (HR.out.ex (Ex.refl w1).drew).fub).mono ?_; rintro e w2 ⟨rfl, hB2, hO2⟩; rw [HA.out]; have HR2 := Lib.hid (DkR.fuse_ (HR.out.ex (Ex.refl w1).drew) hO2 hB2); have HO2 := Lib.hid (Off.trans (Ex.off (Ex.refl w1).drew F) (hO2.mono fun _ _ e => e ▸ HR.out.fz_)); have d5 := hO2.cell (show w1.drew.cell? ⟨g, 5, none⟩ = some (ptrV fz) from c5) hgz'; have e0 := hO2.cell (show w1.drew.cell? ⟨w.heap.size, 0, none⟩ = some (.int .i64 k) from k0) hgz; have e1 := hO2.cell (show w1.drew.cell? ⟨w.heap.size, 1, none⟩ = some (.int .i64 a) from k1) hgz; clear hB2 hO2))
      go_wp2_with fail
      go_ret
      exact ⟨by rw [HE.out]; rfl, by rw [HE.out]; exact ⟨_, _, _, _, _, _, HR2.out⟩, (HX.out.off F).trans HO2.out⟩
  · have HF := Lib.hid hf
    have HE := Lib.hid (show Q.fault k a = (Q, 14) from by unfold DkV.fault; rw [if_pos hf])
    clear hf
    go_enter Tryz.func12, Tryz.ntmps12
    go_wp2_with fail
    refine (dready_calls (HP.out.ex hX0)).mono ?_
    rintro e w1 ⟨rfl, hb1⟩
    rw [HF.out]
    go_wp2_with fail
    go_ret
    exact ⟨by rw [HE.out]; rfl, by rw [HE.out]; exact HP.out.ex (hX0.trans hb1), (hX0.trans hb1).off F⟩
end Go.Proofs.YtomfcgeibbicoaaGreat
namespace Go.Proofs.YtomfcgeibbicoaaGreat
open Go.RowKit Go.Maps
/-- The choices that are left. -/
def restS (ch : ByteArray) (u : Nat) : ByteArray := ch.extract (min u ch.size) ch.size
theorem rest_calls {w : World} {cb ub : Nat} {ch : ByteArray} {u : Nat} (hu : u ≤ 4611686018427387904) (hs : ch.size ≤ 4611686018427387904) (hc : w.cell? ⟨cb, 0, none⟩ = some (.string ch)) (hb : w.cell? ⟨ub, 0, none⟩ = some (.int .i64 (u : Int))) :
    Calls Tryz.prog 159 #[.pointer (some ⟨cb, 0, none⟩), .pointer (some ⟨ub, 0, none⟩)] w fun e w' => e = .returned (.string (restS ch u)) ∧ Ex w w' := by
  go_enter Tryz.func159, Tryz.ntmps159
  go_wp2_with fail
  go_ret
  exact ⟨congrArg (fun v => Ending.returned (Value.string v)) (show ch.extract (min (u : Int) (ch.size : Int)).toNat ch.size = restS ch u by unfold restS; rw [show (min (u : Int) (ch.size : Int)).toNat = min u ch.size by omega]), Ex.refl _⟩
theorem use_calls {w : World} {ub : Nat} {u n : Nat} (hu : u + n ≤ 4611686018427387904) (hb : Blk w ub 3 [.int .i64 (u : Int)]) :
    Calls Tryz.prog 160 #[.int .i64 (n : Int), .pointer (some ⟨ub, 0, none⟩)] w fun e w' => e = .returned (.int .i64 ((u + n : Nat) : Int)) ∧ Blk w' ub 3 [.int .i64 ((u + n : Nat) : Int)] ∧ Off (· = ub) w w' := by
  have hc : w.cell? ⟨ub, 0, none⟩ = some (.int .i64 (u : Int)) := by rw [hb.cell]; rfl
  have hf := hb.frozen 0
  have HR := Lib.hid (hb.setCell (i := 0) (.int .i64 ((u : Int) + (n : Int))))
  have HO := Lib.hid (off_set w ub 0 (.int .i64 ((u : Int) + (n : Int))))
  clear hb
  go_enter Tryz.func160, Tryz.ntmps160
  go_wp2_with fail
  go_ret
  refine ⟨by show Ending.returned (.int .i64 ((u : Int) + (n : Int))) = _; rw [Int.natCast_add], ?_, HO.out⟩
  rw [Int.natCast_add]
  exact HR.out
theorem chooser_calls (ch : ByteArray) (w : World) : Calls Tryz.prog 98 #[.string ch] w fun e w' => ∃ cb ub, e = .returned (.tuple #[.func (.func 159) #[] #[.pointer (some ⟨cb, 0, none⟩), .pointer (some ⟨ub, 0, none⟩)], .func (.func 160) #[] #[.pointer (some ⟨ub, 0, none⟩)]]) ∧
    w.heap.size ≤ cb ∧ w.heap.size ≤ ub ∧ cb ≠ ub ∧ Blk w' cb 9 [.string ch] ∧ Blk w' ub 3 [.int .i64 ((0 : Nat) : Int)] ∧ Ex w w' := by
  have k1 := (Blk.new w [.string ch] 9).ex (ex_alloc (Ex.refl _) (.cells #[.int .i64 0] 3))
  have k2 := blk_two w (.cells #[.string ch] 9) [.int .i64 0] 3
  have HK1 := Lib.hid k1
  have HK2 := Lib.hid k2
  clear k1 k2
  go_enter Tryz.func98, Tryz.ntmps98
  go_wp2_with fail
  go_ret2
  exact ⟨w.heap.size, w.heap.size + 1, rfl, Nat.le_refl _, by omega, by omega, HK1.out, HK2.out, ex_two w _ _⟩
/-- What the tapes of these numbers come to, and how many choices are used. -/
def crashL (ch : ByteArray) : List Int → DkV × Nat → DkV × Nat
  | [], s => s
  | id :: r, s => crashL ch r (s.1.setT id ⟨(mixS (s.1.tapeAt id).kp (s.1.tapeAt id).nw (restS ch s.2)).1, (mixS (s.1.tapeAt id).kp (s.1.tapeAt id).nw (restS ch s.2)).1⟩, s.2 + (mixS (s.1.tapeAt id).kp (s.1.tapeAt id).nw (restS ch s.2)).2)
theorem crashL_succ (ch : ByteArray) : ∀ (ids : List Int) (s : DkV × Nat) (id : Int), crashL ch (ids ++ [id]) s = crashL ch [id] (crashL ch ids s)
  | [], _, _ => rfl
  | x :: r, s, id => by
    show crashL ch (r ++ [id]) _ = crashL ch [id] (crashL ch r _)
    exact crashL_succ ch r _ id
def DkV.crash1 (Q : DkV) (ch : ByteArray) : DkV := { Q with fu := FuV.calm, fo := Q.fo.crash (byteAt ch 0 : Int) }
def DkV.crash (Q : DkV) (ch : ByteArray) : DkV × Nat := crashL ch Q.fo.ids (Q.crash1 ch, 1)
theorem mix_sz {old now ch : ByteArray} (h1 : old.size ≤ 131072) (h2 : now.size ≤ 131072) : (mixS old now ch).1.size ≤ 131072 ∧ (mixS old now ch).2 ≤ 4096 := by
  have h3 : cntS (max old.size now.size) ≤ 4096 := by unfold cntS; omega
  have h4 := mixTo_size old now ch (cntS (max old.size now.size))
  have h5 := mixTo_used old now ch (cntS (max old.size now.size))
  have h6 := List.length_filter_le (unS old now) (List.range (cntS (max old.size now.size)))
  rw [List.length_range] at h6
  unfold mixS
  exact ⟨by omega, by omega⟩
theorem setT_ok {Q : DkV} {M : Nat} {id : Int} {t : TpV} (h : Q.Ok M) (ht : t.kp.size ≤ 131072 ∧ t.nw.size ≤ 131072) : (Q.setT id t).Ok M :=
  ⟨h.fo, h.fu, h.s1, h.s2, by unfold DkV.setT; simpa using h.tl, h.cl, fun x hx => by
    rcases List.mem_or_eq_of_mem_set hx with hx | rfl
    · exact h.tz x hx
    · exact ht⟩
theorem tapeAt_ok {Q : DkV} {M : Nat} (h : Q.Ok M) (id : Int) : (Q.tapeAt id).kp.size ≤ 131072 ∧ (Q.tapeAt id).nw.size ≤ 131072 := by
  unfold DkV.tapeAt
  rw [List.getD_eq_getElem?_getD]
  cases hq : Q.tapes[(id - 1).toNat]? with
  | none => exact ⟨Nat.zero_le _, Nat.zero_le _⟩
  | some t => exact h.tz t (List.mem_of_getElem? hq)
theorem crashL_ok {ch : ByteArray} {M : Nat} : ∀ (ids : List Int) (s : DkV × Nat), s.1.Ok M → (crashL ch ids s).1.Ok M ∧ (crashL ch ids s).2 ≤ s.2 + 4096 * ids.length
  | [], s, h => ⟨h, by show s.2 ≤ s.2 + 4096 * 0; omega⟩
  | id :: r, s, h => by
    have hz := tapeAt_ok h id
    have hm := mix_sz (ch := restS ch s.2) hz.1 hz.2
    have := crashL_ok (ch := ch) r (s.1.setT id ⟨(mixS (s.1.tapeAt id).kp (s.1.tapeAt id).nw (restS ch s.2)).1, (mixS (s.1.tapeAt id).kp (s.1.tapeAt id).nw (restS ch s.2)).1⟩, s.2 + (mixS (s.1.tapeAt id).kp (s.1.tapeAt id).nw (restS ch s.2)).2) (setT_ok h ⟨hm.1, hm.1⟩)
    refine ⟨this.1, ?_⟩
    have h2 := this.2
    simp only at h2
    rw [List.length_cons]
    show (crashL ch r _).2 ≤ _
    omega
theorem calm_ok : FuV.calm.Ok := ⟨by unfold inF; show (-1 : Int) ≤ -1 ∧ (-1 : Int) ≤ _; omega, by unfold inF; show (-1 : Int) ≤ -1 ∧ (-1 : Int) ≤ _; omega, by unfold inF; show (-1 : Int) ≤ -1 ∧ (-1 : Int) ≤ _; omega⟩
theorem crash1_ok {Q : DkV} {M : Nat} (h : Q.Ok M) (ch : ByteArray) : (Q.crash1 ch).Ok M :=
  ⟨FoV.Ok.settle h.fo (FoV.pick_le _ _), calm_ok, h.s1, h.s2, h.tl, h.cl, h.tz⟩
theorem crash_ok {Q : DkV} {M : Nat} (h : Q.Ok M) (ch : ByteArray) : (Q.crash ch).1.Ok M := (crashL_ok _ _ (crash1_ok h ch)).1
end Go.Proofs.YtomfcgeibbicoaaGreat
