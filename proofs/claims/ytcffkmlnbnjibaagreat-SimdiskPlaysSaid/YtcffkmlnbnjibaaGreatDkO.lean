/- Walks: the page's example of a disk; SimdiskNobody. -/
import Derived.Test.YtcffkmlnbnjibaaGreatDkN
namespace Go.Proofs.YtcffkmlnbnjibaaGreat
open Go.RowKit Go.Maps
/-- All blocks that were not there. -/
abbrev NewB (w : World) : Nat → Prop := fun k => w.heap.size ≤ k
theorem new_fresh {w wi wj : World} (hX : Ex w wi) : ∀ k, Fresh (NewB w) wi wj k → NewB w k := fun k hk => by
  rcases hk with hk | hk
  · exact hk
  · exact Nat.le_trans hX.size hk.1
theorem new_off {w wi wj : World} (hX : Ex w wi) (hO : Off (NewB w) wi wj) : Ex w wj := Below.trans hX (hO.below hX.size fun _ hk => hk)
/-- A step of a disk of the call's own. -/
theorem DkP.step {w wi wj : World} {g : Nat} {Q : DkV} (hX : Ex w wi) (h : DkP wj g (Fresh (NewB w) wi wj) Q) (hO : Off (NewB w) wi wj) : DkP wj g (NewB w) Q ∧ Ex w wj := ⟨h.more (new_fresh hX), new_off hX hO⟩
theorem DkP.bound {w : World} {g : Nat} {F : Nat → Prop} {Q : DkV} (h : DkP w g F Q) : DkP w g (fun k => F k ∧ k < w.heap.size) Q := by
  obtain ⟨tm, fg, fz, FF, l, tb, h⟩ := h
  exact ⟨tm, fg, fz, FF, l, tb, h.bound⟩
def sA : ByteArray := ⟨#[97]⟩
def sX : ByteArray := ⟨#[120]⟩
def sE : ByteArray := ⟨#[]⟩
set_option maxHeartbeats 1000000 in
set_option maxRecDepth 100000 in
theorem dlives_calls (w : World) : Calls Tryz.prog 25 #[] w fun e w' => e = .returned (.bool true) ∧ Ex w w' := by
  go_enter Tryz.func25, Tryz.ntmps25
  go_wp2_with fail
  refine (dnew_calls 9 w (by omega) (by omega)).mono ?_
  rintro e w1 ⟨⟨g, rfl, hg, hP⟩, hb1⟩
  have HP1 := Lib.hid (DkP.more (G := NewB w) hP (fun k hk => by rcases hk with hk | hk; exact hk.elim; exact hk.1))
  have HX1 := Lib.hid hb1
  have HO1 := Lib.hid (fresh_ok (n := 9) (by omega) (by omega))
  clear hP hb1
  go_wp2_with fail
  refine (dcreate_calls HP1.out HO1.out (by omega) sA (by decide)).mono ?_
  rintro e w2 ⟨rfl, hP, hO⟩
  have HS2 := Lib.hid (DkP.step HX1.out hP hO)
  have HO2 := Lib.hid (create_ok (s := sA) HO1.out (by omega) (by decide))
  generalize ((DkV.fresh 9).create sA).2 = r2
  obtain ⟨Q2, hQ2⟩ : ∃ Q2, Q2 = ((DkV.fresh 9).create sA).1 := ⟨_, rfl⟩
  rw [← hQ2] at HS2 HO2
  have HQ2 := Lib.hid hQ2
  clear hP hO hQ2
  go_wp2_with fail
  refine (dappend_calls HS2.out.1 HO2.out (by omega) sA sX (by decide) (by decide)).mono ?_
  rintro e w3 ⟨rfl, hP, hO⟩
  have HS3 := Lib.hid (DkP.step HS2.out.2 hP hO)
  have HO3 := Lib.hid (append_ok (s := sA) (x := sX) HO2.out)
  generalize (Q2.append sA sX).2 = r3
  obtain ⟨Q3, hQ3⟩ : ∃ Q3, Q3 = (Q2.append sA sX).1 := ⟨_, rfl⟩
  rw [← hQ3] at HS3 HO3
  have HQ3 := Lib.hid hQ3
  clear hP hO hQ3
  go_wp2_with fail
  refine (dsync_calls HS3.out.1 HO3.out (by omega) sA (by decide)).mono ?_
  rintro e w4 ⟨rfl, hP, hO⟩
  have HS4 := Lib.hid (DkP.step HS3.out.2 hP hO)
  have HO4 := Lib.hid (syncT_ok (s := sA) HO3.out)
  generalize (Q3.syncT sA).2 = r4
  obtain ⟨Q4, hQ4⟩ : ∃ Q4, Q4 = (Q3.syncT sA).1 := ⟨_, rfl⟩
  rw [← hQ4] at HS4 HO4
  have HQ4 := Lib.hid hQ4
  clear hP hO hQ4
  go_wp2_with fail
  refine (dsyncAll_calls HS4.out.1 HO4.out (by omega)).mono ?_
  rintro e w5 ⟨rfl, hP, hO⟩
  have HS5 := Lib.hid (DkP.step HS4.out.2 hP hO)
  have HO5 := Lib.hid (syncAll_ok HO4.out)
  generalize Q4.syncAll.2 = r5
  obtain ⟨Q5, hQ5⟩ : ∃ Q5, Q5 = Q4.syncAll.1 := ⟨_, rfl⟩
  rw [← hQ5] at HS5 HO5
  have HQ5 := Lib.hid hQ5
  clear hP hO hQ5
  go_wp2_with fail
  refine (dcrash_calls HS5.out.1 HO5.out (by omega) sE (by decide)).mono ?_
  rintro e w6 ⟨rfl, hP, hO⟩
  have HS6 := Lib.hid (DkP.step HS5.out.2 hP hO)
  have HO6 := Lib.hid (crash_ok HO5.out sE)
  generalize (Q5.crash sE).2 = r6
  obtain ⟨Q6, hQ6⟩ : ∃ Q6, Q6 = (Q5.crash sE).1 := ⟨_, rfl⟩
  rw [← hQ6] at HS6 HO6
  have HQ6 := Lib.hid hQ6
  clear hP hO hQ6
  have HRD : Hid (Q6.read sA = (sX, 0)) := by
    have h1 : Q6 = livesD := by rw [HQ6.out, HQ5.out, HQ4.out, HQ3.out, HQ2.out]; exact rfl
    unfold Hid
    rw [h1]
    exact lives_read
  go_wp2_with fail
  refine (dread_calls HS6.out.1 HO6.out (by omega) sA (by decide)).mono ?_
  rintro e w7 ⟨rfl, hb7⟩
  rw [HRD.out]
  unfold sX
  go_wp2_with fail
  go_ret
  exact ⟨rfl, HS6.out.2.trans hb7⟩
end Go.Proofs.YtcffkmlnbnjibaaGreat
