/- The example of law 35. -/
import Derived.Test.YtcffkmlnbnjibaaGreatPbB
import Derived.Test.YtcffkmlnbnjibaaGreatDkQ
namespace Go.Proofs.YtcffkmlnbnjibaaGreat
open Go.RowKit Go.Maps
def pT : ByteArray := ⟨#[116]⟩
def pA : ByteArray := ⟨#[97]⟩
def pX : ByteArray := ⟨#[120]⟩
set_option maxRecDepth 100000 in
theorem lv35_pub : ((DkV.fresh 9).pub pT pA pX).2 = (5, 0) ∧ ((DkV.fresh 9).pub pT pA pX).1.read pA = (pX, 0) := by constructor <;> kernel_rfl
set_option maxHeartbeats 1000000 in
set_option maxRecDepth 100000 in
theorem lv35_calls (w : World) : Calls Tryz.prog 33 #[] w fun e w' => e = .returned (.bool true) ∧ Ex w w' := by
  go_enter Tryz.func33, Tryz.ntmps33
  go_wp2_with fail
  refine (dnew_calls 9 w (by omega) (by omega)).mono ?_
  rintro e w1 ⟨⟨g, rfl, hg, hP⟩, hb1⟩
  have HP1 := Lib.hid (DkP.more (G := NewB w) hP (fun k hk => by rcases hk with hk | hk; exact hk.elim; exact hk.1))
  have HX1 := Lib.hid hb1
  have HO1 := Lib.hid (fresh_ok (n := 9) (by omega) (by omega))
  clear hP hb1
  go_wp2_with fail
  refine (pub_calls HP1.out HO1.out (by omega) pT pA pX (by decide) (by decide) (by decide)).mono ?_
  rintro e w2 ⟨rfl, hP, hO⟩
  have HS2 := Lib.hid (DkP.step HX1.out hP hO)
  have HO2 := Lib.hid (pub_ok (s := pT) (b := pA) (x := pX) HO1.out (by omega) (by decide) (by decide))
  have HL := Lib.hid lv35_pub.2
  rw [lv35_pub.1]
  generalize ((DkV.fresh 9).pub pT pA pX).1 = Q2 at *
  clear hP hO
  go_wp2_with fail
  refine (dread_calls HS2.out.1 HO2.out (by omega) pA (by decide)).mono ?_
  rintro e w7 ⟨rfl, hb7⟩
  rw [HL.out]
  unfold pX
  go_wp2_with fail
  go_ret
  exact ⟨rfl, HS2.out.2.trans hb7⟩
end Go.Proofs.YtcffkmlnbnjibaaGreat
