/- Walks: texts are saved as files. -/
import Derived.Test.YtcffkmlnbnjibaaGreatPbB
import Derived.Test.YtcffkmlnbnjibaaGreatTiU
namespace Go.Proofs.YtcffkmlnbnjibaaGreat
open Go.RowKit Go.Maps
def namedR (s : ByteArray) : Int := if userB s = true then 0 else 7
theorem namedR_no {s : ByteArray} (h : userB s = false) : namedR s = 7 := by unfold namedR; rw [h]; rfl
theorem namedR_yes {s : ByteArray} (h : userB s = true) : namedR s = 0 := by unfold namedR; rw [h]; rfl
theorem named_calls {w : World} {A : Option Addr} {c : Nat} {s : ByteArray} (hr : Row w 1 A 1 [.string s]) :
    Calls Tryz.prog 100 #[.slice A 1 c] w fun e w' => e = .returned (.int .i64 (namedR s)) ∧ Ex w w' := by
  obtain ⟨b, o, rfl, hc⟩ := hr.2 (by omega)
  have hc0 := hc 0 _ rfl
  rw [Nat.add_zero] at hc0
  have HC := Lib.hid hc0
  clear hc hc0 hr
  go_enter Tryz.func100, Tryz.ntmps100
  go_wp2_with fail
  go_loopw [4, 7] (fun _ v7 wr => ((v7 = .int .i64 0) ∨ (v7 = .int .i64 1 ∧ userB s = true)) ∧ Ex w wr) (fun _ v7 _ => 1 - (intOf v7).toNat)
  case atStart => exact ⟨.inl rfl, Ex.refl _⟩
  case round =>
    obtain ⟨hv, hb⟩ := hrel
    have HX := Lib.hid hb
    have c0 := hb.cell HC.out
    clear hb
    rcases hv with rfl | ⟨rfl, hu⟩
    · go_wp2_with fail
      refine (user_calls s _).mono ?_
      rintro e w1 ⟨rfl, hb1⟩
      have HX1 := Lib.hid (HX.out.trans hb1)
      clear hb1 c0
      cases hu : userB s
      · have HU := Lib.hid hu
        go_wp2_with fail
        go_ret
        exact ⟨by rw [namedR_no HU.out]; rfl, HX1.out⟩
      · go_wp2_with fail
        exact ⟨⟨.inr ⟨rfl, hu⟩, HX1.out⟩, by simp [intOf]⟩
    · have HU := Lib.hid hu
      clear hu
      go_wp2_with fail
      go_ret
      exact ⟨by rw [namedR_yes HU.out]; rfl, HX.out⟩
namespace DkV
def save (Q : DkV) (nm x : ByteArray) : DkV × Nat × Int := if userB nm = false then (Q, 0, 7) else if 4096 < x.size then (Q, 0, 6) else Q.pub tmpS (frExp ++ nm) x
def rexp (Q : DkV) (nm : ByteArray) : ByteArray × Int := if userB nm = false then (⟨#[]⟩, 7) else Q.read (frExp ++ nm)
end DkV
theorem expS_size {s : ByteArray} (h : userB s = true) : (frExp ++ s).size ≤ 18 := by
  have := user_le h
  rw [ByteArray.size_append]
  have : frExp.size = 2 := rfl
  omega
theorem save_ok {Q : DkV} {M : Nat} {nm x : ByteArray} (h : Q.Ok M) (hM : M ≤ 600000) : (Q.save nm x).1.Ok (M + 22) := by
  unfold DkV.save
  split
  · exact h.up (by omega)
  · rename_i hu
    have hu : userB nm = true := by cases h : userB nm; exact absurd h hu; rfl
    split
    · exact h.up (by omega)
    · exact pub_ok h hM (by decide) (by have := expS_size hu; omega)
theorem str_row (w : World) (s : ByteArray) (T : TypeId) : Row (w.alloc (.cells #[.string s] T)) 1 (some ⟨w.heap.size, 0, none⟩) 1 [.string s] := by
  have := (Blk.new w [.string s] T).row (k := 1) (n := 1) (by simp)
  simpa using this
set_option maxRecDepth 100000 in
set_option maxHeartbeats 1000000 in
theorem save_calls {w : World} {g : Nat} {F : Nat → Prop} {Q : DkV} (h : DkP w g F Q) {M : Nat} (ho : Q.Ok M) (hM : M ≤ 600000) (nm x : ByteArray) (hx : x.size ≤ 9223372036854775807) :
    Calls Tryz.prog 41 #[ptrV g, .string nm, .string x] w fun e w' => e = .returned (.tuple #[.int .i64 ((Q.save nm x).2.1 : Int), .int .i64 (Q.save nm x).2.2]) ∧ DkP w' g (Fresh F w w') (Q.save nm x).1 ∧ Off F w w' := by
  have HR := Lib.hid (str_row w nm 9)
  have hX0 := ex_alloc (Ex.refl w) (.cells #[.string nm] 9)
  have HX0 := Lib.hid hX0
  have HP := Lib.hid (h.bound.ex hX0)
  have HO := Lib.hid ho
  have HP' := Lib.hid h
  clear h ho hX0
  cases hu : userB nm
  · have HE := Lib.hid (show Q.save nm x = (Q, 0, 7) from by unfold DkV.save; rw [if_pos hu])
    go_enter Tryz.func41, Tryz.ntmps41
    go_wp2_with fail
    refine (named_calls HR.out).mono ?_
    rintro e w1 ⟨rfl, hb1⟩
    have hX := HX0.out.trans hb1
    rw [namedR_no hu]
    go_wp2_with fail
    go_ret2
    rw [HE.out]
    exact ⟨rfl, (HP'.out.ex hX).more (fun k hk => .inl hk), Ex.off hX F⟩
  · have hz := expS_size hu
    by_cases hl : 4096 < x.size
    · have HE := Lib.hid (show Q.save nm x = (Q, 0, 6) from by unfold DkV.save; rw [if_neg (by rw [hu]; decide), if_pos hl])
      have d1 : decide (4096 < (x.size : Int)) = true := decide_eq_true (by omega)
      go_enter Tryz.func41, Tryz.ntmps41
      go_wp2_with fail
      refine (named_calls HR.out).mono ?_
      rintro e w1 ⟨rfl, hb1⟩
      have hX := HX0.out.trans hb1
      rw [namedR_yes hu]
      go_wp2_with fail
      go_ret2
      rw [HE.out]
      exact ⟨rfl, (HP'.out.ex hX).more (fun k hk => .inl hk), Ex.off hX F⟩
    · have HE := Lib.hid (show Q.save nm x = Q.pub tmpS (frExp ++ nm) x from by unfold DkV.save; rw [if_neg (by rw [hu]; decide), if_neg hl])
      have d1 : decide (4096 < (x.size : Int)) = false := decide_eq_false (by omega)
      have HEX := Lib.hid (show expS nm = frExp ++ nm from by unfold expS; rw [if_pos hu])
      go_enter Tryz.func41, Tryz.ntmps41
      go_wp2_with fail
      refine (named_calls HR.out).mono ?_
      rintro e w1 ⟨rfl, hb1⟩
      have HX1 := Lib.hid (HX0.out.trans hb1)
      clear hb1
      rw [namedR_yes hu]
      go_wp2_with fail
      refine (tempSave_calls _).mono ?_
      rintro e w2 ⟨rfl, hb2⟩
      have HX2 := Lib.hid (HX1.out.trans hb2)
      clear hb2
      go_wp2_with fail
      refine (ofExport_calls nm _).mono ?_
      rintro e w3 ⟨rfl, hb3⟩
      have HX3 := Lib.hid (HX2.out.trans hb3)
      clear hb3
      rw [HEX.out]
      have HP3 := Lib.hid (HP'.out.ex HX3.out)
      go_wp2_with fail
      refine (pub_calls HP3.out HO.out hM tmpS (frExp ++ nm) x (by decide) (by omega) (by omega)).mono ?_
      rintro e w4 ⟨rfl, hP, hO⟩
      have HS := Lib.hid (Mid.step ((Mid.start HP'.out).ex HX3.out) hP hO)
      clear hP hO
      go_wp2_with fail
      go_ret2
      rw [HE.out]
      exact ⟨rfl, HS.out.fin.1, HS.out.fin.2⟩
set_option maxRecDepth 100000 in
theorem rexp_calls {w : World} {g : Nat} {F : Nat → Prop} {Q : DkV} (h : DkP w g F Q) {M : Nat} (ho : Q.Ok M) (hM : M ≤ 800000) (nm : ByteArray) :
    Calls Tryz.prog 43 #[ptrV g, .string nm] w fun e w' => e = .returned (.tuple #[.string (Q.rexp nm).1, .int .i64 (Q.rexp nm).2]) ∧ Ex w w' := by
  have HR := Lib.hid (str_row w nm 9)
  have hX0 := ex_alloc (Ex.refl w) (.cells #[.string nm] 9)
  have HX0 := Lib.hid hX0
  have HO := Lib.hid ho
  have HP' := Lib.hid h
  clear h ho hX0
  cases hu : userB nm
  · have HE := Lib.hid (show Q.rexp nm = (⟨#[]⟩, 7) from by unfold DkV.rexp; rw [if_pos hu])
    go_enter Tryz.func43, Tryz.ntmps43
    go_wp2_with fail
    refine (named_calls HR.out).mono ?_
    rintro e w1 ⟨rfl, hb1⟩
    have hX := HX0.out.trans hb1
    rw [namedR_no hu]
    go_wp2_with fail
    go_ret2
    rw [HE.out]
    exact ⟨rfl, hX⟩
  · have hz := expS_size hu
    have HE := Lib.hid (show Q.rexp nm = Q.read (frExp ++ nm) from by unfold DkV.rexp; rw [if_neg (by rw [hu]; decide)])
    have HEX := Lib.hid (show expS nm = frExp ++ nm from by unfold expS; rw [if_pos hu])
    go_enter Tryz.func43, Tryz.ntmps43
    go_wp2_with fail
    refine (named_calls HR.out).mono ?_
    rintro e w1 ⟨rfl, hb1⟩
    have HX1 := Lib.hid (HX0.out.trans hb1)
    clear hb1
    rw [namedR_yes hu]
    go_wp2_with fail
    refine (ofExport_calls nm _).mono ?_
    rintro e w3 ⟨rfl, hb3⟩
    have HX3 := Lib.hid (HX1.out.trans hb3)
    clear hb3
    rw [HEX.out]
    have HP3 := Lib.hid (HP'.out.ex HX3.out)
    go_wp2_with fail
    refine (dread_calls HP3.out HO.out hM (frExp ++ nm) (by omega)).mono ?_
    rintro e w4 ⟨rfl, hb4⟩
    have HX4 := Lib.hid (HX3.out.trans hb4)
    clear hb4
    go_wp2_with fail
    go_ret2
    rw [HE.out]
    exact ⟨rfl, HX4.out⟩
end Go.Proofs.YtcffkmlnbnjibaaGreat
