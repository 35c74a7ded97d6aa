/- Walks: edits: the document's Apply and Shift, the program's Shift. -/
import Derived.Test.YtkclpflgndgabaaUtfD
namespace Go.Proofs.Ytkclpflgndgabaa
open Go.RowKit
structure Ed where
  pl : Int
  old : ByteArray
  nw : ByteArray
namespace Ed
def val (e : Ed) : Value := .agg #[.int .i64 e.pl, .string e.old, .string e.nw]
end Ed
def okAt (t : ByteArray) (e : Ed) : Bool := decide (0 ≤ e.pl ∧ e.pl ≤ t.size)
def okOld (t : ByteArray) (e : Ed) : Bool := decide (e.pl + e.old.size ≤ t.size) && ((t.extract e.pl.toNat (e.pl.toNat + e.old.size)).toList == e.old.toList)
def okEdge (t : ByteArray) (e : Ed) : Bool := edge t e.pl && edge t (e.pl + e.old.size)
def okForm (e : Ed) : Bool := validU e.old && validU e.nw
/-- A text behind an edit, and the error's number. -/
def applyR (t : ByteArray) (e : Ed) : ByteArray × Int :=
  if okAt t e = false then (⟨#[]⟩, 3) else if okOld t e = false then (⟨#[]⟩, 8) else if okEdge t e = false then (⟨#[]⟩, 4) else if okForm e = false then (⟨#[]⟩, 5)
  else if 4096 < t.size - e.old.size + e.nw.size then (⟨#[]⟩, 6) else (t.extract 0 e.pl.toNat ++ e.nw ++ t.extract (e.pl.toNat + e.old.size) t.size, 0)
/-- Where a place comes to be. -/
def shiftR (e : Ed) (p : Int) : Int := if p ≤ e.pl then p else if p - e.pl < e.old.size then e.pl else p - e.old.size + e.nw.size
set_option maxHeartbeats 400000 in
theorem refShiftE_calls (e : Ed) (p : Int) (w : World) (h1 : 0 ≤ e.pl) (h2 : e.pl ≤ 1000000000) (h3 : p ≤ 1000000000) (h3' : -1000000000 ≤ p) (h4 : e.old.size ≤ 1000000000) (h5 : e.nw.size ≤ 1000000000) :
    Calls Try.prog 40 #[.agg #[.int .i64 e.pl, .string e.old, .string e.nw], .int .i64 p] w fun r w' => r = .returned (.int .i64 (shiftR e p)) ∧ Ex w w' := by
  by_cases c1 : p ≤ e.pl
  · have H := Lib.hid (show shiftR e p = p from if_pos c1)
    go_enter Try.func40, Try.ntmps40
    go_wp2
    go_ret
    exact ⟨ret_int H.out.symm, ex_alloc (Ex.refl _) _⟩
  · by_cases c2 : p - e.pl < e.old.size
    · have H := Lib.hid (show shiftR e p = e.pl from by unfold shiftR; rw [if_neg c1, if_pos c2])
      go_enter Try.func40, Try.ntmps40
      go_wp2
      go_ret
      exact ⟨ret_int H.out.symm, ex_alloc (Ex.refl _) _⟩
    · have H := Lib.hid (show shiftR e p = p - e.old.size + e.nw.size from by unfold shiftR; rw [if_neg c1, if_neg c2])
      go_enter Try.func40, Try.ntmps40
      go_wp2
      go_ret
      exact ⟨ret_int H.out.symm, ex_alloc (Ex.refl _) _⟩
set_option maxHeartbeats 400000 in
theorem shiftE_calls (e : Ed) (p : Int) (w : World) (h1 : 0 ≤ e.pl) (h2 : e.pl ≤ 1000000000) (h3 : p ≤ 1000000000) (h3' : -1000000000 ≤ p) (h4 : e.old.size ≤ 1000000000) (h5 : e.nw.size ≤ 1000000000) :
    Calls Try.prog 39 #[.agg #[.int .i64 e.pl, .string e.old, .string e.nw], .int .i64 p] w fun r w' => r = .returned (.int .i64 (shiftR e p)) ∧ Ex w w' := by
  by_cases c1 : p ≤ e.pl
  · have H := Lib.hid (show shiftR e p = p from if_pos c1)
    go_enter Try.func39, Try.ntmps39
    go_wp2
    go_ret
    exact ⟨ret_int H.out.symm, ex_alloc (Ex.refl _) _⟩
  · by_cases c2 : p - e.pl < e.old.size
    · have H := Lib.hid (show shiftR e p = e.pl from by unfold shiftR; rw [if_neg c1, if_pos c2])
      go_enter Try.func39, Try.ntmps39
      go_wp2
      go_ret
      exact ⟨ret_int H.out.symm, ex_alloc (Ex.refl _) _⟩
    · have H := Lib.hid (show shiftR e p = e.pl + (p - e.pl) - e.old.size + e.nw.size from by unfold shiftR; rw [if_neg c1, if_neg c2]; omega)
      go_enter Try.func39, Try.ntmps39
      go_wp2
      go_ret
      exact ⟨ret_int H.out.symm, ex_alloc (Ex.refl _) _⟩
set_option maxHeartbeats 1000000 in
theorem refApply_calls (t : ByteArray) (e : Ed) (w : World) (h1 : t.size ≤ 1000000000) (h4 : e.old.size ≤ 1000000000) (h5 : e.nw.size ≤ 1000000000) :
    Calls Try.prog 20 #[.string t, .agg #[.int .i64 e.pl, .string e.old, .string e.nw]] w fun r w' => r = .returned (.tuple #[.string (applyR t e).1, .int .i64 (applyR t e).2]) ∧ Ex w w' := by
  obtain ⟨p, old, nw⟩ := e
  simp only at h4 h5 ⊢
  by_cases c1 : 0 ≤ p ∧ p ≤ t.size
  · obtain ⟨c1a, c1b⟩ := c1
    obtain ⟨q, rfl⟩ := Int.eq_ofNat_of_zero_le c1a
    have hok : okAt t ⟨(q : Int), old, nw⟩ = true := decide_eq_true ⟨c1a, c1b⟩
    have hq : q ≤ t.size := by omega
    have w1 : IntKind.i64.wrap ((t.size : Int) - (q : Int)) = (t.size : Int) - (q : Int) := IntWalk.i64_in _ (by omega)
    by_cases c2 : q + old.size ≤ t.size
    · have w2 : IntKind.i64.wrap ((q : Int) + (old.size : Int)) = (q : Int) + (old.size : Int) := IntWalk.i64_in _ (by omega)
      have w3 : 0 ≤ (q : Int) + (old.size : Int) := by omega
      have w4 : ((q : Int) + (old.size : Int)).toNat = q + old.size := by omega
      have w5 : (q : Int) ≤ (q : Int) + (old.size : Int) := by omega
      have w6 : (q : Int) + (old.size : Int) ≤ (t.size : Int) := by omega
      have w7 : decide ((t.size : Int) - (q : Int) < (old.size : Int)) = false := decide_eq_false (by omega)
      have w8 : q + old.size ≤ t.size := c2
      have w9 : q ≤ q + old.size := by omega
      go_enter Try.func20, Try.ntmps20
      go_wp2
      go_quiet (fail)
      cases hold : ((t.extract q (q + old.size)).toList == old.toList)
      · have H := Lib.hid (show applyR t ⟨(q : Int), old, nw⟩ = (⟨#[]⟩, 8) from by unfold applyR; rw [if_neg (by rw [hok]; simp), if_pos (show okOld t ⟨(q : Int), old, nw⟩ = false from by unfold okOld; simp only [Int.toNat_natCast]; rw [hold]; simp)])
        clear hold hok
        go_wp2
        go_ret2
        exact ⟨by rw [H.out]; rfl, (ex_alloc (Ex.refl _) _).trans (Dr.ex ⟨_, rfl⟩)⟩
      · have hO : okOld t ⟨(q : Int), old, nw⟩ = true := by unfold okOld; simp only [Int.toNat_natCast]; rw [hold, decide_eq_true (by omega)]; rfl
        have X0 : Ex w ((w.alloc (.cells #[.int .i64 (q : Int), .string old, .string nw] 38)).drewN nq) := (ex_alloc (Ex.refl _) _).trans (Dr.ex ⟨_, rfl⟩)
        have g0 : ((w.alloc (.cells #[.int .i64 (q : Int), .string old, .string nw] 38)).drewN nq).cell? ⟨w.heap.size, 0, none⟩ = some (.int .i64 (q : Int)) := (show Blk _ _ 38 [.int .i64 (q : Int), .string old, .string nw] from heap_alloc_new w _).cell 0
        have g1 : ((w.alloc (.cells #[.int .i64 (q : Int), .string old, .string nw] 38)).drewN nq).cell? ⟨w.heap.size, 1, none⟩ = some (.string old) := (show Blk _ _ 38 [.int .i64 (q : Int), .string old, .string nw] from heap_alloc_new w _).cell 1
        have g2 : ((w.alloc (.cells #[.int .i64 (q : Int), .string old, .string nw] 38)).drewN nq).cell? ⟨w.heap.size, 2, none⟩ = some (.string nw) := (show Blk _ _ 38 [.int .i64 (q : Int), .string old, .string nw] from heap_alloc_new w _).cell 2
        clear hold
        cases hed : okEdge t ⟨(q : Int), old, nw⟩
        · have H := Lib.hid (show applyR t ⟨(q : Int), old, nw⟩ = (⟨#[]⟩, 4) from by unfold applyR; rw [if_neg (by rw [hok]; simp), if_neg (by rw [hO]; simp), if_pos hed])
          have hed' : edge t (q : Int) = false ∨ (edge t (q : Int) = true ∧ edge t ((q : Int) + (old.size : Int)) = false) := by
            unfold okEdge at hed
            cases h : edge t (q : Int)
            · exact .inl rfl
            · rw [show edge t (Ed.pl ⟨(q : Int), old, nw⟩) = true from h, Bool.true_and] at hed
              exact .inr ⟨rfl, hed⟩
          clear hok hO hed
          rcases hed' with he | ⟨he, he2⟩
          · have HE := Lib.hid he
            clear he
            go_wp2_with fail
            refine (refEdge_calls _ _ _).mono ?_
            rintro e w1 ⟨rfl, rfl⟩
            rw [HE.out]
            go_wp2
            go_ret2
            exact ⟨by rw [H.out]; rfl, X0⟩
          · have HE := Lib.hid he
            have HE2 := Lib.hid he2
            clear he he2
            go_wp2_with fail
            refine (refEdge_calls _ _ _).mono ?_
            rintro e w1 ⟨rfl, rfl⟩
            rw [HE.out]
            go_wp2_with fail
            refine (refEdge_calls _ _ _).mono ?_
            rintro e w1 ⟨rfl, rfl⟩
            rw [HE2.out]
            go_wp2
            go_ret2
            exact ⟨by rw [H.out]; rfl, X0⟩
        · obtain ⟨HE, HE2⟩ : Hid (edge t (q : Int) = true) ∧ Hid (edge t ((q : Int) + (old.size : Int)) = true) := by
            unfold okEdge at hed
            rw [Bool.and_eq_true] at hed
            exact ⟨Lib.hid hed.1, Lib.hid hed.2⟩
          cases hf : okForm ⟨(q : Int), old, nw⟩
          · have H := Lib.hid (show applyR t ⟨(q : Int), old, nw⟩ = (⟨#[]⟩, 5) from by unfold applyR; rw [if_neg (by rw [hok]; simp), if_neg (by rw [hO]; simp), if_neg (by rw [hed]; simp), if_pos hf])
            have hf' : validU old = false ∨ (validU old = true ∧ validU nw = false) := by
              unfold okForm at hf
              cases h : validU old
              · exact .inl rfl
              · rw [show validU (Ed.old ⟨(q : Int), old, nw⟩) = true from h, Bool.true_and] at hf
                exact .inr ⟨rfl, hf⟩
            clear hok hO hed hf
            rcases hf' with hv | ⟨hv, hv2⟩
            · have HV := Lib.hid hv
              clear hv
              go_wp2_with fail
              refine (refEdge_calls _ _ _).mono ?_
              rintro e w1 ⟨rfl, rfl⟩
              rw [HE.out]
              go_wp2_with fail
              refine (refEdge_calls _ _ _).mono ?_
              rintro e w1 ⟨rfl, rfl⟩
              rw [HE2.out]
              go_wp2_with fail
              refine (refValid_calls _ _ (by omega)).mono ?_
              rintro e w1 ⟨rfl, hb1⟩
              rw [HV.out]
              go_wp2
              go_ret2
              exact ⟨by rw [H.out]; rfl, X0.trans hb1⟩
            · have HV := Lib.hid hv
              have HV2 := Lib.hid hv2
              clear hv hv2
              go_wp2_with fail
              refine (refEdge_calls _ _ _).mono ?_
              rintro e w1 ⟨rfl, rfl⟩
              rw [HE.out]
              go_wp2_with fail
              refine (refEdge_calls _ _ _).mono ?_
              rintro e w1 ⟨rfl, rfl⟩
              rw [HE2.out]
              go_wp2_with fail
              refine (refValid_calls _ _ (by omega)).mono ?_
              rintro e w1 ⟨rfl, hb1⟩
              rw [HV.out]
              have k2 := Ex.cell hb1 g2
              go_wp2_with fail
              refine (refValid_calls _ _ (by omega)).mono ?_
              rintro e w2 ⟨rfl, hb2⟩
              rw [HV2.out]
              go_wp2
              go_ret2
              exact ⟨by rw [H.out]; rfl, (X0.trans hb1).trans hb2⟩
          · obtain ⟨HV, HV2⟩ : Hid (validU old = true) ∧ Hid (validU nw = true) := by
              unfold okForm at hf
              rw [Bool.and_eq_true] at hf
              exact ⟨Lib.hid hf.1, Lib.hid hf.2⟩
            by_cases hlong : 4096 < t.size - old.size + nw.size
            · have H := Lib.hid (show applyR t ⟨(q : Int), old, nw⟩ = (⟨#[]⟩, 6) from by unfold applyR; rw [if_neg (by rw [hok]; simp), if_neg (by rw [hO]; simp), if_neg (by rw [hed]; simp), if_neg (by rw [hf]; simp), if_pos hlong])
              have hl' : 4096 < (t.size : Int) - (old.size : Int) + (nw.size : Int) := by omega
              clear hok hO hed hf
              go_wp2_with fail
              refine (refEdge_calls _ _ _).mono ?_
              rintro e w1 ⟨rfl, rfl⟩
              rw [HE.out]
              go_wp2_with fail
              refine (refEdge_calls _ _ _).mono ?_
              rintro e w1 ⟨rfl, rfl⟩
              rw [HE2.out]
              go_wp2_with fail
              refine (refValid_calls _ _ (by omega)).mono ?_
              rintro e w1 ⟨rfl, hb1⟩
              rw [HV.out]
              have k2 := Ex.cell hb1 g2
              go_wp2_with fail
              refine (refValid_calls _ _ (by omega)).mono ?_
              rintro e w2 ⟨rfl, hb2⟩
              rw [HV2.out]
              have m2 := Ex.cell hb2 k2
              go_wp2
              go_ret2
              exact ⟨by rw [H.out]; rfl, (X0.trans hb1).trans hb2⟩
            · have H := Lib.hid (show applyR t ⟨(q : Int), old, nw⟩ = (t.extract 0 q ++ nw ++ t.extract (q + old.size) t.size, 0) from by unfold applyR; rw [if_neg (by rw [hok]; simp), if_neg (by rw [hO]; simp), if_neg (by rw [hed]; simp), if_neg (by rw [hf]; simp), if_neg hlong]; rfl)
              have hl' : ¬ 4096 < (t.size : Int) - (old.size : Int) + (nw.size : Int) := by omega
              clear hok hO hed hf
              go_wp2_with fail
              refine (refEdge_calls _ _ _).mono ?_
              rintro e w1 ⟨rfl, rfl⟩
              rw [HE.out]
              go_wp2_with fail
              refine (refEdge_calls _ _ _).mono ?_
              rintro e w1 ⟨rfl, rfl⟩
              rw [HE2.out]
              go_wp2_with fail
              refine (refValid_calls _ _ (by omega)).mono ?_
              rintro e w1 ⟨rfl, hb1⟩
              rw [HV.out]
              have k0 := Ex.cell hb1 g0
              have k2 := Ex.cell hb1 g2
              go_wp2_with fail
              refine (refValid_calls _ _ (by omega)).mono ?_
              rintro e w2 ⟨rfl, hb2⟩
              rw [HV2.out]
              have m0 := Ex.cell hb2 k0
              have m2 := Ex.cell hb2 k2
              go_wp2
              go_quiet (fail)
              go_wp2
              go_ret2
              exact ⟨by rw [H.out]; rfl, ((X0.trans hb1).trans hb2).trans (Dr.ex ⟨_, rfl⟩)⟩
    · have H := Lib.hid (show applyR t ⟨(q : Int), old, nw⟩ = (⟨#[]⟩, 8) from by unfold applyR; rw [if_neg (by rw [hok]; simp), if_pos (show okOld t ⟨(q : Int), old, nw⟩ = false from by unfold okOld; rw [decide_eq_false (by simp only []; omega)]; rfl)])
      have w7 : decide ((t.size : Int) - (q : Int) < (old.size : Int)) = true := decide_eq_true (by omega)
      clear hok
      go_enter Try.func20, Try.ntmps20
      go_wp2
      go_quiet (fail)
      go_wp2
      go_ret2
      exact ⟨by rw [H.out]; rfl, (ex_alloc (Ex.refl _) _).trans (Dr.ex ⟨_, rfl⟩)⟩
  · have H := Lib.hid (show applyR t ⟨p, old, nw⟩ = (⟨#[]⟩, 3) from if_pos (decide_eq_false c1))
    rcases (show p < 0 ∨ (t.size : Int) < p by omega) with c | c
    · go_enter Try.func20, Try.ntmps20
      go_wp2
      go_ret2
      exact ⟨by rw [H.out]; rfl, ex_alloc (Ex.refl _) _⟩
    · have c' : ¬ p < 0 := by omega
      go_enter Try.func20, Try.ntmps20
      go_wp2
      go_ret2
      exact ⟨by rw [H.out]; rfl, ex_alloc (Ex.refl _) _⟩
end Go.Proofs.Ytkclpflgndgabaa
