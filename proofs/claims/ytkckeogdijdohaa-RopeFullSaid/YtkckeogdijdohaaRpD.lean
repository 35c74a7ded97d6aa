/- Walks: the document's Runes, Lines, tally, Insert, Slice, Delete; lives and good of styluslaw18. -/
import Derived.Test.YtkckeogdijdohaaRpC
namespace Go.Proofs.Ytkckeogdijdohaa
open Go.RowKit
set_option maxHeartbeats 400000 in
theorem refLines_calls (s : ByteArray) (w : World) (hs : s.size ≤ 100000) : Calls Try.prog 82 #[.string s] w fun e w' => e = .returned (.int .i64 (lineN s)) ∧ w' = w := by
  have Hall := Lib.hid (cntTo_all (fun b => b == 10) s)
  go_enter Try.func82, Try.ntmps82
  go_wp2
  go_loop [3, 4] (fun v3 v4 => ∃ k : Nat, k ≤ s.size ∧ v4 = .int .i64 (k : Int) ∧ v3 = .int .i64 (cntTo (fun b => b == 10) s k : Nat)) (fun _ v4 => s.size - (intOf v4).toNat)
  case atStart => exact ⟨0, by omega, rfl, rfl⟩
  case round =>
    obtain ⟨k, hk, rfl, rfl⟩ := hrel
    by_cases hlt : k < s.size
    · have hN := cntTo_next (p := fun b => b == 10) hlt
      have hle := cntTo_le (fun b => b == 10) s k
      have eb := byteAt_of hlt
      by_cases ht : byteAt s k = 10
      · have HN := Lib.hid (show cntTo (fun b => b == 10) s (k + 1) = cntTo (fun b => b == 10) s k + 1 from by rw [hN, if_pos (by rw [beq_iff_eq]; exact ht)])
        have e1 : ((s[k].toNat : Int) == 10) = true := by rw [beq_iff_eq]; omega
        clear hN eb ht
        go_wp2
        go_round
        case rel => exact ⟨k + 1, by omega, by go_num, by rw [HN.out]; go_num⟩
        case measure => simp [intOf]; omega
      · have HN := Lib.hid (show cntTo (fun b => b == 10) s (k + 1) = cntTo (fun b => b == 10) s k from by rw [hN, if_neg (by rw [beq_iff_eq]; exact ht)]; rfl)
        have e1 : ((s[k].toNat : Int) == 10) = false := by rw [beq_eq_false_iff_ne]; omega
        clear hN eb ht
        go_wp2
        go_round
        case rel => exact ⟨k + 1, by omega, by go_num, by rw [HN.out]⟩
        case measure => simp [intOf]; omega
    · have hk' : k = s.size := by omega
      subst hk'
      go_wp2
      go_ret
      exact ⟨ret_int (by rw [Hall.out]; rfl), rfl⟩
set_option maxHeartbeats 400000 in
theorem refRunes_calls (s : ByteArray) (w : World) (hs : s.size ≤ 100000) : Calls Try.prog 81 #[.string s] w fun e w' => e = .returned (.int .i64 (runeN s)) ∧ w' = w := by
  have Hall := Lib.hid (cntTo_all (fun b => !onB b) s)
  go_enter Try.func81, Try.ntmps81
  go_wp2
  go_loop [3, 4] (fun v3 v4 => ∃ k : Nat, k ≤ s.size ∧ v4 = .int .i64 (k : Int) ∧ v3 = .int .i64 (cntTo (fun b => !onB b) s k : Nat)) (fun _ v4 => s.size - (intOf v4).toNat)
  case atStart => exact ⟨0, by omega, rfl, rfl⟩
  case round =>
    obtain ⟨k, hk, rfl, rfl⟩ := hrel
    by_cases hlt : k < s.size
    · have hN := cntTo_next (p := fun b => !onB b) hlt
      have hle := cntTo_le (fun b => !onB b) s k
      have hb := byteAt_lt s k
      have eb := Lib.hid (byteAt_of hlt)
      cases ht : onB (byteAt s k)
      · have HN := Lib.hid (show cntTo (fun b => !onB b) s (k + 1) = cntTo (fun b => !onB b) s k + 1 from by rw [hN, if_pos (by simp [ht])])
        have HT := Lib.hid ht
        clear hN ht
        go_wp2_with fail
        rw [eb.out]
        refine (refOn_calls _ _ hb).mono ?_
        rintro e w1 ⟨rfl, rfl⟩
        rw [HT.out]
        go_wp2
        go_round
        case rel => exact ⟨k + 1, by omega, by go_num, by rw [HN.out]; go_num⟩
        case measure => simp [intOf]; omega
      · have HN := Lib.hid (show cntTo (fun b => !onB b) s (k + 1) = cntTo (fun b => !onB b) s k from by rw [hN, if_neg (by simp [ht])]; rfl)
        have HT := Lib.hid ht
        clear hN ht
        go_wp2_with fail
        rw [eb.out]
        refine (refOn_calls _ _ hb).mono ?_
        rintro e w1 ⟨rfl, rfl⟩
        rw [HT.out]
        go_wp2
        go_round
        case rel => exact ⟨k + 1, by omega, by go_num, by rw [HN.out]⟩
        case measure => simp [intOf]; omega
    · have hk' : k = s.size := by omega
      subst hk'
      go_wp2
      go_ret
      exact ⟨ret_int (by rw [Hall.out]; rfl), rfl⟩
set_option maxRecDepth 100000 in
set_option maxHeartbeats 400000 in
theorem refTally_at (s : ByteArray) (c : C3) (w : World) (hs : s.size ≤ 100000) (hc : tally s = c) : Calls Try.prog 53 #[.string s] w fun e w' => e = .returned (.agg #[.int .i64 c.b, .int .i64 c.r, .int .i64 c.l]) ∧ Ex w w' := by
  subst hc
  have H0 := Lib.hid (Blk.new w C3.zero.cs 67)
  have HX := Lib.hid (ex_alloc (Ex.refl w) (.cells C3.zero.cs.toArray 67))
  go_enter Try.func53, Try.ntmps53
  go_wp2_with fail
  refine (refRunes_calls _ _ hs).mono ?_
  rintro e w1 ⟨rfl, rfl⟩
  go_wp2_with fail
  refine (refLines_calls _ _ hs).mono ?_
  rintro e w2 ⟨rfl, rfl⟩
  go_wp2_with (refine st_c3 rfl (.tmp 2) (.tmp 9) rfl w.heap.size C3.zero (tally s) rfl rfl H0.out w.heap.size HX.out (Nat.le_refl _) (by simp) ?_; intro w3 hk3 hX3 _; have H3 := Lib.hid hk3; clear hk3)
  (try simp only [Exit.inBlock, Exit.then])
  refine bodyPost_ret (ret_c3 rfl _ _ w.heap.size (tally s) rfl H3.out) rfl ?_
  exact ⟨rfl, hX3⟩
set_option maxRecDepth 100000 in
set_option maxHeartbeats 1000000 in
theorem refInsert_calls (s x : ByteArray) (p : Int) (w : World) (hs : s.size ≤ 4096) (hx : x.size ≤ 100000) : Calls Try.prog 29 #[.string s, .int .i64 p, .string x] w fun e w' => e = .returned (.tuple #[.string (insT s p x).2, .int .i64 (insT s p x).1]) ∧ Ex w w' := by
  cases h1 : inB s p 0
  · have HI := Lib.hid (show insT s p x = (3, ⟨#[]⟩) from by unfold insT; rw [if_pos h1])
    have hn : p < 0 ∨ (s.size : Int) < p := by
      have : ¬ (0 ≤ p ∧ (0 : Int) ≤ 0 ∧ p ≤ s.size ∧ (0 : Int) ≤ s.size - p) := fun h => by rw [inB_iff.2 h] at h1; cases h1
      omega
    clear h1
    by_cases h0 : p < 0
    · have d1 : decide (p < 0) = true := decide_eq_true h0
      go_enter Try.func29, Try.ntmps29
      go_wp2_with fail
      go_ret2
      exact ⟨by rw [HI.out]; rfl, Ex.refl _⟩
    · have d1 : decide (p < 0) = false := decide_eq_false h0
      have d2 : decide ((s.size : Int) < p) = true := decide_eq_true (by omega)
      go_enter Try.func29, Try.ntmps29
      go_wp2_with fail
      go_ret2
      exact ⟨by rw [HI.out]; rfl, Ex.refl _⟩
  · obtain ⟨g1, -, g3, -⟩ := inB_iff.1 h1
    have d1 : decide (p < 0) = false := decide_eq_false (by omega)
    have d2 : decide ((s.size : Int) < p) = false := decide_eq_false (by omega)
    cases h2 : edge s p
    · have H2 := Lib.hid h2
      have HI := Lib.hid (show insT s p x = (4, ⟨#[]⟩) from by unfold insT; rw [if_neg (by rw [h1]; decide), if_pos h2])
      clear h1 h2
      go_enter Try.func29, Try.ntmps29
      go_wp2_with fail
      refine (refEdge_calls s p _).mono ?_
      rintro e w2 ⟨rfl, rfl⟩
      rw [H2.out]
      go_wp2_with fail
      go_ret2
      exact ⟨by rw [HI.out]; rfl, Ex.refl _⟩
    · have H2 := Lib.hid h2
      cases h3 : validU x
      · have H3 := Lib.hid h3
        have HI := Lib.hid (show insT s p x = (5, ⟨#[]⟩) from by unfold insT; rw [if_neg (by rw [h1]; decide), if_neg (by rw [h2]; decide), if_pos h3])
        clear h1 h2 h3
        go_enter Try.func29, Try.ntmps29
        go_wp2_with fail
        refine (refEdge_calls s p _).mono ?_
        rintro e w2 ⟨rfl, rfl⟩
        rw [H2.out]
        go_wp2_with fail
        refine (refValid_calls x _ (by omega)).mono ?_
        rintro e w3 ⟨rfl, hb3⟩
        rw [H3.out]
        go_wp2_with fail
        go_ret2
        exact ⟨by rw [HI.out]; rfl, hb3⟩
      · have H3 := Lib.hid h3
        by_cases h4 : 4096 < s.size + x.size
        · have HI := Lib.hid (show insT s p x = (6, ⟨#[]⟩) from by unfold insT; rw [if_neg (by rw [h1]; decide), if_neg (by rw [h2]; decide), if_neg (by rw [h3]; decide), if_pos h4])
          have d3 : decide ((4096 : Int) < (s.size : Int) + (x.size : Int)) = true := decide_eq_true (by omega)
          clear h1 h2 h3 h4
          go_enter Try.func29, Try.ntmps29
          go_wp2_with fail
          refine (refEdge_calls s p _).mono ?_
          rintro e w2 ⟨rfl, rfl⟩
          rw [H2.out]
          go_wp2_with fail
          refine (refValid_calls x _ (by omega)).mono ?_
          rintro e w3 ⟨rfl, hb3⟩
          rw [H3.out]
          go_wp2_with fail
          go_ret2
          exact ⟨by rw [HI.out]; rfl, hb3⟩
        · have HI := Lib.hid (show insT s p x = (0, s.extract 0 p.toNat ++ x ++ s.extract p.toNat s.size) from by unfold insT; rw [if_neg (by rw [h1]; decide), if_neg (by rw [h2]; decide), if_neg (by rw [h3]; decide), if_neg h4])
          have d3 : decide ((4096 : Int) < (s.size : Int) + (x.size : Int)) = false := decide_eq_false (by omega)
          obtain ⟨n, rfl⟩ := Int.eq_ofNat_of_zero_le g1
          rw [Int.toNat_natCast] at HI
          have hn : n ≤ s.size := by omega
          clear h1 h2 h3 h4
          go_enter Try.func29, Try.ntmps29
          go_wp2_with fail
          refine (refEdge_calls s n _).mono ?_
          rintro e w2 ⟨rfl, rfl⟩
          rw [H2.out]
          go_wp2_with fail
          refine (refValid_calls x _ (by omega)).mono ?_
          rintro e w3 ⟨rfl, hb3⟩
          rw [H3.out]
          go_wp2_with fail
          refine wp_region_calm (by kernel_rfl) (by kernel_rfl) ?_
          repeat (go_big_quiet_step ((fail)))
          refine wpQuiet_nil ?_
          intro w5 hX5
          replace hX5 := calm_world hX5
          go_wp2_with fail
          go_ret2
          exact ⟨by rw [HI.out]; rfl, hb3.trans hX5⟩
def sliceE (s : ByteArray) (p n : Int) : Int := if inB s p n = true then 0 else 3
def SliceP (s : ByteArray) (p n : Int) (w : World) (e : Ending) (w' : World) : Prop := ∃ t, e = .returned (.tuple #[.string t, .int .i64 (sliceE s p n)]) ∧ w' = w
set_option maxRecDepth 100000 in
set_option maxHeartbeats 1000000 in
theorem refSlice_calls (s : ByteArray) (p n : Int) (w : World) (hs : s.size ≤ 4096) : Calls Try.prog 60 #[.string s, .int .i64 p, .int .i64 n] w (SliceP s p n w) := by
  by_cases h1 : p < 0
  · have HF := Lib.hid (show sliceE s p n = 3 from by unfold sliceE; rw [show inB s p n = false from decide_eq_false (by omega)]; rfl)
    have d1 : decide (p < 0) = true := decide_eq_true h1
    go_enter Try.func60, Try.ntmps60
    go_wp2_with fail
    go_ret2
    exact ⟨_, by rw [HF.out]; rfl, rfl⟩
  · have d1 : decide (p < 0) = false := decide_eq_false h1
    by_cases h2 : n < 0
    · have HF := Lib.hid (show sliceE s p n = 3 from by unfold sliceE; rw [show inB s p n = false from decide_eq_false (by omega)]; rfl)
      have d2 : decide (n < 0) = true := decide_eq_true h2
      go_enter Try.func60, Try.ntmps60
      go_wp2_with fail
      go_ret2
      exact ⟨_, by rw [HF.out]; rfl, rfl⟩
    · have d2 : decide (n < 0) = false := decide_eq_false h2
      by_cases h3 : (s.size : Int) < p
      · have HF := Lib.hid (show sliceE s p n = 3 from by unfold sliceE; rw [show inB s p n = false from decide_eq_false (by omega)]; rfl)
        have d3 : decide ((s.size : Int) < p) = true := decide_eq_true h3
        go_enter Try.func60, Try.ntmps60
        go_wp2_with fail
        go_ret2
        exact ⟨_, by rw [HF.out]; rfl, rfl⟩
      · have d3 : decide ((s.size : Int) < p) = false := decide_eq_false h3
        by_cases h4 : (s.size : Int) - p < n
        · have HF := Lib.hid (show sliceE s p n = 3 from by unfold sliceE; rw [show inB s p n = false from decide_eq_false (by omega)]; rfl)
          have d4 : decide ((s.size : Int) - p < n) = true := decide_eq_true h4
          go_enter Try.func60, Try.ntmps60
          go_wp2_with fail
          go_ret2
          exact ⟨_, by rw [HF.out]; rfl, rfl⟩
        · have HF := Lib.hid (show sliceE s p n = 0 from by unfold sliceE; rw [show inB s p n = true from decide_eq_true (by omega)]; rfl)
          have d4 : decide ((s.size : Int) - p < n) = false := decide_eq_false h4
          have i1 : 0 ≤ p := by omega
          have i2 : p ≤ p + n := by omega
          have i3 : p + n ≤ (s.size : Int) := by omega
          go_enter Try.func60, Try.ntmps60
          go_wp2_with fail
          go_ret2
          exact ⟨_, by rw [HF.out]; rfl, rfl⟩
set_option maxRecDepth 100000 in
set_option maxHeartbeats 1000000 in
theorem refDelete_calls (s : ByteArray) (p n : Int) (w : World) (hs : s.size ≤ 4096) : Calls Try.prog 28 #[.string s, .int .i64 p, .int .i64 n] w fun e w' => e = .returned (.tuple #[.string (delT s p n).2, .int .i64 (delT s p n).1]) ∧ Ex w w' := by
  cases h1 : inB s p n
  · have H1 := Lib.hid h1
    have HI := Lib.hid (show delT s p n = (3, ⟨#[]⟩) from by unfold delT; rw [if_pos h1])
    clear h1
    go_enter Try.func28, Try.ntmps28
    go_wp2_with fail
    refine (refSlice_calls s p n _ hs).mono ?_
    rintro e w1 ⟨t, rfl, rfl⟩
    rw [show sliceE s p n = 3 from by unfold sliceE; rw [H1.out]; rfl]
    go_wp2_with fail
    go_ret2
    exact ⟨by rw [HI.out]; rfl, Ex.refl _⟩
  · have H1 := Lib.hid h1
    obtain ⟨g1, g2, g3, g4⟩ := inB_iff.1 h1
    cases h2 : edge s p
    · have H2 := Lib.hid h2
      have HI := Lib.hid (show delT s p n = (4, ⟨#[]⟩) from by unfold delT; rw [if_neg (by rw [h1]; decide), if_pos h2])
      clear h1 h2
      go_enter Try.func28, Try.ntmps28
      go_wp2_with fail
      refine (refSlice_calls s p n _ hs).mono ?_
      rintro e w1 ⟨t, rfl, rfl⟩
      rw [show sliceE s p n = 0 from by unfold sliceE; rw [H1.out]; rfl]
      go_wp2_with fail
      refine (refEdge_calls s p _).mono ?_
      rintro e w2 ⟨rfl, rfl⟩
      rw [H2.out]
      go_wp2_with fail
      go_ret2
      exact ⟨by rw [HI.out]; rfl, Ex.refl _⟩
    · have H2 := Lib.hid h2
      cases h3 : edge s (p + n)
      · have H3 := Lib.hid h3
        have HI := Lib.hid (show delT s p n = (4, ⟨#[]⟩) from by unfold delT; rw [if_neg (by rw [h1]; decide), if_neg (by rw [h2]; decide), if_pos h3])
        clear h1 h2 h3
        go_enter Try.func28, Try.ntmps28
        go_wp2_with fail
        refine (refSlice_calls s p n _ hs).mono ?_
        rintro e w1 ⟨t, rfl, rfl⟩
        rw [show sliceE s p n = 0 from by unfold sliceE; rw [H1.out]; rfl]
        go_wp2_with fail
        refine (refEdge_calls s p _).mono ?_
        rintro e w2 ⟨rfl, rfl⟩
        rw [H2.out]
        go_wp2_with fail
        refine (refEdge_calls s (p + n) _).mono ?_
        rintro e w3 ⟨rfl, rfl⟩
        rw [H3.out]
        go_wp2_with fail
        go_ret2
        exact ⟨by rw [HI.out]; rfl, Ex.refl _⟩
      · have H3 := Lib.hid h3
        have HI := Lib.hid (show delT s p n = (0, s.extract 0 p.toNat ++ s.extract (p + n).toNat s.size) from by unfold delT; rw [if_neg (by rw [h1]; decide), if_neg (by rw [h2]; decide), if_neg (by rw [h3]; decide)])
        have i3 : p + n ≤ (s.size : Int) := by omega
        have i4 : 0 ≤ p + n := by omega
        have i5 : IntKind.i64.wrap (p + n) = p + n := IntWalk.i64_in _ (by omega)
        clear h1 h2 h3
        go_enter Try.func28, Try.ntmps28
        go_wp2_with fail
        refine (refSlice_calls s p n _ hs).mono ?_
        rintro e w1 ⟨t, rfl, rfl⟩
        rw [show sliceE s p n = 0 from by unfold sliceE; rw [H1.out]; rfl]
        go_wp2_with fail
        refine (refEdge_calls s p _).mono ?_
        rintro e w2 ⟨rfl, rfl⟩
        rw [H2.out]
        go_wp2_with fail
        refine (refEdge_calls s (p + n) _).mono ?_
        rintro e w3 ⟨rfl, rfl⟩
        rw [H3.out]
        go_wp2_with fail
        refine wp_region_calm (by kernel_rfl) (by kernel_rfl) ?_
        repeat (go_big_quiet_step ((fail)))
        refine wpQuiet_nil ?_
        intro w5 hX5
        replace hX5 := calm_world hX5
        go_wp2_with fail
        go_ret2
        exact ⟨by rw [HI.out]; rfl, hX5⟩
end Go.Proofs.Ytkckeogdijdohaa
