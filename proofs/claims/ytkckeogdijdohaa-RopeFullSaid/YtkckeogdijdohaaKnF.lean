/- Walk: a tree is Right. -/
import Derived.Test.YtkckeogdijdohaaKnE
namespace Go.Proofs.Ytkckeogdijdohaa
open Go.RowKit
theorem fits_true (s : ByteArray) (w : World) (hf : fitsB s = true) : Calls Try.prog 63 #[.string s] w fun e w' => e = .returned (.bool true) ∧ Ex w w' := by
  have := fits_calls s w (by have := fitsB_iff.1 hf; omega)
  rwa [hf] at this
theorem tallyOf_at (s : ByteArray) (c : C3) (w : World) (hs : s.size ≤ 100000) (hc : tally s = c) : Calls Try.prog 59 #[.string s] w fun e w' => e = .returned (.agg #[.int .i64 c.b, .int .i64 c.r, .int .i64 c.l]) ∧ Ex w w' := by
  subst hc; exact tallyOf_calls s w hs
set_option maxRecDepth 100000 in
set_option maxHeartbeats 2000000 in
theorem right_calls : ∀ {h : Nat} {v : Value} {cs : List ByteArray} (w : World), Kn h w v cs → (flat cs).size ≤ 100000 → Calls Try.prog 38 #[v] w fun e w' => e = .returned (.bool true) ∧ Ex w w' := by
  intro h
  induction h with
  | zero =>
    intro v cs w x hs
    have X := Lib.hid x
    obtain ⟨g, s, rfl, e1, hf, ⟨c0, c1, c2, c3, c4, c5⟩⟩ := x
    have hc : tally (flat cs) = tally s := by rw [e1, flat_one]
    rw [hc] at c1 c2 c3
    have HF := Lib.hid hf
    have hz : s.size ≤ 100000 := by have := fitsB_iff.1 hf; omega
    obtain ⟨c, hcc⟩ : ∃ c, tally s = c := ⟨_, rfl⟩
    rw [hcc] at c1 c2 c3
    have HC := Lib.hid hcc
    have q0 := Wd.cell c0
    have q1 := Wd.cell c1
    have q2 := Wd.cell c2
    have q3 := Wd.cell c3
    have q4 := Wd.cell c4
    have heq := fun (w : World) (a b c a' b' c' : Int) => eql_c3 w a b c a' b' c'
    clear e1 hf hc hcc
    go_enter Try.func38, Try.ntmps38
    go_wp2_with fail
    refine (none_calls _ X.out).mono ?_
    rintro e w1 ⟨rfl, rfl⟩
    go_wp2_with fail
    refine wp_region_calm (by kernel_rfl) (by kernel_rfl) ?_
    repeat (go_big_quiet_step ((first | (go_at_call 63; exact calm_of (fits_true _ _ HF.out)) | (go_at_call 59; exact calm_of (tallyOf_at _ c _ hz HC.out)))))
    refine wpQuiet_nil ?_
    intro w2 hX
    replace hX := calm_world hX
    go_wp2_with fail
    go_ret
    exact ⟨rfl, hX⟩
  | succ h ih =>
    intro v cs w x hs
    have X := Lib.hid x
    obtain ⟨g, A, cap, ks, rfl, h2, h8, e1, ⟨c0, c1, c2, c3, c4, c5⟩, hr, hk⟩ := x
    have HR := Lib.hid hr
    have HK := Lib.hid hk
    have HE := Lib.hid e1
    have HS := Lib.hid hs
    have hsm : h ≤ 100000 := by
      have := X.out.small hs
      omega
    obtain ⟨b, o, rfl, hc0⟩ := hr.kid (k := 0) (by omega)
    obtain ⟨g0, s0, A0, n0, cap0, e0, hn0, -, -⟩ := (hk ks[0] (List.getElem_mem (by omega))).nd
    rw [e0, Nat.add_zero] at hc0
    have d1 : decide ((ks.length : Int) < 2) = false := decide_eq_false (by omega)
    have d2 : decide (8 < (ks.length : Int)) = false := decide_eq_false (by omega)
    have d3 : (0 : Int) < (ks.length : Int) := by omega
    have d4 : ((ks.length : Int) == 0) = false := by rw [beq_eq_false_iff_ne]; omega
    have q0 := Wd.cell c0
    have q5 := Wd.cell c5
    have q6 := Wd.cell hc0
    have q7 := Wd.cell hn0.c0
    have r0 := c0
    have heq := fun (w : World) (a b c a' b' c' : Int) => eql_c3 w a b c a' b' c'
    have HN := Lib.hid (show Nd w g (h + 1) (tally (flat cs)) ⟨#[]⟩ (some ⟨b, o, none⟩) ks.length cap from ⟨c0, c1, c2, c3, c4, c5⟩)
    have w4' : IntKind.i64.wrap ((h : Int) + 1) = (h : Int) + 1 := IntWalk.i64_in _ (by omega)
    clear e1 hr hk e0 hn0 r0 hs
    go_enter Try.func38, Try.ntmps38
    go_wp2_with fail
    refine (none_calls _ X.out).mono ?_
    rintro e w1 ⟨rfl, rfl⟩
    go_wp2_with fail
    refine wp_region_calm (by kernel_rfl) (by kernel_rfl) ?_
    repeat (go_big_quiet_step ((go_at_call 64; exact calm_of (even_calls (h := h) ks _ _ _ (by omega) (HR.out.ex (Wd.ex _)) fun k hm => (HK.out k hm).ex (Wd.ex _)))))
    refine wpQuiet_nil ?_
    intro w2 hX
    replace hX := calm_world hX
    clear q0 q5 q6 q7 w4' hc0 c0 c1 c2 c3 c4
    have c5 := hX.cell c5
    have HX := Lib.hid hX
    have HB0 := Lib.hid (Blk.new w2 C3.zero.cs 67)
    have hbx := ex_alloc (Ex.refl w2) (.cells #[.int .i64 0, .int .i64 0, .int .i64 0] 67)
    have HBX := Lib.hid hbx
    have c5' := hbx.cell c5
    clear hX hbx
    go_wp2_with fail
    go_loopw [5, 88] (fun _ v88 wr => ∃ k : Nat, k ≤ ks.length ∧ v88 = .int .i64 (k : Int) ∧ Blk wr w2.heap.size 67 (tally (flat (Kids.cs (ks.take k)))).cs ∧ Ex w2 wr) (fun _ v88 _ => ks.length - (intOf v88).toNat)
    case atStart => exact ⟨0, by omega, rfl, HB0.out, HBX.out⟩
    case round =>
      obtain ⟨k, hk, rfl, hB, hb2⟩ := hrel
      have hb := HX.out.trans hb2
      have HBk := Lib.hid hB
      have HXk := Lib.hid hb2
      have hlB := hB.lt
      clear hB c5 c5'
      by_cases hlt : k < ks.length
      · obtain ⟨b', o', he, hc⟩ := (HR.out.ex hb).kid hlt
        injection he with he
        injection he with he1 he2
        subst he1; subst he2
        have hq := (HK.out ks[k] (List.getElem_mem hlt)).ex hb
        have hT := Kids.cs_take hlt
        have hle : (flat (Kids.cs (ks.take k))).size + (flat ks[k].2).size ≤ 100000 := by
          have h1 := Kids.split_at hlt
          have h2 := HS.out
          rw [HE.out, h1, flat_size_app, flat_size_app] at h2
          omega
        have HQ := Lib.hid hq
        obtain ⟨g', s', A2, n2, cap2, e2, hn2, -, -⟩ := hq.nd
        rw [e2] at hc HQ
        generalize ks[k].2 = qc at hT hle hn2 HQ
        have hT2 := Lib.hid (show tally (flat (Kids.cs (ks.take (k + 1)))) = (tally (flat (Kids.cs (ks.take k)))).add (tally (flat qc)) from by rw [hT, flat_app, tally_append])
        have HC := Lib.hid (tally_ok (s := flat (Kids.cs (ks.take k))) (by omega))
        have HD := Lib.hid (tally_ok (s := flat qc) (by omega))
        have hqs : (flat qc).size ≤ 100000 := by omega
        have HIH := Lib.hid (ih (v := .pointer (some ⟨g', 0, none⟩)) (cs := qc) _ HQ.out hqs)
        generalize tally (flat (Kids.cs (ks.take k))) = ct at HBk hT2 HC
        generalize tally (flat qc) = dt at hn2 hT2 HD
        have HN2 := Lib.hid hn2
        clear hT hle hn2 hq e2 hqs
        go_wp2_with fail
        refine HIH.out.mono ?_
        rintro e w3 ⟨rfl, hb3⟩
        have s1 : w3.cell? ⟨w2.heap.size, 0, none⟩ = some (.int .i64 ct.b) := by rw [(HBk.out.ex hb3).cell]; rfl
        have s2 : w3.cell? ⟨w2.heap.size, 1, none⟩ = some (.int .i64 ct.r) := by rw [(HBk.out.ex hb3).cell]; rfl
        have s3 : w3.cell? ⟨w2.heap.size, 2, none⟩ = some (.int .i64 ct.l) := by rw [(HBk.out.ex hb3).cell]; rfl
        have q1 := hb3.cell HN2.out.c1
        have q2 := hb3.cell HN2.out.c2
        have q3 := hb3.cell HN2.out.c3
        have HX3 := Lib.hid (HXk.out.trans hb3)
        have HB3 := Lib.hid (HBk.out.ex hb3)
        clear hb3
        go_wp2_with fail
        go_region_with ((go_at_call 70; refine (add_calls ct dt _ 2 _ HC.out HD.out ((row_two _ ct dt 67).ex (Ex.refl _).drew)).mono ?_; rintro e w4 ⟨rfl, hb4⟩; unfold C3.agg; have HX4 := Lib.hid (Ex.trans (ex_alloc (Ex.refl w3) _).drew hb4); have HB4 := Lib.hid (HB3.out.ex HX4.out); have t1 : w4.cell? ⟨w2.heap.size, 0, none⟩ = some (.int .i64 ct.b) := HX4.out.cell s1; have t2 : w4.cell? ⟨w2.heap.size, 1, none⟩ = some (.int .i64 ct.r) := HX4.out.cell s2; have t3 : w4.cell? ⟨w2.heap.size, 2, none⟩ = some (.int .i64 ct.l) := HX4.out.cell s3; have f1 := HB4.out.frozen 0; have f2 := HB4.out.frozen 1; have f3 := HB4.out.frozen 2))
        all_goals
          have hB5 := ((HB4.out.setCell (i := 0) (.int .i64 (ct.add dt).b)).setCell (i := 1) (.int .i64 (ct.add dt).r)).setCell (i := 2) (.int .i64 (ct.add dt).l)
          have HB5 := Lib.hid hB5
          have HX5 := Lib.hid ((((HX3.out.trans HX4.out).setCell (p := ⟨w2.heap.size, 0, none⟩) (Nat.le_refl _) (.int .i64 (ct.add dt).b)).setCell (p := ⟨w2.heap.size, 1, none⟩) (Nat.le_refl _) (.int .i64 (ct.add dt).r)).setCell (p := ⟨w2.heap.size, 2, none⟩) (Nat.le_refl _) (.int .i64 (ct.add dt).l))
          clear hB5 t1 t2 t3 f1 f2 f3 hb4 s1 s2 s3 q1 q2 q3
          go_wp2_with fail
          go_roundw
          case rel => exact ⟨k + 1, by omega, by go_num, by rw [hT2.out]; exact HB5.out, HX5.out⟩
          case measure => simp [intOf]; omega
      · have hkl : k = ks.length := by omega
        have HF := Lib.hid (show Kids.cs (ks.take k) = cs from by rw [hkl, List.take_length, HE.out])
        have hn1 := HN.out.ex hb
        rw [HF.out] at HBk
        generalize tally (flat cs) = ct at HBk hn1
        have s1 : wr.cell? ⟨w2.heap.size, 0, none⟩ = some (.int .i64 ct.b) := by rw [HBk.out.cell]; rfl
        have s2 : wr.cell? ⟨w2.heap.size, 1, none⟩ = some (.int .i64 ct.r) := by rw [HBk.out.cell]; rfl
        have s3 : wr.cell? ⟨w2.heap.size, 2, none⟩ = some (.int .i64 ct.l) := by rw [HBk.out.cell]; rfl
        have q1 := Wd.cell hn1.c1
        have q2 := Wd.cell hn1.c2
        have q3 := Wd.cell hn1.c3
        have q4 := Wd.cell s1
        have q5 := Wd.cell s2
        have q6 := Wd.cell s3
        clear hkl hn1 s1 s2 s3
        go_wp2_with fail
        refine wp_region_calm (by kernel_rfl) (by kernel_rfl) ?_
        repeat (go_big_quiet_step ((fail)))
        refine wpQuiet_nil ?_
        intro w5 hX5
        replace hX5 := calm_world hX5
        go_wp2_with fail
        go_ret
        exact ⟨rfl, hb.trans hX5⟩
theorem right_nil (w : World) : Calls Try.prog 38 #[.pointer none] w fun e w' => e = .returned (.bool true) ∧ Ex w w' := by
  go_enter Try.func38, Try.ntmps38
  go_wp2_with fail
  go_ret
  exact ⟨rfl, Ex.refl _⟩
end Go.Proofs.Ytkckeogdijdohaa
