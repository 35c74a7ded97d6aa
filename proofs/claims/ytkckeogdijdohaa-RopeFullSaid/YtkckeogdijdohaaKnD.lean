/- Walks: group, Join. -/
import Derived.Test.YtkckeogdijdohaaFp
import Derived.Outline
import Derived.Deep.DeepMust
namespace Go.Proofs.Ytkckeogdijdohaa
open Go.RowKit
def grp (n : Nat) : Nat := if n = 9 then 7 else min n 8
theorem group_calls (n : Nat) (w : World) (hn : n ≤ 100000) : Calls Try.prog 65 #[.int .i64 (n : Int)] w fun e w' => e = .returned (.int .i64 (grp n : Nat)) ∧ w' = w := by
  by_cases h9 : n = 9
  · subst h9
    go_enter Try.func65, Try.ntmps65
    go_wp2_with fail
    go_ret
    exact ⟨rfl, rfl⟩
  · have hb : ((n : Int) == 9) = false := by rw [beq_eq_false_iff_ne]; omega
    have H := Lib.hid (show grp n = min n 8 from if_neg h9)
    clear h9
    by_cases h8 : n < 8
    · go_enter Try.func65, Try.ntmps65
      go_wp2_with fail
      go_ret
      exact ⟨ret_int (by rw [H.out]; omega), rfl⟩
    · go_enter Try.func65, Try.ntmps65
      go_wp2_with fail
      go_ret
      exact ⟨ret_int (by rw [H.out]; omega), rfl⟩
theorem row_two (w : World) (c d : C3) (t : TypeId) : Row (w.alloc (.cells (two c d).toArray t)) 3 (some ⟨w.heap.size, 0, none⟩) 2 (two c d) := by
  refine ⟨rfl, fun _ => ⟨_, 0, rfl, fun j u hu => ?_⟩⟩
  rw [(Blk.new w (two c d) t).cell, Nat.zero_add, hu]
set_option maxRecDepth 100000 in
set_option maxHeartbeats 1000000 in
theorem joinK_calls {h : Nat} (ok : Nat → Prop) (ks : Kids) (A : Option Addr) (cap : Nat) (w : World) (h2 : 2 ≤ ks.length) (h8 : ks.length ≤ 8) (hs : (flat ks.cs).size ≤ 100000) (hr : Row w 1 A ks.length ks.vs) (hk : ∀ k ∈ ks, Kn h w k.1 k.2) (hp : ∀ k ∈ ks, Fp ok h w k.1) : Calls Try.prog 66 #[.slice A ks.length cap] w (NodeF ok (h + 1) ks.cs w) := by
  have HP := Lib.hid hp
  clear hp
  have HR := Lib.hid hr
  have HK := Lib.hid hk
  have HS := Lib.hid hs
  have hsm : h ≤ 100000 := (hk ks[0] (List.getElem_mem (by omega))).small (by have := Kids.cs_mem (List.getElem_mem (l := ks) (n := 0) (by omega)); omega)
  have d1 : decide ((ks.length : Int) < 2) = false := decide_eq_false (by omega)
  have d2 : decide (8 < (ks.length : Int)) = false := decide_eq_false (by omega)
  have d3 : (0 : Int) < (ks.length : Int) := by omega
  have HE := Lib.hid (fun w => even_calls (h := h) ks A cap w (by omega))
  clear hr hk hs
  go_enter Try.func66, Try.ntmps66
  go_wp2_with fail
  refine (HE.out _ HR.out HK.out).mono ?_
  rintro e w1 ⟨rfl, hb1⟩
  have HR1 := Lib.hid (HR.out.ex hb1)
  have HB1 := Lib.hid hb1
  clear hb1
  go_wp2_with (at_builtin; go_must (refine app_kn rfl (.const (.slice none 0 0)) (.tmp 19) rfl w1.heap.size (.slice none 0 0) 0 [] rfl (World.ownsRow_nil _ _ _ _) A ks.length cap ks.vs rfl HR1.out (Kids.ptr HK.out) (by omega) (Nat.le_refl _) (Below.refl _ _) ?_; intro v' w2 h1 h2' _ _; rw [Nat.zero_add, List.nil_append] at h1; have HO := Lib.hid h1; have HB2 := Lib.hid (HB1.out.trans h2'); clear h1 h2'; obtain ⟨A', c', hv', hc'⟩ := own_shape HO.out; subst hv'; obtain ⟨b, o, he, hc⟩ := (HR.out.ex HB2.out).kid (k := 0) (by omega); subst he; have hq := (HK.out ks[0] (List.getElem_mem (by omega))).ex HB2.out; obtain ⟨g, s, A1, n1, cap1, e1, hn1, -, -⟩ := hq.nd; rw [e1, Nat.add_zero] at hc; have hcg := hn1.c0; clear e1 hn1 hq; have hbx := ex_alloc (Ex.refl w2) (.cells #[.int .i64 0, .int .i64 0, .int .i64 0, .int .i64 0, .string ⟨#[]⟩, .slice A' ks.length c'] 81); have m1 := hbx.cell hc; have m2 := hbx.cell hcg; clear hbx))
  have hB0 : Blk (w2.alloc (.cells #[.int .i64 ((h : Int) + 1), .int .i64 0, .int .i64 0, .int .i64 0, .string ⟨#[]⟩, .slice A' ks.length c'] 81)) w2.heap.size 81 (kc ((h : Int) + 1) (tally (flat (Kids.cs (ks.take 0)))) ⟨#[]⟩ A' ks.length c') :=
    Blk.new w2 (kc ((h : Int) + 1) C3.zero ⟨#[]⟩ A' ks.length c') 81
  have HB0 := Lib.hid hB0
  have HX0 := Lib.hid (ex_alloc (Ex.refl w2) (.cells #[.int .i64 ((h : Int) + 1), .int .i64 0, .int .i64 0, .int .i64 0, .string ⟨#[]⟩, .slice A' ks.length c'] 81))
  have hsz2 := HB2.out.size
  clear hB0 hc hcg m1 m2
  go_loopw [5, 37] (fun _ v37 wr => ∃ k : Nat, k ≤ ks.length ∧ v37 = .int .i64 (k : Int) ∧ Blk wr w2.heap.size 81 (kc ((h : Int) + 1) (tally (flat (Kids.cs (ks.take k)))) ⟨#[]⟩ A' ks.length c') ∧ Ex w2 wr) (fun _ v37 _ => ks.length - (intOf v37).toNat)
  case atStart => exact ⟨0, by omega, rfl, HB0.out, HX0.out⟩
  case round =>
    obtain ⟨k, hk, rfl, hB, hb2⟩ := hrel
    have hb := HB2.out.trans hb2
    have HBk := Lib.hid hB
    have HXk := Lib.hid hb2
    have hlB := hB.lt
    clear hB
    by_cases hlt : k < ks.length
    · obtain ⟨b', o', he, hc⟩ := (HR.out.ex hb).kid hlt
      injection he with he
      injection he with he1 he2
      subst he1; subst he2
      have hq := (HK.out ks[k] (List.getElem_mem hlt)).ex hb
      have hT := Kids.cs_take hlt
      have hle : (flat (Kids.cs (ks.take k))).size + (flat ks[k].2).size ≤ 100000 := by
        have h1 := Kids.split_at hlt
        have h2 := HS.out
        rw [h1, flat_size_app, flat_size_app] at h2
        omega
      obtain ⟨g', s', A2, n2, cap2, e2, hn2, -, -⟩ := hq.nd
      rw [e2] at hc
      generalize ks[k].2 = qc at hT hle hn2
      have hT2 := Lib.hid (show tally (flat (Kids.cs (ks.take (k + 1)))) = (tally (flat (Kids.cs (ks.take k)))).add (tally (flat qc)) from by rw [hT, flat_app, tally_append])
      have HC := Lib.hid (tally_ok (s := flat (Kids.cs (ks.take k))) (by omega))
      have HD := Lib.hid (tally_ok (s := flat qc) (by omega))
      generalize tally (flat (Kids.cs (ks.take k))) = ct at HBk hT2 HC
      generalize tally (flat qc) = dt at hn2 hT2 HD
      have s1 : wr.cell? ⟨w2.heap.size, 1, none⟩ = some (.int .i64 ct.b) := by rw [HBk.out.cell]; rfl
      have s2 : wr.cell? ⟨w2.heap.size, 2, none⟩ = some (.int .i64 ct.r) := by rw [HBk.out.cell]; rfl
      have s3 : wr.cell? ⟨w2.heap.size, 3, none⟩ = some (.int .i64 ct.l) := by rw [HBk.out.cell]; rfl
      have q1 := hn2.c1
      have q2 := hn2.c2
      have q3 := hn2.c3
      clear hT hle hn2 hq e2
      go_wp2_with fail
      go_region_with ((go_at_call 70; refine (add_calls ct dt _ 2 _ HC.out HD.out ((row_two _ ct dt 67).ex (Ex.refl _).drew)).mono ?_; rintro e w4 ⟨rfl, hb4⟩; unfold C3.agg; have HX4 := Lib.hid (Ex.trans (ex_alloc (Ex.refl wr) _).drew hb4); have HB4 := Lib.hid (HBk.out.ex HX4.out); have t1 : w4.cell? ⟨w2.heap.size, 1, none⟩ = some (.int .i64 ct.b) := HX4.out.cell s1; have t2 : w4.cell? ⟨w2.heap.size, 2, none⟩ = some (.int .i64 ct.r) := HX4.out.cell s2; have t3 : w4.cell? ⟨w2.heap.size, 3, none⟩ = some (.int .i64 ct.l) := HX4.out.cell s3; have f1 := HB4.out.frozen 1; have f2 := HB4.out.frozen 2; have f3 := HB4.out.frozen 3))
      all_goals
        have hB5 := ((HB4.out.setCell (i := 1) (.int .i64 (ct.add dt).b)).setCell (i := 2) (.int .i64 (ct.add dt).r)).setCell (i := 3) (.int .i64 (ct.add dt).l)
        have HB5 := Lib.hid hB5
        have HX5 := Lib.hid ((((HXk.out.trans HX4.out).setCell (p := ⟨w2.heap.size, 1, none⟩) (Nat.le_refl _) (.int .i64 (ct.add dt).b)).setCell (p := ⟨w2.heap.size, 2, none⟩) (Nat.le_refl _) (.int .i64 (ct.add dt).r)).setCell (p := ⟨w2.heap.size, 3, none⟩) (Nat.le_refl _) (.int .i64 (ct.add dt).l))
        clear hB5 t1 t2 t3 f1 f2 f3 hb4
        go_wp2_with fail
        go_roundw
        case rel => exact ⟨k + 1, by omega, by go_num, by rw [hT2.out]; exact HB5.out, HX5.out⟩
        case measure => simp [intOf]; omega
    · have hkl : k = ks.length := by omega
      have HF := Lib.hid (show Kids.cs (ks.take k) = ks.cs from by rw [hkl, List.take_length])
      clear hkl
      go_wp2_with fail
      go_ret
      have hrw : Row wr 1 A' ks.length ks.vs := (Row.of_own HO.out).ex HXk.out
      have hnd : Nd wr w2.heap.size (h + 1) (tally (flat ks.cs)) ⟨#[]⟩ A' ks.length c' := by
        rw [← HF.out]
        exact Nd.of_blk HBk.out
      refine ⟨_, rfl, ⟨w2.heap.size, A', c', ks, rfl, h2, h8, rfl, hnd, hrw, fun q hm => (HK.out q hm).ex hb⟩, ?_, hb⟩
      intro g2 e2
      injection e2 with e2; injection e2 with e2; injection e2 with e2
      subst e2
      refine ⟨.inr hsz2, fun b2 o2 n2 c2 hc2 => ?_⟩
      rw [hnd.c5] at hc2
      injection hc2 with hc2
      have hc3 := hc2
      injection hc2 with e3 _ _
      refine ⟨.inr ?_, fun j q hj hq => ?_⟩
      · have := own_ge HO.out b2 (by rw [e3]; rfl)
        exact Nat.le_trans HB1.out.size this
      · obtain ⟨k2, hm, rfl⟩ := Row.kid_at hrw hc3 hj hq
        exact (Kn.keep (ok := ok) (HK.out k2 hm) (HP.out k2 hm) (fun b o u _ hc => Ex.cell hb hc)).2.mono fun b hb => .inl hb
/-- The same, where the kids are counted otherwise. -/
theorem join_n {h n : Nat} (ok : Nat → Prop) (ks : Kids) (A : Option Addr) (cap : Nat) (w : World) (hn : n = ks.length) (h2 : 2 ≤ n) (h8 : n ≤ 8) (hs : (flat ks.cs).size ≤ 100000) (hr : Row w 1 A n ks.vs) (hk : ∀ k ∈ ks, Kn h w k.1 k.2) (hp : ∀ k ∈ ks, Fp ok h w k.1) : Calls Try.prog 66 #[.slice A n cap] w (NodeF ok (h + 1) ks.cs w) := by
  subst hn
  exact joinK_calls ok ks A cap w h2 h8 hs hr hk hp
theorem even_n {h n : Nat} (ks : Kids) (A : Option Addr) (cap : Nat) (w : World) (hn : n = ks.length) (hsm : n ≤ 100000) (hr : Row w 1 A n ks.vs) (hk : ∀ k ∈ ks, Kn h w k.1 k.2) : Calls Try.prog 64 #[.slice A n cap] w fun e w' => e = .returned (.bool true) ∧ Ex w w' := by
  subst hn
  exact even_calls ks A cap w hsm hr hk
end Go.Proofs.Ytkckeogdijdohaa
