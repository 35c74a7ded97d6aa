/- Walks: the document's fuse. -/
import Derived.Test.YtcffkmlnbnjibaaGreatFuA
import Derived.Laws.ResultCell
namespace Go.Proofs.YtcffkmlnbnjibaaGreat
open Go.RowKit
def FuV.rs (f : FuV) : List Value := [.int .i64 f.p, .int .i64 f.s, .int .i64 f.d, .bool f.off]
def FuV.agg (f : FuV) : Value := .agg #[.int .i64 f.p, .int .i64 f.s, .int .i64 f.d, .bool f.off]
theorem info_rf : (Tryz.prog.info? 57).map (·.size) = some 4 := by kernel_rfl
theorem rfnew_calls (w : World) : Calls Tryz.prog 85 #[] w fun e w' => e = .returned FuV.calm.agg ∧ Ex w w' := by
  have HK := Lib.hid (Blk.new w FuV.calm.rs 57)
  have HX := Lib.hid (ex_alloc (Ex.refl w) (.cells FuV.calm.rs.toArray 57))
  go_enter Tryz.func85, Tryz.ntmps85
  go_wp2_with fail
  (try simp only [Exit.inBlock, Exit.then])
  refine bodyPost_ret (results_cell_row rfl _ _ w.heap.size 57 _ (0, 0) _ rfl HK.out Tryz.underlying57 rfl info_rf) rfl ?_
  exact ⟨rfl, HX.out⟩
/-- A fuse and a word as results. -/
theorem ret_rf2 {fn : Func} {p u : Tmp} (h : fn.results = #[.cell p 57, .tmp u]) (tmps : Array Value) (w : World) (g : Nat) (f : FuV) (hp : tmps.getD p undef = .pointer (some ⟨g, 0, none⟩)) (hg : Blk w g 57 f.rs) :
    (results fn tmps).run Tryz.prog w = .ok (.tuple #[f.agg, tmps.getD u undef]) w := by
  have hl := run_loadVar_row (P := Tryz.prog) w g 57 57 f.rs.toArray (0, 0) _ hg Tryz.underlying57 rfl info_rf
  rw [results_cell_tmp h, hp]
  simp only [asAddr, Sem.run_pure, Result.andThen, hl]
  rfl
theorem blk_two (w : World) (A : Obj) (cs : List Value) (t : TypeId) : Blk ((w.alloc A).alloc (.cells cs.toArray t)) (w.heap.size + 1) t cs := by
  have := Blk.new (w.alloc A) cs t
  simpa using this
theorem ex_two (w : World) (A B : Obj) : Ex w ((w.alloc A).alloc B) := ex_alloc (ex_alloc (Ex.refl w) A) B
theorem tick0 {n : Int} (h : n = 0) : tick n = -1 := by unfold tick; rw [if_pos h]
theorem tickm {n : Int} (h : n = -1) : tick n = -1 := by unfold tick; rw [if_neg (by omega)]; omega
theorem tickp {n : Int} (h : 0 < n) : tick n = n - 1 := by unfold tick; rw [if_neg (by omega)]; omega
set_option maxHeartbeats 4000000 in
theorem rfcall_calls {w : World} (f : FuV) (b : Bool) (ho : f.Ok) : Calls Tryz.prog 160 #[f.agg, .bool b] w fun e w' => e = .returned (.tuple #[(f.call b).1.agg, .int .i64 (f.call b).2]) ∧ Ex w w' := by
  obtain ⟨p, s, d, off⟩ := f
  obtain ⟨⟨o1, o2⟩, ⟨o3, o4⟩, ⟨o5, o6⟩⟩ := ho
  simp only at o1 o2 o3 o4 o5 o6
  have w1 : IntKind.i64.wrap (p - 1) = p - 1 := IntWalk.i64_in _ (by omega)
  have w2 : IntKind.i64.wrap (s - 1) = s - 1 := IntWalk.i64_in _ (by omega)
  have w3 : IntKind.i64.wrap (d - 1) = d - 1 := IntWalk.i64_in _ (by omega)
  cases off
  · rcases (show d = 0 ∨ d = -1 ∨ 0 < d by omega) with hd | hd | hd
    · have d1 : decide (d = 0) = true := decide_eq_true hd
      have HE : Hid ((FuV.call ⟨p, s, d, false⟩ b) = (⟨p, s, -1, true⟩, 14)) := by unfold FuV.call; rw [if_neg Bool.false_ne_true, if_pos hd]; exact rfl
      unfold FuV.agg
      rw [HE.out]
      go_enter Tryz.func160, Tryz.ntmps160
      go_wp2_with fail
      (try simp only [Exit.inBlock, Exit.then])
      refine bodyPost_ret (ret_rf2 rfl _ _ (w.heap.size + 1) ⟨p, s, -1, true⟩ rfl (blk_two _ _ _ _)) rfl ?_
      exact ⟨rfl, ex_two _ _ _⟩
    · have d1 : decide (d = 0) = false := decide_eq_false (by omega)
      have hd0 : ¬ d = 0 := by omega
      have c1 : decide (d - 1 < -1) = true := decide_eq_true (by omega)
      have c1' : d - 1 < -1 := by omega
      cases b
      · rcases (show p = 0 ∨ p = -1 ∨ 0 < p by omega) with hx | hx | hx
        · have d2 : decide (p = 0) = true := decide_eq_true (by omega)
          have HE : Hid ((FuV.call ⟨p, s, d, false⟩ false) = (⟨-1, s, -1, false⟩, 13)) := by unfold FuV.call; rw [if_neg Bool.false_ne_true, if_neg hd0, if_neg Bool.false_ne_true, if_pos hx]; show ((⟨tick p, s, tick d, false⟩ : FuV), (13 : Int)) = _; rw [tick0 hx, tickm hd]
          unfold FuV.agg
          rw [HE.out]
          go_enter Tryz.func160, Tryz.ntmps160
          go_wp2_with fail
          (try simp only [Exit.inBlock, Exit.then])
          refine bodyPost_ret (ret_rf2 rfl _ _ (w.heap.size + 1) ⟨-1, s, -1, false⟩ rfl (blk_two _ _ _ _)) rfl ?_
          exact ⟨rfl, ex_two _ _ _⟩
        · have d2 : decide (p = 0) = false := decide_eq_false (by omega)
          have hx0 : ¬ p = 0 := by omega
          have c2' : p - 1 < -1 := by omega
          have HE : Hid ((FuV.call ⟨p, s, d, false⟩ false) = (⟨-1, s, -1, false⟩, 0)) := by unfold FuV.call; rw [if_neg Bool.false_ne_true, if_neg hd0, if_neg Bool.false_ne_true, if_neg hx0]; show ((⟨tick p, s, tick d, false⟩ : FuV), (0 : Int)) = _; rw [tickm hx, tickm hd]
          unfold FuV.agg
          rw [HE.out]
          go_enter Tryz.func160, Tryz.ntmps160
          go_wp2_with fail
          (try simp only [Exit.inBlock, Exit.then])
          refine bodyPost_ret (ret_rf2 rfl _ _ (w.heap.size + 1) ⟨-1, s, -1, false⟩ rfl (blk_two _ _ _ _)) rfl ?_
          exact ⟨rfl, ex_two _ _ _⟩
        · have d2 : decide (p = 0) = false := decide_eq_false (by omega)
          have hx0 : ¬ p = 0 := by omega
          have c2' : ¬ (p - 1 < -1) := by omega
          have HE : Hid ((FuV.call ⟨p, s, d, false⟩ false) = (⟨p - 1, s, -1, false⟩, 0)) := by unfold FuV.call; rw [if_neg Bool.false_ne_true, if_neg hd0, if_neg Bool.false_ne_true, if_neg hx0]; show ((⟨tick p, s, tick d, false⟩ : FuV), (0 : Int)) = _; rw [tickp hx, tickm hd]
          unfold FuV.agg
          rw [HE.out]
          go_enter Tryz.func160, Tryz.ntmps160
          go_wp2_with fail
          (try simp only [Exit.inBlock, Exit.then])
          refine bodyPost_ret (ret_rf2 rfl _ _ (w.heap.size + 1) ⟨p - 1, s, -1, false⟩ rfl (blk_two _ _ _ _)) rfl ?_
          exact ⟨rfl, ex_two _ _ _⟩
      · rcases (show s = 0 ∨ s = -1 ∨ 0 < s by omega) with hx | hx | hx
        · have d2 : decide (s = 0) = true := decide_eq_true (by omega)
          have HE : Hid ((FuV.call ⟨p, s, d, false⟩ true) = (⟨p, -1, -1, false⟩, 13)) := by unfold FuV.call; rw [if_neg Bool.false_ne_true, if_neg hd0, if_pos rfl, if_pos hx]; show ((⟨p, tick s, tick d, false⟩ : FuV), (13 : Int)) = _; rw [tick0 hx, tickm hd]
          unfold FuV.agg
          rw [HE.out]
          go_enter Tryz.func160, Tryz.ntmps160
          go_wp2_with fail
          (try simp only [Exit.inBlock, Exit.then])
          refine bodyPost_ret (ret_rf2 rfl _ _ (w.heap.size + 1) ⟨p, -1, -1, false⟩ rfl (blk_two _ _ _ _)) rfl ?_
          exact ⟨rfl, ex_two _ _ _⟩
        · have d2 : decide (s = 0) = false := decide_eq_false (by omega)
          have hx0 : ¬ s = 0 := by omega
          have c2' : s - 1 < -1 := by omega
          have HE : Hid ((FuV.call ⟨p, s, d, false⟩ true) = (⟨p, -1, -1, false⟩, 0)) := by unfold FuV.call; rw [if_neg Bool.false_ne_true, if_neg hd0, if_pos rfl, if_neg hx0]; show ((⟨p, tick s, tick d, false⟩ : FuV), (0 : Int)) = _; rw [tickm hx, tickm hd]
          unfold FuV.agg
          rw [HE.out]
          go_enter Tryz.func160, Tryz.ntmps160
          go_wp2_with fail
          (try simp only [Exit.inBlock, Exit.then])
          refine bodyPost_ret (ret_rf2 rfl _ _ (w.heap.size + 1) ⟨p, -1, -1, false⟩ rfl (blk_two _ _ _ _)) rfl ?_
          exact ⟨rfl, ex_two _ _ _⟩
        · have d2 : decide (s = 0) = false := decide_eq_false (by omega)
          have hx0 : ¬ s = 0 := by omega
          have c2' : ¬ (s - 1 < -1) := by omega
          have HE : Hid ((FuV.call ⟨p, s, d, false⟩ true) = (⟨p, s - 1, -1, false⟩, 0)) := by unfold FuV.call; rw [if_neg Bool.false_ne_true, if_neg hd0, if_pos rfl, if_neg hx0]; show ((⟨p, tick s, tick d, false⟩ : FuV), (0 : Int)) = _; rw [tickp hx, tickm hd]
          unfold FuV.agg
          rw [HE.out]
          go_enter Tryz.func160, Tryz.ntmps160
          go_wp2_with fail
          (try simp only [Exit.inBlock, Exit.then])
          refine bodyPost_ret (ret_rf2 rfl _ _ (w.heap.size + 1) ⟨p, s - 1, -1, false⟩ rfl (blk_two _ _ _ _)) rfl ?_
          exact ⟨rfl, ex_two _ _ _⟩
    · have d1 : decide (d = 0) = false := decide_eq_false (by omega)
      have hd0 : ¬ d = 0 := by omega
      have c1 : decide (d - 1 < -1) = false := decide_eq_false (by omega)
      have c1' : ¬ (d - 1 < -1) := by omega
      cases b
      · rcases (show p = 0 ∨ p = -1 ∨ 0 < p by omega) with hx | hx | hx
        · have d2 : decide (p = 0) = true := decide_eq_true (by omega)
          have HE : Hid ((FuV.call ⟨p, s, d, false⟩ false) = (⟨-1, s, d - 1, false⟩, 13)) := by unfold FuV.call; rw [if_neg Bool.false_ne_true, if_neg hd0, if_neg Bool.false_ne_true, if_pos hx]; show ((⟨tick p, s, tick d, false⟩ : FuV), (13 : Int)) = _; rw [tick0 hx, tickp hd]
          unfold FuV.agg
          rw [HE.out]
          go_enter Tryz.func160, Tryz.ntmps160
          go_wp2_with fail
          (try simp only [Exit.inBlock, Exit.then])
          refine bodyPost_ret (ret_rf2 rfl _ _ (w.heap.size + 1) ⟨-1, s, d - 1, false⟩ rfl (blk_two _ _ _ _)) rfl ?_
          exact ⟨rfl, ex_two _ _ _⟩
        · have d2 : decide (p = 0) = false := decide_eq_false (by omega)
          have hx0 : ¬ p = 0 := by omega
          have c2' : p - 1 < -1 := by omega
          have HE : Hid ((FuV.call ⟨p, s, d, false⟩ false) = (⟨-1, s, d - 1, false⟩, 0)) := by unfold FuV.call; rw [if_neg Bool.false_ne_true, if_neg hd0, if_neg Bool.false_ne_true, if_neg hx0]; show ((⟨tick p, s, tick d, false⟩ : FuV), (0 : Int)) = _; rw [tickm hx, tickp hd]
          unfold FuV.agg
          rw [HE.out]
          go_enter Tryz.func160, Tryz.ntmps160
          go_wp2_with fail
          (try simp only [Exit.inBlock, Exit.then])
          refine bodyPost_ret (ret_rf2 rfl _ _ (w.heap.size + 1) ⟨-1, s, d - 1, false⟩ rfl (blk_two _ _ _ _)) rfl ?_
          exact ⟨rfl, ex_two _ _ _⟩
        · have d2 : decide (p = 0) = false := decide_eq_false (by omega)
          have hx0 : ¬ p = 0 := by omega
          have c2' : ¬ (p - 1 < -1) := by omega
          have HE : Hid ((FuV.call ⟨p, s, d, false⟩ false) = (⟨p - 1, s, d - 1, false⟩, 0)) := by unfold FuV.call; rw [if_neg Bool.false_ne_true, if_neg hd0, if_neg Bool.false_ne_true, if_neg hx0]; show ((⟨tick p, s, tick d, false⟩ : FuV), (0 : Int)) = _; rw [tickp hx, tickp hd]
          unfold FuV.agg
          rw [HE.out]
          go_enter Tryz.func160, Tryz.ntmps160
          go_wp2_with fail
          (try simp only [Exit.inBlock, Exit.then])
          refine bodyPost_ret (ret_rf2 rfl _ _ (w.heap.size + 1) ⟨p - 1, s, d - 1, false⟩ rfl (blk_two _ _ _ _)) rfl ?_
          exact ⟨rfl, ex_two _ _ _⟩
      · rcases (show s = 0 ∨ s = -1 ∨ 0 < s by omega) with hx | hx | hx
        · have d2 : decide (s = 0) = true := decide_eq_true (by omega)
          have HE : Hid ((FuV.call ⟨p, s, d, false⟩ true) = (⟨p, -1, d - 1, false⟩, 13)) := by unfold FuV.call; rw [if_neg Bool.false_ne_true, if_neg hd0, if_pos rfl, if_pos hx]; show ((⟨p, tick s, tick d, false⟩ : FuV), (13 : Int)) = _; rw [tick0 hx, tickp hd]
          unfold FuV.agg
          rw [HE.out]
          go_enter Tryz.func160, Tryz.ntmps160
          go_wp2_with fail
          (try simp only [Exit.inBlock, Exit.then])
          refine bodyPost_ret (ret_rf2 rfl _ _ (w.heap.size + 1) ⟨p, -1, d - 1, false⟩ rfl (blk_two _ _ _ _)) rfl ?_
          exact ⟨rfl, ex_two _ _ _⟩
        · have d2 : decide (s = 0) = false := decide_eq_false (by omega)
          have hx0 : ¬ s = 0 := by omega
          have c2' : s - 1 < -1 := by omega
          have HE : Hid ((FuV.call ⟨p, s, d, false⟩ true) = (⟨p, -1, d - 1, false⟩, 0)) := by unfold FuV.call; rw [if_neg Bool.false_ne_true, if_neg hd0, if_pos rfl, if_neg hx0]; show ((⟨p, tick s, tick d, false⟩ : FuV), (0 : Int)) = _; rw [tickm hx, tickp hd]
          unfold FuV.agg
          rw [HE.out]
          go_enter Tryz.func160, Tryz.ntmps160
          go_wp2_with fail
          (try simp only [Exit.inBlock, Exit.then])
          refine bodyPost_ret (ret_rf2 rfl _ _ (w.heap.size + 1) ⟨p, -1, d - 1, false⟩ rfl (blk_two _ _ _ _)) rfl ?_
          exact ⟨rfl, ex_two _ _ _⟩
        · have d2 : decide (s = 0) = false := decide_eq_false (by omega)
          have hx0 : ¬ s = 0 := by omega
          have c2' : ¬ (s - 1 < -1) := by omega
          have HE : Hid ((FuV.call ⟨p, s, d, false⟩ true) = (⟨p, s - 1, d - 1, false⟩, 0)) := by unfold FuV.call; rw [if_neg Bool.false_ne_true, if_neg hd0, if_pos rfl, if_neg hx0]; show ((⟨p, tick s, tick d, false⟩ : FuV), (0 : Int)) = _; rw [tickp hx, tickp hd]
          unfold FuV.agg
          rw [HE.out]
          go_enter Tryz.func160, Tryz.ntmps160
          go_wp2_with fail
          (try simp only [Exit.inBlock, Exit.then])
          refine bodyPost_ret (ret_rf2 rfl _ _ (w.heap.size + 1) ⟨p, s - 1, d - 1, false⟩ rfl (blk_two _ _ _ _)) rfl ?_
          exact ⟨rfl, ex_two _ _ _⟩
  · have hz : True := trivial
    have HE : Hid ((FuV.call ⟨p, s, d, true⟩ b) = (⟨p, s, d, true⟩, 14)) := by unfold FuV.call; rw [if_pos rfl]; exact rfl
    unfold FuV.agg
    rw [HE.out]
    go_enter Tryz.func160, Tryz.ntmps160
    go_wp2_with fail
    (try simp only [Exit.inBlock, Exit.then])
    refine bodyPost_ret (ret_rf2 rfl _ _ (w.heap.size + 1) ⟨p, s, d, true⟩ rfl (blk_two _ _ _ _)) rfl ?_
    exact ⟨rfl, ex_two _ _ _⟩
end Go.Proofs.YtcffkmlnbnjibaaGreat
