/- Walks: the document's fuse: Arm. -/
import Derived.Test.YtcffkmlnbnjibaaGreatFuB
namespace Go.Proofs.YtcffkmlnbnjibaaGreat
open Go.RowKit
theorem blk_three (w : World) (A B : Obj) (cs : List Value) (t : TypeId) : Blk (((w.alloc A).alloc B).alloc (.cells cs.toArray t)) (w.heap.size + 1 + 1) t cs := by
  have := Blk.new ((w.alloc A).alloc B) cs t
  simpa using this
theorem ex_three (w : World) (A B C : Obj) : Ex w (((w.alloc A).alloc B).alloc C) := ex_alloc (ex_two w A B) C
set_option maxHeartbeats 4000000 in
theorem rfarm_calls {w : World} (f : FuV) (k a : Int) : Calls Tryz.prog 92 #[f.agg, .agg #[.int .i64 k, .int .i64 a]] w fun e w' => e = .returned (.tuple #[(f.arm k a).1.agg, .bool (f.arm k a).2]) ∧ Ex w w' := by
  obtain ⟨p, s, d, off⟩ := f
  by_cases ha : a < 0
  · have d0 : decide (a < 0) = true := decide_eq_true ha
    have HE : Hid ((FuV.arm ⟨p, s, d, off⟩ k a) = (⟨p, s, d, off⟩, false)) := by unfold FuV.arm; rw [if_pos (.inr (.inr ha))]; exact rfl
    unfold FuV.agg
    rw [HE.out]
    go_enter Tryz.func92, Tryz.ntmps92
    go_wp2_with fail
    (try simp only [Exit.inBlock, Exit.then])
    refine bodyPost_ret (ret_rf2 rfl _ _ (w.heap.size + 1 + 1) ⟨p, s, d, off⟩ rfl (blk_three _ _ _ _ _)) rfl ?_
    exact ⟨rfl, ex_three _ _ _ _⟩
  · have d0 : decide (a < 0) = false := decide_eq_false ha
    rcases (show k = 0 ∨ k = 1 ∨ k = 2 ∨ k = 3 ∨ (k < 0 ∨ 4 ≤ k) by omega) with rfl | rfl | rfl | rfl | hk
    · have hz : True := trivial
      have HE : Hid ((FuV.arm ⟨p, s, d, off⟩ 0 a) = (⟨-1, -1, -1, off⟩, true)) := by unfold FuV.arm; rw [if_neg (by omega), if_pos rfl]; exact rfl
      unfold FuV.agg
      rw [HE.out]
      go_enter Tryz.func92, Tryz.ntmps92
      go_wp2_with fail
      (try simp only [Exit.inBlock, Exit.then])
      refine bodyPost_ret (ret_rf2 rfl _ _ (w.heap.size + 1 + 1) ⟨-1, -1, -1, off⟩ rfl (blk_three _ _ _ _ _)) rfl ?_
      exact ⟨rfl, ex_three _ _ _ _⟩
    · have hz : True := trivial
      have HE : Hid ((FuV.arm ⟨p, s, d, off⟩ 1 a) = (⟨a, s, d, off⟩, true)) := by unfold FuV.arm; rw [if_neg (by omega), if_neg (by decide), if_pos rfl]; exact rfl
      unfold FuV.agg
      rw [HE.out]
      go_enter Tryz.func92, Tryz.ntmps92
      go_wp2_with fail
      (try simp only [Exit.inBlock, Exit.then])
      refine bodyPost_ret (ret_rf2 rfl _ _ (w.heap.size + 1 + 1) ⟨a, s, d, off⟩ rfl (blk_three _ _ _ _ _)) rfl ?_
      exact ⟨rfl, ex_three _ _ _ _⟩
    · have hz : True := trivial
      have HE : Hid ((FuV.arm ⟨p, s, d, off⟩ 2 a) = (⟨p, a, d, off⟩, true)) := by unfold FuV.arm; rw [if_neg (by omega), if_neg (by decide), if_neg (by decide), if_pos rfl]; exact rfl
      unfold FuV.agg
      rw [HE.out]
      go_enter Tryz.func92, Tryz.ntmps92
      go_wp2_with fail
      (try simp only [Exit.inBlock, Exit.then])
      refine bodyPost_ret (ret_rf2 rfl _ _ (w.heap.size + 1 + 1) ⟨p, a, d, off⟩ rfl (blk_three _ _ _ _ _)) rfl ?_
      exact ⟨rfl, ex_three _ _ _ _⟩
    · have hz : True := trivial
      have HE : Hid ((FuV.arm ⟨p, s, d, off⟩ 3 a) = (⟨p, s, a, off⟩, true)) := by unfold FuV.arm; rw [if_neg (by omega), if_neg (by decide), if_neg (by decide), if_neg (by decide)]; exact rfl
      unfold FuV.agg
      rw [HE.out]
      go_enter Tryz.func92, Tryz.ntmps92
      go_wp2_with fail
      (try simp only [Exit.inBlock, Exit.then])
      refine bodyPost_ret (ret_rf2 rfl _ _ (w.heap.size + 1 + 1) ⟨p, s, a, off⟩ rfl (blk_three _ _ _ _ _)) rfl ?_
      exact ⟨rfl, ex_three _ _ _ _⟩
    · have d1 : decide (k = 0) = false := decide_eq_false (by omega)
      have d2 : decide (k = 1) = false := decide_eq_false (by omega)
      have d3 : decide (k = 2) = false := decide_eq_false (by omega)
      have d4 : decide (k = 3) = false := decide_eq_false (by omega)
      have HE : Hid ((FuV.arm ⟨p, s, d, off⟩ k a) = (⟨p, s, d, off⟩, false)) := by unfold FuV.arm; rw [if_pos (by omega)]; exact rfl
      unfold FuV.agg
      rw [HE.out]
      go_enter Tryz.func92, Tryz.ntmps92
      go_wp2_with fail
      (try simp only [Exit.inBlock, Exit.then])
      refine bodyPost_ret (ret_rf2 rfl _ _ (w.heap.size + 1 + 1) ⟨p, s, d, off⟩ rfl (blk_three _ _ _ _ _)) rfl ?_
      exact ⟨rfl, ex_three _ _ _ _⟩
end Go.Proofs.YtcffkmlnbnjibaaGreat
