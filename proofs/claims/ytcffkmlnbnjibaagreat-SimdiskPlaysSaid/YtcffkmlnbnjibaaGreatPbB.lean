/- Walk: a file is written, wholly or not at all (publish.Write). -/
import Derived.Test.YtcffkmlnbnjibaaGreatPbA
namespace Go.Proofs.YtcffkmlnbnjibaaGreat
open Go.RowKit Go.Maps
/-- Step k of writing x under the name b, by way of s. -/
def stepP (s b x : ByteArray) (k : Nat) (Q : DkV) : DkV × Int := match k with
  | 0 => Q.anew s
  | 1 => Q.append s x
  | 2 => Q.syncT s
  | 3 => Q.rename s b
  | _ => Q.syncAll
/-- The steps from k on: the disk, how many were done, the error. -/
def runP (s b x : ByteArray) : Nat → Nat → DkV → DkV × Nat × Int
  | 0, k, Q => (Q, k, 0)
  | n + 1, k, Q => if (stepP s b x k Q).2 = 0 then runP s b x n (k + 1) (stepP s b x k Q).1 else ((stepP s b x k Q).1, k, (stepP s b x k Q).2)
def DkV.pub (Q : DkV) (s b x : ByteArray) : DkV × Nat × Int :=
  if (runP s b x 5 0 Q).2.1 < 4 then (((runP s b x 5 0 Q).1.remove s).1, (runP s b x 5 0 Q).2) else runP s b x 5 0 Q
theorem step_ok {Q : DkV} {M k : Nat} {s b x : ByteArray} (h : Q.Ok M) (hM : M ≤ 700000) (hs : s.size ≤ 9223372036854775807) (hb : b.size ≤ 9223372036854775807) : (stepP s b x k Q).1.Ok (M + 4) := by
  unfold stepP
  split
  · exact anew_ok h (by omega) hs
  · exact (append_ok h).up (by omega)
  · exact (syncT_ok h).up (by omega)
  · exact (rename_ok h hs hb).up (by omega)
  · exact (syncAll_ok h).up (by omega)
theorem runP_ok {s b x : ByteArray} (hs : s.size ≤ 9223372036854775807) (hb : b.size ≤ 9223372036854775807) : ∀ (n k : Nat) {Q : DkV} {M : Nat}, Q.Ok M → M + 4 * n ≤ 700000 → (runP s b x n k Q).1.Ok (M + 4 * n)
  | 0, _, _, _, h, _ => h
  | n + 1, k, Q, M, h, hM => by
    have h1 := step_ok (k := k) (x := x) h (by omega) hs hb
    unfold runP
    split
    · exact (runP_ok hs hb n (k + 1) h1 (by omega)).up (by omega)
    · exact h1.up (by omega)
theorem runP_k {s b x : ByteArray} : ∀ (n k : Nat) (Q : DkV), (runP s b x n k Q).2.1 ≤ k + n
  | 0, k, _ => Nat.le_refl k
  | n + 1, k, Q => by
    unfold runP
    split
    · have := runP_k (s := s) (b := b) (x := x) n (k + 1) (stepP s b x k Q).1; omega
    · show k ≤ _; omega
theorem pub_ok {Q : DkV} {M : Nat} {s b x : ByteArray} (h : Q.Ok M) (hM : M ≤ 600000) (hs : s.size ≤ 9223372036854775807) (hb : b.size ≤ 9223372036854775807) : (Q.pub s b x).1.Ok (M + 22) := by
  have h1 := runP_ok (x := x) hs hb 5 0 h (by omega)
  unfold DkV.pub
  split
  · exact remove_ok h1 hs
  · exact h1.up (by omega)
theorem runP_go {s b x : ByteArray} {n k : Nat} {Q Q2 : DkV} (h : stepP s b x k Q = (Q2, 0)) : runP s b x (n + 1) k Q = runP s b x n (k + 1) Q2 := by
  show (if (stepP s b x k Q).2 = 0 then _ else _) = _
  rw [h, if_pos rfl]
theorem runP_no {s b x : ByteArray} {n k : Nat} {Q Q2 : DkV} {r : Int} (h : stepP s b x k Q = (Q2, r)) (hr : ¬ r = 0) : runP s b x (n + 1) k Q = (Q2, k, r) := by
  show (if (stepP s b x k Q).2 = 0 then _ else _) = _
  rw [h, if_neg hr]
/-- What Write has of its own beside the disk. -/
structure Own (w : World) (wi : World) (Fi : Nat → Prop) (g bd bs bn pd pt pn px : Nat) (s b x : ByteArray) (n : Int) : Prop where
  obd : Blk wi bd 22 [ptrV g] ∧ ¬ Fi bd
  obs : Blk wi bs 9 [.string s] ∧ ¬ Fi bs
  obn : Blk wi bn 3 [.int .i64 n] ∧ ¬ Fi bn
  opd : Blk wi pd 22 [ptrV g] ∧ ¬ Fi pd
  opt : Blk wi pt 9 [.string s] ∧ ¬ Fi pt
  opn : Blk wi pn 9 [.string b] ∧ ¬ Fi pn
  opx : Blk wi px 9 [.string x] ∧ ¬ Fi px
  new : w.heap.size ≤ bn
  ne : bn ≠ bd ∧ bn ≠ bs ∧ bn ≠ pd ∧ bn ≠ pt ∧ bn ≠ pn ∧ bn ≠ px
section
variable {w wi wj : World} {F Fi : Nat → Prop} {g bd bs bn pd pt pn px : Nat} {s b x : ByteArray} {n : Int} {Q : DkV}
theorem Own.step (h : Own w wi Fi g bd bs bn pd pt pn px s b x n) (hO : Off Fi wi wj) : Own w wj (Fresh Fi wi wj) g bd bs bn pd pt pn px s b x n :=
  ⟨out_fresh h.obd.1 h.obd.2 hO, out_fresh h.obs.1 h.obs.2 hO, out_fresh h.obn.1 h.obn.2 hO, out_fresh h.opd.1 h.opd.2 hO, out_fresh h.opt.1 h.opt.2 hO, out_fresh h.opn.1 h.opn.2 hO, out_fresh h.opx.1 h.opx.2 hO, h.new, h.ne⟩
theorem Own.put (h : Own w wi Fi g bd bs bn pd pt pn px s b x n) (m : Int) : Own w (wi.setCell ⟨bn, 0, none⟩ (.int .i64 m)) Fi g bd bs bn pd pt pn px s b x m := by
  have hO := off_set wi bn 0 (.int .i64 m)
  obtain ⟨n1, n2, n3, n4, n5, n6⟩ := h.ne
  exact ⟨⟨h.obd.1.off hO (fun e => n1 e.symm), h.obd.2⟩, ⟨h.obs.1.off hO (fun e => n2 e.symm), h.obs.2⟩, ⟨h.obn.1.setCell (i := 0) (.int .i64 m), h.obn.2⟩, ⟨h.opd.1.off hO (fun e => n3 e.symm), h.opd.2⟩, ⟨h.opt.1.off hO (fun e => n4 e.symm), h.opt.2⟩, ⟨h.opn.1.off hO (fun e => n5 e.symm), h.opn.2⟩, ⟨h.opx.1.off hO (fun e => n6 e.symm), h.opx.2⟩, h.new, h.ne⟩
theorem Mid.put (h : Mid w F wi Fi g Q) (hF : ¬ Fi bn) (hn : w.heap.size ≤ bn) (v : Value) : Mid w F (wi.setCell ⟨bn, 0, none⟩ v) Fi g Q := by
  refine ⟨h.dk.off (off_set wi bn 0 v) (fun k _ hk e => hF (e ▸ hk)), fun k hk => ?_, h.off.setCell (p := ⟨bn, 0, none⟩) (.inr hn) v⟩
  have := (off_set wi bn 0 v).size
  rcases h.sub k hk with h3 | h3
  · exact .inl h3
  · exact .inr ⟨h3.1, by omega⟩
theorem pdefer_calls {M : Nat} {k : Nat} {u : FrameMode} (h : DkP wi g Fi Q) (ho : Q.Ok M) (hM : M ≤ 700000) (hs : s.size ≤ 9223372036854775807) (hd : Blk wi bd 22 [ptrV g]) (ht : Blk wi bs 9 [.string s]) (hn : Blk wi bn 3 [.int .i64 (k : Int)]) (hk : k ≤ 5) :
    CallsD Tryz.prog 93 #[ptrV bn, ptrV bd, ptrV bs] u wi fun e u' w' => u' = u ∧ (e = .returned (.tuple #[]) ∧ DkP w' g (Fresh Fi wi w') (if k < 4 then (Q.remove s).1 else Q) ∧ Off Fi wi w') := by
  have c1 : wi.cell? ⟨bd, 0, none⟩ = some (ptrV g) := by rw [hd.cell]; rfl
  have c2 : wi.cell? ⟨bs, 0, none⟩ = some (.string s) := by rw [ht.cell]; rfl
  have c3 : wi.cell? ⟨bn, 0, none⟩ = some (.int .i64 (k : Int)) := by rw [hn.cell]; rfl
  have HP := Lib.hid h
  have HO := Lib.hid ho
  clear h ho hd ht hn
  by_cases hk4 : k < 4
  · have d1 : decide ((k : Int) < 4) = true := decide_eq_true (by omega)
    rw [if_pos hk4]
    go_enter_d Tryz.func93, Tryz.ntmps93
    go_wp2_with fail
    refine (dremove_calls HP.out HO.out (by omega) s hs).mono ?_
    rintro e w1 ⟨rfl, hP, hO⟩
    have HF := Lib.hid (And.intro hP hO)
    clear hP hO
    go_wp2_with fail
    go_end0
    exact ⟨rfl, HF.out.1, HF.out.2⟩
  · have d1 : decide ((k : Int) < 4) = false := decide_eq_false (by omega)
    rw [if_neg hk4]
    go_enter_d Tryz.func93, Tryz.ntmps93
    go_wp2_with fail
    go_end0
    exact ⟨rfl, HP.out.more (fun k hk => .inl hk), Off.refl _ _⟩
theorem pub_door {M k : Nat} {r : Int} {Q0 : DkV} {tmps : Array Value} (hm : Mid w F wi Fi g Q) (ho : Q.Ok M) (hM : M ≤ 700000) (hs : s.size ≤ 9223372036854775807) (hw : Own w wi Fi g bd bs bn pd pt pn px s b x (k : Int)) (hk : k ≤ 5)
    (h8 : tmps.getD 8 undef = ptrV bn) (h9 : tmps.getD 9 undef = .int .i64 r) (hr : runP s b x 5 0 Q0 = (Q, k, r)) :
    Leaves Tryz.prog Tryz.f35 tmps (fun e w' => e = .returned (.tuple #[.int .i64 ((Q0.pub s b x).2.1 : Int), .int .i64 (Q0.pub s b x).2.2]) ∧ DkP w' g (Fresh F w w') (Q0.pub s b x).1 ∧ Off F w w')
      [{ target := .fn (.func 93) #[ptrV bn, ptrV bd, ptrV bs], args := #[] }] .returning wi := by
  refine leaves_cons (f := 93) (args := #[ptrV bn, ptrV bd, ptrV bs]) (by simp) (by simp [go_sem]) ?_
  refine (pdefer_calls (u := .returning) hm.dk ho hM hs hw.obd.1 hw.obs.1 hw.obn.1 hk).mono ?_
  rintro e u' w2 ⟨rfl, rfl, hP, hO⟩
  have hm2 := hm.step hP hO
  have hn := (out_fresh hw.obn.1 hw.obn.2 hO).1
  have hc : w2.cell? ⟨bn, 0, none⟩ = some (.int .i64 (k : Int)) := by rw [hn.cell]; rfl
  have hl : (loadVar 3 ⟨bn, 0, none⟩).run Tryz.prog w2 = .ok (.int .i64 (k : Int)) w2 := by simp [loadVar, go_sem, hc]
  refine ⟨.tuple #[.int .i64 (k : Int), .int .i64 r], ?_, ?_⟩
  · rw [results_cell_tmp rfl, h8, h9]
    simp only [asAddr, Sem.run_pure, Result.andThen, hl]
  · unfold DkV.pub
    rw [hr]
    split
    · rename_i h4
      rw [if_pos h4] at hm2
      exact ⟨rfl, hm2.fin.1, hm2.fin.2⟩
    · rename_i h4
      rw [if_neg h4] at hm2
      exact ⟨rfl, hm2.fin.1, hm2.fin.2⟩
end
theorem plan_at {cs : Array Value} {i : Nat} {v : Value} (hi : cs[i]? = some v) (h5 : i < 5) (w : World) : (Instr.index 137 (.agg cs) (.int .i64 (i : Int))).run Tryz.prog w = .ok v w := by
  simp [Instr.index, run_underlying Tryz.underlying137, asIntOf, hi, go_sem]
  intro h; omega
set_option maxHeartbeats 2000000 in
set_option maxRecDepth 100000 in
theorem pub_calls {w : World} {g : Nat} {F : Nat → Prop} {Q : DkV} (h : DkP w g F Q) {M : Nat} (ho : Q.Ok M) (hM : M ≤ 600000) (s b x : ByteArray) (hs : s.size ≤ 9223372036854775807) (hb : b.size ≤ 9223372036854775807) (hx : x.size ≤ 1000000) :
    Calls Tryz.prog 35 #[ptrV g, .string s, .string b, .string x] w fun e w' => e = .returned (.tuple #[.int .i64 ((Q.pub s b x).2.1 : Int), .int .i64 (Q.pub s b x).2.2]) ∧ DkP w' g (Fresh F w w') (Q.pub s b x).1 ∧ Off F w w' := by
  have hmf : ∀ (fn : Fn) (first cap : Array Value) (w : World), (Instr.makeFunc fn first cap).run Tryz.prog w = .ok (.func fn first cap) w := fun _ _ _ _ => rfl
  have b1 := blk_two w (.cells #[ptrV g] 22) [.string s] 9
  have b2 := blk_two (w.alloc (.cells #[ptrV g] 22)) (.cells #[.string s] 9) [.int .i64 0] 3
  have b0 := Blk.new w [ptrV g] 22
  have hx0 := ex_alloc (ex_two w (.cells #[ptrV g] 22) (.cells #[.string s] 9)) (.cells #[.int .i64 0] 3)
  simp only [World.size_alloc] at b2
  have HB := Lib.hid (And.intro ((b0.ex (ex_alloc (Ex.refl _) (.cells #[.string s] 9))).ex (ex_alloc (Ex.refl _) (.cells #[.int .i64 0] 3))) (And.intro (b1.ex (ex_alloc (Ex.refl _) (.cells #[.int .i64 0] 3))) (And.intro b2 hx0)))
  clear b0 b1 b2 hx0
  have HP := Lib.hid h
  have HO := Lib.hid ho
  clear h ho
  go_enter_defers Tryz.func35, Tryz.ntmps35
  go_wp2_with fail
  refine (plan_calls g s b x _).mono ?_
  rintro e w1 ⟨pd, pt, pn, px, rfl, z1, z2, z3, z4, p1, p2, p3, p4, hX⟩
  simp only [World.size_alloc] at z1 z2 z3 z4
  have HXX := Lib.hid (HB.out.2.2.2.trans hX)
  have HW := Lib.hid (show Own w w1 (fun k => F k ∧ k < w.heap.size) g w.heap.size (w.heap.size + 1) (w.heap.size + 1 + 1) pd pt pn px s b x 0 from
    ⟨⟨HB.out.1.ex hX, fun h => by omega⟩, ⟨HB.out.2.1.ex hX, fun h => by omega⟩, ⟨HB.out.2.2.1.ex hX, fun h => by omega⟩, ⟨p1, fun h => by omega⟩, ⟨p2, fun h => by omega⟩, ⟨p3, fun h => by omega⟩, ⟨p4, fun h => by omega⟩, by omega, by omega, by omega, by omega, by omega, by omega, by omega⟩)
  have HM := Lib.hid (show Mid w F w1 (fun k => F k ∧ k < w.heap.size) g Q from ⟨HP.out.bound.ex HXX.out, fun k hk => .inl hk.1, Ex.off HXX.out F⟩)
  clear p1 p2 p3 p4 hX HB HP HXX
  unfold planV
  go_wp2_with fail
  go_loopw [9, 11, 18] (fun v9 _ v18 wr => ∃ (k : Nat) (Qk : DkV) (Fi : Nat → Prop), k ≤ 5 ∧ v18 = .int .i64 (k : Int) ∧ v9 = .int .i64 0 ∧ Mid w F wr Fi g Qk ∧ Own w wr Fi g w.heap.size (w.heap.size + 1) (w.heap.size + 1 + 1) pd pt pn px s b x (k : Int) ∧ Qk.Ok (M + 4 * k) ∧ runP s b x (5 - k) k Qk = runP s b x 5 0 Q) (fun _ _ v18 _ => 5 - (intOf v18).toNat)
  case atStart => exact ⟨0, Q, _, by omega, rfl, rfl, HM.out, HW.out, HO.out, rfl⟩
  case round =>
    clear HM HW
    obtain ⟨k, Qk, Fi, hk, hv, rfl, hM0, hW0, hQ0, hR0⟩ := hrel
    have HM := Lib.hid hM0
    have HW := Lib.hid hW0
    have HQ := Lib.hid hQ0
    have HR := Lib.hid hR0
    clear hM0 hW0 hQ0 hR0
    by_cases hk5 : k < 5
    · rcases (by omega : k = 0 ∨ k = 1 ∨ k = 2 ∨ k = 3 ∨ k = 4) with rfl | rfl | rfl | rfl | rfl
      · have hv : _ = Value.int .i64 0 := hv
        subst hv
        have hix : ∀ w, (Instr.index 137 (.agg #[.func (.func 138) #[] #[ptrV pd, ptrV pt], .func (.func 139) #[] #[ptrV pd, ptrV pt, ptrV px], .func (.func 140) #[] #[ptrV pd, ptrV pt], .func (.func 141) #[] #[ptrV pd, ptrV pt, ptrV pn], .func (.func 142) #[] #[ptrV pd]]) (.int .i64 0)).run Tryz.prog w = .ok (.func (.func 138) #[] #[ptrV pd, ptrV pt]) w := fun w => plan_at (cs := (planCs pd pt pn px).toArray) (i := 0) (v := _) rfl (by omega) w
        go_wp2_with fail
        refine Calls.mono (show Calls _ _ _ _ (fun e w' => e = .returned (.int .i64 (stepP s b x 0 Qk).2) ∧ DkP w' g (Fresh Fi wr w') (stepP s b x 0 Qk).1 ∧ Off Fi wr w') from pstep1_calls HM.out.dk HQ.out (by omega) hs HW.out.opd.1 HW.out.opt.1 HW.out.opd.2 HW.out.opt.2) ?_
        rintro e w2 ⟨rfl, hP, hO⟩
        have HM2 := Lib.hid (HM.out.step hP hO)
        have HW2 := Lib.hid (HW.out.step hO)
        have HQ2 := Lib.hid (step_ok (k := 0) (x := x) HQ.out (by omega) hs hb)
        have HS := Lib.hid (show stepP s b x 0 Qk = ((stepP s b x 0 Qk).1, (stepP s b x 0 Qk).2) from rfl)
        generalize (stepP s b x 0 Qk).2 = r2 at *
        generalize (stepP s b x 0 Qk).1 = Q2 at *
        have c8 : w2.cell? ⟨w.heap.size + 1 + 1, 0, none⟩ = some (.int .i64 0) := by rw [HW2.out.obn.1.cell]; rfl
        have f8 := HW2.out.obn.1.frozen 0
        have HW3 := Lib.hid (HW2.out.put 1)
        have HM3 := Lib.hid (HM2.out.put HW2.out.obn.2 HW2.out.new (.int .i64 1))
        have HW4 := Lib.hid (HW2.out.put 0)
        have HM4 := Lib.hid (HM2.out.put HW2.out.obn.2 HW2.out.new (.int .i64 0))
        clear hP hO HM HW HQ HM2 HW2
        by_cases hr : r2 = 0
        · subst hr
          go_wp2_with fail
          exact ⟨⟨1, Q2, _, by omega, rfl, rfl, HM3.out, HW3.out, HQ2.out.up (by omega), (runP_go HS.out).symm.trans HR.out⟩, by simp [intOf]⟩
        · have hr2 : (r2 == 0) = false := by simpa using hr
          have HN := Lib.hid hr
          clear hr
          go_wp2_with fail
          exact pub_door (k := 0) (M := M + 24) HM4.out (HQ2.out.up (by omega)) (by omega) hs HW4.out (by omega) rfl rfl (HR.out.symm.trans (runP_no HS.out HN.out))
      · have hv : _ = Value.int .i64 1 := hv
        subst hv
        have hix : ∀ w, (Instr.index 137 (.agg #[.func (.func 138) #[] #[ptrV pd, ptrV pt], .func (.func 139) #[] #[ptrV pd, ptrV pt, ptrV px], .func (.func 140) #[] #[ptrV pd, ptrV pt], .func (.func 141) #[] #[ptrV pd, ptrV pt, ptrV pn], .func (.func 142) #[] #[ptrV pd]]) (.int .i64 1)).run Tryz.prog w = .ok (.func (.func 139) #[] #[ptrV pd, ptrV pt, ptrV px]) w := fun w => plan_at (cs := (planCs pd pt pn px).toArray) (i := 1) (v := _) rfl (by omega) w
        go_wp2_with fail
        refine Calls.mono (show Calls _ _ _ _ (fun e w' => e = .returned (.int .i64 (stepP s b x 1 Qk).2) ∧ DkP w' g (Fresh Fi wr w') (stepP s b x 1 Qk).1 ∧ Off Fi wr w') from pstep2_calls HM.out.dk HQ.out (by omega) hs hx HW.out.opd.1 HW.out.opt.1 HW.out.opx.1) ?_
        rintro e w2 ⟨rfl, hP, hO⟩
        have HM2 := Lib.hid (HM.out.step hP hO)
        have HW2 := Lib.hid (HW.out.step hO)
        have HQ2 := Lib.hid (step_ok (k := 1) (x := x) HQ.out (by omega) hs hb)
        have HS := Lib.hid (show stepP s b x 1 Qk = ((stepP s b x 1 Qk).1, (stepP s b x 1 Qk).2) from rfl)
        generalize (stepP s b x 1 Qk).2 = r2 at *
        generalize (stepP s b x 1 Qk).1 = Q2 at *
        have c8 : w2.cell? ⟨w.heap.size + 1 + 1, 0, none⟩ = some (.int .i64 1) := by rw [HW2.out.obn.1.cell]; rfl
        have f8 := HW2.out.obn.1.frozen 0
        have HW3 := Lib.hid (HW2.out.put 2)
        have HM3 := Lib.hid (HM2.out.put HW2.out.obn.2 HW2.out.new (.int .i64 2))
        have HW4 := Lib.hid (HW2.out.put 1)
        have HM4 := Lib.hid (HM2.out.put HW2.out.obn.2 HW2.out.new (.int .i64 1))
        clear hP hO HM HW HQ HM2 HW2
        by_cases hr : r2 = 0
        · subst hr
          go_wp2_with fail
          exact ⟨⟨2, Q2, _, by omega, rfl, rfl, HM3.out, HW3.out, HQ2.out.up (by omega), (runP_go HS.out).symm.trans HR.out⟩, by simp [intOf]⟩
        · have hr2 : (r2 == 0) = false := by simpa using hr
          have HN := Lib.hid hr
          clear hr
          go_wp2_with fail
          exact pub_door (k := 1) (M := M + 24) HM4.out (HQ2.out.up (by omega)) (by omega) hs HW4.out (by omega) rfl rfl (HR.out.symm.trans (runP_no HS.out HN.out))
      · have hv : _ = Value.int .i64 2 := hv
        subst hv
        have hix : ∀ w, (Instr.index 137 (.agg #[.func (.func 138) #[] #[ptrV pd, ptrV pt], .func (.func 139) #[] #[ptrV pd, ptrV pt, ptrV px], .func (.func 140) #[] #[ptrV pd, ptrV pt], .func (.func 141) #[] #[ptrV pd, ptrV pt, ptrV pn], .func (.func 142) #[] #[ptrV pd]]) (.int .i64 2)).run Tryz.prog w = .ok (.func (.func 140) #[] #[ptrV pd, ptrV pt]) w := fun w => plan_at (cs := (planCs pd pt pn px).toArray) (i := 2) (v := _) rfl (by omega) w
        go_wp2_with fail
        refine Calls.mono (show Calls _ _ _ _ (fun e w' => e = .returned (.int .i64 (stepP s b x 2 Qk).2) ∧ DkP w' g (Fresh Fi wr w') (stepP s b x 2 Qk).1 ∧ Off Fi wr w') from pstep3_calls HM.out.dk HQ.out (by omega) hs HW.out.opd.1 HW.out.opt.1) ?_
        rintro e w2 ⟨rfl, hP, hO⟩
        have HM2 := Lib.hid (HM.out.step hP hO)
        have HW2 := Lib.hid (HW.out.step hO)
        have HQ2 := Lib.hid (step_ok (k := 2) (x := x) HQ.out (by omega) hs hb)
        have HS := Lib.hid (show stepP s b x 2 Qk = ((stepP s b x 2 Qk).1, (stepP s b x 2 Qk).2) from rfl)
        generalize (stepP s b x 2 Qk).2 = r2 at *
        generalize (stepP s b x 2 Qk).1 = Q2 at *
        have c8 : w2.cell? ⟨w.heap.size + 1 + 1, 0, none⟩ = some (.int .i64 2) := by rw [HW2.out.obn.1.cell]; rfl
        have f8 := HW2.out.obn.1.frozen 0
        have HW3 := Lib.hid (HW2.out.put 3)
        have HM3 := Lib.hid (HM2.out.put HW2.out.obn.2 HW2.out.new (.int .i64 3))
        have HW4 := Lib.hid (HW2.out.put 2)
        have HM4 := Lib.hid (HM2.out.put HW2.out.obn.2 HW2.out.new (.int .i64 2))
        clear hP hO HM HW HQ HM2 HW2
        by_cases hr : r2 = 0
        · subst hr
          go_wp2_with fail
          exact ⟨⟨3, Q2, _, by omega, rfl, rfl, HM3.out, HW3.out, HQ2.out.up (by omega), (runP_go HS.out).symm.trans HR.out⟩, by simp [intOf]⟩
        · have hr2 : (r2 == 0) = false := by simpa using hr
          have HN := Lib.hid hr
          clear hr
          go_wp2_with fail
          exact pub_door (k := 2) (M := M + 24) HM4.out (HQ2.out.up (by omega)) (by omega) hs HW4.out (by omega) rfl rfl (HR.out.symm.trans (runP_no HS.out HN.out))
      · have hv : _ = Value.int .i64 3 := hv
        subst hv
        have hix : ∀ w, (Instr.index 137 (.agg #[.func (.func 138) #[] #[ptrV pd, ptrV pt], .func (.func 139) #[] #[ptrV pd, ptrV pt, ptrV px], .func (.func 140) #[] #[ptrV pd, ptrV pt], .func (.func 141) #[] #[ptrV pd, ptrV pt, ptrV pn], .func (.func 142) #[] #[ptrV pd]]) (.int .i64 3)).run Tryz.prog w = .ok (.func (.func 141) #[] #[ptrV pd, ptrV pt, ptrV pn]) w := fun w => plan_at (cs := (planCs pd pt pn px).toArray) (i := 3) (v := _) rfl (by omega) w
        go_wp2_with fail
        refine Calls.mono (show Calls _ _ _ _ (fun e w' => e = .returned (.int .i64 (stepP s b x 3 Qk).2) ∧ DkP w' g (Fresh Fi wr w') (stepP s b x 3 Qk).1 ∧ Off Fi wr w') from pstep4_calls HM.out.dk HQ.out (by omega) hs hb HW.out.opd.1 HW.out.opt.1 HW.out.opn.1) ?_
        rintro e w2 ⟨rfl, hP, hO⟩
        have HM2 := Lib.hid (HM.out.step hP hO)
        have HW2 := Lib.hid (HW.out.step hO)
        have HQ2 := Lib.hid (step_ok (k := 3) (x := x) HQ.out (by omega) hs hb)
        have HS := Lib.hid (show stepP s b x 3 Qk = ((stepP s b x 3 Qk).1, (stepP s b x 3 Qk).2) from rfl)
        generalize (stepP s b x 3 Qk).2 = r2 at *
        generalize (stepP s b x 3 Qk).1 = Q2 at *
        have c8 : w2.cell? ⟨w.heap.size + 1 + 1, 0, none⟩ = some (.int .i64 3) := by rw [HW2.out.obn.1.cell]; rfl
        have f8 := HW2.out.obn.1.frozen 0
        have HW3 := Lib.hid (HW2.out.put 4)
        have HM3 := Lib.hid (HM2.out.put HW2.out.obn.2 HW2.out.new (.int .i64 4))
        have HW4 := Lib.hid (HW2.out.put 3)
        have HM4 := Lib.hid (HM2.out.put HW2.out.obn.2 HW2.out.new (.int .i64 3))
        clear hP hO HM HW HQ HM2 HW2
        by_cases hr : r2 = 0
        · subst hr
          go_wp2_with fail
          exact ⟨⟨4, Q2, _, by omega, rfl, rfl, HM3.out, HW3.out, HQ2.out.up (by omega), (runP_go HS.out).symm.trans HR.out⟩, by simp [intOf]⟩
        · have hr2 : (r2 == 0) = false := by simpa using hr
          have HN := Lib.hid hr
          clear hr
          go_wp2_with fail
          exact pub_door (k := 3) (M := M + 24) HM4.out (HQ2.out.up (by omega)) (by omega) hs HW4.out (by omega) rfl rfl (HR.out.symm.trans (runP_no HS.out HN.out))
      · have hv : _ = Value.int .i64 4 := hv
        subst hv
        have hix : ∀ w, (Instr.index 137 (.agg #[.func (.func 138) #[] #[ptrV pd, ptrV pt], .func (.func 139) #[] #[ptrV pd, ptrV pt, ptrV px], .func (.func 140) #[] #[ptrV pd, ptrV pt], .func (.func 141) #[] #[ptrV pd, ptrV pt, ptrV pn], .func (.func 142) #[] #[ptrV pd]]) (.int .i64 4)).run Tryz.prog w = .ok (.func (.func 142) #[] #[ptrV pd]) w := fun w => plan_at (cs := (planCs pd pt pn px).toArray) (i := 4) (v := _) rfl (by omega) w
        go_wp2_with fail
        refine Calls.mono (show Calls _ _ _ _ (fun e w' => e = .returned (.int .i64 (stepP s b x 4 Qk).2) ∧ DkP w' g (Fresh Fi wr w') (stepP s b x 4 Qk).1 ∧ Off Fi wr w') from pstep5_calls HM.out.dk HQ.out (by omega) HW.out.opd.1) ?_
        rintro e w2 ⟨rfl, hP, hO⟩
        have HM2 := Lib.hid (HM.out.step hP hO)
        have HW2 := Lib.hid (HW.out.step hO)
        have HQ2 := Lib.hid (step_ok (k := 4) (x := x) HQ.out (by omega) hs hb)
        have HS := Lib.hid (show stepP s b x 4 Qk = ((stepP s b x 4 Qk).1, (stepP s b x 4 Qk).2) from rfl)
        generalize (stepP s b x 4 Qk).2 = r2 at *
        generalize (stepP s b x 4 Qk).1 = Q2 at *
        have c8 : w2.cell? ⟨w.heap.size + 1 + 1, 0, none⟩ = some (.int .i64 4) := by rw [HW2.out.obn.1.cell]; rfl
        have f8 := HW2.out.obn.1.frozen 0
        have HW3 := Lib.hid (HW2.out.put 5)
        have HM3 := Lib.hid (HM2.out.put HW2.out.obn.2 HW2.out.new (.int .i64 5))
        have HW4 := Lib.hid (HW2.out.put 4)
        have HM4 := Lib.hid (HM2.out.put HW2.out.obn.2 HW2.out.new (.int .i64 4))
        clear hP hO HM HW HQ HM2 HW2
        by_cases hr : r2 = 0
        · subst hr
          go_wp2_with fail
          exact ⟨⟨5, Q2, _, by omega, rfl, rfl, HM3.out, HW3.out, HQ2.out.up (by omega), (runP_go HS.out).symm.trans HR.out⟩, by simp [intOf]⟩
        · have hr2 : (r2 == 0) = false := by simpa using hr
          have HN := Lib.hid hr
          clear hr
          go_wp2_with fail
          exact pub_door (k := 4) (M := M + 24) HM4.out (HQ2.out.up (by omega)) (by omega) hs HW4.out (by omega) rfl rfl (HR.out.symm.trans (runP_no HS.out HN.out))
    · have hk5' : k = 5 := by omega
      subst hk5'
      have hv : _ = Value.int .i64 5 := hv
      subst hv
      have c8 : wr.cell? ⟨w.heap.size + 1 + 1, 0, none⟩ = some (.int .i64 5) := by rw [HW.out.obn.1.cell]; rfl
      have f8 := HW.out.obn.1.frozen 0
      have HW3 := Lib.hid (HW.out.put 5)
      have HM3 := Lib.hid (HM.out.put HW.out.obn.2 HW.out.new (.int .i64 5))
      clear HW HM
      go_wp2_with fail
      exact pub_door (k := 5) (M := M + 24) HM3.out (HQ.out.up (by omega)) (by omega) hs HW3.out (by omega) rfl rfl HR.out.symm
end Go.Proofs.YtcffkmlnbnjibaaGreat
