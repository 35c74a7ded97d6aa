/- Walk: a file is written, wholly or not at all (publish.Write). -/
import Derived.Test.YtomfcgeibbicoaaGreatPbA
namespace Go.Proofs.YtomfcgeibbicoaaGreat
open Go.RowKit Go.Maps
/-- Step k of writing x under the name b, by way of s. -/
def stepP (s b x : ByteArray) (k : Nat) (Q : DkV) : DkV × Int := match k with
  | 0 => Q.anew s
  | 1 => Q.append s x
  | 2 => Q.syncT s
  | 3 => Q.rename s b
  | _ => Q.syncAll
/-- The steps from k on: the disk, how many were done, the error. -/
def runP (s b x : ByteArray) : Nat → Nat → DkV → DkV × Nat × Int
  | 0, k, Q => (Q, k, 0)
  | n + 1, k, Q => if (stepP s b x k Q).2 = 0 then runP s b x n (k + 1) (stepP s b x k Q).1 else ((stepP s b x k Q).1, k, (stepP s b x k Q).2)
def DkV.pub (Q : DkV) (s b x : ByteArray) : DkV × Nat × Int :=
  if (runP s b x 5 0 Q).2.1 < 4 then (((runP s b x 5 0 Q).1.remove s).1, (runP s b x 5 0 Q).2) else runP s b x 5 0 Q
theorem step_ok {Q : DkV} {M k : Nat} {s b x : ByteArray} (h : Q.Ok M) (hM : M ≤ 700000) (hs : s.size ≤ 9223372036854775807) (hb : b.size ≤ 9223372036854775807) : (stepP s b x k Q).1.Ok (M + 4) := by
  unfold stepP
  split
  · exact anew_ok h (by omega) hs
  · exact (append_ok h).up (by omega)
  · exact (syncT_ok h).up (by omega)
  · exact (rename_ok h hs hb).up (by omega)
  · exact (syncAll_ok h).up (by omega)
theorem runP_ok {s b x : ByteArray} (hs : s.size ≤ 9223372036854775807) (hb : b.size ≤ 9223372036854775807) : ∀ (n k : Nat) {Q : DkV} {M : Nat}, Q.Ok M → M + 4 * n ≤ 700000 → (runP s b x n k Q).1.Ok (M + 4 * n)
  | 0, _, _, _, h, _ => h
  | n + 1, k, Q, M, h, hM => by
    have h1 := step_ok (k := k) (x := x) h (by omega) hs hb
    unfold runP
    split
    · exact (runP_ok hs hb n (k + 1) h1 (by omega)).up (by omega)
    · exact h1.up (by omega)
theorem runP_k {s b x : ByteArray} : ∀ (n k : Nat) (Q : DkV), (runP s b x n k Q).2.1 ≤ k + n
  | 0, k, _ => Nat.le_refl k
  | n + 1, k, Q => by
    unfold runP
    split
    · have := runP_k (s := s) (b := b) (x := x) n (k + 1) (stepP s b x k Q).1; omega
    · show k ≤ _; omega
theorem pub_ok {Q : DkV} {M : Nat} {s b x : ByteArray} (h : Q.Ok M) (hM : M ≤ 600000) (hs : s.size ≤ 9223372036854775807) (hb : b.size ≤ 9223372036854775807) : (Q.pub s b x).1.Ok (M + 22) := by
  have h1 := runP_ok (x := x) hs hb 5 0 h (by omega)
  unfold DkV.pub
  split
  · exact remove_ok h1 hs
  · exact h1.up (by omega)
theorem runP_go {s b x : ByteArray} {n k : Nat} {Q Q2 : DkV} (h : stepP s b x k Q = (Q2, 0)) : runP s b x (n + 1) k Q = runP s b x n (k + 1) Q2 := by
  show (if (stepP s b x k Q).2 = 0 then _ else _) = _
  rw [h, if_pos rfl]
theorem runP_no {s b x : ByteArray} {n k : Nat} {Q Q2 : DkV} {r : Int} (h : stepP s b x k Q = (Q2, r)) (hr : ¬ r = 0) : runP s b x (n + 1) k Q = (Q2, k, r) := by
  show (if (stepP s b x k Q).2 = 0 then _ else _) = _
  rw [h, if_neg hr]
/-- What Write has of its own beside the disk. -/
structure Own (w : World) (wi : World) (Fi : Nat → Prop) (g bd bs bn pd pt pn px : Nat) (s b x : ByteArray) (n : Int) : Prop where
  obd : Blk wi bd 29 [ptrV g] ∧ ¬ Fi bd
  obs : Blk wi bs 9 [.string s] ∧ ¬ Fi bs
  obn : Blk wi bn 3 [.int .i64 n] ∧ ¬ Fi bn
  opd : Blk wi pd 29 [ptrV g] ∧ ¬ Fi pd
  opt : Blk wi pt 9 [.string s] ∧ ¬ Fi pt
  opn : Blk wi pn 9 [.string b] ∧ ¬ Fi pn
  opx : Blk wi px 9 [.string x] ∧ ¬ Fi px
  new : w.heap.size ≤ bn
  ne : bn ≠ bd ∧ bn ≠ bs ∧ bn ≠ pd ∧ bn ≠ pt ∧ bn ≠ pn ∧ bn ≠ px
section
variable {w wi wj : World} {F Fi : Nat → Prop} {g bd bs bn pd pt pn px : Nat} {s b x : ByteArray} {n : Int} {Q : DkV}
theorem Own.step (h : Own w wi Fi g bd bs bn pd pt pn px s b x n) (hO : Off Fi wi wj) : Own w wj (Fresh Fi wi wj) g bd bs bn pd pt pn px s b x n :=
  ⟨out_fresh h.obd.1 h.obd.2 hO, out_fresh h.obs.1 h.obs.2 hO, out_fresh h.obn.1 h.obn.2 hO, out_fresh h.opd.1 h.opd.2 hO, out_fresh h.opt.1 h.opt.2 hO, out_fresh h.opn.1 h.opn.2 hO, out_fresh h.opx.1 h.opx.2 hO, h.new, h.ne⟩
theorem Own.put (h : Own w wi Fi g bd bs bn pd pt pn px s b x n) (m : Int) : Own w (wi.setCell ⟨bn, 0, none⟩ (.int .i64 m)) Fi g bd bs bn pd pt pn px s b x m := by
  have hO := off_set wi bn 0 (.int .i64 m)
  obtain ⟨n1, n2, n3, n4, n5, n6⟩ := h.ne
  exact ⟨⟨h.obd.1.off hO (fun e => n1 e.symm), h.obd.2⟩, ⟨h.obs.1.off hO (fun e => n2 e.symm), h.obs.2⟩, ⟨h.obn.1.setCell (i := 0) (.int .i64 m), h.obn.2⟩, ⟨h.opd.1.off hO (fun e => n3 e.symm), h.opd.2⟩, ⟨h.opt.1.off hO (fun e => n4 e.symm), h.opt.2⟩, ⟨h.opn.1.off hO (fun e => n5 e.symm), h.opn.2⟩, ⟨h.opx.1.off hO (fun e => n6 e.symm), h.opx.2⟩, h.new, h.ne⟩
theorem Mid.put (h : Mid w F wi Fi g Q) (hF : ¬ Fi bn) (hn : w.heap.size ≤ bn) (v : Value) : Mid w F (wi.setCell ⟨bn, 0, none⟩ v) Fi g Q := by
  refine ⟨h.dk.off (off_set wi bn 0 v) (fun k _ hk e => hF (e ▸ hk)), fun k hk => ?_, h.off.setCell (p := ⟨bn, 0, none⟩) (.inr hn) v⟩
  have := (off_set wi bn 0 v).size
  rcases h.sub k hk with h3 | h3
  · exact .inl h3
  · exact .inr ⟨h3.1, by omega⟩
end
end Go.Proofs.YtomfcgeibbicoaaGreat
