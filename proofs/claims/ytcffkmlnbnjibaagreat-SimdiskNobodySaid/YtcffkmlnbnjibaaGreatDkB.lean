/- Walks: a disk: a file that is seen; the fuse is asked; sectors that are taken. -/
import Derived.Test.YtcffkmlnbnjibaaGreatDkA
namespace Go.Proofs.YtcffkmlnbnjibaaGreat
open Go.RowKit Go.Maps
theorem getL_of {l : List (Lit × Value)} (hr : l.Pairwise fun p q => p.1.before q.1 = true) {x : Int} {v z : Value} (h : (inK x, v) ∈ l) : getL l (inK x) z = v := by
  unfold getL
  cases hf : l.find? (fun p => p.1.sameKey (inK x)) with
  | none =>
    rw [List.find?_eq_none] at hf
    exact absurd (by rw [sameI]; exact decide_eq_true rfl) (hf _ h)
  | some p =>
    have hm := List.mem_of_find?_eq_some hf
    have hk : p.1 = inK x := WideAt.sameKey_eq (by have := List.find?_some hf; simpa using this)
    obtain ⟨i, hi, rfl⟩ := List.getElem_of_mem hm
    obtain ⟨j, hj, hjv⟩ := List.getElem_of_mem h
    have hb : ∀ i j (hi : i < l.length) (hj : j < l.length), i < j → l[i].1 = inK x → l[j].1 = inK x → False := fun i j hi hj hij e1 e2 => by
      have := List.pairwise_iff_getElem.1 hr i j hi hj hij
      rw [e1, e2] at this
      have h3 : decide (x < x) = true := this
      rw [decide_eq_true_eq] at h3
      omega
    have hij : i = j := by
      rcases Nat.lt_trichotomy i j with h1 | h1 | h1
      · exact absurd (hb i j hi hj h1 hk (by rw [hjv])) id
      · exact h1
      · exact absurd (hb j i hj hi h1 (by rw [hjv]) hk) id
    subst hij
    rw [hjv]
theorem zero_tape (w : World) : (zeroValue 96).run Tryz.prog w = .ok (.pointer none) w := by kernel_rfl
theorem mem_scan {x : Int} {q : FoV} {l : List Mk} (h : ∀ m ∈ l, m.pl ∈ q.ids) {m : Mk} (hm : m ∈ l) (e : m.pl = x) : x ∈ q.ids := e ▸ h m hm
theorem FoV.now_ids (q : FoV) : ∀ m ∈ q.now, m.pl ∈ q.ids := by
  unfold now
  exact fold_all (P := fun m => m.pl ∈ q.ids) (fun c hc hp => (q.ids_mem _).2 (.inr ⟨c, hc, hp, rfl⟩)) (fun m hm => (q.ids_mem _).2 (.inl ⟨m, hm, rfl⟩))
theorem FoV.found_ids {q : FoV} {s : ByteArray} (h : (findM s q.now).2 = true) : (findM s q.now).1 ∈ q.ids := by
  obtain ⟨m, _, hm, _, e⟩ := findM_mem (P := fun m => m.pl ∈ q.ids) q.now_ids h
  rw [e]; exact hm
section
variable {w : World} {g : Nat} {F : Nat → Prop} {Q : DkV} {tm fg fz : Nat} {FF : Nat → Prop} {l : List (Lit × Value)} {tb : Int → Nat}
theorem DkR.tape (h : DkR w g F Q tm fg fz FF l tb) {id : Int} (hid : id ∈ Q.fo.ids) : TbOk w Q.tapes F FF g fz tm (tb id) id := by
  obtain ⟨id', e, ht⟩ := h.el _ (h.co id hid)
  injection e with e1 e2
  injection e1 with _ e3
  subst e3
  exact ht
theorem DkR.look (h : DkR w g F Q tm fg fz FF l tb) {id : Int} (hid : id ∈ Q.fo.ids) {M : Nat} (ho : Q.Ok M) (hM : M ≤ 1000000) : (Instr.lookup 23 (.map (some tm)) (.int .i64 id) false).run Tryz.prog w = .ok (ptrV (tb id)) w := by
  have ht := h.tape hid
  have := MapB.look h.tpb intKey Tryz.underlying23 (zero_tape w) (key_int (x := id) (by have := ht.i1; omega) (by have := ht.i2; have := ho.tl; omega))
  rw [getL_of (h.tpb.rises intKey) (h.co id hid)] at this
  exact this
theorem dfind_down (s : ByteArray) (h : DkR w g F Q tm fg fz FF l tb) (hf : Q.fu.off = true) : Calls Tryz.prog 45 #[.pointer (some ⟨g, 0, none⟩), .string s] w fun e w' => e = .returned (.tuple #[.pointer none, .int .i64 14]) ∧ Ex w w' := by
  have H := Lib.hid h
  have HF := Lib.hid hf
  clear h hf
  go_enter Tryz.func45, Tryz.ntmps45
  go_wp2_with fail
  refine (dready_calls ⟨_, _, _, _, _, _, H.out⟩).mono ?_
  rintro e w1 ⟨rfl, hb1⟩
  rw [HF.out]
  go_wp2_with fail
  go_ret2
  exact ⟨rfl, hb1⟩
theorem dfind_none (s : ByteArray) (hs : s.size ≤ 9223372036854775807) (h : DkR w g F Q tm fg fz FF l tb) (hf : Q.fu.off = false) (hn : (findM s Q.fo.now).2 = false) : Calls Tryz.prog 45 #[.pointer (some ⟨g, 0, none⟩), .string s] w fun e w' => e = .returned (.tuple #[.pointer none, .int .i64 8]) ∧ Ex w w' := by
  have H := Lib.hid h
  have HF := Lib.hid hf
  have HN := Lib.hid hn
  clear h hf hn
  go_enter Tryz.func45, Tryz.ntmps45
  go_wp2_with fail
  refine (dready_calls ⟨_, _, _, _, _, _, H.out⟩).mono ?_
  rintro e w1 ⟨rfl, hb1⟩
  rw [HF.out]
  have c4 : w1.cell? ⟨g, 4, none⟩ = some (ptrV fg) := by rw [(H.out.ex hb1).blk.cell]; rfl
  go_wp2_with fail
  refine (fofind_calls s hs (H.out.ex hb1).fob).mono ?_
  rintro e w2 ⟨rfl, hb2⟩
  rw [HN.out]
  go_wp2_with fail
  go_ret2
  exact ⟨rfl, hb1.trans hb2⟩
theorem dfind_some (s : ByteArray) (hs : s.size ≤ 9223372036854775807) (h : DkR w g F Q tm fg fz FF l tb) {M : Nat} (ho : Q.Ok M) (hM : M ≤ 1000000) (hf : Q.fu.off = false) (hn : (findM s Q.fo.now).2 = true) :
    Calls Tryz.prog 45 #[.pointer (some ⟨g, 0, none⟩), .string s] w fun e w' => e = .returned (.tuple #[ptrV (tb (findM s Q.fo.now).1), .int .i64 0]) ∧ Ex w w' := by
  have H := Lib.hid h
  have HF := Lib.hid hf
  have HN := Lib.hid hn
  have HO := Lib.hid ho
  clear h hf hn ho
  go_enter Tryz.func45, Tryz.ntmps45
  go_wp2_with fail
  refine (dready_calls ⟨_, _, _, _, _, _, H.out⟩).mono ?_
  rintro e w1 ⟨rfl, hb1⟩
  rw [HF.out]
  have c4 : w1.cell? ⟨g, 4, none⟩ = some (ptrV fg) := by rw [(H.out.ex hb1).blk.cell]; rfl
  go_wp2_with fail
  refine (fofind_calls s hs (H.out.ex hb1).fob).mono ?_
  rintro e w2 ⟨rfl, hb2⟩
  have H2 := Lib.hid (H.out.ex (hb1.trans hb2))
  have c3 : w2.cell? ⟨g, 3, none⟩ = some (.map (some tm)) := by rw [H2.out.blk.cell]; rfl
  have hlk := H2.out.look (FoV.found_ids HN.out) HO.out hM
  rw [HN.out]
  clear c4
  go_wp2_with fail
  go_ret2
  exact ⟨rfl, hb1.trans hb2⟩
theorem DkV.ask_fu (Q : DkV) (b : Bool) : (Q.ask b).1 = { Q with fu := (Q.fu.call b).1, calls := Q.calls + 1 } := rfl
theorem dput_calls (h : DkR w g F Q tm fg fz FF l tb) {M : Nat} (ho : Q.Ok M) (hM : M ≤ 1000000) :
    Calls Tryz.prog 52 #[.pointer (some ⟨g, 0, none⟩)] w fun e w' => e = .returned (.int .i64 (Q.ask false).2) ∧ DkR w' g F (Q.ask false).1 tm fg fz FF l tb ∧ Off F w w' := by
  have c2 : w.cell? ⟨g, 2, none⟩ = some (.int .i64 (Q.calls : Int)) := by rw [h.blk.cell]; rfl
  have f2 := h.blk.frozen 2
  have hcl : Q.calls ≤ 1000000 := by have := ho.cl; omega
  have H := Lib.hid h
  have HO := Lib.hid ho
  have HS := Lib.hid (off_set w g 2 (.int .i64 ((Q.calls : Int) + 1)))
  have HB := Lib.hid (h.blk.setCell (i := 2) (.int .i64 ((Q.calls : Int) + 1)))
  have HR := Lib.hid (H.out.own_ (Q' := { Q with calls := Q.calls + 1 }) HS.out (show Blk _ g _ _ from by have := HB.out; unfold DkV.cells at this ⊢; simpa using this) rfl rfl rfl)
  have c5 : (w.setCell ⟨g, 2, none⟩ (.int .i64 ((Q.calls : Int) + 1))).cell? ⟨g, 5, none⟩ = some (ptrV fz) := by rw [HR.out.blk.cell]; rfl
  clear h ho
  go_enter Tryz.func52, Tryz.ntmps52
  go_wp2_with fail
  refine (fput_calls HR.out.fub HO.out.fu).mono ?_
  rintro e w2 ⟨rfl, hB2, hO2⟩
  have HR2 := Lib.hid (HR.out.fuse_ hO2 hB2)
  have HO2 := Lib.hid hO2
  clear hB2 hO2
  go_wp2_with fail
  go_ret
  exact ⟨rfl, HR2.out, (HS.out.mono fun k _ e => e ▸ H.out.fg_).trans (HO2.out.mono fun k _ e => e ▸ H.out.fz_)⟩
theorem dsyncf_calls (h : DkR w g F Q tm fg fz FF l tb) {M : Nat} (ho : Q.Ok M) (hM : M ≤ 1000000) :
    Calls Tryz.prog 61 #[.pointer (some ⟨g, 0, none⟩)] w fun e w' => e = .returned (.int .i64 (Q.ask true).2) ∧ DkR w' g F (Q.ask true).1 tm fg fz FF l tb ∧ Off F w w' := by
  have c2 : w.cell? ⟨g, 2, none⟩ = some (.int .i64 (Q.calls : Int)) := by rw [h.blk.cell]; rfl
  have f2 := h.blk.frozen 2
  have hcl : Q.calls ≤ 1000000 := by have := ho.cl; omega
  have H := Lib.hid h
  have HO := Lib.hid ho
  have HS := Lib.hid (off_set w g 2 (.int .i64 ((Q.calls : Int) + 1)))
  have HB := Lib.hid (h.blk.setCell (i := 2) (.int .i64 ((Q.calls : Int) + 1)))
  have HR := Lib.hid (H.out.own_ (Q' := { Q with calls := Q.calls + 1 }) HS.out (show Blk _ g _ _ from by have := HB.out; unfold DkV.cells at this ⊢; simpa using this) rfl rfl rfl)
  have c5 : (w.setCell ⟨g, 2, none⟩ (.int .i64 ((Q.calls : Int) + 1))).cell? ⟨g, 5, none⟩ = some (ptrV fz) := by rw [HR.out.blk.cell]; rfl
  clear h ho
  go_enter Tryz.func61, Tryz.ntmps61
  go_wp2_with fail
  refine (fsync_calls HR.out.fub HO.out.fu).mono ?_
  rintro e w2 ⟨rfl, hB2, hO2⟩
  have HR2 := Lib.hid (HR.out.fuse_ hO2 hB2)
  have HO2 := Lib.hid hO2
  clear hB2 hO2
  go_wp2_with fail
  go_ret
  exact ⟨rfl, HR2.out, (HS.out.mono fun k _ e => e ▸ H.out.fg_).trans (HO2.out.mono fun k _ e => e ▸ H.out.fz_)⟩
end
end Go.Proofs.YtcffkmlnbnjibaaGreat
