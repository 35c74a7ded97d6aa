/- The document's disk: the fuse asked, another tape, what is free. -/
import Derived.Test.YtcffkmlnbnjibaaGreatRfE
namespace Go.Proofs.YtcffkmlnbnjibaaGreat
open Go.RowKit
section
variable {w w0 : World} {ops : Array Oper} {rest : List Oper} {o : Oper} {a : Act} {Q : Exit → Act → World → Prop}
/-- Cells are stored into a block of its own. -/
theorem st_at (T Tb : TypeId) (hgd : o.guard = none) (x y : Operand) (ho : o.op = .store T x y) (g off : Nat) (old new cs : List Value) (v : Value) (hx : a.eval x = .pointer (some ⟨g, off, none⟩)) (hy : a.eval y = v) (hg : Blk w g Tb old) (hv : v.cells.toList = cs) (hi : (Tryz.prog.info? T).map (·.size) = some cs.length) (hn : spl old off cs = new) (hfit : off + cs.length ≤ old.length) (h1 : ∀ v ∈ cs, v.oneCell' = true)
    (hb : Ex w0 w) (hB : w0.heap.size ≤ g) (K : ∀ w', Blk w' g Tb new → Ex w0 w' → w.grownBy w' (some g) → wpList Tryz.prog ops Q rest (a.put o.dst undef) w') : wpList Tryz.prog ops Q (o :: rest) a w :=
  wpList_store_k hgd T x y ho v g off old Tb cs hx hy hv hi hg hfit h1 fun w' k1 k2 => K w' (by rw [hn] at k1; exact k1) (below_store hb hB hb.size k2) k2
end
theorem FuV.rs_one (f : FuV) : ∀ v ∈ f.rs, v.oneCell' = true := by
  intro v hv
  simp only [FuV.rs, List.mem_cons, List.not_mem_nil, or_false] at hv
  rcases hv with rfl | rfl | rfl | rfl <;> rfl
theorem ne_some {a b : Nat} (h : a ≠ b) : some a ≠ some b := fun e => h (by injection e)
theorem one_int (n : Int) : ∀ v ∈ [Value.int .i64 n], v.oneCell' = true := fun v hv => by rw [List.mem_singleton.1 hv]; rfl
theorem info_in : (Tryz.prog.info? 3).map (·.size) = some 1 := by kernel_rfl
set_option maxHeartbeats 1000000 in
set_option maxRecDepth 100000 in
theorem rask_calls {F : Nat → Prop} {w : World} {Q : DkV} {tv sl : Value} (b : Bool) (h : RdV F w Q tv sl) (hfu : Q.fu.Ok) (hc : Q.calls ≤ 1000000) :
    Calls Tryz.prog 130 #[.agg (Q.rcs tv sl).toArray, .bool b] w fun e w' => e = .returned (.tuple #[.agg ((Q.ask b).1.rcs tv sl).toArray, .int .i64 (Q.ask b).2]) ∧ Ex w w' := by
  have hone := rcs_one (Q.ask b).1 (h.same (Q' := (Q.ask b).1) rfl rfl)
  obtain ⟨A, c, B, n, d, rfl, rfl⟩ := h.shape
  have hX := ex_two w (.cells (Q.rcs (.slice A Q.tapes.length c) (.slice B n d)).toArray 59) (.cells zeroD.toArray 59)
  have hB := (Blk.new w (Q.rcs (.slice A Q.tapes.length c) (.slice B n d)) 59).ex (ex_alloc (Ex.refl _) (.cells zeroD.toArray 59))
  have HK := Lib.hid (blk_two w (.cells (Q.rcs (.slice A Q.tapes.length c) (.slice B n d)).toArray 59) zeroD 59)
  obtain ⟨x0, x1, x2, x3, x4, x5, x6, x7⟩ := rd_cells hB
  have HB := Lib.hid hB
  have HX := Lib.hid hX
  have HO := Lib.hid hone
  have hle := Nat.le_refl w.heap.size
  have hle1 := Nat.le_succ w.heap.size
  clear h hone hB hX
  generalize Q.tapes.length = m at *
  have e1 : (Q.ask b).1.rcs (.slice A m c) (.slice B n d) = [.int .i64 Q.sec, .slice A m c, .slice B n d, .int .i64 (Q.fu.call b).1.p, .int .i64 (Q.fu.call b).1.s, .int .i64 (Q.fu.call b).1.d, .bool (Q.fu.call b).1.off, .int .i64 ((Q.calls : Int) + 1)] := rfl
  have e2 : (Q.ask b).2 = (Q.fu.call b).2 := rfl
  rw [e1, e2]
  rw [e1] at HO
  clear e1 e2
  have HC := Lib.hid (fun w => rfcall_calls (w := w) Q.fu b hfu)
  generalize Q.fu.call b = fr at *
  obtain ⟨⟨fp, fs, fd, fo⟩, fe⟩ := fr
  simp only at HO HC ⊢
  unfold DkV.rcs at *
  unfold zeroD at *
  go_enter Tryz.func130, Tryz.ntmps130
  go_wp2_with fail
  refine (HC.out _).mono ?_
  rintro e w1 ⟨rfl, hb1⟩
  have HB1 := Lib.hid ((HB.out.ex hb1).ex (ex_alloc (Ex.refl w1) (.cells #[.int .i64 fp, .int .i64 fs, .int .i64 fd, .bool fo] 57)))
  have HK1 := Lib.hid ((HK.out.ex hb1).ex (ex_alloc (Ex.refl w1) (.cells #[.int .i64 fp, .int .i64 fs, .int .i64 fd, .bool fo] 57)))
  have HX1 := Lib.hid (HX.out.trans (Ex.trans hb1 (ex_alloc (Ex.refl w1) (.cells #[.int .i64 fp, .int .i64 fs, .int .i64 fd, .bool fo] 57))))
  clear hb1
  have hzk := HX.out.size
  have hf3 : 3 + 4 ≤ 8 := by decide
  have hf7 : 7 + 1 ≤ 8 := by decide
  have hne1 : w.heap.size + 1 ≠ w.heap.size := by omega
  unfold FuV.agg
  clear x0 x1 x2 x3 x4 x5 x6 x7
  dsimp only
  go_wp2_with (first
    | (refine st_at 57 59 rfl (.tmp 16) (.tmp 15) rfl w.heap.size 3 _ [.int .i64 Q.sec, .slice A m c, .slice B n d, .int .i64 fp, .int .i64 fs, .int .i64 fd, .bool fo, .int .i64 (Q.calls : Int)] (FuV.rs ⟨fp, fs, fd, fo⟩) _ rfl rfl HB1.out rfl info_rf rfl hf3 (FuV.rs_one _) HX1.out hle ?_; intro w2 k2 X2 g2; have HB2 := Lib.hid k2; have HX2 := Lib.hid X2; have HK2 := Lib.hid (HK1.out.grown g2 (ne_some hne1)); have y0 := k2.cell 7; clear k2 X2)
    | (refine st_at 3 59 rfl (.tmp 20) (.tmp 19) rfl w.heap.size 7 _ [.int .i64 Q.sec, .slice A m c, .slice B n d, .int .i64 fp, .int .i64 fs, .int .i64 fd, .bool fo, .int .i64 ((Q.calls : Int) + 1)] [.int .i64 ((Q.calls : Int) + 1)] _ rfl rfl HB2.out rfl info_in rfl hf7 (one_int _) HX2.out hle ?_; intro w3 k3 X3 g3; have HB3 := Lib.hid k3; have HX3 := Lib.hid X3; have HK3 := Lib.hid (HK2.out.grown g3 (ne_some hne1)); have z0 := k3.cell 0; have z1 := k3.cell 1; have z2 := k3.cell 2; have z3 := k3.cell 3; have z4 := k3.cell 4; have z5 := k3.cell 5; have z6 := k3.cell 6; have z7 := k3.cell 7; clear k3 X3)
    | (refine st_agg 59 rfl (.tmp 4) (.tmp 21) rfl (w.heap.size + 1) [.int .i64 0, .slice none 0 0, .slice none 0 0, .int .i64 0, .int .i64 0, .int .i64 0, .bool false, .int .i64 0] [.int .i64 Q.sec, .slice A m c, .slice B n d, .int .i64 fp, .int .i64 fs, .int .i64 fd, .bool fo, .int .i64 ((Q.calls : Int) + 1)] rfl rfl info_d11 rfl HO.out HK3.out HX3.out hle1 ?_; intro w4 k4 X4 _))
  (try simp only [Exit.inBlock, Exit.then])
  refine bodyPost_ret (ret_agg2 rfl _ _ (w.heap.size + 1) [.int .i64 Q.sec, .slice A m c, .slice B n d, .int .i64 fp, .int .i64 fs, .int .i64 fd, .bool fo, .int .i64 ((Q.calls : Int) + 1)] rfl k4 Tryz.underlying59 info_d11) rfl ?_
  exact ⟨rfl, X4⟩
theorem info_t7 : (Tryz.prog.info? 124).map (fun i => (i.zero, i.size, i.bytes)) = some (some (.agg #[.string ⟨#[]⟩, .string ⟨#[]⟩]), 2, 32) := by kernel_rfl
/-- A tape laid over a list of tapes. -/
theorem spl_tp (t : TpV) : ∀ (ts : List TpV) (i : Nat), i < ts.length → spl (ts.flatMap TpV.rs) (i * 2) t.rs = (ts.set i t).flatMap TpV.rs
  | [], i, h => by simp at h
  | x :: r, 0, _ => by
    unfold spl
    rw [List.set_cons_zero, List.flatMap_cons, List.flatMap_cons]
    show [] ++ t.rs ++ (TpV.rs x ++ r.flatMap TpV.rs).drop (0 + 2) = _
    rfl
  | x :: r, i + 1, h => by
    have ih := spl_tp t r i (by simpa using h)
    unfold spl at ih ⊢
    rw [List.set_cons_succ, List.flatMap_cons, List.flatMap_cons, ← ih, show (i + 1) * 2 = 2 + i * 2 by omega, show (TpV.rs x ++ r.flatMap TpV.rs).take (2 + i * 2) = TpV.rs x ++ (r.flatMap TpV.rs).take (i * 2) from List.take_length_add_append (l₁ := TpV.rs x) .., show 2 + i * 2 + t.rs.length = 2 + (i * 2 + t.rs.length) by omega, show (TpV.rs x ++ r.flatMap TpV.rs).drop (2 + (i * 2 + t.rs.length)) = (r.flatMap TpV.rs).drop (i * 2 + t.rs.length) from List.drop_length_add_append (l₁ := TpV.rs x) ..]
    simp only [List.append_assoc]
/-- A tape is stored into an own row. -/
theorem own_set {w' : World} {base n g cap : Nat} {e : TypeId} {cur : List Value} {ts : List TpV} {i : Nat} (t : TpV) (hb : base ≤ g) (hc : n ≤ cap) (hm : cap ≤ maxLen) (hl : cur.length = cap * 2) (ht : cur.take (n * 2) = ts.flatMap TpV.rs) (hn : n = ts.length) (hi : i < ts.length) (hB : Blk w' g e (spl cur (i * 2) t.rs)) :
    w'.ownsRow base e 2 (.slice (some ⟨g, 0, none⟩) n cap) n ((ts.set i t).flatMap TpV.rs) := by
  have h2 : t.rs.length = 2 := rfl
  refine own_of_blk hB hb hc hm (by rw [spl_len (by rw [hl, h2]; omega), hl]) ?_
  rw [← spl_tp t ts i hi, ← ht]
  unfold spl
  rw [h2, List.take_append, List.take_append, List.take_take]
  have e1 : (cur.take (i * 2)).length = i * 2 := by rw [List.length_take]; omega
  have e2 : (cur.take (i * 2) ++ t.rs).length = i * 2 + 2 := by rw [List.length_append, e1, h2]
  have a1 : min (n * 2) (i * 2) = i * 2 := Nat.min_eq_right (by omega)
  have a2 : min (i * 2) (n * 2) = i * 2 := Nat.min_eq_left (by omega)
  rw [e2, e1, a1, List.take_take, a2, List.take_of_length_le (l := t.rs) (by omega), List.drop_take]
end Go.Proofs.YtcffkmlnbnjibaaGreat
