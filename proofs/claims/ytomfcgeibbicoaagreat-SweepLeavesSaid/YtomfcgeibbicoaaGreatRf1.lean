/- The document's disk: what it is in memory; New, find, ask, tape, Free. -/
import Derived.Test.YtomfcgeibbicoaaGreatRf0
namespace Go.Proofs.YtomfcgeibbicoaaGreat
open Go.RowKit
/-- Each number that can be there has its tape. -/
def Idz (Q : DkV) : Prop := ∀ x ∈ Q.fo.ids, 1 ≤ x ∧ x ≤ (Q.tapes.length : Int)
def DkV.rcs (Q : DkV) (tv sl : Value) : List Value := [.int .i64 Q.sec, tv, sl, .int .i64 Q.fu.p, .int .i64 Q.fu.s, .int .i64 Q.fu.d, .bool Q.fu.off, .int .i64 (Q.calls : Int)]
def zeroD : List Value := [.int .i64 0, .slice none 0 0, .slice none 0 0, .int .i64 0, .int .i64 0, .int .i64 0, .bool false, .int .i64 0]
def TpsV (F : Nat → Prop) (w : World) (v : Value) (ts : List TpV) : Prop := ∃ A c, v = .slice A ts.length c ∧ RowF F w 2 A ts.length (ts.flatMap TpV.rs)
theorem TpsV.ex {F : Nat → Prop} {w w' : World} {v : Value} {l : List TpV} (h : TpsV F w v l) (hb : Ex w w') : TpsV F w' v l := by
  obtain ⟨A, c, e, h⟩ := h
  exact ⟨A, c, e, h.ex hb⟩
theorem TpsV.fresh {F : Nat → Prop} {w w' : World} {v : Value} {l : List TpV} (h : TpsV F w v l) (hb : Off F w w') : TpsV (Fresh F w w') w' v l := by
  obtain ⟨A, c, e, h⟩ := h
  exact ⟨A, c, e, h.fresh (by decide) hb⟩
theorem TpsV.offs {F G : Nat → Prop} {w w' : World} {v : Value} {l : List TpV} (h : TpsV F w v l) (hb : Off G w w') (hG : ∀ k, G k → F k) : TpsV F w' v l := by
  obtain ⟨A, c, e, h⟩ := h
  exact ⟨A, c, e, h.offs hb hG⟩
theorem TpsV.less {F G : Nat → Prop} {w : World} {v : Value} {l : List TpV} (h : TpsV G w v l) (hG : ∀ k, F k → G k) : TpsV F w v l := by
  obtain ⟨A, c, e, h⟩ := h
  exact ⟨A, c, e, h.less hG⟩
theorem TpsV.own {F : Nat → Prop} {w : World} {base n : Nat} {e : TypeId} {v : Value} {l : List TpV} (h : w.ownsRow base e 2 v n (l.flatMap TpV.rs)) (hF : ∀ k, F k → k < base) : TpsV F w v l := by
  have hn : n = l.length := by have := h.1; rw [flat_len TpV.rs 2 (fun _ => rfl)] at this; omega
  subst hn
  obtain ⟨A, c, rfl, _⟩ := own_shape h
  exact ⟨A, c, rfl, RowF.own h hF⟩
theorem TpsV.shape {F : Nat → Prop} {w : World} {v : Value} {l : List TpV} (h : TpsV F w v l) : ∃ A c, v = .slice A l.length c := by
  obtain ⟨A, c, e, _⟩ := h
  exact ⟨_, _, e⟩
theorem TpsV.nil (F : Nat → Prop) (w : World) : TpsV F w (.slice none 0 0) [] := ⟨none, 0, rfl, Row.nil _ _ _, fun h => absurd h (Nat.lt_irrefl 0)⟩
theorem Row.tp {w : World} {A : Option Addr} {n : Nat} {l : List TpV} (h : Row w 2 A n (l.flatMap TpV.rs)) {i : Nat} (hi : i < l.length) :
    ∃ b o, A = some ⟨b, o, none⟩ ∧ w.cell? ⟨b, o + i * 2, none⟩ = some (.string l[i].kp) ∧ w.cell? ⟨b, o + i * 2 + 1, none⟩ = some (.string l[i].nw) := by
  have hn : n = l.length := by have := h.1; rw [flat_len TpV.rs 2 (fun _ => rfl)] at this; omega
  obtain ⟨b, o, e, hc⟩ := h.2 (by omega)
  have h0 : ∀ j, j < 2 → (l.flatMap TpV.rs)[i * 2 + j]? = (TpV.rs l[i])[j]? := fun j hj => flat_get TpV.rs 2 (fun _ => rfl) l i l[i] j (List.getElem?_eq_getElem hi) hj
  exact ⟨b, o, e, hc (i * 2) _ (h0 0 (by omega)), hc (i * 2 + 1) _ (h0 1 (by omega))⟩
theorem tps_one (l : List TpV) : ∀ u ∈ l.flatMap TpV.rs, u.oneCell' = true := by
  intro u hu
  obtain ⟨t, _, ht⟩ := List.mem_flatMap.1 hu
  exact TpV.rs_one t u ht
/-- A value that is a disk of the document. -/
structure RdV (F : Nat → Prop) (w : World) (Q : DkV) (tv sl : Value) : Prop where
  tp : TpsV F w tv Q.tapes
  fo : LsV F w sl Q.fo.lists
theorem RdV.ex {F : Nat → Prop} {w w' : World} {Q : DkV} {tv sl : Value} (h : RdV F w Q tv sl) (hb : Ex w w') : RdV F w' Q tv sl := ⟨h.tp.ex hb, h.fo.ex hb⟩
theorem RdV.fresh {F : Nat → Prop} {w w' : World} {Q : DkV} {tv sl : Value} (h : RdV F w Q tv sl) (hb : Off F w w') : RdV (Fresh F w w') w' Q tv sl := ⟨h.tp.fresh hb, h.fo.fresh hb⟩
theorem RdV.offs {F G : Nat → Prop} {w w' : World} {Q : DkV} {tv sl : Value} (h : RdV F w Q tv sl) (hb : Off G w w') (hG : ∀ k, G k → F k) : RdV F w' Q tv sl := ⟨h.tp.offs hb hG, h.fo.offs hb hG⟩
theorem RdV.less {F G : Nat → Prop} {w : World} {Q : DkV} {tv sl : Value} (h : RdV G w Q tv sl) (hG : ∀ k, F k → G k) : RdV F w Q tv sl := ⟨h.tp.less hG, h.fo.less hG⟩
theorem RdV.same {F : Nat → Prop} {w : World} {Q Q' : DkV} {tv sl : Value} (h : RdV F w Q tv sl) (e1 : Q'.tapes = Q.tapes) (e2 : Q'.fo = Q.fo) : RdV F w Q' tv sl := ⟨by rw [e1]; exact h.tp, by rw [e2]; exact h.fo⟩
theorem RdV.shape {F : Nat → Prop} {w : World} {Q : DkV} {tv sl : Value} (h : RdV F w Q tv sl) : ∃ A c B n d, tv = .slice A Q.tapes.length c ∧ sl = .slice B n d := by
  obtain ⟨A, c, e, _⟩ := h.tp
  obtain ⟨B, n, d, e2⟩ := h.fo.shape
  exact ⟨A, c, B, n, d, e, e2⟩
theorem Grow.rd {F G : Nat → Prop} {w W : World} (g : Grow F w W G) (e : G = Fresh F w W) {Q : DkV} {tv sl : Value} (h : RdV F w Q tv sl) : RdV G W Q tv sl := by subst e; exact h.fresh (g.ex.off F)
theorem Grow.tps {F G : Nat → Prop} {w W : World} (g : Grow F w W G) (e : G = Fresh F w W) {v : Value} {l : List TpV} (h : TpsV F w v l) : TpsV G W v l := by subst e; exact h.fresh (g.ex.off F)
theorem info_d11 : (Tryz.prog.info? 40).map (·.size) = some 8 := by kernel_rfl
theorem rcs_one (Q : DkV) {F : Nat → Prop} {w : World} {tv sl : Value} (h : RdV F w Q tv sl) : ∀ x ∈ Q.rcs tv sl, x.oneCell' = true := by
  obtain ⟨A, c, B, n, d, rfl, rfl⟩ := h.shape
  intro x hx
  simp only [DkV.rcs, List.mem_cons, List.not_mem_nil, or_false] at hx
  rcases hx with rfl | rfl | rfl | rfl | rfl | rfl | rfl | rfl <;> rfl
/-- The cells of a disk's block. -/
structure RdC (w : World) (g : Nat) (Q : DkV) (tv sl : Value) : Prop where
  x0 : w.cell? ⟨g, 0, none⟩ = some (.int .i64 Q.sec)
  x1 : w.cell? ⟨g, 1, none⟩ = some tv
  x2 : w.cell? ⟨g, 2, none⟩ = some sl
  x3 : w.cell? ⟨g, 3, none⟩ = some (.int .i64 Q.fu.p)
  x4 : w.cell? ⟨g, 4, none⟩ = some (.int .i64 Q.fu.s)
  x5 : w.cell? ⟨g, 5, none⟩ = some (.int .i64 Q.fu.d)
  x6 : w.cell? ⟨g, 6, none⟩ = some (.bool Q.fu.off)
  x7 : w.cell? ⟨g, 7, none⟩ = some (.int .i64 (Q.calls : Int))
theorem rd_cells {w : World} {g : Nat} {Q : DkV} {tv sl : Value} {T : TypeId} (h : Blk w g T (Q.rcs tv sl)) : RdC w g Q tv sl :=
  ⟨h.cell 0, h.cell 1, h.cell 2, h.cell 3, h.cell 4, h.cell 5, h.cell 6, h.cell 7⟩
/-- A disk of the document, with what it is. -/
def DocP (F : Nat → Prop) (w : World) (v : Value) (Q : DkV) : Prop := ∃ tv sl, v = .agg (Q.rcs tv sl).toArray ∧ RdV F w Q tv sl
theorem DocP.ex {F : Nat → Prop} {w w' : World} {v : Value} {Q : DkV} (h : DocP F w v Q) (hb : Ex w w') : DocP F w' v Q := by
  obtain ⟨tv, sl, e, h⟩ := h
  exact ⟨tv, sl, e, h.ex hb⟩
theorem DocP.fresh {F : Nat → Prop} {w w' : World} {v : Value} {Q : DkV} (h : DocP F w v Q) (hb : Off F w w') : DocP (Fresh F w w') w' v Q := by
  obtain ⟨tv, sl, e, h⟩ := h
  exact ⟨tv, sl, e, h.fresh hb⟩
/-- What New of the document gives. -/
def NewR (F : Nat → Prop) (n : Int) (w' : World) (e : Ending) : Prop :=
  ((n < 1 ∨ 4096 < n) ∧ e = .returned (.tuple #[.agg zeroD.toArray, .int .i64 2])) ∨ ((1 ≤ n ∧ n ≤ 4096) ∧ ∃ v, e = .returned (.tuple #[v, .int .i64 0]) ∧ DocP F w' v (DkV.fresh n))
set_option maxHeartbeats 1000000 in
set_option maxRecDepth 100000 in
theorem rnew_calls {F : Nat → Prop} (n : Int) (w : World) (hF : ∀ k, F k → k < w.heap.size) :
    Calls Tryz.prog 39 #[.int .i64 n] w fun e w' => NewR F n w' e ∧ Ex w w' := by
  have HK := Lib.hid (Blk.new w zeroD 40)
  have HX := Lib.hid (ex_alloc (Ex.refl w) (.cells zeroD.toArray 40))
  have hzone : ∀ x ∈ zeroD, x.oneCell' = true := by
    intro x hx
    simp only [zeroD, List.mem_cons, List.not_mem_nil, or_false] at hx
    rcases hx with rfl | rfl | rfl | rfl | rfl | rfl | rfl | rfl <;> rfl
  have HZ := Lib.hid hzone
  have hle := Nat.le_refl w.heap.size
  clear hzone
  by_cases h1 : n < 1
  · have d1 : decide (n < 1) = true := decide_eq_true h1
    go_enter Tryz.func39, Tryz.ntmps39
    go_wp2_with (refine st_agg 40 rfl (.tmp 2) (.tmp 10) rfl w.heap.size zeroD zeroD rfl rfl info_d11 rfl HZ.out HK.out HX.out hle ?_; intro w3 k3 x3 g3)
    (try simp only [Exit.inBlock, Exit.then])
    refine bodyPost_ret (ret_agg2 rfl _ _ w.heap.size zeroD rfl k3 Tryz.underlying40 info_d11) rfl ?_
    exact ⟨.inl ⟨.inl h1, rfl⟩, x3⟩
  · have d1 : decide (n < 1) = false := decide_eq_false h1
    by_cases h2 : 4096 < n
    · have d2 : decide (4096 < n) = true := decide_eq_true h2
      go_enter Tryz.func39, Tryz.ntmps39
      go_wp2_with (refine st_agg 40 rfl (.tmp 2) (.tmp 10) rfl w.heap.size zeroD zeroD rfl rfl info_d11 rfl HZ.out HK.out HX.out hle ?_; intro w3 k3 x3 g3)
      (try simp only [Exit.inBlock, Exit.then])
      refine bodyPost_ret (ret_agg2 rfl _ _ w.heap.size zeroD rfl k3 Tryz.underlying40 info_d11) rfl ?_
      exact ⟨.inl ⟨.inr h2, rfl⟩, x3⟩
    · have d2 : decide (4096 < n) = false := decide_eq_false h2
      obtain ⟨G, hG, eG⟩ := Grow.mk2 HX.out hF
      have HG := Lib.hid hG
      have HG0 := Lib.hid (hG.new w.heap.size (Nat.le_refl _) (by simp))
      have hFG := hG.lt
      clear hG eG
      go_enter Tryz.func39, Tryz.ntmps39
      go_wp2_with fail
      refine (rfnew_f_calls (F := G) _ hFG).mono ?_
      rintro e w1 ⟨sl, rfl, hl, hb1⟩
      obtain ⟨A, m, c, rfl⟩ := hl.shape
      have HL := Lib.hid hl
      have HB1 := Lib.hid hb1
      clear hl hb1 hFG
      go_wp2_with fail
      refine (rfnew_calls _).mono ?_
      rintro e w2 ⟨rfl, hb2⟩
      have HB2 := Lib.hid (HB1.out.trans hb2)
      have HL2 := Lib.hid (HL.out.ex hb2)
      have HK2 := Lib.hid (HK.out.ex HB2.out)
      have HX2 := Lib.hid (HX.out.trans HB2.out)
      have HR := Lib.hid (show RdV G w2 (DkV.fresh n) (.slice none 0 0) (.slice A m c) from ⟨TpsV.nil _ _, HL2.out⟩)
      have HO := Lib.hid (rcs_one _ HR.out)
      clear hb2
      unfold FuV.agg
      go_wp2_with (refine st_agg 40 rfl (.tmp 2) (.tmp 14) rfl w.heap.size zeroD ((DkV.fresh n).rcs (.slice none 0 0) (.slice A m c)) rfl rfl info_d11 rfl HO.out HK2.out HX2.out hle ?_; intro w3 k3 x3 g3)
      (try simp only [Exit.inBlock, Exit.then])
      refine bodyPost_ret (ret_agg2 rfl _ _ w.heap.size ((DkV.fresh n).rcs (.slice none 0 0) (.slice A m c)) rfl k3 Tryz.underlying40 info_d11) rfl ?_
      exact ⟨.inr ⟨⟨by omega, by omega⟩, _, rfl, _, _, rfl, (HR.out.offs (off_grown g3) fun k hk => by rw [hk]; exact HG0.out).less HG.out.of⟩, x3⟩
set_option maxHeartbeats 1000000 in
theorem rdfind_calls {F : Nat → Prop} {w : World} {Q : DkV} {tv sl : Value} {M : Nat} (s : ByteArray) (h : RdV F w Q tv sl) (ho : Q.fo.Ok M) (hM : M ≤ 1000000) :
    Calls Tryz.prog 129 #[.agg (Q.rcs tv sl).toArray, .string s] w fun e w' => e = .returned (.int .i64 (Q.idOf s)) ∧ Ex w w' := by
  obtain ⟨A, c, B, n, d, rfl, rfl⟩ := h.shape
  have HX := Lib.hid (ex_alloc (Ex.refl w) (.cells (Q.rcs (.slice A Q.tapes.length c) (.slice B n d)).toArray 40))
  obtain ⟨x0, x1, x2, x3, x4, x5, x6, x7⟩ := rd_cells (Blk.new w (Q.rcs (.slice A Q.tapes.length c) (.slice B n d)) 40)
  have hq : Q.fo.ch.length ≤ 1000000 := by have := ho.kl; omega
  have HQ9 := Lib.hid (show Q.fo.now.length ≤ 9223372036854775807 by have := ho.now_len; omega)
  have HL := Lib.hid (h.fo.ex HX.out)
  clear h ho
  unfold DkV.rcs at *
  go_enter Tryz.func129, Tryz.ntmps129
  go_wp2_with fail
  refine (rfnow_calls HL.out hq).mono ?_
  rintro e w1 ⟨u, rfl, ⟨A1, c1, rfl, hr1⟩, hb1⟩
  have HB1 := Lib.hid (HX.out.trans hb1)
  go_wp2_with fail
  refine (rffind_calls A1 c1 Q.fo.now s _ HQ9.out hr1.row).mono ?_
  rintro e w2 ⟨rfl, rfl⟩
  go_wp2_with fail
  go_ret
  exact ⟨rfl, HB1.out⟩
end Go.Proofs.YtomfcgeibbicoaaGreat
namespace Go.Proofs.YtomfcgeibbicoaaGreat
open Go.RowKit
section
variable {w w0 : World} {ops : Array Oper} {rest : List Oper} {o : Oper} {a : Act} {Q : Exit → Act → World → Prop}
/-- Cells are stored into a block of its own. -/
theorem st_at (T Tb : TypeId) (hgd : o.guard = none) (x y : Operand) (ho : o.op = .store T x y) (g off : Nat) (old new cs : List Value) (v : Value) (hx : a.eval x = .pointer (some ⟨g, off, none⟩)) (hy : a.eval y = v) (hg : Blk w g Tb old) (hv : v.cells.toList = cs) (hi : (Tryz.prog.info? T).map (·.size) = some cs.length) (hn : spl old off cs = new) (hfit : off + cs.length ≤ old.length) (h1 : ∀ v ∈ cs, v.oneCell' = true)
    (hb : Ex w0 w) (hB : w0.heap.size ≤ g) (K : ∀ w', Blk w' g Tb new → Ex w0 w' → w.grownBy w' (some g) → wpList Tryz.prog ops Q rest (a.put o.dst undef) w') : wpList Tryz.prog ops Q (o :: rest) a w :=
  wpList_store_k hgd T x y ho v g off old Tb cs hx hy hv hi hg hfit h1 fun w' k1 k2 => K w' (by rw [hn] at k1; exact k1) (below_store hb hB hb.size k2) k2
end
theorem FuV.rs_one (f : FuV) : ∀ v ∈ f.rs, v.oneCell' = true := by
  intro v hv
  simp only [FuV.rs, List.mem_cons, List.not_mem_nil, or_false] at hv
  rcases hv with rfl | rfl | rfl | rfl <;> rfl
theorem ne_some {a b : Nat} (h : a ≠ b) : some a ≠ some b := fun e => h (by injection e)
theorem one_int (n : Int) : ∀ v ∈ [Value.int .i64 n], v.oneCell' = true := fun v hv => by rw [List.mem_singleton.1 hv]; rfl
theorem info_in : (Tryz.prog.info? 3).map (·.size) = some 1 := by kernel_rfl
set_option maxHeartbeats 1000000 in
set_option maxRecDepth 100000 in
theorem rask_calls {F : Nat → Prop} {w : World} {Q : DkV} {tv sl : Value} (b : Bool) (h : RdV F w Q tv sl) (hfu : Q.fu.Ok) (hc : Q.calls ≤ 1000000) :
    Calls Tryz.prog 130 #[.agg (Q.rcs tv sl).toArray, .bool b] w fun e w' => e = .returned (.tuple #[.agg ((Q.ask b).1.rcs tv sl).toArray, .int .i64 (Q.ask b).2]) ∧ Ex w w' := by
  have hone := rcs_one (Q.ask b).1 (h.same (Q' := (Q.ask b).1) rfl rfl)
  obtain ⟨A, c, B, n, d, rfl, rfl⟩ := h.shape
  have hX := ex_two w (.cells (Q.rcs (.slice A Q.tapes.length c) (.slice B n d)).toArray 40) (.cells zeroD.toArray 40)
  have hB := (Blk.new w (Q.rcs (.slice A Q.tapes.length c) (.slice B n d)) 40).ex (ex_alloc (Ex.refl _) (.cells zeroD.toArray 40))
  have HK := Lib.hid (blk_two w (.cells (Q.rcs (.slice A Q.tapes.length c) (.slice B n d)).toArray 40) zeroD 40)
  obtain ⟨x0, x1, x2, x3, x4, x5, x6, x7⟩ := rd_cells hB
  have HB := Lib.hid hB
  have HX := Lib.hid hX
  have HO := Lib.hid hone
  have hle := Nat.le_refl w.heap.size
  have hle1 := Nat.le_succ w.heap.size
  clear h hone hB hX
  generalize Q.tapes.length = m at *
  have e1 : (Q.ask b).1.rcs (.slice A m c) (.slice B n d) = [.int .i64 Q.sec, .slice A m c, .slice B n d, .int .i64 (Q.fu.call b).1.p, .int .i64 (Q.fu.call b).1.s, .int .i64 (Q.fu.call b).1.d, .bool (Q.fu.call b).1.off, .int .i64 ((Q.calls : Int) + 1)] := rfl
  have e2 : (Q.ask b).2 = (Q.fu.call b).2 := rfl
  rw [e1, e2]
  rw [e1] at HO
  clear e1 e2
  have HC := Lib.hid (fun w => rfcall_calls (w := w) Q.fu b hfu)
  generalize Q.fu.call b = fr at *
  obtain ⟨⟨fp, fs, fd, fo⟩, fe⟩ := fr
  simp only at HO HC ⊢
  unfold DkV.rcs at *
  unfold zeroD at *
  go_enter Tryz.func130, Tryz.ntmps130
  go_wp2_with fail
  refine (HC.out _).mono ?_
  rintro e w1 ⟨rfl, hb1⟩
  have HB1 := Lib.hid ((HB.out.ex hb1).ex (ex_alloc (Ex.refl w1) (.cells #[.int .i64 fp, .int .i64 fs, .int .i64 fd, .bool fo] 38)))
  have HK1 := Lib.hid ((HK.out.ex hb1).ex (ex_alloc (Ex.refl w1) (.cells #[.int .i64 fp, .int .i64 fs, .int .i64 fd, .bool fo] 38)))
  have HX1 := Lib.hid (HX.out.trans (Ex.trans hb1 (ex_alloc (Ex.refl w1) (.cells #[.int .i64 fp, .int .i64 fs, .int .i64 fd, .bool fo] 38))))
  clear hb1
  have hzk := HX.out.size
  have hf3 : 3 + 4 ≤ 8 := by decide
  have hf7 : 7 + 1 ≤ 8 := by decide
  have hne1 : w.heap.size + 1 ≠ w.heap.size := by omega
  unfold FuV.agg
  clear x0 x1 x2 x3 x4 x5 x6 x7
  dsimp only
  go_wp2_with (first
    | (refine st_at 38 40 rfl (.tmp 16) (.tmp 15) rfl w.heap.size 3 _ [.int .i64 Q.sec, .slice A m c, .slice B n d, .int .i64 fp, .int .i64 fs, .int .i64 fd, .bool fo, .int .i64 (Q.calls : Int)] (FuV.rs ⟨fp, fs, fd, fo⟩) _ rfl rfl HB1.out rfl info_rf rfl hf3 (FuV.rs_one _) HX1.out hle ?_; intro w2 k2 X2 g2; have HB2 := Lib.hid k2; have HX2 := Lib.hid X2; have HK2 := Lib.hid (HK1.out.grown g2 (ne_some hne1)); have y0 := k2.cell 7; clear k2 X2)
    | (refine st_at 3 40 rfl (.tmp 20) (.tmp 19) rfl w.heap.size 7 _ [.int .i64 Q.sec, .slice A m c, .slice B n d, .int .i64 fp, .int .i64 fs, .int .i64 fd, .bool fo, .int .i64 ((Q.calls : Int) + 1)] [.int .i64 ((Q.calls : Int) + 1)] _ rfl rfl HB2.out rfl info_in rfl hf7 (one_int _) HX2.out hle ?_; intro w3 k3 X3 g3; have HB3 := Lib.hid k3; have HX3 := Lib.hid X3; have HK3 := Lib.hid (HK2.out.grown g3 (ne_some hne1)); have z0 := k3.cell 0; have z1 := k3.cell 1; have z2 := k3.cell 2; have z3 := k3.cell 3; have z4 := k3.cell 4; have z5 := k3.cell 5; have z6 := k3.cell 6; have z7 := k3.cell 7; clear k3 X3)
    | (refine st_agg 40 rfl (.tmp 4) (.tmp 21) rfl (w.heap.size + 1) [.int .i64 0, .slice none 0 0, .slice none 0 0, .int .i64 0, .int .i64 0, .int .i64 0, .bool false, .int .i64 0] [.int .i64 Q.sec, .slice A m c, .slice B n d, .int .i64 fp, .int .i64 fs, .int .i64 fd, .bool fo, .int .i64 ((Q.calls : Int) + 1)] rfl rfl info_d11 rfl HO.out HK3.out HX3.out hle1 ?_; intro w4 k4 X4 _))
  (try simp only [Exit.inBlock, Exit.then])
  refine bodyPost_ret (ret_agg2 rfl _ _ (w.heap.size + 1) [.int .i64 Q.sec, .slice A m c, .slice B n d, .int .i64 fp, .int .i64 fs, .int .i64 fd, .bool fo, .int .i64 ((Q.calls : Int) + 1)] rfl k4 Tryz.underlying40 info_d11) rfl ?_
  exact ⟨rfl, X4⟩
theorem info_t7 : (Tryz.prog.info? 110).map (fun i => (i.zero, i.size, i.bytes)) = some (some (.agg #[.string ⟨#[]⟩, .string ⟨#[]⟩]), 2, 32) := by kernel_rfl
/-- A tape laid over a list of tapes. -/
theorem spl_tp (t : TpV) : ∀ (ts : List TpV) (i : Nat), i < ts.length → spl (ts.flatMap TpV.rs) (i * 2) t.rs = (ts.set i t).flatMap TpV.rs
  | [], i, h => by simp at h
  | x :: r, 0, _ => by
    unfold spl
    rw [List.set_cons_zero, List.flatMap_cons, List.flatMap_cons]
    show [] ++ t.rs ++ (TpV.rs x ++ r.flatMap TpV.rs).drop (0 + 2) = _
    rfl
  | x :: r, i + 1, h => by
    have ih := spl_tp t r i (by simpa using h)
    unfold spl at ih ⊢
    rw [List.set_cons_succ, List.flatMap_cons, List.flatMap_cons, ← ih, show (i + 1) * 2 = 2 + i * 2 by omega, show (TpV.rs x ++ r.flatMap TpV.rs).take (2 + i * 2) = TpV.rs x ++ (r.flatMap TpV.rs).take (i * 2) from List.take_length_add_append (l₁ := TpV.rs x) .., show 2 + i * 2 + t.rs.length = 2 + (i * 2 + t.rs.length) by omega, show (TpV.rs x ++ r.flatMap TpV.rs).drop (2 + (i * 2 + t.rs.length)) = (r.flatMap TpV.rs).drop (i * 2 + t.rs.length) from List.drop_length_add_append (l₁ := TpV.rs x) ..]
    simp only [List.append_assoc]
/-- A tape is stored into an own row. -/
theorem own_set {w' : World} {base n g cap : Nat} {e : TypeId} {cur : List Value} {ts : List TpV} {i : Nat} (t : TpV) (hb : base ≤ g) (hc : n ≤ cap) (hm : cap ≤ maxLen) (hl : cur.length = cap * 2) (ht : cur.take (n * 2) = ts.flatMap TpV.rs) (hn : n = ts.length) (hi : i < ts.length) (hB : Blk w' g e (spl cur (i * 2) t.rs)) :
    w'.ownsRow base e 2 (.slice (some ⟨g, 0, none⟩) n cap) n ((ts.set i t).flatMap TpV.rs) := by
  have h2 : t.rs.length = 2 := rfl
  refine own_of_blk hB hb hc hm (by rw [spl_len (by rw [hl, h2]; omega), hl]) ?_
  rw [← spl_tp t ts i hi, ← ht]
  unfold spl
  rw [h2, List.take_append, List.take_append, List.take_take]
  have e1 : (cur.take (i * 2)).length = i * 2 := by rw [List.length_take]; omega
  have e2 : (cur.take (i * 2) ++ t.rs).length = i * 2 + 2 := by rw [List.length_append, e1, h2]
  have a1 : min (n * 2) (i * 2) = i * 2 := Nat.min_eq_right (by omega)
  have a2 : min (i * 2) (n * 2) = i * 2 := Nat.min_eq_left (by omega)
  rw [e2, e1, a1, List.take_take, a2, List.take_of_length_le (l := t.rs) (by omega), List.drop_take]
end Go.Proofs.YtomfcgeibbicoaaGreat
namespace Go.Proofs.YtomfcgeibbicoaaGreat
open Go.RowKit
theorem ex_3 (w : World) (A B C : Obj) : Ex w (((w.alloc A).alloc B).alloc C) := ex_alloc (ex_two w A B) C
theorem rsetT_at (Q : DkV) (i : Nat) (t : TpV) : Q.setT ((i : Int) + 1) t = { Q with tapes := Q.tapes.set i t } := by
  unfold DkV.setT
  rw [show ((i : Int) + 1 - 1).toNat = i by omega]
theorem own_pos {w : World} {base k n : Nat} {e : TypeId} {v : Value} {cs : List Value} (hn : 0 < n) (h : w.ownsRow base e k v n cs) :
    ∃ g cap cur, v = .slice (some ⟨g, 0, none⟩) n cap ∧ base ≤ g ∧ Blk w g e cur ∧ n ≤ cap ∧ cap ≤ maxLen ∧ cur.length = cap * k ∧ cur.take (n * k) = cs := by
  rcases own_blk h with ⟨_, h0, _⟩ | h
  · omega
  · exact h
theorem fit_tp {i n cap : Nat} {cur : List Value} {t : TpV} (hi : i < n) (hc : n ≤ cap) (hl : cur.length = cap * 2) : i * 2 + t.rs.length ≤ cur.length := by
  have : t.rs.length = 2 := rfl
  omega
theorem info_sl : (Tryz.prog.info? 33).map (·.size) = some 1 := by kernel_rfl
theorem disk_one (Q : DkV) (A : Option Addr) (n c : Nat) (B : Option Addr) (m d : Nat) : ∀ x ∈ Q.rcs (.slice A n c) (.slice B m d), x.oneCell' = true := by
  intro x hx
  simp only [DkV.rcs, List.mem_cons, List.not_mem_nil, or_false] at hx
  rcases hx with rfl | rfl | rfl | rfl | rfl | rfl | rfl | rfl <;> rfl
set_option maxHeartbeats 2000000 in
set_option maxRecDepth 100000 in
theorem rtape_calls {F : Nat → Prop} {w : World} {Q : DkV} {tv sl : Value} (t : TpV) (i : Nat) (h : RdV F w Q tv sl) (hi : i < Q.tapes.length) (hn : Q.tapes.length ≤ 1000000) (hF : ∀ k, F k → k < w.heap.size) :
    Calls Tryz.prog 214 #[.agg (Q.rcs tv sl).toArray, .int .i64 ((i : Int) + 1), t.agg] w fun e w' => ∃ tv', e = .returned (.agg ((Q.setT ((i : Int) + 1) t).rcs tv' sl).toArray) ∧ TpsV F w' tv' (Q.tapes.set i t) ∧ Ex w w' := by
  rw [rsetT_at]
  obtain ⟨⟨A, c, rfl, hrow⟩, hls⟩ := h
  obtain ⟨B, n, d, rfl⟩ := hls.shape
  have hX := ex_3 w (.cells (Q.rcs (.slice A Q.tapes.length c) (.slice B n d)).toArray 40) (.cells t.rs.toArray 110) (.cells zeroD.toArray 40)
  have hB := (Blk.new w (Q.rcs (.slice A Q.tapes.length c) (.slice B n d)) 40).ex (ex_two _ (.cells t.rs.toArray 110) (.cells zeroD.toArray 40))
  have hT := (blk_two w (.cells (Q.rcs (.slice A Q.tapes.length c) (.slice B n d)).toArray 40) t.rs 110).ex (ex_alloc (Ex.refl _) (.cells zeroD.toArray 40))
  have hK := blk_three w (.cells (Q.rcs (.slice A Q.tapes.length c) (.slice B n d)).toArray 40) (.cells t.rs.toArray 110) zeroD 40
  have hz : (((w.alloc (.cells (Q.rcs (.slice A Q.tapes.length c) (.slice B n d)).toArray 40)).alloc (.cells t.rs.toArray 110)).alloc (.cells zeroD.toArray 40)).heap.size = w.heap.size + 1 + 1 + 1 := by simp
  have HR := Lib.hid (hrow.row.ex hX)
  have HB := Lib.hid hB
  have HT := Lib.hid hT
  have HK := Lib.hid hK
  have HX := Lib.hid hX
  obtain ⟨x0, x1, x2, x3, x4, x5, x6, x7⟩ := rd_cells hB
  have y0 := hT.cell 0
  have y1 := hT.cell 1
  have HZ := Lib.hid hz
  clear hrow hls hX hB hT hK hz
  generalize hts : Q.tapes = ts at *
  have HOne := Lib.hid (tps_one ts)
  have e1 : ∀ A c, ({ Q with tapes := ts.set i t } : DkV).rcs (.slice A ts.length c) (.slice B n d) = [.int .i64 Q.sec, .slice A ts.length c, .slice B n d, .int .i64 Q.fu.p, .int .i64 Q.fu.s, .int .i64 Q.fu.d, .bool Q.fu.off, .int .i64 (Q.calls : Int)] := fun _ _ => rfl
  have HE := Lib.hid e1
  clear e1
  have hL := own_lit (((w.alloc (.cells (Q.rcs (.slice A ts.length c) (.slice B n d)).toArray 40)).alloc (.cells t.rs.toArray 110)).alloc (.cells zeroD.toArray 40)) 110 2
  rw [HZ.out] at hL
  have hBl := ex_alloc (Ex.refl (((w.alloc (.cells (Q.rcs (.slice A ts.length c) (.slice B n d)).toArray 40)).alloc (.cells t.rs.toArray 110)).alloc (.cells zeroD.toArray 40))) (.cells #[] 110)
  unfold Ex at hBl
  rw [HZ.out] at hBl
  have hB0 : w.heap.size + 1 + 1 + 1 ≤ ((((w.alloc (.cells (Q.rcs (.slice A ts.length c) (.slice B n d)).toArray 40)).alloc (.cells t.rs.toArray 110)).alloc (.cells zeroD.toArray 40)).alloc (.cells #[] 110)).heap.size := by simp
  have HR2 := Lib.hid (HR.out.ex (ex_alloc (Ex.refl _) (.cells #[] 110)))
  have HL := Lib.hid hL
  have HBl := Lib.hid hBl
  have hsm : 0 + ts.length ≤ 100000000 := by omega
  have hf1 : 1 + 1 ≤ 8 := by decide
  have hle := Nat.le_refl w.heap.size
  have hle2 : w.heap.size ≤ w.heap.size + 1 + 1 := by omega
  have hi2 : (i : Int) < (ts.length : Int) := by omega
  have hia : (i : Int) + 1 - 1 = (i : Int) := by omega
  have hpos : 0 < ts.length := by omega
  have HOD := Lib.hid (disk_one Q)
  have HSO := Lib.hid (show ∀ (A : Option Addr) (n c : Nat), ∀ v ∈ [Value.slice A n c], v.oneCell' = true from fun A n c v hv => by rw [List.mem_singleton.1 hv]; rfl)
  clear hL hBl x0 x1 x2 x3 x4 x5 x6 x7 y0 y1
  unfold DkV.rcs TpV.agg
  go_enter Tryz.func214, Tryz.ntmps214
  go_wp2_with (first
    | (at_builtin; refine app_own 33 110 (.agg #[.string ⟨#[]⟩, .string ⟨#[]⟩]) 2 32 Tryz.underlying33 info_t7 rfl (by decide) (by decide) rfl (.tmp 7) (.tmp 9) rfl (w.heap.size + 1 + 1 + 1) _ 0 [] rfl HL.out A ts.length c (ts.flatMap TpV.rs) rfl HR2.out HOne.out hsm hB0 HBl.out ?_; intro v1 w1 o1 b1; rw [Nat.zero_add, List.nil_append] at o1; obtain ⟨g1, cap, cur, rfl, hg1, k1, hc1, hc2, hc3, hc4⟩ := own_pos hpos o1; have K1 := Lib.hid k1; have HC4 := Lib.hid hc4; have B1 := Lib.hid b1; have HB1 := Lib.hid (HB.out.below b1 (by omega)); have HT1 := Lib.hid (HT.out.below b1 (by omega)); have HK1 := Lib.hid (HK.out.below b1 (by omega)); have HX1 := Lib.hid (Below.ex2 HX.out HZ.out b1); clear o1 b1 k1 hc4)
    | (refine st_at 33 40 rfl (.tmp 11) (.tmp 10) rfl w.heap.size 1 _ [.int .i64 Q.sec, .slice (some ⟨g1, 0, none⟩) ts.length cap, .slice B n d, .int .i64 Q.fu.p, .int .i64 Q.fu.s, .int .i64 Q.fu.d, .bool Q.fu.off, .int .i64 (Q.calls : Int)] [.slice (some ⟨g1, 0, none⟩) ts.length cap] _ rfl rfl HB1.out rfl info_sl rfl hf1 (HSO.out _ _ _) HX1.out hle ?_; intro w2 k2 X2 g2; have HB2 := Lib.hid k2; have HX2 := Lib.hid X2; have hn1 : g1 ≠ w.heap.size := (by omega); have hn2 : w.heap.size + 1 ≠ w.heap.size := (by omega); have hn3 : w.heap.size + 1 + 1 ≠ w.heap.size := (by omega); have K2 := Lib.hid (K1.out.grown g2 (ne_some hn1)); have HT2 := Lib.hid (HT1.out.grown g2 (ne_some hn2)); have HK2 := Lib.hid (HK1.out.grown g2 (ne_some hn3)); have y1 := k2.cell 1; have u0 : w2.cell? ⟨w.heap.size + 1, 0, none⟩ = some (.string t.kp) := HT2.out.cell 0; have u1 : w2.cell? ⟨w.heap.size + 1, 1, none⟩ = some (.string t.nw) := HT2.out.cell 1; clear k2 X2)
    | (refine wpList_store_k rfl 110 (.tmp 17) (.tmp 16) rfl t.agg g1 (i * 2) cur 110 t.rs rfl rfl rfl info_rt K2.out (fit_tp hi hc1 hc3) (TpV.rs_one t) ?_; intro w3 k3 g3; have K3 := Lib.hid k3; have hm1 : w.heap.size ≠ g1 := (by omega); have hm3 : w.heap.size + 1 + 1 ≠ g1 := (by omega); have hgw : w.heap.size ≤ g1 := (by omega); have HB3 := Lib.hid (HB2.out.grown g3 (ne_some hm1)); have HK3 := Lib.hid (HK2.out.grown g3 (ne_some hm3)); have HX3 := Lib.hid (ex_of_new HX2.out hgw g3); have z0 := HB3.out.cell 0; have z1 := HB3.out.cell 1; have z2 := HB3.out.cell 2; have z3 := HB3.out.cell 3; have z4 := HB3.out.cell 4; have z5 := HB3.out.cell 5; have z6 := HB3.out.cell 6; have z7 := HB3.out.cell 7; clear k3)
    | (refine st_agg 40 rfl (.tmp 6) (.tmp 18) rfl (w.heap.size + 1 + 1) [.int .i64 0, .slice none 0 0, .slice none 0 0, .int .i64 0, .int .i64 0, .int .i64 0, .bool false, .int .i64 0] [.int .i64 Q.sec, .slice (some ⟨g1, 0, none⟩) ts.length cap, .slice B n d, .int .i64 Q.fu.p, .int .i64 Q.fu.s, .int .i64 Q.fu.d, .bool Q.fu.off, .int .i64 (Q.calls : Int)] rfl rfl info_d11 rfl (HOD.out _ _ _ _ _ _) HK3.out HX3.out hle2 ?_; intro w4 k4 X4 g4))
  (try simp only [Exit.inBlock, Exit.then])
  refine bodyPost_ret (ret_agg1 rfl _ _ (w.heap.size + 1 + 1) [.int .i64 Q.sec, .slice (some ⟨g1, 0, none⟩) ts.length cap, .slice B n d, .int .i64 Q.fu.p, .int .i64 Q.fu.s, .int .i64 Q.fu.d, .bool Q.fu.off, .int .i64 (Q.calls : Int)] rfl k4 Tryz.underlying40 info_d11) rfl ?_
  have hn4 : g1 ≠ w.heap.size + 1 + 1 := by omega
  refine ⟨.slice (some ⟨g1, 0, none⟩) ts.length cap, rfl, ?_, X4⟩
  exact TpsV.own (own_set t (Nat.le_trans (by omega) hg1) hc1 hc2 hc3 HC4.out rfl hi (K3.out.grown g4 (ne_some hn4))) hF
theorem cnt8 {t : TpV} (h : t.kp.size ≤ 8000000 ∧ t.nw.size ≤ 8000000) : cntT t ≤ 250001 := by unfold cntT cntS; omega
theorem sumT_le8 {Q : DkV} (hz : ∀ t ∈ Q.tapes, t.kp.size ≤ 8000000 ∧ t.nw.size ≤ 8000000) (ids : List Int) : sumT Q ids ≤ 250001 * ids.length := by
  induction ids with
  | nil => simp [sumT]
  | cons x r ih =>
    have hx : cntT (Q.tapeAt x) ≤ 250001 := by
      unfold DkV.tapeAt
      rw [List.getD_eq_getElem?_getD]
      cases hq : Q.tapes[(x - 1).toNat]? with
      | none => exact cnt8 (t := ⟨⟨#[]⟩, ⟨#[]⟩⟩) ⟨Nat.zero_le _, Nat.zero_le _⟩
      | some t => exact cnt8 (hz t (List.mem_of_getElem? hq))
    unfold sumT at ih ⊢
    rw [List.map_cons, List.sum_cons, List.length_cons]
    omega
theorem Idz.len {Q : DkV} (h : Idz Q) : Q.fo.ids.length ≤ Q.tapes.length := up_len Q.fo.ids_up (fun x hx => (h x hx).1) (fun x hx => (h x hx).2)
theorem Idz.at {Q : DkV} (h : Idz Q) {x : Int} (hx : x ∈ Q.fo.ids) : ∃ i, i < Q.tapes.length ∧ x = (i : Int) + 1 := ⟨(x - 1).toNat, by have := h x hx; omega, by have := h x hx; omega⟩
theorem tapeAt_get {Q : DkV} {i : Nat} (hi : i < Q.tapes.length) : Q.tapeAt ((i : Int) + 1) = Q.tapes[i] := by
  unfold DkV.tapeAt
  rw [show ((i : Int) + 1 - 1).toNat = i by omega, List.getD_eq_getElem?_getD, List.getElem?_eq_getElem hi]; rfl
set_option maxHeartbeats 2000000 in
set_option maxRecDepth 100000 in
theorem rfree_calls {F : Nat → Prop} {w : World} {Q : DkV} {tv sl : Value} {M : Nat} (h : RdV F w Q tv sl) (ho : Q.fo.Ok M) (hM : M ≤ 1000000) (hi : Idz Q) (hn : Q.tapes.length ≤ 1000000) (hs1 : 0 ≤ Q.sec) (hs2 : Q.sec ≤ 4096) (hz : ∀ t ∈ Q.tapes, t.kp.size ≤ 8000000 ∧ t.nw.size ≤ 8000000) (hF : ∀ k, F k → k < w.heap.size) :
    Calls Tryz.prog 52 #[.agg (Q.rcs tv sl).toArray] w fun e w' => e = .returned (.int .i64 (Q.sec - (Q.taken : Int))) ∧ Ex w w' := by
  obtain ⟨⟨A, c, rfl, hrow⟩, hls⟩ := h
  obtain ⟨B, n, d, rfl⟩ := hls.shape
  have hX := ex_alloc (Ex.refl w) (.cells (Q.rcs (.slice A Q.tapes.length c) (.slice B n d)).toArray 40)
  have hB := Blk.new w (Q.rcs (.slice A Q.tapes.length c) (.slice B n d)) 40
  have hil := hi.len
  have HR := Lib.hid (hrow.row.ex hX)
  have HB := Lib.hid hB
  have HX := Lib.hid hX
  have HL := Lib.hid (hls.ex hX)
  have HI := Lib.hid hi
  have HO := Lib.hid ho
  have HZ := Lib.hid hz
  have HFw := Lib.hid (fun k hk => Nat.lt_of_lt_of_le (hF k hk) hX.size)
  have hsum := Lib.hid (fun k => sumT_le8 hz (Q.fo.ids.take k))
  clear hrow hls hX hB hi ho hz
  unfold DkV.rcs
  go_enter Tryz.func52, Tryz.ntmps52
  go_wp2_with fail
  refine (rfids_calls (T := Q.tapes.length) HL.out HO.out hM HI.out hn HFw.out).mono ?_
  rintro e w1 ⟨v1, rfl, ⟨iA, ic, rfl, hir⟩, hb1⟩
  have HIR := Lib.hid hir
  have HX1 := Lib.hid (HX.out.trans hb1)
  have HR1 := Lib.hid (HR.out.ex hb1)
  have HB1 := Lib.hid (HB.out.ex hb1)
  clear hir hb1
  go_wp2_with fail
  go_loopw [3, 5] (fun v i wr => ∃ k : Nat, k ≤ Q.fo.ids.length ∧ i = .int .i64 (k : Int) ∧ v = .int .i64 (Q.sec - (sumT Q (Q.fo.ids.take k) : Int)) ∧ Ex w1 wr) (fun _ i _ => Q.fo.ids.length - (intOf i).toNat)
  case atStart => exact ⟨0, Nat.zero_le _, rfl, by simp [sumT], Ex.refl _⟩
  case round =>
    obtain ⟨k, hk, rfl, rfl, hb⟩ := hrel
    have HB2 := Lib.hid hb
    clear hb
    have hs3 : sumT Q (Q.fo.ids.take k) ≤ 250001 * 1000000 := by
      have := hsum.out k
      have h2 : (Q.fo.ids.take k).length ≤ 1000000 := by rw [List.length_take]; omega
      have := Nat.mul_le_mul_left 250001 h2
      omega
    by_cases hlt : k < Q.fo.ids.length
    · obtain ⟨j, hj, ej⟩ := HI.out.at (List.getElem_mem hlt)
      obtain ⟨b, o, rfl, ci⟩ := row_at (HIR.out.row.ex HB2.out) (k := k) (v := .int .i64 Q.fo.ids[k]) (by rw [List.getElem?_map, List.getElem?_eq_getElem hlt]; rfl)
      obtain ⟨b2, o2, rfl, ck, cn⟩ := (HR1.out.ex HB2.out).tp hj
      rw [ej] at ci
      have hz3 := HZ.out _ (List.getElem_mem hj)
      have HS := Lib.hid (sumT_succ Q hlt)
      have HT := Lib.hid (show cntT (Q.tapeAt Q.fo.ids[k]) = cntS (max Q.tapes[j].nw.size Q.tapes[j].kp.size) from by rw [ej, tapeAt_get hj]; rfl)
      have hcb : cntS (max Q.tapes[j].nw.size Q.tapes[j].kp.size) ≤ 250001 := cnt8 (t := Q.tapes[j]) hz3
      have x1 : wr.cell? ⟨w.heap.size, 1, none⟩ = some (.slice (some ⟨b2, o2, none⟩) Q.tapes.length c) := HB2.out.cell (HB1.out.cell 1)
      have q1 := Wd.cell x1
      have qi := Wd.cell ci
      have qk := Wd.cell ck
      have qn := Wd.cell cn
      have hz3k := hz3.1
      have hz3n := hz3.2
      have hjI : (j : Int) + 1 - 1 = (j : Int) := by omega
      have hjl : (j : Int) < (Q.tapes.length : Int) := by omega
      have hjn : ((j : Int)).toNat = j := by omega
      clear x1 ci ck cn hz3
      generalize Q.tapes[j] = t at *
      go_wp2_with fail
      refine wp_region_calm (by kernel_rfl) (by kernel_rfl) ?_
      repeat (go_big_quiet_step ((go_at_call 121; exact calm_of (rtsectors_calls t hz3k hz3n))))
      refine wpQuiet_nil ?_
      intro w2 hX2
      replace hX2 := calm_world hX2
      go_wp2_with fail
      exact ⟨⟨k + 1, by omega, by go_num, by rw [HS.out, HT.out]; congr 1; omega, HB2.out.trans hX2⟩, by simp [intOf]; omega⟩
    · have hkl : k = Q.fo.ids.length := by omega
      subst hkl
      have HS := Lib.hid (List.take_length (l := Q.fo.ids))
      go_wp2_with fail
      go_ret
      exact ⟨by rw [HS.out]; rfl, HX1.out.trans HB2.out⟩
end Go.Proofs.YtomfcgeibbicoaaGreat
