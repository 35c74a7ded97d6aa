/- The document's disk: what it is in memory; New, find, ask, tape, Free. -/
import Derived.Test.YtcffkmlnbnjibaaGreatRfD
namespace Go.Proofs.YtcffkmlnbnjibaaGreat
open Go.RowKit
/-- Each number that can be there has its tape. -/
def Idz (Q : DkV) : Prop := ∀ x ∈ Q.fo.ids, 1 ≤ x ∧ x ≤ (Q.tapes.length : Int)
def DkV.rcs (Q : DkV) (tv sl : Value) : List Value := [.int .i64 Q.sec, tv, sl, .int .i64 Q.fu.p, .int .i64 Q.fu.s, .int .i64 Q.fu.d, .bool Q.fu.off, .int .i64 (Q.calls : Int)]
def zeroD : List Value := [.int .i64 0, .slice none 0 0, .slice none 0 0, .int .i64 0, .int .i64 0, .int .i64 0, .bool false, .int .i64 0]
def TpsV (F : Nat → Prop) (w : World) (v : Value) (ts : List TpV) : Prop := ∃ A c, v = .slice A ts.length c ∧ RowF F w 2 A ts.length (ts.flatMap TpV.rs)
theorem TpsV.ex {F : Nat → Prop} {w w' : World} {v : Value} {l : List TpV} (h : TpsV F w v l) (hb : Ex w w') : TpsV F w' v l := by
  obtain ⟨A, c, e, h⟩ := h
  exact ⟨A, c, e, h.ex hb⟩
theorem TpsV.fresh {F : Nat → Prop} {w w' : World} {v : Value} {l : List TpV} (h : TpsV F w v l) (hb : Off F w w') : TpsV (Fresh F w w') w' v l := by
  obtain ⟨A, c, e, h⟩ := h
  exact ⟨A, c, e, h.fresh (by decide) hb⟩
theorem TpsV.offs {F G : Nat → Prop} {w w' : World} {v : Value} {l : List TpV} (h : TpsV F w v l) (hb : Off G w w') (hG : ∀ k, G k → F k) : TpsV F w' v l := by
  obtain ⟨A, c, e, h⟩ := h
  exact ⟨A, c, e, h.offs hb hG⟩
theorem TpsV.less {F G : Nat → Prop} {w : World} {v : Value} {l : List TpV} (h : TpsV G w v l) (hG : ∀ k, F k → G k) : TpsV F w v l := by
  obtain ⟨A, c, e, h⟩ := h
  exact ⟨A, c, e, h.less hG⟩
theorem TpsV.own {F : Nat → Prop} {w : World} {base n : Nat} {e : TypeId} {v : Value} {l : List TpV} (h : w.ownsRow base e 2 v n (l.flatMap TpV.rs)) (hF : ∀ k, F k → k < base) : TpsV F w v l := by
  have hn : n = l.length := by have := h.1; rw [flat_len TpV.rs 2 (fun _ => rfl)] at this; omega
  subst hn
  obtain ⟨A, c, rfl, _⟩ := own_shape h
  exact ⟨A, c, rfl, RowF.own h hF⟩
theorem TpsV.shape {F : Nat → Prop} {w : World} {v : Value} {l : List TpV} (h : TpsV F w v l) : ∃ A c, v = .slice A l.length c := by
  obtain ⟨A, c, e, _⟩ := h
  exact ⟨_, _, e⟩
theorem TpsV.nil (F : Nat → Prop) (w : World) : TpsV F w (.slice none 0 0) [] := ⟨none, 0, rfl, Row.nil _ _ _, fun h => absurd h (Nat.lt_irrefl 0)⟩
theorem Row.tp {w : World} {A : Option Addr} {n : Nat} {l : List TpV} (h : Row w 2 A n (l.flatMap TpV.rs)) {i : Nat} (hi : i < l.length) :
    ∃ b o, A = some ⟨b, o, none⟩ ∧ w.cell? ⟨b, o + i * 2, none⟩ = some (.string l[i].kp) ∧ w.cell? ⟨b, o + i * 2 + 1, none⟩ = some (.string l[i].nw) := by
  have hn : n = l.length := by have := h.1; rw [flat_len TpV.rs 2 (fun _ => rfl)] at this; omega
  obtain ⟨b, o, e, hc⟩ := h.2 (by omega)
  have h0 : ∀ j, j < 2 → (l.flatMap TpV.rs)[i * 2 + j]? = (TpV.rs l[i])[j]? := fun j hj => flat_get TpV.rs 2 (fun _ => rfl) l i l[i] j (List.getElem?_eq_getElem hi) hj
  exact ⟨b, o, e, hc (i * 2) _ (h0 0 (by omega)), hc (i * 2 + 1) _ (h0 1 (by omega))⟩
theorem tps_one (l : List TpV) : ∀ u ∈ l.flatMap TpV.rs, u.oneCell' = true := by
  intro u hu
  obtain ⟨t, _, ht⟩ := List.mem_flatMap.1 hu
  exact TpV.rs_one t u ht
/-- A value that is a disk of the document. -/
structure RdV (F : Nat → Prop) (w : World) (Q : DkV) (tv sl : Value) : Prop where
  tp : TpsV F w tv Q.tapes
  fo : LsV F w sl Q.fo.lists
theorem RdV.ex {F : Nat → Prop} {w w' : World} {Q : DkV} {tv sl : Value} (h : RdV F w Q tv sl) (hb : Ex w w') : RdV F w' Q tv sl := ⟨h.tp.ex hb, h.fo.ex hb⟩
theorem RdV.fresh {F : Nat → Prop} {w w' : World} {Q : DkV} {tv sl : Value} (h : RdV F w Q tv sl) (hb : Off F w w') : RdV (Fresh F w w') w' Q tv sl := ⟨h.tp.fresh hb, h.fo.fresh hb⟩
theorem RdV.offs {F G : Nat → Prop} {w w' : World} {Q : DkV} {tv sl : Value} (h : RdV F w Q tv sl) (hb : Off G w w') (hG : ∀ k, G k → F k) : RdV F w' Q tv sl := ⟨h.tp.offs hb hG, h.fo.offs hb hG⟩
theorem RdV.less {F G : Nat → Prop} {w : World} {Q : DkV} {tv sl : Value} (h : RdV G w Q tv sl) (hG : ∀ k, F k → G k) : RdV F w Q tv sl := ⟨h.tp.less hG, h.fo.less hG⟩
theorem RdV.same {F : Nat → Prop} {w : World} {Q Q' : DkV} {tv sl : Value} (h : RdV F w Q tv sl) (e1 : Q'.tapes = Q.tapes) (e2 : Q'.fo = Q.fo) : RdV F w Q' tv sl := ⟨by rw [e1]; exact h.tp, by rw [e2]; exact h.fo⟩
theorem RdV.shape {F : Nat → Prop} {w : World} {Q : DkV} {tv sl : Value} (h : RdV F w Q tv sl) : ∃ A c B n d, tv = .slice A Q.tapes.length c ∧ sl = .slice B n d := by
  obtain ⟨A, c, e, _⟩ := h.tp
  obtain ⟨B, n, d, e2⟩ := h.fo.shape
  exact ⟨A, c, B, n, d, e, e2⟩
theorem Grow.rd {F G : Nat → Prop} {w W : World} (g : Grow F w W G) (e : G = Fresh F w W) {Q : DkV} {tv sl : Value} (h : RdV F w Q tv sl) : RdV G W Q tv sl := by subst e; exact h.fresh (g.ex.off F)
theorem Grow.tps {F G : Nat → Prop} {w W : World} (g : Grow F w W G) (e : G = Fresh F w W) {v : Value} {l : List TpV} (h : TpsV F w v l) : TpsV G W v l := by subst e; exact h.fresh (g.ex.off F)
theorem info_d11 : (Tryz.prog.info? 59).map (·.size) = some 8 := by kernel_rfl
theorem rcs_one (Q : DkV) {F : Nat → Prop} {w : World} {tv sl : Value} (h : RdV F w Q tv sl) : ∀ x ∈ Q.rcs tv sl, x.oneCell' = true := by
  obtain ⟨A, c, B, n, d, rfl, rfl⟩ := h.shape
  intro x hx
  simp only [DkV.rcs, List.mem_cons, List.not_mem_nil, or_false] at hx
  rcases hx with rfl | rfl | rfl | rfl | rfl | rfl | rfl | rfl <;> rfl
/-- The cells of a disk's block. -/
structure RdC (w : World) (g : Nat) (Q : DkV) (tv sl : Value) : Prop where
  x0 : w.cell? ⟨g, 0, none⟩ = some (.int .i64 Q.sec)
  x1 : w.cell? ⟨g, 1, none⟩ = some tv
  x2 : w.cell? ⟨g, 2, none⟩ = some sl
  x3 : w.cell? ⟨g, 3, none⟩ = some (.int .i64 Q.fu.p)
  x4 : w.cell? ⟨g, 4, none⟩ = some (.int .i64 Q.fu.s)
  x5 : w.cell? ⟨g, 5, none⟩ = some (.int .i64 Q.fu.d)
  x6 : w.cell? ⟨g, 6, none⟩ = some (.bool Q.fu.off)
  x7 : w.cell? ⟨g, 7, none⟩ = some (.int .i64 (Q.calls : Int))
theorem rd_cells {w : World} {g : Nat} {Q : DkV} {tv sl : Value} {T : TypeId} (h : Blk w g T (Q.rcs tv sl)) : RdC w g Q tv sl :=
  ⟨h.cell 0, h.cell 1, h.cell 2, h.cell 3, h.cell 4, h.cell 5, h.cell 6, h.cell 7⟩
/-- A disk of the document, with what it is. -/
def DocP (F : Nat → Prop) (w : World) (v : Value) (Q : DkV) : Prop := ∃ tv sl, v = .agg (Q.rcs tv sl).toArray ∧ RdV F w Q tv sl
theorem DocP.ex {F : Nat → Prop} {w w' : World} {v : Value} {Q : DkV} (h : DocP F w v Q) (hb : Ex w w') : DocP F w' v Q := by
  obtain ⟨tv, sl, e, h⟩ := h
  exact ⟨tv, sl, e, h.ex hb⟩
theorem DocP.fresh {F : Nat → Prop} {w w' : World} {v : Value} {Q : DkV} (h : DocP F w v Q) (hb : Off F w w') : DocP (Fresh F w w') w' v Q := by
  obtain ⟨tv, sl, e, h⟩ := h
  exact ⟨tv, sl, e, h.fresh hb⟩
/-- What New of the document gives. -/
def NewR (F : Nat → Prop) (n : Int) (w' : World) (e : Ending) : Prop :=
  ((n < 1 ∨ 4096 < n) ∧ e = .returned (.tuple #[.agg zeroD.toArray, .int .i64 2])) ∨ ((1 ≤ n ∧ n ≤ 4096) ∧ ∃ v, e = .returned (.tuple #[v, .int .i64 0]) ∧ DocP F w' v (DkV.fresh n))
set_option maxHeartbeats 1000000 in
set_option maxRecDepth 100000 in
theorem rnew_calls {F : Nat → Prop} (n : Int) (w : World) (hF : ∀ k, F k → k < w.heap.size) :
    Calls Tryz.prog 30 #[.int .i64 n] w fun e w' => NewR F n w' e ∧ Ex w w' := by
  have HK := Lib.hid (Blk.new w zeroD 59)
  have HX := Lib.hid (ex_alloc (Ex.refl w) (.cells zeroD.toArray 59))
  have hzone : ∀ x ∈ zeroD, x.oneCell' = true := by
    intro x hx
    simp only [zeroD, List.mem_cons, List.not_mem_nil, or_false] at hx
    rcases hx with rfl | rfl | rfl | rfl | rfl | rfl | rfl | rfl <;> rfl
  have HZ := Lib.hid hzone
  have hle := Nat.le_refl w.heap.size
  clear hzone
  by_cases h1 : n < 1
  · have d1 : decide (n < 1) = true := decide_eq_true h1
    go_enter Tryz.func30, Tryz.ntmps30
    go_wp2_with (refine st_agg 59 rfl (.tmp 2) (.tmp 10) rfl w.heap.size zeroD zeroD rfl rfl info_d11 rfl HZ.out HK.out HX.out hle ?_; intro w3 k3 x3 g3)
    (try simp only [Exit.inBlock, Exit.then])
    refine bodyPost_ret (ret_agg2 rfl _ _ w.heap.size zeroD rfl k3 Tryz.underlying59 info_d11) rfl ?_
    exact ⟨.inl ⟨.inl h1, rfl⟩, x3⟩
  · have d1 : decide (n < 1) = false := decide_eq_false h1
    by_cases h2 : 4096 < n
    · have d2 : decide (4096 < n) = true := decide_eq_true h2
      go_enter Tryz.func30, Tryz.ntmps30
      go_wp2_with (refine st_agg 59 rfl (.tmp 2) (.tmp 10) rfl w.heap.size zeroD zeroD rfl rfl info_d11 rfl HZ.out HK.out HX.out hle ?_; intro w3 k3 x3 g3)
      (try simp only [Exit.inBlock, Exit.then])
      refine bodyPost_ret (ret_agg2 rfl _ _ w.heap.size zeroD rfl k3 Tryz.underlying59 info_d11) rfl ?_
      exact ⟨.inl ⟨.inr h2, rfl⟩, x3⟩
    · have d2 : decide (4096 < n) = false := decide_eq_false h2
      obtain ⟨G, hG, eG⟩ := Grow.mk2 HX.out hF
      have HG := Lib.hid hG
      have HG0 := Lib.hid (hG.new w.heap.size (Nat.le_refl _) (by simp))
      have hFG := hG.lt
      clear hG eG
      go_enter Tryz.func30, Tryz.ntmps30
      go_wp2_with fail
      refine (rfnew_f_calls (F := G) _ hFG).mono ?_
      rintro e w1 ⟨sl, rfl, hl, hb1⟩
      obtain ⟨A, m, c, rfl⟩ := hl.shape
      have HL := Lib.hid hl
      have HB1 := Lib.hid hb1
      clear hl hb1 hFG
      go_wp2_with fail
      refine (rfnew_calls _).mono ?_
      rintro e w2 ⟨rfl, hb2⟩
      have HB2 := Lib.hid (HB1.out.trans hb2)
      have HL2 := Lib.hid (HL.out.ex hb2)
      have HK2 := Lib.hid (HK.out.ex HB2.out)
      have HX2 := Lib.hid (HX.out.trans HB2.out)
      have HR := Lib.hid (show RdV G w2 (DkV.fresh n) (.slice none 0 0) (.slice A m c) from ⟨TpsV.nil _ _, HL2.out⟩)
      have HO := Lib.hid (rcs_one _ HR.out)
      clear hb2
      unfold FuV.agg
      go_wp2_with (refine st_agg 59 rfl (.tmp 2) (.tmp 14) rfl w.heap.size zeroD ((DkV.fresh n).rcs (.slice none 0 0) (.slice A m c)) rfl rfl info_d11 rfl HO.out HK2.out HX2.out hle ?_; intro w3 k3 x3 g3)
      (try simp only [Exit.inBlock, Exit.then])
      refine bodyPost_ret (ret_agg2 rfl _ _ w.heap.size ((DkV.fresh n).rcs (.slice none 0 0) (.slice A m c)) rfl k3 Tryz.underlying59 info_d11) rfl ?_
      exact ⟨.inr ⟨⟨by omega, by omega⟩, _, rfl, _, _, rfl, (HR.out.offs (off_grown g3) fun k hk => by rw [hk]; exact HG0.out).less HG.out.of⟩, x3⟩
set_option maxHeartbeats 1000000 in
theorem rdfind_calls {F : Nat → Prop} {w : World} {Q : DkV} {tv sl : Value} {M : Nat} (s : ByteArray) (h : RdV F w Q tv sl) (ho : Q.fo.Ok M) (hM : M ≤ 1000000) :
    Calls Tryz.prog 129 #[.agg (Q.rcs tv sl).toArray, .string s] w fun e w' => e = .returned (.int .i64 (Q.idOf s)) ∧ Ex w w' := by
  obtain ⟨A, c, B, n, d, rfl, rfl⟩ := h.shape
  have HX := Lib.hid (ex_alloc (Ex.refl w) (.cells (Q.rcs (.slice A Q.tapes.length c) (.slice B n d)).toArray 59))
  obtain ⟨x0, x1, x2, x3, x4, x5, x6, x7⟩ := rd_cells (Blk.new w (Q.rcs (.slice A Q.tapes.length c) (.slice B n d)) 59)
  have hq : Q.fo.ch.length ≤ 1000000 := by have := ho.kl; omega
  have HQ9 := Lib.hid (show Q.fo.now.length ≤ 9223372036854775807 by have := ho.now_len; omega)
  have HL := Lib.hid (h.fo.ex HX.out)
  clear h ho
  unfold DkV.rcs at *
  go_enter Tryz.func129, Tryz.ntmps129
  go_wp2_with fail
  refine (rfnow_calls HL.out hq).mono ?_
  rintro e w1 ⟨u, rfl, ⟨A1, c1, rfl, hr1⟩, hb1⟩
  have HB1 := Lib.hid (HX.out.trans hb1)
  go_wp2_with fail
  refine (rffind_calls A1 c1 Q.fo.now s _ HQ9.out hr1.row).mono ?_
  rintro e w2 ⟨rfl, rfl⟩
  go_wp2_with fail
  go_ret
  exact ⟨rfl, HB1.out⟩
end Go.Proofs.YtcffkmlnbnjibaaGreat
