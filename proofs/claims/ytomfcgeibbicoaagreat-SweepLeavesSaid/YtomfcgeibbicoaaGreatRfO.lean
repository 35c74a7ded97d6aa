/- The document's disk: Load. -/
import Derived.Test.YtomfcgeibbicoaaGreatRfM
import Derived.Test.YtomfcgeibbicoaaGreatDkQ
namespace Go.Proofs.YtomfcgeibbicoaaGreat
open Go.RowKit
/-- What Load of the document gives. -/
def LoadD (F : Nat → Prop) (w : World) (r : Option DkV × Int) (w' : World) (e : Ending) : Prop :=
  (∃ v, e = .returned (.tuple #[v, .int .i64 r.2]) ∧ (r.1 = none → v = .agg zeroD.toArray) ∧ ∀ Q, r.1 = some Q → DocP F w' v Q) ∧ Ex w w'
section
variable {P : Program} {w : World} {o : Oper} {a : Act} {K : Act → World → Prop} {Q : Exit → Act → World → Prop}
/-- append at an own row, in a region that draws its order; which block turns, and which one is new. -/
theorem wp_app_turn (T E : TypeId) (z : Value) (k bytes : Nat) (hT : P.underlying T = some (.slice E)) (hE : (P.info? E).map (fun i => (i.zero, i.size, i.bytes)) = some (some z, k, bytes)) (hz : z.cells.size = k) (hk : 0 < k) (hby : bytes ≤ 1000)
    (s x : Operand) (ho : o.op = .call { callee := .builtin .append, args := #[s, x], argTypes := #[T, T] }) (base : Nat) (v : Value) (n : Nat) (cs : List Value) (hs : a.eval s = v) (hown : w.ownsRow base E k v n cs)
    (A : Option Addr) (m c : Nat) (cs' : List Value) (hx : a.eval x = .slice A m c) (hr : Row w k A m cs') (h1 : ∀ u ∈ cs', u.oneCell' = true) (hsm : n + m ≤ 100000000) (hbase : base ≤ w.heap.size)
    (h : ∀ v' w', w'.ownsRow base E k v' (n + m) (cs ++ cs') → w.grownBy w' v.ownBlock → (v'.ownBlock = v.ownBlock ∨ v'.ownBlock = some w.heap.size) → K (a.put o.dst v') w') : o.wp P a w K Q := by
  obtain ⟨i0, hi0, hz0, hz1, hz2⟩ := info_parts hE
  exact wp_append_row w s x _ ho base _ i0 _ k bytes hT hi0 hz0 hz1 hz2 hz hk v n cs hs hown A m c cs' hx hr h1 (by unfold maxLen; omega) (Nat.le_trans (Nat.mul_le_mul hsm hby) (by decide)) hbase h
end
theorem loadD_no {F : Nat → Prop} {w w' : World} {r : Option DkV × Int} {c : Int} (h : r = (none, c)) (hX : Ex w w') : LoadD F w r w' (.returned (.tuple #[.agg zeroD.toArray, .int .i64 c])) := by
  subst h
  exact ⟨⟨_, rfl, fun _ => rfl, fun _ h => by cases h⟩, hX⟩
theorem zeroD_one : ∀ x ∈ zeroD, x.oneCell' = true := by
  intro x hx
  simp only [zeroD, List.mem_cons, List.not_mem_nil, or_false] at hx
  rcases hx with rfl | rfl | rfl | rfl | rfl | rfl | rfl | rfl <;> rfl
/-- The document's disk while it is loaded: it lies in block b, its tapes are a row of the call's own. -/
structure Ldg (F : Nat → Prop) (w0 w : World) (b : Nat) (Q : DkV) (k : Nat) (tv sl : Value) : Prop where
  own : w.ownsRow (b + 1) 110 2 tv k (Q.tapes.flatMap TpV.rs)
  ls : LsV (fun j => F j ∨ tv.ownBlock = some j) w sl Q.fo.lists
  blk : Blk w b 40 (Q.rcs tv sl)
  ex : Ex w0 w
  len : Q.tapes.length = k
  ok : Q.Ok k
  iz : Idz Q
section
variable {F : Nat → Prop} {w0 w w' : World} {b k : Nat} {Q : DkV} {tv sl : Value}
theorem Ldg.grow (h : Ldg F w0 w b Q k tv sl) (hb : Ex w w') : Ldg F w0 w' b Q k tv sl :=
  { h with own := own_ex h.own hb, ls := h.ls.ex hb, blk := h.blk.ex hb, ex := h.ex.trans hb }
theorem Ldg.lt (h : Ldg F w0 w b Q k tv sl) (hF : ∀ j, F j → j ≤ b) : ∀ j, (F j ∨ tv.ownBlock = some j) → j < w.heap.size := fun j hj => by
  rcases hj with hj | hj
  · exact Nat.lt_of_le_of_lt (hF j hj) h.blk.lt
  · exact (h.own.lt j hj).2
/-- A file more: its name, then its tape. -/
theorem Ldg.add (h : Ldg F w0 w b Q k tv sl) (hFb : F b) (hb : w0.heap.size ≤ b) {nm dt : ByteArray} {sl' tv' : Value} {w1 w2 w3 w4 : World} (hnm : nm.size ≤ 9223372036854775807) (hdt : dt.size ≤ 131072) (hk : k ≤ 1000000)
    (hf : (findM nm Q.fo.now).2 = false) (hX : Ex w w1) (hl : LsV (fun j => F j ∨ tv.ownBlock = some j) w1 sl' (Q.fo.put nm ((k : Int) + 1)).1.lists) (ho : Off (· = b) w1 w2)
    (own2 : w3.ownsRow (b + 1) 110 2 tv' (k + 1) ((Q.tapes ++ [(⟨dt, dt⟩ : TpV)]).flatMap TpV.rs)) (g3 : w2.grownBy w3 tv.ownBlock) (hn : tv'.ownBlock = tv.ownBlock ∨ ∃ j, tv'.ownBlock = some j ∧ w2.heap.size ≤ j) (o4 : Off (· = b) w3 w4) (k4 : Blk w4 b 40 (Q.rcs tv' sl')) :
    Ldg F w0 w4 b (Q.add nm ⟨dt, dt⟩) (k + 1) tv' sl' := by
  have hfo : (Q.fo.put nm ((k : Int) + 1)).1 = (Q.add nm ⟨dt, dt⟩).fo := by
    unfold FoV.put DkV.add
    rw [if_neg (by rw [hf]; simp), h.len]
  rw [hfo] at hl
  have hnb : ∀ j, tv'.ownBlock = some j → j ≠ b := fun j hj e => by have := (own2.lt j hj).1; omega
  refine ⟨own_off own2 o4 (fun j hj e => hnb j hj e), ?_, k4, ?_, ?_, ?_, h.iz.add _ _⟩
  · -- the lists of names stand
    have l2 := hl.offs ho (fun j e => .inl (e ▸ hFb))
    have l3 := (l2.fresh ((Off.refl (fun j => F j ∨ tv.ownBlock = some j) w2).grown g3 fun j hj => .inl (.inr hj))).less (F := fun j => F j ∨ tv'.ownBlock = some j) fun j hj => by
      rcases hj with hj | hj
      · exact .inl (.inl hj)
      · rcases hn with hn | ⟨i, hi, hz⟩
        · exact .inl (.inr (by rw [← hn]; exact hj))
        · have hl3 := (own2.lt j hj).2
          rw [hi] at hj
          injection hj with hj
          exact .inr ⟨by omega, hl3⟩
    exact l3.offs o4 (fun j e => .inl (e ▸ hFb))
  · have h1 : Ex w0 w2 := (((h.ex.trans hX).off (fun j => j = b)).trans ho).ex fun j hj (e : j = b) => by omega
    have h3 : Ex w0 w3 := Below.grown h1 g3 h1.size fun j hj => by have := (h.own.lt j hj).1; omega
    exact ((h3.off (fun j => j = b)).trans o4).ex fun j hj (e : j = b) => by omega
  · show (Q.tapes ++ [_]).length = k + 1
    rw [List.length_append, h.len]; rfl
  · exact add_ok h.ok hk hnm (t := ⟨dt, dt⟩) ⟨hdt, hdt⟩
theorem loadD_yes {F : Nat → Prop} {w w' : World} {r : Option DkV × Int} {Q : DkV} {tv sl : Value} (h : r = (some Q, 0)) (hR : RdV F w' Q tv sl) (hX : Ex w w') : LoadD F w r w' (.returned (.tuple #[.agg (Q.rcs tv sl).toArray, .int .i64 0])) := by
  subst h
  exact ⟨⟨_, rfl, (fun h => by cases h), fun _ h => by cases h; exact ⟨tv, sl, rfl, hR⟩⟩, hX⟩
theorem Ldg.rd (h : Ldg F w0 w b Q k tv sl) (hF : ∀ j, F j → j ≤ b) : RdV F w Q tv sl :=
  ⟨TpsV.own h.own (fun j hj => Nat.lt_succ_of_le (hF j hj)), h.ls.less fun _ hj => .inl hj⟩
/-- Behind an append to the tapes' row. -/
def WaR (w6 w7 : World) (v v' : Value) : Prop := ∃ wa, Ex w6 wa ∧ wa.grownBy w7 v.ownBlock ∧ (v'.ownBlock = v.ownBlock ∨ v'.ownBlock = some wa.heap.size)
theorem Blk.wa {w6 w7 : World} {v v' : Value} {g : Nat} {e : TypeId} {cur : List Value} (h : Blk w6 g e cur) (k : WaR w6 w7 v v') (hn : some g ≠ v.ownBlock) : Blk w7 g e cur := by
  obtain ⟨wa, k1, k2, _⟩ := k
  exact (h.ex k1).grown k2 hn
theorem Ldg.add2 (h : Ldg F w0 w b Q k tv sl) (hFb : F b) (hb : w0.heap.size ≤ b) {nm dt : ByteArray} {sl' tv' : Value} {w1 w2 w3 : World} (hnm : nm.size ≤ 9223372036854775807) (hdt : dt.size ≤ 131072) (hk : k ≤ 1000000)
    (hf : (findM nm Q.fo.now).2 = false) (hX : Ex w w1) (hl : LsV (fun j => F j ∨ tv.ownBlock = some j) w1 sl' (Q.fo.put nm ((k : Int) + 1)).1.lists) (ho : Off (· = b) w1 w2)
    (hw : WaR w2 w3 tv tv') (own2 : w3.ownsRow (b + 1) 110 2 tv' (k + 1) (Q.tapes.flatMap TpV.rs ++ [(⟨dt, dt⟩ : TpV)].flatMap TpV.rs)) (k3 : Blk w3 b 40 (Q.rcs tv sl')) :
    Ldg F w0 (w3.setCell ⟨b, 1, none⟩ tv') b (Q.add nm ⟨dt, dt⟩) (k + 1) tv' sl' := by
  obtain ⟨wa, h1, h2, h3⟩ := hw
  rw [← List.flatMap_append] at own2
  exact h.add hFb hb hnm hdt hk hf hX hl (ho.trans (h1.off _)) own2 h2 (h3.imp id fun e => ⟨_, e, Nat.le_refl _⟩) (off_set w3 b 1 tv') (k3.setCell tv')
end
/-- A new disk of the document: its tapes are nil. -/
theorem rnew_nil {F : Nat → Prop} (n : Int) (w : World) (h1 : 1 ≤ n) (h2 : n ≤ 4096) (hF : ∀ k, F k → k < w.heap.size) :
    Calls Tryz.prog 39 #[.int .i64 n] w fun e w' => ∃ sl, e = .returned (.tuple #[.agg ((DkV.fresh n).rcs (.slice none 0 0) sl).toArray, .int .i64 0]) ∧ LsV F w' sl (DkV.fresh n).fo.lists ∧ Ex w w' := by
  have HK := Lib.hid (Blk.new w zeroD 40)
  have HX := Lib.hid (ex_alloc (Ex.refl w) (.cells zeroD.toArray 40))
  have hle := Nat.le_refl w.heap.size
  have d1 : decide (n < 1) = false := decide_eq_false (by omega)
  have d2 : decide (4096 < n) = false := decide_eq_false (by omega)
  obtain ⟨G, hG, eG⟩ := Grow.mk2 HX.out hF
  have HG := Lib.hid hG
  have HG0 := Lib.hid (hG.new w.heap.size (Nat.le_refl _) (by simp))
  have hFG := hG.lt
  clear hG eG
  go_enter Tryz.func39, Tryz.ntmps39
  go_wp2_with fail
  refine (rfnew_f_calls (F := G) _ hFG).mono ?_
  rintro e w1 ⟨sl, rfl, hl, hb1⟩
  obtain ⟨A, m, c, rfl⟩ := hl.shape
  have HL := Lib.hid hl
  have HB1 := Lib.hid hb1
  clear hl hb1 hFG
  go_wp2_with fail
  refine (rfnew_calls _).mono ?_
  rintro e w2 ⟨rfl, hb2⟩
  have HB2 := Lib.hid (HB1.out.trans hb2)
  have HL2 := Lib.hid (HL.out.ex hb2)
  have HK2 := Lib.hid (HK.out.ex HB2.out)
  have HX2 := Lib.hid (HX.out.trans HB2.out)
  have HO := Lib.hid (disk_one (DkV.fresh n) none 0 0 A m c)
  clear hb2
  unfold FuV.agg
  go_wp2_with (refine st_agg 40 rfl (.tmp 2) (.tmp 14) rfl w.heap.size zeroD ((DkV.fresh n).rcs (.slice none 0 0) (.slice A m c)) rfl rfl info_d11 rfl HO.out HK2.out HX2.out hle ?_; intro w3 k3 x3 g3)
  (try simp only [Exit.inBlock, Exit.then])
  refine bodyPost_ret (ret_agg2 rfl _ _ w.heap.size ((DkV.fresh n).rcs (.slice none 0 0) (.slice A m c)) rfl k3 Tryz.underlying40 info_d11) rfl ?_
  exact ⟨_, rfl, (HL2.out.offs (off_grown g3) (same_blk HG0.out)).less HG.out.of, x3⟩
set_option maxHeartbeats 2000000 in
set_option maxRecDepth 100000 in
theorem rload_calls {F : Nat → Prop} (n : Int) (A : Option Addr) (c : Nat) (l : List FlV) (w : World) (hr : Row w 2 A l.length (l.flatMap FlV.cs)) (hl : ∀ f ∈ l, f.nm.size ≤ 9223372036854775807 ∧ f.dt.size ≤ 131072) (hF : ∀ k, F k → k < w.heap.size) :
    Calls Tryz.prog 11 #[.int .i64 n, .slice A l.length c] w fun e w' => LoadD F w (DkV.load n l) w' e := by
  have HR := Lib.hid hr
  have HL := Lib.hid hl
  have hX0 := ex_alloc (Ex.refl w) (.cells zeroD.toArray 40)
  have HB0 := Lib.hid (Blk.new w zeroD 40)
  have HX0 := Lib.hid hX0
  have hle := Nat.le_refl w.heap.size
  have HZO := Lib.hid zeroD_one
  obtain ⟨G, hG, eG⟩ := Grow.mk2 hX0 hF
  have HG := Lib.hid hG
  have HG0 := Lib.hid (hG.new w.heap.size (Nat.le_refl _) (by simp))
  have HGl := Lib.hid hG.lt
  clear hX0 hG eG hr hl hF
  go_enter Tryz.func11, Tryz.ntmps11
  go_wp2_with fail
  by_cases hn : n < 1 ∨ 4096 < n
  · refine (rnew_calls (F := fun _ => False) n _ (fun k hk => hk.elim)).mono ?_
    rintro e w1 ⟨hN, hb1⟩
    obtain rfl : e = .returned (.tuple #[.agg zeroD.toArray, .int .i64 2]) := by
      rcases hN with ⟨_, e⟩ | ⟨h, _⟩
      · exact e
      · omega
    have hb2 := Ex.trans hb1 (ex_alloc (Ex.refl w1) (.cells zeroD.toArray 40))
    have HB2 := Lib.hid (HB0.out.ex hb2)
    have HX2 := Lib.hid (HX0.out.trans hb2)
    clear hN hb1 hb2
    unfold zeroD
    go_wp2_with (refine st_agg 40 rfl (.tmp 4) (.tmp 18) rfl w.heap.size zeroD zeroD rfl rfl info_d11 rfl HZO.out HB2.out HX2.out hle ?_; intro wz kz Xz gz)
    (try simp only [Exit.inBlock, Exit.then])
    refine bodyPost_ret (ret_agg2 rfl _ _ w.heap.size zeroD rfl kz Tryz.underlying40 info_d11) rfl ?_
    exact loadD_no (by unfold DkV.load; rw [if_pos hn]) Xz
  have hn3 : 1 ≤ n ∧ n ≤ 4096 := by omega
  refine (rnew_nil (F := G) n _ hn3.1 hn3.2 HGl.out).mono ?_
  rintro e w1 ⟨sl, rfl, hls, hb1⟩
  obtain ⟨sB, sn, sd, rfl⟩ := hls.shape
  have hz1 := hb1.size
  obtain ⟨b6, hb6⟩ : ∃ b6, w1.heap.size = b6 := ⟨_, rfl⟩
  obtain ⟨W, hW⟩ : ∃ W, w1.alloc (.cells ((DkV.fresh n).rcs (.slice none 0 0) (.slice sB sn sd)).toArray 40) = W := ⟨_, rfl⟩
  have hE2 : Ex w1 W := by rw [← hW]; exact ex_alloc (Ex.refl w1) _
  have hWz : W.heap.size = b6 + 1 := by rw [← hW, ← hb6]; simp
  have hD0 := hls.fresh (hE2.off G)
  have HD := Lib.hid (show Ldg (fun j => G j ∨ j = b6) w1 W b6 (DkV.fresh n) 0 (.slice none 0 0) (.slice sB sn sd) from
    ⟨World.ownsRow_nil _ _ _ _, hD0.less (fun j hj => by
      rcases hj with (hj | hj) | hj
      · exact .inl hj
      · exact .inr ⟨by omega, by omega⟩
      · cases hj), by rw [← hW, ← hb6]; exact Blk.new w1 _ _, hE2, rfl, fresh_ok hn3.1 hn3.2, Idz.fresh n⟩)
  have HXW := Lib.hid (HX0.out.trans (hb1.trans hE2))
  have HBW := Lib.hid (HB0.out.ex (hb1.trans hE2))
  have HGW := Lib.hid (show ∀ j, (G j ∨ j = b6) → j ≤ b6 from fun j hj => by
    rcases hj with hj | hj
    · have := HGl.out j hj; omega
    · omega)
  have hw6 : w.heap.size < b6 := by have := HB0.out.lt; omega
  have HX1 := Lib.hid (HX0.out.trans hb1)
  have HB1 := Lib.hid (HB0.out.ex hb1)
  have HRW := Lib.hid (HR.out.ex HX1.out)
  have hb1z : w1.heap.size ≤ b6 := by omega
  clear hls hb1 hE2 hD0
  by_cases h64 : 64 < l.length
  · have d64 : decide (64 < (l.length : Int)) = true := decide_eq_true (by omega)
    unfold DkV.rcs at hW
    unfold DkV.rcs
    go_wp2_with (first | (rw [hb6, hW]) | (refine st_agg 40 rfl (.tmp 4) (.tmp 23) rfl w.heap.size zeroD zeroD rfl rfl info_d11 rfl HZO.out HBW.out HXW.out hle ?_; intro wz kz Xz gz))
    (try simp only [Exit.inBlock, Exit.then])
    refine bodyPost_ret (ret_agg2 rfl _ _ w.heap.size zeroD rfl kz Tryz.underlying40 info_d11) rfl ?_
    exact loadD_no (by unfold DkV.load; rw [if_neg hn, if_pos h64]) Xz
  have d64 : decide (64 < (l.length : Int)) = false := decide_eq_false (by omega)
  have HLO := Lib.hid (show DkV.load n l = (if ((DkV.fresh n).loadL l).2 ≠ 0 then (none, ((DkV.fresh n).loadL l).2) else if n < (((DkV.fresh n).loadL l).1.taken : Int) then (none, 12) else (some { ((DkV.fresh n).loadL l).1 with fo := ((DkV.fresh n).loadL l).1.fo.sync }, 0)) from by unfold DkV.load; rw [if_neg hn, if_neg h64])
  unfold DkV.rcs at hW
  unfold DkV.rcs
  go_wp2_with (rw [hb6, hW])
  have hsc : (DkV.fresh n).sec = n := rfl
  obtain ⟨Q0, hQ0⟩ : ∃ Q0, DkV.fresh n = Q0 := ⟨_, rfl⟩
  rw [hQ0] at HD HLO hsc
  clear hW hQ0
  go_loopw [8] (fun v8 wr => ∃ (k : Nat) (Q : DkV) (tv sl : Value), k ≤ l.length ∧ v8 = .int .i64 (k : Int) ∧ Ldg (fun j => G j ∨ j = b6) w1 wr b6 Q k tv sl ∧ Q0.loadL l = Q.loadL (l.drop k) ∧ Q.sec = n) (fun v8 _ => l.length - (intOf v8).toNat)
  case atStart => exact ⟨0, _, _, _, Nat.zero_le _, rfl, HD.out, rfl, hsc⟩
  case round =>
    clear HD hsc
    obtain ⟨k, Q, tv, sl, hk, rfl, hh, hll, hsc⟩ := hrel
    have H := Lib.hid hh
    have HLL := Lib.hid hll
    have hzr := hh.ex.size
    have HXr := Lib.hid (HX1.out.trans hh.ex)
    have HBr := Lib.hid (HB1.out.ex hh.ex)
    obtain ⟨sB, sn, sd, rfl⟩ := hh.ls.shape
    obtain ⟨tA, tc, rfl, _⟩ := own_shape hh.own
    obtain ⟨x0, x1, x2, x3, x4, x5, x6, x7⟩ := rd_cells hh.blk
    clear hll
    by_cases hlt : k < l.length
    · obtain ⟨fb, fo, rfl, c1o, c2o⟩ := HRW.out.fl hlt
      have hfz := HL.out _ (List.getElem_mem hlt)
      have HDC := Lib.hid (show Q0.loadL l = Q.loadL (l[k] :: l.drop (k + 1)) from by rw [HLL.out, drop_cons hlt])
      have c1 := hh.ex.cell c1o
      have c2 := hh.ex.cell c2o
      have hkI : (k : Int) < (l.length : Int) := by omega
      have hk0 : (0 : Int) ≤ (k : Int) := by omega
      have hkn : ((k : Int)).toNat = k := by omega
      clear hh
      generalize l[k] = f at *
      obtain ⟨nm, dt⟩ := f
      simp only at c1o c2o c1 c2 hfz HDC
      have hnm := hfz.1
      have hdt := hfz.2
      go_wp2_with fail
      refine (rmay_calls nm _ hnm).mono ?_
      rintro e w4 ⟨rfl, hb4⟩
      have H4 := Lib.hid (H.out.grow hb4)
      have HX4 := Lib.hid (HXr.out.trans hb4)
      have HB4 := Lib.hid (HBr.out.ex hb4)
      have c14 := hb4.cell c1
      have c24 := hb4.cell c2
      clear x0 x1 x2 x3 x4 x5 x6 x7 hb4 c1 c2
      obtain ⟨x0, x1, x2, x3, x4, x5, x6, x7⟩ := rd_cells H4.out.blk
      cases hmay : mayB nm
      · have HE := Lib.hid (show DkV.load n l = (none, 7) from by rw [HLO.out, HDC.out]; unfold DkV.loadL; rw [if_pos hmay]; rfl)
        go_wp2_with (refine st_agg 40 rfl (.tmp 4) (.tmp 37) rfl w.heap.size zeroD zeroD rfl rfl info_d11 rfl HZO.out HB4.out HX4.out hle ?_; intro wz kz Xz gz)
        (try simp only [Exit.inBlock, Exit.then])
        refine bodyPost_ret (ret_agg2 rfl _ _ w.heap.size zeroD rfl kz Tryz.underlying40 info_d11) rfl ?_
        exact loadD_no HE.out Xz
      have hkm : k ≤ 1000000 := by omega
      have hkw : IntKind.i64.wrap ((k : Int) + 1) = (k : Int) + 1 := IntWalk.i64_in _ (by omega)
      have HG4 := Lib.hid (H4.out.lt HGW.out)
      have HCP := Lib.hid (fun (W : World) (hE : Ex w4 W) => rfput_calls (F := Fresh (fun j => (G j ∨ j = b6) ∨ (Value.slice tA k tc).ownBlock = some j) w4 W) nm ((k : Int) + 1) (H4.out.ls.fresh (hE.off _)) H.out.ok.fo hkm (fun j hj => by rcases hj with hj | hj; exact Nat.lt_of_lt_of_le (HG4.out j hj) hE.size; exact hj.2))
      have hn91 : ¬ w4.heap.size = b6 := by have := H4.out.blk.lt; omega
      have hn92 : ¬ b6 = w4.heap.size := by omega
      have hfb4 := World.block_lt_of_cell? w4 _ c14
      simp only at hfb4
      have hn93 : ¬ w4.heap.size = fb := by omega
      have hn94 : ¬ fb = w4.heap.size := by omega
      have hfb6 : fb < b6 := by have := World.block_lt_of_cell? w1 _ c1o; simp only at this; omega
      have hnfb0 : ¬ fb = b6 := by omega
      go_wp2_with fail
      go_region_held3 (fun w' => w'.cell? ⟨b6, 2, none⟩ = some (.slice sB sn sd) ∧ w'.cell? ⟨fb, fo + k * 2, none⟩ = some (.string nm)) (go_keep) ((go_at_call 51; ((with_reducible refine (HCP.out _ ?hE).mono ?_); (case hE => first | exact (Ex.refl w4).drew | exact ex_alloc (Ex.refl w4).drew _); rintro e w5 ⟨sl5, rfl, hl5, hb5⟩; obtain ⟨sB5, sn5, sd5, rfl⟩ := hl5.shape; have HL5 := Lib.hid hl5; (first | (have HX5 := Lib.hid (Ex.trans (Ex.refl w4).drew hb5)) | (have HX5 := Lib.hid (Ex.trans (ex_alloc (Ex.refl w4).drew _) hb5); have hb9 := (Blk.new w4.drew [.slice none 0 0] 36).ex hb5; have z9 : w5.cell? ⟨w4.heap.size, 0, none⟩ = some (.slice none 0 0) := hb9.cell 0; have z9f : w5.frozen? ⟨w4.heap.size, 0, none⟩ = false := hb9.frozen 0; have HB9 := Lib.hid hb9; clear hb9)); clear hl5 hb5; have y2 := HX5.out.cell x2; have y1 := HX5.out.cell c14)))
      · have hE := ex_alloc HX5.out (.cells #[.slice sB5 sn5 sd5] 36)
        have hB9 := Blk.new w5 [.slice sB5 sn5 sd5] 36
        have hL := (HL5.out.ex (ex_alloc (Ex.refl w5) (.cells #[.slice sB5 sn5 sd5] 36))).less (F := fun j => (G j ∨ j = b6) ∨ (Value.slice tA k tc).ownBlock = some j) (fun j hj => .inl hj)
        obtain ⟨b9, hb9⟩ : ∃ b9, w5.heap.size = b9 := ⟨_, rfl⟩
        rw [hb9] at hB9 ⊢
        generalize (w5.alloc (.cells #[.slice sB5 sn5 sd5] 36)) = W5 at *
        have HD5 := Lib.hid (H4.out.grow hE)
        have HXX := Lib.hid (HX4.out.trans hE)
        have HBB := Lib.hid (HB4.out.ex hE)
        have HLL5 := Lib.hid hL
        have HEE := Lib.hid hE
        have z9 := hB9.cell 0
        have c15 := hE.cell c14
        have c25 := hE.cell c24
        clear hL hB9 x0 x1 x2 x3 x4 x5 x6 x7 hE
        obtain ⟨x0, x1, x2, x3, x4, x5, x6, x7⟩ := rd_cells HD5.out.blk
        cases hfn : (findM nm Q.fo.now).2
        · rw [show (Q.fo.put nm ((k : Int) + 1)).2 = true from by unfold FoV.put; rw [if_neg (by rw [hfn]; simp)]]
          have HFN := Lib.hid hfn
          have hf2 : 2 + 1 ≤ 8 := by decide
          clear hfn
          go_wp2_with (refine st_at 36 40 rfl (.tmp 55) (.tmp 54) rfl b6 2 _ (Q.rcs (.slice tA k tc) (.slice sB5 sn5 sd5)) [.slice sB5 sn5 sd5] _ rfl rfl HD5.out.blk rfl info_f9 rfl hf2 (one_sl _ _ _) HXX.out (Nat.le_of_lt hw6) ?_; intro w6 k6 X6 g6; have HK6 := Lib.hid k6; have HX6 := Lib.hid X6; have HG6 := Lib.hid (off_grown g6); clear k6 X6 g6)
          have HOW := Lib.hid (own_off HD5.out.own HG6.out (fun j hj e => by have := (HD5.out.own.lt j hj).1; omega))
          have HNO := Lib.hid (show some b6 ≠ (Value.slice tA k tc).ownBlock from fun e => by have := (HD5.out.own.lt b6 e.symm).1; omega)
          have HZ6 := Lib.hid (show b6 + 1 ≤ (w6.alloc (.cells #[.string dt, .string dt] 110)).heap.size from by have := (HK6.out.ex (ex_alloc (Ex.refl w6) (.cells #[.string dt, .string dt] 110))).lt; omega)
          have hml : k + 1 ≤ maxLen := by unfold maxLen; omega
          have hkb : (k + 1) * 32 ≤ 140737488355328 := by omega
          obtain ⟨i0, hi0, hz0, hz1, hz2⟩ := info_parts info_t7
          have hnfb : ¬ fb = b6 := hnfb0
          have c26 := HG6.out.cell c25 hnfb
          have hca := (ex_alloc (Ex.refl w6) (.cells #[.string dt, .string dt] 110)).cell c26
          clear c15 c25 x0 x1 x2 x3 x4 x5 x6 x7 z9
          have x1 : w6.cell? ⟨b6, 1, none⟩ = some (.slice tA k tc) := HK6.out.cell 1
          have hcb := (ex_alloc (Ex.refl w6) (.cells #[.string dt, .string dt] 110)).cell x1
          go_wp2_with fail
          go_region_law (refine step_append_row _ rfl (.tmp 57) (.tmp 69) 33 rfl (b6 + 1) 110 i0 _ 2 32 Tryz.underlying33 hi0 hz0 hz1 hz2 rfl (by decide) (.slice tA k tc) k (Q.tapes.flatMap TpV.rs) ?hs1 (own_ex (w := w6) HOW.out ?hb1) (some ⟨w6.heap.size, 0, none⟩) 1 1 ([(⟨dt, dt⟩ : TpV)].flatMap TpV.rs) ?hx1 ?hr1 (tps_one _) hml hkb ?hbase ?_; (case hs1 => go_simp); (case hx1 => go_simp); (case hb1 => first | exact (ex_alloc (Ex.refl w6) _).drew | exact ex_alloc (Ex.refl w6).drew _); (case hr1 => first | exact row_t (w := w6) | exact row_t (w := w6.drew)); (case hbase => exact HZ6.out); intro v7 w7 ho7 hg7 hn7; obtain ⟨A7, c7, rfl, _⟩ := own_shape ho7; have HWA := Lib.hid (show WaR w6 w7 (.slice tA k tc) (.slice A7 (k + 1) c7) from ⟨_, (by first | exact (ex_alloc (Ex.refl w6) _).drew | exact ex_alloc (Ex.refl w6).drew _), hg7, hn7⟩); have HK7 := Lib.hid (HK6.out.wa HWA.out HNO.out); have y1 : w7.cell? ⟨b6, 1, none⟩ = some (.slice tA k tc) := HK7.out.cell 1; have yf : w7.frozen? ⟨b6, 1, none⟩ = false := HK7.out.frozen 1; have HO7 := Lib.hid ho7; clear ho7 hg7 hn7)
          all_goals go_wp2_with fail
          all_goals refine ⟨⟨k + 1, Q.add nm ⟨dt, dt⟩, _, _, by omega, by go_num, H4.out.add2 (w1 := W5) (.inr rfl) hb1z hnm hdt hkm HFN.out HEE.out HLL5.out HG6.out HWA.out HO7.out HK7.out, ?_, hsc⟩, by simp [intOf]; omega⟩
          all_goals rw [HDC.out]; exact (if_neg (by rw [hmay]; decide)).trans (if_neg (by rw [HFN.out]; decide))
        · rw [show (Q.fo.put nm ((k : Int) + 1)).2 = false from by unfold FoV.put; rw [if_pos hfn]]
          have HE := Lib.hid (show DkV.load n l = (none, 17) from by rw [HLO.out, HDC.out]; unfold DkV.loadL; simp only [hmay, hfn]; rfl)
          clear hfn
          go_wp2_with (refine st_agg 40 rfl (.tmp 4) (.tmp 53) rfl w.heap.size zeroD zeroD rfl rfl info_d11 rfl HZO.out HBB.out HXX.out hle ?_; intro wz kz Xz gz)
          (try simp only [Exit.inBlock, Exit.then])
          refine bodyPost_ret (ret_agg2 rfl _ _ w.heap.size zeroD rfl kz Tryz.underlying40 info_d11) rfl ?_
          exact loadD_no HE.out Xz
      · obtain ⟨b9, hb9⟩ : ∃ b9, w4.heap.size = b9 := ⟨_, rfl⟩
        have hE := (((HX5.out.off (fun j => j = b9)).trans (off_set w5 b9 0 (.slice sB5 sn5 sd5))).ex fun j hj (e : j = b9) => by omega)
        have hB9 : Blk (w5.setCell ⟨b9, 0, none⟩ (.slice sB5 sn5 sd5)) b9 36 [.slice sB5 sn5 sd5] := by
          have := HB9.out.setCell (i := 0) (.slice sB5 sn5 sd5)
          rw [show w4.drew.heap.size = b9 from hb9] at this
          exact this
        have hL := (HL5.out.offs (off_set w5 b9 0 (.slice sB5 sn5 sd5)) (fun j (e : j = b9) => .inr ⟨by omega, by subst e; subst hb9; simp⟩)).less (F := fun j => (G j ∨ j = b6) ∨ (Value.slice tA k tc).ownBlock = some j) (fun j hj => .inl hj)
        rw [hb9] at ⊢
        clear HX5 HB9 HL5 z9 z9f y1 y2
        generalize (w5.setCell ⟨b9, 0, none⟩ (.slice sB5 sn5 sd5)) = W5 at *
        have HD5 := Lib.hid (H4.out.grow hE)
        have HXX := Lib.hid (HX4.out.trans hE)
        have HBB := Lib.hid (HB4.out.ex hE)
        have HLL5 := Lib.hid hL
        have HEE := Lib.hid hE
        have z9 := hB9.cell 0
        have c15 := hE.cell c14
        have c25 := hE.cell c24
        clear hL hB9 x0 x1 x2 x3 x4 x5 x6 x7 hE
        obtain ⟨x0, x1, x2, x3, x4, x5, x6, x7⟩ := rd_cells HD5.out.blk
        cases hfn : (findM nm Q.fo.now).2
        · rw [show (Q.fo.put nm ((k : Int) + 1)).2 = true from by unfold FoV.put; rw [if_neg (by rw [hfn]; simp)]]
          have HFN := Lib.hid hfn
          have hf2 : 2 + 1 ≤ 8 := by decide
          clear hfn
          go_wp2_with (refine st_at 36 40 rfl (.tmp 55) (.tmp 54) rfl b6 2 _ (Q.rcs (.slice tA k tc) (.slice sB5 sn5 sd5)) [.slice sB5 sn5 sd5] _ rfl rfl HD5.out.blk rfl info_f9 rfl hf2 (one_sl _ _ _) HXX.out (Nat.le_of_lt hw6) ?_; intro w6 k6 X6 g6; have HK6 := Lib.hid k6; have HX6 := Lib.hid X6; have HG6 := Lib.hid (off_grown g6); clear k6 X6 g6)
          have HOW := Lib.hid (own_off HD5.out.own HG6.out (fun j hj e => by have := (HD5.out.own.lt j hj).1; omega))
          have HNO := Lib.hid (show some b6 ≠ (Value.slice tA k tc).ownBlock from fun e => by have := (HD5.out.own.lt b6 e.symm).1; omega)
          have HZ6 := Lib.hid (show b6 + 1 ≤ (w6.alloc (.cells #[.string dt, .string dt] 110)).heap.size from by have := (HK6.out.ex (ex_alloc (Ex.refl w6) (.cells #[.string dt, .string dt] 110))).lt; omega)
          have hml : k + 1 ≤ maxLen := by unfold maxLen; omega
          have hkb : (k + 1) * 32 ≤ 140737488355328 := by omega
          obtain ⟨i0, hi0, hz0, hz1, hz2⟩ := info_parts info_t7
          have hnfb : ¬ fb = b6 := hnfb0
          have c26 := HG6.out.cell c25 hnfb
          have hca := (ex_alloc (Ex.refl w6) (.cells #[.string dt, .string dt] 110)).cell c26
          clear c15 c25 x0 x1 x2 x3 x4 x5 x6 x7 z9
          have x1 : w6.cell? ⟨b6, 1, none⟩ = some (.slice tA k tc) := HK6.out.cell 1
          have hcb := (ex_alloc (Ex.refl w6) (.cells #[.string dt, .string dt] 110)).cell x1
          go_wp2_with fail
          go_region_law (refine step_append_row _ rfl (.tmp 57) (.tmp 69) 33 rfl (b6 + 1) 110 i0 _ 2 32 Tryz.underlying33 hi0 hz0 hz1 hz2 rfl (by decide) (.slice tA k tc) k (Q.tapes.flatMap TpV.rs) ?hs1 (own_ex (w := w6) HOW.out ?hb1) (some ⟨w6.heap.size, 0, none⟩) 1 1 ([(⟨dt, dt⟩ : TpV)].flatMap TpV.rs) ?hx1 ?hr1 (tps_one _) hml hkb ?hbase ?_; (case hs1 => go_simp); (case hx1 => go_simp); (case hb1 => first | exact (ex_alloc (Ex.refl w6) _).drew | exact ex_alloc (Ex.refl w6).drew _); (case hr1 => first | exact row_t (w := w6) | exact row_t (w := w6.drew)); (case hbase => exact HZ6.out); intro v7 w7 ho7 hg7 hn7; obtain ⟨A7, c7, rfl, _⟩ := own_shape ho7; have HWA := Lib.hid (show WaR w6 w7 (.slice tA k tc) (.slice A7 (k + 1) c7) from ⟨_, (by first | exact (ex_alloc (Ex.refl w6) _).drew | exact ex_alloc (Ex.refl w6).drew _), hg7, hn7⟩); have HK7 := Lib.hid (HK6.out.wa HWA.out HNO.out); have y1 : w7.cell? ⟨b6, 1, none⟩ = some (.slice tA k tc) := HK7.out.cell 1; have yf : w7.frozen? ⟨b6, 1, none⟩ = false := HK7.out.frozen 1; have HO7 := Lib.hid ho7; clear ho7 hg7 hn7)
          all_goals go_wp2_with fail
          all_goals refine ⟨⟨k + 1, Q.add nm ⟨dt, dt⟩, _, _, by omega, by go_num, H4.out.add2 (w1 := W5) (.inr rfl) hb1z hnm hdt hkm HFN.out HEE.out HLL5.out HG6.out HWA.out HO7.out HK7.out, ?_, hsc⟩, by simp [intOf]; omega⟩
          all_goals rw [HDC.out]; exact (if_neg (by rw [hmay]; decide)).trans (if_neg (by rw [HFN.out]; decide))
        · rw [show (Q.fo.put nm ((k : Int) + 1)).2 = false from by unfold FoV.put; rw [if_pos hfn]]
          have HE := Lib.hid (show DkV.load n l = (none, 17) from by rw [HLO.out, HDC.out]; unfold DkV.loadL; simp only [hmay, hfn]; rfl)
          clear hfn
          go_wp2_with (refine st_agg 40 rfl (.tmp 4) (.tmp 53) rfl w.heap.size zeroD zeroD rfl rfl info_d11 rfl HZO.out HBB.out HXX.out hle ?_; intro wz kz Xz gz)
          (try simp only [Exit.inBlock, Exit.then])
          refine bodyPost_ret (ret_agg2 rfl _ _ w.heap.size zeroD rfl kz Tryz.underlying40 info_d11) rfl ?_
          exact loadD_no HE.out Xz
    · have hkl : k = l.length := by omega
      have HLE := Lib.hid (show Q0.loadL l = (Q, 0) from by rw [HLL.out, hkl, List.drop_length]; rfl)
      have HRd := Lib.hid (hh.rd HGW.out)
      have HGr := Lib.hid (fun j (hj : G j ∨ j = b6) => hh.lt HGW.out j (.inl hj))
      have hsn : Q.sec = n := hsc
      have hkm : k ≤ 1000000 := by omega
      have htl : Q.tapes.length ≤ 1000000 := by rw [H.out.len]; exact hkm
      have hs1 : 0 ≤ Q.sec := by omega
      have hs2 : Q.sec ≤ 4096 := by omega
      have hzt : ∀ t ∈ Q.tapes, t.kp.size ≤ 8000000 ∧ t.nw.size ≤ 8000000 := fun t ht => by have := H.out.ok.tz t ht; omega
      have hcf := rfree_calls HRd.out H.out.ok.fo hkm H.out.iz htl hs1 hs2 hzt HGr.out
      unfold DkV.rcs at hcf
      have HCF := Lib.hid hcf
      have HSN := Lib.hid hsn
      clear hh HLL hcf hzt hsn hsc hkl
      go_wp2_with fail
      refine HCF.out.mono ?_
      rintro e w2 ⟨rfl, hb2⟩
      have HX2 := Lib.hid (HXr.out.trans hb2)
      have HB2 := Lib.hid (HBr.out.ex hb2)
      have HR2 := Lib.hid (HRd.out.ex hb2)
      have HK2 := Lib.hid (H.out.blk.ex hb2)
      have HG2 := Lib.hid (fun j hj => Nat.lt_of_lt_of_le (HGr.out j hj) hb2.size)
      clear x0 x1 x2 x3 x4 x5 x6 x7 hb2
      obtain ⟨x0, x1, x2, x3, x4, x5, x6, x7⟩ := rd_cells HK2.out
      by_cases htk : n < (Q.taken : Int)
      · have HE := Lib.hid (show DkV.load n l = (none, 12) from by rw [HLO.out, HLE.out, if_neg (fun h => h rfl), if_pos htk])
        have d0 : decide (Q.sec - (Q.taken : Int) < 0) = true := decide_eq_true (by have := HSN.out; omega)
        clear htk
        go_wp2_with (refine st_agg 40 rfl (.tmp 4) (.tmp 75) rfl w.heap.size zeroD zeroD rfl rfl info_d11 rfl HZO.out HB2.out HX2.out hle ?_; intro wz kz Xz gz)
        (try simp only [Exit.inBlock, Exit.then])
        refine bodyPost_ret (ret_agg2 rfl _ _ w.heap.size zeroD rfl kz Tryz.underlying40 info_d11) rfl ?_
        exact loadD_no HE.out Xz
      · have HE := Lib.hid (show DkV.load n l = (some { Q with fo := Q.fo.sync }, 0) from by rw [HLO.out, HLE.out, if_neg (fun h => h rfl), if_neg htk])
        have d0 : decide (Q.sec - (Q.taken : Int) < 0) = false := decide_eq_false (by have := HSN.out; omega)
        have hsy : Q.fo.ch.length ≤ 1000000 := by have := H.out.ok.fo.kl; omega
        have hf2 : 2 + 1 ≤ 8 := by decide
        have hw6' : w.heap.size ≤ b6 := by omega
        have HNE := Lib.hid (ne_some (show w.heap.size ≠ b6 by omega))
        have HOD := Lib.hid (disk_one (⟨Q.sec, Q.tapes, Q.fo.sync, Q.fu, Q.calls⟩ : DkV))
        clear htk
        go_wp2_with fail
        refine (rfsync_calls (F := fun j => G j ∨ j = b6) HR2.out.fo hsy HG2.out).mono ?_
        rintro e w3 ⟨sl3, rfl, hl3, hb3⟩
        obtain ⟨sB3, sn3, sd3, rfl⟩ := hl3.shape
        have HX3 := Lib.hid (HX2.out.trans hb3)
        have HB3 := Lib.hid (HB2.out.ex hb3)
        have HR3 := Lib.hid (show RdV (fun j => G j ∨ j = b6) w3 (⟨Q.sec, Q.tapes, Q.fo.sync, Q.fu, Q.calls⟩ : DkV) (.slice tA k tc) (.slice sB3 sn3 sd3) from ⟨HR2.out.tp.ex hb3, hl3⟩)
        have HK3 := Lib.hid (HK2.out.ex hb3)
        clear x0 x1 x2 x3 x4 x5 x6 x7 hb3 hl3
        go_wp2_with (first
          | (refine st_at 36 40 rfl (.tmp 79) (.tmp 78) rfl b6 2 _ ((⟨Q.sec, Q.tapes, Q.fo.sync, Q.fu, Q.calls⟩ : DkV).rcs (.slice tA k tc) (.slice sB3 sn3 sd3)) [.slice sB3 sn3 sd3] _ rfl rfl HK3.out rfl info_f9 rfl hf2 (one_sl _ _ _) HX3.out hw6' ?_; intro w6 k6 X6 g6; have HX6 := Lib.hid X6; have HB6 := Lib.hid (HB3.out.grown g6 HNE.out); have HR6 := Lib.hid (HR3.out.offs (off_grown g6) (fun j (e : j = b6) => .inr e)); obtain ⟨x0, x1, x2, x3, x4, x5, x6, x7⟩ := rd_cells (Q := (⟨Q.sec, Q.tapes, Q.fo.sync, Q.fu, Q.calls⟩ : DkV)) (tv := .slice tA k tc) (sl := .slice sB3 sn3 sd3) k6; clear k6 X6 g6)
          | (refine st_agg 40 rfl (.tmp 4) (.tmp 80) rfl w.heap.size zeroD ((⟨Q.sec, Q.tapes, Q.fo.sync, Q.fu, Q.calls⟩ : DkV).rcs (.slice tA k tc) (.slice sB3 sn3 sd3)) rfl rfl info_d11 rfl (HOD.out _ _ _ _ _ _) HB6.out HX6.out hle ?_; intro wz kz Xz gz))
        (try simp only [Exit.inBlock, Exit.then])
        refine bodyPost_ret (ret_agg2 rfl _ _ w.heap.size ((⟨Q.sec, Q.tapes, Q.fo.sync, Q.fu, Q.calls⟩ : DkV).rcs (.slice tA k tc) (.slice sB3 sn3 sd3)) rfl kz Tryz.underlying40 info_d11) rfl ?_
        exact loadD_yes (Q := (⟨Q.sec, Q.tapes, Q.fo.sync, Q.fu, Q.calls⟩ : DkV)) HE.out ((HR6.out.offs (off_grown gz) (fun j (e : j = w.heap.size) => .inl (by rw [e]; exact HG0.out))).less fun j hj => .inl (HG.out.of _ hj)) Xz
end Go.Proofs.YtomfcgeibbicoaaGreat
