/- Calls of styluslaw11; both disks within a call. -/
import Derived.Test.YtcffkmlnbnjibaaGreatPyA
import Derived.Test.YtcffkmlnbnjibaaGreatRfQ
import Derived.Test.YtcffkmlnbnjibaaGreatDkF
namespace Go.Proofs.YtcffkmlnbnjibaaGreat
open Go.RowKit Go.Maps
/-- The first bytes of a text. -/
def fewS (s : ByteArray) : ByteArray := if 200 < s.size then s.extract 0 200 else s
theorem fewS_size (s : ByteArray) : (fewS s).size ≤ 200 := by
  unfold fewS
  split
  · rw [ByteArray.size_extract]; omega
  · omega
theorem few11_calls (s : ByteArray) (w : World) (hs : s.size ≤ 9223372036854775807) : Calls Tryz.prog 90 #[.string s] w fun e w' => e = .returned (.string (fewS s)) ∧ Ex w w' := by
  by_cases h : 200 < s.size
  · have d1 : decide ((200 : Int) < (s.size : Int)) = true := decide_eq_true (by omega)
    have he : fewS s = s.extract 0 200 := by unfold fewS; rw [if_pos h]
    rw [he]
    go_enter Tryz.func90, Tryz.ntmps90
    go_wp2_with fail
    go_ret
    exact ⟨rfl, Ex.refl _⟩
  · have d1 : decide ((200 : Int) < (s.size : Int)) = false := decide_eq_false (by omega)
    have he : fewS s = s := by unfold fewS; rw [if_neg h]
    rw [he]
    go_enter Tryz.func90, Tryz.ntmps90
    go_wp2_with fail
    go_ret
    exact ⟨rfl, Ex.refl _⟩
/-- A call: its kind, a number, two texts, a fault. -/
structure OpV where
  k : Int
  n : Int
  s : ByteArray
  t : ByteArray
  fk : Int
  fa : Int
def OpV.cs (o : OpV) : List Value := [.int .i64 o.k, .int .i64 o.n, .string o.s, .string o.t, .int .i64 o.fk, .int .i64 o.fa]
def OpV.agg (o : OpV) : Value := .agg #[.int .i64 o.k, .int .i64 o.n, .string o.s, .string o.t, .int .i64 o.fk, .int .i64 o.fa]
structure OpV.ok (o : OpV) : Prop where
  k1 : -9223372036854775808 ≤ o.k
  k2 : o.k ≤ 9223372036854775807
  n1 : -9223372036854775808 ≤ o.n
  n2 : o.n ≤ 9223372036854775807
  s : o.s.size ≤ 9223372036854775807
  t : o.t.size ≤ 9223372036854775807
  f1 : o.fk ≤ 9223372036854775807
  f2 : o.fa ≤ 9223372036854775807
/-- What a call makes of a disk. -/
def DkV.chg (Q : DkV) (o : OpV) : DkV :=
  if o.k = 0 then (Q.create o.s).1 else if o.k = 1 then (Q.append o.s (fewS o.t)).1 else if o.k = 2 then (Q.cutT o.s o.n).1 else
    if o.k = 4 then (Q.rename o.s o.t).1 else if o.k = 5 then (Q.remove o.s).1 else Q
def DkV.stp (Q : DkV) (o : OpV) : DkV :=
  if o.k = 3 then (Q.syncT o.s).1 else if o.k = 6 then Q.syncAll.1 else if o.k = 7 then Q else
    if o.k = 8 then (Q.fault o.fk o.fa).1 else if o.k = 9 then (Q.crash (fewS o.t)).1 else Q.chg o
theorem chg_ok {Q : DkV} {M : Nat} {o : OpV} (h : Q.Ok M) (hM : M ≤ 900000) (ho : o.ok) : (Q.chg o).Ok (M + 2) := by
  unfold DkV.chg
  split
  · exact create_ok h hM ho.s
  · split
    · exact (append_ok h).up (by omega)
    · split
      · exact (cutT_ok h).up (by omega)
      · split
        · exact rename_ok h ho.s ho.t
        · split
          · exact remove_ok h ho.s
          · exact h.up (by omega)
theorem stp_ok {Q : DkV} {M : Nat} {o : OpV} (h : Q.Ok M) (hM : M ≤ 900000) (ho : o.ok) : (Q.stp o).Ok (M + 2) := by
  unfold DkV.stp
  split
  · exact (syncT_ok h).up (by omega)
  · split
    · exact (syncAll_ok h).up (by omega)
    · split
      · exact h.up (by omega)
      · split
        · exact (fault_ok h ho.f2).up (by omega)
        · split
          · exact (crash_ok h _).up (by omega)
          · exact chg_ok h hM ho
/-- Both disks within a call: the program's one is g with the blocks F; the document's one lies in b; the call in b5; the result in b6. -/
structure Hf (w0 w : World) (g b b5 b6 : Nat) (F0 F D : Nat → Prop) (Qp Qd : DkV) (tv sl : Value) (o : OpV) : Prop where
  dk : DkP w g F Qp
  doc : RdV (fun k => F k ∨ D k) w Qd tv sl
  cell : Blk w b 59 (Qd.rcs tv sl)
  op : Blk w b5 68 o.cs
  res : Blk w b6 59 zeroD
  lt : ∀ k, F k → k < w.heap.size
  dlt : ∀ k, D k → k < w.heap.size
  nb : ¬ F b
  nb5 : ¬ F b5
  nb6 : ¬ F b6
  db : D b
  d6 : D b6
  b0 : w0.heap.size ≤ b
  b60 : w0.heap.size ≤ b6
  h5 : b5 = b + 1
  h6 : b6 = b + 2
  off : Off F0 w0 w
  new : ∀ k, F k → F0 k ∨ w0.heap.size ≤ k
section
variable {w0 w w' w'' : World} {g b b5 b6 : Nat} {F0 F D : Nat → Prop} {Qp Qd Qp' Qd' : DkV} {tv sl tv' sl' : Value} {o : OpV}
theorem Hf.grow (h : Hf w0 w g b b5 b6 F0 F D Qp Qd tv sl o) (hb : Ex w w') : Hf w0 w' g b b5 b6 F0 F D Qp Qd tv sl o :=
  { h with dk := h.dk.ex hb, doc := h.doc.ex hb, cell := h.cell.ex hb, op := h.op.ex hb, res := h.res.ex hb, lt := fun k hk => Nat.lt_of_lt_of_le (h.lt k hk) hb.size, dlt := fun k hk => Nat.lt_of_lt_of_le (h.dlt k hk) hb.size, off := h.off.trans (hb.off F0) }
theorem Hf.all (h : Hf w0 w g b b5 b6 F0 F D Qp Qd tv sl o) : ∀ k, (F k ∨ D k) → k < w.heap.size := fun k hk => hk.elim (h.lt k) (h.dlt k)
theorem Hf.prog (h : Hf w0 w g b b5 b6 F0 F D Qp Qd tv sl o) (hd : DkP w' g (Fresh F w w') Qp') (ho : Off F w w') : Hf w0 w' g b b5 b6 F0 (Fresh F w w') D Qp' Qd tv sl o := by
  have hz := h.off.size
  have nf : ∀ k, ¬ F k → k < w.heap.size → ¬ Fresh F w w' k := fun k hn hk hf => by
    rcases hf with hf | hf
    · exact hn hf
    · omega
  refine { h with dk := hd, doc := ?_, cell := h.cell.off ho h.nb, op := h.op.off ho h.nb5, res := h.res.off ho h.nb6, lt := fun k hk => ?_, dlt := fun k hk => Nat.lt_of_lt_of_le (h.dlt k hk) ho.size, nb := nf _ h.nb h.cell.lt, nb5 := nf _ h.nb5 h.op.lt, nb6 := nf _ h.nb6 h.res.lt, off := h.off.then ho (fun k hk hF => ?_), new := fun k hk => ?_ }
  · refine (h.doc.fresh (ho.mono fun k _ hk => .inl hk)).less fun k hk => ?_
    rcases hk with (hk | hk) | hk
    · exact .inl (.inl hk)
    · exact .inr hk
    · exact .inl (.inr hk)
  · rcases hk with hk | hk
    · exact Nat.lt_of_lt_of_le (h.lt k hk) ho.size
    · exact hk.2
  · rcases h.new k hF with h1 | h1
    · exact h1
    · omega
  · rcases hk with hk | hk
    · exact h.new k hk
    · exact .inr (by omega)
theorem Hf.stored (h : Hf w0 w g b b5 b6 F0 F D Qp Qd tv sl o) (hr : RdV (fun k => F k ∨ D k) w' Qd' tv' sl') (hX : Ex w w') (ho : Off (· = b) w' w'') (hB : Blk w'' b 59 (Qd'.rcs tv' sl')) : Hf w0 w'' g b b5 b6 F0 F D Qp Qd' tv' sl' o := by
  have h5 := h.h5
  have h6 := h.h6
  have hb0 := h.b0
  refine { h with dk := (h.dk.ex hX).off ho fun k _ hF e => h.nb (e ▸ hF), doc := hr.offs ho fun k hk => .inr (by rw [hk]; exact h.db), cell := hB, op := (h.op.ex hX).off ho (by omega), res := (h.res.ex hX).off ho (by omega), lt := fun k hk => Nat.lt_of_lt_of_le (h.lt k hk) (Nat.le_trans hX.size ho.size), dlt := fun k hk => Nat.lt_of_lt_of_le (h.dlt k hk) (Nat.le_trans hX.size ho.size), off := (h.off.trans (hX.off F0)).then ho fun k hk (e : k = b) => by omega }
end
/-- What a call of both gives: the document's disk, and that they do not part. -/
def ChR (w : World) (g : Nat) (F D : Nat → Prop) (Q : DkV) (w' : World) (e : Ending) : Prop :=
  ∃ tv sl F', e = .returned (.tuple #[.agg (Q.rcs tv sl).toArray, .bool true]) ∧ DkP w' g F' Q ∧ RdV (fun k => F' k ∨ D k) w' Q tv sl ∧ (∀ k, F' k → k < w'.heap.size) ∧ (∀ k, F' k → F k ∨ w.heap.size ≤ k) ∧ Off F w w'
theorem Hf.done {w0 w w' : World} {g b b5 b6 : Nat} {F0 F D D0 : Nat → Prop} {Q : DkV} {tv sl : Value} {o : OpV} (h : Hf w0 w g b b5 b6 F0 F D Q Q tv sl o) (hD : ∀ k, D0 k → D k) (ho : Off (· = b6) w w') {e : Ending} (he : e = .returned (.tuple #[.agg (Q.rcs tv sl).toArray, .bool true])) : ChR w0 g F0 D0 Q w' e := by
  have hb := h.b60
  exact ⟨tv, sl, F, he, h.dk.off ho (fun k _ hF e => h.nb6 (e ▸ hF)), (h.doc.offs ho fun k hk => .inr (by rw [hk]; exact h.d6)).less (fun k hk => hk.imp id (hD k)), fun k hk => Nat.lt_of_lt_of_le (h.lt k hk) ho.size, h.new, h.off.then ho fun k hk (e : k = b6) => by omega⟩
theorem Hf.begin {w : World} {g : Nat} {F D : Nat → Prop} {Q : DkV} {tv sl : Value} (o : OpV) (hP : DkP w g F Q) (hR : RdV (fun k => F k ∨ D k) w Q tv sl) (hF : ∀ k, F k → k < w.heap.size) (hD : ∀ k, D k → k < w.heap.size) :
    Hf w (((w.alloc (.cells (Q.rcs tv sl).toArray 59)).alloc (.cells o.cs.toArray 68)).alloc (.cells zeroD.toArray 59)) g w.heap.size (w.heap.size + 1) (w.heap.size + 2) F F (fun k => D k ∨ (w.heap.size ≤ k ∧ k < w.heap.size + 3)) Q Q tv sl o := by
  have hX := ex_3 w (.cells (Q.rcs tv sl).toArray 59) (.cells o.cs.toArray 68) (.cells zeroD.toArray 59)
  have hz : (((w.alloc (.cells (Q.rcs tv sl).toArray 59)).alloc (.cells o.cs.toArray 68)).alloc (.cells zeroD.toArray 59)).heap.size = w.heap.size + 3 := by simp
  have nf : ∀ k, w.heap.size ≤ k → ¬ F k := fun k hk hf => by have := hF k hf; omega
  refine ⟨hP.ex hX, ?_, (Blk.new w (Q.rcs tv sl) 59).ex (ex_two _ _ _), (blk_two w (.cells (Q.rcs tv sl).toArray 59) o.cs 68).ex (ex_alloc (Ex.refl _) _), ?_, fun k hk => Nat.lt_of_lt_of_le (hF k hk) hX.size, fun k hk => ?_, nf _ (by omega), nf _ (by omega), nf _ (by omega), .inr ⟨by omega, by omega⟩, .inr ⟨by omega, by omega⟩, Nat.le_refl _, by omega, rfl, rfl, hX.off F, fun k hk => .inl hk⟩
  · refine (hR.fresh (hX.off _)).less fun k hk => ?_
    rcases hk with hk | hk | hk
    · exact .inl (.inl hk)
    · exact .inl (.inr hk)
    · exact .inr ⟨hk.1, by omega⟩
  · exact blk_three w (.cells (Q.rcs tv sl).toArray 59) (.cells o.cs.toArray 68) zeroD 59
  · rcases hk with hk | hk
    · exact Nat.lt_of_lt_of_le (hD k hk) hX.size
    · omega
end Go.Proofs.YtcffkmlnbnjibaaGreat
namespace Go.Proofs.YtcffkmlnbnjibaaGreat
open Go.RowKit Go.Maps
structure RzC (w : World) (g : Nat) : Prop where
  x0 : w.cell? ⟨g, 0, none⟩ = some (.int .i64 0)
  x1 : w.cell? ⟨g, 1, none⟩ = some (.slice none 0 0)
  x2 : w.cell? ⟨g, 2, none⟩ = some (.slice none 0 0)
  x3 : w.cell? ⟨g, 3, none⟩ = some (.int .i64 0)
  x4 : w.cell? ⟨g, 4, none⟩ = some (.int .i64 0)
  x5 : w.cell? ⟨g, 5, none⟩ = some (.int .i64 0)
  x6 : w.cell? ⟨g, 6, none⟩ = some (.bool false)
  x7 : w.cell? ⟨g, 7, none⟩ = some (.int .i64 0)
theorem rz_cells {w : World} {g : Nat} {T : TypeId} (h : Blk w g T zeroD) : RzC w g := ⟨h.cell 0, h.cell 1, h.cell 2, h.cell 3, h.cell 4, h.cell 5, h.cell 6, h.cell 7⟩
theorem rz_list {w : World} {g : Nat} {T : TypeId} (h : Blk w g T zeroD) : Blk w g T [.int .i64 0, .slice none 0 0, .slice none 0 0, .int .i64 0, .int .i64 0, .int .i64 0, .bool false, .int .i64 0] := h
set_option maxHeartbeats 4000000 in
set_option maxRecDepth 100000 in
theorem chg0_calls {w : World} {g : Nat} {F D : Nat → Prop} {Q : DkV} {tv sl : Value} {M : Nat} (o : OpV) (hk : o.k = 0) (hok : o.ok) (hP : DkP w g F Q) (hR : RdV (fun k => F k ∨ D k) w Q tv sl) (ho : Q.Ok M) (hM : M ≤ 700000) (hF : ∀ k, F k → k < w.heap.size) (hD : ∀ k, D k → k < w.heap.size) :
    Calls Tryz.prog 91 #[ptrV g, .agg (Q.rcs tv sl).toArray, o.agg] w fun e w' => ChR w g F D (Q.chg o) w' e := by
  have hI := hP.idz
  have H0 := Lib.hid (Hf.begin o hP hR hF hD)
  have HX0 := Lib.hid (ex_3 w (.cells (Q.rcs tv sl).toArray 59) (.cells o.cs.toArray 68) (.cells zeroD.toArray 59))
  obtain ⟨tA, tc, sB, sn, sd, rfl, rfl⟩ := hR.shape
  obtain ⟨k, n, s, t, fk, fa⟩ := o
  obtain rfl : k = 0 := hk
  have hs : s.size ≤ 9223372036854775807 := hok.s
  have ht : t.size ≤ 9223372036854775807 := hok.t
  have hfs := fewS_size t
  obtain ⟨Q', qe, hq⟩ : ∃ Q' qe, Q.create s = (Q', qe) := ⟨_, _, rfl⟩
  have HE := Lib.hid (show Q.chg ⟨0, n, s, t, fk, fa⟩ = Q' from by rw [show Q.chg ⟨0, n, s, t, fk, fa⟩ = (Q.create s).1 from rfl, hq])
  have HCD := Lib.hid (fun (W : World) (hR : RdV (fun j => F j ∨ (D j ∨ (w.heap.size ≤ j ∧ j < w.heap.size + 3))) W Q (.slice tA Q.tapes.length tc) (.slice sB sn sd)) (hD : ∀ j, (F j ∨ (D j ∨ (w.heap.size ≤ j ∧ j < w.heap.size + 3))) → j < W.heap.size) => rcreate_calls s hR ho (by omega) hI hs hD)
  have HCP := Lib.hid (fun (W : World) (h : DkP W g F Q) => dcreate_calls h ho (by omega) s hs)
  rw [hq] at HCD HCP
  unfold DkV.rcs at HCD H0 HX0 ⊢
  clear hI hP hR ho hF hD hq
  generalize Q.tapes.length = tm at *
  unfold OpV.agg
  have hbw := Nat.le_refl w.heap.size
  go_enter Tryz.func91, Tryz.ntmps91
  go_wp2_with fail
  refine (few11_calls t _ ht).mono ?_
  rintro e w1 ⟨rfl, hb1⟩
  have H1 := Lib.hid (H0.out.grow hb1)
  have HX1 := Lib.hid (Ex.trans HX0.out hb1)
  obtain ⟨x0, x1, x2, x3, x4, x5, x6, x7⟩ := rd_cells H1.out.cell
  have p0 : w1.cell? ⟨w.heap.size + 1, 0, none⟩ = some (.int .i64 0) := H1.out.op.cell 0
  have p1 : w1.cell? ⟨w.heap.size + 1, 1, none⟩ = some (.int .i64 n) := H1.out.op.cell 1
  have p2 : w1.cell? ⟨w.heap.size + 1, 2, none⟩ = some (.string s) := H1.out.op.cell 2
  have p3 : w1.cell? ⟨w.heap.size + 1, 3, none⟩ = some (.string t) := H1.out.op.cell 3
  have p4 : w1.cell? ⟨w.heap.size + 1, 4, none⟩ = some (.int .i64 fk) := H1.out.op.cell 4
  have p5 : w1.cell? ⟨w.heap.size + 1, 5, none⟩ = some (.int .i64 fa) := H1.out.op.cell 5
  clear hb1
  go_wp2_with fail
  refine (HCD.out _ H1.out.doc H1.out.all).mono ?_
  rintro e w2 ⟨tv2, sl2, rfl, hR2, hX2⟩
  simp only at hR2
  obtain ⟨tA2, tc2, sB2, sn2, sd2, rfl, rfl⟩ := hR2.shape
  have HR2 := Lib.hid hR2
  have HXd2 := Lib.hid hX2
  have HX2 := Lib.hid (Ex.trans HX1.out hX2)
  have HB2 := Lib.hid (H1.out.cell.ex hX2)
  clear hR2 hX2
  generalize Q'.tapes.length = tm2 at *
  have HOn := Lib.hid (disk_one Q' tA2 tm2 tc2 sB2 sn2 sd2)
  unfold DkV.rcs at HOn ⊢
  go_wp2_with (refine st_agg 59 rfl (.tmp 4) (.tmp 22) rfl w.heap.size [.int .i64 Q.sec, .slice tA tm tc, .slice sB sn sd, .int .i64 Q.fu.p, .int .i64 Q.fu.s, .int .i64 Q.fu.d, .bool Q.fu.off, .int .i64 (Q.calls : Int)] [.int .i64 Q'.sec, .slice tA2 tm2 tc2, .slice sB2 sn2 sd2, .int .i64 Q'.fu.p, .int .i64 Q'.fu.s, .int .i64 Q'.fu.d, .bool Q'.fu.off, .int .i64 (Q'.calls : Int)] rfl rfl info_d11 rfl HOn.out HB2.out HX2.out hbw ?_; intro w3 k3 X3 g3; have H3 := Lib.hid (H1.out.stored (Qd' := Q') (tv' := .slice tA2 tm2 tc2) (sl' := .slice sB2 sn2 sd2) HR2.out HXd2.out (off_grown g3) k3); clear k3 X3 g3)
  obtain ⟨x0, x1, x2, x3, x4, x5, x6, x7⟩ := rd_cells H3.out.cell
  have p0 : w3.cell? ⟨w.heap.size + 1, 0, none⟩ = some (.int .i64 0) := H3.out.op.cell 0
  have p1 : w3.cell? ⟨w.heap.size + 1, 1, none⟩ = some (.int .i64 n) := H3.out.op.cell 1
  have p2 : w3.cell? ⟨w.heap.size + 1, 2, none⟩ = some (.string s) := H3.out.op.cell 2
  have p3 : w3.cell? ⟨w.heap.size + 1, 3, none⟩ = some (.string t) := H3.out.op.cell 3
  have p4 : w3.cell? ⟨w.heap.size + 1, 4, none⟩ = some (.int .i64 fk) := H3.out.op.cell 4
  have p5 : w3.cell? ⟨w.heap.size + 1, 5, none⟩ = some (.int .i64 fa) := H3.out.op.cell 5
  have hm1 : ¬ w.heap.size = w.heap.size + 2 := by omega
  have hm2 : ¬ w.heap.size + 2 = w.heap.size := by omega
  have hm3 : ¬ w.heap.size + 1 = w.heap.size + 2 := by omega
  have hm4 : ¬ w.heap.size + 2 = w.heap.size + 1 := by omega
  have hee : decide (qe = qe) = true := decide_eq_true rfl
  go_region_held3 (fun w' => w'.cell? ⟨w.heap.size, 0, none⟩ = some (.int .i64 Q'.sec) ∧ w'.cell? ⟨w.heap.size, 1, none⟩ = some (.slice tA2 tm2 tc2) ∧ w'.cell? ⟨w.heap.size, 2, none⟩ = some (.slice sB2 sn2 sd2) ∧ w'.cell? ⟨w.heap.size, 3, none⟩ = some (.int .i64 Q'.fu.p) ∧ w'.cell? ⟨w.heap.size, 4, none⟩ = some (.int .i64 Q'.fu.s) ∧ w'.cell? ⟨w.heap.size, 5, none⟩ = some (.int .i64 Q'.fu.d) ∧ w'.cell? ⟨w.heap.size, 6, none⟩ = some (.bool Q'.fu.off) ∧ w'.cell? ⟨w.heap.size, 7, none⟩ = some (.int .i64 (Q'.calls : Int)) ∧ w'.cell? ⟨w.heap.size + 1, 2, none⟩ = some (.string s)) (go_keep) ((go_at_call 11; ((with_reducible refine (HCP.out _ (H3.out.grow (Ex.refl w3).drew).dk).mono ?_); rintro e w4 ⟨rfl, hd4, ho4⟩; have H4 := Lib.hid ((H3.out.grow (Ex.refl w3).drew).prog (hd4) ho4); obtain ⟨x0, x1, x2, x3, x4, x5, x6, x7⟩ := rd_cells H4.out.cell; have p2 : w4.cell? ⟨w.heap.size + 1, 2, none⟩ = some (.string s) := H4.out.op.cell 2; obtain ⟨r0, r1, r2, r3, r4, r5, r6, r7⟩ := rz_cells H4.out.res; have f0 := H4.out.res.frozen 0; have f1 := H4.out.res.frozen 1; have f2 := H4.out.res.frozen 2; have f3 := H4.out.res.frozen 3; have f4 := H4.out.res.frozen 4; have f5 := H4.out.res.frozen 5; have f6 := H4.out.res.frozen 6; have f7 := H4.out.res.frozen 7; clear hd4 ho4)))
  go_wp2_with fail
  (try simp only [Exit.inBlock, Exit.then])
  refine bodyPost_ret (ret_agg2 rfl _ _ (w.heap.size + 2) [.int .i64 Q'.sec, .slice tA2 tm2 tc2, .slice sB2 sn2 sd2, .int .i64 Q'.fu.p, .int .i64 Q'.fu.s, .int .i64 Q'.fu.d, .bool Q'.fu.off, .int .i64 (Q'.calls : Int)] rfl (blk_set8 (rz_list H4.out.res) _ _ _ _ _ _ _ _) Tryz.underlying59 info_d11) rfl ?_
  rw [HE.out]
  exact H4.out.done (fun k hk => .inl hk) (off_set8 _ _ _ _ _ _ _ _ _ _) rfl
set_option maxHeartbeats 4000000 in
set_option maxRecDepth 100000 in
theorem chg1_calls {w : World} {g : Nat} {F D : Nat → Prop} {Q : DkV} {tv sl : Value} {M : Nat} (o : OpV) (hk : o.k = 1) (hok : o.ok) (hP : DkP w g F Q) (hR : RdV (fun k => F k ∨ D k) w Q tv sl) (ho : Q.Ok M) (hM : M ≤ 700000) (hF : ∀ k, F k → k < w.heap.size) (hD : ∀ k, D k → k < w.heap.size) :
    Calls Tryz.prog 91 #[ptrV g, .agg (Q.rcs tv sl).toArray, o.agg] w fun e w' => ChR w g F D (Q.chg o) w' e := by
  have hI := hP.idz
  have H0 := Lib.hid (Hf.begin o hP hR hF hD)
  have HX0 := Lib.hid (ex_3 w (.cells (Q.rcs tv sl).toArray 59) (.cells o.cs.toArray 68) (.cells zeroD.toArray 59))
  obtain ⟨tA, tc, sB, sn, sd, rfl, rfl⟩ := hR.shape
  obtain ⟨k, n, s, t, fk, fa⟩ := o
  obtain rfl : k = 1 := hk
  have hs : s.size ≤ 9223372036854775807 := hok.s
  have ht : t.size ≤ 9223372036854775807 := hok.t
  have hfs := fewS_size t
  obtain ⟨Q', qe, hq⟩ : ∃ Q' qe, Q.append s (fewS t) = (Q', qe) := ⟨_, _, rfl⟩
  have HE := Lib.hid (show Q.chg ⟨1, n, s, t, fk, fa⟩ = Q' from by rw [show Q.chg ⟨1, n, s, t, fk, fa⟩ = (Q.append s (fewS t)).1 from rfl, hq])
  have HCD := Lib.hid (fun (W : World) (hR : RdV (fun j => F j ∨ (D j ∨ (w.heap.size ≤ j ∧ j < w.heap.size + 3))) W Q (.slice tA Q.tapes.length tc) (.slice sB sn sd)) (hD : ∀ j, (F j ∨ (D j ∨ (w.heap.size ≤ j ∧ j < w.heap.size + 3))) → j < W.heap.size) => rappend_calls s (fewS t) hR ho (by omega) hI (by omega) hD)
  have HCP := Lib.hid (fun (W : World) (h : DkP W g F Q) => dappend_calls h ho (by omega) s (fewS t) hs (by omega))
  rw [hq] at HCD HCP
  unfold DkV.rcs at HCD H0 HX0 ⊢
  clear hI hP hR ho hF hD hq
  generalize Q.tapes.length = tm at *
  unfold OpV.agg
  have hbw := Nat.le_refl w.heap.size
  go_enter Tryz.func91, Tryz.ntmps91
  go_wp2_with fail
  refine (few11_calls t _ ht).mono ?_
  rintro e w1 ⟨rfl, hb1⟩
  have H1 := Lib.hid (H0.out.grow hb1)
  have HX1 := Lib.hid (Ex.trans HX0.out hb1)
  obtain ⟨x0, x1, x2, x3, x4, x5, x6, x7⟩ := rd_cells H1.out.cell
  have p0 : w1.cell? ⟨w.heap.size + 1, 0, none⟩ = some (.int .i64 1) := H1.out.op.cell 0
  have p1 : w1.cell? ⟨w.heap.size + 1, 1, none⟩ = some (.int .i64 n) := H1.out.op.cell 1
  have p2 : w1.cell? ⟨w.heap.size + 1, 2, none⟩ = some (.string s) := H1.out.op.cell 2
  have p3 : w1.cell? ⟨w.heap.size + 1, 3, none⟩ = some (.string t) := H1.out.op.cell 3
  have p4 : w1.cell? ⟨w.heap.size + 1, 4, none⟩ = some (.int .i64 fk) := H1.out.op.cell 4
  have p5 : w1.cell? ⟨w.heap.size + 1, 5, none⟩ = some (.int .i64 fa) := H1.out.op.cell 5
  clear hb1
  go_wp2_with fail
  refine (HCD.out _ H1.out.doc H1.out.all).mono ?_
  rintro e w2 ⟨tv2, sl2, rfl, hR2, hX2⟩
  simp only at hR2
  obtain ⟨tA2, tc2, sB2, sn2, sd2, rfl, rfl⟩ := hR2.shape
  have HR2 := Lib.hid hR2
  have HXd2 := Lib.hid hX2
  have HX2 := Lib.hid (Ex.trans HX1.out hX2)
  have HB2 := Lib.hid (H1.out.cell.ex hX2)
  clear hR2 hX2
  generalize Q'.tapes.length = tm2 at *
  have HOn := Lib.hid (disk_one Q' tA2 tm2 tc2 sB2 sn2 sd2)
  unfold DkV.rcs at HOn ⊢
  go_wp2_with (refine st_agg 59 rfl (.tmp 4) (.tmp 39) rfl w.heap.size [.int .i64 Q.sec, .slice tA tm tc, .slice sB sn sd, .int .i64 Q.fu.p, .int .i64 Q.fu.s, .int .i64 Q.fu.d, .bool Q.fu.off, .int .i64 (Q.calls : Int)] [.int .i64 Q'.sec, .slice tA2 tm2 tc2, .slice sB2 sn2 sd2, .int .i64 Q'.fu.p, .int .i64 Q'.fu.s, .int .i64 Q'.fu.d, .bool Q'.fu.off, .int .i64 (Q'.calls : Int)] rfl rfl info_d11 rfl HOn.out HB2.out HX2.out hbw ?_; intro w3 k3 X3 g3; have H3 := Lib.hid (H1.out.stored (Qd' := Q') (tv' := .slice tA2 tm2 tc2) (sl' := .slice sB2 sn2 sd2) HR2.out HXd2.out (off_grown g3) k3); clear k3 X3 g3)
  obtain ⟨x0, x1, x2, x3, x4, x5, x6, x7⟩ := rd_cells H3.out.cell
  have p0 : w3.cell? ⟨w.heap.size + 1, 0, none⟩ = some (.int .i64 1) := H3.out.op.cell 0
  have p1 : w3.cell? ⟨w.heap.size + 1, 1, none⟩ = some (.int .i64 n) := H3.out.op.cell 1
  have p2 : w3.cell? ⟨w.heap.size + 1, 2, none⟩ = some (.string s) := H3.out.op.cell 2
  have p3 : w3.cell? ⟨w.heap.size + 1, 3, none⟩ = some (.string t) := H3.out.op.cell 3
  have p4 : w3.cell? ⟨w.heap.size + 1, 4, none⟩ = some (.int .i64 fk) := H3.out.op.cell 4
  have p5 : w3.cell? ⟨w.heap.size + 1, 5, none⟩ = some (.int .i64 fa) := H3.out.op.cell 5
  have hm1 : ¬ w.heap.size = w.heap.size + 2 := by omega
  have hm2 : ¬ w.heap.size + 2 = w.heap.size := by omega
  have hm3 : ¬ w.heap.size + 1 = w.heap.size + 2 := by omega
  have hm4 : ¬ w.heap.size + 2 = w.heap.size + 1 := by omega
  have hee : decide (qe = qe) = true := decide_eq_true rfl
  go_region_held3 (fun w' => w'.cell? ⟨w.heap.size, 0, none⟩ = some (.int .i64 Q'.sec) ∧ w'.cell? ⟨w.heap.size, 1, none⟩ = some (.slice tA2 tm2 tc2) ∧ w'.cell? ⟨w.heap.size, 2, none⟩ = some (.slice sB2 sn2 sd2) ∧ w'.cell? ⟨w.heap.size, 3, none⟩ = some (.int .i64 Q'.fu.p) ∧ w'.cell? ⟨w.heap.size, 4, none⟩ = some (.int .i64 Q'.fu.s) ∧ w'.cell? ⟨w.heap.size, 5, none⟩ = some (.int .i64 Q'.fu.d) ∧ w'.cell? ⟨w.heap.size, 6, none⟩ = some (.bool Q'.fu.off) ∧ w'.cell? ⟨w.heap.size, 7, none⟩ = some (.int .i64 (Q'.calls : Int)) ∧ w'.cell? ⟨w.heap.size + 1, 2, none⟩ = some (.string s)) (go_keep) ((go_at_call 12; ((with_reducible refine (HCP.out _ (H3.out.grow (Ex.refl w3).drew).dk).mono ?_); rintro e w4 ⟨rfl, hd4, ho4⟩; have H4 := Lib.hid ((H3.out.grow (Ex.refl w3).drew).prog (hd4) ho4); obtain ⟨x0, x1, x2, x3, x4, x5, x6, x7⟩ := rd_cells H4.out.cell; have p2 : w4.cell? ⟨w.heap.size + 1, 2, none⟩ = some (.string s) := H4.out.op.cell 2; obtain ⟨r0, r1, r2, r3, r4, r5, r6, r7⟩ := rz_cells H4.out.res; have f0 := H4.out.res.frozen 0; have f1 := H4.out.res.frozen 1; have f2 := H4.out.res.frozen 2; have f3 := H4.out.res.frozen 3; have f4 := H4.out.res.frozen 4; have f5 := H4.out.res.frozen 5; have f6 := H4.out.res.frozen 6; have f7 := H4.out.res.frozen 7; clear hd4 ho4)))
  go_wp2_with fail
  (try simp only [Exit.inBlock, Exit.then])
  refine bodyPost_ret (ret_agg2 rfl _ _ (w.heap.size + 2) [.int .i64 Q'.sec, .slice tA2 tm2 tc2, .slice sB2 sn2 sd2, .int .i64 Q'.fu.p, .int .i64 Q'.fu.s, .int .i64 Q'.fu.d, .bool Q'.fu.off, .int .i64 (Q'.calls : Int)] rfl (blk_set8 (rz_list H4.out.res) _ _ _ _ _ _ _ _) Tryz.underlying59 info_d11) rfl ?_
  rw [HE.out]
  exact H4.out.done (fun k hk => .inl hk) (off_set8 _ _ _ _ _ _ _ _ _ _) rfl
set_option maxHeartbeats 4000000 in
set_option maxRecDepth 100000 in
theorem chg2_calls {w : World} {g : Nat} {F D : Nat → Prop} {Q : DkV} {tv sl : Value} {M : Nat} (o : OpV) (hk : o.k = 2) (hok : o.ok) (hP : DkP w g F Q) (hR : RdV (fun k => F k ∨ D k) w Q tv sl) (ho : Q.Ok M) (hM : M ≤ 700000) (hF : ∀ k, F k → k < w.heap.size) (hD : ∀ k, D k → k < w.heap.size) :
    Calls Tryz.prog 91 #[ptrV g, .agg (Q.rcs tv sl).toArray, o.agg] w fun e w' => ChR w g F D (Q.chg o) w' e := by
  have hI := hP.idz
  have H0 := Lib.hid (Hf.begin o hP hR hF hD)
  have HX0 := Lib.hid (ex_3 w (.cells (Q.rcs tv sl).toArray 59) (.cells o.cs.toArray 68) (.cells zeroD.toArray 59))
  obtain ⟨tA, tc, sB, sn, sd, rfl, rfl⟩ := hR.shape
  obtain ⟨k, n, s, t, fk, fa⟩ := o
  obtain rfl : k = 2 := hk
  have hs : s.size ≤ 9223372036854775807 := hok.s
  have ht : t.size ≤ 9223372036854775807 := hok.t
  have hfs := fewS_size t
  obtain ⟨Q', qe, hq⟩ : ∃ Q' qe, Q.cutT s n = (Q', qe) := ⟨_, _, rfl⟩
  have HE := Lib.hid (show Q.chg ⟨2, n, s, t, fk, fa⟩ = Q' from by rw [show Q.chg ⟨2, n, s, t, fk, fa⟩ = (Q.cutT s n).1 from rfl, hq])
  have HCD := Lib.hid (fun (W : World) (hR : RdV (fun j => F j ∨ (D j ∨ (w.heap.size ≤ j ∧ j < w.heap.size + 3))) W Q (.slice tA Q.tapes.length tc) (.slice sB sn sd)) (hD : ∀ j, (F j ∨ (D j ∨ (w.heap.size ≤ j ∧ j < w.heap.size + 3))) → j < W.heap.size) => rcutT_calls s n hR ho (by omega) hI hD)
  have HCP := Lib.hid (fun (W : World) (h : DkP W g F Q) => dcut_calls h ho (by omega) s n hs)
  rw [hq] at HCD HCP
  unfold DkV.rcs at HCD H0 HX0 ⊢
  clear hI hP hR ho hF hD hq
  generalize Q.tapes.length = tm at *
  unfold OpV.agg
  have hbw := Nat.le_refl w.heap.size
  go_enter Tryz.func91, Tryz.ntmps91
  go_wp2_with fail
  refine (few11_calls t _ ht).mono ?_
  rintro e w1 ⟨rfl, hb1⟩
  have H1 := Lib.hid (H0.out.grow hb1)
  have HX1 := Lib.hid (Ex.trans HX0.out hb1)
  obtain ⟨x0, x1, x2, x3, x4, x5, x6, x7⟩ := rd_cells H1.out.cell
  have p0 : w1.cell? ⟨w.heap.size + 1, 0, none⟩ = some (.int .i64 2) := H1.out.op.cell 0
  have p1 : w1.cell? ⟨w.heap.size + 1, 1, none⟩ = some (.int .i64 n) := H1.out.op.cell 1
  have p2 : w1.cell? ⟨w.heap.size + 1, 2, none⟩ = some (.string s) := H1.out.op.cell 2
  have p3 : w1.cell? ⟨w.heap.size + 1, 3, none⟩ = some (.string t) := H1.out.op.cell 3
  have p4 : w1.cell? ⟨w.heap.size + 1, 4, none⟩ = some (.int .i64 fk) := H1.out.op.cell 4
  have p5 : w1.cell? ⟨w.heap.size + 1, 5, none⟩ = some (.int .i64 fa) := H1.out.op.cell 5
  clear hb1
  go_wp2_with fail
  refine (HCD.out _ H1.out.doc H1.out.all).mono ?_
  rintro e w2 ⟨tv2, sl2, rfl, hR2, hX2⟩
  simp only at hR2
  obtain ⟨tA2, tc2, sB2, sn2, sd2, rfl, rfl⟩ := hR2.shape
  have HR2 := Lib.hid hR2
  have HXd2 := Lib.hid hX2
  have HX2 := Lib.hid (Ex.trans HX1.out hX2)
  have HB2 := Lib.hid (H1.out.cell.ex hX2)
  clear hR2 hX2
  generalize Q'.tapes.length = tm2 at *
  have HOn := Lib.hid (disk_one Q' tA2 tm2 tc2 sB2 sn2 sd2)
  unfold DkV.rcs at HOn ⊢
  go_wp2_with (refine st_agg 59 rfl (.tmp 4) (.tmp 58) rfl w.heap.size [.int .i64 Q.sec, .slice tA tm tc, .slice sB sn sd, .int .i64 Q.fu.p, .int .i64 Q.fu.s, .int .i64 Q.fu.d, .bool Q.fu.off, .int .i64 (Q.calls : Int)] [.int .i64 Q'.sec, .slice tA2 tm2 tc2, .slice sB2 sn2 sd2, .int .i64 Q'.fu.p, .int .i64 Q'.fu.s, .int .i64 Q'.fu.d, .bool Q'.fu.off, .int .i64 (Q'.calls : Int)] rfl rfl info_d11 rfl HOn.out HB2.out HX2.out hbw ?_; intro w3 k3 X3 g3; have H3 := Lib.hid (H1.out.stored (Qd' := Q') (tv' := .slice tA2 tm2 tc2) (sl' := .slice sB2 sn2 sd2) HR2.out HXd2.out (off_grown g3) k3); clear k3 X3 g3)
  obtain ⟨x0, x1, x2, x3, x4, x5, x6, x7⟩ := rd_cells H3.out.cell
  have p0 : w3.cell? ⟨w.heap.size + 1, 0, none⟩ = some (.int .i64 2) := H3.out.op.cell 0
  have p1 : w3.cell? ⟨w.heap.size + 1, 1, none⟩ = some (.int .i64 n) := H3.out.op.cell 1
  have p2 : w3.cell? ⟨w.heap.size + 1, 2, none⟩ = some (.string s) := H3.out.op.cell 2
  have p3 : w3.cell? ⟨w.heap.size + 1, 3, none⟩ = some (.string t) := H3.out.op.cell 3
  have p4 : w3.cell? ⟨w.heap.size + 1, 4, none⟩ = some (.int .i64 fk) := H3.out.op.cell 4
  have p5 : w3.cell? ⟨w.heap.size + 1, 5, none⟩ = some (.int .i64 fa) := H3.out.op.cell 5
  have hm1 : ¬ w.heap.size = w.heap.size + 2 := by omega
  have hm2 : ¬ w.heap.size + 2 = w.heap.size := by omega
  have hm3 : ¬ w.heap.size + 1 = w.heap.size + 2 := by omega
  have hm4 : ¬ w.heap.size + 2 = w.heap.size + 1 := by omega
  have hee : decide (qe = qe) = true := decide_eq_true rfl
  go_region_held3 (fun w' => w'.cell? ⟨w.heap.size, 0, none⟩ = some (.int .i64 Q'.sec) ∧ w'.cell? ⟨w.heap.size, 1, none⟩ = some (.slice tA2 tm2 tc2) ∧ w'.cell? ⟨w.heap.size, 2, none⟩ = some (.slice sB2 sn2 sd2) ∧ w'.cell? ⟨w.heap.size, 3, none⟩ = some (.int .i64 Q'.fu.p) ∧ w'.cell? ⟨w.heap.size, 4, none⟩ = some (.int .i64 Q'.fu.s) ∧ w'.cell? ⟨w.heap.size, 5, none⟩ = some (.int .i64 Q'.fu.d) ∧ w'.cell? ⟨w.heap.size, 6, none⟩ = some (.bool Q'.fu.off) ∧ w'.cell? ⟨w.heap.size, 7, none⟩ = some (.int .i64 (Q'.calls : Int)) ∧ w'.cell? ⟨w.heap.size + 1, 1, none⟩ = some (.int .i64 n) ∧ w'.cell? ⟨w.heap.size + 1, 2, none⟩ = some (.string s)) (go_keep) ((go_at_call 13; ((with_reducible refine (HCP.out _ (H3.out.grow (Ex.refl w3).drew).dk).mono ?_); rintro e w4 ⟨rfl, hd4, ho4⟩; have H4 := Lib.hid ((H3.out.grow (Ex.refl w3).drew).prog (hd4) ho4); obtain ⟨x0, x1, x2, x3, x4, x5, x6, x7⟩ := rd_cells H4.out.cell; have p1 : w4.cell? ⟨w.heap.size + 1, 1, none⟩ = some (.int .i64 n) := H4.out.op.cell 1; have p2 : w4.cell? ⟨w.heap.size + 1, 2, none⟩ = some (.string s) := H4.out.op.cell 2; obtain ⟨r0, r1, r2, r3, r4, r5, r6, r7⟩ := rz_cells H4.out.res; have f0 := H4.out.res.frozen 0; have f1 := H4.out.res.frozen 1; have f2 := H4.out.res.frozen 2; have f3 := H4.out.res.frozen 3; have f4 := H4.out.res.frozen 4; have f5 := H4.out.res.frozen 5; have f6 := H4.out.res.frozen 6; have f7 := H4.out.res.frozen 7; clear hd4 ho4)))
  go_wp2_with fail
  (try simp only [Exit.inBlock, Exit.then])
  refine bodyPost_ret (ret_agg2 rfl _ _ (w.heap.size + 2) [.int .i64 Q'.sec, .slice tA2 tm2 tc2, .slice sB2 sn2 sd2, .int .i64 Q'.fu.p, .int .i64 Q'.fu.s, .int .i64 Q'.fu.d, .bool Q'.fu.off, .int .i64 (Q'.calls : Int)] rfl (blk_set8 (rz_list H4.out.res) _ _ _ _ _ _ _ _) Tryz.underlying59 info_d11) rfl ?_
  rw [HE.out]
  exact H4.out.done (fun k hk => .inl hk) (off_set8 _ _ _ _ _ _ _ _ _ _) rfl
set_option maxHeartbeats 4000000 in
set_option maxRecDepth 100000 in
theorem chg4_calls {w : World} {g : Nat} {F D : Nat → Prop} {Q : DkV} {tv sl : Value} {M : Nat} (o : OpV) (hk : o.k = 4) (hok : o.ok) (hP : DkP w g F Q) (hR : RdV (fun k => F k ∨ D k) w Q tv sl) (ho : Q.Ok M) (hM : M ≤ 700000) (hF : ∀ k, F k → k < w.heap.size) (hD : ∀ k, D k → k < w.heap.size) :
    Calls Tryz.prog 91 #[ptrV g, .agg (Q.rcs tv sl).toArray, o.agg] w fun e w' => ChR w g F D (Q.chg o) w' e := by
  have hI := hP.idz
  have H0 := Lib.hid (Hf.begin o hP hR hF hD)
  have HX0 := Lib.hid (ex_3 w (.cells (Q.rcs tv sl).toArray 59) (.cells o.cs.toArray 68) (.cells zeroD.toArray 59))
  obtain ⟨tA, tc, sB, sn, sd, rfl, rfl⟩ := hR.shape
  obtain ⟨k, n, s, t, fk, fa⟩ := o
  obtain rfl : k = 4 := hk
  have hs : s.size ≤ 9223372036854775807 := hok.s
  have ht : t.size ≤ 9223372036854775807 := hok.t
  have hfs := fewS_size t
  obtain ⟨Q', qe, hq⟩ : ∃ Q' qe, Q.rename s t = (Q', qe) := ⟨_, _, rfl⟩
  have HE := Lib.hid (show Q.chg ⟨4, n, s, t, fk, fa⟩ = Q' from by rw [show Q.chg ⟨4, n, s, t, fk, fa⟩ = (Q.rename s t).1 from rfl, hq])
  have HCD := Lib.hid (fun (W : World) (hR : RdV (fun j => F j ∨ (D j ∨ (w.heap.size ≤ j ∧ j < w.heap.size + 3))) W Q (.slice tA Q.tapes.length tc) (.slice sB sn sd)) (hD : ∀ j, (F j ∨ (D j ∨ (w.heap.size ≤ j ∧ j < w.heap.size + 3))) → j < W.heap.size) => rrename_calls s t hR ho (by omega) hI ht hD)
  have HCP := Lib.hid (fun (W : World) (h : DkP W g F Q) => drename_calls h ho (by omega) s t hs ht)
  rw [hq] at HCD HCP
  unfold DkV.rcs at HCD H0 HX0 ⊢
  clear hI hP hR ho hF hD hq
  generalize Q.tapes.length = tm at *
  unfold OpV.agg
  have hbw := Nat.le_refl w.heap.size
  go_enter Tryz.func91, Tryz.ntmps91
  go_wp2_with fail
  refine (few11_calls t _ ht).mono ?_
  rintro e w1 ⟨rfl, hb1⟩
  have H1 := Lib.hid (H0.out.grow hb1)
  have HX1 := Lib.hid (Ex.trans HX0.out hb1)
  obtain ⟨x0, x1, x2, x3, x4, x5, x6, x7⟩ := rd_cells H1.out.cell
  have p0 : w1.cell? ⟨w.heap.size + 1, 0, none⟩ = some (.int .i64 4) := H1.out.op.cell 0
  have p1 : w1.cell? ⟨w.heap.size + 1, 1, none⟩ = some (.int .i64 n) := H1.out.op.cell 1
  have p2 : w1.cell? ⟨w.heap.size + 1, 2, none⟩ = some (.string s) := H1.out.op.cell 2
  have p3 : w1.cell? ⟨w.heap.size + 1, 3, none⟩ = some (.string t) := H1.out.op.cell 3
  have p4 : w1.cell? ⟨w.heap.size + 1, 4, none⟩ = some (.int .i64 fk) := H1.out.op.cell 4
  have p5 : w1.cell? ⟨w.heap.size + 1, 5, none⟩ = some (.int .i64 fa) := H1.out.op.cell 5
  clear hb1
  go_wp2_with fail
  refine (HCD.out _ H1.out.doc H1.out.all).mono ?_
  rintro e w2 ⟨tv2, sl2, rfl, hR2, hX2⟩
  simp only at hR2
  obtain ⟨tA2, tc2, sB2, sn2, sd2, rfl, rfl⟩ := hR2.shape
  have HR2 := Lib.hid hR2
  have HXd2 := Lib.hid hX2
  have HX2 := Lib.hid (Ex.trans HX1.out hX2)
  have HB2 := Lib.hid (H1.out.cell.ex hX2)
  clear hR2 hX2
  generalize Q'.tapes.length = tm2 at *
  have HOn := Lib.hid (disk_one Q' tA2 tm2 tc2 sB2 sn2 sd2)
  unfold DkV.rcs at HOn ⊢
  go_wp2_with (refine st_agg 59 rfl (.tmp 4) (.tmp 78) rfl w.heap.size [.int .i64 Q.sec, .slice tA tm tc, .slice sB sn sd, .int .i64 Q.fu.p, .int .i64 Q.fu.s, .int .i64 Q.fu.d, .bool Q.fu.off, .int .i64 (Q.calls : Int)] [.int .i64 Q'.sec, .slice tA2 tm2 tc2, .slice sB2 sn2 sd2, .int .i64 Q'.fu.p, .int .i64 Q'.fu.s, .int .i64 Q'.fu.d, .bool Q'.fu.off, .int .i64 (Q'.calls : Int)] rfl rfl info_d11 rfl HOn.out HB2.out HX2.out hbw ?_; intro w3 k3 X3 g3; have H3 := Lib.hid (H1.out.stored (Qd' := Q') (tv' := .slice tA2 tm2 tc2) (sl' := .slice sB2 sn2 sd2) HR2.out HXd2.out (off_grown g3) k3); clear k3 X3 g3)
  obtain ⟨x0, x1, x2, x3, x4, x5, x6, x7⟩ := rd_cells H3.out.cell
  have p0 : w3.cell? ⟨w.heap.size + 1, 0, none⟩ = some (.int .i64 4) := H3.out.op.cell 0
  have p1 : w3.cell? ⟨w.heap.size + 1, 1, none⟩ = some (.int .i64 n) := H3.out.op.cell 1
  have p2 : w3.cell? ⟨w.heap.size + 1, 2, none⟩ = some (.string s) := H3.out.op.cell 2
  have p3 : w3.cell? ⟨w.heap.size + 1, 3, none⟩ = some (.string t) := H3.out.op.cell 3
  have p4 : w3.cell? ⟨w.heap.size + 1, 4, none⟩ = some (.int .i64 fk) := H3.out.op.cell 4
  have p5 : w3.cell? ⟨w.heap.size + 1, 5, none⟩ = some (.int .i64 fa) := H3.out.op.cell 5
  have hm1 : ¬ w.heap.size = w.heap.size + 2 := by omega
  have hm2 : ¬ w.heap.size + 2 = w.heap.size := by omega
  have hm3 : ¬ w.heap.size + 1 = w.heap.size + 2 := by omega
  have hm4 : ¬ w.heap.size + 2 = w.heap.size + 1 := by omega
  have hee : decide (qe = qe) = true := decide_eq_true rfl
  go_region_held3 (fun w' => w'.cell? ⟨w.heap.size, 0, none⟩ = some (.int .i64 Q'.sec) ∧ w'.cell? ⟨w.heap.size, 1, none⟩ = some (.slice tA2 tm2 tc2) ∧ w'.cell? ⟨w.heap.size, 2, none⟩ = some (.slice sB2 sn2 sd2) ∧ w'.cell? ⟨w.heap.size, 3, none⟩ = some (.int .i64 Q'.fu.p) ∧ w'.cell? ⟨w.heap.size, 4, none⟩ = some (.int .i64 Q'.fu.s) ∧ w'.cell? ⟨w.heap.size, 5, none⟩ = some (.int .i64 Q'.fu.d) ∧ w'.cell? ⟨w.heap.size, 6, none⟩ = some (.bool Q'.fu.off) ∧ w'.cell? ⟨w.heap.size, 7, none⟩ = some (.int .i64 (Q'.calls : Int)) ∧ w'.cell? ⟨w.heap.size + 1, 2, none⟩ = some (.string s) ∧ w'.cell? ⟨w.heap.size + 1, 3, none⟩ = some (.string t)) (go_keep) ((go_at_call 15; ((with_reducible refine (HCP.out _ (H3.out.grow (Ex.refl w3).drew).dk).mono ?_); rintro e w4 ⟨rfl, hd4, ho4⟩; have H4 := Lib.hid ((H3.out.grow (Ex.refl w3).drew).prog (hd4) ho4); obtain ⟨x0, x1, x2, x3, x4, x5, x6, x7⟩ := rd_cells H4.out.cell; have p2 : w4.cell? ⟨w.heap.size + 1, 2, none⟩ = some (.string s) := H4.out.op.cell 2; have p3 : w4.cell? ⟨w.heap.size + 1, 3, none⟩ = some (.string t) := H4.out.op.cell 3; obtain ⟨r0, r1, r2, r3, r4, r5, r6, r7⟩ := rz_cells H4.out.res; have f0 := H4.out.res.frozen 0; have f1 := H4.out.res.frozen 1; have f2 := H4.out.res.frozen 2; have f3 := H4.out.res.frozen 3; have f4 := H4.out.res.frozen 4; have f5 := H4.out.res.frozen 5; have f6 := H4.out.res.frozen 6; have f7 := H4.out.res.frozen 7; clear hd4 ho4)))
  go_wp2_with fail
  (try simp only [Exit.inBlock, Exit.then])
  refine bodyPost_ret (ret_agg2 rfl _ _ (w.heap.size + 2) [.int .i64 Q'.sec, .slice tA2 tm2 tc2, .slice sB2 sn2 sd2, .int .i64 Q'.fu.p, .int .i64 Q'.fu.s, .int .i64 Q'.fu.d, .bool Q'.fu.off, .int .i64 (Q'.calls : Int)] rfl (blk_set8 (rz_list H4.out.res) _ _ _ _ _ _ _ _) Tryz.underlying59 info_d11) rfl ?_
  rw [HE.out]
  exact H4.out.done (fun k hk => .inl hk) (off_set8 _ _ _ _ _ _ _ _ _ _) rfl
set_option maxHeartbeats 4000000 in
set_option maxRecDepth 100000 in
theorem chg5_calls {w : World} {g : Nat} {F D : Nat → Prop} {Q : DkV} {tv sl : Value} {M : Nat} (o : OpV) (hk : o.k = 5) (hok : o.ok) (hP : DkP w g F Q) (hR : RdV (fun k => F k ∨ D k) w Q tv sl) (ho : Q.Ok M) (hM : M ≤ 700000) (hF : ∀ k, F k → k < w.heap.size) (hD : ∀ k, D k → k < w.heap.size) :
    Calls Tryz.prog 91 #[ptrV g, .agg (Q.rcs tv sl).toArray, o.agg] w fun e w' => ChR w g F D (Q.chg o) w' e := by
  have hI := hP.idz
  have H0 := Lib.hid (Hf.begin o hP hR hF hD)
  have HX0 := Lib.hid (ex_3 w (.cells (Q.rcs tv sl).toArray 59) (.cells o.cs.toArray 68) (.cells zeroD.toArray 59))
  obtain ⟨tA, tc, sB, sn, sd, rfl, rfl⟩ := hR.shape
  obtain ⟨k, n, s, t, fk, fa⟩ := o
  obtain rfl : k = 5 := hk
  have hs : s.size ≤ 9223372036854775807 := hok.s
  have ht : t.size ≤ 9223372036854775807 := hok.t
  have hfs := fewS_size t
  obtain ⟨Q', qe, hq⟩ : ∃ Q' qe, Q.remove s = (Q', qe) := ⟨_, _, rfl⟩
  have HE := Lib.hid (show Q.chg ⟨5, n, s, t, fk, fa⟩ = Q' from by rw [show Q.chg ⟨5, n, s, t, fk, fa⟩ = (Q.remove s).1 from rfl, hq])
  have HCD := Lib.hid (fun (W : World) (hR : RdV (fun j => F j ∨ (D j ∨ (w.heap.size ≤ j ∧ j < w.heap.size + 3))) W Q (.slice tA Q.tapes.length tc) (.slice sB sn sd)) (hD : ∀ j, (F j ∨ (D j ∨ (w.heap.size ≤ j ∧ j < w.heap.size + 3))) → j < W.heap.size) => rremove_calls s hR ho (by omega) hI hD)
  have HCP := Lib.hid (fun (W : World) (h : DkP W g F Q) => dremove_calls h ho (by omega) s hs)
  rw [hq] at HCD HCP
  unfold DkV.rcs at HCD H0 HX0 ⊢
  clear hI hP hR ho hF hD hq
  generalize Q.tapes.length = tm at *
  unfold OpV.agg
  have hbw := Nat.le_refl w.heap.size
  go_enter Tryz.func91, Tryz.ntmps91
  go_wp2_with fail
  refine (few11_calls t _ ht).mono ?_
  rintro e w1 ⟨rfl, hb1⟩
  have H1 := Lib.hid (H0.out.grow hb1)
  have HX1 := Lib.hid (Ex.trans HX0.out hb1)
  obtain ⟨x0, x1, x2, x3, x4, x5, x6, x7⟩ := rd_cells H1.out.cell
  have p0 : w1.cell? ⟨w.heap.size + 1, 0, none⟩ = some (.int .i64 5) := H1.out.op.cell 0
  have p1 : w1.cell? ⟨w.heap.size + 1, 1, none⟩ = some (.int .i64 n) := H1.out.op.cell 1
  have p2 : w1.cell? ⟨w.heap.size + 1, 2, none⟩ = some (.string s) := H1.out.op.cell 2
  have p3 : w1.cell? ⟨w.heap.size + 1, 3, none⟩ = some (.string t) := H1.out.op.cell 3
  have p4 : w1.cell? ⟨w.heap.size + 1, 4, none⟩ = some (.int .i64 fk) := H1.out.op.cell 4
  have p5 : w1.cell? ⟨w.heap.size + 1, 5, none⟩ = some (.int .i64 fa) := H1.out.op.cell 5
  clear hb1
  go_wp2_with fail
  refine (HCD.out _ H1.out.doc H1.out.all).mono ?_
  rintro e w2 ⟨tv2, sl2, rfl, hR2, hX2⟩
  simp only at hR2
  obtain ⟨tA2, tc2, sB2, sn2, sd2, rfl, rfl⟩ := hR2.shape
  have HR2 := Lib.hid hR2
  have HXd2 := Lib.hid hX2
  have HX2 := Lib.hid (Ex.trans HX1.out hX2)
  have HB2 := Lib.hid (H1.out.cell.ex hX2)
  clear hR2 hX2
  generalize Q'.tapes.length = tm2 at *
  have HOn := Lib.hid (disk_one Q' tA2 tm2 tc2 sB2 sn2 sd2)
  unfold DkV.rcs at HOn ⊢
  go_wp2_with (refine st_agg 59 rfl (.tmp 4) (.tmp 96) rfl w.heap.size [.int .i64 Q.sec, .slice tA tm tc, .slice sB sn sd, .int .i64 Q.fu.p, .int .i64 Q.fu.s, .int .i64 Q.fu.d, .bool Q.fu.off, .int .i64 (Q.calls : Int)] [.int .i64 Q'.sec, .slice tA2 tm2 tc2, .slice sB2 sn2 sd2, .int .i64 Q'.fu.p, .int .i64 Q'.fu.s, .int .i64 Q'.fu.d, .bool Q'.fu.off, .int .i64 (Q'.calls : Int)] rfl rfl info_d11 rfl HOn.out HB2.out HX2.out hbw ?_; intro w3 k3 X3 g3; have H3 := Lib.hid (H1.out.stored (Qd' := Q') (tv' := .slice tA2 tm2 tc2) (sl' := .slice sB2 sn2 sd2) HR2.out HXd2.out (off_grown g3) k3); clear k3 X3 g3)
  obtain ⟨x0, x1, x2, x3, x4, x5, x6, x7⟩ := rd_cells H3.out.cell
  have p0 : w3.cell? ⟨w.heap.size + 1, 0, none⟩ = some (.int .i64 5) := H3.out.op.cell 0
  have p1 : w3.cell? ⟨w.heap.size + 1, 1, none⟩ = some (.int .i64 n) := H3.out.op.cell 1
  have p2 : w3.cell? ⟨w.heap.size + 1, 2, none⟩ = some (.string s) := H3.out.op.cell 2
  have p3 : w3.cell? ⟨w.heap.size + 1, 3, none⟩ = some (.string t) := H3.out.op.cell 3
  have p4 : w3.cell? ⟨w.heap.size + 1, 4, none⟩ = some (.int .i64 fk) := H3.out.op.cell 4
  have p5 : w3.cell? ⟨w.heap.size + 1, 5, none⟩ = some (.int .i64 fa) := H3.out.op.cell 5
  have hm1 : ¬ w.heap.size = w.heap.size + 2 := by omega
  have hm2 : ¬ w.heap.size + 2 = w.heap.size := by omega
  have hm3 : ¬ w.heap.size + 1 = w.heap.size + 2 := by omega
  have hm4 : ¬ w.heap.size + 2 = w.heap.size + 1 := by omega
  have hee : decide (qe = qe) = true := decide_eq_true rfl
  go_region_held3 (fun w' => w'.cell? ⟨w.heap.size, 0, none⟩ = some (.int .i64 Q'.sec) ∧ w'.cell? ⟨w.heap.size, 1, none⟩ = some (.slice tA2 tm2 tc2) ∧ w'.cell? ⟨w.heap.size, 2, none⟩ = some (.slice sB2 sn2 sd2) ∧ w'.cell? ⟨w.heap.size, 3, none⟩ = some (.int .i64 Q'.fu.p) ∧ w'.cell? ⟨w.heap.size, 4, none⟩ = some (.int .i64 Q'.fu.s) ∧ w'.cell? ⟨w.heap.size, 5, none⟩ = some (.int .i64 Q'.fu.d) ∧ w'.cell? ⟨w.heap.size, 6, none⟩ = some (.bool Q'.fu.off) ∧ w'.cell? ⟨w.heap.size, 7, none⟩ = some (.int .i64 (Q'.calls : Int)) ∧ w'.cell? ⟨w.heap.size + 1, 2, none⟩ = some (.string s)) (go_keep) ((go_at_call 16; ((with_reducible refine (HCP.out _ (H3.out.grow (Ex.refl w3).drew).dk).mono ?_); rintro e w4 ⟨rfl, hd4, ho4⟩; have H4 := Lib.hid ((H3.out.grow (Ex.refl w3).drew).prog (hd4) ho4); obtain ⟨x0, x1, x2, x3, x4, x5, x6, x7⟩ := rd_cells H4.out.cell; have p2 : w4.cell? ⟨w.heap.size + 1, 2, none⟩ = some (.string s) := H4.out.op.cell 2; obtain ⟨r0, r1, r2, r3, r4, r5, r6, r7⟩ := rz_cells H4.out.res; have f0 := H4.out.res.frozen 0; have f1 := H4.out.res.frozen 1; have f2 := H4.out.res.frozen 2; have f3 := H4.out.res.frozen 3; have f4 := H4.out.res.frozen 4; have f5 := H4.out.res.frozen 5; have f6 := H4.out.res.frozen 6; have f7 := H4.out.res.frozen 7; clear hd4 ho4)))
  go_wp2_with fail
  (try simp only [Exit.inBlock, Exit.then])
  refine bodyPost_ret (ret_agg2 rfl _ _ (w.heap.size + 2) [.int .i64 Q'.sec, .slice tA2 tm2 tc2, .slice sB2 sn2 sd2, .int .i64 Q'.fu.p, .int .i64 Q'.fu.s, .int .i64 Q'.fu.d, .bool Q'.fu.off, .int .i64 (Q'.calls : Int)] rfl (blk_set8 (rz_list H4.out.res) _ _ _ _ _ _ _ _) Tryz.underlying59 info_d11) rfl ?_
  rw [HE.out]
  exact H4.out.done (fun k hk => .inl hk) (off_set8 _ _ _ _ _ _ _ _ _ _) rfl
set_option maxHeartbeats 4000000 in
set_option maxRecDepth 100000 in
theorem chgN_calls {w : World} {g : Nat} {F D : Nat → Prop} {Q : DkV} {tv sl : Value} (o : OpV) (h0 : ¬ o.k = 0) (h1 : ¬ o.k = 1) (h2 : ¬ o.k = 2) (h4 : ¬ o.k = 4) (h5 : ¬ o.k = 5) (hok : o.ok) (hP : DkP w g F Q) (hR : RdV (fun k => F k ∨ D k) w Q tv sl) (hF : ∀ k, F k → k < w.heap.size) (hD : ∀ k, D k → k < w.heap.size) :
    Calls Tryz.prog 91 #[ptrV g, .agg (Q.rcs tv sl).toArray, o.agg] w fun e w' => ChR w g F D (Q.chg o) w' e := by
  have hI := hP.idz
  have H0 := Lib.hid (Hf.begin o hP hR hF hD)
  have HX0 := Lib.hid (ex_3 w (.cells (Q.rcs tv sl).toArray 59) (.cells o.cs.toArray 68) (.cells zeroD.toArray 59))
  obtain ⟨tA, tc, sB, sn, sd, rfl, rfl⟩ := hR.shape
  obtain ⟨k, n, s, t, fk, fa⟩ := o
  have hs : s.size ≤ 9223372036854775807 := hok.s
  have ht : t.size ≤ 9223372036854775807 := hok.t
  have hfs := fewS_size t
  have HE := Lib.hid (show Q.chg ⟨k, n, s, t, fk, fa⟩ = Q from by unfold DkV.chg; rw [if_neg h0, if_neg h1, if_neg h2, if_neg h4, if_neg h5])
  have d0 : decide (k = 0) = false := decide_eq_false h0
  have e0 : (k == 0) = false := beq_eq_false_iff_ne.2 h0
  have d1 : decide (k = 1) = false := decide_eq_false h1
  have e1 : (k == 1) = false := beq_eq_false_iff_ne.2 h1
  have d2 : decide (k = 2) = false := decide_eq_false h2
  have e2 : (k == 2) = false := beq_eq_false_iff_ne.2 h2
  have d4 : decide (k = 4) = false := decide_eq_false h4
  have e4 : (k == 4) = false := beq_eq_false_iff_ne.2 h4
  have d5 : decide (k = 5) = false := decide_eq_false h5
  have e5 : (k == 5) = false := beq_eq_false_iff_ne.2 h5
  have HOn := Lib.hid (disk_one Q tA Q.tapes.length tc sB sn sd)
  unfold DkV.rcs at H0 HX0 HOn ⊢
  clear hI hP hR hF hD h0 h1 h2 h4 h5
  generalize Q.tapes.length = tm at *
  unfold OpV.agg
  go_enter Tryz.func91, Tryz.ntmps91
  go_wp2_with fail
  refine (few11_calls t _ ht).mono ?_
  rintro e w1 ⟨rfl, hb1⟩
  have H1 := Lib.hid (H0.out.grow hb1)
  obtain ⟨x0, x1, x2, x3, x4, x5, x6, x7⟩ := rd_cells H1.out.cell
  have p0 : w1.cell? ⟨w.heap.size + 1, 0, none⟩ = some (.int .i64 k) := H1.out.op.cell 0
  clear hb1
  obtain ⟨r0, r1, r2, r3, r4, r5, r6, r7⟩ := rz_cells H1.out.res
  have f0 := H1.out.res.frozen 0
  have f1 := H1.out.res.frozen 1
  have f2 := H1.out.res.frozen 2
  have f3 := H1.out.res.frozen 3
  have f4 := H1.out.res.frozen 4
  have f5 := H1.out.res.frozen 5
  have f6 := H1.out.res.frozen 6
  have f7 := H1.out.res.frozen 7
  have hm1 : ¬ w.heap.size = w.heap.size + 2 := by omega
  have hm2 : ¬ w.heap.size + 2 = w.heap.size := by omega
  go_wp2_with fail
  (try simp only [Exit.inBlock, Exit.then])
  refine bodyPost_ret (ret_agg2 rfl _ _ (w.heap.size + 2) [.int .i64 Q.sec, .slice tA tm tc, .slice sB sn sd, .int .i64 Q.fu.p, .int .i64 Q.fu.s, .int .i64 Q.fu.d, .bool Q.fu.off, .int .i64 (Q.calls : Int)] rfl (blk_set8 (rz_list H1.out.res) _ _ _ _ _ _ _ _) Tryz.underlying59 info_d11) rfl ?_
  rw [HE.out]
  exact H1.out.done (fun k hk => .inl hk) (off_set8 _ _ _ _ _ _ _ _ _ _) rfl
theorem chg_calls {w : World} {g : Nat} {F D : Nat → Prop} {Q : DkV} {tv sl : Value} {M : Nat} (o : OpV) (hok : o.ok) (hP : DkP w g F Q) (hR : RdV (fun k => F k ∨ D k) w Q tv sl) (ho : Q.Ok M) (hM : M ≤ 700000) (hF : ∀ k, F k → k < w.heap.size) (hD : ∀ k, D k → k < w.heap.size) :
    Calls Tryz.prog 91 #[ptrV g, .agg (Q.rcs tv sl).toArray, o.agg] w fun e w' => ChR w g F D (Q.chg o) w' e := by
  by_cases h0 : o.k = 0
  · exact chg0_calls o h0 hok hP hR ho hM hF hD
  by_cases h1 : o.k = 1
  · exact chg1_calls o h1 hok hP hR ho hM hF hD
  by_cases h2 : o.k = 2
  · exact chg2_calls o h2 hok hP hR ho hM hF hD
  by_cases h4 : o.k = 4
  · exact chg4_calls o h4 hok hP hR ho hM hF hD
  by_cases h5 : o.k = 5
  · exact chg5_calls o h5 hok hP hR ho hM hF hD
  exact chgN_calls o h0 h1 h2 h4 h5 hok hP hR hF hD
end Go.Proofs.YtcffkmlnbnjibaaGreat
namespace Go.Proofs.YtcffkmlnbnjibaaGreat
open Go.RowKit Go.Maps
set_option maxHeartbeats 4000000 in
set_option maxRecDepth 100000 in
theorem stp3_calls {w : World} {g : Nat} {F D : Nat → Prop} {Q : DkV} {tv sl : Value} {M : Nat} (o : OpV) (hk : o.k = 3) (hok : o.ok) (hP : DkP w g F Q) (hR : RdV (fun k => F k ∨ D k) w Q tv sl) (ho : Q.Ok M) (hM : M ≤ 700000) (hF : ∀ k, F k → k < w.heap.size) (hD : ∀ k, D k → k < w.heap.size) :
    Calls Tryz.prog 31 #[ptrV g, .agg (Q.rcs tv sl).toArray, o.agg] w fun e w' => ChR w g F D (Q.stp o) w' e := by
  have hI := hP.idz
  have H0 := Lib.hid (Hf.begin o hP hR hF hD)
  have HX0 := Lib.hid (ex_3 w (.cells (Q.rcs tv sl).toArray 59) (.cells o.cs.toArray 68) (.cells zeroD.toArray 59))
  obtain ⟨tA, tc, sB, sn, sd, rfl, rfl⟩ := hR.shape
  obtain ⟨k, n, s, t, fk, fa⟩ := o
  obtain rfl : k = 3 := hk
  have hs : s.size ≤ 9223372036854775807 := hok.s
  have ht : t.size ≤ 9223372036854775807 := hok.t
  have hfs := fewS_size t
  obtain ⟨Q', qe, hq⟩ : ∃ Q' qe, Q.syncT s = (Q', qe) := ⟨_, _, rfl⟩
  have HE := Lib.hid (show Q.stp ⟨3, n, s, t, fk, fa⟩ = Q' from by rw [show Q.stp ⟨3, n, s, t, fk, fa⟩ = (Q.syncT s).1 from rfl, hq])
  have HCD := Lib.hid (fun (W : World) (hR : RdV (fun j => F j ∨ (D j ∨ (w.heap.size ≤ j ∧ j < w.heap.size + 3))) W Q (.slice tA Q.tapes.length tc) (.slice sB sn sd)) (hD : ∀ j, (F j ∨ (D j ∨ (w.heap.size ≤ j ∧ j < w.heap.size + 3))) → j < W.heap.size) => rsyncT_calls s hR ho (by omega) hI hD)
  have HCP := Lib.hid (fun (W : World) (h : DkP W g F Q) => dsync_calls h ho (by omega) s hs)
  rw [hq] at HCD HCP
  unfold DkV.rcs at HCD H0 HX0 ⊢
  clear hI hP hR ho hF hD hq
  generalize Q.tapes.length = tm at *
  unfold OpV.agg
  have hbw := Nat.le_refl w.heap.size
  go_enter Tryz.func31, Tryz.ntmps31
  go_wp2_with fail
  have H1 := H0
  have HX1 := HX0
  refine (HCD.out _ H1.out.doc H1.out.all).mono ?_
  rintro e w2 ⟨tv2, sl2, rfl, hR2, hX2⟩
  simp only at hR2
  obtain ⟨tA2, tc2, sB2, sn2, sd2, rfl, rfl⟩ := hR2.shape
  have HR2 := Lib.hid hR2
  have HXd2 := Lib.hid hX2
  have HX2 := Lib.hid (Ex.trans HX1.out hX2)
  have HB2 := Lib.hid (H1.out.cell.ex hX2)
  clear hR2 hX2
  generalize Q'.tapes.length = tm2 at *
  have HOn := Lib.hid (disk_one Q' tA2 tm2 tc2 sB2 sn2 sd2)
  unfold DkV.rcs at HOn ⊢
  go_wp2_with (refine st_agg 59 rfl (.tmp 4) (.tmp 23) rfl w.heap.size [.int .i64 Q.sec, .slice tA tm tc, .slice sB sn sd, .int .i64 Q.fu.p, .int .i64 Q.fu.s, .int .i64 Q.fu.d, .bool Q.fu.off, .int .i64 (Q.calls : Int)] [.int .i64 Q'.sec, .slice tA2 tm2 tc2, .slice sB2 sn2 sd2, .int .i64 Q'.fu.p, .int .i64 Q'.fu.s, .int .i64 Q'.fu.d, .bool Q'.fu.off, .int .i64 (Q'.calls : Int)] rfl rfl info_d11 rfl HOn.out HB2.out HX2.out hbw ?_; intro w3 k3 X3 g3; have H3 := Lib.hid (H1.out.stored (Qd' := Q') (tv' := .slice tA2 tm2 tc2) (sl' := .slice sB2 sn2 sd2) HR2.out HXd2.out (off_grown g3) k3); clear k3 X3 g3)
  obtain ⟨x0, x1, x2, x3, x4, x5, x6, x7⟩ := rd_cells H3.out.cell
  have p0 : w3.cell? ⟨w.heap.size + 1, 0, none⟩ = some (.int .i64 3) := H3.out.op.cell 0
  have p1 : w3.cell? ⟨w.heap.size + 1, 1, none⟩ = some (.int .i64 n) := H3.out.op.cell 1
  have p2 : w3.cell? ⟨w.heap.size + 1, 2, none⟩ = some (.string s) := H3.out.op.cell 2
  have p3 : w3.cell? ⟨w.heap.size + 1, 3, none⟩ = some (.string t) := H3.out.op.cell 3
  have p4 : w3.cell? ⟨w.heap.size + 1, 4, none⟩ = some (.int .i64 fk) := H3.out.op.cell 4
  have p5 : w3.cell? ⟨w.heap.size + 1, 5, none⟩ = some (.int .i64 fa) := H3.out.op.cell 5
  have hm1 : ¬ w.heap.size = w.heap.size + 2 := by omega
  have hm2 : ¬ w.heap.size + 2 = w.heap.size := by omega
  have hm3 : ¬ w.heap.size + 1 = w.heap.size + 2 := by omega
  have hm4 : ¬ w.heap.size + 2 = w.heap.size + 1 := by omega
  have hee : decide (qe = qe) = true := decide_eq_true rfl
  go_region_held3 (fun w' => w'.cell? ⟨w.heap.size, 0, none⟩ = some (.int .i64 Q'.sec) ∧ w'.cell? ⟨w.heap.size, 1, none⟩ = some (.slice tA2 tm2 tc2) ∧ w'.cell? ⟨w.heap.size, 2, none⟩ = some (.slice sB2 sn2 sd2) ∧ w'.cell? ⟨w.heap.size, 3, none⟩ = some (.int .i64 Q'.fu.p) ∧ w'.cell? ⟨w.heap.size, 4, none⟩ = some (.int .i64 Q'.fu.s) ∧ w'.cell? ⟨w.heap.size, 5, none⟩ = some (.int .i64 Q'.fu.d) ∧ w'.cell? ⟨w.heap.size, 6, none⟩ = some (.bool Q'.fu.off) ∧ w'.cell? ⟨w.heap.size, 7, none⟩ = some (.int .i64 (Q'.calls : Int)) ∧ w'.cell? ⟨w.heap.size + 1, 2, none⟩ = some (.string s)) (go_keep) ((go_at_call 14; ((with_reducible refine (HCP.out _ (H3.out.grow (Ex.refl w3).drew).dk).mono ?_); rintro e w4 ⟨rfl, hd4, ho4⟩; have H4 := Lib.hid ((H3.out.grow (Ex.refl w3).drew).prog (hd4) ho4); obtain ⟨x0, x1, x2, x3, x4, x5, x6, x7⟩ := rd_cells H4.out.cell; have p2 : w4.cell? ⟨w.heap.size + 1, 2, none⟩ = some (.string s) := H4.out.op.cell 2; obtain ⟨r0, r1, r2, r3, r4, r5, r6, r7⟩ := rz_cells H4.out.res; have f0 := H4.out.res.frozen 0; have f1 := H4.out.res.frozen 1; have f2 := H4.out.res.frozen 2; have f3 := H4.out.res.frozen 3; have f4 := H4.out.res.frozen 4; have f5 := H4.out.res.frozen 5; have f6 := H4.out.res.frozen 6; have f7 := H4.out.res.frozen 7; clear hd4 ho4)))
  go_wp2_with fail
  (try simp only [Exit.inBlock, Exit.then])
  refine bodyPost_ret (ret_agg2 rfl _ _ (w.heap.size + 2) [.int .i64 Q'.sec, .slice tA2 tm2 tc2, .slice sB2 sn2 sd2, .int .i64 Q'.fu.p, .int .i64 Q'.fu.s, .int .i64 Q'.fu.d, .bool Q'.fu.off, .int .i64 (Q'.calls : Int)] rfl (blk_set8 (rz_list H4.out.res) _ _ _ _ _ _ _ _) Tryz.underlying59 info_d11) rfl ?_
  rw [HE.out]
  exact H4.out.done (fun k hk => .inl hk) (off_set8 _ _ _ _ _ _ _ _ _ _) rfl
set_option maxHeartbeats 4000000 in
set_option maxRecDepth 100000 in
theorem stp6_calls {w : World} {g : Nat} {F D : Nat → Prop} {Q : DkV} {tv sl : Value} {M : Nat} (o : OpV) (hk : o.k = 6) (hok : o.ok) (hP : DkP w g F Q) (hR : RdV (fun k => F k ∨ D k) w Q tv sl) (ho : Q.Ok M) (hM : M ≤ 700000) (hF : ∀ k, F k → k < w.heap.size) (hD : ∀ k, D k → k < w.heap.size) :
    Calls Tryz.prog 31 #[ptrV g, .agg (Q.rcs tv sl).toArray, o.agg] w fun e w' => ChR w g F D (Q.stp o) w' e := by
  have hI := hP.idz
  have H0 := Lib.hid (Hf.begin o hP hR hF hD)
  have HX0 := Lib.hid (ex_3 w (.cells (Q.rcs tv sl).toArray 59) (.cells o.cs.toArray 68) (.cells zeroD.toArray 59))
  obtain ⟨tA, tc, sB, sn, sd, rfl, rfl⟩ := hR.shape
  obtain ⟨k, n, s, t, fk, fa⟩ := o
  obtain rfl : k = 6 := hk
  have hs : s.size ≤ 9223372036854775807 := hok.s
  have ht : t.size ≤ 9223372036854775807 := hok.t
  have hfs := fewS_size t
  obtain ⟨Q', qe, hq⟩ : ∃ Q' qe, Q.syncAll = (Q', qe) := ⟨_, _, rfl⟩
  have HE := Lib.hid (show Q.stp ⟨6, n, s, t, fk, fa⟩ = Q' from by rw [show Q.stp ⟨6, n, s, t, fk, fa⟩ = (Q.syncAll).1 from rfl, hq])
  have HCD := Lib.hid (fun (W : World) (hR : RdV (fun j => F j ∨ (D j ∨ (w.heap.size ≤ j ∧ j < w.heap.size + 3))) W Q (.slice tA Q.tapes.length tc) (.slice sB sn sd)) (hD : ∀ j, (F j ∨ (D j ∨ (w.heap.size ≤ j ∧ j < w.heap.size + 3))) → j < W.heap.size) => rsyncAll_calls hR ho (by omega) hI hD)
  have HCP := Lib.hid (fun (W : World) (h : DkP W g F Q) => dsyncAll_calls h ho (by omega))
  rw [hq] at HCD HCP
  unfold DkV.rcs at HCD H0 HX0 ⊢
  clear hI hP hR ho hF hD hq
  generalize Q.tapes.length = tm at *
  unfold OpV.agg
  have hbw := Nat.le_refl w.heap.size
  go_enter Tryz.func31, Tryz.ntmps31
  go_wp2_with fail
  have H1 := H0
  have HX1 := HX0
  refine (HCD.out _ H1.out.doc H1.out.all).mono ?_
  rintro e w2 ⟨tv2, sl2, rfl, hR2, hX2⟩
  simp only at hR2
  obtain ⟨tA2, tc2, sB2, sn2, sd2, rfl, rfl⟩ := hR2.shape
  have HR2 := Lib.hid hR2
  have HXd2 := Lib.hid hX2
  have HX2 := Lib.hid (Ex.trans HX1.out hX2)
  have HB2 := Lib.hid (H1.out.cell.ex hX2)
  clear hR2 hX2
  generalize Q'.tapes.length = tm2 at *
  have HOn := Lib.hid (disk_one Q' tA2 tm2 tc2 sB2 sn2 sd2)
  unfold DkV.rcs at HOn ⊢
  go_wp2_with (refine st_agg 59 rfl (.tmp 4) (.tmp 37) rfl w.heap.size [.int .i64 Q.sec, .slice tA tm tc, .slice sB sn sd, .int .i64 Q.fu.p, .int .i64 Q.fu.s, .int .i64 Q.fu.d, .bool Q.fu.off, .int .i64 (Q.calls : Int)] [.int .i64 Q'.sec, .slice tA2 tm2 tc2, .slice sB2 sn2 sd2, .int .i64 Q'.fu.p, .int .i64 Q'.fu.s, .int .i64 Q'.fu.d, .bool Q'.fu.off, .int .i64 (Q'.calls : Int)] rfl rfl info_d11 rfl HOn.out HB2.out HX2.out hbw ?_; intro w3 k3 X3 g3; have H3 := Lib.hid (H1.out.stored (Qd' := Q') (tv' := .slice tA2 tm2 tc2) (sl' := .slice sB2 sn2 sd2) HR2.out HXd2.out (off_grown g3) k3); clear k3 X3 g3)
  obtain ⟨x0, x1, x2, x3, x4, x5, x6, x7⟩ := rd_cells H3.out.cell
  have p0 : w3.cell? ⟨w.heap.size + 1, 0, none⟩ = some (.int .i64 6) := H3.out.op.cell 0
  have p1 : w3.cell? ⟨w.heap.size + 1, 1, none⟩ = some (.int .i64 n) := H3.out.op.cell 1
  have p2 : w3.cell? ⟨w.heap.size + 1, 2, none⟩ = some (.string s) := H3.out.op.cell 2
  have p3 : w3.cell? ⟨w.heap.size + 1, 3, none⟩ = some (.string t) := H3.out.op.cell 3
  have p4 : w3.cell? ⟨w.heap.size + 1, 4, none⟩ = some (.int .i64 fk) := H3.out.op.cell 4
  have p5 : w3.cell? ⟨w.heap.size + 1, 5, none⟩ = some (.int .i64 fa) := H3.out.op.cell 5
  have hm1 : ¬ w.heap.size = w.heap.size + 2 := by omega
  have hm2 : ¬ w.heap.size + 2 = w.heap.size := by omega
  have hm3 : ¬ w.heap.size + 1 = w.heap.size + 2 := by omega
  have hm4 : ¬ w.heap.size + 2 = w.heap.size + 1 := by omega
  have hee : decide (qe = qe) = true := decide_eq_true rfl
  go_region_held3 (fun w' => w'.cell? ⟨w.heap.size, 0, none⟩ = some (.int .i64 Q'.sec) ∧ w'.cell? ⟨w.heap.size, 1, none⟩ = some (.slice tA2 tm2 tc2) ∧ w'.cell? ⟨w.heap.size, 2, none⟩ = some (.slice sB2 sn2 sd2) ∧ w'.cell? ⟨w.heap.size, 3, none⟩ = some (.int .i64 Q'.fu.p) ∧ w'.cell? ⟨w.heap.size, 4, none⟩ = some (.int .i64 Q'.fu.s) ∧ w'.cell? ⟨w.heap.size, 5, none⟩ = some (.int .i64 Q'.fu.d) ∧ w'.cell? ⟨w.heap.size, 6, none⟩ = some (.bool Q'.fu.off) ∧ w'.cell? ⟨w.heap.size, 7, none⟩ = some (.int .i64 (Q'.calls : Int))) (go_keep) ((go_at_call 17; ((with_reducible refine (HCP.out _ (H3.out.grow (Ex.refl w3).drew).dk).mono ?_); rintro e w4 ⟨rfl, hd4, ho4⟩; have H4 := Lib.hid ((H3.out.grow (Ex.refl w3).drew).prog (hd4) ho4); obtain ⟨x0, x1, x2, x3, x4, x5, x6, x7⟩ := rd_cells H4.out.cell;  obtain ⟨r0, r1, r2, r3, r4, r5, r6, r7⟩ := rz_cells H4.out.res; have f0 := H4.out.res.frozen 0; have f1 := H4.out.res.frozen 1; have f2 := H4.out.res.frozen 2; have f3 := H4.out.res.frozen 3; have f4 := H4.out.res.frozen 4; have f5 := H4.out.res.frozen 5; have f6 := H4.out.res.frozen 6; have f7 := H4.out.res.frozen 7; clear hd4 ho4)))
  go_wp2_with fail
  (try simp only [Exit.inBlock, Exit.then])
  refine bodyPost_ret (ret_agg2 rfl _ _ (w.heap.size + 2) [.int .i64 Q'.sec, .slice tA2 tm2 tc2, .slice sB2 sn2 sd2, .int .i64 Q'.fu.p, .int .i64 Q'.fu.s, .int .i64 Q'.fu.d, .bool Q'.fu.off, .int .i64 (Q'.calls : Int)] rfl (blk_set8 (rz_list H4.out.res) _ _ _ _ _ _ _ _) Tryz.underlying59 info_d11) rfl ?_
  rw [HE.out]
  exact H4.out.done (fun k hk => .inl hk) (off_set8 _ _ _ _ _ _ _ _ _ _) rfl
set_option maxHeartbeats 4000000 in
set_option maxRecDepth 100000 in
theorem stp8_calls {w : World} {g : Nat} {F D : Nat → Prop} {Q : DkV} {tv sl : Value} {M : Nat} (o : OpV) (hk : o.k = 8) (hok : o.ok) (hP : DkP w g F Q) (hR : RdV (fun k => F k ∨ D k) w Q tv sl) (ho : Q.Ok M) (hM : M ≤ 700000) (hF : ∀ k, F k → k < w.heap.size) (hD : ∀ k, D k → k < w.heap.size) :
    Calls Tryz.prog 31 #[ptrV g, .agg (Q.rcs tv sl).toArray, o.agg] w fun e w' => ChR w g F D (Q.stp o) w' e := by
  have hI := hP.idz
  have H0 := Lib.hid (Hf.begin o hP hR hF hD)
  have HX0 := Lib.hid (ex_3 w (.cells (Q.rcs tv sl).toArray 59) (.cells o.cs.toArray 68) (.cells zeroD.toArray 59))
  obtain ⟨tA, tc, sB, sn, sd, rfl, rfl⟩ := hR.shape
  obtain ⟨k, n, s, t, fk, fa⟩ := o
  obtain rfl : k = 8 := hk
  have hs : s.size ≤ 9223372036854775807 := hok.s
  have ht : t.size ≤ 9223372036854775807 := hok.t
  have hfs := fewS_size t
  obtain ⟨Q', qe, hq⟩ : ∃ Q' qe, Q.fault fk fa = (Q', qe) := ⟨_, _, rfl⟩
  have HE := Lib.hid (show Q.stp ⟨8, n, s, t, fk, fa⟩ = Q' from by rw [show Q.stp ⟨8, n, s, t, fk, fa⟩ = (Q.fault fk fa).1 from rfl, hq])
  have HCD := Lib.hid (fun (W : World) (hR : RdV (fun j => F j ∨ (D j ∨ (w.heap.size ≤ j ∧ j < w.heap.size + 3))) W Q (.slice tA Q.tapes.length tc) (.slice sB sn sd)) (hD : ∀ j, (F j ∨ (D j ∨ (w.heap.size ≤ j ∧ j < w.heap.size + 3))) → j < W.heap.size) => (And.intro ho (And.intro hM (rfault_calls fk fa hR))).2.2)
  have HCP := Lib.hid (fun (W : World) (h : DkP W g F Q) => dfault_calls h fk fa)
  rw [hq] at HCD HCP
  unfold DkV.rcs at HCD H0 HX0 ⊢
  clear hI hP hR ho hF hD hq
  generalize Q.tapes.length = tm at *
  unfold OpV.agg
  have hbw := Nat.le_refl w.heap.size
  go_enter Tryz.func31, Tryz.ntmps31
  go_wp2_with fail
  have H1 := H0
  have HX1 := HX0
  refine (HCD.out _ H1.out.doc H1.out.all).mono ?_
  rintro e w2 ⟨tv2, sl2, rfl, hR2, hX2⟩
  simp only at hR2
  obtain ⟨tA2, tc2, sB2, sn2, sd2, rfl, rfl⟩ := hR2.shape
  have HR2 := Lib.hid hR2
  have HXd2 := Lib.hid hX2
  have HX2 := Lib.hid (Ex.trans HX1.out hX2)
  have HB2 := Lib.hid (H1.out.cell.ex hX2)
  clear hR2 hX2
  generalize Q'.tapes.length = tm2 at *
  have HOn := Lib.hid (disk_one Q' tA2 tm2 tc2 sB2 sn2 sd2)
  unfold DkV.rcs at HOn ⊢
  go_wp2_with (refine st_agg 59 rfl (.tmp 4) (.tmp 76) rfl w.heap.size [.int .i64 Q.sec, .slice tA tm tc, .slice sB sn sd, .int .i64 Q.fu.p, .int .i64 Q.fu.s, .int .i64 Q.fu.d, .bool Q.fu.off, .int .i64 (Q.calls : Int)] [.int .i64 Q'.sec, .slice tA2 tm2 tc2, .slice sB2 sn2 sd2, .int .i64 Q'.fu.p, .int .i64 Q'.fu.s, .int .i64 Q'.fu.d, .bool Q'.fu.off, .int .i64 (Q'.calls : Int)] rfl rfl info_d11 rfl HOn.out HB2.out HX2.out hbw ?_; intro w3 k3 X3 g3; have H3 := Lib.hid (H1.out.stored (Qd' := Q') (tv' := .slice tA2 tm2 tc2) (sl' := .slice sB2 sn2 sd2) HR2.out HXd2.out (off_grown g3) k3); clear k3 X3 g3)
  obtain ⟨x0, x1, x2, x3, x4, x5, x6, x7⟩ := rd_cells H3.out.cell
  have p0 : w3.cell? ⟨w.heap.size + 1, 0, none⟩ = some (.int .i64 8) := H3.out.op.cell 0
  have p1 : w3.cell? ⟨w.heap.size + 1, 1, none⟩ = some (.int .i64 n) := H3.out.op.cell 1
  have p2 : w3.cell? ⟨w.heap.size + 1, 2, none⟩ = some (.string s) := H3.out.op.cell 2
  have p3 : w3.cell? ⟨w.heap.size + 1, 3, none⟩ = some (.string t) := H3.out.op.cell 3
  have p4 : w3.cell? ⟨w.heap.size + 1, 4, none⟩ = some (.int .i64 fk) := H3.out.op.cell 4
  have p5 : w3.cell? ⟨w.heap.size + 1, 5, none⟩ = some (.int .i64 fa) := H3.out.op.cell 5
  have hm1 : ¬ w.heap.size = w.heap.size + 2 := by omega
  have hm2 : ¬ w.heap.size + 2 = w.heap.size := by omega
  have hm3 : ¬ w.heap.size + 1 = w.heap.size + 2 := by omega
  have hm4 : ¬ w.heap.size + 2 = w.heap.size + 1 := by omega
  have hee : decide (qe = qe) = true := decide_eq_true rfl
  go_region_held3 (fun w' => w'.cell? ⟨w.heap.size, 0, none⟩ = some (.int .i64 Q'.sec) ∧ w'.cell? ⟨w.heap.size, 1, none⟩ = some (.slice tA2 tm2 tc2) ∧ w'.cell? ⟨w.heap.size, 2, none⟩ = some (.slice sB2 sn2 sd2) ∧ w'.cell? ⟨w.heap.size, 3, none⟩ = some (.int .i64 Q'.fu.p) ∧ w'.cell? ⟨w.heap.size, 4, none⟩ = some (.int .i64 Q'.fu.s) ∧ w'.cell? ⟨w.heap.size, 5, none⟩ = some (.int .i64 Q'.fu.d) ∧ w'.cell? ⟨w.heap.size, 6, none⟩ = some (.bool Q'.fu.off) ∧ w'.cell? ⟨w.heap.size, 7, none⟩ = some (.int .i64 (Q'.calls : Int)) ∧ w'.cell? ⟨w.heap.size + 1, 4, none⟩ = some (.int .i64 fk) ∧ w'.cell? ⟨w.heap.size + 1, 5, none⟩ = some (.int .i64 fa)) (go_keep) ((go_at_call 18; ((with_reducible refine (HCP.out _ (H3.out.grow (Ex.refl w3).drew).dk).mono ?_); rintro e w4 ⟨rfl, hd4, ho4⟩; have H4 := Lib.hid ((H3.out.grow (Ex.refl w3).drew).prog (hd4.more Fresh.same) ho4); obtain ⟨x0, x1, x2, x3, x4, x5, x6, x7⟩ := rd_cells H4.out.cell; have p4 : w4.cell? ⟨w.heap.size + 1, 4, none⟩ = some (.int .i64 fk) := H4.out.op.cell 4; have p5 : w4.cell? ⟨w.heap.size + 1, 5, none⟩ = some (.int .i64 fa) := H4.out.op.cell 5; obtain ⟨r0, r1, r2, r3, r4, r5, r6, r7⟩ := rz_cells H4.out.res; have f0 := H4.out.res.frozen 0; have f1 := H4.out.res.frozen 1; have f2 := H4.out.res.frozen 2; have f3 := H4.out.res.frozen 3; have f4 := H4.out.res.frozen 4; have f5 := H4.out.res.frozen 5; have f6 := H4.out.res.frozen 6; have f7 := H4.out.res.frozen 7; clear hd4 ho4)))
  go_wp2_with fail
  (try simp only [Exit.inBlock, Exit.then])
  refine bodyPost_ret (ret_agg2 rfl _ _ (w.heap.size + 2) [.int .i64 Q'.sec, .slice tA2 tm2 tc2, .slice sB2 sn2 sd2, .int .i64 Q'.fu.p, .int .i64 Q'.fu.s, .int .i64 Q'.fu.d, .bool Q'.fu.off, .int .i64 (Q'.calls : Int)] rfl (blk_set8 (rz_list H4.out.res) _ _ _ _ _ _ _ _) Tryz.underlying59 info_d11) rfl ?_
  rw [HE.out]
  exact H4.out.done (fun k hk => .inl hk) (off_set8 _ _ _ _ _ _ _ _ _ _) rfl
set_option maxHeartbeats 4000000 in
set_option maxRecDepth 100000 in
theorem stp7_calls {w : World} {g : Nat} {F D : Nat → Prop} {Q : DkV} {tv sl : Value} {M : Nat} (o : OpV) (hk : o.k = 7) (hok : o.ok) (hP : DkP w g F Q) (hR : RdV (fun k => F k ∨ D k) w Q tv sl) (ho : Q.Ok M) (hM : M ≤ 700000) (hF : ∀ k, F k → k < w.heap.size) (hD : ∀ k, D k → k < w.heap.size) :
    Calls Tryz.prog 31 #[ptrV g, .agg (Q.rcs tv sl).toArray, o.agg] w fun e w' => ChR w g F D (Q.stp o) w' e := by
  have hI := hP.idz
  have H0 := Lib.hid (Hf.begin o hP hR hF hD)
  have HX0 := Lib.hid (ex_3 w (.cells (Q.rcs tv sl).toArray 59) (.cells o.cs.toArray 68) (.cells zeroD.toArray 59))
  obtain ⟨tA, tc, sB, sn, sd, rfl, rfl⟩ := hR.shape
  obtain ⟨k, n, s, t, fk, fa⟩ := o
  obtain rfl : k = 7 := hk
  have hs : s.size ≤ 9223372036854775807 := hok.s
  have ht : t.size ≤ 9223372036854775807 := hok.t
  have hfs := fewS_size t
  obtain ⟨ra, re, hq⟩ : ∃ ra re, Q.read s = (ra, re) := ⟨_, _, rfl⟩
  have HE := Lib.hid (show Q.stp ⟨7, n, s, t, fk, fa⟩ = Q from rfl)
  have HCD := Lib.hid (fun (W : World) (hR : RdV (fun j => F j ∨ (D j ∨ (w.heap.size ≤ j ∧ j < w.heap.size + 3))) W Q (.slice tA Q.tapes.length tc) (.slice sB sn sd)) => rread_calls s hR ho (by omega) hI)
  have HCP := Lib.hid (fun (W : World) (h : DkP W g F Q) => dread_calls h ho (by omega) s hs)
  rw [hq] at HCD HCP
  unfold DkV.rcs at HCD H0 HX0 ⊢
  clear hI hP hR ho hF hD hq
  generalize Q.tapes.length = tm at *
  unfold OpV.agg
  go_enter Tryz.func31, Tryz.ntmps31
  go_wp2_with fail
  refine (HCP.out _ H0.out.dk).mono ?_
  rintro e w1 ⟨rfl, hb1⟩
  have H1 := Lib.hid (H0.out.grow hb1)
  obtain ⟨x0, x1, x2, x3, x4, x5, x6, x7⟩ := rd_cells H1.out.cell
  have p0 : w1.cell? ⟨w.heap.size + 1, 0, none⟩ = some (.int .i64 7) := H1.out.op.cell 0
  have p1 : w1.cell? ⟨w.heap.size + 1, 1, none⟩ = some (.int .i64 n) := H1.out.op.cell 1
  have p2 : w1.cell? ⟨w.heap.size + 1, 2, none⟩ = some (.string s) := H1.out.op.cell 2
  have p3 : w1.cell? ⟨w.heap.size + 1, 3, none⟩ = some (.string t) := H1.out.op.cell 3
  have p4 : w1.cell? ⟨w.heap.size + 1, 4, none⟩ = some (.int .i64 fk) := H1.out.op.cell 4
  have p5 : w1.cell? ⟨w.heap.size + 1, 5, none⟩ = some (.int .i64 fa) := H1.out.op.cell 5
  clear hb1
  go_wp2_with fail
  refine (HCD.out _ H1.out.doc).mono ?_
  rintro e w2 ⟨rfl, hb2⟩
  have H2 := Lib.hid (H1.out.grow hb2)
  obtain ⟨x0, x1, x2, x3, x4, x5, x6, x7⟩ := rd_cells H2.out.cell
  obtain ⟨r0, r1, r2, r3, r4, r5, r6, r7⟩ := rz_cells H2.out.res
  have f0 := H2.out.res.frozen 0
  have f1 := H2.out.res.frozen 1
  have f2 := H2.out.res.frozen 2
  have f3 := H2.out.res.frozen 3
  have f4 := H2.out.res.frozen 4
  have f5 := H2.out.res.frozen 5
  have f6 := H2.out.res.frozen 6
  have f7 := H2.out.res.frozen 7
  have hm1 : ¬ w.heap.size = w.heap.size + 2 := by omega
  have hm2 : ¬ w.heap.size + 2 = w.heap.size := by omega
  have hm3 : ¬ w.heap.size + 1 = w.heap.size + 2 := by omega
  have hm4 : ¬ w.heap.size + 2 = w.heap.size + 1 := by omega
  have hee : decide (re = re) = true := decide_eq_true rfl
  clear hb2
  go_wp2_with fail
  (try simp only [Exit.inBlock, Exit.then])
  refine bodyPost_ret (ret_agg2 rfl _ _ (w.heap.size + 2) [.int .i64 Q.sec, .slice tA tm tc, .slice sB sn sd, .int .i64 Q.fu.p, .int .i64 Q.fu.s, .int .i64 Q.fu.d, .bool Q.fu.off, .int .i64 (Q.calls : Int)] rfl (blk_set8 (rz_list H2.out.res) _ _ _ _ _ _ _ _) Tryz.underlying59 info_d11) rfl ?_
  rw [HE.out]
  exact H2.out.done (fun k hk => .inl hk) (off_set8 _ _ _ _ _ _ _ _ _ _) rfl
set_option maxHeartbeats 4000000 in
set_option maxRecDepth 100000 in
theorem stp9_calls {w : World} {g : Nat} {F D : Nat → Prop} {Q : DkV} {tv sl : Value} {M : Nat} (o : OpV) (hk : o.k = 9) (hok : o.ok) (hP : DkP w g F Q) (hR : RdV (fun k => F k ∨ D k) w Q tv sl) (ho : Q.Ok M) (hM : M ≤ 700000) (hF : ∀ k, F k → k < w.heap.size) (hD : ∀ k, D k → k < w.heap.size) :
    Calls Tryz.prog 31 #[ptrV g, .agg (Q.rcs tv sl).toArray, o.agg] w fun e w' => ChR w g F D (Q.stp o) w' e := by
  have hI := hP.idz
  have H0 := Lib.hid (Hf.begin o hP hR hF hD)
  have HX0 := Lib.hid (ex_3 w (.cells (Q.rcs tv sl).toArray 59) (.cells o.cs.toArray 68) (.cells zeroD.toArray 59))
  obtain ⟨tA, tc, sB, sn, sd, rfl, rfl⟩ := hR.shape
  obtain ⟨k, n, s, t, fk, fa⟩ := o
  obtain rfl : k = 9 := hk
  have hs : s.size ≤ 9223372036854775807 := hok.s
  have ht : t.size ≤ 9223372036854775807 := hok.t
  have hfs := fewS_size t
  have hch : (fewS t).size ≤ 4611686018427387904 := by omega
  obtain ⟨Q', qn, hq⟩ : ∃ Q' qn, Q.crash (fewS t) = (Q', qn) := ⟨_, _, rfl⟩
  have HE := Lib.hid (show Q.stp ⟨9, n, s, t, fk, fa⟩ = Q' from by rw [show Q.stp ⟨9, n, s, t, fk, fa⟩ = (Q.crash (fewS t)).1 from rfl, hq])
  have HCD := Lib.hid (fun (W : World) (hR : RdV (fun j => F j ∨ (D j ∨ (w.heap.size ≤ j ∧ j < w.heap.size + 3))) W Q (.slice tA Q.tapes.length tc) (.slice sB sn sd)) (hD : ∀ j, (F j ∨ (D j ∨ (w.heap.size ≤ j ∧ j < w.heap.size + 3))) → j < W.heap.size) => rcrash_calls (fewS t) hch hR ho (by omega) hI hD)
  have HCP := Lib.hid (fun (W : World) (h : DkP W g F Q) => dcrash_calls h ho (by omega) (fewS t) hch)
  rw [hq] at HCD HCP
  unfold DkV.rcs at HCD H0 HX0 ⊢
  clear hI hP hR ho hF hD hq
  generalize Q.tapes.length = tm at *
  unfold OpV.agg
  have hbw := Nat.le_refl w.heap.size
  have hm1 : ¬ w.heap.size = w.heap.size + 2 := by omega
  have hm2 : ¬ w.heap.size + 2 = w.heap.size := by omega
  have hm3 : ¬ w.heap.size + 1 = w.heap.size + 2 := by omega
  have hm4 : ¬ w.heap.size + 2 = w.heap.size + 1 := by omega
  have hee : decide ((qn : Int) = (qn : Int)) = true := decide_eq_true rfl
  go_enter Tryz.func31, Tryz.ntmps31
  go_wp2_with fail
  go_region_with (first
    | (go_at_call 90; ((with_reducible refine (few11_calls t _ ht).mono ?_); rintro e w1 ⟨rfl, hb1⟩; have HX1 := Lib.hid (Ex.trans (Ex.trans HX0.out (Ex.refl _).drew) hb1); have H1 := Lib.hid (H0.out.grow (Ex.trans (Ex.refl _).drew hb1)); obtain ⟨x0, x1, x2, x3, x4, x5, x6, x7⟩ := rd_cells H1.out.cell; have p3 : w1.cell? ⟨w.heap.size + 1, 3, none⟩ = some (.string t) := H1.out.op.cell 3; clear hb1))
    | (go_at_call 89; ((with_reducible refine (HCD.out _ H1.out.doc H1.out.all).mono ?_); rintro e w2 ⟨tv2, sl2, rfl, hR2, hX2⟩; simp only at hR2; obtain ⟨tA2, tc2, sB2, sn2, sd2, rfl, rfl⟩ := hR2.shape; have HR2 := Lib.hid hR2; have HXd2 := Lib.hid hX2; have HB2 := Lib.hid (H1.out.cell.ex hX2); clear hR2 hX2; generalize Q'.tapes.length = tm2 at *; obtain ⟨z0, z1, z2, z3, z4, z5, z6, z7⟩ := rd_cells HB2.out; have f0 := HB2.out.frozen 0; have f1 := HB2.out.frozen 1; have f2 := HB2.out.frozen 2; have f3 := HB2.out.frozen 3; have f4 := HB2.out.frozen 4; have f5 := HB2.out.frozen 5; have f6 := HB2.out.frozen 6; have f7 := HB2.out.frozen 7; unfold DkV.rcs)))
  all_goals
    have H3 := Lib.hid (H1.out.stored (Qd' := Q') (tv' := .slice tA2 tm2 tc2) (sl' := .slice sB2 sn2 sd2) HR2.out HXd2.out (off_set8 w2 w.heap.size (.int .i64 Q'.sec) (.slice tA2 tm2 tc2) (.slice sB2 sn2 sd2) (.int .i64 Q'.fu.p) (.int .i64 Q'.fu.s) (.int .i64 Q'.fu.d) (.bool Q'.fu.off) (.int .i64 (Q'.calls : Int))) (blk_set8 HB2.out _ _ _ _ _ _ _ _))
    clear x0 x1 x2 x3 x4 x5 x6 x7 p3 z0 z1 z2 z3 z4 z5 z6 z7 f0 f1 f2 f3 f4 f5 f6 f7
    generalize ((((((((w2.setCell ⟨w.heap.size, 0, none⟩ (.int .i64 Q'.sec)).setCell ⟨w.heap.size, 1, none⟩ (.slice tA2 tm2 tc2)).setCell ⟨w.heap.size, 2, none⟩ (.slice sB2 sn2 sd2)).setCell ⟨w.heap.size, 3, none⟩ (.int .i64 Q'.fu.p)).setCell ⟨w.heap.size, 4, none⟩ (.int .i64 Q'.fu.s)).setCell ⟨w.heap.size, 5, none⟩ (.int .i64 Q'.fu.d)).setCell ⟨w.heap.size, 6, none⟩ (.bool Q'.fu.off)).setCell ⟨w.heap.size, 7, none⟩ (.int .i64 (Q'.calls : Int))) = w3 at *
    obtain ⟨x0, x1, x2, x3, x4, x5, x6, x7⟩ := rd_cells H3.out.cell
    have p3 : w3.cell? ⟨w.heap.size + 1, 3, none⟩ = some (.string t) := H3.out.op.cell 3
    go_wp2_with fail
    go_region_held3 (fun w' => w'.cell? ⟨w.heap.size, 0, none⟩ = some (.int .i64 Q'.sec) ∧ w'.cell? ⟨w.heap.size, 1, none⟩ = some (.slice tA2 tm2 tc2) ∧ w'.cell? ⟨w.heap.size, 2, none⟩ = some (.slice sB2 sn2 sd2) ∧ w'.cell? ⟨w.heap.size, 3, none⟩ = some (.int .i64 Q'.fu.p) ∧ w'.cell? ⟨w.heap.size, 4, none⟩ = some (.int .i64 Q'.fu.s) ∧ w'.cell? ⟨w.heap.size, 5, none⟩ = some (.int .i64 Q'.fu.d) ∧ w'.cell? ⟨w.heap.size, 6, none⟩ = some (.bool Q'.fu.off) ∧ w'.cell? ⟨w.heap.size, 7, none⟩ = some (.int .i64 (Q'.calls : Int)) ∧ w'.cell? ⟨w.heap.size + 1, 3, none⟩ = some (.string t)) (go_keep) (first
      | (go_at_call 90; ((with_reducible refine (few11_calls t _ ht).mono ?_); rintro e w4 ⟨rfl, hb4⟩; have H4 := Lib.hid (H3.out.grow (Ex.trans (Ex.refl w3).drew hb4)); obtain ⟨x0, x1, x2, x3, x4, x5, x6, x7⟩ := rd_cells H4.out.cell; have p3 : w4.cell? ⟨w.heap.size + 1, 3, none⟩ = some (.string t) := H4.out.op.cell 3; clear hb4))
      | (go_at_call 22; ((with_reducible refine (HCP.out _ H4.out.dk).mono ?_); rintro e w5 ⟨rfl, hd5, ho5⟩; have H5 := Lib.hid (H4.out.prog hd5 ho5); obtain ⟨x0, x1, x2, x3, x4, x5, x6, x7⟩ := rd_cells H5.out.cell; have p3 : w5.cell? ⟨w.heap.size + 1, 3, none⟩ = some (.string t) := H5.out.op.cell 3; obtain ⟨r0, r1, r2, r3, r4, r5, r6, r7⟩ := rz_cells H5.out.res; have f0 := H5.out.res.frozen 0; have f1 := H5.out.res.frozen 1; have f2 := H5.out.res.frozen 2; have f3 := H5.out.res.frozen 3; have f4 := H5.out.res.frozen 4; have f5 := H5.out.res.frozen 5; have f6 := H5.out.res.frozen 6; have f7 := H5.out.res.frozen 7; clear hd5 ho5)))
    go_wp2_with fail
    (try simp only [Exit.inBlock, Exit.then])
    refine bodyPost_ret (ret_agg2 rfl _ _ (w.heap.size + 2) [.int .i64 Q'.sec, .slice tA2 tm2 tc2, .slice sB2 sn2 sd2, .int .i64 Q'.fu.p, .int .i64 Q'.fu.s, .int .i64 Q'.fu.d, .bool Q'.fu.off, .int .i64 (Q'.calls : Int)] rfl (blk_set8 (rz_list H5.out.res) _ _ _ _ _ _ _ _) Tryz.underlying59 info_d11) rfl ?_
    rw [HE.out]
    exact H5.out.done (fun k hk => .inl hk) (off_set8 _ _ _ _ _ _ _ _ _ _) rfl
set_option maxHeartbeats 4000000 in
set_option maxRecDepth 100000 in
theorem stpN_calls {w : World} {g : Nat} {F D : Nat → Prop} {Q : DkV} {tv sl : Value} {M : Nat} (o : OpV) (h3 : ¬ o.k = 3) (h6 : ¬ o.k = 6) (h7 : ¬ o.k = 7) (h8 : ¬ o.k = 8) (h9 : ¬ o.k = 9) (hok : o.ok) (hP : DkP w g F Q) (hR : RdV (fun k => F k ∨ D k) w Q tv sl) (ho : Q.Ok M) (hM : M ≤ 700000) (hF : ∀ k, F k → k < w.heap.size) (hD : ∀ k, D k → k < w.heap.size) :
    Calls Tryz.prog 31 #[ptrV g, .agg (Q.rcs tv sl).toArray, o.agg] w fun e w' => ChR w g F D (Q.stp o) w' e := by
  have hI := hP.idz
  have H0 := Lib.hid (Hf.begin o hP hR hF hD)
  have HX0 := Lib.hid (ex_3 w (.cells (Q.rcs tv sl).toArray 59) (.cells o.cs.toArray 68) (.cells zeroD.toArray 59))
  obtain ⟨tA, tc, sB, sn, sd, rfl, rfl⟩ := hR.shape
  obtain ⟨k, n, s, t, fk, fa⟩ := o
  have hs : s.size ≤ 9223372036854775807 := hok.s
  have ht : t.size ≤ 9223372036854775807 := hok.t
  have hfs := fewS_size t
  have HE := Lib.hid (show Q.stp ⟨k, n, s, t, fk, fa⟩ = Q.chg ⟨k, n, s, t, fk, fa⟩ from by unfold DkV.stp; rw [if_neg h3, if_neg h6, if_neg h7, if_neg h8, if_neg h9])
  have d3 : decide (k = 3) = false := decide_eq_false h3
  have e3 : (k == 3) = false := beq_eq_false_iff_ne.2 h3
  have d6 : decide (k = 6) = false := decide_eq_false h6
  have e6 : (k == 6) = false := beq_eq_false_iff_ne.2 h6
  have d7 : decide (k = 7) = false := decide_eq_false h7
  have e7 : (k == 7) = false := beq_eq_false_iff_ne.2 h7
  have d8 : decide (k = 8) = false := decide_eq_false h8
  have e8 : (k == 8) = false := beq_eq_false_iff_ne.2 h8
  have d9 : decide (k = 9) = false := decide_eq_false h9
  have e9 : (k == 9) = false := beq_eq_false_iff_ne.2 h9
  have hcc := chg_calls ⟨k, n, s, t, fk, fa⟩ hok H0.out.dk H0.out.doc ho hM H0.out.lt H0.out.dlt
  unfold DkV.rcs OpV.agg at hcc
  have HCC := Lib.hid hcc
  have hFl := Lib.hid hF
  unfold DkV.rcs at H0 HX0 ⊢
  clear hcc hI hP hR ho hF hD h3 h6 h7 h8 h9
  generalize Q.tapes.length = tm at *
  unfold OpV.agg
  go_enter Tryz.func31, Tryz.ntmps31
  go_wp2_with fail
  refine HCC.out.mono ?_
  rintro e w1 ⟨tv1, sl1, F1, rfl, hd1, hR1, hF1, hN1, ho1⟩
  obtain ⟨tA2, tc2, sB2, sn2, sd2, rfl, rfl⟩ := hR1.shape
  generalize (Q.chg ⟨k, n, s, t, fk, fa⟩) = Q' at *
  have HR1 := Lib.hid hR1
  have HD1 := Lib.hid hd1
  have HO1 := Lib.hid ho1
  have HRes := Lib.hid (H0.out.res.off ho1 H0.out.nb6)
  have hz0 := H0.out.res.lt
  have HNB := Lib.hid (fun k hk => show k ≠ w.heap.size + 2 from fun e => by
    rcases hN1 k hk with h1 | h1
    · have := hFl.out k h1; omega
    · omega)
  have HF1 := Lib.hid hF1
  have HN1 := Lib.hid hN1
  have hzw := HX0.out.size
  clear hd1 hR1 ho1 hF1 hN1
  generalize Q'.tapes.length = tm2 at *
  unfold DkV.rcs
  obtain ⟨r0, r1, r2, r3, r4, r5, r6, r7⟩ := rz_cells HRes.out
  have f0 := HRes.out.frozen 0
  have f1 := HRes.out.frozen 1
  have f2 := HRes.out.frozen 2
  have f3 := HRes.out.frozen 3
  have f4 := HRes.out.frozen 4
  have f5 := HRes.out.frozen 5
  have f6 := HRes.out.frozen 6
  have f7 := HRes.out.frozen 7
  have hm1 : ¬ w.heap.size = w.heap.size + 2 := by omega
  have hm2 : ¬ w.heap.size + 2 = w.heap.size := by omega
  have hm3 : ¬ w.heap.size + 1 = w.heap.size + 2 := by omega
  have hm4 : ¬ w.heap.size + 2 = w.heap.size + 1 := by omega
  go_wp2_with fail
  (try simp only [Exit.inBlock, Exit.then])
  refine bodyPost_ret (ret_agg2 rfl _ _ (w.heap.size + 2) [.int .i64 Q'.sec, .slice tA2 tm2 tc2, .slice sB2 sn2 sd2, .int .i64 Q'.fu.p, .int .i64 Q'.fu.s, .int .i64 Q'.fu.d, .bool Q'.fu.off, .int .i64 (Q'.calls : Int)] rfl (blk_set8 (rz_list HRes.out) _ _ _ _ _ _ _ _) Tryz.underlying59 info_d11) rfl ?_
  rw [HE.out]
  have hO2 := off_set8 w1 (w.heap.size + 2) (.int .i64 Q'.sec) (.slice tA2 tm2 tc2) (.slice sB2 sn2 sd2) (.int .i64 Q'.fu.p) (.int .i64 Q'.fu.s) (.int .i64 Q'.fu.d) (.bool Q'.fu.off) (.int .i64 (Q'.calls : Int))
  exact ⟨_, _, F1, rfl, HD1.out.off hO2 (fun k _ hk e => HNB.out k hk e), (HR1.out.offs hO2 fun k (e : k = w.heap.size + 2) => .inr (.inr ⟨by omega, by omega⟩)).less (fun k hk => hk.imp id .inl), fun k hk => Nat.lt_of_lt_of_le (HF1.out k hk) hO2.size, fun k hk => (HN1.out k hk).imp id (fun h => by omega), ((HX0.out.off F).then HO1.out (fun k _ hk => hk)).then hO2 (fun k hk (e : k = w.heap.size + 2) => by omega)⟩
theorem stp_calls {w : World} {g : Nat} {F D : Nat → Prop} {Q : DkV} {tv sl : Value} {M : Nat} (o : OpV) (hok : o.ok) (hP : DkP w g F Q) (hR : RdV (fun k => F k ∨ D k) w Q tv sl) (ho : Q.Ok M) (hM : M ≤ 700000) (hF : ∀ k, F k → k < w.heap.size) (hD : ∀ k, D k → k < w.heap.size) :
    Calls Tryz.prog 31 #[ptrV g, .agg (Q.rcs tv sl).toArray, o.agg] w fun e w' => ChR w g F D (Q.stp o) w' e := by
  by_cases h3 : o.k = 3
  · exact stp3_calls o h3 hok hP hR ho hM hF hD
  by_cases h6 : o.k = 6
  · exact stp6_calls o h6 hok hP hR ho hM hF hD
  by_cases h7 : o.k = 7
  · exact stp7_calls o h7 hok hP hR ho hM hF hD
  by_cases h8 : o.k = 8
  · exact stp8_calls o h8 hok hP hR ho hM hF hD
  by_cases h9 : o.k = 9
  · exact stp9_calls o h9 hok hP hR ho hM hF hD
  exact stpN_calls o h3 h6 h7 h8 h9 hok hP hR ho hM hF hD
end Go.Proofs.YtcffkmlnbnjibaaGreat
