/- The walk of SimdiskPlays. -/
import Derived.Test.YtcffkmlnbnjibaaGreatPz0
namespace Go.Proofs.YtcffkmlnbnjibaaGreat
open Go.RowKit Go.Maps
theorem Row.opv {w : World} {A : Option Addr} {n : Nat} {l : List OpV} (h : Row w 6 A n (l.flatMap OpV.cs)) {i : Nat} {o : OpV} (hi : l[i]? = some o) :
    ∃ b p, A = some ⟨b, p, none⟩ ∧ w.cell? ⟨b, p + i * 6, none⟩ = some (.int .i64 o.k) ∧ w.cell? ⟨b, p + i * 6 + 1, none⟩ = some (.int .i64 o.n) ∧ w.cell? ⟨b, p + i * 6 + 2, none⟩ = some (.string o.s) ∧ w.cell? ⟨b, p + i * 6 + 3, none⟩ = some (.string o.t) ∧ w.cell? ⟨b, p + i * 6 + 4, none⟩ = some (.int .i64 o.fk) ∧ w.cell? ⟨b, p + i * 6 + 5, none⟩ = some (.int .i64 o.fa) := by
  obtain ⟨hl, e⟩ := List.getElem?_eq_some_iff.1 hi
  have hn : n = l.length := by have := h.1; rw [flat_len OpV.cs 6 (fun _ => rfl)] at this; omega
  obtain ⟨b, p, ea, hc⟩ := h.2 (by omega)
  have h0 : ∀ j, j < 6 → (l.flatMap OpV.cs)[i * 6 + j]? = (OpV.cs o)[j]? := fun j hj => flat_get OpV.cs 6 (fun _ => rfl) l i o j hi hj
  exact ⟨b, p, ea, hc (i * 6) _ (h0 0 (by omega)), hc (i * 6 + 1) _ (h0 1 (by omega)), hc (i * 6 + 2) _ (h0 2 (by omega)), hc (i * 6 + 3) _ (h0 3 (by omega)), hc (i * 6 + 4) _ (h0 4 (by omega)), hc (i * 6 + 5) _ (h0 5 (by omega))⟩
theorem Row.opv_len {w : World} {A : Option Addr} {n : Nat} {l : List OpV} (h : Row w 6 A n (l.flatMap OpV.cs)) : l.length = n := by
  have := h.1; rw [flat_len OpV.cs 6 (fun _ => rfl)] at this; omega
section
variable {w0 w w' : World} {g g2 b9 : Nat} {F F' F2 : Nat → Prop} {Qp Qo Qo' Qd Q Q' : DkV} {tv sl : Value}
theorem Half.turn (h : Half w0 w g b9 F Qp Qd tv sl) (hd : DkP w' g F' Q') (hl : ∀ k, F' k → k < w'.heap.size) (hN : ∀ k, F' k → F k ∨ w.heap.size ≤ k) (ho : Off F w w') : Half w0 w' g b9 F' Q' Qd tv sl := by
  have hz := h.ex.size
  refine ⟨hd, hl, fun k hk => ?_, ?_, h.cell.off ho h.nb, fun hf => ?_, h.b0, ?_⟩
  · rcases hN k hk with h1 | h1
    · exact h.new k h1
    · omega
  · refine (h.doc.fresh (ho.mono fun k _ hk => .inl hk)).less fun k hk => ?_
    rcases hk with hk | hk
    · rcases hN k hk with h1 | h1
      · exact .inl (.inl h1)
      · exact .inr ⟨h1, hl k hk⟩
    · exact .inl (.inr hk)
  · have := h.cell.lt
    rcases hN _ hf with h1 | h1
    · exact h.nb h1
    · omega
  · exact new_off h.ex (ho.mono fun k _ hk => h.new k hk)
/-- A disk, and one that was copied of it, which goes on in its place. -/
structure Both (w0 w : World) (g g2 b9 : Nat) (F F2 : Nat → Prop) (Qo Q : DkV) (tv sl : Value) : Prop where
  dko : DkP w g F Qo
  dk : DkP w g2 F2 Q
  lto : ∀ k, F k → k < w.heap.size
  lt : ∀ k, F2 k → k < w.heap.size
  newo : ∀ k, F k → w0.heap.size ≤ k
  new : ∀ k, F2 k → w0.heap.size ≤ k
  dis : ∀ k, F k → ¬ F2 k
  doc : RdV (fun k => F k ∨ F2 k ∨ k = b9) w Q tv sl
  cell : Blk w b9 59 (Q.rcs tv sl)
  nb : ¬ F b9
  nb2 : ¬ F2 b9
  b0 : w0.heap.size ≤ b9
  ex : Ex w0 w
theorem Both.start (h : Half w0 w g b9 F Q Q tv sl) (hX : Ex w w') (hd : DkP w' g2 (Fresh (fun _ => False) w w') Q) : Both w0 w' g g2 b9 F (Fresh (fun _ => False) w w') Q Q tv sl := by
  have hz := h.ex.size
  have hn : ∀ k, Fresh (fun _ => False) w w' k → w.heap.size ≤ k ∧ k < w'.heap.size := fun k hk => by
    rcases hk with hk | hk
    · exact hk.elim
    · exact hk
  refine ⟨h.dk.ex hX, hd, fun k hk => Nat.lt_of_lt_of_le (h.lt k hk) hX.size, fun k hk => (hn k hk).2, h.new, fun k hk => by have := hn k hk; omega, fun k hk h2 => by have := hn k h2; have := h.lt k hk; omega, ?_, h.cell.ex hX, h.nb, fun hf => by have := hn _ hf; have := h.cell.lt; omega, h.b0, h.ex.trans hX⟩
  refine (h.doc.fresh (hX.off _)).less fun k hk => ?_
  rcases hk with hk | hk | hk
  · exact .inl (.inl hk)
  · exact .inr (hn k hk)
  · exact .inl (.inr hk)
theorem Both.old (h : Both w0 w g g2 b9 F F2 Qo Q tv sl) (hd : DkP w' g (Fresh F w w') Qo') (ho : Off F w w') : Both w0 w' g g2 b9 (Fresh F w w') F2 Qo' Q tv sl := by
  have hz := h.ex.size
  have hn : ∀ k, k < w.heap.size → ¬ F k → ¬ Fresh F w w' k := fun k hk hf hk' => by
    rcases hk' with hk' | hk'
    · exact hf hk'
    · omega
  refine ⟨hd, h.dk.off ho fun k _ h2 h1 => h.dis k h1 h2, fun k hk => ?_, fun k hk => Nat.lt_of_lt_of_le (h.lt k hk) ho.size, fun k hk => ?_, h.new, fun k hk h2 => hn k (h.lt k h2) (fun h1 => h.dis k h1 h2) hk, ?_, h.cell.off ho h.nb, hn _ h.cell.lt h.nb, h.nb2, h.b0, new_off h.ex (ho.mono fun k _ hk => h.newo k hk)⟩
  · rcases hk with hk | hk
    · exact Nat.lt_of_lt_of_le (h.lto k hk) ho.size
    · exact hk.2
  · rcases hk with hk | hk
    · exact h.newo k hk
    · omega
  · refine (h.doc.fresh (ho.mono fun k _ hk => .inl hk)).less fun k hk => ?_
    rcases hk with (hk | hk) | hk
    · exact .inl (.inl hk)
    · exact .inr hk
    · exact .inl (.inr hk)
theorem Both.half (h : Both w0 w g g2 b9 F F2 Qo Q tv sl) : Half w0 w g2 b9 F2 Q Q tv sl :=
  ⟨h.dk, h.lt, h.new, h.doc.less fun _ hk => .inr hk, h.cell, h.nb2, h.b0, h.ex⟩
end
set_option maxHeartbeats 4000000 in
set_option maxRecDepth 100000 in
theorem pzplays_calls (n : Int) (A : Option Addr) (c : Nat) (l : List OpV) (w : World) (hr : Row w 6 A l.length (l.flatMap OpV.cs)) (hl : ∀ o ∈ l, o.ok) :
    Calls Tryz.prog 5 #[.int .i64 n, .slice A l.length c] w fun e w' => e = .returned (.bool true) ∧ Ex w w' := by
  have HR := Lib.hid hr
  have HL := Lib.hid hl
  clear hr hl
  by_cases hn : n < 1 ∨ 4096 < n
  case pos =>
    go_enter Tryz.func5, Tryz.ntmps5
    go_wp2_with fail
    refine (dnew_no n _ hn).mono ?_
    rintro e w1 ⟨rfl, hb1⟩
    have HX1 := Lib.hid hb1
    clear hb1
    go_wp2_with fail
    refine (rnew_calls (F := fun _ => False) n _ (fun k hk => hk.elim)).mono ?_
    rintro e w2 ⟨hN, hb2⟩
    have hN2 : e = .returned (.tuple #[.agg zeroD.toArray, .int .i64 2]) := by
      rcases hN with ⟨_, h⟩ | ⟨h, _⟩
      · exact h
      · omega
    subst hN2
    have HX2 := Lib.hid (Ex.trans HX1.out hb2)
    clear hN hb2
    unfold zeroD
    go_wp2_with fail
    have HX3 := Lib.hid (ex_alloc HX2.out (.cells #[.int .i64 0, .slice none 0 0, .slice none 0 0, .int .i64 0, .int .i64 0, .int .i64 0, .bool false, .int .i64 0] 59))
    go_loopw [5, 9] (fun v5 v9 wr => v5 = .pointer none ∧ v9 = .int .i64 0 ∧ Ex w wr) (fun _ _ _ => 0)
    case atStart => exact ⟨rfl, rfl, HX3.out⟩
    case round =>
      obtain ⟨rfl, rfl, hx⟩ := hrel
      have HX := Lib.hid hx
      clear hx
      by_cases h0 : 0 < l.length
      case' pos => have d0 : decide ((0 : Int) < (l.length : Int)) = true := decide_eq_true (by omega)
      case' neg => have d0 : decide ((0 : Int) < (l.length : Int)) = false := decide_eq_false (by omega)
      all_goals
        go_wp2_with fail
        refine (dlives_calls _).mono ?_
        rintro e wl ⟨rfl, hbl⟩
        go_wp2_with fail
        go_ret
        exact ⟨rfl, HX.out.trans hbl⟩
  case neg =>
    have hn1 : 1 ≤ n := by omega
    have hn2 : n ≤ 4096 := by omega
    have HF0 := Lib.hid (fresh_ok (n := n) hn1 hn2)
    clear hn
    go_enter Tryz.func5, Tryz.ntmps5
    go_wp2_with fail
    refine (dnew_calls n _ hn1 hn2).mono ?_
    rintro e w1 ⟨⟨g, rfl, hg, hP⟩, hb1⟩
    have HX1 := Lib.hid hb1
    have HP := Lib.hid hP
    have hz1 := hb1.size
    clear hP hb1
    go_wp2_with fail
    refine (rnew_calls (F := Fresh (fun _ => False) w w1) n _ (fun k hk => by rcases hk with hk | hk; exact hk.elim; exact hk.2)).mono ?_
    rintro e w2 ⟨hN, hb2⟩
    obtain ⟨v, rfl, tv, sl, rfl, hR⟩ : ∃ v, e = .returned (.tuple #[v, .int .i64 0]) ∧ DocP (Fresh (fun _ => False) w w1) w2 v (DkV.fresh n) := by
      rcases hN with ⟨h, _⟩ | ⟨_, h⟩
      · omega
      · exact h
    clear hN
    obtain ⟨Q0, hQ0⟩ : ∃ Q0, DkV.fresh n = Q0 := ⟨_, rfl⟩
    rw [hQ0] at HP HF0 hR ⊢
    clear hQ0
    have hz2 := hb2.size
    have hE3 := Ex.trans hb2 (ex_alloc (Ex.refl w2) (.cells (Q0.rcs tv sl).toArray 59))
    have hfl : ∀ k, Fresh (fun _ => False) w w1 k → w.heap.size ≤ k ∧ k < w1.heap.size := fun k hk => by
      rcases hk with hk | hk
      · exact hk.elim
      · exact hk
    have HH := Lib.hid (show Half w (w2.alloc (.cells (Q0.rcs tv sl).toArray 59)) g w2.heap.size (Fresh (fun _ => False) w w1) Q0 Q0 tv sl from
      ⟨HP.out.ex hE3, fun k hk => by have := hfl k hk; have := hE3.size; omega, fun k hk => (hfl k hk).1, (hR.fresh ((ex_alloc (Ex.refl w2) (.cells (Q0.rcs tv sl).toArray 59)).off _)).less (fun k hk => by
        rcases hk with hk | rfl
        · exact .inl hk
        · exact .inr ⟨Nat.le_refl _, by simp⟩), Blk.new w2 _ _, fun hf => by have := hfl _ hf; omega, by omega, HX1.out.trans hE3⟩)
    obtain ⟨tA, tc, sB, sn, sd, rfl, rfl⟩ := hR.shape
    have hgn : ¬ (ptrV g = .pointer none) := by intro h; cases h
    have hb9w : w.heap.size ≤ w2.heap.size := by omega
    clear hR hE3 hfl hb2 HP hz1 hz2
    generalize hbw : w2.heap.size = b9 at *
    generalize Q0.tapes.length = tm at *
    unfold DkV.rcs
    go_wp2_with fail
    clear hgn
    go_loopw [5, 9] (fun v5 v9 wr => ∃ (k g : Nat) (F : Nat → Prop) (Q : DkV) (tv sl : Value), k ≤ l.length ∧ k ≤ 30 ∧ v9 = .int .i64 (k : Int) ∧ v5 = ptrV g ∧ Half w wr g b9 F Q Q tv sl ∧ Q.Ok (2 * k)) (fun _ v9 _ => l.length - (intOf v9).toNat)
    case atStart => exact ⟨0, g, _, Q0, _, _, Nat.zero_le _, by omega, rfl, rfl, HH.out, HF0.out⟩
    case round =>
      clear HH HF0
      obtain ⟨k, g, F, Q, tv, sl, hk, hk3, rfl, rfl, hh, hok⟩ := hrel
      have HOK := Lib.hid hok
      have hgn : ¬ (ptrV g = .pointer none) := by intro h; cases h
      have hkI3 : decide ((k : Int) < 30) = decide (k < 30) := by
        by_cases h : k < 30
        · rw [decide_eq_true h, decide_eq_true (by omega)]
        · rw [decide_eq_false h, decide_eq_false (by omega)]
      by_cases hlt : k < l.length
      case neg =>
        have d0 : decide ((k : Int) < (l.length : Int)) = false := decide_eq_false (by omega)
        have HX := Lib.hid hh.ex
        clear hh hok hkI3
        go_wp2_with fail
        refine (dlives_calls _).mono ?_
        rintro e wl ⟨rfl, hbl⟩
        go_wp2_with fail
        go_ret
        exact ⟨rfl, HX.out.trans hbl⟩
      have d0 : decide ((k : Int) < (l.length : Int)) = true := decide_eq_true (by omega)
      by_cases hl3 : k < 30
      case neg =>
        have d3 : decide ((k : Int) < 30) = false := decide_eq_false (by omega)
        have HX := Lib.hid hh.ex
        clear hh hok hkI3
        go_wp2_with fail
        refine (dlives_calls _).mono ?_
        rintro e wl ⟨rfl, hbl⟩
        go_wp2_with fail
        go_ret
        exact ⟨rfl, HX.out.trans hbl⟩
      have d3 : decide ((k : Int) < 30) = true := decide_eq_true (by omega)
      clear hkI3
      obtain ⟨o, ho⟩ : ∃ o, l[k]? = some o := ⟨_, List.getElem?_eq_getElem hlt⟩
      obtain ⟨ob, op, eA, c0, c1, c2, c3, c4, c5⟩ := HR.out.opv ho
      have hoo := HL.out o (List.mem_of_getElem? ho)
      obtain ⟨kd, nn, ss, tt, fk, fa⟩ := o
      simp only at c0 c1 c2 c3 c4 c5
      subst eA
      have hobl := World.block_lt_of_cell? w _ c0
      simp only at hobl
      have p0 := hh.ex.cell c0
      have p1 := hh.ex.cell c1
      have p2 := hh.ex.cell c2
      have p3 := hh.ex.cell c3
      have p4 := hh.ex.cell c4
      have p5 := hh.ex.cell c5
      have hkI : (k : Int) < (l.length : Int) := by omega
      have hk0 : (0 : Int) ≤ (k : Int) := by omega
      have hkn : ((k : Int)).toNat = k := by omega
      have hkw : IntKind.i64.wrap ((k : Int) + 1) = (k : Int) + 1 := IntWalk.i64_in _ (by omega)
      clear c0 c1 c2 c3 c4 c5 ho
      by_cases h10 : kd = 10
      case pos =>
        subst h10
        have H := Lib.hid hh
        clear hh hok
        go_wp2_with fail
        refine (dcopy_calls H.out.dk HOK.out (by omega)).mono ?_
        rintro e w3 ⟨g2, rfl, _, hd2, hb2⟩
        have HB := Lib.hid (Both.start H.out hb2 hd2)
        clear hd2 hb2
        go_wp2_with fail
        refine (dcreate_calls HB.out.dko HOK.out (by omega) _ (by decide)).mono ?_
        rintro e w4 ⟨rfl, hd4, ho4⟩
        have HB4 := Lib.hid (HB.out.old hd4 ho4)
        have HO4 := Lib.hid (create_ok (s := ⟨#[111, 118, 101, 114]⟩) HOK.out (by omega) (by decide))
        clear hd4 ho4
        go_wp2_with fail
        refine (dappend_calls HB4.out.dko HO4.out (by omega) _ _ (by decide) (by decide)).mono ?_
        rintro e w5 ⟨rfl, hd5, ho5⟩
        have HB5 := Lib.hid (HB4.out.old hd5 ho5)
        have HO5 := Lib.hid (append_ok (s := ⟨#[97]⟩) (x := ⟨#[111, 118, 101, 114]⟩) HO4.out)
        clear hd5 ho5
        go_wp2_with fail
        refine (dcrash_calls HB5.out.dko HO5.out (by omega) _ (by decide)).mono ?_
        rintro e w6 ⟨rfl, hd6, ho6⟩
        have HB6 := Lib.hid (HB5.out.old hd6 ho6)
        clear hd6 ho6
        go_wp2_with fail
        exact ⟨⟨k + 1, g2, _, Q, _, _, by omega, by omega, by go_num, rfl, HB6.out.half, HOK.out.up (by omega)⟩, by simp [intOf]; omega⟩
      case neg =>
        have d10 : decide (kd = 10) = false := decide_eq_false h10
        have e10 : (kd == 10) = false := beq_eq_false_iff_ne.2 h10
        obtain ⟨tA, tc, sB, sn, sd, rfl, rfl⟩ := hh.doc.shape
        obtain ⟨Q', hQ'⟩ : ∃ Q', Q.stp ⟨kd, nn, ss, tt, fk, fa⟩ = Q' := ⟨_, rfl⟩
        have HOK' := Lib.hid (show Q'.Ok (2 * (k + 1)) from by rw [← hQ']; exact (stp_ok hok (by omega) hoo).up (by omega))
        have HCS := Lib.hid (fun (D : Nat → Prop) (W : World) (hP : DkP W g F Q) (hR : RdV (fun k => F k ∨ D k) W Q (.slice tA Q.tapes.length tc) (.slice sB sn sd)) (hF : ∀ k, F k → k < W.heap.size) (hD : ∀ k, D k → k < W.heap.size) => stp_calls ⟨kd, nn, ss, tt, fk, fa⟩ hoo hP hR hok (by omega) hF hD)
        rw [hQ'] at HCS
        unfold DkV.rcs OpV.agg at HCS
        have H := Lib.hid hh
        have hb9l := hh.cell.lt
        have hm1 : ¬ wr.heap.size = b9 := by omega
        have hm2 : ¬ b9 = wr.heap.size := by omega
        have hobr : ob < wr.heap.size := by have := hh.ex.size; omega
        have hm3 : ¬ wr.heap.size = ob := by omega
        have hm4 : ¬ ob = wr.heap.size := by omega
        have hfb : ¬ F ob := fun hf => by have := hh.new _ hf; omega
        obtain ⟨x0, x1, x2, x3, x4, x5, x6, x7⟩ := rd_cells hh.cell
        have HA := Lib.hid (hh.grow (Ex.refl wr).drew)
        have HAD := Lib.hid (fun j (e : (fun j => j = b9) j) => show j < wr.drew.heap.size from by have e : j = b9 := e; have := (hh.grow (Ex.refl wr).drew).cell.lt; omega)
        have hXB := (ex_alloc (Ex.refl wr) (.cells #[.int .i64 0, .slice none 0 0, .slice none 0 0, .int .i64 0, .int .i64 0, .int .i64 0, .bool false, .int .i64 0] 59)).drew
        have HB := Lib.hid (hh.grow hXB)
        have HBX := Lib.hid hXB
        have hszw : (wr.alloc (.cells #[.int .i64 0, .slice none 0 0, .slice none 0 0, .int .i64 0, .int .i64 0, .int .i64 0, .bool false, .int .i64 0] 59)).drew.heap.size = wr.heap.size + 1 := by simp
        have hszb := hXB.size
        have HBD := Lib.hid (fun j (e : (fun j => j = b9 ∨ j = wr.heap.size) j) => show j < (wr.alloc (.cells #[.int .i64 0, .slice none 0 0, .slice none 0 0, .int .i64 0, .int .i64 0, .int .i64 0, .bool false, .int .i64 0] 59)).drew.heap.size from by have e : j = b9 ∨ j = wr.heap.size := e; rw [hszw]; omega)
        have HBR := Lib.hid (show RdV (fun j => F j ∨ (fun j => j = b9 ∨ j = wr.heap.size) j) (wr.alloc (.cells #[.int .i64 0, .slice none 0 0, .slice none 0 0, .int .i64 0, .int .i64 0, .int .i64 0, .bool false, .int .i64 0] 59)).drew Q (.slice tA Q.tapes.length tc) (.slice sB sn sd) from (hh.doc.fresh (Ex.off (w := wr) hXB _)).less fun j hj => by
          rcases hj with hj | hj | hj
          · exact .inl (.inl hj)
          · exact .inl (.inr hj)
          · exact .inr ⟨by omega, by rw [hszw]; omega⟩)
        have HBZ := Lib.hid (show Blk (wr.alloc (.cells #[.int .i64 0, .slice none 0 0, .slice none 0 0, .int .i64 0, .int .i64 0, .int .i64 0, .bool false, .int .i64 0] 59)).drew wr.heap.size 59 zeroD from Blk.new wr zeroD 59)
        have HBN := Lib.hid (show ¬ F wr.heap.size from fun hf => by have := hh.lt _ hf; omega)
        have hszw2 := hszw
        clear hh hok hQ' hXB hszw
        generalize Q.tapes.length = tm at *
        go_wp2_with fail
        go_region_held3 (fun w' => w'.cell? ⟨b9, 0, none⟩ = some (.int .i64 Q.sec) ∧ w'.cell? ⟨b9, 1, none⟩ = some (.slice tA tm tc) ∧ w'.cell? ⟨b9, 2, none⟩ = some (.slice sB sn sd) ∧ w'.cell? ⟨b9, 3, none⟩ = some (.int .i64 Q.fu.p) ∧ w'.cell? ⟨b9, 4, none⟩ = some (.int .i64 Q.fu.s) ∧ w'.cell? ⟨b9, 5, none⟩ = some (.int .i64 Q.fu.d) ∧ w'.cell? ⟨b9, 6, none⟩ = some (.bool Q.fu.off) ∧ w'.cell? ⟨b9, 7, none⟩ = some (.int .i64 (Q.calls : Int)) ∧ w'.cell? ⟨ob, op + k * 6, none⟩ = some (.int .i64 kd) ∧ w'.cell? ⟨ob, op + k * 6 + 1, none⟩ = some (.int .i64 nn) ∧ w'.cell? ⟨ob, op + k * 6 + 2, none⟩ = some (.string ss) ∧ w'.cell? ⟨ob, op + k * 6 + 3, none⟩ = some (.string tt) ∧ w'.cell? ⟨ob, op + k * 6 + 4, none⟩ = some (.int .i64 fk) ∧ w'.cell? ⟨ob, op + k * 6 + 5, none⟩ = some (.int .i64 fa)) (go_keep) (first
          | (go_at_call 31; ((with_reducible refine (HCS.out (fun j => j = b9) _ HA.out.dk HA.out.doc HA.out.lt HAD.out).mono ?_); rintro e w4 ⟨tv4, sl4, F4, rfl, hd4, hR4, hF4, hN4, ho4⟩; obtain ⟨tA4, tc4, sB4, sn4, sd4, rfl, rfl⟩ := hR4.shape; have HO4 := Lib.hid ((Ex.off (w := wr) (Ex.refl wr).drew F).trans ho4); have HT4 := Lib.hid (H.out.turn hd4 hF4 (fun k hk => (hN4 k hk).imp id (fun h => h)) HO4.out); have HR4 := Lib.hid hR4; have HD4 := Lib.hid hd4; have HF4 := Lib.hid hF4; have HN4 := Lib.hid hN4; obtain ⟨x0, x1, x2, x3, x4, x5, x6, x7⟩ := rd_cells HT4.out.cell; have p0 := HO4.out.cell p0 hfb; have p1 := HO4.out.cell p1 hfb; have p2 := HO4.out.cell p2 hfb; have p3 := HO4.out.cell p3 hfb; have p4 := HO4.out.cell p4 hfb; have p5 := HO4.out.cell p5 hfb; clear hd4 hR4 hF4 hN4 ho4; generalize Q'.tapes.length = tm4 at *; unfold DkV.rcs))
          | (go_at_call 31; ((with_reducible refine (HCS.out (fun j => j = b9 ∨ j = wr.heap.size) _ HB.out.dk HBR.out HB.out.lt HBD.out).mono ?_); rintro e w4 ⟨tv4, sl4, F4, rfl, hd4, hR4, hF4, hN4, ho4⟩; obtain ⟨tA4, tc4, sB4, sn4, sd4, rfl, rfl⟩ := hR4.shape; have HO4 := Lib.hid ((Ex.off (w := wr) HBX.out F).trans ho4); have HZ4 := Lib.hid (HBZ.out.off ho4 HBN.out); have HT4 := Lib.hid (H.out.turn hd4 hF4 (fun k hk => (hN4 k hk).imp id (fun h => Nat.le_trans hszb h)) HO4.out); have HR4 := Lib.hid hR4; have HD4 := Lib.hid hd4; have HF4 := Lib.hid hF4; have HN4 := Lib.hid hN4; obtain ⟨x0, x1, x2, x3, x4, x5, x6, x7⟩ := rd_cells HT4.out.cell; have p0 := HO4.out.cell p0 hfb; have p1 := HO4.out.cell p1 hfb; have p2 := HO4.out.cell p2 hfb; have p3 := HO4.out.cell p3 hfb; have p4 := HO4.out.cell p4 hfb; have p5 := HO4.out.cell p5 hfb; clear hd4 hR4 hF4 hN4 ho4; generalize Q'.tapes.length = tm4 at *; obtain ⟨r0, r1, r2, r3, r4, r5, r6, r7⟩ := rz_cells HZ4.out; have f0 := HZ4.out.frozen 0; have f1 := HZ4.out.frozen 1; have f2 := HZ4.out.frozen 2; have f3 := HZ4.out.frozen 3; have f4 := HZ4.out.frozen 4; have f5 := HZ4.out.frozen 5; have f6 := HZ4.out.frozen 6; have f7 := HZ4.out.frozen 7; unfold DkV.rcs)))
        all_goals
          first
            | (have hO := off_set8 w4 wr.heap.size (.int .i64 Q'.sec) (.slice tA4 tm4 tc4) (.slice sB4 sn4 sd4) (.int .i64 Q'.fu.p) (.int .i64 Q'.fu.s) (.int .i64 Q'.fu.d) (.bool Q'.fu.off) (.int .i64 (Q'.calls : Int))
               have hw4s := HO4.out.size
               have H5 := Lib.hid (H.out.turn (HD4.out.off hO (fun j _ hj (e : j = wr.heap.size) => by
                 rcases HN4.out j hj with h1 | h1
                 · exact HBN.out (e ▸ h1)
                 · rw [hszw2] at h1; omega)) (fun j hj => Nat.lt_of_lt_of_le (HF4.out j hj) hO.size) (fun j hj => (HN4.out j hj).imp id (fun h => Nat.le_trans hszb h)) (HO4.out.then hO (fun j hj (e : j = wr.heap.size) => by omega)))
               have HR5 := Lib.hid ((HR4.out.offs hO (fun j (e : j = wr.heap.size) => .inr (.inr e))).less (F := fun j => F4 j ∨ j = b9) (fun j hj => hj.imp id .inl))
               have hB5 := blk_set8 HZ4.out (.int .i64 Q'.sec) (.slice tA4 tm4 tc4) (.slice sB4 sn4 sd4) (.int .i64 Q'.fu.p) (.int .i64 Q'.fu.s) (.int .i64 Q'.fu.d) (.bool Q'.fu.off) (.int .i64 (Q'.calls : Int))
               clear hO HT4 HR4 HD4 HF4 HN4 HO4 HZ4 r0 r1 r2 r3 r4 r5 r6 r7 f0 f1 f2 f3 f4 f5 f6 f7
               generalize ((((((((w4.setCell ⟨wr.heap.size, 0, none⟩ (.int .i64 Q'.sec)).setCell ⟨wr.heap.size, 1, none⟩ (.slice tA4 tm4 tc4)).setCell ⟨wr.heap.size, 2, none⟩ (.slice sB4 sn4 sd4)).setCell ⟨wr.heap.size, 3, none⟩ (.int .i64 Q'.fu.p)).setCell ⟨wr.heap.size, 4, none⟩ (.int .i64 Q'.fu.s)).setCell ⟨wr.heap.size, 5, none⟩ (.int .i64 Q'.fu.d)).setCell ⟨wr.heap.size, 6, none⟩ (.bool Q'.fu.off)).setCell ⟨wr.heap.size, 7, none⟩ (.int .i64 (Q'.calls : Int))) = W5 at *
               obtain ⟨b11, hb11⟩ : ∃ b11, wr.heap.size = b11 := ⟨_, rfl⟩
               rw [hb11] at hB5 ⊢)
            | (have hE := ex_alloc (Ex.refl w4) (.cells #[.int .i64 Q'.sec, .slice tA4 tm4 tc4, .slice sB4 sn4 sd4, .int .i64 Q'.fu.p, .int .i64 Q'.fu.s, .int .i64 Q'.fu.d, .bool Q'.fu.off, .int .i64 (Q'.calls : Int)] 59)
               have H5 := Lib.hid (HT4.out.grow hE)
               have HR5 := Lib.hid (show RdV (fun j => F4 j ∨ j = b9) _ Q' (.slice tA4 tm4 tc4) (.slice sB4 sn4 sd4) from HR4.out.ex hE)
               have hB5 := Blk.new w4 [.int .i64 Q'.sec, .slice tA4 tm4 tc4, .slice sB4 sn4 sd4, .int .i64 Q'.fu.p, .int .i64 Q'.fu.s, .int .i64 Q'.fu.d, .bool Q'.fu.off, .int .i64 (Q'.calls : Int)] 59
               clear hE HT4 HR4 HD4 HF4 HN4 HO4
               obtain ⟨b11, hb11⟩ : ∃ b11, w4.heap.size = b11 := ⟨_, rfl⟩
               rw [hb11] at hB5 ⊢
               generalize w4.alloc (.cells [Value.int .i64 Q'.sec, Value.slice tA4 tm4 tc4, Value.slice sB4 sn4 sd4, Value.int .i64 Q'.fu.p, Value.int .i64 Q'.fu.s, Value.int .i64 Q'.fu.d, Value.bool Q'.fu.off, Value.int .i64 (Q'.calls : Int)].toArray 59) = W5 at *)
        all_goals
          have HB5 := Lib.hid (show Blk W5 b11 59 (Q'.rcs (.slice tA4 tm4 tc4) (.slice sB4 sn4 sd4)) from hB5)
          have HST := Lib.hid (fun (W : World) (h1 : DkP W g F4 Q') (h2 : RdV (fun j => F4 j ∨ j = b9) W Q' (.slice tA4 tm4 tc4) (.slice sB4 sn4 sd4)) (h3 : ∀ j, (F4 j ∨ j = b9) → j < W.heap.size) => stands_calls h1 h2 HOK'.out (by omega) h3)
          have HOn := Lib.hid (disk_one Q' tA4 tm4 tc4 sB4 sn4 sd4)
          unfold DkV.rcs at HST HOn
          clear hB5 hb11 x0 x1 x2 x3 x4 x5 x6 x7 p0 p1 p2 p3 p4 p5
          obtain ⟨y0, y1, y2, y3, y4, y5, y6, y7⟩ := rd_cells HB5.out
          go_wp2_with (refine st_agg 59 rfl (.tmp 7) (.tmp 74) rfl b9 (Q.rcs (.slice tA tm tc) (.slice sB sn sd)) [.int .i64 Q'.sec, .slice tA4 tm4 tc4, .slice sB4 sn4 sd4, .int .i64 Q'.fu.p, .int .i64 Q'.fu.s, .int .i64 Q'.fu.d, .bool Q'.fu.off, .int .i64 (Q'.calls : Int)] rfl rfl info_d11 rfl HOn.out H5.out.cell H5.out.ex hb9w ?_; intro w6 k6 X6 g6; have H6 := Lib.hid (H5.out.stored (Qd' := Q') (tv' := .slice tA4 tm4 tc4) (sl' := .slice sB4 sn4 sd4) HR5.out (Ex.refl W5) (off_grown g6) k6); clear k6 X6 g6; obtain ⟨z0, z1, z2, z3, z4, z5, z6, z7⟩ := rd_cells H6.out.cell)
          refine (HST.out _ H6.out.dk H6.out.doc H6.out.dlt).mono ?_
          rintro e w7 ⟨rfl, hb7⟩
          have H7 := Lib.hid (H6.out.grow hb7)
          clear hb7
          go_wp2_with fail
          exact ⟨⟨k + 1, g, F4, Q', _, _, by omega, by omega, by go_num, rfl, H7.out, HOK'.out⟩, by simp [intOf]; omega⟩
end Go.Proofs.YtcffkmlnbnjibaaGreat
