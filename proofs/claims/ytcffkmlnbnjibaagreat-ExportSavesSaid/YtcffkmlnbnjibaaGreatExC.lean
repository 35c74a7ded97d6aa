/- Walk: ExportWhole. -/
import Derived.Test.YtcffkmlnbnjibaaGreatExB
import Derived.Test.YtcffkmlnbnjibaaGreatRowS
namespace Go.Proofs.YtcffkmlnbnjibaaGreat
open Go.RowKit Go.Maps
theorem lives38_pub : ((DkV.fresh 9).save sA sX).2 = (5, 0) ∧ ((DkV.fresh 9).save sA sX).1.rexp sA = (sX, 0) := by constructor <;> kernel_rfl
set_option maxHeartbeats 1000000 in
set_option maxRecDepth 100000 in
theorem lives38_calls (w : World) : Calls Tryz.prog 40 #[] w fun e w' => e = .returned (.bool true) ∧ Ex w w' := by
  go_enter Tryz.func40, Tryz.ntmps40
  go_wp2_with fail
  refine (dnew_calls 9 w (by omega) (by omega)).mono ?_
  rintro e w1 ⟨⟨g, rfl, hg, hP⟩, hb1⟩
  have HP1 := Lib.hid (DkP.more (G := NewB w) hP (fun k hk => by rcases hk with hk | hk; exact hk.elim; exact hk.1))
  have HX1 := Lib.hid hb1
  have HO1 := Lib.hid (fresh_ok (n := 9) (by omega) (by omega))
  clear hP hb1
  go_wp2_with fail
  refine (save_calls HP1.out HO1.out (by omega) sA sX (by decide)).mono ?_
  rintro e w2 ⟨rfl, hP, hO⟩
  have HS2 := Lib.hid (DkP.step HX1.out hP hO)
  have HO2 := Lib.hid (save_ok (nm := sA) (x := sX) HO1.out (by omega))
  have HL := Lib.hid lives38_pub.2
  rw [lives38_pub.1]
  generalize ((DkV.fresh 9).save sA sX).1 = Q2 at *
  clear hP hO
  go_wp2_with fail
  refine (rexp_calls HS2.out.1 HO2.out (by omega) sA).mono ?_
  rintro e w7 ⟨rfl, hb7⟩
  rw [HL.out]
  unfold sX
  go_wp2_with fail
  go_ret
  exact ⟨rfl, HS2.out.2.trans hb7⟩
/-- One save: a text, when the power goes, what lasts. -/
structure SvV where
  tx : ByteArray
  dn : Int
  ch : ByteArray
def SvV.cs (f : SvV) : List Value := [.string f.tx, .int .i64 f.dn, .string f.ch]
theorem Row.sv {w : World} {A : Option Addr} {n : Nat} {l : List SvV} (h : Row w 3 A n (l.flatMap SvV.cs)) {i : Nat} (hi : i < l.length) :
    ∃ b o, A = some ⟨b, o, none⟩ ∧ w.cell? ⟨b, o + i * 3, none⟩ = some (.string l[i].tx) ∧ w.cell? ⟨b, o + i * 3 + 1, none⟩ = some (.int .i64 l[i].dn) ∧ w.cell? ⟨b, o + i * 3 + 2, none⟩ = some (.string l[i].ch) := by
  have hn := h.1
  rw [flat_len SvV.cs 3 (fun _ => rfl)] at hn
  obtain ⟨b, o, e, hc⟩ := h.2 (by omega)
  have h0 : ∀ j, j < 3 → (l.flatMap SvV.cs)[i * 3 + j]? = (SvV.cs l[i])[j]? := fun j hj => flat_get SvV.cs 3 (fun _ => rfl) l i l[i] j (List.getElem?_eq_getElem hi) hj
  exact ⟨b, o, e, hc (i * 3) _ (h0 0 (by omega)), hc (i * 3 + 1) _ (h0 1 (by omega)), hc (i * 3 + 2) _ (h0 2 (by omega))⟩
theorem Row.svs_len {w : World} {A : Option Addr} {n : Nat} {l : List SvV} (h : Row w 3 A n (l.flatMap SvV.cs)) : l.length = n := by
  have := h.1
  rw [flat_len SvV.cs 3 (fun _ => rfl)] at this
  omega
/-- The texts that may be there: the walk's own list, beside the disk. -/
structure MayI (base : Nat) (F : Nat → Prop) (w : World) (v : Value) (ys : List ByteArray) : Prop where
  own : w.ownsRow base 9 1 v ys.length (ys.map Value.string)
  out : ∀ k, v.ownBlock = some k → ¬ F k ∧ k < w.heap.size
theorem MayI.off {base : Nat} {F : Nat → Prop} {w w' : World} {v : Value} {ys : List ByteArray} (h : MayI base F w v ys) (hO : Off F w w') : MayI base (Fresh F w w') w' v ys := by
  refine ⟨own_off h.own hO (fun k hk => (h.out k hk).1), fun k hk => ?_⟩
  have h1 := h.out k hk
  have := hO.size
  refine ⟨fun h2 => ?_, by omega⟩
  rcases h2 with h2 | h2
  · exact h1.1 h2
  · omega
theorem MayI.ex {base : Nat} {F : Nat → Prop} {w w' : World} {v : Value} {ys : List ByteArray} (h : MayI base F w v ys) (hX : Ex w w') : MayI base F w' v ys := by
  refine ⟨own_ex h.own hX, fun k hk => ?_⟩
  have h1 := h.out k hk
  have := hX.size
  exact ⟨h1.1, by omega⟩
theorem info_str : (Tryz.prog.info? 9).map (fun i => (i.zero, i.size, i.bytes)) = some (some (.string ⟨#[]⟩), 1, 16) := by kernel_rfl
theorem strs_one (l : List ByteArray) : ∀ u ∈ l.map Value.string, u.oneCell' = true := by
  intro u hu
  obtain ⟨x, _, rfl⟩ := List.mem_map.1 hu
  rfl
/-- One text in a new block. -/
theorem may_new {w W : World} {base : Nat} {F : Nat → Prop} (y : ByteArray) (hb : base ≤ w.heap.size) (hF : ∀ k, F k → k < w.heap.size) (hW : W = w.alloc (.cells #[.string y] 9)) : MayI base F W (.slice (some ⟨w.heap.size, 0, none⟩) 1 1) [y] := by
  subst hW
  refine ⟨own_of_blk (Blk.new w [.string y] 9) hb (Nat.le_refl _) (by unfold maxLen; omega) rfl rfl, fun k hk => ?_⟩
  have : k = w.heap.size := by
    unfold Value.ownBlock at hk
    simpa using hk.symm
  subst this
  exact ⟨fun h => by have := hF _ h; omega, by simp⟩
/-- The round's state: the disk, and the walk's own list. -/
structure Rd (w wr : World) (F : Nat → Prop) (g : Nat) (Q : DkV) (v : Value) (ys : List ByteArray) : Prop where
  dk : DkP wr g F Q
  sub : ∀ k, F k → NewB w k
  ex : Ex w wr
  may : MayI w.heap.size F wr v ys
section
variable {w wr w' : World} {F : Nat → Prop} {g : Nat} {Q Q' : DkV} {v v' : Value} {ys : List ByteArray}
theorem Rd.step (h : Rd w wr F g Q v ys) (hP : DkP w' g (Fresh F wr w') Q') (hO : Off F wr w') : Rd w w' (Fresh F wr w') g Q' v ys := by
  refine ⟨hP, fun k hk => ?_, new_off h.ex (hO.mono fun k _ hk => h.sub k hk), h.may.off hO⟩
  rcases hk with hk | hk
  · exact h.sub k hk
  · exact Nat.le_trans h.ex.size hk.1
theorem Rd.bound (h : Rd w wr F g Q v ys) : Rd w wr (fun k => F k ∧ k < wr.heap.size) g Q v ys :=
  ⟨h.dk.bound, fun k hk => h.sub k hk.1, h.ex, h.may.own, fun k hk => ⟨fun hf => (h.may.out k hk).1 hf.1, (h.may.out k hk).2⟩⟩
theorem Rd.grow (h : Rd w wr F g Q v ys) (hX : Ex wr w') : Rd w w' F g Q v ys := ⟨h.dk.ex hX, h.sub, h.ex.trans hX, h.may.ex hX⟩
theorem Rd.append {o : Obj} {x : ByteArray} (h : Rd w wr F g Q v ys) (hb : ∀ k, F k → k < wr.heap.size) (hg : (wr.alloc o).grownBy w' v.ownBlock) (hown : w'.ownsRow w.heap.size 9 1 v' (ys.length + 1) (ys.map Value.string ++ [.string x])) (hv : v'.ownBlock = v.ownBlock ∨ v'.ownBlock = some (wr.alloc o).heap.size) : Rd w w' F g Q v' (ys ++ [x]) := by
  have h1 := h.grow (ex_alloc (Ex.refl wr) o)
  have hsz := hg.size
  have hO : Off (fun k => v.ownBlock = some k) (wr.alloc o) w' := (Off.refl _ _).grown hg (fun k hk => .inl hk)
  refine ⟨h1.dk.off hO (fun k _ hf hk => (h.may.out k hk).1 hf), h.sub, below_append h1.ex h1.may.own (Nat.le_refl _) h1.ex.size hg, ?_, fun k hk => ?_⟩
  · rw [List.length_append, List.map_append]
    exact hown
  · have ha : (wr.alloc o).heap.size = wr.heap.size + 1 := by simp
    have hlt : k < w'.heap.size := by
      rcases own_blk hown with ⟨rfl, _, _⟩ | ⟨g', cap, cur, rfl, _, hB, _⟩
      · cases hk
      · have : k = g' := by unfold Value.ownBlock at hk; simpa using hk.symm
        rw [this]; exact hB.lt
    refine ⟨fun hf => ?_, hlt⟩
    rcases hv with hv | hv
    · rw [hv] at hk
      exact (h.may.out k hk).1 hf
    · rw [hv] at hk
      injection hk with hk
      have := hb k hf
      omega
theorem Rd.fresh {x : ByteArray} (h : Rd w wr F g Q v ys) (hb : ∀ k, F k → k < wr.heap.size) : Rd w (wr.alloc (.cells #[.string x] 9)) F g Q (.slice (some ⟨wr.heap.size, 0, none⟩) 1 1) [x] :=
  ⟨h.dk.ex (ex_alloc (Ex.refl wr) _), h.sub, h.ex.trans (ex_alloc (Ex.refl wr) _), may_new x h.ex.size hb rfl⟩
theorem Rd.none (h : Rd w wr F g Q v ys) : Rd w wr F g Q (.slice none 0 0) [] := ⟨h.dk, h.sub, h.ex, World.ownsRow_nil _ _ _ _, (fun k hk => by cases hk)⟩
end
/-- Is a text among these? -/
def anyS (z : ByteArray) (ys : List ByteArray) : Bool := ys.any fun y => z.toList == y.toList
theorem anyS_mem {z : ByteArray} {ys : List ByteArray} (h : z ∈ ys) : anyS z ys = true := by
  unfold anyS
  rw [List.any_eq_true]
  exact ⟨z, h, by simp⟩
theorem anyS_succ (z : ByteArray) {ys : List ByteArray} {j : Nat} (hj : j < ys.length) : anyS z (ys.take (j + 1)) = (anyS z (ys.take j) || (z.toList == ys[j].toList)) := by
  unfold anyS
  rw [List.take_succ_eq_append_getElem hj, List.any_append]
  simp
theorem may_cell {base : Nat} {F : Nat → Prop} {w : World} {A : Option Addr} {n c : Nat} {ys : List ByteArray} (h : MayI base F w (.slice A n c) ys) (hn : n = ys.length) {j : Nat} (hj : j < ys.length) : ∃ b o, A = some ⟨b, o, none⟩ ∧ w.cell? ⟨b, o + j, none⟩ = some (.string ys[j]) := by
  subst hn
  obtain ⟨b, o, e, hc⟩ := (Row.of_own h.own).2 (by omega)
  exact ⟨b, o, e, hc j _ (by rw [List.getElem?_map, List.getElem?_eq_getElem hj]; rfl)⟩
theorem cont_ok {Q : DkV} {ys : List ByteArray} {su : Bool} {x : ByteArray} {c : Option ByteArray} (h : (Q.cont xa = none ∧ ys = [] ∧ su = false) ∨ ∃ y, Q.cont xa = some y ∧ ys = [y] ∧ su = true) (hc : c = Q.cont xa ∨ c = some x) : (c = none ∧ su = false) ∨ ∃ z, c = some z ∧ z ∈ ys ++ [x] := by
  rcases hc with rfl | rfl
  · rcases h with ⟨h1, h2, h3⟩ | ⟨y, h1, h2, _⟩
    · exact .inl ⟨h1, h3⟩
    · exact .inr ⟨y, h1, by rw [h2]; simp⟩
  · exact .inr ⟨x, rfl, by simp⟩
set_option maxHeartbeats 4000000 in
set_option maxRecDepth 100000 in
theorem exwhole_calls (A : Option Addr) (c : Nat) (l : List SvV) (w : World) (hr : Row w 3 A l.length (l.flatMap SvV.cs)) (hl : ∀ f ∈ l, f.tx.size ≤ 9223372036854775807 ∧ -9223372036854775808 ≤ f.dn ∧ f.dn ≤ 9223372036854775807 ∧ f.ch.size ≤ 9223372036854775807) :
    Calls Tryz.prog 8 #[.slice A l.length c] w fun e w' => e = .returned (.bool true) ∧ Ex w w' := by
  have HR := Lib.hid hr
  have HL := Lib.hid hl
  clear hr hl
  by_cases h1 : 8 < l.length
  · have d1 : decide ((8 : Int) < (l.length : Int)) = true := decide_eq_true (by omega)
    go_enter Tryz.func8, Tryz.ntmps8
    go_wp2_with fail
    refine (lives38_calls _).mono ?_
    rintro e wl ⟨rfl, hbl⟩
    go_wp2_with fail
    go_ret
    exact ⟨rfl, hbl⟩
  have d1 : decide ((8 : Int) < (l.length : Int)) = false := decide_eq_false (by omega)
  go_enter Tryz.func8, Tryz.ntmps8
  go_wp2_with fail
  refine (dnew_calls 500 _ (by omega) (by omega)).mono ?_
  rintro e w1 ⟨⟨g, rfl, hg, hP⟩, hb1⟩
  have HP1 := Lib.hid (DkP.more (G := NewB w) hP (fun k hk => by rcases hk with hk | hk; exact hk.elim; exact hk.1))
  have HX1 := Lib.hid hb1
  have HO1 := Lib.hid (fresh_ok (n := 500) (by omega) (by omega))
  clear hP hb1
  go_wp2_with fail
  go_loopw [5, 6, 7] (fun v5 v6 v7 wr => ∃ (k : Nat) (Q : DkV) (F : Nat → Prop) (ys : List ByteArray) (su : Bool), k ≤ l.length ∧ v7 = .int .i64 (k : Int) ∧ v6 = .bool su ∧ DkP wr g F Q ∧ (∀ k, F k → NewB w k) ∧ Ex w wr ∧ Sm Q ∧ Q.Ok (100 * k) ∧ MayI w.heap.size F wr v5 ys ∧ ((Q.cont xa = none ∧ ys = [] ∧ su = false) ∨ ∃ y, Q.cont xa = some y ∧ ys = [y] ∧ su = true)) (fun _ _ v7 _ => l.length - (intOf v7).toNat)
  case atStart => exact ⟨0, _, NewB w, [], false, by omega, rfl, rfl, HP1.out, fun _ h => h, HX1.out, sm_fresh, HO1.out, ⟨World.ownsRow_nil _ _ _ _, fun k hk => by cases hk⟩, .inl ⟨rfl, rfl, rfl⟩⟩
  case round =>
    clear HP1 HX1 HO1
    obtain ⟨k, Q, F, ys, su, hk, rfl, rfl, hP, hF, hX, hS, hO, hM, hC⟩ := hrel
    have HP := Lib.hid hP
    have HF := Lib.hid hF
    have HX := Lib.hid hX
    have HS := Lib.hid hS
    have HO := Lib.hid hO
    have HM := Lib.hid hM
    have HC := Lib.hid hC
    clear hP hF hX hS hO hM hC
    by_cases hlt : k < l.length
    · obtain ⟨ab, ao, rfl, hc0, hc1, hc2⟩ := HR.out.sv hlt
      have hz := HL.out l[k] (List.getElem_mem hlt)
      generalize l[k] = f at *
      obtain ⟨tx, dn, ch⟩ := f
      simp only at hc0 hc1 hc2 hz
      have HC0 := Lib.hid hc0
      have HC1 := Lib.hid hc1
      have HC2 := Lib.hid hc2
      have c0 := HX.out.cell hc0
      have c2 := HX.out.cell hc2
      clear hc0 hc1 hc2
      obtain ⟨z1, z2, z3, z4⟩ := hz
      by_cases k1 : 500 < tx.size
      · have d2 : decide ((500 : Int) < (tx.size : Int)) = true := decide_eq_true (by omega)
        go_wp2_with fail
        refine (lives38_calls _).mono ?_
        rintro e wl ⟨rfl, hbl⟩
        go_wp2_with fail
        go_ret
        exact ⟨rfl, HX.out.trans hbl⟩
      have d2 : decide ((500 : Int) < (tx.size : Int)) = false := decide_eq_false (by omega)
      by_cases k2 : 100 < ch.size
      · have d3 : decide ((100 : Int) < (ch.size : Int)) = true := decide_eq_true (by omega)
        go_wp2_with fail
        refine (lives38_calls _).mono ?_
        rintro e wl ⟨rfl, hbl⟩
        go_wp2_with fail
        go_ret
        exact ⟨rfl, HX.out.trans hbl⟩
      have d3 : decide ((100 : Int) < (ch.size : Int)) = false := decide_eq_false (by omega)
      have HRd := Lib.hid (show Rd w wr F g Q u5 ys from ⟨HP.out, HF.out, HX.out, HM.out⟩)
      clear HP HF HM HX
      by_cases hdn : dn < 0
      · have d4 : decide (0 ≤ dn) = false := decide_eq_false (by omega)
        have c1 := HRd.out.ex.cell HC1.out
        have HE := Lib.hid (show armE Q dn = Q from if_pos hdn)
        go_wp2_with fail
        refine (save_calls HRd.out.dk HO.out (by omega) sA tx (by omega)).mono ?_
        rintro e w3 ⟨rfl, hP, hO⟩
        have HR3 := Lib.hid (HRd.out.step hP hO)
        have HO3 := Lib.hid (save_ok (nm := sA) (x := tx) HO.out (by omega))
        obtain ⟨r, hr⟩ : ∃ r, (armE Q dn).save sA tx = r := ⟨_, rfl⟩
        obtain ⟨hsm, hrx, hlw⟩ := save_law (cho := ch) HS.out (by omega) hr
        rw [HE.out] at hr
        rw [hr] at HR3 HO3 ⊢
        obtain ⟨Q3, n3, f3⟩ := r
        simp only at HR3 HO3 hsm hrx hlw ⊢
        have HSM := Lib.hid hsm
        have HRX := Lib.hid hrx
        clear hP hO hr HE c1 hsm hrx
        have HRB := Lib.hid HR3.out.bound
        have c0 := HRB.out.ex.cell HC0.out
        obtain ⟨i0, hi0, hz0, hz1, hz2⟩ := info_parts info_str
        have ha3 : (w3.alloc (.cells #[.string tx] 9)).heap.size = w3.heap.size + 1 := by simp
        have hbs : w.heap.size ≤ w3.heap.size := HRB.out.ex.size
        have hyl : ys.length ≤ 1 := by rcases HC.out with ⟨_, h, _⟩ | ⟨y, _, h, _⟩ <;> rw [h] <;> simp
        rcases hlw with ⟨rfl, rfl, hct⟩ | ⟨rfl, hn4, hct⟩
        · have hok : ((Q3.crash ch).1.cont xa = none ∧ true = false) ∨ ∃ z, (Q3.crash ch).1.cont xa = some z ∧ z ∈ [tx] := .inr ⟨tx, hct, by simp⟩
          go_wp2_with (at_builtin; refine wpList_append_row _ rfl (.tmp 75) (.tmp 81) 31 rfl w.heap.size 9 i0 _ 1 16 Tryz.underlying31 hi0 hz0 hz1 hz2 rfl (by decide) u5 ys.length (ys.map Value.string) rfl (own_ex HRB.out.may.own (ex_alloc (Ex.refl _) _)) (some ⟨w3.heap.size, 0, none⟩) 1 1 [.string tx] rfl (str_row w3 tx 9) (strs_one [tx]) (by unfold maxLen; omega) (by omega) (by omega) ?_; intro v' w' ho' hg' hv'; have HA := Lib.hid (Rd.bound (HRB.out.append (fun k hk => hk.2) hg' ho' hv')); have c0 := HA.out.ex.cell HC0.out; have c2 := HA.out.ex.cell HC2.out; have HRN := Lib.hid (HA.out.fresh (x := tx) (fun k hk => hk.2)); have c2n := HRN.out.ex.cell HC2.out; clear ho' hg' hv')
          refine (dcrash_calls HRN.out.dk HO3.out (by omega) ch (by omega)).mono ?_
          rintro e w5 ⟨rfl, hP, hO⟩
          have HR5 := Lib.hid (HRN.out.step hP hO)
          have HO5 := Lib.hid (crash_ok HO3.out ch)
          clear hP hO
          generalize (Q3.crash ch).2 = r5
          generalize (Q3.crash ch).1 = Q5 at *
          go_wp2_with fail
          refine (rexp_calls HR5.out.dk HO5.out (by omega) sA).mono ?_
          rintro e w6 ⟨rfl, hb6⟩
          have HR6 := Lib.hid (HR5.out.grow hb6).bound
          rw [HRX.out]
          have HOK := Lib.hid hok
          clear hb6 HR5 HRN
          generalize hc5 : Q5.cont xa = c5 at *
          have HC5 := Lib.hid hc5
          clear hc5
          cases c5 with
          | none =>
            have Htrue := Lib.hid (show true = false from by rcases HOK.out with ⟨_, h⟩ | ⟨z, h, _⟩; exact h; cases h)
            exact Bool.noConfusion Htrue.out
          | some z =>
            have HZ := Lib.hid (show z ∈ [tx] from by rcases HOK.out with ⟨h, _⟩ | ⟨z', h, h2⟩; cases h; injection h with h; subst h; exact h2)
            rw [show readC (some z) = (z, 0) from rfl]
            go_wp2_with fail
            go_loopw [12, 13] (fun v12 v13 wq => (∃ j : Nat, j ≤ ([tx]).length ∧ v13 = .int .i64 (j : Int) ∧ v12 = .bool (anyS z (([tx]).take j))) ∧ Ex w6 wq) (fun _ v13 _ => ([tx]).length - (intOf v13).toNat)
            case atStart => exact ⟨⟨0, Nat.zero_le _, rfl, rfl⟩, Ex.refl _⟩
            case round =>
              obtain ⟨⟨j, hj, rfl, rfl⟩, hbq⟩ := hrel
              have HQ := Lib.hid (Rd.grow HR6.out hbq)
              have HBQ := Lib.hid hbq
              clear hbq
              by_cases hjl : j < ([tx]).length
              · have hji : (j : Int) < 1 := by have h : j < 1 := hjl; omega
                obtain ⟨mb, mo, hmA, hcm⟩ := may_cell HQ.out.may rfl hjl
                have HNX := Lib.hid (anyS_succ z hjl)
                generalize ([tx])[j] = y at *
                injection hmA with hmA
                injection hmA with e1 e2
                subst e1; subst e2
                rw [Nat.zero_add] at hcm
                cases hb0 : anyS z (([tx]).take j)
                · cases hb1 : (z.toList == y.toList)
                  · have HV := Lib.hid (HNX.out.trans (by rw [hb0, hb1]; rfl : _ = false))
                    go_wp2_with fail
                    exact ⟨⟨⟨j + 1, by omega, by go_num, by rw [HV.out]⟩, HBQ.out⟩, by simp [intOf]; omega⟩
                  · have HV := Lib.hid (HNX.out.trans (by rw [hb0, hb1]; rfl : _ = true))
                    go_wp2_with fail
                    exact ⟨⟨⟨j + 1, by omega, by go_num, by rw [HV.out]⟩, HBQ.out⟩, by simp [intOf]; omega⟩
                · have HV := Lib.hid (HNX.out.trans (by rw [hb0]; rfl : _ = true))
                  go_wp2_with fail
                  exact ⟨⟨⟨j + 1, by omega, by go_num, by rw [HV.out]⟩, HBQ.out⟩, by simp [intOf]; omega⟩
              · have hji : ¬ (j : Int) < 1 := by have h : ¬ j < 1 := hjl; omega
                have hall : anyS z (([tx]).take j) = true := by rw [List.take_of_length_le (by omega)]; exact anyS_mem HZ.out
                rw [hall]
                have HN := Lib.hid (HQ.out.bound.fresh (x := z) (fun k hk => hk.2))
                go_wp2_with fail
                exact ⟨⟨k + 1, Q5, _, [z], true, by omega, by go_num, rfl, HN.out.dk, HN.out.sub, HN.out.ex, HSM.out, HO5.out.up (by omega), HN.out.may, .inr ⟨z, HC5.out, rfl, rfl⟩⟩, by simp [intOf]; omega⟩
        · have hok := cont_ok HC.out hct
          have hn5 : ((n3 : Int) == 5) = false := by simpa using (show ¬ (n3 : Int) = 5 by omega)
          go_wp2_with (at_builtin; refine wpList_append_row _ rfl (.tmp 75) (.tmp 81) 31 rfl w.heap.size 9 i0 _ 1 16 Tryz.underlying31 hi0 hz0 hz1 hz2 rfl (by decide) u5 ys.length (ys.map Value.string) rfl (own_ex HRB.out.may.own (ex_alloc (Ex.refl _) _)) (some ⟨w3.heap.size, 0, none⟩) 1 1 [.string tx] rfl (str_row w3 tx 9) (strs_one [tx]) (by unfold maxLen; omega) (by omega) (by omega) ?_; intro v' w' ho' hg' hv'; have HA := Lib.hid (Rd.bound (HRB.out.append (fun k hk => hk.2) hg' ho' hv')); have c0 := HA.out.ex.cell HC0.out; have c2 := HA.out.ex.cell HC2.out; have HRN := HA; clear ho' hg' hv')
          refine (dcrash_calls HRN.out.dk HO3.out (by omega) ch (by omega)).mono ?_
          rintro e w5 ⟨rfl, hP, hO⟩
          have HR5 := Lib.hid (HRN.out.step hP hO)
          have HO5 := Lib.hid (crash_ok HO3.out ch)
          clear hP hO
          generalize (Q3.crash ch).2 = r5
          generalize (Q3.crash ch).1 = Q5 at *
          go_wp2_with fail
          refine (rexp_calls HR5.out.dk HO5.out (by omega) sA).mono ?_
          rintro e w6 ⟨rfl, hb6⟩
          have HR6 := Lib.hid (HR5.out.grow hb6).bound
          rw [HRX.out]
          have HOK := Lib.hid hok
          clear hb6 HR5 HRN
          generalize hc5 : Q5.cont xa = c5 at *
          have HC5 := Lib.hid hc5
          clear hc5
          cases c5 with
          | none =>
            have HSU := Lib.hid (show su = false from by rcases HOK.out with ⟨_, h⟩ | ⟨z, h, _⟩; exact h; cases h)
            have hsu := HSU.out
            subst hsu
            rw [show readC none = (⟨#[]⟩, 8) from rfl]
            obtain ⟨A', c', rfl, _⟩ := own_shape HR6.out.may.own
            generalize hN : (ys ++ [tx]).length = N at *
            have hN2 : N ≤ 2 := by rw [← hN, List.length_append]; show ys.length + 1 ≤ 2; omega
            have HNN := Lib.hid hN
            clear hN
            go_wp2_with fail
            go_loopw [12, 13] (fun v12 v13 wq => v12 = .bool true ∧ (∃ j : Nat, j ≤ N ∧ v13 = .int .i64 (j : Int)) ∧ Ex w6 wq) (fun _ v13 _ => N - (intOf v13).toNat)
            case atStart => exact ⟨rfl, ⟨0, Nat.zero_le _, rfl⟩, Ex.refl _⟩
            case round =>
              obtain ⟨rfl, ⟨j, hj, rfl⟩, hbq⟩ := hrel
              have HQ := Lib.hid (Rd.grow HR6.out hbq)
              have HBQ := Lib.hid hbq
              clear hbq
              by_cases hjl : j < N
              · have hji : (j : Int) < (N : Int) := by omega
                go_wp2_with fail
                exact ⟨⟨rfl, ⟨j + 1, by omega, by go_num⟩, HBQ.out⟩, by simp [intOf]; omega⟩
              · have hji : ¬ (j : Int) < (N : Int) := by omega
                go_wp2_with fail
                exact ⟨⟨k + 1, Q5, _, [], false, by omega, by go_num, rfl, HQ.out.none.dk, HQ.out.none.sub, HQ.out.none.ex, HSM.out, HO5.out.up (by omega), HQ.out.none.may, .inl ⟨HC5.out, rfl, rfl⟩⟩, by simp [intOf]; omega⟩
          | some z =>
            have HZ := Lib.hid (show z ∈ ys ++ [tx] from by rcases HOK.out with ⟨h, _⟩ | ⟨z', h, h2⟩; cases h; injection h with h; subst h; exact h2)
            rw [show readC (some z) = (z, 0) from rfl]
            obtain ⟨A', c', rfl, _⟩ := own_shape HR6.out.may.own
            generalize hN : (ys ++ [tx]).length = N at *
            have hN2 : N ≤ 2 := by rw [← hN, List.length_append]; show ys.length + 1 ≤ 2; omega
            have HNN := Lib.hid hN
            clear hN
            go_wp2_with fail
            go_loopw [12, 13] (fun v12 v13 wq => (∃ j : Nat, j ≤ N ∧ v13 = .int .i64 (j : Int) ∧ v12 = .bool (anyS z ((ys ++ [tx]).take j))) ∧ Ex w6 wq) (fun _ v13 _ => N - (intOf v13).toNat)
            case atStart => exact ⟨⟨0, Nat.zero_le _, rfl, rfl⟩, Ex.refl _⟩
            case round =>
              obtain ⟨⟨j, hj, rfl, rfl⟩, hbq⟩ := hrel
              have HQ := Lib.hid (Rd.grow HR6.out hbq)
              have HBQ := Lib.hid hbq
              clear hbq
              by_cases hjl : j < N
              · have hji : (j : Int) < (N : Int) := by omega
                obtain ⟨mb, mo, hmA, hcm⟩ := may_cell HQ.out.may HNN.out.symm (show j < (ys ++ [tx]).length by rw [HNN.out]; exact hjl)
                have HNX := Lib.hid (anyS_succ z (show j < (ys ++ [tx]).length by rw [HNN.out]; exact hjl))
                generalize (ys ++ [tx])[j]'(by rw [HNN.out]; exact hjl) = y at *
                subst hmA
                cases hb0 : anyS z ((ys ++ [tx]).take j)
                · cases hb1 : (z.toList == y.toList)
                  · have HV := Lib.hid (HNX.out.trans (by rw [hb0, hb1]; rfl : _ = false))
                    go_wp2_with fail
                    exact ⟨⟨⟨j + 1, by omega, by go_num, by rw [HV.out]⟩, HBQ.out⟩, by simp [intOf]; omega⟩
                  · have HV := Lib.hid (HNX.out.trans (by rw [hb0, hb1]; rfl : _ = true))
                    go_wp2_with fail
                    exact ⟨⟨⟨j + 1, by omega, by go_num, by rw [HV.out]⟩, HBQ.out⟩, by simp [intOf]; omega⟩
                · have HV := Lib.hid (HNX.out.trans (by rw [hb0]; rfl : _ = true))
                  go_wp2_with fail
                  exact ⟨⟨⟨j + 1, by omega, by go_num, by rw [HV.out]⟩, HBQ.out⟩, by simp [intOf]; omega⟩
              · have hji : ¬ (j : Int) < (N : Int) := by omega
                have hall : anyS z ((ys ++ [tx]).take j) = true := by rw [List.take_of_length_le (by rw [HNN.out]; omega)]; exact anyS_mem HZ.out
                rw [hall]
                have HN := Lib.hid (HQ.out.bound.fresh (x := z) (fun k hk => hk.2))
                go_wp2_with fail
                exact ⟨⟨k + 1, Q5, _, [z], true, by omega, by go_num, rfl, HN.out.dk, HN.out.sub, HN.out.ex, HSM.out, HO5.out.up (by omega), HN.out.may, .inr ⟨z, HC5.out, rfl, rfl⟩⟩, by simp [intOf]; omega⟩
      · have d4 : decide (0 ≤ dn) = true := decide_eq_true (by omega)
        have c1 := HRd.out.ex.cell HC1.out
        have HDN := Lib.hid hdn
        clear hdn
        go_wp2_with fail
        refine (dfault_calls HRd.out.dk 3 dn).mono ?_
        rintro e w2 ⟨rfl, hP, hO⟩
        rw [fault_armE HS.out.fu (n := dn) (by have := HDN.out; omega)] at hP ⊢
        have HRf := Lib.hid (HRd.out.step (hP.more (fun k hk => .inl hk)) hO)
        have HOf := Lib.hid (armE_ok (n := dn) HO.out z3)
        have c0 := HRf.out.ex.cell HC0.out
        clear hP hO c1
        go_wp2_with fail
        refine (save_calls HRf.out.dk HOf.out (by omega) sA tx (by omega)).mono ?_
        rintro e w3 ⟨rfl, hP, hO⟩
        have HR3 := Lib.hid (HRf.out.step hP hO)
        have HO3 := Lib.hid (save_ok (nm := sA) (x := tx) HOf.out (by omega))
        obtain ⟨r, hr⟩ : ∃ r, (armE Q dn).save sA tx = r := ⟨_, rfl⟩
        obtain ⟨hsm, hrx, hlw⟩ := save_law (cho := ch) HS.out (by omega) hr
        rw [hr] at HR3 HO3 ⊢
        obtain ⟨Q3, n3, f3⟩ := r
        simp only at HR3 HO3 hsm hrx hlw ⊢
        have HSM := Lib.hid hsm
        have HRX := Lib.hid hrx
        clear hP hO hr hsm hrx
        have HRB := Lib.hid HR3.out.bound
        have c0 := HRB.out.ex.cell HC0.out
        obtain ⟨i0, hi0, hz0, hz1, hz2⟩ := info_parts info_str
        have ha3 : (w3.alloc (.cells #[.string tx] 9)).heap.size = w3.heap.size + 1 := by simp
        have hbs : w.heap.size ≤ w3.heap.size := HRB.out.ex.size
        have hyl : ys.length ≤ 1 := by rcases HC.out with ⟨_, h, _⟩ | ⟨y, _, h, _⟩ <;> rw [h] <;> simp
        rcases hlw with ⟨rfl, rfl, hct⟩ | ⟨rfl, hn4, hct⟩
        · have hok : ((Q3.crash ch).1.cont xa = none ∧ true = false) ∨ ∃ z, (Q3.crash ch).1.cont xa = some z ∧ z ∈ [tx] := .inr ⟨tx, hct, by simp⟩
          go_wp2_with (at_builtin; refine wpList_append_row _ rfl (.tmp 75) (.tmp 81) 31 rfl w.heap.size 9 i0 _ 1 16 Tryz.underlying31 hi0 hz0 hz1 hz2 rfl (by decide) u5 ys.length (ys.map Value.string) rfl (own_ex HRB.out.may.own (ex_alloc (Ex.refl _) _)) (some ⟨w3.heap.size, 0, none⟩) 1 1 [.string tx] rfl (str_row w3 tx 9) (strs_one [tx]) (by unfold maxLen; omega) (by omega) (by omega) ?_; intro v' w' ho' hg' hv'; have HA := Lib.hid (Rd.bound (HRB.out.append (fun k hk => hk.2) hg' ho' hv')); have c0 := HA.out.ex.cell HC0.out; have c2 := HA.out.ex.cell HC2.out; have HRN := Lib.hid (HA.out.fresh (x := tx) (fun k hk => hk.2)); have c2n := HRN.out.ex.cell HC2.out; clear ho' hg' hv')
          refine (dcrash_calls HRN.out.dk HO3.out (by omega) ch (by omega)).mono ?_
          rintro e w5 ⟨rfl, hP, hO⟩
          have HR5 := Lib.hid (HRN.out.step hP hO)
          have HO5 := Lib.hid (crash_ok HO3.out ch)
          clear hP hO
          generalize (Q3.crash ch).2 = r5
          generalize (Q3.crash ch).1 = Q5 at *
          go_wp2_with fail
          refine (rexp_calls HR5.out.dk HO5.out (by omega) sA).mono ?_
          rintro e w6 ⟨rfl, hb6⟩
          have HR6 := Lib.hid (HR5.out.grow hb6).bound
          rw [HRX.out]
          have HOK := Lib.hid hok
          clear hb6 HR5 HRN
          generalize hc5 : Q5.cont xa = c5 at *
          have HC5 := Lib.hid hc5
          clear hc5
          cases c5 with
          | none =>
            have Htrue := Lib.hid (show true = false from by rcases HOK.out with ⟨_, h⟩ | ⟨z, h, _⟩; exact h; cases h)
            exact Bool.noConfusion Htrue.out
          | some z =>
            have HZ := Lib.hid (show z ∈ [tx] from by rcases HOK.out with ⟨h, _⟩ | ⟨z', h, h2⟩; cases h; injection h with h; subst h; exact h2)
            rw [show readC (some z) = (z, 0) from rfl]
            go_wp2_with fail
            go_loopw [12, 13] (fun v12 v13 wq => (∃ j : Nat, j ≤ ([tx]).length ∧ v13 = .int .i64 (j : Int) ∧ v12 = .bool (anyS z (([tx]).take j))) ∧ Ex w6 wq) (fun _ v13 _ => ([tx]).length - (intOf v13).toNat)
            case atStart => exact ⟨⟨0, Nat.zero_le _, rfl, rfl⟩, Ex.refl _⟩
            case round =>
              obtain ⟨⟨j, hj, rfl, rfl⟩, hbq⟩ := hrel
              have HQ := Lib.hid (Rd.grow HR6.out hbq)
              have HBQ := Lib.hid hbq
              clear hbq
              by_cases hjl : j < ([tx]).length
              · have hji : (j : Int) < 1 := by have h : j < 1 := hjl; omega
                obtain ⟨mb, mo, hmA, hcm⟩ := may_cell HQ.out.may rfl hjl
                have HNX := Lib.hid (anyS_succ z hjl)
                generalize ([tx])[j] = y at *
                injection hmA with hmA
                injection hmA with e1 e2
                subst e1; subst e2
                rw [Nat.zero_add] at hcm
                cases hb0 : anyS z (([tx]).take j)
                · cases hb1 : (z.toList == y.toList)
                  · have HV := Lib.hid (HNX.out.trans (by rw [hb0, hb1]; rfl : _ = false))
                    go_wp2_with fail
                    exact ⟨⟨⟨j + 1, by omega, by go_num, by rw [HV.out]⟩, HBQ.out⟩, by simp [intOf]; omega⟩
                  · have HV := Lib.hid (HNX.out.trans (by rw [hb0, hb1]; rfl : _ = true))
                    go_wp2_with fail
                    exact ⟨⟨⟨j + 1, by omega, by go_num, by rw [HV.out]⟩, HBQ.out⟩, by simp [intOf]; omega⟩
                · have HV := Lib.hid (HNX.out.trans (by rw [hb0]; rfl : _ = true))
                  go_wp2_with fail
                  exact ⟨⟨⟨j + 1, by omega, by go_num, by rw [HV.out]⟩, HBQ.out⟩, by simp [intOf]; omega⟩
              · have hji : ¬ (j : Int) < 1 := by have h : ¬ j < 1 := hjl; omega
                have hall : anyS z (([tx]).take j) = true := by rw [List.take_of_length_le (by omega)]; exact anyS_mem HZ.out
                rw [hall]
                have HN := Lib.hid (HQ.out.bound.fresh (x := z) (fun k hk => hk.2))
                go_wp2_with fail
                exact ⟨⟨k + 1, Q5, _, [z], true, by omega, by go_num, rfl, HN.out.dk, HN.out.sub, HN.out.ex, HSM.out, HO5.out.up (by omega), HN.out.may, .inr ⟨z, HC5.out, rfl, rfl⟩⟩, by simp [intOf]; omega⟩
        · have hok := cont_ok HC.out hct
          have hn5 : ((n3 : Int) == 5) = false := by simpa using (show ¬ (n3 : Int) = 5 by omega)
          go_wp2_with (at_builtin; refine wpList_append_row _ rfl (.tmp 75) (.tmp 81) 31 rfl w.heap.size 9 i0 _ 1 16 Tryz.underlying31 hi0 hz0 hz1 hz2 rfl (by decide) u5 ys.length (ys.map Value.string) rfl (own_ex HRB.out.may.own (ex_alloc (Ex.refl _) _)) (some ⟨w3.heap.size, 0, none⟩) 1 1 [.string tx] rfl (str_row w3 tx 9) (strs_one [tx]) (by unfold maxLen; omega) (by omega) (by omega) ?_; intro v' w' ho' hg' hv'; have HA := Lib.hid (Rd.bound (HRB.out.append (fun k hk => hk.2) hg' ho' hv')); have c0 := HA.out.ex.cell HC0.out; have c2 := HA.out.ex.cell HC2.out; have HRN := HA; clear ho' hg' hv')
          refine (dcrash_calls HRN.out.dk HO3.out (by omega) ch (by omega)).mono ?_
          rintro e w5 ⟨rfl, hP, hO⟩
          have HR5 := Lib.hid (HRN.out.step hP hO)
          have HO5 := Lib.hid (crash_ok HO3.out ch)
          clear hP hO
          generalize (Q3.crash ch).2 = r5
          generalize (Q3.crash ch).1 = Q5 at *
          go_wp2_with fail
          refine (rexp_calls HR5.out.dk HO5.out (by omega) sA).mono ?_
          rintro e w6 ⟨rfl, hb6⟩
          have HR6 := Lib.hid (HR5.out.grow hb6).bound
          rw [HRX.out]
          have HOK := Lib.hid hok
          clear hb6 HR5 HRN
          generalize hc5 : Q5.cont xa = c5 at *
          have HC5 := Lib.hid hc5
          clear hc5
          cases c5 with
          | none =>
            have HSU := Lib.hid (show su = false from by rcases HOK.out with ⟨_, h⟩ | ⟨z, h, _⟩; exact h; cases h)
            have hsu := HSU.out
            subst hsu
            rw [show readC none = (⟨#[]⟩, 8) from rfl]
            obtain ⟨A', c', rfl, _⟩ := own_shape HR6.out.may.own
            generalize hN : (ys ++ [tx]).length = N at *
            have hN2 : N ≤ 2 := by rw [← hN, List.length_append]; show ys.length + 1 ≤ 2; omega
            have HNN := Lib.hid hN
            clear hN
            go_wp2_with fail
            go_loopw [12, 13] (fun v12 v13 wq => v12 = .bool true ∧ (∃ j : Nat, j ≤ N ∧ v13 = .int .i64 (j : Int)) ∧ Ex w6 wq) (fun _ v13 _ => N - (intOf v13).toNat)
            case atStart => exact ⟨rfl, ⟨0, Nat.zero_le _, rfl⟩, Ex.refl _⟩
            case round =>
              obtain ⟨rfl, ⟨j, hj, rfl⟩, hbq⟩ := hrel
              have HQ := Lib.hid (Rd.grow HR6.out hbq)
              have HBQ := Lib.hid hbq
              clear hbq
              by_cases hjl : j < N
              · have hji : (j : Int) < (N : Int) := by omega
                go_wp2_with fail
                exact ⟨⟨rfl, ⟨j + 1, by omega, by go_num⟩, HBQ.out⟩, by simp [intOf]; omega⟩
              · have hji : ¬ (j : Int) < (N : Int) := by omega
                go_wp2_with fail
                exact ⟨⟨k + 1, Q5, _, [], false, by omega, by go_num, rfl, HQ.out.none.dk, HQ.out.none.sub, HQ.out.none.ex, HSM.out, HO5.out.up (by omega), HQ.out.none.may, .inl ⟨HC5.out, rfl, rfl⟩⟩, by simp [intOf]; omega⟩
          | some z =>
            have HZ := Lib.hid (show z ∈ ys ++ [tx] from by rcases HOK.out with ⟨h, _⟩ | ⟨z', h, h2⟩; cases h; injection h with h; subst h; exact h2)
            rw [show readC (some z) = (z, 0) from rfl]
            obtain ⟨A', c', rfl, _⟩ := own_shape HR6.out.may.own
            generalize hN : (ys ++ [tx]).length = N at *
            have hN2 : N ≤ 2 := by rw [← hN, List.length_append]; show ys.length + 1 ≤ 2; omega
            have HNN := Lib.hid hN
            clear hN
            go_wp2_with fail
            go_loopw [12, 13] (fun v12 v13 wq => (∃ j : Nat, j ≤ N ∧ v13 = .int .i64 (j : Int) ∧ v12 = .bool (anyS z ((ys ++ [tx]).take j))) ∧ Ex w6 wq) (fun _ v13 _ => N - (intOf v13).toNat)
            case atStart => exact ⟨⟨0, Nat.zero_le _, rfl, rfl⟩, Ex.refl _⟩
            case round =>
              obtain ⟨⟨j, hj, rfl, rfl⟩, hbq⟩ := hrel
              have HQ := Lib.hid (Rd.grow HR6.out hbq)
              have HBQ := Lib.hid hbq
              clear hbq
              by_cases hjl : j < N
              · have hji : (j : Int) < (N : Int) := by omega
                obtain ⟨mb, mo, hmA, hcm⟩ := may_cell HQ.out.may HNN.out.symm (show j < (ys ++ [tx]).length by rw [HNN.out]; exact hjl)
                have HNX := Lib.hid (anyS_succ z (show j < (ys ++ [tx]).length by rw [HNN.out]; exact hjl))
                generalize (ys ++ [tx])[j]'(by rw [HNN.out]; exact hjl) = y at *
                subst hmA
                cases hb0 : anyS z ((ys ++ [tx]).take j)
                · cases hb1 : (z.toList == y.toList)
                  · have HV := Lib.hid (HNX.out.trans (by rw [hb0, hb1]; rfl : _ = false))
                    go_wp2_with fail
                    exact ⟨⟨⟨j + 1, by omega, by go_num, by rw [HV.out]⟩, HBQ.out⟩, by simp [intOf]; omega⟩
                  · have HV := Lib.hid (HNX.out.trans (by rw [hb0, hb1]; rfl : _ = true))
                    go_wp2_with fail
                    exact ⟨⟨⟨j + 1, by omega, by go_num, by rw [HV.out]⟩, HBQ.out⟩, by simp [intOf]; omega⟩
                · have HV := Lib.hid (HNX.out.trans (by rw [hb0]; rfl : _ = true))
                  go_wp2_with fail
                  exact ⟨⟨⟨j + 1, by omega, by go_num, by rw [HV.out]⟩, HBQ.out⟩, by simp [intOf]; omega⟩
              · have hji : ¬ (j : Int) < (N : Int) := by omega
                have hall : anyS z ((ys ++ [tx]).take j) = true := by rw [List.take_of_length_le (by rw [HNN.out]; omega)]; exact anyS_mem HZ.out
                rw [hall]
                have HN := Lib.hid (HQ.out.bound.fresh (x := z) (fun k hk => hk.2))
                go_wp2_with fail
                exact ⟨⟨k + 1, Q5, _, [z], true, by omega, by go_num, rfl, HN.out.dk, HN.out.sub, HN.out.ex, HSM.out, HO5.out.up (by omega), HN.out.may, .inr ⟨z, HC5.out, rfl, rfl⟩⟩, by simp [intOf]; omega⟩
    · have hkl : k = l.length := by omega
      subst hkl
      go_wp2_with fail
      refine (lives38_calls _).mono ?_
      rintro e wl ⟨rfl, hbl⟩
      go_wp2_with fail
      go_ret
      exact ⟨rfl, HX.out.trans hbl⟩
end Go.Proofs.YtcffkmlnbnjibaaGreat
