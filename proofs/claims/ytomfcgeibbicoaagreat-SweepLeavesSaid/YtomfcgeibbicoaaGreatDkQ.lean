/- Walk: a disk on which files last (Load). -/
import Derived.Test.YtomfcgeibbicoaaGreatDkO
namespace Go.Proofs.YtomfcgeibbicoaaGreat
open Go.RowKit Go.Maps
/-- A file: a name and its bytes. -/
structure FlV where
  nm : ByteArray
  dt : ByteArray
def FlV.cs (f : FlV) : List Value := [.string f.nm, .string f.dt]
theorem fl_len (l : List FlV) : (l.flatMap FlV.cs).length = l.length * 2 := flat_len FlV.cs 2 (fun _ => rfl) l
theorem Row.fl {w : World} {A : Option Addr} {n : Nat} {l : List FlV} (h : Row w 2 A n (l.flatMap FlV.cs)) {i : Nat} (hi : i < l.length) :
    ∃ b o, A = some ⟨b, o, none⟩ ∧ w.cell? ⟨b, o + i * 2, none⟩ = some (.string l[i].nm) ∧ w.cell? ⟨b, o + i * 2 + 1, none⟩ = some (.string l[i].dt) := by
  have hn : n = l.length := by have := h.1; rw [fl_len] at this; omega
  obtain ⟨b, o, e, hc⟩ := h.2 (by omega)
  have h0 : ∀ j, j < 2 → (l.flatMap FlV.cs)[i * 2 + j]? = (FlV.cs l[i])[j]? := fun j hj => flat_get FlV.cs 2 (fun _ => rfl) l i l[i] j (List.getElem?_eq_getElem hi) hj
  exact ⟨b, o, e, hc (i * 2) _ (h0 0 (by omega)), hc (i * 2 + 1) _ (h0 1 (by omega))⟩
theorem Row.fls_len {w : World} {A : Option Addr} {n : Nat} {l : List FlV} (h : Row w 2 A n (l.flatMap FlV.cs)) : l.length = n := by
  have := h.1; rw [fl_len] at this; omega
namespace DkV
def loadL : DkV → List FlV → DkV × Int
  | Q, [] => (Q, 0)
  | Q, f :: r => if mayB f.nm = false then (Q, 7) else if (findM f.nm Q.fo.now).2 = true then (Q, 17) else loadL (Q.add f.nm ⟨f.dt, f.dt⟩) r
/-- A disk on which these files last; the error. -/
def load (n : Int) (l : List FlV) : Option DkV × Int :=
  if n < 1 ∨ 4096 < n then (none, 2) else if 64 < l.length then (none, 9) else
    if ((fresh n).loadL l).2 ≠ 0 then (none, ((fresh n).loadL l).2) else if n < (((fresh n).loadL l).1.taken : Int) then (none, 12) else
      (some { ((fresh n).loadL l).1 with fo := ((fresh n).loadL l).1.fo.sync }, 0)
end DkV
/-- What Load hands back. -/
def LoadP (w : World) (r : Option DkV × Int) (e : Ending) (w' : World) : Prop :=
  (∃ v, e = .returned (.tuple #[v, .int .i64 r.2]) ∧ (r.1 = none → v = .pointer none) ∧ (∀ Q, r.1 = some Q → ∃ g, v = ptrV g ∧ w.heap.size ≤ g ∧ DkP w' g (NewB w) Q)) ∧ Ex w w'
theorem LoadP.no {w w' : World} {r : Option DkV × Int} {c : Int} (h : r = (none, c)) (hX : Ex w w') : LoadP w r (.returned (.tuple #[.pointer none, .int .i64 c])) w' := by
  subst h
  exact ⟨⟨_, rfl, fun _ => rfl, (fun Q hQ => by cases hQ)⟩, hX⟩
theorem LoadP.yes {w w' : World} {r : Option DkV × Int} {Q : DkV} {g : Nat} (h : r = (some Q, 0)) (hg : w.heap.size ≤ g) (hP : DkP w' g (NewB w) Q) (hX : Ex w w') : LoadP w r (.returned (.tuple #[ptrV g, .int .i64 0])) w' := by
  subst h
  refine ⟨⟨_, rfl, (fun h => by cases h), fun Q' hQ => ?_⟩, hX⟩
  injection hQ with hQ
  subst hQ
  exact ⟨g, rfl, hg, hP⟩
theorem loadL_ok {l : List FlV} (hl : ∀ f ∈ l, f.nm.size ≤ 9223372036854775807 ∧ f.dt.size ≤ 131072) : ∀ {Q : DkV} {M : Nat}, Q.Ok M → M + l.length ≤ 800000 → (Q.loadL l).1.Ok (M + l.length) := by
  induction l with
  | nil => intro Q M h _; exact h
  | cons f r ih =>
    intro Q M h hM
    rw [List.length_cons] at hM
    unfold DkV.loadL
    split
    · exact h.up (by omega)
    · split
      · exact h.up (by omega)
      · have h1 := hl f (by simp)
        rw [List.length_cons, ← Nat.add_assoc, Nat.add_right_comm]
        exact ih (fun x hx => hl x (by simp [hx])) (add_ok h (by omega) h1.1 ⟨h1.2, h1.2⟩) (by omega)
theorem drop_cons {l : List FlV} {k : Nat} (hk : k < l.length) : l.drop k = l[k] :: l.drop (k + 1) := List.drop_eq_getElem_cons hk
set_option maxHeartbeats 4000000 in
set_option maxRecDepth 100000 in
theorem dload_calls (n : Int) (A : Option Addr) (c : Nat) (l : List FlV) (w : World) (hr : Row w 2 A l.length (l.flatMap FlV.cs)) (hl : ∀ f ∈ l, f.nm.size ≤ 9223372036854775807 ∧ f.dt.size ≤ 131072) (hn1 : -9223372036854775808 ≤ n) (hn2 : n ≤ 9223372036854775807) :
    Calls Tryz.prog 10 #[.int .i64 n, .slice A l.length c] w (LoadP w (DkV.load n l)) := by
  have HR := Lib.hid hr
  have HL := Lib.hid hl
  clear hr hl
  by_cases hn : n < 1 ∨ 4096 < n
  · have HE := Lib.hid (show DkV.load n l = (none, 2) from by unfold DkV.load; rw [if_pos hn])
    go_enter Tryz.func10, Tryz.ntmps10
    go_wp2_with fail
    refine (dnew_no n _ hn).mono ?_
    rintro e w1 ⟨rfl, hb1⟩
    go_wp2_with fail
    go_ret2
    exact LoadP.no HE.out hb1
  · by_cases h64 : 64 < l.length
    · have HE := Lib.hid (show DkV.load n l = (none, 9) from by unfold DkV.load; rw [if_neg hn, if_pos h64])
      have d1 : decide ((64 : Int) < (l.length : Int)) = true := decide_eq_true (by omega)
      go_enter Tryz.func10, Tryz.ntmps10
      go_wp2_with fail
      refine (dnew_calls n _ (by omega) (by omega)).mono ?_
      rintro e w1 ⟨⟨g, rfl, hg, hP⟩, hb1⟩
      go_wp2_with fail
      go_ret2
      exact LoadP.no HE.out hb1
    · have d1 : decide ((64 : Int) < (l.length : Int)) = false := decide_eq_false (by omega)
      have HE := Lib.hid (show DkV.load n l = (if ((DkV.fresh n).loadL l).2 ≠ 0 then (none, ((DkV.fresh n).loadL l).2) else if n < (((DkV.fresh n).loadL l).1.taken : Int) then (none, 12) else (some { ((DkV.fresh n).loadL l).1 with fo := ((DkV.fresh n).loadL l).1.fo.sync }, 0)) from by unfold DkV.load; rw [if_neg hn, if_neg h64])
      go_enter Tryz.func10, Tryz.ntmps10
      go_wp2_with fail
      refine (dnew_calls n _ (by omega) (by omega)).mono ?_
      rintro e w1 ⟨⟨g, rfl, hg, hP⟩, hb1⟩
      have HP1 := Lib.hid (DkP.more (G := NewB w) hP (fun k hk => by rcases hk with hk | hk; exact hk.elim; exact hk.1))
      have HX1 := Lib.hid hb1
      have HO1 := Lib.hid (fresh_ok (n := n) (by omega) (by omega))
      clear hP hb1
      go_wp2_with fail
      go_loopw [9, 10, 11, 25] (fun _ _ _ i wr => ∃ (k : Nat) (Q : DkV), k ≤ l.length ∧ i = .int .i64 (k : Int) ∧ DkP wr g (NewB w) Q ∧ Ex w wr ∧ Q.Ok k ∧ Q.loadL (l.drop k) = (DkV.fresh n).loadL l) (fun _ _ _ i _ => l.length - (intOf i).toNat)
      case atStart => exact ⟨0, _, by omega, rfl, HP1.out, HX1.out, HO1.out, rfl⟩
      case round =>
        clear HP1 HX1 HO1
        obtain ⟨k, Q, hk, rfl, hP, hX, hO, hD⟩ := hrel
        have HP := Lib.hid hP
        have HX := Lib.hid hX
        have HO := Lib.hid hO
        have HD := Lib.hid hD
        clear hP hX hO hD
        by_cases hlt : k < l.length
        · obtain ⟨ab, ao, rfl, hc0, hc1⟩ := (HR.out.ex HX.out).fl hlt
          have hz := HL.out l[k] (List.getElem_mem hlt)
          have HDC := Lib.hid (HD.out.symm.trans (congrArg Q.loadL (drop_cons hlt)))
          generalize l[k] = f at *
          obtain ⟨nm, dt⟩ := f
          simp only at hc0 hc1 hz
          have hXB := ex_alloc (Ex.refl wr) (.cells #[.string nm, .string dt] 80)
          have HB := Lib.hid (Blk.new wr [.string nm, .string dt] 80)
          have HPB := Lib.hid (HP.out.bound.ex hXB)
          have HXB := Lib.hid (HX.out.trans hXB)
          clear hXB
          cases hm : mayB nm
          · have HEE := Lib.hid (show (DkV.fresh n).loadL l = (Q, 7) from by rw [HDC.out]; unfold DkV.loadL; rw [hm]; rfl)
            have HMy := Lib.hid hm
            clear hm
            go_wp2_with fail
            refine (may_calls nm _).mono ?_
            rintro e w2 ⟨rfl, hb2⟩
            rw [HMy.out]
            go_wp2_with fail
            go_ret2
            exact LoadP.no (by rw [HE.out, HEE.out]; rfl) (HXB.out.trans hb2)
          · have HMy := Lib.hid hm
            clear hm
            have hz1 := hz.1
            have HZ := Lib.hid hz
            cases hf : (findM nm Q.fo.now).2
            · have HN := Lib.hid hf
              have HEE := Lib.hid (show (DkV.fresh n).loadL l = (Q.add nm ⟨dt, dt⟩).loadL (l.drop (k + 1)) from by rw [HDC.out]; exact (if_neg (by rw [HMy.out]; decide)).trans (if_neg (by rw [HN.out]; decide)))
              clear hf hz
              go_wp2_with fail
              refine (may_calls nm _).mono ?_
              rintro e w2 ⟨rfl, hb2⟩
              rw [HMy.out]
              have HB2 := Lib.hid (HB.out.ex hb2)
              have HX2 := Lib.hid (HXB.out.trans hb2)
              obtain ⟨tm, fg, fz, FF, ll, tb, hR⟩ := HPB.out.ex hb2
              have HR2 := Lib.hid hR
              have c4 : w2.cell? ⟨g, 4, none⟩ = some (ptrV fg) := by rw [hR.blk.cell]; rfl
              have b0 : w2.cell? ⟨wr.heap.size, 0, none⟩ = some (.string nm) := by rw [HB2.out.cell]; rfl
              have b1 : w2.cell? ⟨wr.heap.size, 1, none⟩ = some (.string dt) := by rw [HB2.out.cell]; rfl
              have hz2 : wr.heap.size + 1 ≤ w2.heap.size := by have := hb2.size; simpa using this
              have hgl := hR.blk.lt
              clear hR hb2 hc0 hc1 HB HXB HPB
              go_wp2_with fail
              go_region_held3 (fun w' => w'.cell? ⟨g, 4, none⟩ = some (ptrV fg) ∧ w'.cell? ⟨wr.heap.size, 0, none⟩ = some (.string nm)) (go_keep) ((go_at_call 45; refine (fofind_calls nm hz1 (HR2.out.ex (Ex.refl w2).drew).fob).mono ?_; rintro e w3 ⟨rfl, hb3⟩; rw [HN.out]; have HX3 := Lib.hid (Ex.trans (Ex.refl w2).drew hb3); have c43 := HX3.out.cell c4; have b03 := HX3.out.cell b0; have b13 := HX3.out.cell b1; clear hb3))
              have HO := HO
              have HTN := Lib.hid (show ∀ tk, w3.heap.size ≤ tk → ¬ FF tk ∧ tk ≠ g ∧ tk ≠ fz ∧ tk ≠ tm ∧ tk ≠ wr.heap.size ∧ w.heap.size ≤ tk ∧ ∀ id, (inK id, ptrV (tb id)) ∈ ll → tb id ≠ tk from fun tk ht => by
                have z1 := HX3.out.size
                have z2 := HX2.out.size
                have z3 := HR2.out.fub.lt
                have z4 := HR2.out.tpb.lt
                refine ⟨fun h => ?_, by omega, by omega, by omega, by omega, by omega, fun id hid => ?_⟩
                · have := HR2.out.ffl tk h; omega
                · have := (HR2.out.tapeL hid).lt; omega)
              have hll : ll.length ≤ 1000000 := by have h1 := HR2.out.l_len; have h2 := HO.out.tl; omega
              have HR3 := Lib.hid (HR2.out.ex HX3.out)
              clear c4 b0 b1 c43
              go_wp2_with fail
              go_region_held3 (fun w' => w'.cell? ⟨wr.heap.size, 0, none⟩ = some (.string nm) ∧ w'.cell? ⟨wr.heap.size, 1, none⟩ = some (.string dt)) (go_keep) (first
                | (go_at_call 47; refine (tload_calls dt dt _).mono ?_; rintro e w4 ⟨tk, rfl, ht1, ht2, hb4⟩; have HT4 := Lib.hid ht2; have HTK := Lib.hid (HTN.out tk ht1); have HX4 := Lib.hid (Ex.trans (Ex.refl w3).drew hb4); have b04 := HX4.out.cell b03; have b14 := HX4.out.cell b13; clear hb4 ht1 ht2)
                | (go_at_call 46; refine (dadd_calls (DkR.more (G := fun k => (NewB w k ∧ k < wr.heap.size) ∨ k = tk) (HR3.out.ex HX4.out) (fun k hk => .inl hk)) HO.out (by omega) nm hz1 HN.out ⟨dt, dt⟩ tk HT4.out (.inr rfl) HTK.out.1 HTK.out.2.1 HTK.out.2.2.1 HTK.out.2.2.2.1 HTK.out.2.2.2.2.2.2 hll).mono ?_; rintro e w5 ⟨rfl, ⟨FF', l', tb', hR5, hl5⟩, hO5⟩; have HR5 := Lib.hid hR5; have HO5 := Lib.hid hO5; have hnb : ¬ ((NewB w wr.heap.size ∧ wr.heap.size < wr.heap.size) ∨ wr.heap.size = tk) := (fun h => h.elim (fun h => absurd h.2 (Nat.lt_irrefl _)) (fun h => HTK.out.2.2.2.2.1 h.symm)); have b05 := hO5.cell b04 hnb; have b15 := hO5.cell b14 hnb; clear hR5 hO5 hl5))
              go_wp2_with fail
              have z1 := HX3.out.size
              have z2 := HX2.out.size
              have z4 := HX4.out.size
              have hsub : ∀ k, ((NewB w k ∧ k < wr.heap.size) ∨ k = tk) → NewB w k := fun k hk => by
                rcases hk with hk | rfl
                · exact hk.1
                · exact HTK.out.2.2.2.2.2.1
              refine ⟨⟨k + 1, _, by omega, by go_num, DkP.more ⟨_, _, _, _, _, _, HR5.out⟩ (fun k hk => ?_), new_off (HX2.out.trans (HX3.out.trans HX4.out)) (HO5.out.mono fun k _ hk => hsub k hk), add_ok HO.out (by omega) hz1 ⟨HZ.out.2, HZ.out.2⟩, HEE.out.symm⟩, by simp [intOf]; omega⟩
              rcases hk with hk | hk
              · exact hsub k hk
              · exact Nat.le_trans (Nat.le_trans z2 (Nat.le_trans z1 z4)) hk.1
            · have HN := Lib.hid hf
              have HEE := Lib.hid (show (DkV.fresh n).loadL l = (Q, 17) from by rw [HDC.out]; unfold DkV.loadL; rw [HMy.out, HN.out]; rfl)
              clear hf hz
              go_wp2_with fail
              refine (may_calls nm _).mono ?_
              rintro e w2 ⟨rfl, hb2⟩
              rw [HMy.out]
              have HB2 := Lib.hid (HB.out.ex hb2)
              have HX2 := Lib.hid (HXB.out.trans hb2)
              obtain ⟨tm, fg, fz, FF, ll, tb, hR⟩ := HPB.out.ex hb2
              have HR2 := Lib.hid hR
              have c4 : w2.cell? ⟨g, 4, none⟩ = some (ptrV fg) := by rw [hR.blk.cell]; rfl
              have b0 : w2.cell? ⟨wr.heap.size, 0, none⟩ = some (.string nm) := by rw [HB2.out.cell]; rfl
              clear hR hb2 hc0 hc1 HB HXB HPB
              go_wp2_with fail
              go_region_held3 (fun w' => w'.cell? ⟨g, 4, none⟩ = some (ptrV fg) ∧ w'.cell? ⟨wr.heap.size, 0, none⟩ = some (.string nm)) (go_keep) ((go_at_call 45; refine (fofind_calls nm hz1 (HR2.out.ex (Ex.refl w2).drew).fob).mono ?_; rintro e w3 ⟨rfl, hb3⟩; rw [HN.out]; have HX3 := Lib.hid (Ex.trans (Ex.refl w2).drew hb3); have c43 := HX3.out.cell c4; have b03 := HX3.out.cell b0; clear hb3))
              go_wp2_with fail
              go_ret2
              exact LoadP.no (by rw [HE.out, HEE.out]; rfl) (HX2.out.trans HX3.out)
        · have hkl : k = l.length := by omega
          subst hkl
          have HEE := Lib.hid (show (DkV.fresh n).loadL l = (Q, 0) from by rw [← HD.out, List.drop_length]; rfl)
          obtain ⟨tm, fg, fz, FF, ll, tb, hR⟩ := HP.out
          have HR1 := Lib.hid hR
          clear hR
          go_wp2_with fail
          refine (dtaken_calls HR1.out HO.out (by omega)).mono ?_
          rintro e w2 ⟨rfl, hb2⟩
          have HX2 := Lib.hid hb2
          clear hb2
          by_cases hfull : n < (Q.taken : Int)
          · have d2 : decide (n < (Q.taken : Int)) = true := decide_eq_true hfull
            have HEF := Lib.hid (show DkV.load n l = (none, 12) from by rw [HE.out, HEE.out]; exact (if_neg (by simp)).trans (if_pos hfull))
            go_wp2_with fail
            go_ret2
            exact LoadP.no HEF.out (HX.out.trans HX2.out)
          · have d2 : decide (n < (Q.taken : Int)) = false := decide_eq_false hfull
            have HEF := Lib.hid (show DkV.load n l = (some { Q with fo := Q.fo.sync }, 0) from by rw [HE.out, HEE.out]; exact (if_neg (by simp)).trans (if_neg hfull))
            have HR2 := Lib.hid (HR1.out.ex HX2.out)
            have c4 : w2.cell? ⟨g, 4, none⟩ = some (ptrV fg) := by rw [HR2.out.blk.cell]; rfl
            go_wp2_with fail
            refine (fosync_calls HO.out.fo (by omega) HR2.out.fob).mono ?_
            rintro e w6 ⟨rfl, hF6, hO6⟩
            have HR6 := Lib.hid (HR2.out.fo_ hO6 hF6 (fun id hid => HR2.out.co id (settle_ids hid)))
            have HO6 := Lib.hid hO6
            clear hF6 hO6
            go_wp2_with fail
            go_ret2
            refine LoadP.yes HEF.out hg (DkP.more ⟨_, _, _, _, _, _, HR6.out⟩ (new_fresh (HX.out.trans HX2.out))) (new_off (HX.out.trans HX2.out) (HO6.out.mono fun k _ hk => HR2.out.sub k hk))
end Go.Proofs.YtomfcgeibbicoaaGreat
