/- Walks: a disk: Create, Sync, Cut. -/
import Derived.Test.YtcffkmlnbnjibaaGreatDkE
namespace Go.Proofs.YtcffkmlnbnjibaaGreat
open Go.RowKit Go.Maps
namespace DkV
def create (Q : DkV) (s : ByteArray) : DkV × Int :=
  if Q.fu.off = true then (Q, 14) else if mayB s = false then (Q, 7) else if (findM s Q.fo.now).2 = true then (Q, 17) else if 64 ≤ Q.fo.ids.length then (Q, 9) else
    if (Q.ask false).2 = 0 then ((Q.ask false).1.add s ⟨⟨#[]⟩, ⟨#[]⟩⟩, 0) else Q.ask false
def setT (Q : DkV) (id : Int) (t : TpV) : DkV := { Q with tapes := Q.tapes.set (id - 1).toNat t }
/-- The tape of a name that is there. -/
def idOf (Q : DkV) (s : ByteArray) : Int := (findM s Q.fo.now).1
def syncT (Q : DkV) (s : ByteArray) : DkV × Int :=
  if Q.fu.off = true then (Q, 14) else if (findM s Q.fo.now).2 = false then (Q, 8) else
    if (Q.ask true).2 = 0 then ((Q.ask true).1.setT (Q.idOf s) ⟨(Q.tapeAt (Q.idOf s)).nw, (Q.tapeAt (Q.idOf s)).nw⟩, 0) else Q.ask true
def cutT (Q : DkV) (s : ByteArray) (n : Int) : DkV × Int :=
  if Q.fu.off = true then (Q, 14) else if (findM s Q.fo.now).2 = false then (Q, 8) else if (Q.tapeAt (Q.idOf s)).cutOk n = false then (Q, 3) else
    if (Q.ask false).2 = 0 then ((Q.ask false).1.setT (Q.idOf s) ((Q.tapeAt (Q.idOf s)).cut n), 0) else Q.ask false
end DkV
theorem ask_ok {Q : DkV} {M : Nat} (h : Q.Ok M) (b : Bool) : (Q.ask b).1.Ok (M + 1) :=
  ⟨⟨by have := h.fo.kl; show Q.fo.kept.length + Q.fo.ch.length ≤ M + 1; omega, h.fo.ks, h.fo.cs⟩, FuV.call_ok h.fu b, h.s1, h.s2, by have := h.tl; show Q.tapes.length ≤ M + 1; omega, by have := h.cl; show Q.calls + 1 ≤ M + 1; omega, h.tz⟩
section
variable {w w' : World} {g : Nat} {F : Nat → Prop} {Q : DkV} {tm fg fz : Nat} {FF : Nat → Prop} {l : List (Lit × Value)} {tb : Int → Nat}
theorem DkR.l_len (h : DkR w g F Q tm fg fz FF l tb) : l.length ≤ Q.tapes.length := by
  have hup : Up (l.map fun p => Go.intOf p.1) := by
    show List.Pairwise _ _
    rw [List.pairwise_map]
    refine (h.tpb.rises intKey).imp_of_mem fun {p q} hp hq hb => ?_
    obtain ⟨x, rfl, _⟩ := h.el p hp
    obtain ⟨y, rfl, _⟩ := h.el q hq
    exact of_decide_eq_true hb
  have hm : ∀ x ∈ (l.map fun p => Go.intOf p.1), 1 ≤ x ∧ x ≤ (Q.tapes.length : Int) := fun x hx => by
    obtain ⟨p, hp, e⟩ := List.mem_map.1 hx
    obtain ⟨y, rfl, ht⟩ := h.el p hp
    have e' : y = x := e
    subst e'
    exact ⟨ht.i1, ht.i2⟩
  have := up_len hup (fun x hx => (hm x hx).1) (fun x hx => (hm x hx).2)
  rwa [List.length_map] at this
/-- A tape turns. -/
theorem DkR.set_ {t : TpV} {id : Int} (h : DkR w g F Q tm fg fz FF l tb) (hid : id ∈ Q.fo.ids) (hb : Off (· = tb id) w w') (hB : Blk w' (tb id) 148 t.cs) : DkR w' g F (Q.setT id t) tm fg fz FF l tb := by
  have ht := h.tape hid
  have hl := h.co id hid
  refine { h with ffl := fun k hk => Nat.lt_of_lt_of_le (h.ffl k hk) hb.size, blk := ?_, fob := h.fob.off hb (fun k _ hk e => ht.ff (e ▸ hk)), fub := h.fub.off hb (fun e => ht.nz e.symm), tpb := h.tpb.off hb (fun e => ht.nm e.symm), el := fun p hp => ?_ }
  · have := h.blk.off hb (fun e => ht.ng e.symm)
    unfold DkV.cells DkV.setT at *
    simpa using this
  · obtain ⟨x, e, hx⟩ := h.el p hp
    refine ⟨x, e, ?_⟩
    by_cases hxi : x = id
    · subst hxi
      exact { hx with i2 := by have := hx.i2; unfold DkV.setT; simpa using this, tp := ⟨t, by unfold DkV.setT; rw [List.getElem?_set_self (by have h1 := hx.i1; have h2 := hx.i2; omega)], hB⟩ }
    · have hne : ¬ tb x = tb id := fun he => hxi (h.inj x id (e ▸ hp) hl he)
      have hk := hx.keep (hb.block _ hx.lt hne)
      refine { hk with i2 := by have := hx.i2; unfold DkV.setT; simpa using this, tp := ?_ }
      obtain ⟨t', h1, h2⟩ := hk.tp
      have hn2 : (id - 1).toNat ≠ (x - 1).toNat := by have h1 := hx.i1; have h2 := ht.i1; omega
      exact ⟨t', by unfold DkV.setT; rw [List.getElem?_set_ne hn2]; exact h1, h2⟩
theorem DkR.off_set_ {id : Int} (h : DkR w g F Q tm fg fz FF l tb) (hid : id ∈ Q.fo.ids) (hb : Off (· = tb id) w w') : Off F w w' := hb.mono fun _ _ e => e ▸ (h.tape hid).f
end
set_option maxHeartbeats 2000000 in
theorem dcreate_calls {w : World} {g : Nat} {F : Nat → Prop} {Q : DkV} (h : DkP w g F Q) {M : Nat} (ho : Q.Ok M) (hM : M ≤ 800000) (s : ByteArray) (hs : s.size ≤ 9223372036854775807) :
    Calls Tryz.prog 11 #[ptrV g, .string s] w fun e w' => e = .returned (.int .i64 (Q.create s).2) ∧ DkP w' g (Fresh F w w') (Q.create s).1 ∧ Off F w w' := by
  have HP := Lib.hid h
  have HO := Lib.hid ho
  clear h ho
  cases hf : Q.fu.off
  · have HF := Lib.hid hf
    cases hm : mayB s
    · have HE := Lib.hid (show Q.create s = (Q, 7) from by unfold DkV.create; rw [hf, hm]; rfl)
      clear hf
      go_enter Tryz.func11, Tryz.ntmps11
      go_wp2_with fail
      refine (dready_calls HP.out).mono ?_
      rintro e w1 ⟨rfl, hb1⟩
      rw [HF.out]
      go_wp2_with fail
      refine (may_calls s _).mono ?_
      rintro e w2 ⟨rfl, hb2⟩
      rw [hm]
      go_wp2_with fail
      go_ret
      exact ⟨by rw [HE.out]; rfl, by rw [HE.out]; exact (HP.out.ex (hb1.trans hb2)).more Fresh.same, (hb1.trans hb2).off F⟩
    · cases hn : (findM s Q.fo.now).2
      · by_cases h64 : 64 ≤ Q.fo.ids.length
        · have HE := Lib.hid (show Q.create s = (Q, 9) from by unfold DkV.create; rw [hf, hm, hn, if_pos h64]; rfl)
          have HN := Lib.hid hn
          have HMy := Lib.hid hm
          have h64' : (64 : Int) ≤ (Q.fo.ids.length : Int) := by omega
          clear hf hn hm
          go_enter Tryz.func11, Tryz.ntmps11
          go_wp2_with fail
          refine (dready_calls HP.out).mono ?_
          rintro e w1 ⟨rfl, hb1⟩
          rw [HF.out]
          go_wp2_with fail
          refine (may_calls s _).mono ?_
          rintro e w2 ⟨rfl, hb2⟩
          rw [HMy.out]
          have HX := Lib.hid (hb1.trans hb2)
          clear hb1 hb2
          obtain ⟨tm, fg, fz, FF, l, tb, hR⟩ := HP.out.ex HX.out
          have c4 : w2.cell? ⟨g, 4, none⟩ = some (ptrV fg) := by rw [hR.blk.cell]; rfl
          have HR := Lib.hid hR
          clear hR
          go_wp2_with fail
          refine (fofind_calls s hs HR.out.fob).mono ?_
          rintro e w3 ⟨rfl, hb3⟩
          rw [HN.out]
          have c4' := Ex.cell hb3 c4
          go_wp2_with fail
          refine (foids_calls HO.out.fo (by omega) (HR.out.ex hb3).fob).mono ?_
          rintro e w4 ⟨iv, rfl, ho4, hb4⟩
          obtain ⟨iA, ic, rfl, _⟩ := own_shape ho4
          clear ho4
          go_wp2_with fail
          go_ret
          exact ⟨by rw [HE.out]; rfl, by rw [HE.out]; exact (HP.out.ex ((HX.out.trans hb3).trans hb4)).more Fresh.same, ((HX.out.trans hb3).trans hb4).off F⟩
        · have h64' : ¬ (64 : Int) ≤ (Q.fo.ids.length : Int) := by omega
          have HN := Lib.hid hn
          have HMy := Lib.hid hm
          have HA := Lib.hid (ask_ok HO.out false)
          obtain ⟨e0, he0⟩ : ∃ e0, e0 = (Q.ask false).2 := ⟨_, rfl⟩
          have HE0 := Lib.hid he0
          by_cases hz : e0 = 0
          · have HE := Lib.hid (show Q.create s = ((Q.ask false).1.add s ⟨⟨#[]⟩, ⟨#[]⟩⟩, 0) from by unfold DkV.create; rw [if_neg (by rw [hf]; decide), if_neg (by rw [hm]; decide), if_neg (by rw [hn]; decide), if_neg h64, if_pos (by rw [← he0]; exact hz)])
            subst hz
            clear hf hn hm h64 he0
            go_enter Tryz.func11, Tryz.ntmps11
            go_wp2_with fail
            refine (dready_calls HP.out).mono ?_
            rintro e w1 ⟨rfl, hb1⟩
            rw [HF.out]
            go_wp2_with fail
            refine (may_calls s _).mono ?_
            rintro e w2 ⟨rfl, hb2⟩
            rw [HMy.out]
            have HX := Lib.hid (hb1.trans hb2)
            clear hb1 hb2
            obtain ⟨tm, fg, fz, FF, l, tb, hR⟩ := HP.out.ex HX.out
            have c4 : w2.cell? ⟨g, 4, none⟩ = some (ptrV fg) := by rw [hR.blk.cell]; rfl
            have HR := Lib.hid hR
            clear hR
            go_wp2_with fail
            refine (fofind_calls s hs HR.out.fob).mono ?_
            rintro e w3 ⟨rfl, hb3⟩
            rw [HN.out]
            have c4' := Ex.cell hb3 c4
            go_wp2_with fail
            refine (foids_calls HO.out.fo (by omega) (HR.out.ex hb3).fob).mono ?_
            rintro e w4 ⟨iv, rfl, ho4, hb4⟩
            obtain ⟨iA, ic, rfl, _⟩ := own_shape ho4
            have HX4 := Lib.hid ((HX.out.trans hb3).trans hb4)
            have HR4 := Lib.hid (HR.out.ex (hb3.trans hb4))
            clear ho4 hb4 hb3 c4 c4'
            go_wp2_with fail
            refine (dput_calls HR4.out HO.out (by omega)).mono ?_
            rintro e w5 ⟨rfl, hR5, hO5⟩
            have HR5 := Lib.hid hR5
            have HO5 := Lib.hid hO5
            clear hR5 hO5
            rw [← HE0.out]
            go_wp2_with fail
            refine (tnew_calls _).mono ?_
            rintro e w6 ⟨b, rfl, hbb, hB6, hb6⟩
            have HB6 := Lib.hid hB6
            have HX6 := Lib.hid hb6
            have hR6 := ((HR5.out.ex hb6).more (G := fun k => F k ∨ k = b) (fun k hk => .inl hk))
            have HR6 := Lib.hid hR6
            clear hB6 hb6 hR6
            have hlt6 : ∀ k, k < w5.heap.size → k ≠ b := fun k hk => by omega
            have hll := HR6.out.l_len
            have hl2 := HA.out.tl
            go_wp2_with fail
            refine (dadd_calls HR6.out HA.out (by omega) s hs HN.out ⟨⟨#[]⟩, ⟨#[]⟩⟩ b HB6.out (.inr rfl) (fun hf => hlt6 _ (HR5.out.ffl _ hf) rfl) (fun e => hlt6 _ HR5.out.blk.lt e.symm) (fun e => hlt6 _ HR5.out.fub.lt e.symm) (fun e => hlt6 _ HR5.out.tpb.lt e.symm) (fun id hid => ?_) (by omega)).mono ?_
            · obtain ⟨y, e, ht⟩ := HR5.out.el _ hid
              injection e with e1 _
              injection e1 with _ e2
              subst e2
              exact hlt6 _ ht.lt
            rintro e w7 ⟨rfl, ⟨FF', l', tb', hR7, _⟩, hO7⟩
            have HR7 := Lib.hid hR7
            have HO7 := Lib.hid hO7
            clear hR7 hO7
            have z1 := HX4.out.size
            have z2 := HO5.out.size
            have z3 := HX6.out.size
            have z4 := HO7.out.size
            have l6 := HB6.out.lt
            go_wp2_with fail
            go_ret
            refine ⟨by rw [HE.out]; rfl, ?_, ?_⟩
            · rw [HE.out]
              refine ⟨_, _, _, _, _, _, HR7.out.more (fun k hk => ?_)⟩
              rcases hk with (hk | hk) | hk
              · exact .inl hk
              · exact .inr ⟨by omega, by omega⟩
              · exact .inr ⟨by omega, hk.2⟩
            · have q1 : Off F w w6 := ((HX4.out.off F).trans HO5.out).trans (HX6.out.off F)
              exact q1.then HO7.out fun k hk hk' => by
                rcases hk' with hk' | hk'
                · exact hk'
                · omega
          · have HE := Lib.hid (show Q.create s = Q.ask false from by unfold DkV.create; rw [if_neg (by rw [hf]; decide), if_neg (by rw [hm]; decide), if_neg (by rw [hn]; decide), if_neg h64, if_neg (by rw [← he0]; exact hz)])
            have z1 : decide (e0 = 0) = false := decide_eq_false hz
            have z2 : (e0 == 0) = false := by rw [beq_eq_false_iff_ne]; exact hz
            clear hf hn hm h64 he0 hz
            go_enter Tryz.func11, Tryz.ntmps11
            go_wp2_with fail
            refine (dready_calls HP.out).mono ?_
            rintro e w1 ⟨rfl, hb1⟩
            rw [HF.out]
            go_wp2_with fail
            refine (may_calls s _).mono ?_
            rintro e w2 ⟨rfl, hb2⟩
            rw [HMy.out]
            have HX := Lib.hid (hb1.trans hb2)
            clear hb1 hb2
            obtain ⟨tm, fg, fz, FF, l, tb, hR⟩ := HP.out.ex HX.out
            have c4 : w2.cell? ⟨g, 4, none⟩ = some (ptrV fg) := by rw [hR.blk.cell]; rfl
            have HR := Lib.hid hR
            clear hR
            go_wp2_with fail
            refine (fofind_calls s hs HR.out.fob).mono ?_
            rintro e w3 ⟨rfl, hb3⟩
            rw [HN.out]
            have c4' := Ex.cell hb3 c4
            go_wp2_with fail
            refine (foids_calls HO.out.fo (by omega) (HR.out.ex hb3).fob).mono ?_
            rintro e w4 ⟨iv, rfl, ho4, hb4⟩
            obtain ⟨iA, ic, rfl, _⟩ := own_shape ho4
            have HX4 := Lib.hid ((HX.out.trans hb3).trans hb4)
            have HR4 := Lib.hid (HR.out.ex (hb3.trans hb4))
            clear ho4 hb4 hb3 c4 c4'
            go_wp2_with fail
            refine (dput_calls HR4.out HO.out (by omega)).mono ?_
            rintro e w5 ⟨rfl, hR5, hO5⟩
            have HR5 := Lib.hid hR5
            have HO5 := Lib.hid hO5
            clear hR5 hO5
            rw [← HE0.out]
            go_wp2_with fail
            go_ret
            exact ⟨by rw [HE.out, ← HE0.out]; rfl, by rw [HE.out]; exact ⟨_, _, _, _, _, _, HR5.out.more Fresh.same⟩, (HX4.out.off F).trans HO5.out⟩
      · have HE := Lib.hid (show Q.create s = (Q, 17) from by unfold DkV.create; rw [hf, hm, hn]; rfl)
        have HN := Lib.hid hn
        have HMy := Lib.hid hm
        clear hf hn hm
        go_enter Tryz.func11, Tryz.ntmps11
        go_wp2_with fail
        refine (dready_calls HP.out).mono ?_
        rintro e w1 ⟨rfl, hb1⟩
        rw [HF.out]
        go_wp2_with fail
        refine (may_calls s _).mono ?_
        rintro e w2 ⟨rfl, hb2⟩
        rw [HMy.out]
        have HX := Lib.hid (hb1.trans hb2)
        clear hb1 hb2
        obtain ⟨tm, fg, fz, FF, l, tb, hR⟩ := HP.out.ex HX.out
        have c4 : w2.cell? ⟨g, 4, none⟩ = some (ptrV fg) := by rw [hR.blk.cell]; rfl
        have HR := Lib.hid hR
        clear hR
        go_wp2_with fail
        refine (fofind_calls s hs HR.out.fob).mono ?_
        rintro e w3 ⟨rfl, hb3⟩
        rw [HN.out]
        go_wp2_with fail
        go_ret
        exact ⟨by rw [HE.out]; rfl, by rw [HE.out]; exact (HP.out.ex (HX.out.trans hb3)).more Fresh.same, (HX.out.trans hb3).off F⟩
  · have HE := Lib.hid (show Q.create s = (Q, 14) from by unfold DkV.create; rw [hf]; rfl)
    have HF := Lib.hid hf
    clear hf
    go_enter Tryz.func11, Tryz.ntmps11
    go_wp2_with fail
    refine (dready_calls HP.out).mono ?_
    rintro e w1 ⟨rfl, hb1⟩
    rw [HF.out]
    go_wp2_with fail
    go_ret
    exact ⟨by rw [HE.out]; rfl, by rw [HE.out]; exact (HP.out.ex hb1).more Fresh.same, hb1.off F⟩
end Go.Proofs.YtcffkmlnbnjibaaGreat
