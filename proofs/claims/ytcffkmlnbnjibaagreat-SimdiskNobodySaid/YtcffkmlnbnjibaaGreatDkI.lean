/- Walks: a disk: SyncAll, Fault, Up, Free, Calls. -/
import Derived.Test.YtcffkmlnbnjibaaGreatDkH
namespace Go.Proofs.YtcffkmlnbnjibaaGreat
open Go.RowKit Go.Maps
namespace DkV
def syncAll (Q : DkV) : DkV × Int := if Q.fu.off = true then (Q, 14) else if (Q.ask true).2 = 0 then ({ (Q.ask true).1 with fo := Q.fo.sync }, 0) else Q.ask true
def fault (Q : DkV) (k a : Int) : DkV × Int := if Q.fu.off = true then (Q, 14) else if (Q.fu.arm k a).2 = true then ({ Q with fu := (Q.fu.arm k a).1 }, 0) else (Q, 2)
end DkV
theorem settle_ids {q : FoV} {n : Nat} {x : Int} (h : x ∈ (q.settle n).ids) : x ∈ q.ids := by
  rw [FoV.ids_mem] at h
  rcases h with ⟨m, hm, e⟩ | ⟨c, hc, _⟩
  · have := fold_all (P := fun m => m.pl ∈ q.ids) (ch := q.ch.take n) (fun c hc hp => (q.ids_mem _).2 (.inr ⟨c, List.mem_of_mem_take hc, hp, rfl⟩)) (l := q.kept) (fun m hm => (q.ids_mem _).2 (.inl ⟨m, hm, rfl⟩)) m hm
    rw [← e]; exact this
  · cases hc
theorem fo_ok {Q : DkV} {M : Nat} {fo : FoV} (h : Q.Ok M) (hf : fo.Ok M) : ({ Q with fo := fo } : DkV).Ok M := ⟨hf, h.fu, h.s1, h.s2, h.tl, h.cl, h.tz⟩
theorem FoV.Ok.up {q : FoV} {M N : Nat} (h : q.Ok M) (hN : M ≤ N) : q.Ok N := ⟨Nat.le_trans h.kl hN, h.ks, h.cs⟩
set_option maxHeartbeats 2000000 in
theorem dsyncAll_calls {w : World} {g : Nat} {F : Nat → Prop} {Q : DkV} (h : DkP w g F Q) {M : Nat} (ho : Q.Ok M) (hM : M ≤ 800000) :
    Calls Tryz.prog 17 #[ptrV g] w fun e w' => e = .returned (.int .i64 Q.syncAll.2) ∧ DkP w' g (Fresh F w w') Q.syncAll.1 ∧ Off F w w' := by
  have HP := Lib.hid h
  have HO := Lib.hid ho
  clear h ho
  cases hf : Q.fu.off
  · have HF := Lib.hid hf
    have HA := Lib.hid (ask_ok HO.out true)
    obtain ⟨e0, he0⟩ : ∃ e0, e0 = (Q.ask true).2 := ⟨_, rfl⟩
    have HE0 := Lib.hid he0
    by_cases hz : e0 = 0
    · have HE := Lib.hid (show Q.syncAll = ({ (Q.ask true).1 with fo := Q.fo.sync }, 0) from by unfold DkV.syncAll; rw [if_neg (by rw [hf]; decide), if_pos (by rw [← he0]; exact hz)])
      subst hz
      clear hf he0
      go_enter Tryz.func17, Tryz.ntmps17
      go_wp2_with fail
      refine (dready_calls HP.out).mono ?_
      rintro e w1 ⟨rfl, hb1⟩
      rw [HF.out]
      obtain ⟨tm, fg, fz, FF, l, tb, hR⟩ := HP.out.ex hb1
      have HR := Lib.hid hR
      have HX := Lib.hid hb1
      clear hR hb1
      go_wp2_with fail
      refine (dsyncf_calls HR.out HO.out (by omega)).mono ?_
      rintro e w5 ⟨rfl, hR5, hO5⟩
      have HR5 := Lib.hid hR5
      have HO5 := Lib.hid hO5
      have c4 : w5.cell? ⟨g, 4, none⟩ = some (ptrV fg) := by rw [HR5.out.blk.cell]; rfl
      clear hR5 hO5
      rw [← HE0.out]
      go_wp2_with fail
      refine (fosync_calls HO.out.fo (by omega) HR5.out.fob).mono ?_
      rintro e w6 ⟨rfl, hF6, hO6⟩
      have HR6 := Lib.hid (HR5.out.fo_ hO6 hF6 (fun id hid => HR5.out.co id (settle_ids hid)))
      have HO6 := Lib.hid hO6
      have HS := Lib.hid (fo_ok HA.out ((FoV.Ok.settle HO.out.fo (Nat.le_refl _)).up (Nat.le_succ M)))
      clear hF6 hO6
      go_wp2_with fail
      refine (dsweep_calls HR6.out HS.out (by omega)).mono ?_
      rintro e w7 ⟨rfl, ⟨tm', l', hR7⟩, hO7⟩
      have HR7 := Lib.hid hR7
      have HO7 := Lib.hid hO7
      clear hR7 hO7
      go_wp2_with fail
      go_ret
      have z1 := HX.out.size
      have z2 := HO5.out.size
      have z3 := HO6.out.size
      have z4 := HO7.out.size
      refine ⟨by rw [HE.out]; rfl, ?_, ?_⟩
      · rw [HE.out]
        refine ⟨_, _, _, _, _, _, HR7.out.more (fun k hk => ?_)⟩
        rcases hk with (hk | hk) | hk
        · exact .inl hk
        · exact .inr ⟨by omega, by omega⟩
        · exact .inr ⟨by omega, hk.2⟩
      · have q1 : Off F w w6 := (((HX.out.off F).trans HO5.out).trans (HO6.out.mono fun k _ hk => HR5.out.sub k hk))
        exact q1.then HO7.out fun k hk hk' => by
          rcases hk' with hk' | hk'
          · exact hk'
          · omega
    · have HE := Lib.hid (show Q.syncAll = Q.ask true from by unfold DkV.syncAll; rw [if_neg (by rw [hf]; decide), if_neg (by rw [← he0]; exact hz)])
      have z1 : decide (e0 = 0) = false := decide_eq_false hz
      have z2 : (e0 == 0) = false := by rw [beq_eq_false_iff_ne]; exact hz
      clear hf he0 hz
      go_enter Tryz.func17, Tryz.ntmps17
      go_wp2_with fail
      refine (dready_calls HP.out).mono ?_
      rintro e w1 ⟨rfl, hb1⟩
      rw [HF.out]
      obtain ⟨tm, fg, fz, FF, l, tb, hR⟩ := HP.out.ex hb1
      have HR := Lib.hid hR
      have HX := Lib.hid hb1
      clear hR hb1
      go_wp2_with fail
      refine (dsyncf_calls HR.out HO.out (by omega)).mono ?_
      rintro e w5 ⟨rfl, hR5, hO5⟩
      rw [← HE0.out]
      go_wp2_with fail
      go_ret
      exact ⟨by rw [HE.out, ← HE0.out]; rfl, by rw [HE.out]; exact ⟨_, _, _, _, _, _, hR5.more Fresh.same⟩, (HX.out.off F).trans hO5⟩
  · have HF := Lib.hid hf
    have HE := Lib.hid (show Q.syncAll = (Q, 14) from by unfold DkV.syncAll; rw [if_pos hf])
    clear hf
    go_enter Tryz.func17, Tryz.ntmps17
    go_wp2_with fail
    refine (dready_calls HP.out).mono ?_
    rintro e w1 ⟨rfl, hb1⟩
    rw [HF.out]
    go_wp2_with fail
    go_ret
    exact ⟨by rw [HE.out]; rfl, by rw [HE.out]; exact (HP.out.ex hb1).more Fresh.same, hb1.off F⟩
theorem dup_calls {w : World} {g : Nat} {F : Nat → Prop} {Q : DkV} (h : DkP w g F Q) : Calls Tryz.prog 23 #[ptrV g] w fun e w' => e = .returned (.bool (!Q.fu.off)) ∧ Ex w w' := by
  have H := Lib.hid h
  clear h
  go_enter Tryz.func23, Tryz.ntmps23
  go_wp2_with fail
  refine (dnone_calls H.out).mono ?_
  rintro e w1 ⟨rfl, hb1⟩
  obtain ⟨tm, fg, fz, FF, l, tb, h⟩ := H.out.ex hb1
  have hc : w1.cell? ⟨g, 5, none⟩ = some (ptrV fz) := by rw [h.blk.cell]; rfl
  have HZ := Lib.hid h.fub
  clear h
  go_wp2_with fail
  refine (fup_calls HZ.out).mono ?_
  rintro e w2 ⟨rfl, hb2⟩
  go_wp2_with fail
  go_ret
  exact ⟨rfl, hb1.trans hb2⟩
theorem dcount_calls {w : World} {g : Nat} {F : Nat → Prop} {Q : DkV} (h : DkP w g F Q) : Calls Tryz.prog 21 #[ptrV g] w fun e w' => e = .returned (.int .i64 (Q.calls : Int)) ∧ Ex w w' := by
  have H := Lib.hid h
  clear h
  go_enter Tryz.func21, Tryz.ntmps21
  go_wp2_with fail
  refine (dnone_calls H.out).mono ?_
  rintro e w1 ⟨rfl, hb1⟩
  obtain ⟨tm, fg, fz, FF, l, tb, h⟩ := H.out.ex hb1
  have hc : w1.cell? ⟨g, 2, none⟩ = some (.int .i64 (Q.calls : Int)) := by rw [h.blk.cell]; rfl
  clear h
  go_wp2_with fail
  go_ret
  exact ⟨rfl, hb1⟩
set_option maxRecDepth 100000 in
theorem dfree_calls {w : World} {g : Nat} {F : Nat → Prop} {Q : DkV} (h : DkP w g F Q) {M : Nat} (ho : Q.Ok M) (hM : M ≤ 800000) : Calls Tryz.prog 20 #[ptrV g] w fun e w' => e = .returned (.int .i64 (Q.sec - (Q.taken : Int))) ∧ Ex w w' := by
  obtain ⟨tm, fg, fz, FF, l, tb, h⟩ := h
  have hil := h.ids_len
  have htl := ho.tl
  have htk := sumT_le ho Q.fo.ids
  have hs1 := ho.s1
  have hs2 := ho.s2
  have H := Lib.hid h
  have HO := Lib.hid ho
  clear h ho
  obtain ⟨tk, htk0⟩ : ∃ tk, tk = Q.taken := ⟨_, rfl⟩
  have htk' : tk ≤ 4096000000 := by rw [htk0]; unfold DkV.taken; omega
  have HTK := Lib.hid htk0
  have hw1 : IntKind.i64.wrap (Q.sec - (tk : Int)) = Q.sec - (tk : Int) := IntWalk.i64_in _ (by omega)
  rw [← htk0]
  clear htk0 htk hil htl
  go_enter Tryz.func20, Tryz.ntmps20
  go_wp2_with fail
  refine (dnone_calls ⟨_, _, _, _, _, _, H.out⟩).mono ?_
  rintro e w1 ⟨rfl, hb1⟩
  have HR := Lib.hid (H.out.ex hb1)
  have q0 := Wd.cell (show w1.cell? ⟨g, 0, none⟩ = some (.int .i64 Q.sec) by rw [HR.out.blk.cell]; rfl)
  have KT := Lib.hid (show ∀ y : Wd w1, Calls Tryz.prog 57 #[ptrV g] y.v fun e w' => e = .returned (.int .i64 (tk : Int)) ∧ Ex y.v w' from fun y => by rw [HTK.out]; exact dtaken_calls (HR.out.ex y.ex) HO.out (by omega))
  go_wp2_with fail
  refine wp_region_calm (by kernel_rfl) (by kernel_rfl) ?_
  repeat (go_big_quiet_step ((go_at_call 57; with_reducible exact calm_of (KT.out _))))
  refine wpQuiet_nil ?_
  intro w2 hX
  replace hX := calm_world hX
  go_wp2_with fail
  go_ret
  exact ⟨rfl, hb1.trans hX⟩
theorem arm_no {f : FuV} {k a : Int} (h : (f.arm k a).2 = false) : (f.arm k a).1 = f := by
  unfold FuV.arm at *
  by_cases h1 : k < 0 ∨ 4 ≤ k ∨ a < 0
  · rw [if_pos h1]
  · rw [if_neg h1] at h
    by_cases h2 : k = 0
    · rw [if_pos h2] at h; cases h
    · rw [if_neg h2] at h
      by_cases h3 : k = 1
      · rw [if_pos h3] at h; cases h
      · rw [if_neg h3] at h
        by_cases h4 : k = 2
        · rw [if_pos h4] at h; cases h
        · rw [if_neg h4] at h; cases h
set_option maxHeartbeats 1000000 in
set_option maxRecDepth 100000 in
theorem dfault_calls {w : World} {g : Nat} {F : Nat → Prop} {Q : DkV} (h : DkP w g F Q) (k a : Int) :
    Calls Tryz.prog 18 #[ptrV g, .agg #[.int .i64 k, .int .i64 a]] w fun e w' => e = .returned (.int .i64 (Q.fault k a).2) ∧ DkP w' g F (Q.fault k a).1 ∧ Off F w w' := by
  have HP := Lib.hid h
  clear h
  have hX0 := ex_alloc (Ex.refl w) (.cells #[.int .i64 k, .int .i64 a] 40)
  have hK : Blk (w.alloc (.cells #[.int .i64 k, .int .i64 a] 40)) w.heap.size 40 [.int .i64 k, .int .i64 a] := Blk.new w _ _
  cases hf : Q.fu.off
  · have HF := Lib.hid hf
    cases ha : (Q.fu.arm k a).2
    · have HE := Lib.hid (show Q.fault k a = (Q, 2) from by unfold DkV.fault; rw [if_neg (by rw [hf]; decide), if_neg (by rw [ha]; decide)])
      have HA := Lib.hid ha
      clear hf ha
      go_enter Tryz.func18, Tryz.ntmps18
      go_wp2_with fail
      refine (dready_calls (HP.out.ex hX0)).mono ?_
      rintro e w1 ⟨rfl, hb1⟩
      rw [HF.out]
      have HX := Lib.hid (hX0.trans hb1)
      have HK1 := hK.ex hb1
      obtain ⟨tm, fg, fz, FF, l, tb, hR⟩ := HP.out.ex HX.out
      have c5 : w1.cell? ⟨g, 5, none⟩ = some (ptrV fz) := by rw [hR.blk.cell]; rfl
      have k0 : w1.cell? ⟨w.heap.size, 0, none⟩ = some (.int .i64 k) := by rw [HK1.cell]; rfl
      have k1 : w1.cell? ⟨w.heap.size, 1, none⟩ = some (.int .i64 a) := by rw [HK1.cell]; rfl
      have HR := Lib.hid hR
      have hgz : ¬ w.heap.size = fz := fun e => by
        have h1 := HR.out.fub.cell 5
        rw [← e] at h1
        have h2 := HK1.cell 5
        rw [h2] at h1
        cases h1
      have hgz' : ¬ g = fz := hR.gz
      clear hR hb1 hX0 hK HK1
      go_wp2_with fail
      go_region_held3 (fun w' => w'.cell? ⟨g, 5, none⟩ = some (ptrV fz) ∧ w'.cell? ⟨w.heap.size, 0, none⟩ = some (.int .i64 k) ∧ w'.cell? ⟨w.heap.size, 1, none⟩ = some (.int .i64 a)) (go_keep) ((go_at_call 67; refine (farm_calls k a (HR.out.ex (Ex.refl w1).drew).fub).mono ?_; rintro e w2 ⟨rfl, hB2, hO2⟩; rw [HA.out]; have HR2 := Lib.hid (DkR.fuse_ (HR.out.ex (Ex.refl w1).drew) hO2 hB2); have HO2 := Lib.hid (Off.trans (Ex.off (Ex.refl w1).drew F) (hO2.mono fun _ _ e => e ▸ HR.out.fz_)); have d5 := hO2.cell (show w1.drew.cell? ⟨g, 5, none⟩ = some (ptrV fz) from c5) hgz'; have e0 := hO2.cell (show w1.drew.cell? ⟨w.heap.size, 0, none⟩ = some (.int .i64 k) from k0) hgz; have e1 := hO2.cell (show w1.drew.cell? ⟨w.heap.size, 1, none⟩ = some (.int .i64 a) from k1) hgz; clear hB2 hO2))
      go_wp2_with fail
      go_ret
      have e1 : ({ Q with fu := (Q.fu.arm k a).1 } : DkV) = Q := by
        have : (Q.fu.arm k a).1 = Q.fu := arm_no HA.out
        rw [this]
      have h2 := HR2.out
      rw [e1] at h2
      exact ⟨by rw [HE.out]; rfl, by rw [HE.out]; exact ⟨_, _, _, _, _, _, h2⟩, (HX.out.off F).trans HO2.out⟩
    · have HE := Lib.hid (show Q.fault k a = ({ Q with fu := (Q.fu.arm k a).1 }, 0) from by unfold DkV.fault; rw [if_neg (by rw [hf]; decide), if_pos ha])
      have HA := Lib.hid ha
      clear hf ha
      go_enter Tryz.func18, Tryz.ntmps18
      go_wp2_with fail
      refine (dready_calls (HP.out.ex hX0)).mono ?_
      rintro e w1 ⟨rfl, hb1⟩
      rw [HF.out]
      have HX := Lib.hid (hX0.trans hb1)
      have HK1 := hK.ex hb1
      obtain ⟨tm, fg, fz, FF, l, tb, hR⟩ := HP.out.ex HX.out
      have c5 : w1.cell? ⟨g, 5, none⟩ = some (ptrV fz) := by rw [hR.blk.cell]; rfl
      have k0 : w1.cell? ⟨w.heap.size, 0, none⟩ = some (.int .i64 k) := by rw [HK1.cell]; rfl
      have k1 : w1.cell? ⟨w.heap.size, 1, none⟩ = some (.int .i64 a) := by rw [HK1.cell]; rfl
      have HR := Lib.hid hR
      have hgz : ¬ w.heap.size = fz := fun e => by
        have h1 := HR.out.fub.cell 5
        rw [← e] at h1
        have h2 := HK1.cell 5
        rw [h2] at h1
        cases h1
      have hgz' : ¬ g = fz := hR.gz
      clear hR hb1 hX0 hK HK1
      go_wp2_with fail
      go_region_held3 (fun w' => w'.cell? ⟨g, 5, none⟩ = some (ptrV fz) ∧ w'.cell? ⟨w.heap.size, 0, none⟩ = some (.int .i64 k) ∧ w'.cell? ⟨w.heap.size, 1, none⟩ = some (.int .i64 a)) (go_keep) ((go_at_call 67; refine (farm_calls k a (HR.out.ex (Ex.refl w1).drew).fub).mono ?_; rintro e w2 ⟨rfl, hB2, hO2⟩; rw [HA.out]; have HR2 := Lib.hid (DkR.fuse_ (HR.out.ex (Ex.refl w1).drew) hO2 hB2); have HO2 := Lib.hid (Off.trans (Ex.off (Ex.refl w1).drew F) (hO2.mono fun _ _ e => e ▸ HR.out.fz_)); have d5 := hO2.cell (show w1.drew.cell? ⟨g, 5, none⟩ = some (ptrV fz) from c5) hgz'; have e0 := hO2.cell (show w1.drew.cell? ⟨w.heap.size, 0, none⟩ = some (.int .i64 k) from k0) hgz; have e1 := hO2.cell (show w1.drew.cell? ⟨w.heap.size, 1, none⟩ = some (.int .i64 a) from k1) hgz; clear hB2 hO2))
      go_wp2_with fail
      go_ret
      exact ⟨by rw [HE.out]; rfl, by rw [HE.out]; exact ⟨_, _, _, _, _, _, HR2.out⟩, (HX.out.off F).trans HO2.out⟩
  · have HF := Lib.hid hf
    have HE := Lib.hid (show Q.fault k a = (Q, 14) from by unfold DkV.fault; rw [if_pos hf])
    clear hf
    go_enter Tryz.func18, Tryz.ntmps18
    go_wp2_with fail
    refine (dready_calls (HP.out.ex hX0)).mono ?_
    rintro e w1 ⟨rfl, hb1⟩
    rw [HF.out]
    go_wp2_with fail
    go_ret
    exact ⟨by rw [HE.out]; rfl, by rw [HE.out]; exact HP.out.ex (hX0.trans hb1), (hX0.trans hb1).off F⟩
end Go.Proofs.YtcffkmlnbnjibaaGreat
