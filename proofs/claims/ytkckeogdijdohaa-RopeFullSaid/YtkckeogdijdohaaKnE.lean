/- Walk: Up. -/
import Derived.Test.YtkckeogdijdohaaKnD
namespace Go.Proofs.Ytkckeogdijdohaa
open Go.RowKit
/-- What Up hands back. -/
def UpP (cs : List ByteArray) (w : World) (e : Ending) (w' : World) : Prop := ∃ h v, e = .returned v ∧ Kn h w' v cs ∧ Ex w w'
def lenOf : Value → Nat
  | .slice _ n _ => n
  | _ => 0
theorem Kids.vs_take (ks : Kids) (k : Nat) : Kids.vs (ks.take k) = ks.vs.take k := List.map_take ..
theorem Kids.vs_drop (ks : Kids) (k : Nat) : Kids.vs (ks.drop k) = ks.vs.drop k := List.map_drop ..
theorem Kids.vs_app (a b : Kids) : Kids.vs (a ++ b) = a.vs ++ b.vs := List.map_append ..
theorem Kids.cs_app (a b : Kids) : Kids.cs (a ++ b) = a.cs ++ b.cs := by unfold Kids.cs; exact List.flatMap_append
theorem Kids.cs_cut (ks : Kids) (k : Nat) : ks.cs = Kids.cs (ks.take k) ++ Kids.cs (ks.drop k) := by rw [← Kids.cs_app, List.take_append_drop]
theorem grp_at {n : Nat} (h : 2 ≤ n) : 2 ≤ grp n ∧ grp n ≤ 8 ∧ grp n ≤ n ∧ (n - grp n = 0 ∨ 2 ≤ n - grp n) := by
  unfold grp; split <;> omega
/-- Knots in a row of the call's own: they stand behind an append to it. -/
def KF (v : Value) (h : Nat) (w : World) (ks : Kids) : Prop := ∀ k ∈ ks, Kn h w k.1 k.2 ∧ Fp (fun b => v.ownBlock ≠ some b) h w k.1
theorem KF.app {v v' : Value} {h : Nat} {w w' : World} {ks : Kids} (x : KF v h w ks) (hg : w.grownBy w' v.ownBlock) (ho : v'.ownBlock = v.ownBlock ∨ v'.ownBlock = some w.heap.size) : KF v' h w' ks := by
  intro k hm
  obtain ⟨h1, h2⟩ := x k hm
  obtain ⟨h3, h4⟩ := Kn.keep h1 (h1.fp h2) (fun b o u hb hc => grown_cell hg b o u hb.1 hc)
  refine ⟨h3, h4.mono fun b hb => ?_⟩
  rcases ho with ho | ho
  · rw [ho]; exact hb.1
  · rw [ho]; intro e; injection e with e; have := hb.2; omega
theorem KF.ex {v : Value} {h : Nat} {w w' : World} {ks : Kids} (x : KF v h w ks) (hb : Ex w w') : KF v h w' ks := fun k hm =>
  Kn.keep (x k hm).1 (x k hm).2 fun _ _ _ _ hc => Ex.cell hb hc
theorem KF.kn {v : Value} {h : Nat} {w : World} {ks : Kids} (x : KF v h w ks) : ∀ k ∈ ks, Kn h w k.1 k.2 := fun k hm => (x k hm).1
theorem KF.fp {v : Value} {h : Nat} {w : World} {ks : Kids} (x : KF v h w ks) : ∀ k ∈ ks, Fp (fun b => v.ownBlock ≠ some b) h w k.1 := fun k hm => (x k hm).2
theorem KF.of {v : Value} {h : Nat} {w : World} {ks : Kids} (hk : ∀ k ∈ ks, Kn h w k.1 k.2) (hv : v.ownBlock = none) : KF v h w ks := fun k hm =>
  ⟨hk k hm, Fp.all.mono fun b _ => by rw [hv]; intro e; cases e⟩
theorem KF.two {v : Value} {h : Nat} {w : World} {a b : Kids} (x : KF v h w a) (y : KF v h w b) : KF v h w (a ++ b) := fun k hm => by
  rcases List.mem_append.1 hm with hm | hm
  · exact x k hm
  · exact y k hm
theorem KF.sub {v : Value} {h : Nat} {w : World} {a b : Kids} (x : KF v h w a) (hs : ∀ k ∈ b, k ∈ a) : KF v h w b := fun k hm => x k (hs k hm)
/-- Behind a call that makes a node: it lies in none of the row's block. -/
theorem KF.one {v : Value} {base n h : Nat} {w w' : World} {xs : List Value} {t : TypeId} {u : Value} {cs : List ByteArray} (hown : w.ownsRow base t 1 v n xs) (hk : Kn h w' u cs) (hf : Fp (fun b => v.ownBlock ≠ some b ∨ w.heap.size ≤ b) h w' u) : KF v h w' [(u, cs)] := fun k hm => by
  rw [List.mem_singleton.1 hm]
  refine ⟨hk, hf.mono fun b hb => ?_⟩
  rcases hb with hb | hb
  · exact hb
  · intro e
    have := (hown.lt b e).2
    omega
set_option maxRecDepth 100000 in
set_option maxHeartbeats 2000000 in
theorem up_calls {h : Nat} (ks : Kids) (A : Option Addr) (cap : Nat) (w : World) (h1 : 1 ≤ ks.length) (hc : ks.length ≤ cap) (hn : ks.length ≤ 100000) (hs : (flat ks.cs).size ≤ 100000) (hr : Row w 1 A ks.length ks.vs) (hk : ∀ k ∈ ks, Kn h w k.1 k.2) : Calls Try.prog 35 #[.slice A ks.length cap] w (UpP ks.cs w) := by
  obtain ⟨cs, hcs⟩ : ∃ cs, cs = ks.cs := ⟨_, rfl⟩
  rw [← hcs] at hs ⊢
  have HCS := Lib.hid hcs
  have HR := Lib.hid hr
  have HK := Lib.hid hk
  have HS := Lib.hid hs
  have d1 : ((ks.length : Int) == 0) = false := by rw [beq_eq_false_iff_ne]; omega
  have HE := Lib.hid (fun w => even_calls (h := h) ks A cap w (by omega))
  clear hr hk hs hcs
  go_enter Try.func35, Try.ntmps35
  go_wp2_with fail
  refine (HE.out _ HR.out HK.out).mono ?_
  rintro e w1 ⟨rfl, hb1⟩
  have HB1 := Lib.hid hb1
  clear hb1
  go_wp2_with fail
  go_loopw [0, 3, 4] (fun v0 _ _ wr => ∃ (h : Nat) (ks : Kids) (A : Option Addr) (c : Nat), v0 = .slice A ks.length c ∧ ks.length ≤ c ∧ 1 ≤ ks.length ∧ ks.length ≤ 100000 ∧ ks.cs = cs ∧ Row wr 1 A ks.length ks.vs ∧ (∀ k ∈ ks, Kn h wr k.1 k.2) ∧ Ex w wr) (fun v0 _ _ _ => lenOf v0)
  case atStart => exact ⟨h, ks, A, cap, rfl, hc, h1, hn, HCS.out.symm, HR.out.ex HB1.out, fun k hm => (HK.out k hm).ex HB1.out, HB1.out⟩
  case round =>
    clear HK HR HE HCS d1 h1 hn hc HB1
    obtain ⟨h, ks, A, c, rfl, hc, h1, hn, hcs, hr, hk, hb⟩ := hrel
    have HCS := Lib.hid hcs
    have HR := Lib.hid hr
    have HK := Lib.hid hk
    have HB := Lib.hid hb
    obtain ⟨wo, rfl⟩ : ∃ wo : World, wo = wr := ⟨_, rfl⟩
    clear hcs hr hk hb
    by_cases h8 : 8 < ks.length
    · have d8 : decide (8 < (ks.length : Int)) = true := decide_eq_true (by omega)
      have HKF := Lib.hid (KF.of (v := .slice none 0 0) HK.out rfl)
      go_wp2_with fail
      go_loopw [0, 3, 4] (fun v0 v3 _ wr => ∃ (rem ab : Kids) (n : Nat) (A : Option Addr) (c : Nat), v0 = .slice A n c ∧ n = rem.length ∧ n ≤ c ∧ (n = 0 ∨ 2 ≤ n) ∧ 2 * ab.length + n ≤ ks.length ∧ ab.cs ++ rem.cs = cs ∧ Row wo 1 A n rem.vs ∧ KF v3 h wr rem ∧ wr.ownsRow wo.heap.size 23 1 v3 ab.length ab.vs ∧ KF v3 (h + 1) wr ab ∧ Ex wo wr) (fun v0 _ _ _ => lenOf v0)
      case atStart => exact ⟨ks, [], ks.length, A, c, rfl, rfl, hc, by omega, by simp, HCS.out, HR.out, HKF.out, World.ownsRow_nil _ _ _ _, (fun _ hm => by cases hm), Ex.refl _⟩
      case round =>
        obtain ⟨rem, ab, n, A2, c2, rfl, hnl, hc2, hn2, hab, hcs2, hr2, hk2, hown, hka, hb2⟩ := hrel
        have HNL := Lib.hid hnl
        have HCS2 := Lib.hid hcs2
        have HR2 := Lib.hid hr2
        have HR2' := Lib.hid (hr2.ex hb2)
        have HK2 := Lib.hid hk2
        have HO := Lib.hid hown
        have HKA := Lib.hid hka
        have HB2 := Lib.hid hb2
        have hsz := hb2.size
        clear hnl hcs2 hr2 hk2 hown hka hb2
        by_cases h0 : 0 < n
        · obtain ⟨g1, g2, g3, g4⟩ := grp_at (n := n) (by omega)
          have hn5 : n ≤ 100000 := by omega
          go_wp2_with fail
          refine (group_calls n _ hn5).mono ?_
          rintro e w3 ⟨rfl, rfl⟩
          obtain ⟨m, hm⟩ : ∃ m, m = grp n := ⟨_, rfl⟩
          rw [← hm] at g1 g2 g3 g4 ⊢
          clear hm
          have i1 : (m : Int) ≤ (n : Int) := by omega
          have i2 : (m : Int) ≤ (c2 : Int) := by omega
          have i3 : m ≤ c2 := by omega
          have htk : (rem.take m).length = m := by rw [List.length_take, ← HNL.out]; omega
          have HTK := Lib.hid htk
          have HRT := Lib.hid (show Row w3 1 A2 m (Kids.vs (rem.take m)) from by
            have := HR2'.out.take (k := m) g3
            rwa [Nat.mul_one, ← Kids.vs_take] at this)
          have HRD := Lib.hid (show Kids.vs (rem.drop m) = rem.vs.drop (m * 1) from by rw [Nat.mul_one, Kids.vs_drop])
          have HLD := Lib.hid (show n - m = (rem.drop m).length from by rw [List.length_drop, ← HNL.out])
          have HCC := Lib.hid (show ab.cs ++ (Kids.cs (rem.take m) ++ Kids.cs (rem.drop m)) = cs from by rw [← Kids.cs_cut]; exact HCS2.out)
          have HS3 := Lib.hid (show (flat (Kids.cs (rem.take m))).size ≤ 100000 from by
            have h1 := HS.out
            rw [← HCC.out, flat_size_app, flat_size_app] at h1
            omega)
          have HKT := Lib.hid (HK2.out.sub (b := rem.take m) fun k hm => List.mem_of_mem_take hm)
          clear htk
          go_wp2_with fail
          refine (join_n (fun b => u3.ownBlock ≠ some b) (rem.take m) A2 c2 w3 HTK.out.symm g1 g2 HS3.out HRT.out HKT.out.kn HKT.out.fp).mono ?_
          rintro e w4 ⟨v4, rfl, hk4, hf4, hb4⟩
          obtain ⟨p4, rfl⟩ := hk4.ptr
          have HK4 := Lib.hid (KF.one HO.out hk4 hf4)
          have HO4 := Lib.hid (own_ex HO.out hb4)
          have HB4 := Lib.hid (HB2.out.trans hb4)
          have HKA4 := Lib.hid (HKA.out.ex hb4)
          have HKR4 := Lib.hid ((HK2.out.sub (b := rem.drop m) fun k hm => List.mem_of_mem_drop hm).ex hb4)
          have HPT := Lib.hid (show Ptr [.pointer p4] from fun u hu => ⟨p4, List.mem_singleton.1 hu⟩)
          have hsz4 := HB4.out.size
          clear hk4 hf4 hb4
          have hnc : m ≤ n := g3
          go_wp2_with (first | (at_builtin; go_must (refine app_kn rfl (.tmp 22) (.tmp 27) rfl wo.heap.size u3 ab.length ab.vs rfl (own_ex HO4.out (ex_alloc (Ex.refl _) _)) (some ⟨w4.heap.size, 0, none⟩) 1 1 [.pointer p4] rfl (row_lit w4 [.pointer p4] 23) HPT.out (by omega) (by simp; omega) (ex_alloc HB4.out _) ?_; intro v5 w5 q1 q2 q3 q4; have HO5 := Lib.hid q1; have HB5 := Lib.hid q2; have HKA5 := Lib.hid (((HKA4.out.two HK4.out).ex (ex_alloc (Ex.refl w4) _)).app q3 q4); have HKR5 := Lib.hid ((HKR4.out.ex (ex_alloc (Ex.refl w4) _)).app q3 q4);  clear q1 q2 q3 q4)) | (refine wpList_tail rfl 57 (.tmp 29) (.tmp 30) rfl 23 1 Try.underlying57 size_kn A2 n c2 m rem.vs (by rfl) (by rfl) g3 hc2 ?_; intro A3 q5; have HR6 := Lib.hid (q5 wo HR2.out); clear q5))
          go_roundw
          case rel => exact ⟨rem.drop m, ab ++ [(.pointer p4, Kids.cs (rem.take m))], n - m, A3, c2 - m, rfl, HLD.out, by omega, g4, by rw [List.length_append, List.length_singleton]; omega, by rw [Kids.cs_app, ← HCC.out, List.append_assoc]; simp [Kids.cs], by rw [HRD.out]; exact HR6.out, HKR5.out, by rw [List.length_append, List.length_singleton, Kids.vs_app]; exact HO5.out, HKA5.out, HB5.out⟩
          case measure => show n - m < n; omega
        · have hz : n = 0 := by omega
          have HAB := Lib.hid (show ab.cs = cs from by
            have h1 := HNL.out
            rw [hz] at h1
            have : rem = [] := List.eq_nil_of_length_eq_zero h1.symm
            have h2 := HCS2.out
            rw [this] at h2
            simpa [Kids.cs] using h2)
          have hab1 : 1 ≤ ab.length := by
            rcases Nat.eq_zero_or_pos ab.length with h0 | h0
            · have e1 : ab = [] := List.eq_nil_of_length_eq_zero h0
              have h2 := HAB.out
              rw [e1, ← HCS.out] at h2
              have h3 := (HK.out ks[0] (List.getElem_mem (by omega))).pos
              have h4 := Kids.split_at (ks := ks) (k := 0) (by omega)
              rw [← h2] at h4
              have := congrArg List.length h4
              simp [Kids.cs] at this
              omega
            · exact h0
          obtain ⟨A3, c3, hv3, hc3⟩ := own_shape HO.out
          subst hv3
          have HRW := Lib.hid (Row.of_own HO.out)
          have HBF := Lib.hid (HB.out.trans HB2.out)
          subst hz
          go_wp2_with fail
          go_roundw
          case rel => exact ⟨_, ab, A3, c3, rfl, hc3, hab1, by omega, HAB.out, HRW.out, HKA.out.kn, HBF.out⟩
          case measure => show ab.length < ks.length; omega
    · by_cases h2 : ks.length = 1
      · have d2 : ((ks.length : Int) == 1) = true := by rw [beq_iff_eq]; omega
        obtain ⟨b, o, rfl, hcell⟩ := HR.out.kid (k := 0) (by omega)
        rw [Nat.add_zero] at hcell
        have HQ := Lib.hid (HK.out ks[0] (List.getElem_mem (by omega)))
        have HQC := Lib.hid (show ks[0].2 = cs from by
          rw [← HCS.out, Kids.split_at (k := 0) (by omega)]
          simp [Kids.cs, List.drop_eq_nil_of_le (show ks.length ≤ 1 by omega)])
        generalize ks[0] = q at hcell HQ HQC
        have d3 : (0 : Int) < (ks.length : Int) := by omega
        clear h2
        go_wp2_with fail
        go_ret
        exact ⟨h, q.1, rfl, by rw [← HQC.out]; exact HQ.out, HB.out⟩
      · have d2 : ((ks.length : Int) == 1) = false := by rw [beq_eq_false_iff_ne]; omega
        have hge : 2 ≤ ks.length := by omega
        have hle : ks.length ≤ 8 := by omega
        have HS3 := Lib.hid (show (flat ks.cs).size ≤ 100000 from by rw [HCS.out]; exact HS.out)
        clear h2
        go_wp2_with fail
        refine (joinK_calls (fun _ => True) ks A c wo hge hle HS3.out HR.out HK.out (fun _ _ => Fp.all)).mono ?_
        rintro e w4 ⟨v4, rfl, hk4, -, hb4⟩
        rw [HCS.out] at hk4
        have HK4 := Lib.hid hk4
        clear hk4
        go_wp2_with fail
        go_ret
        exact ⟨_, _, rfl, HK4.out, HB.out.trans hb4⟩
theorem up_nil (A : Option Addr) (cap : Nat) (w : World) : Calls Try.prog 35 #[.slice A 0 cap] w fun e w' => e = .returned (.pointer none) ∧ w' = w := by
  go_enter Try.func35, Try.ntmps35
  go_wp2_with fail
  go_ret
  exact ⟨rfl, rfl⟩
end Go.Proofs.Ytkckeogdijdohaa
