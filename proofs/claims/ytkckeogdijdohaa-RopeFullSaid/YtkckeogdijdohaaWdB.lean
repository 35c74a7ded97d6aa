/- Walks: weld.over, join, whole, raw, Tight. -/
import Derived.Test.YtkckeogdijdohaaWdA
import Derived.Deep.RegionLawGrows
import Derived.Deep.DeepMust
namespace Go.Proofs.Ytkckeogdijdohaa
open Go.RowKit
/-- One or two knots of one height, in a row without room. -/
def OverP (h : Nat) (cs : List ByteArray) (w : World) (e : Ending) (w' : World) : Prop :=
  ∃ (A : Option Addr) (ks : Kids), e = .returned (.slice A ks.length ks.length) ∧ 1 ≤ ks.length ∧ ks.length ≤ 2 ∧ Row w' 1 A ks.length ks.vs ∧ (∀ k ∈ ks, Kn h w' k.1 k.2) ∧ ks.cs = cs ∧ Ex w w'
section
variable {w : World} {ops : Array Oper} {rest : List Oper} {o : Oper} {a : Act} {Q : Exit → Act → World → Prop} {K : Act → World → Prop} {E : Prop}
set_option maxRecDepth 100000 in
/-- append where there is no room. -/
theorem app_full (hgd : o.guard = none) (s x : Operand) (ho : o.op = .call { callee := .builtin .append, args := #[s, x], argTypes := #[57, 57] }) (A : Option Addr) (n : Nat) (l : List Value) (hs : a.eval s = .slice A n n) (hr : Row w 1 A n l) (h0 : 0 < n)
    (A2 : Option Addr) (m c : Nat) (l2 : List Value) (hx : a.eval x = .slice A2 m c) (hr2 : Row w 1 A2 m l2) (hp : Ptr l2) (h1 : 0 < m) (hsm : n + m ≤ 1000000)
    (h : ∀ A' c' w', w'.ownsRow w.heap.size 23 1 (.slice A' (n + m) c') (n + m) (l ++ l2) → n + m ≤ c' → Ex w w' → K (a.put o.dst (.slice A' (n + m) c')) w') :
    if Region.wanted o (yielded ops a.tmps) = true then Oper.wp Try.prog o a w K Q else E := by
  obtain ⟨i0, hi0, hz0, hz1, hz2⟩ := info_parts info_kn
  obtain ⟨b, o1, rfl, hc1⟩ := hr.2 h0
  obtain ⟨b2, o2, rfl, hc2⟩ := hr2.2 h1
  refine step_append_grows hgd s x _ ho _ i0 _ 1 8 Try.underlying57 hi0 hz0 hz1 hz2 rfl (by decide) (some ⟨b, o1, none⟩) n n l hs (fun h => by cases h) hr.1 (fun b' e j u hu => by injection e with e; subst e; rw [add_lit0]; exact hc1 j u hu) ⟨b2, o2, none⟩ m c l2 hx hr2.1 (fun j u hu => by rw [add_lit0]; exact hc2 j u hu) hp.one (by omega) (by unfold maxLen; omega) (by omega) ?_
  intro v' w' h2 h3
  obtain ⟨A', c', rfl, hc'⟩ := own_shape h2
  exact h A' c' w' h2 hc' ((Below.refl _ _).grown h3 (Nat.le_refl _) fun k hk => by cases hk)
end
theorem Kids.of_len {ks : Kids} {m : Nat} (h : ks.length = m + 1) : ks = ks.take m ++ [ks[m]'(by omega)] := by
  rw [← List.take_succ_eq_append_getElem (by omega), List.take_of_length_le (by omega)]
set_option maxRecDepth 100000 in
set_option maxHeartbeats 1000000 in
theorem over_calls {h : Nat} (ks : Kids) (A : Option Addr) (c : Nat) (w : World) (h2 : 2 ≤ ks.length) (h9 : ks.length ≤ 9) (hc : ks.length ≤ c) (hs : (flat ks.cs).size ≤ 100000) (hr : Row w 1 A ks.length ks.vs) (hk : ∀ k ∈ ks, Kn h w k.1 k.2) : Calls Try.prog 91 #[.slice A ks.length c] w (OverP (h + 1) ks.cs w) := by
  have HR := Lib.hid hr
  have HK := Lib.hid hk
  have HS := Lib.hid hs
  by_cases h8 : ks.length ≤ 8
  · have d1 : decide ((ks.length : Int) ≤ 8) = true := decide_eq_true (by omega)
    clear hr hk hs
    go_enter Try.func91, Try.ntmps91
    go_wp2_with fail
    refine (joinK_calls (fun _ => True) ks A c w h2 h8 HS.out HR.out HK.out (fun _ _ => Fp.all)).mono ?_
    rintro e w1 ⟨v, rfl, hk1, -, hb1⟩
    obtain ⟨p, rfl⟩ := hk1.ptr
    have HK1 := Lib.hid hk1
    clear hk1
    go_wp2_with fail
    go_ret
    refine ⟨_, [(.pointer p, ks.cs)], rfl, Nat.le_refl _, by simp, row_lit w1 [.pointer p] 23, fun k hm => ?_, by simp [Kids.cs], ex_alloc hb1 _⟩
    rw [List.mem_singleton.1 hm]
    exact HK1.out.ex (ex_alloc (Ex.refl _) _)
  · have h9 : ks.length = 9 := by omega
    have hs1 := Kids.cs_cut ks 4
    have hsz := hs
    rw [hs1, flat_size_app] at hsz
    have HS1 := Lib.hid (show (flat (Kids.cs (ks.take 4))).size ≤ 100000 by omega)
    have HS2 := Lib.hid (show (flat (Kids.cs (ks.drop 4))).size ≤ 100000 by omega)
    have HCC := Lib.hid hs1
    obtain ⟨b, o, hA, hcell⟩ := hr.2 (by omega)
    rw [h9]
    subst hA
    have HRT := Lib.hid (show Row w 1 (some ⟨b, o, none⟩) 4 (Kids.vs (ks.take 4)) from by
      have := hr.take (k := 4) (by omega)
      rwa [Nat.mul_one, ← Kids.vs_take] at this)
    have HRD := Lib.hid (show Row w 1 (some ⟨b, o + 4, none⟩) 5 (Kids.vs (ks.drop 4)) from by
      have := hr.cut (k := 4) (cap := ks.length) (by omega) (Nat.le_refl _)
      rw [if_neg (by omega), h9] at this
      simpa [add_lit0, Kids.vs_drop] using this)
    have HLT := Lib.hid (show 4 = (ks.take 4).length from by rw [List.length_take]; omega)
    have HLD := Lib.hid (show 5 = (ks.drop 4).length from by rw [List.length_drop]; omega)
    have HKT := Lib.hid (show ∀ k ∈ ks.take 4, Kn h w k.1 k.2 from fun k hm => hk k (List.mem_of_mem_take hm))
    have HKD := Lib.hid (show ∀ k ∈ ks.drop 4, Kn h w k.1 k.2 from fun k hm => hk k (List.mem_of_mem_drop hm))
    have hc9 : 9 ≤ c := by omega
    have hc4 : ¬ c = 4 := by omega
    have i1 : (4 : Int) ≤ (c : Int) := by omega
    clear hr hk hs hsz hs1 h2 h9 h8 hc hcell
    go_enter Try.func91, Try.ntmps91
    go_wp2_with fail
    go_region_with (first | (go_at_call 66; (with_reducible refine (join_n (n := 4) (fun _ => True) (ks.take 4) (some ⟨b, o, none⟩) c _ HLT.out ?_ ?_ HS1.out (HRT.out.ex (Ex.refl w).drew) (fun k hm => (HKT.out k hm).ex (Ex.refl w).drew) (fun _ _ => Fp.all)).mono ?_); (focus omega); (focus omega); rintro e w1 ⟨v1, rfl, hk1, -, hb1⟩; obtain ⟨p1, rfl⟩ := hk1.ptr; have HK1 := Lib.hid hk1; have HB1 := Lib.hid ((Ex.refl w).drew.trans hb1); clear hk1 hb1) | (go_at_call 66; (with_reducible refine (join_n (n := 5) (fun _ => True) (ks.drop 4) (some ⟨b, o + 4, none⟩) (c - 4) _ HLD.out ?_ ?_ HS2.out (HRD.out.ex HB1.out) (fun k hm => (HKD.out k hm).ex HB1.out) (fun _ _ => Fp.all)).mono ?_); (focus omega); (focus omega); rintro e w2 ⟨v2, rfl, hk2, -, hb2⟩; obtain ⟨p2, rfl⟩ := hk2.ptr; have HK2 := Lib.hid hk2; have HB2 := Lib.hid hb2; clear hk2 hb2))
    all_goals
      go_wp2_with fail
      go_ret
      refine ⟨_, [(.pointer p1, Kids.cs (ks.take 4)), (.pointer p2, Kids.cs (ks.drop 4))], rfl, by simp, by simp, row_lit w2 [.pointer p1, .pointer p2] 23, fun k hm => ?_, ?_, ex_alloc (Ex.trans (show Ex w w1 from HB1.out) HB2.out) _⟩
      · rcases List.mem_cons.1 hm with rfl | hm
        · exact (HK1.out.ex HB2.out).ex (ex_alloc (Ex.refl _) _)
        · rw [List.mem_singleton.1 hm]
          exact HK2.out.ex (ex_alloc (Ex.refl _) _)
      · rw [HCC.out]; simp [Kids.cs]
theorem over_n {h n : Nat} (ks : Kids) (A : Option Addr) (c : Nat) (w : World) (hn : n = ks.length) (h2 : 2 ≤ n) (h9 : n ≤ 9) (hc : n ≤ c) (hs : (flat ks.cs).size ≤ 100000) (hr : Row w 1 A n ks.vs) (hk : ∀ k ∈ ks, Kn h w k.1 k.2) : Calls Try.prog 91 #[.slice A n c] w (OverP (h + 1) ks.cs w) := by
  subst hn
  exact over_calls ks A c w h2 h9 hc hs hr hk
theorem Kn.sz {h : Nat} {w : World} {v : Value} {cs : List ByteArray} (x : Kn h w v cs) : h < 2 ^ h ∧ 2 ^ h ≤ (flat cs).size := ⟨Nat.lt_two_pow_self, Nat.le_trans x.pow (flat_many x.fit)⟩
set_option maxRecDepth 100000 in
set_option maxHeartbeats 2000000 in
theorem wjoin_calls : ∀ (N ha hb : Nat), ha + hb ≤ N → ∀ (va vb : Value) (ca cb : List ByteArray) (w : World), Kn ha w va ca → Kn hb w vb cb → (flat (ca ++ cb)).size ≤ 100000 → Calls Try.prog 74 #[va, vb] w (OverP (max ha hb) (ca ++ cb) w) := by
  intro N
  induction N with
  | zero =>
    intro ha hb hN va vb ca cb w xa xb hs
    obtain ⟨rfl, rfl⟩ : ha = 0 ∧ hb = 0 := by omega
    obtain ⟨pa, rfl⟩ := xa.ptr
    obtain ⟨pb, rfl⟩ := xb.ptr
    have XA := Lib.hid xa
    have XB := Lib.hid xb
    clear xa xb
    go_enter Try.func74, Try.ntmps74
    go_wp2_with fail
    refine (height_calls _ XA.out).mono ?_
    rintro e w1 ⟨rfl, rfl⟩
    go_wp2_with fail
    refine (height_calls _ XB.out).mono ?_
    rintro e w1 ⟨rfl, rfl⟩
    go_wp2_with fail
    go_ret
    refine ⟨_, [(.pointer pa, ca), (.pointer pb, cb)], rfl, by simp, by simp, row_lit w1 [.pointer pa, .pointer pb] 23, fun k hm => ?_, by simp [Kids.cs], ex_alloc (Ex.refl _) _⟩
    rcases List.mem_cons.1 hm with rfl | hm
    · exact XA.out.ex (ex_alloc (Ex.refl _) _)
    · rw [List.mem_singleton.1 hm]
      exact XB.out.ex (ex_alloc (Ex.refl _) _)
  | succ N ih =>
    intro ha hb hN va vb ca cb w xa xb hs
    have hsm := hs
    rw [flat_size_app] at hsm
    have hza := xa.small (by omega)
    have hzb := xb.small (by omega)
    have XA := Lib.hid xa
    have XB := Lib.hid xb
    have HS := Lib.hid hs
    rcases Nat.lt_trichotomy ha hb with hlt | heq | hgt
    · obtain ⟨h, rfl⟩ : ∃ h, hb = h + 1 := ⟨hb - 1, by omega⟩
      have d1 : ((ha : Int) == ((h + 1 : Nat) : Int)) = false := by rw [beq_eq_false_iff_ne]; omega
      have d2 : decide (h + 1 < ha) = false := decide_eq_false (by omega)
      have HM := Lib.hid (show max ha (h + 1) = h + 1 by omega)
      have HMX := Lib.hid (show max ha h = h by omega)
      have HIH := Lib.hid (fun (k : Value) (c : List ByteArray) (w' : World) => ih ha h (by omega) va k ca c w')
      obtain ⟨hh, hhe⟩ : ∃ hh : Nat, hh = h + 1 := ⟨_, rfl⟩
      rw [← hhe] at d1 d2 XB HM ⊢
      have HHE := Lib.hid hhe
      clear xa xb hs hsm hlt hhe
      go_enter Try.func74, Try.ntmps74
      go_wp2_with fail
      refine (height_calls _ XA.out).mono ?_
      rintro e w1 ⟨rfl, rfl⟩
      go_wp2_with fail
      refine (height_calls _ XB.out).mono ?_
      rintro e w1 ⟨rfl, rfl⟩
      rw [HHE.out] at XB
      go_wp2_with fail
      refine (kids_calls _ XB.out).mono ?_
      rintro e w2 ⟨A, c, ks, rfl, hc, h2, h8, hcs, hr, hk, hb2⟩
      have HR := Lib.hid hr
      have HK := Lib.hid hk
      have HB2 := Lib.hid hb2
      have HCS := Lib.hid hcs
      obtain ⟨b, o, rfl, hc0⟩ := hr.kid (k := 0) (by omega)
      rw [Nat.add_zero] at hc0
      have hq := hk ks[0] (List.getElem_mem (by omega))
      have hsp := Kids.split_at (ks := ks) (k := 0) (by omega)
      rw [show Kids.cs (ks.take 0) = [] from rfl, List.nil_append] at hsp
      have HQ := Lib.hid hq
      obtain ⟨p0, hp0⟩ := hq.ptr
      rw [hp0] at hc0 HQ
      have HSP := Lib.hid (show ca ++ cb = (ca ++ ks[0].2) ++ Kids.cs (ks.drop 1) from by rw [hcs, hsp, List.append_assoc])
      generalize ks[0].2 = qc at HQ HSP
      have HSQ := Lib.hid (show (flat (ca ++ qc)).size ≤ 100000 from by
        have := HS.out
        rw [HSP.out, flat_size_app] at this
        omega)
      have HRD := Lib.hid (show Row w2 1 (some ⟨b, o + 1, none⟩) (ks.length - 1) (Kids.vs (ks.drop 1)) from by
        have := hr.cut (k := 1) (cap := c + 2) (by omega) (by omega)
        rw [if_neg (by omega)] at this
        rw [Kids.vs_drop]
        simpa [add_lit0] using this)
      have HPD := Lib.hid (show Ptr (Kids.vs (ks.drop 1)) from Kids.ptr (h := h) (w := w2) fun k hm => hk k (List.mem_of_mem_drop hm))
      have HLD := Lib.hid (show (ks.drop 1).length = ks.length - 1 from List.length_drop ..)
      have e1 : ¬ c = 1 := by omega
      have e2 : (1 : Int) ≤ (ks.length : Int) := by omega
      have e3 : 1 ≤ ks.length := by omega
      have e4 : (0 : Int) < (ks.length : Int) := by omega
      have e5 : 0 < ks.length := by omega
      clear hr hk hb2 hcs hq hsp hp0
      go_wp2_with fail
      go_region_held3 (fun w' => w'.cell? ⟨b, o, none⟩ = some (.pointer p0)) (go_keep) (first | (go_at_call 74; ((with_reducible refine (HIH.out (.pointer p0) qc _ (XA.out.ex (Ex.trans HB2.out (Ex.refl w2).drew)) (HQ.out.ex (Ex.refl w2).drew) HSQ.out).mono ?_); rintro e w3 ⟨A3, js, rfl, j1, j2, jr, jk, jc, jb⟩; rw [HMX.out] at jk; have JR := Lib.hid jr; have JK := Lib.hid jk; have JC := Lib.hid jc; have JB := Lib.hid (Ex.trans (Ex.refl w2).drew jb); clear jr jk jc jb; have m3 := JB.out.cell hc0)) | (refine app_full (by rfl) (.tmp 48) (.tmp 50) (by rfl) A3 js.length js.vs (by rfl) JR.out (by omega) (some ⟨b, o + 1, none⟩) (ks.length - 1) (c - 1) (Kids.vs (ks.drop 1)) (by rfl) (HRD.out.ex JB.out) HPD.out (by omega) (by omega) ?_; intro A4 c4 w4 ho4 hc4 hb4; have HO4 := Lib.hid (Row.of_own ho4); have HB4 := Lib.hid hb4; clear ho4 hb4; have m4 := HB4.out.cell m3) | (go_at_call 91; (with_reducible refine (over_n (h := h) (js ++ ks.drop 1) A4 c4 _ ?_ ?_ ?_ hc4 ?_ ?_ ?_).mono ?_); (focus (rw [List.length_append, HLD.out])); (focus omega); (focus omega); (focus (rw [Kids.cs_app, JC.out, ← HSP.out]; exact HS.out)); (focus (rw [Kids.vs_app]; exact HO4.out)); (focus (intro k hm; rcases List.mem_append.1 hm with hm | hm; exact (JK.out k hm).ex HB4.out; exact (HK.out k (List.mem_of_mem_drop hm)).ex (JB.out.trans HB4.out))); rintro e w5 ⟨A5, k5, rfl, r1, r2, r3, r4, r5, r6⟩; have R3 := Lib.hid r3; have R4 := Lib.hid r4; have R5 := Lib.hid r5; have R6 := Lib.hid r6; clear r3 r4 r5 r6; have m5 := R6.out.cell m4))
      all_goals
        go_wp2_with fail
        go_ret
        refine ⟨A5, k5, rfl, r1, r2, R3.out, ?_, ?_, ((HB2.out.trans JB.out).trans HB4.out).trans R6.out⟩
        · rw [HM.out, HHE.out]; exact R4.out
        · rw [R5.out, Kids.cs_app, JC.out, ← HSP.out]
    · subst heq
      obtain ⟨pa, rfl⟩ := xa.ptr
      obtain ⟨pb, rfl⟩ := xb.ptr
      have HM := Lib.hid (show max ha ha = ha by omega)
      have d1 : ((ha : Int) == (ha : Int)) = true := beq_self_eq_true _
      clear xa xb hs hsm
      go_enter Try.func74, Try.ntmps74
      go_wp2_with fail
      refine (height_calls _ XA.out).mono ?_
      rintro e w1 ⟨rfl, rfl⟩
      go_wp2_with fail
      refine (height_calls _ XB.out).mono ?_
      rintro e w1 ⟨rfl, rfl⟩
      go_wp2_with fail
      go_ret
      refine ⟨_, [(.pointer pa, ca), (.pointer pb, cb)], rfl, by simp, by simp, row_lit w1 [.pointer pa, .pointer pb] 23, fun k hm => ?_, by simp [Kids.cs], ex_alloc (Ex.refl _) _⟩
      rw [HM.out]
      rcases List.mem_cons.1 hm with rfl | hm
      · exact XA.out.ex (ex_alloc (Ex.refl _) _)
      · rw [List.mem_singleton.1 hm]
        exact XB.out.ex (ex_alloc (Ex.refl _) _)
    · obtain ⟨h, rfl⟩ : ∃ h, ha = h + 1 := ⟨ha - 1, by omega⟩
      have d1 : (((h + 1 : Nat) : Int) == (hb : Int)) = false := by rw [beq_eq_false_iff_ne]; omega
      have d2 : decide (hb < h + 1) = true := decide_eq_true (by omega)
      have HM := Lib.hid (show max (h + 1) hb = h + 1 by omega)
      have HMX := Lib.hid (show max h hb = h by omega)
      have HIH := Lib.hid (fun (k : Value) (c : List ByteArray) (w' : World) => ih h hb (by omega) k vb c cb w')
      obtain ⟨hh, hhe⟩ : ∃ hh : Nat, hh = h + 1 := ⟨_, rfl⟩
      rw [← hhe] at d1 d2 XA HM ⊢
      have HHE := Lib.hid hhe
      clear xa xb hs hsm hgt hhe
      go_enter Try.func74, Try.ntmps74
      go_wp2_with fail
      refine (height_calls _ XA.out).mono ?_
      rintro e w1 ⟨rfl, rfl⟩
      go_wp2_with fail
      refine (height_calls _ XB.out).mono ?_
      rintro e w1 ⟨rfl, rfl⟩
      rw [HHE.out] at XA
      go_wp2_with fail
      refine (kids_calls _ XA.out).mono ?_
      rintro e w2 ⟨A, c, ks, rfl, hc, h2, h8, hcs, hr, hk, hb2⟩
      have HR := Lib.hid hr
      have HK := Lib.hid hk
      have HB2 := Lib.hid hb2
      have HCS := Lib.hid hcs
      obtain ⟨b, o, rfl, hc0⟩ := hr.kid (k := ks.length - 1) (by omega)
      have hq := hk (ks[ks.length - 1]'(by omega)) (List.getElem_mem (by omega))
      have hsp := Kids.split_at (ks := ks) (k := ks.length - 1) (by omega)
      rw [show ks.length - 1 + 1 = ks.length by omega, List.drop_length, show Kids.cs [] = [] from rfl, List.append_nil] at hsp
      have HQ := Lib.hid hq
      obtain ⟨p0, hp0⟩ := hq.ptr
      rw [hp0] at hc0 HQ
      have HSP := Lib.hid (show ca ++ cb = Kids.cs (ks.take (ks.length - 1)) ++ ((ks[ks.length - 1]'(by omega)).2 ++ cb) from by rw [hcs, ← List.append_assoc, ← hsp])
      generalize (ks[ks.length - 1]'(by omega)).2 = qc at HQ HSP
      have HSQ := Lib.hid (show (flat (qc ++ cb)).size ≤ 100000 from by
        have := HS.out
        rw [HSP.out, flat_size_app] at this
        omega)
      have HRT := Lib.hid (show Row w2 1 (some ⟨b, o, none⟩) (ks.length - 1) (Kids.vs (ks.take (ks.length - 1))) from by
        have := hr.take (k := ks.length - 1) (by omega)
        rwa [Nat.mul_one, ← Kids.vs_take] at this)
      have HLT := Lib.hid (show (ks.take (ks.length - 1)).length = ks.length - 1 from by rw [List.length_take]; omega)
      have e1 : ¬ ks.length - 1 = 0 := by omega
      have e2 : (1 : Int) ≤ (ks.length : Int) := by omega
      have e3 : 1 ≤ ks.length := by omega
      have e4 : IntKind.i64.wrap ((ks.length : Int) - 1) = (ks.length : Int) - 1 := IntWalk.i64_in _ (by omega)
      have e5 : (0 : Int) ≤ (ks.length : Int) - 1 := by omega
      have e6 : (ks.length : Int) - 1 ≤ (c : Int) := by omega
      have e7 : ((ks.length : Int) - 1).toNat = ks.length - 1 := by omega
      have e8 : (ks.length : Int) - 1 < (ks.length : Int) := by omega
      have e9 : ks.length - 1 ≤ c := by omega
      have ea : ks.length - 1 < ks.length := by omega
      clear hr hk hb2 hcs hq hsp hp0
      go_wp2_with fail
      go_region_held3 (fun w' => w'.cell? ⟨b, o + (ks.length - 1), none⟩ = some (.pointer p0)) (go_keep) (first | (go_at_call 74; ((with_reducible refine (HIH.out (.pointer p0) qc _ (HQ.out.ex (Ex.refl w2).drew) (XB.out.ex (Ex.trans HB2.out (Ex.refl w2).drew)) HSQ.out).mono ?_); rintro e w3 ⟨A3, js, rfl, j1, j2, jr, jk, jc, jb⟩; rw [HMX.out] at jk; have JR := Lib.hid jr; have JK := Lib.hid jk; have JC := Lib.hid jc; have JB := Lib.hid (Ex.trans (Ex.refl w2).drew jb); clear jr jk jc jb; have m3 := JB.out.cell hc0)) | (refine app_full (by rfl) (.tmp 33) (.tmp 39) (by rfl) (some ⟨b, o, none⟩) (ks.length - 1) (Kids.vs (ks.take (ks.length - 1))) (by rfl) (HRT.out.ex JB.out) (by omega) A3 js.length js.length js.vs (by rfl) JR.out (Kids.ptr JK.out) (by omega) (by omega) ?_; intro A4 c4 w4 ho4 hc4 hb4; have HO4 := Lib.hid (Row.of_own ho4); have HB4 := Lib.hid hb4; clear ho4 hb4; have m4 := HB4.out.cell m3) | (go_at_call 91; (with_reducible refine (over_n (h := h) (ks.take (ks.length - 1) ++ js) A4 c4 _ ?_ ?_ ?_ hc4 ?_ ?_ ?_).mono ?_); (focus (rw [List.length_append, HLT.out])); (focus omega); (focus omega); (focus (rw [Kids.cs_app, JC.out, ← HSP.out]; exact HS.out)); (focus (rw [Kids.vs_app]; exact HO4.out)); (focus (intro k hm; rcases List.mem_append.1 hm with hm | hm; exact (HK.out k (List.mem_of_mem_take hm)).ex (JB.out.trans HB4.out); exact (JK.out k hm).ex HB4.out)); rintro e w5 ⟨A5, k5, rfl, r1, r2, r3, r4, r5, r6⟩; have R3 := Lib.hid r3; have R4 := Lib.hid r4; have R5 := Lib.hid r5; have R6 := Lib.hid r6; clear r3 r4 r5 r6; have m5 := R6.out.cell m4))
      all_goals
        go_wp2_with fail
        go_ret
        refine ⟨A5, k5, rfl, r1, r2, R3.out, ?_, ?_, ((HB2.out.trans JB.out).trans HB4.out).trans R6.out⟩
        · rw [HM.out, HHE.out]; exact R4.out
        · rw [R5.out, Kids.cs_app, JC.out, ← HSP.out]
theorem whole_calls {v : Value} {cs : List ByteArray} (w : World) (x : Tr w v cs) : Calls Try.prog 73 #[v] w fun e w' => e = .returned v ∧ w' = w := by
  rcases x with ⟨rfl, rfl⟩ | ⟨h, x⟩
  · go_enter Try.func73, Try.ntmps73
    go_wp2_with fail
    refine (height_nil _).mono ?_
    rintro e w1 ⟨rfl, rfl⟩
    go_wp2_with fail
    go_ret
    exact ⟨rfl, rfl⟩
  · have X := Lib.hid x
    clear x
    go_enter Try.func73, Try.ntmps73
    go_wp2_with fail
    refine (height_calls _ X.out).mono ?_
    rintro e w1 ⟨rfl, rfl⟩
    go_wp2_with fail
    go_ret
    exact ⟨rfl, rfl⟩
set_option maxHeartbeats 400000 in
theorem raw_calls {va vb : Value} {ca cb : List ByteArray} (w : World) (xa : Tr w va ca) (xb : Tr w vb cb) (hs : (flat (ca ++ cb)).size ≤ 100000) : Calls Try.prog 45 #[va, vb] w (TrP (ca ++ cb) w) := by
  rcases xa with ⟨rfl, rfl⟩ | ⟨ha, xa⟩
  · have XB := Lib.hid xb
    clear xb
    go_enter Try.func45, Try.ntmps45
    go_wp2_with fail
    refine (height_nil _).mono ?_
    rintro e w1 ⟨rfl, rfl⟩
    go_wp2_with fail
    refine (whole_calls _ XB.out).mono ?_
    rintro e w1 ⟨rfl, rfl⟩
    go_wp2_with fail
    go_ret
    exact ⟨_, rfl, XB.out, Ex.refl _⟩
  · have XA := Lib.hid xa
    rcases xb with ⟨rfl, rfl⟩ | ⟨hb, xb⟩
    · clear xa
      go_enter Try.func45, Try.ntmps45
      go_wp2_with fail
      refine (height_calls _ XA.out).mono ?_
      rintro e w1 ⟨rfl, rfl⟩
      go_wp2_with fail
      refine (height_nil _).mono ?_
      rintro e w1 ⟨rfl, rfl⟩
      go_wp2_with fail
      go_ret
      exact ⟨_, rfl, .inr ⟨ha, by rw [List.append_nil]; exact XA.out⟩, Ex.refl _⟩
    · have XB := Lib.hid xb
      have HS := Lib.hid hs
      clear xa xb hs
      go_enter Try.func45, Try.ntmps45
      go_wp2_with fail
      refine (height_calls _ XA.out).mono ?_
      rintro e w1 ⟨rfl, rfl⟩
      go_wp2_with fail
      refine (height_calls _ XB.out).mono ?_
      rintro e w1 ⟨rfl, rfl⟩
      go_wp2_with fail
      refine (wjoin_calls _ ha hb (Nat.le_refl _) va vb ca cb _ XA.out XB.out HS.out).mono ?_
      rintro e w2 ⟨A, ks, rfl, h1, h2, hr, hk, hc, hb2⟩
      have HR := Lib.hid hr
      have HK := Lib.hid hk
      have HC := Lib.hid hc
      have HB := Lib.hid hb2
      clear hr hk hc hb2
      go_wp2_with fail
      refine (up_tr (h := max ha hb) ks A ks.length _ rfl (Nat.le_refl _) (by omega) (by rw [HC.out]; exact HS.out) HR.out HK.out).mono ?_
      rintro e w3 ⟨v3, rfl, ht, hb3⟩
      rw [HC.out] at ht
      have HT := Lib.hid ht
      clear ht
      go_wp2_with fail
      go_ret
      exact ⟨_, rfl, HT.out, HB.out.trans hb3⟩
theorem wtight_calls {v : Value} {cs : List ByteArray} (w : World) (x : Tr w v cs) (hs : (flat cs).size ≤ 100000) (hg : GoodL cs) : Calls Try.prog 39 #[v] w fun e w' => e = .returned (.bool true) ∧ Ex w w' := by
  have X := Lib.hid x
  have HG := Lib.hid hg
  have hl : cs.length ≤ 100000 := by have := flat_many hg.1; omega
  clear x hg
  go_enter Try.func39, Try.ntmps39
  go_wp2_with fail
  refine (chunks_calls _ X.out hs).mono ?_
  rintro e w1 ⟨A, c, rfl, hc, hr, hb⟩
  have HR := Lib.hid hr
  clear hr
  go_wp2_with fail
  refine (tight_calls A cs.length c cs _ HR.out hl HG.out).mono ?_
  rintro e w2 ⟨rfl, hb2⟩
  go_wp2_with fail
  go_ret
  exact ⟨rfl, hb.trans hb2⟩
end Go.Proofs.Ytkckeogdijdohaa
