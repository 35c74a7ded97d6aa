/- Walks: weld.Of, Tight, over. -/
import Derived.Test.YtkckeogdijdohaaCut
namespace Go.Proofs.Ytkckeogdijdohaa
open Go.RowKit
/-- What hands back a tree. -/
def TrP (cs : List ByteArray) (w : World) (e : Ending) (w' : World) : Prop := ∃ v, e = .returned v ∧ Tr w' v cs ∧ Ex w w'
theorem Tr.fit {w : World} {v : Value} {cs : List ByteArray} (x : Tr w v cs) : ∀ y ∈ cs, fitsB y = true := by
  rcases x with ⟨_, rfl⟩ | ⟨h, x⟩
  · intro y hy; cases hy
  · exact x.fit
/-- up, of any row. -/
theorem up_tr {h n : Nat} (ks : Kids) (A : Option Addr) (cap : Nat) (w : World) (hn : n = ks.length) (hc : n ≤ cap) (hsm : n ≤ 100000) (hs : (flat ks.cs).size ≤ 100000) (hr : Row w 1 A n ks.vs) (hk : ∀ k ∈ ks, Kn h w k.1 k.2) : Calls Try.prog 35 #[.slice A n cap] w (TrP ks.cs w) := by
  subst hn
  by_cases h0 : ks.length = 0
  · have : ks = [] := List.eq_nil_of_length_eq_zero h0
    subst this
    refine (up_nil A cap w).mono ?_
    rintro e w' ⟨rfl, rfl⟩
    exact ⟨_, rfl, .inl ⟨rfl, rfl⟩, Ex.refl _⟩
  · refine (up_calls (h := h) ks A cap w (by omega) hc hsm hs hr hk).mono ?_
    rintro e w' ⟨h', v, rfl, hk, hb⟩
    exact ⟨v, rfl, .inr ⟨h', hk⟩, hb⟩
/-- One leaf a chunk. -/
def leafs (vs : List Value) (l : List ByteArray) : Kids := vs.zip (l.map fun s => [s])
set_option maxRecDepth 100000 in
set_option maxHeartbeats 1000000 in
theorem of_calls (s : ByteArray) (w : World) (hs : s.size ≤ 100000) (hv : validU s = true) : Calls Try.prog 12 #[.string s] w fun e w' => ∃ cs, GoodL cs ∧ flat cs = s ∧ TrP cs w e w' := by
  go_enter Try.func12, Try.ntmps12
  go_wp2_with fail
  refine (cut_calls s _ hs hv).mono ?_
  rintro e w1 ⟨A, c, l, rfl, hc, hr, hg, hf, hb1⟩
  have HR := Lib.hid hr
  have HG := Lib.hid hg
  have HF := Lib.hid hf
  have HB1 := Lib.hid hb1
  have hl : l.length ≤ 100000 := by
    have h1 := flat_many hg.1
    rw [hf] at h1
    omega
  have HS := Lib.hid (show (flat l).size ≤ 100000 from by rw [hf]; exact hs)
  clear hr hg hf hb1 hv
  go_wp2_with fail
  go_loopw [3, 5, 9] (fun v3 _ v9 wr => ∃ (k : Nat) (ks : Kids), k ≤ l.length ∧ v9 = .int .i64 (k : Int) ∧ ks.length = k ∧ ks.cs = l.take k ∧ wr.ownsRow w1.heap.size 23 1 v3 ks.length ks.vs ∧ KF v3 0 wr ks ∧ Ex w1 wr) (fun _ _ v9 _ => l.length - (intOf v9).toNat)
  case atStart => exact ⟨0, [], by omega, rfl, rfl, rfl, World.ownsRow_nil _ _ _ _, (fun _ hm => by cases hm), Ex.refl _⟩
  case round =>
    obtain ⟨k, ks, hk, rfl, hkl, hcs, hown, hkf, hb⟩ := hrel
    have HO := Lib.hid hown
    have HKF := Lib.hid hkf
    have HCS := Lib.hid hcs
    have HKL := Lib.hid hkl
    have HB := Lib.hid hb
    clear hown hkf hcs hkl
    by_cases hlt : k < l.length
    · obtain ⟨b, o, rfl, hcell⟩ := (HR.out.ex hb).str hlt
      have HFT := Lib.hid (HG.out.1 l[k] (List.getElem_mem hlt))
      have HT := Lib.hid (show l.take (k + 1) = l.take k ++ [l[k]] from List.take_succ_eq_append_getElem hlt)
      generalize l[k] = x at hcell HFT HT
      clear hb
      go_wp2_with fail
      refine (leaf_calls x _ HFT.out).mono ?_
      rintro e w2 ⟨g, rfl, hg2, hkn, hb2⟩
      have HK2 := Lib.hid (KF.one (u := .pointer (some ⟨g, 0, none⟩)) HO.out hkn (fun g' e' => by injection e' with e'; injection e' with e'; injection e' with e'; subst e'; exact .inr hg2))
      have HO2 := Lib.hid (own_ex HO.out hb2)
      have HB2 := Lib.hid (HB.out.trans hb2)
      have HKF2 := Lib.hid (HKF.out.ex hb2)
      have hsz2 := HB2.out.size
      have hks : ks.length ≤ 100000 := by rw [HKL.out]; omega
      clear hg2 hkn hb2
      go_wp2_with (at_builtin; go_must (refine app_kn rfl (.tmp 13) (.tmp 16) rfl w1.heap.size u3 ks.length ks.vs rfl (own_ex HO2.out (ex_alloc (Ex.refl _) _)) (some ⟨w2.heap.size, 0, none⟩) 1 1 [.pointer (some ⟨g, 0, none⟩)] rfl (row_lit w2 [.pointer (some ⟨g, 0, none⟩)] 23) (fun u hu => ⟨_, List.mem_singleton.1 hu⟩) (by omega) (by simp; omega) (ex_alloc HB2.out _) ?_; intro v5 w5 q1 q2 q3 q4; have HO5 := Lib.hid q1; have HB5 := Lib.hid q2; have HK5 := Lib.hid (((HKF2.out.two HK2.out).ex (ex_alloc (Ex.refl w2) _)).app q3 q4); clear q1 q2 q3 q4))
      go_roundw
      case rel => exact ⟨k + 1, ks ++ [(.pointer (some ⟨g, 0, none⟩), [x])], by omega, by go_num, by rw [List.length_append, HKL.out]; rfl, by rw [Kids.cs_app, HT.out, HCS.out]; rfl, by rw [List.length_append, List.length_singleton, Kids.vs_app]; exact HO5.out, HK5.out, HB5.out⟩
      case measure => simp [intOf]; omega
    · have hkl2 : k = l.length := by omega
      have HCL := Lib.hid (show ks.cs = l from by rw [HCS.out, hkl2, List.take_length])
      obtain ⟨A3, c3, hv3, hc3⟩ := own_shape HO.out
      subst hv3
      have HRW := Lib.hid (Row.of_own HO.out)
      have hks : ks.length ≤ 100000 := by rw [HKL.out]; omega
      clear hkl2
      go_wp2_with fail
      refine (up_tr (h := 0) ks A3 c3 _ rfl hc3 hks (by rw [HCL.out]; exact HS.out) HRW.out HKF.out.kn).mono ?_
      rintro e w6 ⟨v6, rfl, ht, hb6⟩
      rw [HCL.out] at ht
      have HT6 := Lib.hid ht
      clear ht
      go_wp2_with fail
      go_ret
      exact ⟨l, HG.out, HF.out, _, rfl, HT6.out, (HB1.out.trans HB.out).trans hb6⟩
end Go.Proofs.Ytkckeogdijdohaa
