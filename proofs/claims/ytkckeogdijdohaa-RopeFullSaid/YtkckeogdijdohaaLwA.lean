/- Walks: the document's Bits; lives and good of styluslaw17. -/
import Derived.Test.YtkckeogdijdohaaWdC
namespace Go.Proofs.Ytkckeogdijdohaa
open Go.RowKit
def bitsF (n : Nat) : Nat := if n = 0 then 0 else n.log2 + 1
theorem bitsF_half {m : Nat} (h : 0 < m) : bitsF m = bitsF (m / 2) + 1 := by
  unfold bitsF
  rw [if_neg (by omega)]
  by_cases h2 : m < 2
  · have : m = 1 := by omega
    subst this
    decide
  · rw [if_neg (by omega)]
    congr 1
    rw [Nat.log2_def, if_pos (by omega)]
theorem bitsF_gt (n : Nat) : n < 2 ^ bitsF n := by
  unfold bitsF
  split
  · next h => rw [h]; decide
  · exact Nat.lt_log2_self
theorem bitsF_le (n : Nat) : bitsF n ≤ n := by
  induction n using Nat.strongRecOn with
  | _ n ih =>
    rcases Nat.eq_zero_or_pos n with rfl | h
    · decide
    · rw [bitsF_half h]
      have := ih (n / 2) (by omega)
      omega
set_option maxHeartbeats 400000 in
theorem bits_calls (n : Nat) (w : World) (hn : n ≤ 1000000) : Calls Try.prog 42 #[.int .i64 (n : Int)] w fun e w' => e = .returned (.int .i64 (bitsF n : Nat)) ∧ w' = w := by
  have hl := bitsF_le n
  go_enter Try.func42, Try.ntmps42
  go_wp2
  go_loop [0, 3] (fun v0 v3 => ∃ m k : Nat, m ≤ n ∧ v0 = .int .i64 (m : Int) ∧ v3 = .int .i64 (k : Int) ∧ bitsF n = bitsF m + k) (fun v0 _ => (intOf v0).toNat)
  case atStart => exact ⟨n, 0, Nat.le_refl _, rfl, rfl, rfl⟩
  case round =>
    obtain ⟨m, k, hm, rfl, rfl, hb⟩ := hrel
    by_cases h0 : 0 < m
    · have hk : k ≤ 1000000 := by omega
      have HB := Lib.hid (show bitsF n = bitsF (m / 2) + (k + 1) from by rw [hb, bitsF_half h0]; omega)
      have hq : Int.tdiv (m : Int) 2 = ((m / 2 : Nat) : Int) := by
        rw [Int.tdiv_eq_ediv_of_nonneg (by omega)]; omega
      clear hb
      go_wp2
      go_round
      case rel => exact ⟨m / 2, k + 1, by omega, by go_num, by go_num, HB.out⟩
      case measure => simp [intOf]; omega
    · have hz : m = 0 := by omega
      have HB := Lib.hid (show bitsF n = k from by rw [hb, hz]; show 0 + k = k; omega)
      subst hz
      clear hb
      go_wp2
      go_ret
      exact ⟨ret_int (by rw [HB.out]), rfl⟩
theorem right_tr {v : Value} {cs : List ByteArray} (w : World) (x : Tr w v cs) (hs : (flat cs).size ≤ 100000) : Calls Try.prog 38 #[v] w fun e w' => e = .returned (.bool true) ∧ Ex w w' := by
  rcases x with ⟨rfl, rfl⟩ | ⟨h, x⟩
  · exact right_nil w
  · exact right_calls w x hs
/-- The height of a tree; -1 of none. -/
def Hg (w : World) (v : Value) (cs : List ByteArray) (h : Int) : Prop := Tr w v cs ∧ ∀ w', Ex w w' → Calls Try.prog 41 #[v] w' fun e w'' => e = .returned (.int .i64 h) ∧ w'' = w'
theorem Tr.hg {w : World} {v : Value} {cs : List ByteArray} (x : Tr w v cs) (hs : (flat cs).size ≤ 100000) : ∃ h : Int, Hg w v cs h ∧ -1 ≤ h ∧ h ≤ (bitsF cs.length : Nat) ∧ h < 9223372036854775807 := by
  rcases id x with ⟨rfl, rfl⟩ | ⟨h, k⟩
  · exact ⟨-1, ⟨x, fun w' _ => height_nil w'⟩, by omega, by omega, by omega⟩
  · have h1 := k.pow
    have h2 := bitsF_gt cs.length
    have h3 : h < bitsF cs.length := (Nat.pow_lt_pow_iff_right (by decide : 1 < 2)).1 (Nat.lt_of_le_of_lt h1 h2)
    have h4 := k.small hs
    exact ⟨h, ⟨x, fun w' hb => height_calls w' (k.ex hb)⟩, by omega, by omega, by omega⟩
set_option maxRecDepth 100000 in
set_option maxHeartbeats 400000 in
theorem good_calls {v : Value} {cs : List ByteArray} (s : ByteArray) (w : World) (x : Tr w v cs) (hs : s.size ≤ 100000) (hg : GoodL cs) (hf : flat cs = s) : Calls Try.prog 14 #[v, .string s] w fun e w' => e = .returned (.bool true) ∧ Ex w w' := by
  have X := Lib.hid x
  have HG := Lib.hid hg
  have HF := Lib.hid hf
  have HS := Lib.hid (show (flat cs).size ≤ 100000 from by rw [hf]; exact hs)
  have hl : cs.length ≤ 100000 := by have h1 := flat_many hg.1; have := HS.out; omega
  obtain ⟨h, hh, h1, h2, h3⟩ := x.hg HS.out
  have HH := Lib.hid hh.2
  have hbl := bitsF_le cs.length
  have HBT := Lib.hid (fun w => bits_calls cs.length w (by omega))
  generalize bitsF cs.length = bt at *
  have d1 : decide (h ≤ (bt : Int)) = true := decide_eq_true h2
  clear x hg hf hh
  go_enter Try.func14, Try.ntmps14
  go_wp2_with fail
  refine (chunks_calls _ X.out HS.out).mono ?_
  rintro e w1 ⟨A1, c1, rfl, -, -, hb1⟩
  have HB1 := Lib.hid hb1
  clear hb1
  go_wp2_with fail
  refine (right_tr _ (X.out.ex HB1.out) HS.out).mono ?_
  rintro e w2 ⟨rfl, hb2⟩
  have HB2 := Lib.hid (HB1.out.trans hb2)
  clear hb2
  go_wp2_with fail
  refine (wtight_calls _ (X.out.ex HB2.out) HS.out HG.out).mono ?_
  rintro e w3 ⟨rfl, hb3⟩
  have HB3 := Lib.hid (HB2.out.trans hb3)
  clear hb3
  go_wp2_with fail
  refine (chunks_calls _ (X.out.ex HB3.out) HS.out).mono ?_
  rintro e w4 ⟨A4, c4, rfl, -, hr4, hb4⟩
  have HR4 := Lib.hid hr4
  have HB4 := Lib.hid (HB3.out.trans hb4)
  clear hr4 hb4
  go_wp2_with fail
  refine (refTight_calls A4 cs.length c4 cs _ HR4.out hl HG.out).mono ?_
  rintro e w5 ⟨rfl, hb5⟩
  have HB5 := Lib.hid (HB4.out.trans hb5)
  clear hb5
  go_wp2_with fail
  refine (text_at s _ (X.out.ex HB5.out) HF.out hs).mono ?_
  rintro e w6 ⟨rfl, hb6⟩
  have HB6 := Lib.hid (HB5.out.trans hb6)
  clear hb6
  go_wp2_with fail
  refine (HH.out _ HB6.out).mono ?_
  rintro e w7 ⟨rfl, rfl⟩
  go_wp2_with fail
  refine (HBT.out _).mono ?_
  rintro e w8 ⟨rfl, rfl⟩
  go_wp2_with fail
  go_ret
  exact ⟨rfl, HB6.out⟩
theorem lit_back : backU ⟨#[97, 98]⟩ 1 = 1 := by decide
set_option maxRecDepth 100000 in
set_option maxHeartbeats 400000 in
theorem lives17_calls (w : World) : Calls Try.prog 11 #[] w fun e w' => e = .returned (.bool true) ∧ Ex w w' := by
  go_enter Try.func11, Try.ntmps11
  go_wp2_with fail
  refine (of_calls ⟨#[97, 98]⟩ _ (by decide) (by decide)).mono ?_
  rintro e w1 ⟨cs, hg, hf, v, rfl, ht, hb1⟩
  have HG := Lib.hid hg
  have HF := Lib.hid hf
  have HT := Lib.hid ht
  have HB1 := Lib.hid hb1
  have HS := Lib.hid (show (flat cs).size ≤ 100000 from by rw [hf]; decide)
  clear hg hf ht hb1
  go_wp2_with fail
  refine (wsplit_calls 1 _ HT.out HS.out HG.out (by decide)).mono ?_
  rw [HF.out, lit_back]
  rintro e w2 ⟨l, r, cl, cr, rfl, hl, hr, hgl, hgr, hfl, hfr, hb2⟩
  have HL := Lib.hid hl
  have HR := Lib.hid hr
  have HFL := Lib.hid (show flat cl = ⟨#[97]⟩ from hfl.trans (by decide))
  have HFR := Lib.hid (show flat cr = ⟨#[98]⟩ from hfr.trans (by decide))
  have HGL := Lib.hid hgl
  have HGR := Lib.hid hgr
  have HB2 := Lib.hid (HB1.out.trans hb2)
  clear hl hr hgl hgr hfl hfr hb2
  go_wp2_with fail
  refine (text_at ⟨#[97]⟩ _ HL.out HFL.out (by decide)).mono ?_
  rintro e w3 ⟨rfl, hb3⟩
  have HB3 := Lib.hid hb3
  clear hb3
  go_wp2_with fail
  refine (text_at ⟨#[98]⟩ _ (HR.out.ex HB3.out) HFR.out (by decide)).mono ?_
  rintro e w4 ⟨rfl, hb4⟩
  have HB4 := Lib.hid (HB3.out.trans hb4)
  clear hb4
  go_wp2_with fail
  refine (concat_calls _ (HR.out.ex HB4.out) (HL.out.ex HB4.out) (by rw [HFL.out, HFR.out]; decide)).mono ?_
  rintro e w5 ⟨v5, rfl, ht5, hb5⟩
  have HT5 := Lib.hid ht5
  have HF5 := Lib.hid (show flat (conc cr cl) = ⟨#[98, 97]⟩ from by rw [(conc_good HGR.out HGL.out).2, HFL.out, HFR.out]; decide)
  have HB5 := Lib.hid (HB4.out.trans hb5)
  clear ht5 hb5
  go_wp2_with fail
  refine (text_at ⟨#[98, 97]⟩ _ HT5.out HF5.out (by decide)).mono ?_
  rintro e w6 ⟨rfl, hb6⟩
  go_wp2_with fail
  go_ret
  exact ⟨rfl, (HB2.out.trans HB5.out).trans hb6⟩
end Go.Proofs.Ytkckeogdijdohaa
