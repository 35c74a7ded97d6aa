/- Walks: the document's Take, Bad and Valid. -/
import Derived.Test.YtkckeogdijdohaaUtfC
import Derived.Deep.RegionHeld3
import Derived.Deep.QuietTactic
import Derived.BigQuiet
namespace Go.Proofs.Ytkckeogdijdohaa
open Go.RowKit
def takeZ (s : ByteArray) (a : Int) : Int × Nat := if a < 0 then (0, 0) else takeU s a.toNat
theorem take_end {s : ByteArray} {a : Nat} (h : s.size ≤ a) : takeU s a = (0, 0) := by
  unfold takeU takeB; rw [if_pos (by omega)]
theorem take_le (s : ByteArray) (a : Nat) : (takeU s a).2 ≤ 4 ∧ a + (takeU s a).2 ≤ max a s.size ∧ 0 ≤ (takeU s a).1 ∧ (takeU s a).1 ≤ 16777215 := by
  have b0 := byteAt_lt s a
  have b1 := byteAt_lt s (a + 1)
  have b2 := byteAt_lt s (a + 2)
  have b3 := byteAt_lt s (a + 3)
  unfold takeU takeB
  repeat' split
  all_goals (simp only []; omega)
theorem numS_le {s : ByteArray} (h1 : 1 ≤ s.size) (h4 : s.size ≤ 4) : numS s ≤ 16777215 := by
  have b0 := byteAt_lt s 0
  unfold numS
  split
  · omega
  · split
    · omega
    · have hl : 192 ≤ lead s.size := by unfold lead; split; (· omega); split <;> omega
      exact (numF_le (by omega) (by omega) _ (by omega)).2
set_option maxHeartbeats 1000000 in
theorem refTake_calls (s : ByteArray) (a : Int) (w : World) (hs : s.size ≤ 9223372036854775000) : Calls Try.prog 67 #[.string s, .int .i64 a] w fun e w' => e = .returned (.tuple #[.int .i32 (takeZ s a).1, .int .i64 (takeZ s a).2]) ∧ Ex w w' := by
  by_cases h1 : a < 0
  · have H := Lib.hid (show takeZ s a = (0, 0) from if_pos h1)
    go_enter Try.func67, Try.ntmps67
    go_wp2
    go_ret2
    exact ⟨by rw [H.out]; rfl, Ex.refl _⟩
  · obtain ⟨p, rfl⟩ := Int.eq_ofNat_of_zero_le (Int.not_lt.1 h1)
    have HZ := Lib.hid (show takeZ s (p : Int) = takeU s p from by unfold takeZ; rw [if_neg h1]; rfl)
    clear h1
    by_cases h2 : s.size ≤ p
    · have H := Lib.hid (take_end h2)
      go_enter Try.func67, Try.ntmps67
      go_wp2
      go_ret2
      exact ⟨by rw [HZ.out, H.out]; rfl, Ex.refl _⟩
    · go_enter Try.func67, Try.ntmps67
      go_wp2
      go_loopw [6] (fun v wr => ∃ n : Nat, 1 ≤ n ∧ n ≤ 5 ∧ v = .int .i64 (n : Int) ∧ (∀ j, 1 ≤ j → j < n → p + j ≤ s.size → (takeU s p).2 ≠ j) ∧ p + n ≤ s.size + 1 ∧ Ex w wr) (fun v _ => 6 - (intOf v).toNat)
      case atStart => exact ⟨1, by omega, by omega, rfl, fun j _ _ => by omega, by omega, Ex.refl _⟩
      case round =>
        obtain ⟨n, hn1, hn5, rfl, hr, hpn, hb⟩ := hrel
        have Hr := Lib.hid hr
        clear hr
        by_cases hin : n ≤ 4 ∧ p + n ≤ s.size
        · obtain ⟨hn4, hps⟩ := hin
          have hsz : (s.extract p (p + n)).size = n := by rw [ByteArray.size_extract]; omega
          have HS := Lib.hid hsz
          clear hsz
          obtain ⟨hA, hB⟩ := isN_iff hn1 hn4 hps
          have HA := Lib.hid hA
          have HB := Lib.hid hB
          clear hA hB
          have e0 : ((p : Int) + (n : Int)).toNat = p + n := by omega
          go_wp2_with fail
          refine (number_calls _ _ (by rw [HS.out]; exact hn1) (by rw [HS.out]; exact hn4)).mono ?_
          rintro e w1 ⟨rfl, rfl⟩
          have hle := numS_le (s := s.extract p (p + n)) (by rw [HS.out]; exact hn1) (by rw [HS.out]; exact hn4)
          have HI := Lib.hid (show isN s p n = (decide (0 ≤ numS (s.extract p (p + n))) && ((strOfNums (putL (numS (s.extract p (p + n))))).toList == (s.extract p (p + n)).toList)) from rfl)
          generalize numS (s.extract p (p + n)) = c at hle HI HB ⊢
          by_cases hc : c < 0
          · have hno : (takeU s p).2 ≠ n := fun e => by have := HA.out.2 e; rw [HI.out, decide_eq_false (by omega)] at this; cases this
            have w7' : decide (0 ≤ c) = false := decide_eq_false (by omega)
            go_wp2
            go_quiet (fail)
            go_wp2
            exact ⟨⟨n + 1, by omega, by omega, by go_num, fun j h1 h2 h3 => by by_cases e : j = n; (subst e; exact hno); exact Hr.out j h1 (by omega) h3, by omega, hb.trans (Dr.one _ _).ex⟩, by simp [intOf]; omega⟩
          · have w1' : IntKind.i64.wrap ((p : Int) + (n : Int)) = (p : Int) + (n : Int) := IntWalk.i64_in _ (by omega)
            have w2' : 0 ≤ (p : Int) + (n : Int) := by omega
            have w3' : (p : Int) ≤ (p : Int) + (n : Int) := by omega
            have w4' : (p : Int) + (n : Int) ≤ (s.size : Int) := by omega
            have w5' : p ≤ p + n := by omega
            have w6' : 0 ≤ c := by omega
            have w7' : decide (0 ≤ c) = true := decide_eq_true w6'
            have w8' : IntKind.i32.wrap c = c := IntWalk.i32_in _ (by omega)
            have w9' : c ≤ 2147483647 := by omega
            have HQ := Lib.hid (show ((strOfNums (putL c)).toList == (s.extract p (p + n)).toList) = isN s p n from by rw [HI.out, w7', Bool.true_and])
            go_wp2
            go_region_held3 (fun _ => True) (trivial) ((go_at_call 88; refine (refPut_calls _ _ w6' w9').mono ?_; rintro e w2 ⟨rfl, hb2⟩))
            rw [HQ.out]
            have hbX : Ex w w2 := (hb.drew).trans (show Below w.heap.size w1.drew w2 from Below.mono hb2 (show w.heap.size ≤ w1.drew.heap.size from hb.size))
            cases hq : isN s p n
            · have hno : (takeU s p).2 ≠ n := fun e => by rw [HA.out.2 e] at hq; cases hq
              clear hq
              go_wp2
              exact ⟨⟨n + 1, by omega, by omega, by go_num, fun j h1 h2 h3 => by by_cases e : j = n; (subst e; exact hno); exact Hr.out j h1 (by omega) h3, by omega, hbX⟩, by simp [intOf]; omega⟩
            · have HT := Lib.hid (show takeU s p = (c, n) from Prod.ext (HB.out hq).symm (HA.out.1 hq))
              clear hq
              go_wp2
              go_ret2
              exact ⟨by rw [HZ.out, HT.out]; rfl, hbX⟩
        · have HT := Lib.hid (show takeU s p = (0, 0) from by
            have hl := take_le s p
            have hn0 : (takeU s p).2 = 0 := by
              rcases Nat.eq_zero_or_pos (takeU s p).2 with h | h
              · exact h
              · exact absurd rfl (Hr.out (takeU s p).2 h (by omega) (by omega))
            unfold takeU takeB at hn0 ⊢
            repeat' split at hn0
            all_goals first | (simp at hn0; done) | skip
            all_goals (split <;> first | rfl | omega))
          go_wp2
          all_goals go_ret2
          all_goals exact ⟨by rw [HZ.out, HT.out]; rfl, hb⟩
theorem badF_go {k : Nat} {s : ByteArray} {a : Nat} (h : a < s.size) (h0 : ¬ (takeU s a).2 = 0) : badF (k + 1) s a = badF k s (a + (takeU s a).2) := by
  show (if s.size ≤ a then -1 else if (takeU s a).2 = 0 then (a : Int) else badF k s (a + (takeU s a).2)) = _
  rw [if_neg (by omega), if_neg h0]
set_option maxHeartbeats 400000 in
theorem refBad_calls (s : ByteArray) (w : World) (hs : s.size ≤ 9223372036854775000) : Calls Try.prog 36 #[.string s] w fun e w' => e = .returned (.int .i64 (badU s)) ∧ Ex w w' := by
  go_enter Try.func36, Try.ntmps36
  go_wp2
  go_loopw [3] (fun v wr => ∃ a k : Nat, a ≤ s.size ∧ s.size < a + k ∧ v = .int .i64 (a : Int) ∧ badU s = badF k s a ∧ Ex w wr) (fun v _ => s.size - (intOf v).toNat)
  case atStart => exact ⟨0, s.size + 1, by omega, by omega, rfl, rfl, Ex.refl _⟩
  case round =>
    obtain ⟨a, k, ha, hk, rfl, hf, hb⟩ := hrel
    obtain ⟨k, rfl⟩ : ∃ k', k = k' + 1 := ⟨k - 1, by omega⟩
    by_cases hlt : a < s.size
    · have hl := take_le s a
      have HT := Lib.hid (show takeZ s (a : Int) = takeU s a from by unfold takeZ; rw [if_neg (by omega)]; rfl)
      by_cases h0 : (takeU s a).2 = 0
      · have HF := Lib.hid (show badU s = a from by rw [hf]; unfold badF; rw [if_neg (by omega), if_pos h0])
        have H0 := Lib.hid h0
        clear hf h0
        go_wp2_with fail
        refine (refTake_calls _ _ _ hs).mono ?_
        rintro e w1 ⟨rfl, hb1⟩
        rw [HT.out, H0.out]
        go_wp2
        go_ret
        exact ⟨ret_int HF.out.symm, hb.trans hb1⟩
      · have HF := Lib.hid (show badU s = badF k s (a + (takeU s a).2) from by rw [hf, badF_go hlt h0])
        obtain ⟨n, hn⟩ : ∃ n, n = (takeU s a).2 := ⟨_, rfl⟩
        rw [← hn] at HF hl h0
        have HN := Lib.hid hn
        have e0 : ((n : Int) == 0) = false := by rw [beq_eq_false_iff_ne]; omega
        clear hf hn
        go_wp2_with fail
        refine (refTake_calls _ _ _ hs).mono ?_
        rintro e w1 ⟨rfl, hb1⟩
        rw [HT.out, ← HN.out]
        go_wp2
        go_roundw
        case rel => exact ⟨a + n, k, by omega, by omega, by go_num, HF.out, hb.trans hb1⟩
        case measure => simp [intOf]; omega
    · have HF := Lib.hid (show badU s = -1 from by rw [hf]; unfold badF; rw [if_pos (by omega)])
      clear hf
      go_wp2
      go_ret
      exact ⟨ret_int HF.out.symm, hb⟩
set_option maxHeartbeats 400000 in
theorem refValid_calls (s : ByteArray) (w : World) (hs : s.size ≤ 9223372036854775000) : Calls Try.prog 13 #[.string s] w fun e w' => e = .returned (.bool (validU s)) ∧ Ex w w' := by
  have HV := Lib.hid (show validU s = decide (badU s < 0) from rfl)
  go_enter Try.func13, Try.ntmps13
  go_wp2_with fail
  refine (refBad_calls _ _ hs).mono ?_
  rintro e w1 ⟨rfl, hb1⟩
  generalize badU s = z at HV ⊢
  go_wp2
  go_ret
  exact ⟨ret_bool HV.out.symm, hb1⟩
end Go.Proofs.Ytkckeogdijdohaa
