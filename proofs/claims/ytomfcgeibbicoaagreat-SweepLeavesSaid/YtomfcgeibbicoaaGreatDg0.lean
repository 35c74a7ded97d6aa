/- Walks: what digits say (num.Parse), of the program and of the document. -/
import Derived.Test.YtomfcgeibbicoaaGreatTi0
import Derived.Test.YtomfcgeibbicoaaGreatPc0
namespace Go.Proofs.YtomfcgeibbicoaaGreat
open Go.RowKit
def digB (b : Nat) : Bool := decide (48 ≤ b ∧ b ≤ 57)
/-- What the first digits say. -/
def valS (s : ByteArray) : Nat → Nat
  | 0 => 0
  | k + 1 => 10 * valS s k + (byteAt s k - 48)
def digsB (s : ByteArray) : Bool := (List.range s.size).all fun i => digB (byteAt s i)
/-- What digits say; false: it is no number. -/
def numP (s : ByteArray) : Int × Bool := if 0 < s.size ∧ s.size ≤ 9 ∧ digsB s = true then ((valS s s.size : Int), true) else (0, false)
theorem num_size {s : ByteArray} (h : ¬ (0 < s.size ∧ s.size ≤ 9)) : numP s = (0, false) := by unfold numP; rw [if_neg (by omega)]
theorem num_no {s : ByteArray} {k : Nat} (hk : k < s.size) (h : digB (byteAt s k) = false) : numP s = (0, false) := by
  have : digsB s = false := by
    unfold digsB
    rw [List.all_eq_false]
    exact ⟨k, List.mem_range.2 hk, by rw [h]; decide⟩
  unfold numP
  rw [if_neg (by rw [this]; simp)]
theorem num_yes {s : ByteArray} (h0 : 0 < s.size) (h1 : s.size ≤ 9) (h : ∀ i, i < s.size → digB (byteAt s i) = true) : numP s = ((valS s s.size : Int), true) := by
  have : digsB s = true := by
    unfold digsB
    rw [List.all_eq_true]
    exact fun i hi => h i (List.mem_range.1 hi)
  unfold numP
  rw [if_pos ⟨h0, h1, this⟩]
theorem dig_in {b : Nat} (h : digB b = true) : 48 ≤ b ∧ b ≤ 57 := of_decide_eq_true h
theorem val_lt {s : ByteArray} : ∀ k, (∀ i, i < k → digB (byteAt s i) = true) → valS s k < 10 ^ k
  | 0, _ => by unfold valS; omega
  | k + 1, h => by
    have h1 := val_lt (s := s) k fun i hi => h i (by omega)
    have h2 := dig_in (h k (by omega))
    unfold valS
    rw [Nat.pow_succ]
    omega
theorem pow9 {k : Nat} (h : k ≤ 9) : 10 ^ k ≤ 1000000000 := Nat.pow_le_pow_right (by decide) h
theorem digit_calls (b : Nat) (w : World) (hb : b < 256) : Calls Tryz.prog 276 #[.int .u8 (b : Int)] w fun e w' => e = .returned (.bool (digB b)) ∧ Ex w w' := by
  by_cases h1 : 48 ≤ b
  · have d1 : decide ((48 : Int) ≤ (b : Int)) = true := decide_eq_true (by omega)
    by_cases h2 : b ≤ 57
    · have d2 : decide ((b : Int) ≤ 57) = true := decide_eq_true (by omega)
      have hs : digB b = true := by unfold digB; simp; omega
      rw [hs]
      go_enter Tryz.func276, Tryz.ntmps276
      go_wp2_with fail
      go_ret
      exact ⟨rfl, Ex.refl _⟩
    · have d2 : decide ((b : Int) ≤ 57) = false := decide_eq_false (by omega)
      have hs : digB b = false := by unfold digB; simp; omega
      rw [hs]
      go_enter Tryz.func276, Tryz.ntmps276
      go_wp2_with fail
      go_ret
      exact ⟨rfl, Ex.refl _⟩
  · have d1 : decide ((48 : Int) ≤ (b : Int)) = false := decide_eq_false (by omega)
    have hs : digB b = false := by unfold digB; simp; omega
    rw [hs]
    go_enter Tryz.func276, Tryz.ntmps276
    go_wp2_with fail
    go_ret
    exact ⟨rfl, Ex.refl _⟩
set_option maxRecDepth 100000 in
set_option maxHeartbeats 2000000 in
theorem parse_calls (s : ByteArray) (w : World) : Calls Tryz.prog 261 #[.string s] w fun e w' => e = .returned (.tuple #[.int .i64 (numP s).1, .bool (numP s).2]) ∧ Ex w w' := by
  by_cases h0 : s.size = 0
  · have e1 : s.toList.isEmpty = true := by rw [noByte]; exact decide_eq_true h0
    rw [num_size (by omega)]
    go_enter Tryz.func261, Tryz.ntmps261
    go_wp2_with fail
    go_ret2
    exact ⟨rfl, Ex.refl _⟩
  · have e1 : s.toList.isEmpty = false := by rw [noByte]; exact decide_eq_false h0
    by_cases h1 : 9 < s.size
    · have d1 : decide (9 < (s.size : Int)) = true := decide_eq_true (by omega)
      rw [num_size (by omega)]
      go_enter Tryz.func261, Tryz.ntmps261
      go_wp2_with fail
      go_ret2
      exact ⟨rfl, Ex.refl _⟩
    · have d1 : decide (9 < (s.size : Int)) = false := decide_eq_false (by omega)
      obtain ⟨pn, pb, hpp⟩ : ∃ pn pb, numP s = (pn, pb) := ⟨_, _, rfl⟩
      have HPP := Lib.hid hpp
      rw [hpp]
      clear hpp
      go_enter Tryz.func261, Tryz.ntmps261
      go_wp2_with fail
      go_loopw [4, 15] (fun v4 v15 wr => ∃ k : Nat, k ≤ s.size ∧ v15 = .int .i64 (k : Int) ∧ v4 = .int .i64 (valS s k : Int) ∧ (∀ i, i < k → digB (byteAt s i) = true) ∧ Ex w wr) (fun _ v15 _ => s.size - (intOf v15).toNat)
      case atStart => exact ⟨0, by omega, rfl, rfl, fun i hi => by omega, Ex.refl _⟩
      case round =>
        obtain ⟨k, hk, rfl, rfl, hall, hb⟩ := hrel
        have HX := Lib.hid hb
        have HA := Lib.hid hall
        clear hb hall
        by_cases hlt : k < s.size
        · have hbt : (s[k]'hlt).toNat = byteAt s k := by unfold byteAt; rw [dif_pos hlt]
          have hb256 : byteAt s k < 256 := byteAt_lt s k
          have HNO := Lib.hid (fun h => num_no hlt h)
          have HA1 : digB (byteAt s k) = true → Hid (∀ i, i < k + 1 → digB (byteAt s i) = true) := fun h i hi => by
            rcases Nat.lt_or_ge i k with h3 | h3
            · exact HA.out i h3
            · rw [show i = k by omega]; exact h
          have HV1 := Lib.hid (show valS s (k + 1) = 10 * valS s k + (byteAt s k - 48) from rfl)
          have hv := Nat.lt_of_lt_of_le (val_lt (s := s) k HA.out) (pow9 (show k ≤ 9 by omega))
          generalize byteAt s k = b at *
          generalize valS s k = v at *
          go_wp2_with fail
          refine (digit_calls b _ hb256).mono ?_
          rintro e w1 ⟨rfl, hb1⟩
          have HX1 := Lib.hid (HX.out.trans hb1)
          clear hb1
          cases hsm : digB b
          · have HM := Lib.hid (HPP.out.symm.trans (HNO.out hsm))
            go_wp2_with fail
            go_ret2
            rw [show pn = 0 from congrArg Prod.fst HM.out, show pb = false from congrArg Prod.snd HM.out]
            exact ⟨rfl, HX1.out⟩
          · have hd := dig_in hsm
            have HA1 := HA1 hsm
            have hw1 : IntKind.u8.wrap ((b : Int) - 48) = (b : Int) - 48 := by simp [IntKind.wrap, IntKind.bits, IntKind.signed]; omega
            have hw2 : IntKind.i64.wrap ((b : Int) - 48) = (b : Int) - 48 := IntWalk.i64_in _ (by omega)
            have hw3 : IntKind.i64.wrap (((v : Int) * 10)) = ((v : Int) * 10) := IntWalk.i64_in _ (by omega)
            have hw4 : IntKind.i64.wrap (((v : Int) * 10) + ((b : Int) - 48)) = ((v : Int) * 10) + ((b : Int) - 48) := IntWalk.i64_in _ (by omega)
            have hkw : IntKind.i64.wrap ((k : Int) + 1) = (k : Int) + 1 := IntWalk.i64_in _ (by omega)
            go_wp2_with fail
            exact ⟨⟨k + 1, by omega, by go_num, by rw [HV1.out]; congr 1; omega, HA1.out, HX1.out⟩, by simp [intOf]; omega⟩
        · have hks : k = s.size := by omega
          have HM := Lib.hid (HPP.out.symm.trans (num_yes (s := s) (by omega) (by omega) (fun i hi => HA.out i (by omega))))
          subst hks
          go_wp2_with fail
          go_ret2
          rw [show pn = (valS s s.size : Int) from congrArg Prod.fst HM.out, show pb = true from congrArg Prod.snd HM.out]
          exact ⟨rfl, HX.out⟩
set_option maxRecDepth 100000 in
set_option maxHeartbeats 2000000 in
theorem rparse_calls (s : ByteArray) (w : World) : Calls Tryz.prog 165 #[.string s] w fun e w' => e = .returned (.tuple #[.int .i64 (numP s).1, .bool (numP s).2]) ∧ Ex w w' := by
  by_cases h0 : s.size < 1
  · have e1 : decide ((s.size : Int) < 1) = true := decide_eq_true (by omega)
    rw [num_size (by omega)]
    go_enter Tryz.func165, Tryz.ntmps165
    go_wp2_with fail
    go_ret2
    exact ⟨rfl, Ex.refl _⟩
  · have e1 : decide ((s.size : Int) < 1) = false := decide_eq_false (by omega)
    by_cases h1 : 9 < s.size
    · have d1 : decide (9 < (s.size : Int)) = true := decide_eq_true (by omega)
      rw [num_size (by omega)]
      go_enter Tryz.func165, Tryz.ntmps165
      go_wp2_with fail
      go_ret2
      exact ⟨rfl, Ex.refl _⟩
    · have d1 : decide (9 < (s.size : Int)) = false := decide_eq_false (by omega)
      obtain ⟨pn, pb, hpp⟩ : ∃ pn pb, numP s = (pn, pb) := ⟨_, _, rfl⟩
      have HPP := Lib.hid hpp
      rw [hpp]
      clear hpp
      go_enter Tryz.func165, Tryz.ntmps165
      go_wp2_with fail
      go_loopw [4, 5] (fun v4 v5 wr => ∃ k : Nat, k ≤ s.size ∧ v5 = .int .i64 (k : Int) ∧ v4 = .int .i64 (valS s k : Int) ∧ (∀ i, i < k → digB (byteAt s i) = true) ∧ Ex w wr) (fun _ v5 _ => s.size - (intOf v5).toNat)
      case atStart => exact ⟨0, by omega, rfl, rfl, fun i hi => by omega, Ex.refl _⟩
      case round =>
        obtain ⟨k, hk, rfl, rfl, hall, hb⟩ := hrel
        have HX := Lib.hid hb
        have HA := Lib.hid hall
        clear hb hall
        by_cases hlt : k < s.size
        · have hbt : (s[k]'hlt).toNat = byteAt s k := by unfold byteAt; rw [dif_pos hlt]
          have hb256 : byteAt s k < 256 := byteAt_lt s k
          have HNO := Lib.hid (fun h => num_no hlt h)
          have HA1 : digB (byteAt s k) = true → Hid (∀ i, i < k + 1 → digB (byteAt s i) = true) := fun h i hi => by
            rcases Nat.lt_or_ge i k with h3 | h3
            · exact HA.out i h3
            · rw [show i = k by omega]; exact h
          have HV1 := Lib.hid (show valS s (k + 1) = 10 * valS s k + (byteAt s k - 48) from rfl)
          have hv := Nat.lt_of_lt_of_le (val_lt (s := s) k HA.out) (pow9 (show k ≤ 9 by omega))
          generalize byteAt s k = b at *
          generalize valS s k = v at *
          have hkI : (k : Int) < (s.size : Int) := by omega
          have dk : decide ((k : Int) < (s.size : Int)) = true := decide_eq_true hkI
          cases hsm : digB b
          · have HM := Lib.hid (HPP.out.symm.trans (HNO.out hsm))
            by_cases h48 : b < 48
            case' pos => have d48 : decide ((b : Int) < 48) = true := decide_eq_true (by omega)
            case' neg =>
              have d48 : decide ((b : Int) < 48) = false := decide_eq_false (by omega)
              have d57 : decide (57 < (b : Int)) = true := decide_eq_true (by unfold digB at hsm; have := of_decide_eq_false hsm; omega)
            all_goals
              clear hsm
              go_wp2_with fail
              go_ret2
              rw [show pn = 0 from congrArg Prod.fst HM.out, show pb = false from congrArg Prod.snd HM.out]
              exact ⟨rfl, HX.out⟩
          · have hd := dig_in hsm
            have HA1 := HA1 hsm
            have hw1 : IntKind.u8.wrap ((b : Int) - 48) = (b : Int) - 48 := by simp [IntKind.wrap, IntKind.bits, IntKind.signed]; omega
            have hw2 : IntKind.i64.wrap ((b : Int) - 48) = (b : Int) - 48 := IntWalk.i64_in _ (by omega)
            have hw3 : IntKind.i64.wrap ((10 * (v : Int))) = (10 * (v : Int)) := IntWalk.i64_in _ (by omega)
            have hw4 : IntKind.i64.wrap ((10 * (v : Int)) + ((b : Int) - 48)) = (10 * (v : Int)) + ((b : Int) - 48) := IntWalk.i64_in _ (by omega)
            have hkw : IntKind.i64.wrap ((k : Int) + 1) = (k : Int) + 1 := IntWalk.i64_in _ (by omega)
            have d48 : decide ((b : Int) < 48) = false := decide_eq_false (by omega)
            have d57 : decide (57 < (b : Int)) = false := decide_eq_false (by omega)
            go_wp2_with fail
            exact ⟨⟨k + 1, by omega, by go_num, by rw [HV1.out]; congr 1; omega, HA1.out, HX.out⟩, by simp [intOf]; omega⟩
        · have hks : k = s.size := by omega
          have dk : decide ((k : Int) < (s.size : Int)) = false := decide_eq_false (by omega)
          have HM := Lib.hid (HPP.out.symm.trans (num_yes (s := s) (by omega) (by omega) (fun i hi => HA.out i (by omega))))
          subst hks
          go_wp2_with fail
          go_ret2
          rw [show pn = (valS s s.size : Int) from congrArg Prod.fst HM.out, show pb = true from congrArg Prod.snd HM.out]
          exact ⟨rfl, HX.out⟩
end Go.Proofs.YtomfcgeibbicoaaGreat
namespace Go.Proofs.YtomfcgeibbicoaaGreat
open Go.RowKit
def chB (c : Nat) : ByteArray := ⟨#[UInt8.ofNat c]⟩
/-- The last digits of a number. -/
def digT : Nat → Nat → ByteArray
  | _, 0 => ⟨#[]⟩
  | v, k + 1 => digT (v / 10) k ++ chB (48 + v % 10)
/-- A number in so many digits; empty, if it has more. -/
def digF (n w : Nat) : ByteArray := if 0 < n / 10 ^ w then ⟨#[]⟩ else digT n w
theorem bys_ch {c : Nat} (h : c < 256) : bys (chB c) = [.int .u8 (c : Int)] := by
  unfold bys chB
  simp
  omega
set_option maxHeartbeats 2000000 in
set_option maxRecDepth 100000 in
theorem rdigits_calls (n wd : Nat) (w : World) (h1 : 1 ≤ wd) (h9 : wd ≤ 9) (hn : n ≤ 9223372036854775807) : Calls Tryz.prog 155 #[.int .i64 (n : Int), .int .i64 (wd : Int)] w fun e w' => e = .returned (.string (digF n wd)) ∧ Ex w w' := by
  have d1 : decide ((wd : Int) < 1) = false := decide_eq_false (by omega)
  have d2 : decide (9 < (wd : Int)) = false := decide_eq_false (by omega)
  have d3 : decide ((n : Int) < 0) = false := decide_eq_false (by omega)
  go_enter Tryz.func155, Tryz.ntmps155
  go_wp2_with fail
  go_loopw [0, 5, 6] (fun v0 v5 v6 wr => ∃ (k v : Nat) (s : ByteArray), k ≤ wd ∧ v6 = .int .i64 (k : Int) ∧ v0 = .int .i64 (v : Int) ∧ v5 = .string s ∧ s.size = k ∧ v ≤ n ∧ digT n wd = digT v (wd - k) ++ s ∧ n / 10 ^ wd = v / 10 ^ (wd - k) ∧ Ex w wr) (fun _ _ v6 _ => wd - (intOf v6).toNat)
  case atStart => exact ⟨0, n, ⟨#[]⟩, Nat.zero_le _, rfl, rfl, rfl, rfl, Nat.le_refl _, by rw [Nat.sub_zero]; exact (ByteArray.append_empty).symm, by rw [Nat.sub_zero], Ex.refl _⟩
  case round =>
    obtain ⟨k, v, s, hk, rfl, rfl, rfl, hsk, hv, hs, hq, hX⟩ := hrel
    have HX := Lib.hid hX
    have HS := Lib.hid hs
    have HQ := Lib.hid hq
    clear hX hs hq
    by_cases hlt : k < wd
    · have dk : decide ((k : Int) < (wd : Int)) = true := decide_eq_true (by omega)
      have hm : Int.tmod (v : Int) 10 = ((v % 10 : Nat) : Int) := by rw [Int.tmod_eq_emod_of_nonneg (by omega)]; rfl
      have hdv : Int.tdiv (v : Int) 10 = ((v / 10 : Nat) : Int) := by rw [Int.tdiv_eq_ediv_of_nonneg (by omega)]; rfl
      have hmm : v % 10 < 10 := Nat.mod_lt _ (by decide)
      have hdd : v / 10 ≤ v := Nat.div_le_self _ _
      have HNX := Lib.hid (show digT v (wd - k) = digT (v / 10) (wd - (k + 1)) ++ chB (48 + v % 10) from by rw [show wd - k = wd - (k + 1) + 1 by omega]; rfl)
      have HQ2 := Lib.hid (show v / 10 ^ (wd - k) = v / 10 / 10 ^ (wd - (k + 1)) from by rw [show wd - k = wd - (k + 1) + 1 by omega, Nat.pow_succ, Nat.mul_comm, Nat.div_div_eq_div_mul])
      have hcb := conv_bytes (P := Tryz.prog) (wr.alloc (.cells (bys (chB (48 + v % 10))).toArray 5)) 201 9 5 Tryz.underlying201 Tryz.underlying5 Tryz.underlying9 (base := 0) (n := 1) (own_of_blk (Blk.new wr (bys (chB (48 + v % 10))) 5) (Nat.zero_le _) (Nat.le_refl _) (by unfold maxLen; omega) (by rw [bys_ch (by omega)]; rfl) (by rw [List.take_of_length_le (by rw [bys_ch (by omega)]; exact Nat.le_refl 1)]))
      rw [bys_ch (by omega)] at hcb
      obtain ⟨c, hc⟩ : ∃ c, 48 + v % 10 = c := ⟨_, rfl⟩
      have hc1 : (48 : Int) + ((v % 10 : Nat) : Int) = (c : Int) := by omega
      have hc2 : c < 256 := by omega
      rw [hc] at hcb HNX
      generalize v % 10 = vm at *
      generalize v / 10 = vd at *
      clear hc
      have hw1 : IntKind.i64.wrap (c : Int) = (c : Int) := IntWalk.i64_in _ (by omega)
      have hw2 : IntKind.u8.wrap (c : Int) = (c : Int) := IntWalk.u8_in _ (by omega)
      have hw3 : IntKind.i64.wrap (vm : Int) = (vm : Int) := IntWalk.i64_in _ (by omega)
      have hw4 : IntKind.i64.wrap (vd : Int) = (vd : Int) := IntWalk.i64_in _ (by omega)
      have hch1 : (chB c).size = 1 := rfl
      have hsz : ¬ (9223372036854775807 < (chB c).size + s.size) := by omega
      have HSZ := Lib.hid (show (chB c ++ s).size = k + 1 from by rw [ByteArray.size_append]; omega)
      clear hch1
      go_wp2_with fail
      exact ⟨⟨k + 1, vd, chB c ++ s, by omega, by go_num, rfl, rfl, HSZ.out, by omega, by rw [HS.out, HNX.out, ByteArray.append_assoc], by rw [HQ.out, HQ2.out], ex_alloc HX.out _⟩, by simp [intOf]; omega⟩
    · have dk : decide ((k : Int) < (wd : Int)) = false := decide_eq_false (by omega)
      have h0 : wd - k = 0 := by omega
      have HS2 := Lib.hid (show digT n wd = s from by rw [HS.out, h0]; exact ByteArray.empty_append)
      have HQ2 := Lib.hid (show n / 10 ^ wd = v from by rw [HQ.out, h0, Nat.pow_zero, Nat.div_one])
      by_cases hv0 : 0 < v
      · have dv : decide ((0 : Int) < (v : Int)) = true := decide_eq_true (by omega)
        have HE := Lib.hid (show digF n wd = ⟨#[]⟩ from by unfold digF; rw [HQ2.out, if_pos hv0])
        go_wp2_with fail
        go_ret
        exact ⟨by rw [HE.out]; rfl, HX.out⟩
      · have dv : decide ((0 : Int) < (v : Int)) = false := decide_eq_false (by omega)
        have HE := Lib.hid (show digF n wd = s from by unfold digF; rw [HQ2.out, if_neg hv0, HS2.out])
        go_wp2_with fail
        go_ret
        exact ⟨by rw [HE.out]; rfl, HX.out⟩
/-- Digits of what digits say are they. -/
theorem digT_ch {v x k : Nat} (hx : x < 10) : digT (10 * v + x) (k + 1) = digT v k ++ chB (48 + x) := by
  show digT ((10 * v + x) / 10) k ++ chB (48 + (10 * v + x) % 10) = _
  rw [show (10 * v + x) / 10 = v by omega, show (10 * v + x) % 10 = x by omega]
end Go.Proofs.YtomfcgeibbicoaaGreat
namespace Go.Proofs.YtomfcgeibbicoaaGreat
open Go.RowKit
theorem extract_ch {s : ByteArray} {k : Nat} (hk : k < s.size) : s.extract 0 (k + 1) = s.extract 0 k ++ chB (byteAt s k) := by
  rw [show s.extract 0 (k + 1) = s.extract 0 k ++ s.extract k (k + 1) from by
    rw [ByteArray.extract_append_extract, Nat.min_eq_left (Nat.zero_le _), Nat.max_eq_right (Nat.le_succ _)]]
  congr 1
  apply ba_data
  rw [ByteArray.data_extract]
  unfold chB byteAt
  rw [dif_pos hk]
  apply Array.ext
  · simp; omega
  · intro i h1 h2
    have hi : i = 0 := by simp at h2; omega
    subst hi
    simp
    rfl
theorem digT_val {s : ByteArray} : ∀ k, k ≤ s.size → (∀ i, i < k → digB (byteAt s i) = true) → digT (valS s k) k = s.extract 0 k
  | 0, _, _ => by
    rw [ByteArray.extract_same]; rfl
  | k + 1, hk, h => by
    have ih := digT_val (s := s) k (by omega) fun i hi => h i (by omega)
    have hd := dig_in (h k (by omega))
    unfold valS
    rw [digT_ch (by omega), ih, extract_ch (by omega), show 48 + (byteAt s k - 48) = byteAt s k by omega]
theorem num_digs {s : ByteArray} (h : (numP s).2 = true) : 0 < s.size ∧ s.size ≤ 9 ∧ (∀ i, i < s.size → digB (byteAt s i) = true) ∧ (numP s).1 = (valS s s.size : Int) := by
  unfold numP at h ⊢
  split at h
  · rename_i hc
    rw [if_pos hc]
    refine ⟨hc.1, hc.2.1, fun i hi => ?_, rfl⟩
    have := hc.2.2
    unfold digsB at this
    rw [List.all_eq_true] at this
    exact this i (List.mem_range.2 hi)
  · cases h
theorem digF_val {s : ByteArray} (h : (numP s).2 = true) : digF (numP s).1.toNat s.size = s := by
  obtain ⟨h0, h9, hd, hv⟩ := num_digs h
  rw [hv, show ((valS s s.size : Int)).toNat = valS s s.size by omega]
  have hl := val_lt (s := s) s.size hd
  unfold digF
  rw [if_neg (by rw [Nat.div_eq_of_lt hl]; omega), digT_val s.size (Nat.le_refl _) hd]
  apply ba_data
  rw [ByteArray.data_extract]
  exact Array.extract_size
end Go.Proofs.YtomfcgeibbicoaaGreat
