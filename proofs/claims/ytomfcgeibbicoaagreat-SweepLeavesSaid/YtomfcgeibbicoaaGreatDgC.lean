/- Walks: names of checkpoints and of parts (the document's). -/
import Derived.Test.YtomfcgeibbicoaaGreatDg0
import Derived.Test.YtomfcgeibbicoaaGreatTi1
namespace Go.Proofs.YtomfcgeibbicoaaGreat
open Go.RowKit
def ofChkS (n : Nat) : ByteArray := if (digF n 6).size = 0 then ⟨#[]⟩ else frCheck ++ digF n 6
theorem digT_size : ∀ (k v : Nat), (digT v k).size = k
  | 0, _ => rfl
  | k + 1, v => by
    unfold digT
    rw [ByteArray.size_append, digT_size k]
    rfl
theorem digF_size (n w : Nat) : (digF n w).size ≤ w := by
  unfold digF
  split
  · exact Nat.zero_le _
  · rw [digT_size]; exact Nat.le_refl _
set_option maxRecDepth 100000 in
set_option maxHeartbeats 1000000 in
theorem rofcheck_calls (n : Nat) (w : World) (hn : n ≤ 9223372036854775807) : Calls Tryz.prog 166 #[.int .i64 (n : Int)] w fun e w' => e = .returned (.string (ofChkS n)) ∧ Ex w w' := by
  have hs := digF_size n 6
  have HD := Lib.hid (fun w => rdigits_calls n 6 w (by decide) (by decide) hn)
  have hE : ofChkS n = if (digF n 6).size = 0 then ⟨#[]⟩ else frCheck ++ digF n 6 := rfl
  obtain ⟨d, hd⟩ : ∃ d, digF n 6 = d := ⟨_, rfl⟩
  rw [hd] at HD hs hE
  clear hd
  rw [hE]
  by_cases h0 : d.size = 0
  · have e1 : d.toList.isEmpty = true := by rw [noByte]; exact decide_eq_true h0
    rw [if_pos h0]
    clear hE h0
    go_enter Tryz.func166, Tryz.ntmps166
    go_wp2_with fail
    refine (HD.out _).mono ?_
    rintro e w1 ⟨rfl, hb⟩
    go_wp2_with fail
    go_ret
    exact ⟨rfl, hb⟩
  · have e1 : d.toList.isEmpty = false := by rw [noByte]; exact decide_eq_false h0
    rw [if_neg h0]
    have hz : ¬ (9223372036854775807 < frCheck.size + d.size) := by have : frCheck.size = 6 := rfl; omega
    have hz2 : ¬ (9223372036854775807 < 6 + d.size) := by omega
    clear hE h0
    go_enter Tryz.func166, Tryz.ntmps166
    go_wp2_with fail
    refine (HD.out _).mono ?_
    rintro e w1 ⟨rfl, hb⟩
    go_wp2_with fail
    go_ret
    exact ⟨rfl, hb⟩
def dashB : ByteArray := ⟨#[45]⟩
def ofLogS (n k : Nat) : ByteArray := if (digF n 6).size = 0 ∨ (digF k 4).size = 0 then ⟨#[]⟩ else frLog ++ digF n 6 ++ dashB ++ digF k 4
set_option maxRecDepth 100000 in
set_option maxHeartbeats 1000000 in
theorem roflog_calls (n k : Nat) (w : World) (hn : n ≤ 9223372036854775807) (hk : k ≤ 9223372036854775807) : Calls Tryz.prog 93 #[.int .i64 (n : Int), .int .i64 (k : Int)] w fun e w' => e = .returned (.string (ofLogS n k)) ∧ Ex w w' := by
  have hs := digF_size n 6
  have ht := digF_size k 4
  have HD := Lib.hid (fun w => rdigits_calls n 6 w (by decide) (by decide) hn)
  have HP := Lib.hid (fun w => rdigits_calls k 4 w (by decide) (by decide) hk)
  have hE : ofLogS n k = if (digF n 6).size = 0 ∨ (digF k 4).size = 0 then ⟨#[]⟩ else frLog ++ digF n 6 ++ dashB ++ digF k 4 := rfl
  obtain ⟨d, hd⟩ : ∃ d, digF n 6 = d := ⟨_, rfl⟩
  obtain ⟨p, hp⟩ : ∃ d, digF k 4 = d := ⟨_, rfl⟩
  rw [hd] at HD hs hE
  rw [hp] at HP ht hE
  clear hd hp
  rw [hE]
  have hl : frLog.size = 4 := rfl
  have hb1 : dashB.size = 1 := rfl
  have hz1 : ¬ (9223372036854775807 < 4 + d.size) := by omega
  have hz2 : ¬ (9223372036854775807 < (frLog ++ d).size + 1) := by rw [ByteArray.size_append]; omega
  have hz3 : ¬ (9223372036854775807 < (frLog ++ d ++ dashB).size + p.size) := by rw [ByteArray.size_append, ByteArray.size_append]; omega
  by_cases h0 : d.size = 0
  · have e1 : d.toList.isEmpty = true := by rw [noByte]; exact decide_eq_true h0
    rw [if_pos (.inl h0)]
    clear hE h0 hl hb1
    go_enter Tryz.func93, Tryz.ntmps93
    go_wp2_with fail
    refine (HD.out _).mono ?_
    rintro e w1 ⟨rfl, hb⟩
    have HX1 := Lib.hid hb
    clear hb
    go_wp2_with fail
    refine (HP.out _).mono ?_
    rintro e w2 ⟨rfl, hb⟩
    go_wp2_with fail
    go_ret
    exact ⟨rfl, HX1.out.trans hb⟩
  · have e1 : d.toList.isEmpty = false := by rw [noByte]; exact decide_eq_false h0
    by_cases h4 : p.size = 0
    case' pos =>
      have e2 : p.toList.isEmpty = true := by rw [noByte]; exact decide_eq_true h4
      rw [if_pos (.inr h4)]
    case' neg =>
      have e2 : p.toList.isEmpty = false := by rw [noByte]; exact decide_eq_false h4
      rw [if_neg (by omega)]
    all_goals
      clear hE h0 h4 hl hb1
      unfold frLog dashB at *
      go_enter Tryz.func93, Tryz.ntmps93
      go_wp2_with fail
      refine (HD.out _).mono ?_
      rintro e w1 ⟨rfl, hb⟩
      have HX1 := Lib.hid hb
      clear hb
      go_wp2_with fail
      refine (HP.out _).mono ?_
      rintro e w2 ⟨rfl, hb⟩
      go_wp2_with fail
      go_ret
      exact ⟨rfl, HX1.out.trans hb⟩
end Go.Proofs.YtomfcgeibbicoaaGreat
