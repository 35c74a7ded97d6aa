/- Walks: bytes that go on, and edges: the program's and the document's. -/
import Derived.Test.YtkckeogdijdohaaUtfS
import Derived.Test.YtkckeogdijdohaaRun
import Derived.Test.YtkckeogdijdohaaRows
import Derived.Laws.BitsAllLaws
namespace Go.Proofs.Ytkckeogdijdohaa
open Go.RowKit
theorem on_bits : ∀ n : Nat, n < 256 → (bits BinOp.and .u8 (n : Int) 192 == 128) = onB n := by decide +kernel
set_option maxHeartbeats 400000 in
theorem goesOn_calls (b : Nat) (w : World) (hb : b < 256) : Calls Try.prog 83 #[.int .u8 (b : Int)] w fun e w' => e = .returned (.bool (onB b)) ∧ w' = w := by
  have H := Lib.hid (on_bits b hb)
  go_enter Try.func83, Try.ntmps83
  go_wp2
  go_ret
  exact ⟨ret_bool (by rw [← H.out]), rfl⟩
set_option maxHeartbeats 400000 in
theorem refOn_calls (b : Nat) (w : World) (hb : b < 256) : Calls Try.prog 56 #[.int .u8 (b : Int)] w fun e w' => e = .returned (.bool (onB b)) ∧ w' = w := by
  go_enter Try.func56, Try.ntmps56
  go_wp2
  · go_ret
    exact ⟨ret_bool (show decide ((b : Int) ≤ 191) = onB b by unfold onB; apply decide_eq_decide.2; omega), rfl⟩
  · go_ret
    exact ⟨ret_bool (show false = onB b by unfold onB; rw [eq_comm, decide_eq_false_iff_not]; omega), rfl⟩
theorem edge_no {s : ByteArray} {p : Int} (h : p < 0 ∨ (s.size : Int) < p) : edge s p = false := by
  unfold edge
  rw [decide_eq_false (by omega)]; rfl
theorem edge_end {s : ByteArray} {p : Int} (h : p = 0 ∨ p = (s.size : Int)) : edge s p = true := by
  unfold edge
  rw [decide_eq_true (by omega)]
  rcases h with h | h <;> simp [h]
theorem edge_mid {s : ByteArray} {p : Nat} (h0 : 0 < p) (h : p < s.size) : edge s (p : Int) = !onB (byteAt s p) := by
  unfold edge
  rw [decide_eq_true (by omega), decide_eq_false (by omega), decide_eq_false (by omega)]
  simp
set_option maxHeartbeats 400000 in
theorem edge_calls (s : ByteArray) (p : Int) (w : World) : Calls Try.prog 55 #[.string s, .int .i64 p] w fun e w' => e = .returned (.bool (edge s p)) ∧ w' = w := by
  by_cases h1 : p < 0
  · have H := Lib.hid (edge_no (s := s) (.inl h1))
    go_enter Try.func55, Try.ntmps55
    go_wp2
    go_ret
    exact ⟨ret_bool H.out.symm, rfl⟩
  · obtain ⟨n, rfl⟩ := Int.eq_ofNat_of_zero_le (Int.not_lt.1 h1)
    clear h1
    by_cases h2 : s.size < n
    · have H := Lib.hid (edge_no (s := s) (p := (n : Int)) (.inr (by omega)))
      go_enter Try.func55, Try.ntmps55
      go_wp2
      go_ret
      exact ⟨ret_bool H.out.symm, rfl⟩
    · by_cases h3 : n = 0
      · have H := Lib.hid (edge_end (s := s) (p := (n : Int)) (.inl (by omega)))
        have e1 : ((n : Int) == 0) = true := by rw [beq_iff_eq]; omega
        clear h3
        go_enter Try.func55, Try.ntmps55
        go_wp2
        go_ret
        exact ⟨ret_bool H.out.symm, rfl⟩
      · have e1 : ((n : Int) == 0) = false := by rw [beq_eq_false_iff_ne]; omega
        by_cases h4 : n = s.size
        · have H := Lib.hid (edge_end (s := s) (p := (n : Int)) (.inr (by omega)))
          have e2 : ((n : Int) == (s.size : Int)) = true := by rw [beq_iff_eq]; omega
          clear h4 h3
          go_enter Try.func55, Try.ntmps55
          go_wp2
          go_ret
          exact ⟨ret_bool H.out.symm, rfl⟩
        · have hlt : n < s.size := by omega
          have H := Lib.hid (edge_mid (s := s) (p := n) (by omega) hlt)
          have e2 : ((n : Int) == (s.size : Int)) = false := by rw [beq_eq_false_iff_ne]; omega
          have hb := byteAt_lt s n
          have eb := Lib.hid (byteAt_of hlt)
          clear h4 h3
          go_enter Try.func55, Try.ntmps55
          go_wp2_with fail
          rw [eb.out]
          refine (goesOn_calls _ _ hb).mono ?_
          rintro e w1 ⟨rfl, rfl⟩
          go_wp2
          go_ret
          exact ⟨ret_bool H.out.symm, rfl⟩
set_option maxHeartbeats 400000 in
theorem refEdge_calls (s : ByteArray) (p : Int) (w : World) : Calls Try.prog 23 #[.string s, .int .i64 p] w fun e w' => e = .returned (.bool (edge s p)) ∧ w' = w := by
  by_cases h1 : p < 0
  · have H := Lib.hid (edge_no (s := s) (.inl h1))
    go_enter Try.func23, Try.ntmps23
    go_wp2
    go_ret
    exact ⟨ret_bool H.out.symm, rfl⟩
  · obtain ⟨n, rfl⟩ := Int.eq_ofNat_of_zero_le (Int.not_lt.1 h1)
    clear h1
    by_cases h2 : s.size < n
    · have H := Lib.hid (edge_no (s := s) (p := (n : Int)) (.inr (by omega)))
      go_enter Try.func23, Try.ntmps23
      go_wp2
      go_ret
      exact ⟨ret_bool H.out.symm, rfl⟩
    · by_cases h3 : n = 0
      · have H := Lib.hid (edge_end (s := s) (p := (n : Int)) (.inl (by omega)))
        have e1 : ((n : Int) == 0) = true := by rw [beq_iff_eq]; omega
        clear h3
        go_enter Try.func23, Try.ntmps23
        go_wp2
        go_ret
        exact ⟨ret_bool H.out.symm, rfl⟩
      · have e1 : ((n : Int) == 0) = false := by rw [beq_eq_false_iff_ne]; omega
        by_cases h4 : n = s.size
        · have H := Lib.hid (edge_end (s := s) (p := (n : Int)) (.inr (by omega)))
          have e2 : ((n : Int) == (s.size : Int)) = true := by rw [beq_iff_eq]; omega
          clear h4 h3
          go_enter Try.func23, Try.ntmps23
          go_wp2
          go_ret
          exact ⟨ret_bool H.out.symm, rfl⟩
        · have hlt : n < s.size := by omega
          have H := Lib.hid (edge_mid (s := s) (p := n) (by omega) hlt)
          have e2 : ((n : Int) == (s.size : Int)) = false := by rw [beq_eq_false_iff_ne]; omega
          have hb := byteAt_lt s n
          have eb := Lib.hid (byteAt_of hlt)
          clear h4 h3
          go_enter Try.func23, Try.ntmps23
          go_wp2_with fail
          rw [eb.out]
          refine (refOn_calls _ _ hb).mono ?_
          rintro e w1 ⟨rfl, rfl⟩
          go_wp2
          go_ret
          exact ⟨ret_bool H.out.symm, rfl⟩
end Go.Proofs.Ytkckeogdijdohaa
