/- Walks: the program's Runes and Lines. -/
import Derived.Test.YtkckeogdijdohaaUtfH
import Derived.Lib.ConvBytes
namespace Go.Proofs.Ytkckeogdijdohaa
open Go.RowKit
/-- How many bytes are such. -/
def cnt (p : Nat → Bool) (s : ByteArray) : Nat := s.data.toList.countP fun b => p b.toNat
def runeN (s : ByteArray) : Nat := cnt (fun b => !onB b) s
def lineN (s : ByteArray) : Nat := cnt (fun b => b == 10) s
def cntTo (p : Nat → Bool) (s : ByteArray) (k : Nat) : Nat := (s.data.toList.take k).countP fun b => p b.toNat
theorem cntTo_le (p : Nat → Bool) (s : ByteArray) (k : Nat) : cntTo p s k ≤ k := by
  unfold cntTo
  have := List.countP_le_length (p := fun b : UInt8 => p b.toNat) (l := s.data.toList.take k)
  rw [List.length_take] at this
  omega
theorem cntTo_all (p : Nat → Bool) (s : ByteArray) : cntTo p s s.size = cnt p s := by
  unfold cntTo cnt
  rw [List.take_of_length_le (by simp)]
theorem cntTo_next {p : Nat → Bool} {s : ByteArray} {k : Nat} (h : k < s.size) : cntTo p s (k + 1) = cntTo p s k + if p (byteAt s k) then 1 else 0 := by
  unfold cntTo
  rw [List.take_succ_eq_append_getElem (by simpa using h), List.countP_append]
  congr 1
  have : (s.data.toList[k]'(by simpa using h)).toNat = byteAt s k := by
    rw [← byteAt_of h]; rfl
  simp only [List.countP_cons, List.countP_nil, this, Nat.zero_add]
/-- []byte(s): a new row of its bytes. -/
theorem conv_bytes (s : ByteArray) (w : World) : ∃ w1 cap, (convert 9 42 (.string s)).run Try.prog w = .ok (.slice (some ⟨w.heap.size, 0, none⟩) s.size cap) w1 ∧ Ex w w1 ∧ ∀ j, j < s.size → w1.cell? ⟨w.heap.size, j, none⟩ = some (.int .u8 (byteAt s j : Nat)) := by
  refine ⟨_, _, Lib.run_convert_string_bytes w 9 42 5 s Try.underlying9 Try.underlying42 Try.underlying5, ⟨rfl, rfl, rfl, by rw [Lib.bytesWorld_size]; omega, fun k hk => Lib.bytesWorld_at_old w _ s k hk⟩, fun j hj => ?_⟩
  rw [Lib.bytesWorld_cell w _ s j hj, ← byteAt_of hj]
  congr 3
  rw [List.getD_eq_getElem?_getD, List.getElem?_eq_getElem (by simpa using hj)]
  rfl
set_option maxRecDepth 100000 in
set_option maxHeartbeats 400000 in
theorem lines_calls (s : ByteArray) (w : World) (hs : s.size ≤ 100000) : Calls Try.prog 85 #[.string s] w fun e w' => e = .returned (.int .i64 (lineN s)) ∧ Ex w w' := by
  obtain ⟨w1, cap, hcv, hb1, hcell⟩ := conv_bytes s w
  have Hc := Lib.hid hcell
  have Hall := Lib.hid (cntTo_all (fun b => b == 10) s)
  clear hcell
  go_enter Try.func85, Try.ntmps85
  go_wp2
  go_loopw [3, 5, 9] (fun v3 _ v9 wr => ∃ k : Nat, k ≤ s.size ∧ v9 = .int .i64 (k : Int) ∧ v3 = .int .i64 (cntTo (fun b => b == 10) s k : Nat) ∧ Ex w1 wr) (fun _ _ v9 _ => s.size - (intOf v9).toNat)
  case atStart => exact ⟨0, by omega, rfl, rfl, Ex.refl _⟩
  case round =>
    obtain ⟨k, hk, rfl, rfl, hb⟩ := hrel
    by_cases hlt : k < s.size
    · have hcell := hb.cell (Hc.out k hlt)
      have hcl : w.heap.size < w1.heap.size := World.block_lt_of_cell? w1 _ (Hc.out k hlt)
      have hN := cntTo_next (p := fun b => b == 10) hlt
      have hle := cntTo_le (fun b => b == 10) s k
      have hbk := byteAt_lt s k
      by_cases ht : byteAt s k = 10
      · have HN := Lib.hid (show cntTo (fun b => b == 10) s (k + 1) = cntTo (fun b => b == 10) s k + 1 from by rw [hN, if_pos (by rw [beq_iff_eq]; exact ht)])
        have e1 : ((byteAt s k : Nat) : Int) = 10 := by omega
        rw [e1] at hcell
        clear hN
        go_wp2
        go_roundw
        case rel => exact ⟨k + 1, by omega, by go_num, by rw [HN.out]; go_num, hb⟩
        case measure => simp [intOf]; omega
      · have HN := Lib.hid (show cntTo (fun b => b == 10) s (k + 1) = cntTo (fun b => b == 10) s k from by rw [hN, if_neg (by rw [beq_iff_eq]; exact ht)]; rfl)
        have e1 : (((byteAt s k : Nat) : Int) == 10) = false := by rw [beq_eq_false_iff_ne]; omega
        clear hN
        go_wp2
        go_roundw
        case rel => exact ⟨k + 1, by omega, by go_num, by rw [HN.out], hb⟩
        case measure => simp [intOf]; omega
    · have hk' : k = s.size := by omega
      subst hk'
      go_wp2
      go_ret
      exact ⟨ret_int (by rw [Hall.out]; rfl), hb1.trans hb⟩
set_option maxRecDepth 100000 in
set_option maxHeartbeats 400000 in
theorem runes_calls (s : ByteArray) (w : World) (hs : s.size ≤ 100000) : Calls Try.prog 84 #[.string s] w fun e w' => e = .returned (.int .i64 (runeN s)) ∧ Ex w w' := by
  obtain ⟨w1, cap, hcv, hb1, hcell⟩ := conv_bytes s w
  have Hc := Lib.hid hcell
  have Hall := Lib.hid (cntTo_all (fun b => !onB b) s)
  clear hcell
  go_enter Try.func84, Try.ntmps84
  go_wp2_with fail
  go_loopw [3, 5, 9] (fun v3 _ v9 wr => ∃ k : Nat, k ≤ s.size ∧ v9 = .int .i64 (k : Int) ∧ v3 = .int .i64 (cntTo (fun b => !onB b) s k : Nat) ∧ Ex w1 wr) (fun _ _ v9 _ => s.size - (intOf v9).toNat)
  case atStart => exact ⟨0, by omega, rfl, rfl, Ex.refl _⟩
  case round =>
    obtain ⟨k, hk, rfl, rfl, hb⟩ := hrel
    by_cases hlt : k < s.size
    · have hcell := hb.cell (Hc.out k hlt)
      have hcl : w.heap.size < w1.heap.size := World.block_lt_of_cell? w1 _ (Hc.out k hlt)
      have hN := cntTo_next (p := fun b => !onB b) hlt
      have hle := cntTo_le (fun b => !onB b) s k
      have hbk := byteAt_lt s k
      have HN := Lib.hid hN
      clear hN
      go_wp2_with fail
      refine (goesOn_calls _ _ hbk).mono ?_
      rintro e w2 ⟨rfl, rfl⟩
      cases ho : onB (byteAt s k)
      · have HN2 := Lib.hid (show cntTo (fun b => !onB b) s (k + 1) = cntTo (fun b => !onB b) s k + 1 from by rw [HN.out, ho]; rfl)
        clear ho
        go_wp2
        go_roundw
        case rel => exact ⟨k + 1, by omega, by go_num, by rw [HN2.out]; go_num, hb⟩
        case measure => simp [intOf]; omega
      · have HN2 := Lib.hid (show cntTo (fun b => !onB b) s (k + 1) = cntTo (fun b => !onB b) s k from by rw [HN.out, ho]; rfl)
        clear ho
        go_wp2
        go_roundw
        case rel => exact ⟨k + 1, by omega, by go_num, by rw [HN2.out], hb⟩
        case measure => simp [intOf]; omega
    · have hk' : k = s.size := by omega
      subst hk'
      go_wp2
      go_ret
      exact ⟨ret_int (by rw [Hall.out]; rfl), hb1.trans hb⟩
end Go.Proofs.Ytkckeogdijdohaa
