/- Walks: the document's runes: ok, octets, Put, number, Take, Bad, Valid. -/
import Derived.Test.YtkckeogdijdohaaUtfA
import Derived.Laws.BytesArg
namespace Go.Proofs.Ytkckeogdijdohaa
open Go.RowKit
theorem okR_of {c : Int} (h0 : 0 ≤ c) (h1 : c ≤ 1114111) (h2 : 55296 ≤ c) : okR c = !decide (c ≤ 57343) := by
  unfold okR
  by_cases h : c ≤ 57343
  · rw [decide_eq_true h, decide_eq_false (by omega)]; rfl
  · rw [decide_eq_false h, decide_eq_true (by omega)]; rfl
set_option maxHeartbeats 400000 in
theorem refOk_calls (c : Int) (w : World) : Calls Try.prog 95 #[.int .i64 c] w fun e w' => e = .returned (.bool (okR c)) ∧ w' = w := by
  go_enter Try.func95, Try.ntmps95
  go_wp2
  all_goals go_ret
  · exact ⟨ret_bool (show (!decide (c ≤ 57343)) = okR c from (okR_of (by omega) (by omega) (by omega)).symm), rfl⟩
  · exact ⟨ret_bool (show true = okR c by unfold okR; rw [decide_eq_true (by omega)]), rfl⟩
  · exact ⟨ret_bool (show false = okR c by unfold okR; rw [decide_eq_false (by omega)]), rfl⟩
  · exact ⟨ret_bool (show false = okR c by unfold okR; rw [decide_eq_false (by omega)]), rfl⟩
set_option maxHeartbeats 400000 in
theorem octets_calls (c : Int) (w : World) : Calls Try.prog 96 #[.int .i64 c] w fun e w' => e = .returned (.int .i64 (octR c)) ∧ w' = w := by
  by_cases h1 : c < 128
  · have H := Lib.hid (show octR c = 1 from if_pos h1)
    go_enter Try.func96, Try.ntmps96
    go_wp2
    go_ret
    exact ⟨ret_int H.out.symm, rfl⟩
  · by_cases h2 : c < 2048
    · have H := Lib.hid (show octR c = 2 from by unfold octR; rw [if_neg h1, if_pos h2])
      go_enter Try.func96, Try.ntmps96
      go_wp2
      go_ret
      exact ⟨ret_int H.out.symm, rfl⟩
    · by_cases h3 : c < 65536
      · have H := Lib.hid (show octR c = 3 from by unfold octR; rw [if_neg h1, if_neg h2, if_pos h3])
        go_enter Try.func96, Try.ntmps96
        go_wp2
        go_ret
        exact ⟨ret_int H.out.symm, rfl⟩
      · have H := Lib.hid (show octR c = 4 from by unfold octR; rw [if_neg h1, if_neg h2, if_neg h3])
        go_enter Try.func96, Try.ntmps96
        go_wp2
        go_ret
        exact ⟨ret_int H.out.symm, rfl⟩
/-- []byte{..} as a string. -/
theorem conv_lit (w : World) (xs : List Int) (c : Nat) (hn : xs.length = c) : (convert 42 9 (.slice (some ⟨w.heap.size, 0, none⟩) c c)).run Try.prog (w.alloc (.cells (xs.map (Value.int .u8)).toArray 5)) = .ok (.string (strOfNums xs)) (w.alloc (.cells (xs.map (Value.int .u8)).toArray 5)) := by
  have h := run_convert_bytes_arg (P := Try.prog) (w := w.alloc (.cells (xs.map (Value.int .u8)).toArray 5)) 42 5 Try.underlying42 Try.underlying5 w.heap.size 0 c c xs hn
  refine h ?_ 9 Try.underlying9
  intro i hi
  rw [Nat.zero_add]
  have hb : Blk (w.alloc (.cells (xs.map (Value.int .u8)).toArray 5)) w.heap.size 5 (xs.map (Value.int .u8)) := heap_alloc_new w _
  rw [hb.cell, List.getElem?_map, List.getD, List.getElem?_eq_getElem (by omega)]
  rfl
set_option maxHeartbeats 400000 in
theorem refPut_calls (c : Int) (w : World) (h0 : 0 ≤ c) (h9 : c ≤ 2147483647) : Calls Try.prog 88 #[.int .i32 c] w fun e w' => e = .returned (.string (strOfNums (putL c))) ∧ Ex w w' := by
  cases hok : okR c
  · have HO := Lib.hid hok
    have HP := Lib.hid (show putL c = [] from if_pos hok)
    clear hok
    go_enter Try.func88, Try.ntmps88
    go_wp2_with fail
    refine (refOk_calls _ _).mono ?_
    rintro e w1 ⟨rfl, rfl⟩
    rw [HO.out]
    go_wp2
    go_ret
    exact ⟨by rw [HP.out]; rfl, Ex.refl _⟩
  · have h1m : c ≤ 1114111 := by unfold okR at hok; have := of_decide_eq_true hok; omega
    have hP : putL c = if c < 128 then [c] else if c < 2048 then [192 + c / 64, 128 + c % 64] else if c < 65536 then [224 + c / 4096, 128 + c / 64 % 64, 128 + c % 64] else [240 + c / 262144, 128 + c / 4096 % 64, 128 + c / 64 % 64, 128 + c % 64] := if_neg (by rw [hok]; simp)
    have HO := Lib.hid hok
    clear hok
    by_cases h1 : c < 128
    · have H := Lib.hid (show octR c = 1 from if_pos h1)
      have HP := Lib.hid (hP.trans (if_pos h1))
      have hcv : ∀ w1 : World, (convert 42 9 (.slice (some ⟨w1.heap.size, 0, none⟩) 1 1)).run Try.prog (w1.alloc (.cells #[.int .u8 (c)] 5)) = .ok (.string (strOfNums [c])) (w1.alloc (.cells #[.int .u8 (c)] 5)) := fun w1 => conv_lit w1 [c] 1 rfl
      clear hP
      go_enter Try.func88, Try.ntmps88
      go_wp2_with fail
      refine (refOk_calls _ _).mono ?_
      rintro e w1 ⟨rfl, rfl⟩
      rw [HO.out]
      go_wp2_with fail
      refine (octets_calls _ _).mono ?_
      rintro e w1 ⟨rfl, rfl⟩
      rw [H.out]
      go_wp2
      go_ret
      exact ⟨by rw [HP.out]; rfl, ex_alloc (Ex.refl _) _⟩
    · by_cases h2 : c < 2048
      · have H := Lib.hid (show octR c = 2 from by unfold octR; rw [if_neg h1, if_pos h2])
        have HP := Lib.hid (hP.trans ((if_neg h1).trans (if_pos h2)))
        have hcv : ∀ w1 : World, (convert 42 9 (.slice (some ⟨w1.heap.size, 0, none⟩) 2 2)).run Try.prog (w1.alloc (.cells #[.int .u8 (192 + c / 64), .int .u8 (128 + c % 64)] 5)) = .ok (.string (strOfNums [192 + c / 64, 128 + c % 64])) (w1.alloc (.cells #[.int .u8 (192 + c / 64), .int .u8 (128 + c % 64)] 5)) := fun w1 => conv_lit w1 [192 + c / 64, 128 + c % 64] 2 rfl
        clear hP
        go_enter Try.func88, Try.ntmps88
        go_wp2_with fail
        refine (refOk_calls _ _).mono ?_
        rintro e w1 ⟨rfl, rfl⟩
        rw [HO.out]
        go_wp2_with fail
        refine (octets_calls _ _).mono ?_
        rintro e w1 ⟨rfl, rfl⟩
        rw [H.out]
        go_wp2
        go_ret
        exact ⟨by rw [HP.out]; rfl, ex_alloc (Ex.refl _) _⟩
      · by_cases h3 : c < 65536
        · have H := Lib.hid (show octR c = 3 from by unfold octR; rw [if_neg h1, if_neg h2, if_pos h3])
          have HP := Lib.hid (hP.trans ((if_neg h1).trans ((if_neg h2).trans (if_pos h3))))
          have hcv : ∀ w1 : World, (convert 42 9 (.slice (some ⟨w1.heap.size, 0, none⟩) 3 3)).run Try.prog (w1.alloc (.cells #[.int .u8 (224 + c / 4096), .int .u8 (128 + c / 64 % 64), .int .u8 (128 + c % 64)] 5)) = .ok (.string (strOfNums [224 + c / 4096, 128 + c / 64 % 64, 128 + c % 64])) (w1.alloc (.cells #[.int .u8 (224 + c / 4096), .int .u8 (128 + c / 64 % 64), .int .u8 (128 + c % 64)] 5)) := fun w1 => conv_lit w1 [224 + c / 4096, 128 + c / 64 % 64, 128 + c % 64] 3 rfl
          clear hP
          go_enter Try.func88, Try.ntmps88
          go_wp2_with fail
          refine (refOk_calls _ _).mono ?_
          rintro e w1 ⟨rfl, rfl⟩
          rw [HO.out]
          go_wp2_with fail
          refine (octets_calls _ _).mono ?_
          rintro e w1 ⟨rfl, rfl⟩
          rw [H.out]
          go_wp2
          go_ret
          exact ⟨by rw [HP.out]; rfl, ex_alloc (Ex.refl _) _⟩
        · have H := Lib.hid (show octR c = 4 from by unfold octR; rw [if_neg h1, if_neg h2, if_neg h3])
          have HP := Lib.hid (hP.trans ((if_neg h1).trans ((if_neg h2).trans (if_neg h3))))
          have hcv : ∀ w1 : World, (convert 42 9 (.slice (some ⟨w1.heap.size, 0, none⟩) 4 4)).run Try.prog (w1.alloc (.cells #[.int .u8 (240 + c / 262144), .int .u8 (128 + c / 4096 % 64), .int .u8 (128 + c / 64 % 64), .int .u8 (128 + c % 64)] 5)) = .ok (.string (strOfNums [240 + c / 262144, 128 + c / 4096 % 64, 128 + c / 64 % 64, 128 + c % 64])) (w1.alloc (.cells #[.int .u8 (240 + c / 262144), .int .u8 (128 + c / 4096 % 64), .int .u8 (128 + c / 64 % 64), .int .u8 (128 + c % 64)] 5)) := fun w1 => conv_lit w1 [240 + c / 262144, 128 + c / 4096 % 64, 128 + c / 64 % 64, 128 + c % 64] 4 rfl
          clear hP
          go_enter Try.func88, Try.ntmps88
          go_wp2_with fail
          refine (refOk_calls _ _).mono ?_
          rintro e w1 ⟨rfl, rfl⟩
          rw [HO.out]
          go_wp2_with fail
          refine (octets_calls _ _).mono ?_
          rintro e w1 ⟨rfl, rfl⟩
          rw [H.out]
          go_wp2
          go_ret
          exact ⟨by rw [HP.out]; rfl, ex_alloc (Ex.refl _) _⟩
end Go.Proofs.Ytkckeogdijdohaa
