/- Walks: the program's Take. -/
import Derived.Test.YtkckeogdijdohaaUtfE
namespace Go.Proofs.Ytkckeogdijdohaa
open Go.RowKit
set_option maxRecDepth 100000 in
set_option maxHeartbeats 1000000 in
theorem take_calls (s : ByteArray) (a : Int) (w : World) (hs : s.size ≤ 9223372036854775000) : Calls Try.prog 94 #[.string s, .int .i64 a] w fun e w' => e = .returned (.tuple #[.int .i32 (takeZ s a).1, .int .i64 (takeZ s a).2]) ∧ w' = w := by
  by_cases h1 : a < 0
  · have H := Lib.hid (show takeZ s a = (0, 0) from if_pos h1)
    go_enter Try.func94, Try.ntmps94
    go_wp2
    go_ret2
    exact ⟨by rw [H.out]; rfl, rfl⟩
  · obtain ⟨p, rfl⟩ := Int.eq_ofNat_of_zero_le (Int.not_lt.1 h1)
    have HZ := Lib.hid (show takeZ s (p : Int) = takeU s p from by unfold takeZ; rw [if_neg h1]; rfl)
    clear h1
    by_cases h2 : s.size ≤ p
    · have H := Lib.hid (take_end h2)
      go_enter Try.func94, Try.ntmps94
      go_wp2
      go_ret2
      exact ⟨by rw [HZ.out, H.out]; rfl, rfl⟩
    · have hlt : p < s.size := by omega
      have hb0 := byteAt_lt s p
      have HB := Lib.hid (byteAt_of hlt)
      by_cases h3 : begL (byteAt s p) = 0
      · have H := Lib.hid (take_none (.inl h3))
        have H3 := Lib.hid h3
        clear h3
        go_enter Try.func94, Try.ntmps94
        go_wp2_with fail
        rw [HB.out]
        refine (begins_calls _ _ hb0).mono ?_
        rintro e w1 ⟨rfl, rfl⟩
        rw [H3.out]
        go_wp2
        go_ret2
        exact ⟨by rw [HZ.out, H.out]; rfl, rfl⟩
      · obtain ⟨n, hn⟩ : ∃ n, n = begL (byteAt s p) := ⟨_, rfl⟩
        have hn4 := begL_le (byteAt s p)
        rw [← hn] at hn4
        have e0 : ((n : Int) == 0) = false := by rw [beq_eq_false_iff_ne]; omega
        have HN := Lib.hid hn
        by_cases h4 : s.size - p < begL (byteAt s p)
        · have H := Lib.hid (take_none (.inr h4))
          rw [← hn] at h4
          clear h3 hn
          go_enter Try.func94, Try.ntmps94
          go_wp2_with fail
          rw [HB.out]
          refine (begins_calls _ _ hb0).mono ?_
          rintro e w1 ⟨rfl, rfl⟩
          rw [← HN.out]
          go_wp2
          go_ret2
          exact ⟨by rw [HZ.out, H.out]; rfl, rfl⟩
        · have H0 := Lib.hid h3
          have H4 := Lib.hid h4
          rw [← hn] at h4 h3
          clear hn
          go_enter Try.func94, Try.ntmps94
          go_wp2_with fail
          rw [HB.out]
          refine (begins_calls _ _ hb0).mono ?_
          rintro e w1 ⟨rfl, rfl⟩
          rw [← HN.out]
          go_wp2
          go_loop [7, 8, 9] (fun v7 v8 _ => ∃ k : Nat, 1 ≤ k ∧ k ≤ n ∧ v7 = .int .i32 (cU s p k : Nat) ∧ v8 = .int .i64 (k : Int) ∧ ∀ j, 1 ≤ j → j < k → onB (byteAt s (p + j)) = true) (fun _ v8 _ => n - (intOf v8).toNat)
          case atStart => exact ⟨1, by omega, by omega, rfl, rfl, fun j _ _ => by omega⟩
          case round =>
            obtain ⟨k, hk1, hkn, rfl, rfl, hon⟩ := hrel
            have HO := Lib.hid hon
            clear hon
            by_cases hlt2 : k < n
            · have hks : p + k < s.size := by omega
              have hbk := byteAt_lt s (p + k)
              have HK := Lib.hid (byteAt_of hks)
              have e1 : ((p : Int) + (k : Int)).toNat = p + k := by omega
              go_wp2_with fail
              rw [HK.out]
              refine (goesOn_calls _ _ hbk).mono ?_
              rintro e w2 ⟨rfl, rfl⟩
              cases ho : onB (byteAt s (p + k))
              · have HT := Lib.hid (take_off hk1 (by rw [← HN.out]; exact hlt2) ho)
                clear ho
                go_wp2
                go_ret2
                exact ⟨by rw [HZ.out, HT.out]; rfl, rfl⟩
              · have hc := cU_le s p k (by rw [← HN.out]; exact hlt2)
                have HX := Lib.hid (cU_next s p k hk1 (by omega))
                have HW := Lib.hid ho
                clear ho
                go_wp2
                exact ⟨⟨k + 1, by omega, by omega, by rw [HX.out]; refine congrArg (Value.int .i32) ?_; omega, by go_num, fun j h1 h2 => by by_cases e : j = k; (subst e; exact HW.out); exact HO.out j h1 (by omega)⟩, by simp [intOf]; omega⟩
            · have hkn' : k = n := by omega
              subst hkn'
              have hc := cU_le' s p k (Nat.le_of_eq HN.out)
              have HA := Lib.hid (take_all (s := s) (a := p) H0.out (by have := H4.out; omega) (fun j h1 h2 => HO.out j h1 (by rw [HN.out]; exact h2)))
              rw [← HN.out] at HA
              go_wp2_with fail
              refine (isRune_calls _ _ (by omega)).mono ?_
              rintro e w2 ⟨rfl, rfl⟩
              cases hok : okR (cU s p k : Nat)
              · have HT := Lib.hid (show takeU s p = (0, 0) from by rw [HA.out, if_neg (by rw [hok]; simp)])
                clear hok
                go_wp2
                go_ret2
                exact ⟨by rw [HZ.out, HT.out]; rfl, rfl⟩
              · by_cases hoc : octR (cU s p k : Nat) = (k : Int)
                · have HT := Lib.hid (show takeU s p = (((cU s p k : Nat) : Int), k) from by rw [HA.out, if_pos ⟨hok, hoc⟩])
                  have e2 : (octR (cU s p k : Nat) == (k : Int)) = true := by rw [beq_iff_eq]; exact hoc
                  clear hok hoc
                  go_wp2_with fail
                  refine (width_calls _ _).mono ?_
                  rintro e w2 ⟨rfl, rfl⟩
                  go_wp2
                  go_ret2
                  exact ⟨by rw [HZ.out, HT.out]; rfl, rfl⟩
                · have HT := Lib.hid (show takeU s p = (0, 0) from by rw [HA.out, if_neg (by rw [hok]; simp; exact hoc)])
                  have e2 : (octR (cU s p k : Nat) == (k : Int)) = false := by rw [beq_eq_false_iff_ne]; exact hoc
                  clear hok hoc
                  go_wp2_with fail
                  refine (width_calls _ _).mono ?_
                  rintro e w2 ⟨rfl, rfl⟩
                  go_wp2
                  go_ret2
                  exact ⟨by rw [HZ.out, HT.out]; rfl, rfl⟩
end Go.Proofs.Ytkckeogdijdohaa
