/- Walks: the document's Right; the statement MarksFinds. -/
import Derived.Test.YtkclpflgndgabaaMkO
namespace Go.Proofs.Ytkclpflgndgabaa
open Go.RowKit
set_option maxHeartbeats 1000000 in
theorem refRight_calls (A : Option Addr) (n c : Nat) (l : List Mk) (t : ByteArray) (w : World) (hn : n ≤ 1000000) (hm : Row w 2 A n (Mk.cs l)) (hsz : ∀ m ∈ l, m.nm.size ≤ 9223372036854775807) :
    Calls Try.prog 18 #[.slice A n c, .string t] w fun e w' => e = .returned (.bool (rightM t l)) ∧ Ex w w' := by
  have hl := hm.mk_len
  subst hl
  have Hm := Lib.hid hm
  have HZ := Lib.hid hsz
  clear hm hsz
  go_enter Try.func18, Try.ntmps18
  go_wp2
  go_loopw [5] (fun i wr => ∃ k : Nat, k ≤ l.length ∧ i = .int .i64 k ∧ (∀ j (hj : j < l.length), j < k → okMk t l[j] = true) ∧ Ex w wr) (fun i _ => l.length - (intOf i).toNat)
  case atStart => exact ⟨0, Nat.zero_le _, rfl, fun _ _ h => absurd h (by omega), Ex.refl _⟩
  case round =>
    obtain ⟨k, hk, rfl, hr1, hb⟩ := hrel
    have Hr1 := Lib.hid hr1
    clear hr1
    by_cases hlt : k < l.length
    · obtain ⟨b, o, rfl, c1, c2⟩ := (Hm.out.ex hb).mk hlt
      have HS := Lib.hid (HZ.out l[k] (List.getElem_mem hlt))
      cases hmay : mayMk l[k].nm
      · have Hd := Lib.hid (right_bad (t := t) hlt (show okMk t l[k] = false from by unfold okMk; rw [hmay]; rfl))
        have Hy := Lib.hid hmay
        clear hmay
        go_wp2_with fail
        refine (refMayMark_calls _ _ HS.out).mono ?_
        rintro e w1 ⟨rfl, rfl⟩
        rw [Hy.out]
        go_wp2
        go_ret
        exact ⟨ret_bool Hd.out.symm, hb⟩
      · have Hy := Lib.hid hmay
        cases hed : edge t l[k].pl
        · have Hd := Lib.hid (right_bad (t := t) hlt (show okMk t l[k] = false from by unfold okMk; rw [hed]; simp))
          have He := Lib.hid hed
          clear hmay hed
          go_wp2_with fail
          refine (refMayMark_calls _ _ HS.out).mono ?_
          rintro e w1 ⟨rfl, rfl⟩
          rw [Hy.out]
          go_wp2_with fail
          refine (refEdge_calls _ _ _).mono ?_
          rintro e w1 ⟨rfl, rfl⟩
          rw [He.out]
          go_wp2
          go_ret
          exact ⟨ret_bool Hd.out.symm, hb⟩
        · have Hok := Lib.hid (show okMk t l[k] = true from by unfold okMk; rw [hed, hmay]; rfl)
          have He := Lib.hid hed
          clear hmay hed
          go_wp2_with fail
          refine (refMayMark_calls _ _ HS.out).mono ?_
          rintro e w1 ⟨rfl, rfl⟩
          rw [Hy.out]
          go_wp2_with fail
          refine (refEdge_calls _ _ _).mono ?_
          rintro e w1 ⟨rfl, rfl⟩
          rw [He.out]
          go_wp2
          go_roundw
          case rel => exact ⟨k + 1, by omega, by go_num, fun j hj h => by by_cases e : j = k; (subst e; exact Hok.out); exact Hr1.out j hj (by omega), hb⟩
          case measure => simp [intOf]; omega
    · have h1 : l.all (okMk t) = true := by
        rw [List.all_eq_true]
        intro x hx
        obtain ⟨i, hi, rfl⟩ := List.getElem_of_mem hx
        exact Hr1.out i hi (by omega)
      by_cases h16 : l.length ≤ 16
      · have Hd := Lib.hid (show rightM t l = rise l from by unfold rightM; rw [h1, decide_eq_true h16]; rfl)
        clear h1
        go_wp2_with fail
        refine (rise_calls A l.length c l _ (by omega) (Hm.out.ex hb)).mono ?_
        rintro e w1 ⟨rfl, hd⟩
        go_wp2
        go_ret
        exact ⟨ret_bool Hd.out.symm, hb.trans hd.ex⟩
      · have Hd := Lib.hid (show rightM t l = false from by unfold rightM; rw [decide_eq_false h16]; rfl)
        clear h1
        go_wp2
        go_ret
        exact ⟨ret_bool Hd.out.symm, hb⟩
set_option maxHeartbeats 1000000 in
theorem marksFinds_calls (A : Option Addr) (n c : Nat) (l : List Mk) (s t : ByteArray) (w : World) (hn : n ≤ 9223372036854775807) (hm : Row w 2 A n (Mk.cs l)) (hsz : ∀ m ∈ l, m.nm.size ≤ 9223372036854775807) :
    Calls Try.prog 4 #[.slice A n c, .string s, .string t] w fun e w' => e = .returned (.bool true) ∧ Ex w w' := by
  have Hm := Lib.hid hm
  have HZ := Lib.hid hsz
  clear hm hsz
  by_cases h40 : n ≤ 40
  · have E40 := Lib.hid (show decide ((n : Int) ≤ 40) = true from decide_eq_true (by omega))
    by_cases h6 : 600 < t.size
    · go_enter Try.func4, Try.ntmps4
      go_wp2_with fail
      refine (few_calls _ _ _ _).mono ?_
      rintro e w1 ⟨rfl, rfl⟩
      rw [E40.out]
      go_wp2_with fail
      refine (lives_calls _).mono ?_
      rintro e w2 ⟨rfl, hb⟩
      go_wp2
      go_ret
      exact ⟨rfl, hb⟩
    · go_enter Try.func4, Try.ntmps4
      go_wp2_with fail
      refine (few_calls _ _ _ _).mono ?_
      rintro e w1 ⟨rfl, rfl⟩
      rw [E40.out]
      go_wp2_with fail
      refine (find_calls A n c l s _ hn Hm.out).mono ?_
      rintro e w1 ⟨rfl, hb1⟩
      go_wp2_with fail
      refine (refFind_calls A n c l s _ hn (Hm.out.ex hb1)).mono ?_
      rintro e w2 ⟨rfl, rfl⟩
      generalize (findM s l).1 = x
      generalize (findM s l).2 = y
      go_wp2_with fail
      refine (right_calls A n c l t _ (by omega) (Hm.out.ex hb1) HZ.out).mono ?_
      rintro e w3 ⟨rfl, hb3⟩
      go_wp2_with fail
      refine (refRight_calls A n c l t _ (by omega) (Hm.out.ex (Ex.trans hb1 hb3)) HZ.out).mono ?_
      rintro e w4 ⟨rfl, hb4⟩
      generalize rightM t l = z
      go_wp2_with fail
      refine (lives_calls _).mono ?_
      rintro e w5 ⟨rfl, hb⟩
      go_wp2
      go_ret
      exact ⟨rfl, ((Ex.trans hb1 hb3).trans hb4).trans hb⟩
  · have E40 := Lib.hid (show decide ((n : Int) ≤ 40) = false from decide_eq_false (by omega))
    go_enter Try.func4, Try.ntmps4
    go_wp2_with fail
    refine (few_calls _ _ _ _).mono ?_
    rintro e w1 ⟨rfl, rfl⟩
    rw [E40.out]
    go_wp2_with fail
    refine (lives_calls _).mono ?_
    rintro e w2 ⟨rfl, hb⟩
    go_wp2
    go_ret
    exact ⟨rfl, hb⟩
end Go.Proofs.Ytkclpflgndgabaa
