/- Walks: may marks be in a text: the program's and the document's; the statement MarksFinds. -/
import Derived.Test.YtkclpflgndgabaaMkK
import Derived.Test.YtkclpflgndgabaaMkM
import Derived.Test.YtkclpflgndgabaaUtfA
import Derived.Lib.Bytealg
namespace Go.Proofs.Ytkclpflgndgabaa
open Go.RowKit
theorem cmp_neg : ∀ (a b : List UInt8), (0 ≤ Lib.compareBytes a b) ↔ Op.bytesLess a b = false
  | [], [] => by simp [Lib.compareBytes, Op.bytesLess]
  | [], _ :: _ => by simp [Lib.compareBytes, Op.bytesLess]
  | _ :: _, [] => by simp [Lib.compareBytes, Op.bytesLess]
  | a :: x, b :: y => by
    unfold Lib.compareBytes Op.bytesLess
    by_cases h : a < b
    · simp [h]
    · by_cases h' : b < a
      · have hne : (a == b) = false := by rw [beq_eq_false_iff_ne]; rintro rfl; exact h h'
        simp [h, h', hne]
      · have e : a = b := UInt8.le_antisymm (UInt8.not_lt.1 h') (UInt8.not_lt.1 h)
        subst e
        simp [h, cmp_neg x y]
theorem cmp_up {a b : ByteArray} : (0 ≤ Lib.compareBytes a.data.toList b.data.toList) ↔ upN a b = false := by
  rw [cmp_neg, bytesLess_eq, decide_eq_false_iff_not, Bool.eq_false_iff, ne_eq, up_iff, ByteArray.toList_eq, ByteArray.toList_eq]
set_option maxHeartbeats 400000 in
theorem compare_calls (a b : ByteArray) (w : World) : Calls Try.prog 35 #[.string a, .string b] w fun e w' => ∃ z, e = .returned (.int .i64 z) ∧ (0 ≤ z ↔ upN a b = false) ∧ w' = w := by
  have hx : (callFunc 54 #[.string a, .string b]).run Try.prog w = .ok (.value (.int .i64 (Lib.compareBytes a.data.toList b.data.toList))) w := by
    rw [run_callFunc_extern Try.func54 (by kernel_rfl) (by kernel_rfl) (by kernel_rfl) (e := Extern.BytealgCompare.compare) (by kernel_rfl), Lib.run_compareString]
    rfl
  have hcs : Calls Try.prog 48 #[.string a, .string b] w fun e w' => e = .returned (.int .i64 (Lib.compareBytes a.data.toList b.data.toList)) ∧ w' = w := by
    go_enter Try.func48, Try.ntmps48
    go_wp2
    go_ret
    exact ⟨rfl, rfl⟩
  have Hc := Lib.hid hcs
  clear hcs hx
  go_enter Try.func35, Try.ntmps35
  go_wp2_with fail
  refine Hc.out.mono ?_
  rintro e w1 ⟨rfl, rfl⟩
  go_wp2
  go_ret
  exact ⟨_, rfl, cmp_up, rfl⟩
def okMk (t : ByteArray) (m : Mk) : Bool := mayMk m.nm && edge t m.pl
/-- May marks be in a text? -/
def rightM (t : ByteArray) (l : List Mk) : Bool := decide (l.length ≤ 16) && l.all (okMk t) && rise l
def lastNm (l : List Mk) : Nat → ByteArray
  | 0 => ⟨#[]⟩
  | k + 1 => match l[k]? with | some m => m.nm | none => ⟨#[]⟩
theorem lastNm_succ {l : List Mk} {k : Nat} (h : k < l.length) : lastNm l (k + 1) = l[k].nm := by
  show (match l[k]? with | some m => m.nm | none => (⟨#[]⟩ : ByteArray)) = l[k].nm
  rw [List.getElem?_eq_getElem h]
theorem right_bad {t : ByteArray} {l : List Mk} {k : Nat} (hk : k < l.length) (h : okMk t l[k] = false) : rightM t l = false := by
  unfold rightM
  have : l.all (okMk t) = false := by rw [List.all_eq_false]; exact ⟨l[k], List.getElem_mem hk, by rw [h]; simp⟩
  rw [this]; simp
theorem right_up {t : ByteArray} {l : List Mk} {k : Nat} (hk : k + 1 < l.length) (h : upN l[k].nm l[k+1].nm = false) : rightM t l = false := by
  unfold rightM
  have : rise l = false := by
    rw [Bool.eq_false_iff]
    intro hh
    rw [rise_iff.1 hh k hk] at h
    cases h
  rw [this]; simp
theorem up_empty {s : ByteArray} (h : mayMk s = true) : upN ⟨#[]⟩ s = true := by
  rw [up_iff, ByteArray.toList_eq, ByteArray.toList_eq]
  unfold mayMk at h
  have hs := (of_decide_eq_true h).1
  obtain ⟨⟨l⟩⟩ := s
  cases l with
  | nil => exact absurd hs (by decide)
  | cons a l => exact List.nil_lt_cons a l
set_option maxHeartbeats 1000000 in
theorem right_calls (A : Option Addr) (n c : Nat) (l : List Mk) (t : ByteArray) (w : World) (hn : n ≤ 1000000) (hm : Row w 2 A n (Mk.cs l)) (hsz : ∀ m ∈ l, m.nm.size ≤ 9223372036854775807) :
    Calls Try.prog 17 #[.slice A n c, .string t] w fun e w' => e = .returned (.bool (rightM t l)) ∧ Ex w w' := by
  have hl := hm.mk_len
  subst hl
  have Hm := Lib.hid hm
  have HZ := Lib.hid hsz
  clear hm hsz
  by_cases h16 : 16 < l.length
  · have Hd := Lib.hid (show rightM t l = false from by unfold rightM; rw [decide_eq_false (by omega)]; rfl)
    go_enter Try.func17, Try.ntmps17
    go_wp2
    go_ret
    exact ⟨ret_bool Hd.out.symm, Ex.refl _⟩
  · go_enter Try.func17, Try.ntmps17
    go_wp2
    go_loopw [5, 13] (fun v i wr => ∃ k : Nat, k ≤ l.length ∧ i = .int .i64 k ∧ v = .string (lastNm l k) ∧ (∀ j (hj : j < l.length), j < k → okMk t l[j] = true) ∧ (∀ j (hj : j + 1 < l.length), j + 1 < k → upN l[j].nm l[j+1].nm = true) ∧ Ex w wr) (fun _ i _ => l.length - (intOf i).toNat)
    case atStart => exact ⟨0, Nat.zero_le _, rfl, rfl, fun _ _ h => absurd h (by omega), fun _ _ h => absurd h (by omega), Ex.refl _⟩
    case round =>
      obtain ⟨k, hk, rfl, rfl, hr1, hr2, hb⟩ := hrel
      have Hr1 := Lib.hid hr1
      have Hr2 := Lib.hid hr2
      clear hr1 hr2
      by_cases hlt : k < l.length
      · obtain ⟨b, o, rfl, c1, c2⟩ := (Hm.out.ex hb).mk hlt
        have hX : Ex w (wr.alloc (.cells #[.string l[k].nm, .int .i64 l[k].pl] 24)) := ex_alloc hb _
        have HS := Lib.hid (HZ.out l[k] (List.getElem_mem hlt))
        cases hmay : mayMk l[k].nm
        · have Hd := Lib.hid (right_bad (t := t) hlt (show okMk t l[k] = false from by unfold okMk; rw [hmay]; rfl))
          have Hy := Lib.hid hmay
          clear hmay
          go_wp2_with fail
          refine (mayMark_calls _ _ HS.out).mono ?_
          rintro e w1 ⟨rfl, rfl⟩
          rw [Hy.out]
          go_wp2
          go_ret
          exact ⟨ret_bool Hd.out.symm, hX⟩
        · have Hy := Lib.hid hmay
          cases hup : upN (lastNm l k) l[k].nm
          · have Hd := Lib.hid (show rightM t l = false from by
              cases k with
              | zero => rw [show lastNm l 0 = ⟨#[]⟩ from rfl, up_empty hmay] at hup; cases hup
              | succ j => rw [lastNm_succ (by omega)] at hup; exact right_up hlt hup)
            have Hu := Lib.hid hup
            clear hmay hup
            go_wp2_with fail
            refine (mayMark_calls _ _ HS.out).mono ?_
            rintro e w1 ⟨rfl, rfl⟩
            rw [Hy.out]
            go_wp2_with fail
            refine (compare_calls _ _ _).mono ?_
            rintro e w1 ⟨z, rfl, hz, rfl⟩
            have hz0 : 0 ≤ z := hz.2 Hu.out
            clear hz
            go_wp2
            go_ret
            exact ⟨ret_bool Hd.out.symm, hX⟩
          · have Hu := Lib.hid hup
            cases hed : edge t l[k].pl
            · have Hd := Lib.hid (right_bad (t := t) hlt (show okMk t l[k] = false from by unfold okMk; rw [hed]; simp))
              have He := Lib.hid hed
              clear hmay hup hed
              go_wp2_with fail
              refine (mayMark_calls _ _ HS.out).mono ?_
              rintro e w1 ⟨rfl, rfl⟩
              rw [Hy.out]
              go_wp2_with fail
              refine (compare_calls _ _ _).mono ?_
              rintro e w1 ⟨z, rfl, hz, rfl⟩
              have hz0 : z < 0 := by
                rcases Int.lt_or_le z 0 with h | h
                · exact h
                · have := hz.1 h; rw [Hu.out] at this; cases this
              clear hz
              go_wp2_with fail
              refine (edge_calls _ _ _).mono ?_
              rintro e w1 ⟨rfl, rfl⟩
              rw [He.out]
              go_wp2
              go_ret
              exact ⟨ret_bool Hd.out.symm, hX⟩
            · have Hok := Lib.hid (show okMk t l[k] = true from by unfold okMk; rw [hed, hmay]; rfl)
              have He := Lib.hid hed
              clear hmay hup hed
              go_wp2_with fail
              refine (mayMark_calls _ _ HS.out).mono ?_
              rintro e w1 ⟨rfl, rfl⟩
              rw [Hy.out]
              go_wp2_with fail
              refine (compare_calls _ _ _).mono ?_
              rintro e w1 ⟨z, rfl, hz, rfl⟩
              have hz0 : z < 0 := by
                rcases Int.lt_or_le z 0 with h | h
                · exact h
                · have := hz.1 h; rw [Hu.out] at this; cases this
              clear hz
              go_wp2_with fail
              refine (edge_calls _ _ _).mono ?_
              rintro e w1 ⟨rfl, rfl⟩
              rw [He.out]
              go_wp2
              go_roundw
              case rel =>
                exact ⟨k + 1, by omega, by go_num, by rw [lastNm_succ hlt], fun j hj h => by by_cases e : j = k; (subst e; exact Hok.out); exact Hr1.out j hj (by omega), fun j hj h => by by_cases e : j + 1 = k; (subst e; have := Hu.out; rw [lastNm_succ (by omega)] at this; exact this); exact Hr2.out j hj (by omega), hX⟩
              case measure => simp [intOf]; omega
      · go_wp2
        go_ret
        have hkl : k = l.length := by omega
        have h1 : l.all (okMk t) = true := by
          rw [List.all_eq_true]
          intro x hx
          obtain ⟨i, hi, rfl⟩ := List.getElem_of_mem hx
          exact Hr1.out i hi (by omega)
        have h2 : rise l = true := rise_iff.2 fun j hj => Hr2.out j hj (by omega)
        exact ⟨ret_bool (by unfold rightM; rw [h1, h2, decide_eq_true (by omega)]; rfl), hb⟩
end Go.Proofs.Ytkclpflgndgabaa
