/- Walk: SimdiskKeeps. -/
import Derived.Test.YtcffkmlnbnjibaaKeA
import Derived.Test.YtcffkmlnbnjibaaRowS
namespace Go.Proofs.Ytcffkmlnbnjibaa
open Go.RowKit Go.Maps
/-- The first bytes of a text. -/
def fewS (s : ByteArray) : ByteArray := if 200 < s.size then s.extract 0 200 else s
theorem fewS_size (s : ByteArray) : (fewS s).size ≤ 200 := by
  unfold fewS
  split
  · rw [ByteArray.size_extract]; omega
  · omega
theorem few11_calls (s : ByteArray) (w : World) (hs : s.size ≤ 9223372036854775807) : Calls Try.prog 7 #[.string s] w fun e w' => e = .returned (.string (fewS s)) ∧ Ex w w' := by
  by_cases h : 200 < s.size
  · have d1 : decide ((200 : Int) < (s.size : Int)) = true := decide_eq_true (by omega)
    have he : fewS s = s.extract 0 200 := by unfold fewS; rw [if_pos h]
    rw [he]
    go_enter Try.func7, Try.ntmps7
    go_wp2_with fail
    go_ret
    exact ⟨rfl, Ex.refl _⟩
  · have d1 : decide ((200 : Int) < (s.size : Int)) = false := decide_eq_false (by omega)
    have he : fewS s = s := by unfold fewS; rw [if_neg h]
    rw [he]
    go_enter Try.func7, Try.ntmps7
    go_wp2_with fail
    go_ret
    exact ⟨rfl, Ex.refl _⟩
theorem sB_list : sB.toList = [98] := by kernel_rfl
theorem sK_list : sK.toList = [107, 101, 112, 116] := by kernel_rfl
set_option maxHeartbeats 2000000 in
set_option maxRecDepth 100000 in
theorem keeps_calls (a b : ByteArray) (A : Option Addr) (c : Nat) (l : List ByteArray) (ch : ByteArray) (w : World) (ha : a.size ≤ maxLen) (hb : b.size ≤ maxLen) (hr : Row w 1 A l.length (l.flatMap str1)) (hl : ∀ x ∈ l, x.size ≤ maxLen) (hch : ch.size ≤ maxLen) :
    Calls Try.prog 3 #[.agg #[.string a, .string b], .slice A l.length c, .string ch] w fun e w' => e = .returned (.bool true) ∧ Ex w w' := by
  unfold maxLen at ha hb hch
  have HL := Lib.hid (show ∀ x ∈ l, x.size ≤ 9223372036854775807 from hl)
  have HX0 := Lib.hid (ex_alloc (Ex.refl w) (.cells #[.string a, .string b] 22))
  have HR := Lib.hid (hr.ex HX0.out)
  have hc0 : (w.alloc (.cells #[.string a, .string b] 22)).cell? ⟨w.heap.size, 0, none⟩ = some (.string a) := by rw [(Blk.new w [.string a, .string b] 22).cell]; rfl
  have hc1 : (w.alloc (.cells #[.string a, .string b] 22)).cell? ⟨w.heap.size, 1, none⟩ = some (.string b) := by rw [(Blk.new w [.string a, .string b] 22).cell]; rfl
  clear hl hr
  by_cases h1 : 10 < l.length
  · have d1 : decide ((10 : Int) < (l.length : Int)) = true := decide_eq_true (by omega)
    go_enter Try.func3, Try.ntmps3
    go_wp2_with fail
    go_quiet (fail)
    go_wp2_with fail
    refine (dlives_calls _).mono ?_
    rintro e wl ⟨rfl, hbl⟩
    go_wp2_with fail
    go_ret
    exact ⟨rfl, (HX0.out.trans (Dr.ex ⟨_, rfl⟩)).trans hbl⟩
  · have d1 : decide ((10 : Int) < (l.length : Int)) = false := decide_eq_false (by omega)
    by_cases h2 : 200 < ch.size
    · have d2 : decide ((200 : Int) < (ch.size : Int)) = true := decide_eq_true (by omega)
      go_enter Try.func3, Try.ntmps3
      go_wp2_with fail
      go_quiet (fail)
      go_wp2_with fail
      refine (dlives_calls _).mono ?_
      rintro e wl ⟨rfl, hbl⟩
      go_wp2_with fail
      go_ret
      exact ⟨rfl, (HX0.out.trans (Dr.ex ⟨_, rfl⟩)).trans hbl⟩
    · have d2 : decide ((200 : Int) < (ch.size : Int)) = false := decide_eq_false (by omega)
      go_enter Try.func3, Try.ntmps3
      go_wp2_with fail
      go_quiet (fail)
      have HXW := Lib.hid (HX0.out.trans (Dr.ex ⟨nq, rfl⟩) : Ex w ((w.alloc (.cells #[.string a, .string b] 22)).drewN nq))
      have HRW := Lib.hid (HR.out.ex (Dr.ex ⟨nq, rfl⟩) : Row ((w.alloc (.cells #[.string a, .string b] 22)).drewN nq) 1 A l.length (l.flatMap str1))
      generalize (w.alloc (.cells #[.string a, .string b] 22)).drewN nq = W at *
      clear hc0 hc1 HX0 HR
      go_wp2_with fail
      refine (dnew_calls 200 _ (by omega) (by omega)).mono ?_
      rintro e w1 ⟨⟨g, rfl, hg, hP⟩, hb1⟩
      have HP1 := Lib.hid (DkP.more (G := NewB W) hP (fun k hk => by rcases hk with hk | hk; exact hk.elim; exact hk.1))
      have HX1 := Lib.hid hb1
      have HO1 := Lib.hid (fresh_ok (n := 200) (by omega) (by omega))
      clear hP hb1
      go_wp2_with fail
      refine (few11_calls a _ (by omega)).mono ?_
      rintro e w2 ⟨rfl, hb2⟩
      have HP2 := Lib.hid (HP1.out.ex hb2)
      have HX2 := Lib.hid (Ex.trans HX1.out hb2)
      clear hb2 HP1 HX1
      go_wp2_with fail
      refine (few11_calls a _ (by omega)).mono ?_
      rintro e w3 ⟨rfl, hb3⟩
      have HP3 := Lib.hid (HP2.out.ex hb3)
      have HX3 := Lib.hid (Ex.trans HX2.out hb3)
      have hfz := fewS_size a
      clear hb3 HP2 HX2
      generalize fewS a = f at *
      go_wp2_with fail
      have hsz : (f.extract 0 (f.size / 32 * 32)).size ≤ 200 ∧ (f.extract 0 (f.size / 32 * 32)).size % 32 = 0 := by rw [ByteArray.size_extract]; omega
      generalize f.extract 0 (f.size / 32 * 32) = s at *
      have hs2 := hsz.1
      have HZ := Lib.hid hsz.2
      clear hsz hfz
      refine (dcreate_calls HP3.out HO1.out (by omega) sK (by decide)).mono ?_
      rintro e w4 ⟨rfl, hP, hO⟩
      have HS4 := Lib.hid (DkP.step HX3.out hP hO)
      have HO4 := Lib.hid (create_ok (s := sK) HO1.out (by omega) (by decide))
      rw [show ((DkV.fresh 200).create sK).1 = kept1 from rfl] at HS4 HO4
      rw [show ((DkV.fresh 200).create sK).2 = 0 from by rw [kept1_is]]
      clear hP hO HP3 HX3 HO1
      go_wp2_with fail
      refine (dappend_calls HS4.out.1 HO4.out (by omega) sK s (by decide) (by omega)).mono ?_
      rintro e w5 ⟨rfl, hP, hO⟩
      have HS5 := Lib.hid (DkP.step HS4.out.2 hP hO)
      have HO5 := Lib.hid (append_ok (s := sK) (x := s) HO4.out)
      rw [kept2_is hs2] at HS5 HO5 ⊢
      clear hP hO HS4 HO4
      go_wp2_with fail
      refine (dsync_calls HS5.out.1 HO5.out (by omega) sK (by decide)).mono ?_
      rintro e w6 ⟨rfl, hP, hO⟩
      have HS6 := Lib.hid (DkP.step HS5.out.2 hP hO)
      have HO6 := Lib.hid (syncT_ok (s := sK) HO5.out)
      rw [kept3_is] at HS6 HO6 ⊢
      clear hP hO HS5 HO5
      go_wp2_with fail
      refine (dsyncAll_calls HS6.out.1 HO6.out (by omega)).mono ?_
      rintro e w7 ⟨rfl, hP, hO⟩
      have HS7 := Lib.hid (DkP.step HS6.out.2 hP hO)
      have HO7 := Lib.hid (syncAll_ok HO6.out)
      rw [kept4_is] at HS7 HO7 ⊢
      have HK7 := Lib.hid (kept4_kp s)
      clear hP hO HS6 HO6
      obtain ⟨Q7, hQ7⟩ : ∃ Q7 : DkV, Q7 = ⟨200, [⟨s, s⟩], ⟨[⟨sK, 1⟩], []⟩, FuV.calm, 4⟩ := ⟨_, rfl⟩
      rw [← hQ7] at HS7 HO7 HK7
      clear hQ7
      go_wp2_with fail
      refine (few11_calls b _ (by omega)).mono ?_
      rintro e w8 ⟨rfl, hb8⟩
      have hfz := fewS_size b
      generalize fewS b = y at *
      have HP8 := Lib.hid (HS7.out.1.ex hb8)
      have HX8 := Lib.hid (Ex.trans HS7.out.2 hb8)
      clear hb8 HS7
      go_wp2_with fail
      refine (dappend_calls HP8.out HO7.out (by omega) sK y (by decide) (by omega)).mono ?_
      rintro e w9 ⟨rfl, hP, hO⟩
      have HS9 := Lib.hid (DkP.step HX8.out hP hO)
      have HO9 := Lib.hid (append_ok (s := sK) (x := y) HO7.out)
      have HK9 := Lib.hid (HK7.out.append sK y)
      clear hP hO HP8 HX8 HO7 HK7
      generalize (Q7.append sK y).2 = r9
      generalize (Q7.append sK y).1 = Q9 at *
      go_wp2_with fail
      go_loopw [11] (fun i wr => ∃ (k : Nat) (Q : DkV), k ≤ l.length ∧ i = .int .i64 (k : Int) ∧ DkP wr g (NewB W) Q ∧ Ex W wr ∧ Kp s Q ∧ Q.Ok (100 + 10 * k)) (fun i _ => l.length - (intOf i).toNat)
      case atStart => exact ⟨0, Q9, by omega, rfl, HS9.out.1, HS9.out.2, HK9.out, HO9.out.up (by omega)⟩
      case round =>
        clear HS9 HK9 HO9
        obtain ⟨k, Q, hk, rfl, hP, hX, hK, hO⟩ := hrel
        have HP := Lib.hid hP
        have HX := Lib.hid hX
        have HK := Lib.hid hK
        have HO := Lib.hid hO
        clear hP hX hK hO
        by_cases hlt : k < l.length
        · obtain ⟨ab, ao, rfl, hcW⟩ := HRW.out.str hlt
          have hxz := HL.out l[k] (List.getElem_mem hlt)
          generalize l[k] = x at hcW hxz
          have hcell := HX.out.cell hcW
          have HC := Lib.hid hcW
          clear hcW
          cases hq : (x.toList == sK.toList)
          · have hne : x.toList ≠ sK.toList := fun h => by rw [h] at hq; simp at hq
            have HNE := Lib.hid hne
            rw [sK_list] at hq
            clear hne
            go_wp2_with fail
            refine (dcreate_calls HP.out HO.out (by omega) x hxz).mono ?_
            rintro e v1 ⟨rfl, hP, hO⟩
            have HS1 := Lib.hid (DkP.step HX.out hP hO)
            have HO1 := Lib.hid (create_ok (s := x) HO.out (by omega) hxz)
            have HK1 := Lib.hid (HK.out.create HNE.out)
            have hcell := HS1.out.2.cell HC.out
            clear hP hO HP HX HO HK
            generalize (Q.create x).2 = r1
            generalize (Q.create x).1 = Q1 at *
            go_wp2_with fail
            refine (dappend_calls HS1.out.1 HO1.out (by omega) x s hxz (by omega)).mono ?_
            rintro e v2 ⟨rfl, hP, hO⟩
            have HS2 := Lib.hid (DkP.step HS1.out.2 hP hO)
            have HO2 := Lib.hid (append_ok (s := x) (x := s) HO1.out)
            have HK2 := Lib.hid (HK1.out.append x s)
            have hcell := HS2.out.2.cell HC.out
            clear hP hO HS1 HO1 HK1
            generalize (Q1.append x s).2 = r2
            generalize (Q1.append x s).1 = Q2 at *
            go_wp2_with fail
            refine (drename_calls HS2.out.1 HO2.out (by omega) x sB hxz (by decide)).mono ?_
            rintro e v3 ⟨rfl, hP, hO⟩
            have HS3 := Lib.hid (DkP.step HS2.out.2 hP hO)
            have HO3 := Lib.hid (rename_ok (s := x) (b := sB) HO2.out hxz (by decide))
            have HK3 := Lib.hid (HK2.out.rename (y := sB) HNE.out (by rw [sK_list, sB_list]; decide))
            have hcell := HS3.out.2.cell HC.out
            clear hP hO HS2 HO2 HK2
            generalize (Q2.rename x sB).2 = r3
            generalize (Q2.rename x sB).1 = Q3 at *
            go_wp2_with fail
            refine (dremove_calls HS3.out.1 HO3.out (by omega) x hxz).mono ?_
            rintro e v4 ⟨rfl, hP, hO⟩
            have HS4 := Lib.hid (DkP.step HS3.out.2 hP hO)
            have HO4 := Lib.hid (remove_ok (s := x) HO3.out hxz)
            have HK4 := Lib.hid (HK3.out.remove HNE.out)
            clear hP hO HS3 HO3 HK3
            generalize (Q3.remove x).2 = r4
            generalize (Q3.remove x).1 = Q4 at *
            go_wp2_with fail
            exact ⟨⟨k + 1, Q4, by omega, by go_num, HS4.out.1, HS4.out.2, HK4.out, HO4.out.up (by omega)⟩, by simp [intOf]; omega⟩
          · rw [sK_list] at hq
            go_wp2_with fail
            exact ⟨⟨k + 1, Q, by omega, by go_num, HP.out, HX.out, HK.out, HO.out.up (by omega)⟩, by simp [intOf]; omega⟩
        · have hkl : k = l.length := by omega
          subst hkl
          go_wp2_with fail
          refine (dcrash_calls HP.out HO.out (by omega) ch (by omega)).mono ?_
          rintro e v1 ⟨rfl, hP, hO⟩
          have HS1 := Lib.hid (DkP.step HX.out hP hO)
          have HO1 := Lib.hid (crash_ok HO.out ch)
          have HK1 := Lib.hid (HK.out.crash HZ.out ch)
          clear hP hO HP HX HO HK
          generalize (Q.crash ch).2 = r1
          generalize (Q.crash ch).1 = Q1 at *
          go_wp2_with fail
          refine (dread_calls HS1.out.1 HO1.out (by omega) sK (by decide)).mono ?_
          rintro e v2 ⟨rfl, hb2⟩
          have HX2 := Lib.hid (Ex.trans HXW.out (Ex.trans HS1.out.2 hb2))
          obtain ⟨k1, k2, k3⟩ := HK1.out.read
          have hrd := tapeAt_ok HO1.out (Q1.idOf sK)
          have k4 : (Q1.read sK).1.size ≤ 131072 := by unfold DkV.read; split; exact Nat.zero_le _; split; exact Nat.zero_le _; exact hrd.2
          rw [k1]
          generalize (Q1.read sK).1 = rd at *
          clear hb2 hrd HK1 HO1 HS1
          have k5 : decide ((rd.size : Int) < (s.size : Int)) = false := decide_eq_false (by omega)
          have k6 : decide ((s.size : Int) ≤ (rd.size : Int)) = true := decide_eq_true (by omega)
          have k7 : ((rd.extract 0 s.size).toList == s.toList) = true := by rw [k3]; simp
          go_wp2_with fail
          refine (dlives_calls _).mono ?_
          rintro e v3 ⟨rfl, hb3⟩
          go_wp2_with fail
          go_ret
          exact ⟨rfl, HX2.out.trans hb3⟩
theorem keeps_calls' (a b : ByteArray) (A : Option Addr) (n c : Nat) (l : List ByteArray) (ch : ByteArray) (w : World) (ha : a.size ≤ maxLen) (hb : b.size ≤ maxLen) (hr : Row w 1 A n (l.flatMap str1)) (hl : ∀ x ∈ l, x.size ≤ maxLen) (hch : ch.size ≤ maxLen) :
    Calls Try.prog 3 #[.agg #[.string a, .string b], .slice A n c, .string ch] w fun e w' => e = .returned (.bool true) ∧ Ex w w' := by
  obtain rfl := hr.strs_len
  exact keeps_calls a b A c l ch w ha hb hr hl hch
end Go.Proofs.Ytcffkmlnbnjibaa
