/- Walk: what a name is (the document's Read). -/
import Derived.Test.YtomfcgeibbicoaaGreatDgC
import Derived.Test.YtomfcgeibbicoaaGreatTiC
import Derived.Test.YtomfcgeibbicoaaGreatRfN
namespace Go.Proofs.YtomfcgeibbicoaaGreat
open Go.RowKit
def rtail (s : ByteArray) : TitV :=
  if 4 ≤ s.size ∧ ((s.extract 0 4).toList == [116, 109, 112, 45]) = true ∧ mayB s = true then ⟨3, 0, 0, ⟨#[]⟩⟩ else
    if 2 < s.size ∧ ((expS (s.extract 2 s.size)).toList == s.toList) = true then ⟨4, 0, 0, s.extract 2 s.size⟩ else ⟨0, 0, 0, ⟨#[]⟩⟩
/-- What a name is, by the document. -/
def rtitS (s : ByteArray) : TitV :=
  if s.size = 12 ∧ (numP (s.extract 6 12)).2 = true ∧ ((ofChkS (numP (s.extract 6 12)).1.toNat).toList == s.toList) = true then ⟨1, (numP (s.extract 6 12)).1, 0, ⟨#[]⟩⟩ else
    if s.size = 15 ∧ (numP (s.extract 4 10)).2 = true ∧ (numP (s.extract 11 15)).2 = true ∧ ((ofLogS (numP (s.extract 4 10)).1.toNat (numP (s.extract 11 15)).1.toNat).toList == s.toList) = true then ⟨2, (numP (s.extract 4 10)).1, (numP (s.extract 11 15)).1, ⟨#[]⟩⟩ else rtail s
theorem info_rtt : (Tryz.prog.info? 157).map (·.size) = some 4 := by kernel_rfl
theorem numP_nat (s : ByteArray) : (numP s).1 = ((numP s).1.toNat : Int) ∧ (numP s).1.toNat ≤ 1000000000 := by
  cases h : (numP s).2
  · have : numP s = (0, false) := by
      unfold numP at h ⊢
      split
      · rename_i hc; rw [if_pos hc] at h; cases h
      · rfl
    rw [this]
    exact ⟨rfl, by decide⟩
  · obtain ⟨_, h9, hd, hv⟩ := num_digs h
    have h1 := Nat.lt_of_lt_of_le (val_lt (s := s) s.size hd) (pow9 h9)
    rw [hv]
    exact ⟨by omega, by omega⟩
set_option maxHeartbeats 8000000 in
set_option maxRecDepth 100000 in
theorem rtread_calls (s : ByteArray) (w : World) (hs : s.size ≤ 9223372036854775806) : Calls Tryz.prog 103 #[.string s] w fun e w' => e = .returned (.agg (rtitS s).cs.toArray) ∧ Ex w w' := by
  have HK0 := Lib.hid (Blk.new w TitV.none.cs 157)
  have HX0 := Lib.hid (ex_alloc (Ex.refl w) (.cells TitV.none.cs.toArray 157))
  have hle := Nat.le_refl w.heap.size
  unfold TitV.none TitV.cs at HK0 HX0
  have HM := Lib.hid (fun w => rmay_calls s w (by omega))
  have HX9 := Lib.hid (fun w => rexport_calls (s.extract 2 s.size) w (by rw [ByteArray.size_extract]; omega))
  obtain ⟨r, hr⟩ : ∃ r, rtitS s = r := ⟨_, rfl⟩
  rw [hr]
  have HR := Lib.hid (show r = rtitS s from hr.symm)
  clear hr
  by_cases h12 : s.size = 12
  case neg =>
    by_cases h15 : s.size = 15
    case neg =>
      have d12 : decide ((s.size : Int) = 12) = false := decide_eq_false (by omega)
      have e12 : ((s.size : Int) == 12) = false := beq_eq_false_iff_ne.2 (by omega)
      have d15 : decide ((s.size : Int) = 15) = false := decide_eq_false (by omega)
      have e15 : ((s.size : Int) == 15) = false := beq_eq_false_iff_ne.2 (by omega)
      have HTL := Lib.hid (show r = rtail s from by rw [HR.out]; unfold rtitS; rw [if_neg (fun h => h12 h.1), if_neg (fun h => h15 h.1)])
      clear h12 h15
      go_enter Tryz.func103, Tryz.ntmps103
      by_cases h4 : 4 ≤ s.size
      case neg =>
        have d4 : decide ((4 : Int) ≤ (s.size : Int)) = false := decide_eq_false (by omega)
        by_cases h2 : 2 < s.size
        case neg =>
          have d2 : decide ((2 : Int) < (s.size : Int)) = false := decide_eq_false (by omega)
          have HOn := Lib.hid (TitV.one ⟨0, 0, 0, ⟨#[]⟩⟩)
          unfold TitV.cs at HOn
          have HQ := Lib.hid (show r = ⟨0, 0, 0, ⟨#[]⟩⟩ from by rw [HTL.out]; unfold rtail; rw [if_neg (fun h => h4 h.1), if_neg (fun h => h2 h.1)])
          go_wp2_with (refine st_agg 157 rfl (.tmp 2) (.tmp 82) rfl w.heap.size [.int .i64 0, .int .i64 0, .int .i64 0, .string ⟨#[]⟩] [.int .i64 0, .int .i64 0, .int .i64 0, .string ⟨#[]⟩] rfl rfl info_rtt rfl HOn.out HK0.out HX0.out hle ?_; intro wz kz Xz gz)
          (try simp only [Exit.inBlock, Exit.then])
          refine bodyPost_ret (ret_agg1 rfl _ _ w.heap.size [.int .i64 0, .int .i64 0, .int .i64 0, .string ⟨#[]⟩] rfl kz Tryz.underlying157 info_rtt) rfl ?_
          rw [HQ.out]
          exact ⟨rfl, Xz⟩
        have d2 : decide ((2 : Int) < (s.size : Int)) = true := decide_eq_true (by omega)
        have hl2 : (2 : Int) ≤ (s.size : Int) := by omega
        go_wp2_with fail
        refine (HX9.out _).mono ?_
        rintro e w1 ⟨rfl, hb⟩
        have HK1 := Lib.hid (HK0.out.ex hb)
        have HX1 := Lib.hid (HX0.out.trans hb)
        clear hb
        cases hxb : ((expS (s.extract 2 s.size)).toList == s.toList)
        case false =>
          have HOn := Lib.hid (TitV.one ⟨0, 0, 0, ⟨#[]⟩⟩)
          unfold TitV.cs at HOn
          have HQ := Lib.hid (show r = ⟨0, 0, 0, ⟨#[]⟩⟩ from by rw [HTL.out]; unfold rtail; rw [if_neg (fun h => h4 h.1), if_neg (fun h => by rw [hxb] at h; cases h.2)])
          go_wp2_with (refine st_agg 157 rfl (.tmp 2) (.tmp 82) rfl w.heap.size [.int .i64 0, .int .i64 0, .int .i64 0, .string ⟨#[]⟩] [.int .i64 0, .int .i64 0, .int .i64 0, .string ⟨#[]⟩] rfl rfl info_rtt rfl HOn.out HK1.out HX1.out hle ?_; intro wz kz Xz gz)
          (try simp only [Exit.inBlock, Exit.then])
          refine bodyPost_ret (ret_agg1 rfl _ _ w.heap.size [.int .i64 0, .int .i64 0, .int .i64 0, .string ⟨#[]⟩] rfl kz Tryz.underlying157 info_rtt) rfl ?_
          rw [HQ.out]
          exact ⟨rfl, Xz⟩
        have HOn := Lib.hid (TitV.one ⟨4, 0, 0, s.extract 2 s.size⟩)
        unfold TitV.cs at HOn
        have HQ := Lib.hid (show r = ⟨4, 0, 0, s.extract 2 s.size⟩ from by rw [HTL.out]; unfold rtail; rw [if_neg (fun h => h4 h.1), if_pos ⟨h2, hxb⟩])
        go_wp2_with (refine st_agg 157 rfl (.tmp 2) (.tmp 81) rfl w.heap.size [.int .i64 0, .int .i64 0, .int .i64 0, .string ⟨#[]⟩] [.int .i64 4, .int .i64 0, .int .i64 0, .string (s.extract 2 s.size)] rfl rfl info_rtt rfl HOn.out HK1.out HX1.out hle ?_; intro wz kz Xz gz)
        (try simp only [Exit.inBlock, Exit.then])
        refine bodyPost_ret (ret_agg1 rfl _ _ w.heap.size [.int .i64 4, .int .i64 0, .int .i64 0, .string (s.extract 2 s.size)] rfl kz Tryz.underlying157 info_rtt) rfl ?_
        rw [HQ.out]
        exact ⟨rfl, Xz⟩
      have d4 : decide ((4 : Int) ≤ (s.size : Int)) = true := decide_eq_true (by omega)
      have hl4 : (4 : Int) ≤ (s.size : Int) := by omega
      cases heb : ((s.extract 0 4).toList == [116, 109, 112, 45])
      case false =>
        by_cases h2 : 2 < s.size
        case neg =>
          have d2 : decide ((2 : Int) < (s.size : Int)) = false := decide_eq_false (by omega)
          have HOn := Lib.hid (TitV.one ⟨0, 0, 0, ⟨#[]⟩⟩)
          unfold TitV.cs at HOn
          have HQ := Lib.hid (show r = ⟨0, 0, 0, ⟨#[]⟩⟩ from by rw [HTL.out]; unfold rtail; rw [if_neg (fun h => by rw [heb] at h; cases h.2.1), if_neg (fun h => h2 h.1)])
          go_wp2_with (refine st_agg 157 rfl (.tmp 2) (.tmp 82) rfl w.heap.size [.int .i64 0, .int .i64 0, .int .i64 0, .string ⟨#[]⟩] [.int .i64 0, .int .i64 0, .int .i64 0, .string ⟨#[]⟩] rfl rfl info_rtt rfl HOn.out HK0.out HX0.out hle ?_; intro wz kz Xz gz)
          (try simp only [Exit.inBlock, Exit.then])
          refine bodyPost_ret (ret_agg1 rfl _ _ w.heap.size [.int .i64 0, .int .i64 0, .int .i64 0, .string ⟨#[]⟩] rfl kz Tryz.underlying157 info_rtt) rfl ?_
          rw [HQ.out]
          exact ⟨rfl, Xz⟩
        have d2 : decide ((2 : Int) < (s.size : Int)) = true := decide_eq_true (by omega)
        have hl2 : (2 : Int) ≤ (s.size : Int) := by omega
        go_wp2_with fail
        refine (HX9.out _).mono ?_
        rintro e w1 ⟨rfl, hb⟩
        have HK1 := Lib.hid (HK0.out.ex hb)
        have HX1 := Lib.hid (HX0.out.trans hb)
        clear hb
        cases hxb : ((expS (s.extract 2 s.size)).toList == s.toList)
        case false =>
          have HOn := Lib.hid (TitV.one ⟨0, 0, 0, ⟨#[]⟩⟩)
          unfold TitV.cs at HOn
          have HQ := Lib.hid (show r = ⟨0, 0, 0, ⟨#[]⟩⟩ from by rw [HTL.out]; unfold rtail; rw [if_neg (fun h => by rw [heb] at h; cases h.2.1), if_neg (fun h => by rw [hxb] at h; cases h.2)])
          go_wp2_with (refine st_agg 157 rfl (.tmp 2) (.tmp 82) rfl w.heap.size [.int .i64 0, .int .i64 0, .int .i64 0, .string ⟨#[]⟩] [.int .i64 0, .int .i64 0, .int .i64 0, .string ⟨#[]⟩] rfl rfl info_rtt rfl HOn.out HK1.out HX1.out hle ?_; intro wz kz Xz gz)
          (try simp only [Exit.inBlock, Exit.then])
          refine bodyPost_ret (ret_agg1 rfl _ _ w.heap.size [.int .i64 0, .int .i64 0, .int .i64 0, .string ⟨#[]⟩] rfl kz Tryz.underlying157 info_rtt) rfl ?_
          rw [HQ.out]
          exact ⟨rfl, Xz⟩
        have HOn := Lib.hid (TitV.one ⟨4, 0, 0, s.extract 2 s.size⟩)
        unfold TitV.cs at HOn
        have HQ := Lib.hid (show r = ⟨4, 0, 0, s.extract 2 s.size⟩ from by rw [HTL.out]; unfold rtail; rw [if_neg (fun h => by rw [heb] at h; cases h.2.1), if_pos ⟨h2, hxb⟩])
        go_wp2_with (refine st_agg 157 rfl (.tmp 2) (.tmp 81) rfl w.heap.size [.int .i64 0, .int .i64 0, .int .i64 0, .string ⟨#[]⟩] [.int .i64 4, .int .i64 0, .int .i64 0, .string (s.extract 2 s.size)] rfl rfl info_rtt rfl HOn.out HK1.out HX1.out hle ?_; intro wz kz Xz gz)
        (try simp only [Exit.inBlock, Exit.then])
        refine bodyPost_ret (ret_agg1 rfl _ _ w.heap.size [.int .i64 4, .int .i64 0, .int .i64 0, .string (s.extract 2 s.size)] rfl kz Tryz.underlying157 info_rtt) rfl ?_
        rw [HQ.out]
        exact ⟨rfl, Xz⟩
      go_wp2_with fail
      refine (HM.out _).mono ?_
      rintro e w1 ⟨rfl, hb⟩
      have HK1 := Lib.hid (HK0.out.ex hb)
      have HX1 := Lib.hid (HX0.out.trans hb)
      clear hb
      cases hmb : mayB s
      case false =>
        by_cases h2 : 2 < s.size
        case neg =>
          have d2 : decide ((2 : Int) < (s.size : Int)) = false := decide_eq_false (by omega)
          have HOn := Lib.hid (TitV.one ⟨0, 0, 0, ⟨#[]⟩⟩)
          unfold TitV.cs at HOn
          have HQ := Lib.hid (show r = ⟨0, 0, 0, ⟨#[]⟩⟩ from by rw [HTL.out]; unfold rtail; rw [if_neg (fun h => by rw [hmb] at h; cases h.2.2), if_neg (fun h => h2 h.1)])
          go_wp2_with (refine st_agg 157 rfl (.tmp 2) (.tmp 82) rfl w.heap.size [.int .i64 0, .int .i64 0, .int .i64 0, .string ⟨#[]⟩] [.int .i64 0, .int .i64 0, .int .i64 0, .string ⟨#[]⟩] rfl rfl info_rtt rfl HOn.out HK1.out HX1.out hle ?_; intro wz kz Xz gz)
          (try simp only [Exit.inBlock, Exit.then])
          refine bodyPost_ret (ret_agg1 rfl _ _ w.heap.size [.int .i64 0, .int .i64 0, .int .i64 0, .string ⟨#[]⟩] rfl kz Tryz.underlying157 info_rtt) rfl ?_
          rw [HQ.out]
          exact ⟨rfl, Xz⟩
        have d2 : decide ((2 : Int) < (s.size : Int)) = true := decide_eq_true (by omega)
        have hl2 : (2 : Int) ≤ (s.size : Int) := by omega
        go_wp2_with fail
        refine (HX9.out _).mono ?_
        rintro e w2 ⟨rfl, hb⟩
        have HK2 := Lib.hid (HK1.out.ex hb)
        have HX2 := Lib.hid (HX1.out.trans hb)
        clear hb
        cases hxb : ((expS (s.extract 2 s.size)).toList == s.toList)
        case false =>
          have HOn := Lib.hid (TitV.one ⟨0, 0, 0, ⟨#[]⟩⟩)
          unfold TitV.cs at HOn
          have HQ := Lib.hid (show r = ⟨0, 0, 0, ⟨#[]⟩⟩ from by rw [HTL.out]; unfold rtail; rw [if_neg (fun h => by rw [hmb] at h; cases h.2.2), if_neg (fun h => by rw [hxb] at h; cases h.2)])
          go_wp2_with (refine st_agg 157 rfl (.tmp 2) (.tmp 82) rfl w.heap.size [.int .i64 0, .int .i64 0, .int .i64 0, .string ⟨#[]⟩] [.int .i64 0, .int .i64 0, .int .i64 0, .string ⟨#[]⟩] rfl rfl info_rtt rfl HOn.out HK2.out HX2.out hle ?_; intro wz kz Xz gz)
          (try simp only [Exit.inBlock, Exit.then])
          refine bodyPost_ret (ret_agg1 rfl _ _ w.heap.size [.int .i64 0, .int .i64 0, .int .i64 0, .string ⟨#[]⟩] rfl kz Tryz.underlying157 info_rtt) rfl ?_
          rw [HQ.out]
          exact ⟨rfl, Xz⟩
        have HOn := Lib.hid (TitV.one ⟨4, 0, 0, s.extract 2 s.size⟩)
        unfold TitV.cs at HOn
        have HQ := Lib.hid (show r = ⟨4, 0, 0, s.extract 2 s.size⟩ from by rw [HTL.out]; unfold rtail; rw [if_neg (fun h => by rw [hmb] at h; cases h.2.2), if_pos ⟨h2, hxb⟩])
        go_wp2_with (refine st_agg 157 rfl (.tmp 2) (.tmp 81) rfl w.heap.size [.int .i64 0, .int .i64 0, .int .i64 0, .string ⟨#[]⟩] [.int .i64 4, .int .i64 0, .int .i64 0, .string (s.extract 2 s.size)] rfl rfl info_rtt rfl HOn.out HK2.out HX2.out hle ?_; intro wz kz Xz gz)
        (try simp only [Exit.inBlock, Exit.then])
        refine bodyPost_ret (ret_agg1 rfl _ _ w.heap.size [.int .i64 4, .int .i64 0, .int .i64 0, .string (s.extract 2 s.size)] rfl kz Tryz.underlying157 info_rtt) rfl ?_
        rw [HQ.out]
        exact ⟨rfl, Xz⟩
      have HOn := Lib.hid (TitV.one ⟨3, 0, 0, ⟨#[]⟩⟩)
      unfold TitV.cs at HOn
      have HQ := Lib.hid (show r = ⟨3, 0, 0, ⟨#[]⟩⟩ from by rw [HTL.out]; unfold rtail; rw [if_pos ⟨h4, heb, hmb⟩])
      go_wp2_with (refine st_agg 157 rfl (.tmp 2) (.tmp 68) rfl w.heap.size [.int .i64 0, .int .i64 0, .int .i64 0, .string ⟨#[]⟩] [.int .i64 3, .int .i64 0, .int .i64 0, .string ⟨#[]⟩] rfl rfl info_rtt rfl HOn.out HK1.out HX1.out hle ?_; intro wz kz Xz gz)
      (try simp only [Exit.inBlock, Exit.then])
      refine bodyPost_ret (ret_agg1 rfl _ _ w.heap.size [.int .i64 3, .int .i64 0, .int .i64 0, .string ⟨#[]⟩] rfl kz Tryz.underlying157 info_rtt) rfl ?_
      rw [HQ.out]
      exact ⟨rfl, Xz⟩
    case pos =>
      have d12 : decide ((s.size : Int) = 12) = false := decide_eq_false (by omega)
      have e12 : ((s.size : Int) == 12) = false := beq_eq_false_iff_ne.2 (by omega)
      have d15 : decide ((s.size : Int) = 15) = true := decide_eq_true (by omega)
      have e15 : ((s.size : Int) == 15) = true := beq_iff_eq.2 (by omega)
      have hl10 : (10 : Int) ≤ (s.size : Int) := by omega
      have hl11 : (11 : Int) ≤ (s.size : Int) := by omega
      have hT : r = if (numP (s.extract 4 10)).2 = true ∧ (numP (s.extract 11 s.size)).2 = true ∧ ((ofLogS (numP (s.extract 4 10)).1.toNat (numP (s.extract 11 s.size)).1.toNat).toList == s.toList) = true then ⟨2, (numP (s.extract 4 10)).1, (numP (s.extract 11 s.size)).1, ⟨#[]⟩⟩ else rtail s := by
        rw [HR.out]
        unfold rtitS
        rw [if_neg (fun h => h12 h.1), show s.extract 11 s.size = s.extract 11 15 from by rw [h15]]
        by_cases hc : (numP (s.extract 4 10)).2 = true ∧ (numP (s.extract 11 15)).2 = true ∧ ((ofLogS (numP (s.extract 4 10)).1.toNat (numP (s.extract 11 15)).1.toNat).toList == s.toList) = true
        · rw [if_pos ⟨h15, hc⟩, if_pos hc]
        · rw [if_neg (fun h => hc h.2), if_neg hc]
      clear h12 h15 HR
      have hP4 := fun w => rparse_calls (s.extract 4 10) w
      have hP11 := fun w => rparse_calls (s.extract 11 s.size) w
      obtain ⟨n1, n2⟩ := numP_nat (s.extract 4 10)
      obtain ⟨m1, m2⟩ := numP_nat (s.extract 11 s.size)
      obtain ⟨n, hn⟩ : ∃ n, (numP (s.extract 4 10)).1.toNat = n := ⟨_, rfl⟩
      obtain ⟨m, hm⟩ : ∃ n, (numP (s.extract 11 s.size)).1.toNat = n := ⟨_, rfl⟩
      obtain ⟨ok, hok⟩ : ∃ b, (numP (s.extract 4 10)).2 = b := ⟨_, rfl⟩
      obtain ⟨fine, hfi⟩ : ∃ b, (numP (s.extract 11 s.size)).2 = b := ⟨_, rfl⟩
      rw [hn] at n1 n2
      rw [hm] at m1 m2
      rw [n1, hok] at hP4
      rw [m1, hfi] at hP11
      rw [hn, hm, hok, hfi, n1, m1] at hT
      have HP4 := Lib.hid hP4
      have HP11 := Lib.hid hP11
      have HT := Lib.hid hT
      have HOL := Lib.hid (fun w => roflog_calls n m w (by omega) (by omega))
      clear hP4 hP11 hT hn hm hok hfi n1 m1
      cases ok
      case false =>
        have HTL := Lib.hid (show r = rtail s from by rw [HT.out]; rw [if_neg (fun h => by cases h.1)])
        go_enter Tryz.func103, Tryz.ntmps103
        go_wp2_with fail
        refine (HP4.out _).mono ?_
        rintro e w1 ⟨rfl, hb⟩
        have HK1 := Lib.hid (HK0.out.ex hb)
        have HX1 := Lib.hid (HX0.out.trans hb)
        clear hb
        go_wp2_with fail
        refine (HP11.out _).mono ?_
        rintro e w2 ⟨rfl, hb⟩
        have HK2 := Lib.hid (HK1.out.ex hb)
        have HX2 := Lib.hid (HX1.out.trans hb)
        clear hb
        have h4 : 4 ≤ s.size := by omega
        have d4 : decide ((4 : Int) ≤ (s.size : Int)) = true := decide_eq_true (by omega)
        have hl4 : (4 : Int) ≤ (s.size : Int) := by omega
        cases heb : ((s.extract 0 4).toList == [116, 109, 112, 45])
        case false =>
          have h2 : 2 < s.size := by omega
          have d2 : decide ((2 : Int) < (s.size : Int)) = true := decide_eq_true (by omega)
          have hl2 : (2 : Int) ≤ (s.size : Int) := by omega
          go_wp2_with fail
          refine (HX9.out _).mono ?_
          rintro e w3 ⟨rfl, hb⟩
          have HK3 := Lib.hid (HK2.out.ex hb)
          have HX3 := Lib.hid (HX2.out.trans hb)
          clear hb
          cases hxb : ((expS (s.extract 2 s.size)).toList == s.toList)
          case false =>
            have HOn := Lib.hid (TitV.one ⟨0, 0, 0, ⟨#[]⟩⟩)
            unfold TitV.cs at HOn
            have HQ := Lib.hid (show r = ⟨0, 0, 0, ⟨#[]⟩⟩ from by rw [HTL.out]; unfold rtail; rw [if_neg (fun h => by rw [heb] at h; cases h.2.1), if_neg (fun h => by rw [hxb] at h; cases h.2)])
            go_wp2_with (refine st_agg 157 rfl (.tmp 2) (.tmp 82) rfl w.heap.size [.int .i64 0, .int .i64 0, .int .i64 0, .string ⟨#[]⟩] [.int .i64 0, .int .i64 0, .int .i64 0, .string ⟨#[]⟩] rfl rfl info_rtt rfl HOn.out HK3.out HX3.out hle ?_; intro wz kz Xz gz)
            (try simp only [Exit.inBlock, Exit.then])
            refine bodyPost_ret (ret_agg1 rfl _ _ w.heap.size [.int .i64 0, .int .i64 0, .int .i64 0, .string ⟨#[]⟩] rfl kz Tryz.underlying157 info_rtt) rfl ?_
            rw [HQ.out]
            exact ⟨rfl, Xz⟩
          have HOn := Lib.hid (TitV.one ⟨4, 0, 0, s.extract 2 s.size⟩)
          unfold TitV.cs at HOn
          have HQ := Lib.hid (show r = ⟨4, 0, 0, s.extract 2 s.size⟩ from by rw [HTL.out]; unfold rtail; rw [if_neg (fun h => by rw [heb] at h; cases h.2.1), if_pos ⟨h2, hxb⟩])
          go_wp2_with (refine st_agg 157 rfl (.tmp 2) (.tmp 81) rfl w.heap.size [.int .i64 0, .int .i64 0, .int .i64 0, .string ⟨#[]⟩] [.int .i64 4, .int .i64 0, .int .i64 0, .string (s.extract 2 s.size)] rfl rfl info_rtt rfl HOn.out HK3.out HX3.out hle ?_; intro wz kz Xz gz)
          (try simp only [Exit.inBlock, Exit.then])
          refine bodyPost_ret (ret_agg1 rfl _ _ w.heap.size [.int .i64 4, .int .i64 0, .int .i64 0, .string (s.extract 2 s.size)] rfl kz Tryz.underlying157 info_rtt) rfl ?_
          rw [HQ.out]
          exact ⟨rfl, Xz⟩
        go_wp2_with fail
        refine (HM.out _).mono ?_
        rintro e w3 ⟨rfl, hb⟩
        have HK3 := Lib.hid (HK2.out.ex hb)
        have HX3 := Lib.hid (HX2.out.trans hb)
        clear hb
        cases hmb : mayB s
        case false =>
          have h2 : 2 < s.size := by omega
          have d2 : decide ((2 : Int) < (s.size : Int)) = true := decide_eq_true (by omega)
          have hl2 : (2 : Int) ≤ (s.size : Int) := by omega
          go_wp2_with fail
          refine (HX9.out _).mono ?_
          rintro e w4 ⟨rfl, hb⟩
          have HK4 := Lib.hid (HK3.out.ex hb)
          have HX4 := Lib.hid (HX3.out.trans hb)
          clear hb
          cases hxb : ((expS (s.extract 2 s.size)).toList == s.toList)
          case false =>
            have HOn := Lib.hid (TitV.one ⟨0, 0, 0, ⟨#[]⟩⟩)
            unfold TitV.cs at HOn
            have HQ := Lib.hid (show r = ⟨0, 0, 0, ⟨#[]⟩⟩ from by rw [HTL.out]; unfold rtail; rw [if_neg (fun h => by rw [hmb] at h; cases h.2.2), if_neg (fun h => by rw [hxb] at h; cases h.2)])
            go_wp2_with (refine st_agg 157 rfl (.tmp 2) (.tmp 82) rfl w.heap.size [.int .i64 0, .int .i64 0, .int .i64 0, .string ⟨#[]⟩] [.int .i64 0, .int .i64 0, .int .i64 0, .string ⟨#[]⟩] rfl rfl info_rtt rfl HOn.out HK4.out HX4.out hle ?_; intro wz kz Xz gz)
            (try simp only [Exit.inBlock, Exit.then])
            refine bodyPost_ret (ret_agg1 rfl _ _ w.heap.size [.int .i64 0, .int .i64 0, .int .i64 0, .string ⟨#[]⟩] rfl kz Tryz.underlying157 info_rtt) rfl ?_
            rw [HQ.out]
            exact ⟨rfl, Xz⟩
          have HOn := Lib.hid (TitV.one ⟨4, 0, 0, s.extract 2 s.size⟩)
          unfold TitV.cs at HOn
          have HQ := Lib.hid (show r = ⟨4, 0, 0, s.extract 2 s.size⟩ from by rw [HTL.out]; unfold rtail; rw [if_neg (fun h => by rw [hmb] at h; cases h.2.2), if_pos ⟨h2, hxb⟩])
          go_wp2_with (refine st_agg 157 rfl (.tmp 2) (.tmp 81) rfl w.heap.size [.int .i64 0, .int .i64 0, .int .i64 0, .string ⟨#[]⟩] [.int .i64 4, .int .i64 0, .int .i64 0, .string (s.extract 2 s.size)] rfl rfl info_rtt rfl HOn.out HK4.out HX4.out hle ?_; intro wz kz Xz gz)
          (try simp only [Exit.inBlock, Exit.then])
          refine bodyPost_ret (ret_agg1 rfl _ _ w.heap.size [.int .i64 4, .int .i64 0, .int .i64 0, .string (s.extract 2 s.size)] rfl kz Tryz.underlying157 info_rtt) rfl ?_
          rw [HQ.out]
          exact ⟨rfl, Xz⟩
        have HOn := Lib.hid (TitV.one ⟨3, 0, 0, ⟨#[]⟩⟩)
        unfold TitV.cs at HOn
        have HQ := Lib.hid (show r = ⟨3, 0, 0, ⟨#[]⟩⟩ from by rw [HTL.out]; unfold rtail; rw [if_pos ⟨h4, heb, hmb⟩])
        go_wp2_with (refine st_agg 157 rfl (.tmp 2) (.tmp 68) rfl w.heap.size [.int .i64 0, .int .i64 0, .int .i64 0, .string ⟨#[]⟩] [.int .i64 3, .int .i64 0, .int .i64 0, .string ⟨#[]⟩] rfl rfl info_rtt rfl HOn.out HK3.out HX3.out hle ?_; intro wz kz Xz gz)
        (try simp only [Exit.inBlock, Exit.then])
        refine bodyPost_ret (ret_agg1 rfl _ _ w.heap.size [.int .i64 3, .int .i64 0, .int .i64 0, .string ⟨#[]⟩] rfl kz Tryz.underlying157 info_rtt) rfl ?_
        rw [HQ.out]
        exact ⟨rfl, Xz⟩
      cases fine
      case false =>
        have HTL := Lib.hid (show r = rtail s from by rw [HT.out]; rw [if_neg (fun h => by cases h.2.1)])
        go_enter Tryz.func103, Tryz.ntmps103
        go_wp2_with fail
        refine (HP4.out _).mono ?_
        rintro e w1 ⟨rfl, hb⟩
        have HK1 := Lib.hid (HK0.out.ex hb)
        have HX1 := Lib.hid (HX0.out.trans hb)
        clear hb
        go_wp2_with fail
        refine (HP11.out _).mono ?_
        rintro e w2 ⟨rfl, hb⟩
        have HK2 := Lib.hid (HK1.out.ex hb)
        have HX2 := Lib.hid (HX1.out.trans hb)
        clear hb
        have h4 : 4 ≤ s.size := by omega
        have d4 : decide ((4 : Int) ≤ (s.size : Int)) = true := decide_eq_true (by omega)
        have hl4 : (4 : Int) ≤ (s.size : Int) := by omega
        cases heb : ((s.extract 0 4).toList == [116, 109, 112, 45])
        case false =>
          have h2 : 2 < s.size := by omega
          have d2 : decide ((2 : Int) < (s.size : Int)) = true := decide_eq_true (by omega)
          have hl2 : (2 : Int) ≤ (s.size : Int) := by omega
          go_wp2_with fail
          refine (HX9.out _).mono ?_
          rintro e w3 ⟨rfl, hb⟩
          have HK3 := Lib.hid (HK2.out.ex hb)
          have HX3 := Lib.hid (HX2.out.trans hb)
          clear hb
          cases hxb : ((expS (s.extract 2 s.size)).toList == s.toList)
          case false =>
            have HOn := Lib.hid (TitV.one ⟨0, 0, 0, ⟨#[]⟩⟩)
            unfold TitV.cs at HOn
            have HQ := Lib.hid (show r = ⟨0, 0, 0, ⟨#[]⟩⟩ from by rw [HTL.out]; unfold rtail; rw [if_neg (fun h => by rw [heb] at h; cases h.2.1), if_neg (fun h => by rw [hxb] at h; cases h.2)])
            go_wp2_with (refine st_agg 157 rfl (.tmp 2) (.tmp 82) rfl w.heap.size [.int .i64 0, .int .i64 0, .int .i64 0, .string ⟨#[]⟩] [.int .i64 0, .int .i64 0, .int .i64 0, .string ⟨#[]⟩] rfl rfl info_rtt rfl HOn.out HK3.out HX3.out hle ?_; intro wz kz Xz gz)
            (try simp only [Exit.inBlock, Exit.then])
            refine bodyPost_ret (ret_agg1 rfl _ _ w.heap.size [.int .i64 0, .int .i64 0, .int .i64 0, .string ⟨#[]⟩] rfl kz Tryz.underlying157 info_rtt) rfl ?_
            rw [HQ.out]
            exact ⟨rfl, Xz⟩
          have HOn := Lib.hid (TitV.one ⟨4, 0, 0, s.extract 2 s.size⟩)
          unfold TitV.cs at HOn
          have HQ := Lib.hid (show r = ⟨4, 0, 0, s.extract 2 s.size⟩ from by rw [HTL.out]; unfold rtail; rw [if_neg (fun h => by rw [heb] at h; cases h.2.1), if_pos ⟨h2, hxb⟩])
          go_wp2_with (refine st_agg 157 rfl (.tmp 2) (.tmp 81) rfl w.heap.size [.int .i64 0, .int .i64 0, .int .i64 0, .string ⟨#[]⟩] [.int .i64 4, .int .i64 0, .int .i64 0, .string (s.extract 2 s.size)] rfl rfl info_rtt rfl HOn.out HK3.out HX3.out hle ?_; intro wz kz Xz gz)
          (try simp only [Exit.inBlock, Exit.then])
          refine bodyPost_ret (ret_agg1 rfl _ _ w.heap.size [.int .i64 4, .int .i64 0, .int .i64 0, .string (s.extract 2 s.size)] rfl kz Tryz.underlying157 info_rtt) rfl ?_
          rw [HQ.out]
          exact ⟨rfl, Xz⟩
        go_wp2_with fail
        refine (HM.out _).mono ?_
        rintro e w3 ⟨rfl, hb⟩
        have HK3 := Lib.hid (HK2.out.ex hb)
        have HX3 := Lib.hid (HX2.out.trans hb)
        clear hb
        cases hmb : mayB s
        case false =>
          have h2 : 2 < s.size := by omega
          have d2 : decide ((2 : Int) < (s.size : Int)) = true := decide_eq_true (by omega)
          have hl2 : (2 : Int) ≤ (s.size : Int) := by omega
          go_wp2_with fail
          refine (HX9.out _).mono ?_
          rintro e w4 ⟨rfl, hb⟩
          have HK4 := Lib.hid (HK3.out.ex hb)
          have HX4 := Lib.hid (HX3.out.trans hb)
          clear hb
          cases hxb : ((expS (s.extract 2 s.size)).toList == s.toList)
          case false =>
            have HOn := Lib.hid (TitV.one ⟨0, 0, 0, ⟨#[]⟩⟩)
            unfold TitV.cs at HOn
            have HQ := Lib.hid (show r = ⟨0, 0, 0, ⟨#[]⟩⟩ from by rw [HTL.out]; unfold rtail; rw [if_neg (fun h => by rw [hmb] at h; cases h.2.2), if_neg (fun h => by rw [hxb] at h; cases h.2)])
            go_wp2_with (refine st_agg 157 rfl (.tmp 2) (.tmp 82) rfl w.heap.size [.int .i64 0, .int .i64 0, .int .i64 0, .string ⟨#[]⟩] [.int .i64 0, .int .i64 0, .int .i64 0, .string ⟨#[]⟩] rfl rfl info_rtt rfl HOn.out HK4.out HX4.out hle ?_; intro wz kz Xz gz)
            (try simp only [Exit.inBlock, Exit.then])
            refine bodyPost_ret (ret_agg1 rfl _ _ w.heap.size [.int .i64 0, .int .i64 0, .int .i64 0, .string ⟨#[]⟩] rfl kz Tryz.underlying157 info_rtt) rfl ?_
            rw [HQ.out]
            exact ⟨rfl, Xz⟩
          have HOn := Lib.hid (TitV.one ⟨4, 0, 0, s.extract 2 s.size⟩)
          unfold TitV.cs at HOn
          have HQ := Lib.hid (show r = ⟨4, 0, 0, s.extract 2 s.size⟩ from by rw [HTL.out]; unfold rtail; rw [if_neg (fun h => by rw [hmb] at h; cases h.2.2), if_pos ⟨h2, hxb⟩])
          go_wp2_with (refine st_agg 157 rfl (.tmp 2) (.tmp 81) rfl w.heap.size [.int .i64 0, .int .i64 0, .int .i64 0, .string ⟨#[]⟩] [.int .i64 4, .int .i64 0, .int .i64 0, .string (s.extract 2 s.size)] rfl rfl info_rtt rfl HOn.out HK4.out HX4.out hle ?_; intro wz kz Xz gz)
          (try simp only [Exit.inBlock, Exit.then])
          refine bodyPost_ret (ret_agg1 rfl _ _ w.heap.size [.int .i64 4, .int .i64 0, .int .i64 0, .string (s.extract 2 s.size)] rfl kz Tryz.underlying157 info_rtt) rfl ?_
          rw [HQ.out]
          exact ⟨rfl, Xz⟩
        have HOn := Lib.hid (TitV.one ⟨3, 0, 0, ⟨#[]⟩⟩)
        unfold TitV.cs at HOn
        have HQ := Lib.hid (show r = ⟨3, 0, 0, ⟨#[]⟩⟩ from by rw [HTL.out]; unfold rtail; rw [if_pos ⟨h4, heb, hmb⟩])
        go_wp2_with (refine st_agg 157 rfl (.tmp 2) (.tmp 68) rfl w.heap.size [.int .i64 0, .int .i64 0, .int .i64 0, .string ⟨#[]⟩] [.int .i64 3, .int .i64 0, .int .i64 0, .string ⟨#[]⟩] rfl rfl info_rtt rfl HOn.out HK3.out HX3.out hle ?_; intro wz kz Xz gz)
        (try simp only [Exit.inBlock, Exit.then])
        refine bodyPost_ret (ret_agg1 rfl _ _ w.heap.size [.int .i64 3, .int .i64 0, .int .i64 0, .string ⟨#[]⟩] rfl kz Tryz.underlying157 info_rtt) rfl ?_
        rw [HQ.out]
        exact ⟨rfl, Xz⟩
      go_enter Tryz.func103, Tryz.ntmps103
      go_wp2_with fail
      refine (HP4.out _).mono ?_
      rintro e w1 ⟨rfl, hb⟩
      have HK1 := Lib.hid (HK0.out.ex hb)
      have HX1 := Lib.hid (HX0.out.trans hb)
      clear hb
      go_wp2_with fail
      refine (HP11.out _).mono ?_
      rintro e w2 ⟨rfl, hb⟩
      have HK2 := Lib.hid (HK1.out.ex hb)
      have HX2 := Lib.hid (HX1.out.trans hb)
      clear hb
      go_wp2_with fail
      refine (HOL.out _).mono ?_
      rintro e w3 ⟨rfl, hb⟩
      have HK3 := Lib.hid (HK2.out.ex hb)
      have HX3 := Lib.hid (HX2.out.trans hb)
      clear hb
      cases hql : ((ofLogS n m).toList == s.toList)
      case false =>
        have HTL := Lib.hid (show r = rtail s from by rw [HT.out]; rw [if_neg (fun h => by rw [hql] at h; cases h.2.2)])
        have h4 : 4 ≤ s.size := by omega
        have d4 : decide ((4 : Int) ≤ (s.size : Int)) = true := decide_eq_true (by omega)
        have hl4 : (4 : Int) ≤ (s.size : Int) := by omega
        cases heb : ((s.extract 0 4).toList == [116, 109, 112, 45])
        case false =>
          have h2 : 2 < s.size := by omega
          have d2 : decide ((2 : Int) < (s.size : Int)) = true := decide_eq_true (by omega)
          have hl2 : (2 : Int) ≤ (s.size : Int) := by omega
          go_wp2_with fail
          refine (HX9.out _).mono ?_
          rintro e w4 ⟨rfl, hb⟩
          have HK4 := Lib.hid (HK3.out.ex hb)
          have HX4 := Lib.hid (HX3.out.trans hb)
          clear hb
          cases hxb : ((expS (s.extract 2 s.size)).toList == s.toList)
          case false =>
            have HOn := Lib.hid (TitV.one ⟨0, 0, 0, ⟨#[]⟩⟩)
            unfold TitV.cs at HOn
            have HQ := Lib.hid (show r = ⟨0, 0, 0, ⟨#[]⟩⟩ from by rw [HTL.out]; unfold rtail; rw [if_neg (fun h => by rw [heb] at h; cases h.2.1), if_neg (fun h => by rw [hxb] at h; cases h.2)])
            go_wp2_with (refine st_agg 157 rfl (.tmp 2) (.tmp 82) rfl w.heap.size [.int .i64 0, .int .i64 0, .int .i64 0, .string ⟨#[]⟩] [.int .i64 0, .int .i64 0, .int .i64 0, .string ⟨#[]⟩] rfl rfl info_rtt rfl HOn.out HK4.out HX4.out hle ?_; intro wz kz Xz gz)
            (try simp only [Exit.inBlock, Exit.then])
            refine bodyPost_ret (ret_agg1 rfl _ _ w.heap.size [.int .i64 0, .int .i64 0, .int .i64 0, .string ⟨#[]⟩] rfl kz Tryz.underlying157 info_rtt) rfl ?_
            rw [HQ.out]
            exact ⟨rfl, Xz⟩
          have HOn := Lib.hid (TitV.one ⟨4, 0, 0, s.extract 2 s.size⟩)
          unfold TitV.cs at HOn
          have HQ := Lib.hid (show r = ⟨4, 0, 0, s.extract 2 s.size⟩ from by rw [HTL.out]; unfold rtail; rw [if_neg (fun h => by rw [heb] at h; cases h.2.1), if_pos ⟨h2, hxb⟩])
          go_wp2_with (refine st_agg 157 rfl (.tmp 2) (.tmp 81) rfl w.heap.size [.int .i64 0, .int .i64 0, .int .i64 0, .string ⟨#[]⟩] [.int .i64 4, .int .i64 0, .int .i64 0, .string (s.extract 2 s.size)] rfl rfl info_rtt rfl HOn.out HK4.out HX4.out hle ?_; intro wz kz Xz gz)
          (try simp only [Exit.inBlock, Exit.then])
          refine bodyPost_ret (ret_agg1 rfl _ _ w.heap.size [.int .i64 4, .int .i64 0, .int .i64 0, .string (s.extract 2 s.size)] rfl kz Tryz.underlying157 info_rtt) rfl ?_
          rw [HQ.out]
          exact ⟨rfl, Xz⟩
        go_wp2_with fail
        refine (HM.out _).mono ?_
        rintro e w4 ⟨rfl, hb⟩
        have HK4 := Lib.hid (HK3.out.ex hb)
        have HX4 := Lib.hid (HX3.out.trans hb)
        clear hb
        cases hmb : mayB s
        case false =>
          have h2 : 2 < s.size := by omega
          have d2 : decide ((2 : Int) < (s.size : Int)) = true := decide_eq_true (by omega)
          have hl2 : (2 : Int) ≤ (s.size : Int) := by omega
          go_wp2_with fail
          refine (HX9.out _).mono ?_
          rintro e w5 ⟨rfl, hb⟩
          have HK5 := Lib.hid (HK4.out.ex hb)
          have HX5 := Lib.hid (HX4.out.trans hb)
          clear hb
          cases hxb : ((expS (s.extract 2 s.size)).toList == s.toList)
          case false =>
            have HOn := Lib.hid (TitV.one ⟨0, 0, 0, ⟨#[]⟩⟩)
            unfold TitV.cs at HOn
            have HQ := Lib.hid (show r = ⟨0, 0, 0, ⟨#[]⟩⟩ from by rw [HTL.out]; unfold rtail; rw [if_neg (fun h => by rw [hmb] at h; cases h.2.2), if_neg (fun h => by rw [hxb] at h; cases h.2)])
            go_wp2_with (refine st_agg 157 rfl (.tmp 2) (.tmp 82) rfl w.heap.size [.int .i64 0, .int .i64 0, .int .i64 0, .string ⟨#[]⟩] [.int .i64 0, .int .i64 0, .int .i64 0, .string ⟨#[]⟩] rfl rfl info_rtt rfl HOn.out HK5.out HX5.out hle ?_; intro wz kz Xz gz)
            (try simp only [Exit.inBlock, Exit.then])
            refine bodyPost_ret (ret_agg1 rfl _ _ w.heap.size [.int .i64 0, .int .i64 0, .int .i64 0, .string ⟨#[]⟩] rfl kz Tryz.underlying157 info_rtt) rfl ?_
            rw [HQ.out]
            exact ⟨rfl, Xz⟩
          have HOn := Lib.hid (TitV.one ⟨4, 0, 0, s.extract 2 s.size⟩)
          unfold TitV.cs at HOn
          have HQ := Lib.hid (show r = ⟨4, 0, 0, s.extract 2 s.size⟩ from by rw [HTL.out]; unfold rtail; rw [if_neg (fun h => by rw [hmb] at h; cases h.2.2), if_pos ⟨h2, hxb⟩])
          go_wp2_with (refine st_agg 157 rfl (.tmp 2) (.tmp 81) rfl w.heap.size [.int .i64 0, .int .i64 0, .int .i64 0, .string ⟨#[]⟩] [.int .i64 4, .int .i64 0, .int .i64 0, .string (s.extract 2 s.size)] rfl rfl info_rtt rfl HOn.out HK5.out HX5.out hle ?_; intro wz kz Xz gz)
          (try simp only [Exit.inBlock, Exit.then])
          refine bodyPost_ret (ret_agg1 rfl _ _ w.heap.size [.int .i64 4, .int .i64 0, .int .i64 0, .string (s.extract 2 s.size)] rfl kz Tryz.underlying157 info_rtt) rfl ?_
          rw [HQ.out]
          exact ⟨rfl, Xz⟩
        have HOn := Lib.hid (TitV.one ⟨3, 0, 0, ⟨#[]⟩⟩)
        unfold TitV.cs at HOn
        have HQ := Lib.hid (show r = ⟨3, 0, 0, ⟨#[]⟩⟩ from by rw [HTL.out]; unfold rtail; rw [if_pos ⟨h4, heb, hmb⟩])
        go_wp2_with (refine st_agg 157 rfl (.tmp 2) (.tmp 68) rfl w.heap.size [.int .i64 0, .int .i64 0, .int .i64 0, .string ⟨#[]⟩] [.int .i64 3, .int .i64 0, .int .i64 0, .string ⟨#[]⟩] rfl rfl info_rtt rfl HOn.out HK4.out HX4.out hle ?_; intro wz kz Xz gz)
        (try simp only [Exit.inBlock, Exit.then])
        refine bodyPost_ret (ret_agg1 rfl _ _ w.heap.size [.int .i64 3, .int .i64 0, .int .i64 0, .string ⟨#[]⟩] rfl kz Tryz.underlying157 info_rtt) rfl ?_
        rw [HQ.out]
        exact ⟨rfl, Xz⟩
      have HOn := Lib.hid (TitV.one ⟨2, n, m, ⟨#[]⟩⟩)
      unfold TitV.cs at HOn
      have HQ := Lib.hid (show r = ⟨2, n, m, ⟨#[]⟩⟩ from by rw [HT.out]; exact if_pos (by first | exact ⟨rfl, rfl, hql⟩ | simp [hql]))
      go_wp2_with (refine st_agg 157 rfl (.tmp 2) (.tmp 55) rfl w.heap.size [.int .i64 0, .int .i64 0, .int .i64 0, .string ⟨#[]⟩] [.int .i64 2, .int .i64 (n : Int), .int .i64 (m : Int), .string ⟨#[]⟩] rfl rfl info_rtt rfl HOn.out HK3.out HX3.out hle ?_; intro wz kz Xz gz)
      (try simp only [Exit.inBlock, Exit.then])
      refine bodyPost_ret (ret_agg1 rfl _ _ w.heap.size [.int .i64 2, .int .i64 (n : Int), .int .i64 (m : Int), .string ⟨#[]⟩] rfl kz Tryz.underlying157 info_rtt) rfl ?_
      rw [HQ.out]
      exact ⟨rfl, Xz⟩
  case pos =>
    have d12 : decide ((s.size : Int) = 12) = true := decide_eq_true (by omega)
    have e12 : ((s.size : Int) == 12) = true := beq_iff_eq.2 (by omega)
    have d15 : decide ((s.size : Int) = 15) = false := decide_eq_false (by omega)
    have e15 : ((s.size : Int) == 15) = false := beq_eq_false_iff_ne.2 (by omega)
    have hl6 : (6 : Int) ≤ (s.size : Int) := by omega
    have hT : r = if (numP (s.extract 6 s.size)).2 = true ∧ ((ofChkS (numP (s.extract 6 s.size)).1.toNat).toList == s.toList) = true then ⟨1, (numP (s.extract 6 s.size)).1, 0, ⟨#[]⟩⟩ else rtail s := by
      rw [HR.out]
      unfold rtitS
      rw [show s.extract 6 s.size = s.extract 6 12 from by rw [h12]]
      by_cases hc : (numP (s.extract 6 12)).2 = true ∧ ((ofChkS (numP (s.extract 6 12)).1.toNat).toList == s.toList) = true
      · rw [if_pos ⟨h12, hc⟩, if_pos hc]
      · rw [if_neg (fun h => hc h.2), if_neg hc, if_neg (fun h => by have := h.1; omega)]
    clear h12 HR
    have hP6 := fun w => rparse_calls (s.extract 6 s.size) w
    obtain ⟨n1, n2⟩ := numP_nat (s.extract 6 s.size)
    obtain ⟨n, hn⟩ : ∃ n, (numP (s.extract 6 s.size)).1.toNat = n := ⟨_, rfl⟩
    obtain ⟨ok, hok⟩ : ∃ b, (numP (s.extract 6 s.size)).2 = b := ⟨_, rfl⟩
    rw [hn] at n1 n2
    rw [n1, hok] at hP6
    rw [hn, hok, n1] at hT
    have HP6 := Lib.hid hP6
    have HT := Lib.hid hT
    have HOC := Lib.hid (fun w => rofcheck_calls n w (by omega))
    clear hP6 hT hn hok n1
    cases ok
    case false =>
      have HTL := Lib.hid (show r = rtail s from by rw [HT.out]; rw [if_neg (fun h => by cases h.1)])
      go_enter Tryz.func103, Tryz.ntmps103
      go_wp2_with fail
      refine (HP6.out _).mono ?_
      rintro e w1 ⟨rfl, hb⟩
      have HK1 := Lib.hid (HK0.out.ex hb)
      have HX1 := Lib.hid (HX0.out.trans hb)
      clear hb
      have h4 : 4 ≤ s.size := by omega
      have d4 : decide ((4 : Int) ≤ (s.size : Int)) = true := decide_eq_true (by omega)
      have hl4 : (4 : Int) ≤ (s.size : Int) := by omega
      cases heb : ((s.extract 0 4).toList == [116, 109, 112, 45])
      case false =>
        have h2 : 2 < s.size := by omega
        have d2 : decide ((2 : Int) < (s.size : Int)) = true := decide_eq_true (by omega)
        have hl2 : (2 : Int) ≤ (s.size : Int) := by omega
        go_wp2_with fail
        refine (HX9.out _).mono ?_
        rintro e w2 ⟨rfl, hb⟩
        have HK2 := Lib.hid (HK1.out.ex hb)
        have HX2 := Lib.hid (HX1.out.trans hb)
        clear hb
        cases hxb : ((expS (s.extract 2 s.size)).toList == s.toList)
        case false =>
          have HOn := Lib.hid (TitV.one ⟨0, 0, 0, ⟨#[]⟩⟩)
          unfold TitV.cs at HOn
          have HQ := Lib.hid (show r = ⟨0, 0, 0, ⟨#[]⟩⟩ from by rw [HTL.out]; unfold rtail; rw [if_neg (fun h => by rw [heb] at h; cases h.2.1), if_neg (fun h => by rw [hxb] at h; cases h.2)])
          go_wp2_with (refine st_agg 157 rfl (.tmp 2) (.tmp 82) rfl w.heap.size [.int .i64 0, .int .i64 0, .int .i64 0, .string ⟨#[]⟩] [.int .i64 0, .int .i64 0, .int .i64 0, .string ⟨#[]⟩] rfl rfl info_rtt rfl HOn.out HK2.out HX2.out hle ?_; intro wz kz Xz gz)
          (try simp only [Exit.inBlock, Exit.then])
          refine bodyPost_ret (ret_agg1 rfl _ _ w.heap.size [.int .i64 0, .int .i64 0, .int .i64 0, .string ⟨#[]⟩] rfl kz Tryz.underlying157 info_rtt) rfl ?_
          rw [HQ.out]
          exact ⟨rfl, Xz⟩
        have HOn := Lib.hid (TitV.one ⟨4, 0, 0, s.extract 2 s.size⟩)
        unfold TitV.cs at HOn
        have HQ := Lib.hid (show r = ⟨4, 0, 0, s.extract 2 s.size⟩ from by rw [HTL.out]; unfold rtail; rw [if_neg (fun h => by rw [heb] at h; cases h.2.1), if_pos ⟨h2, hxb⟩])
        go_wp2_with (refine st_agg 157 rfl (.tmp 2) (.tmp 81) rfl w.heap.size [.int .i64 0, .int .i64 0, .int .i64 0, .string ⟨#[]⟩] [.int .i64 4, .int .i64 0, .int .i64 0, .string (s.extract 2 s.size)] rfl rfl info_rtt rfl HOn.out HK2.out HX2.out hle ?_; intro wz kz Xz gz)
        (try simp only [Exit.inBlock, Exit.then])
        refine bodyPost_ret (ret_agg1 rfl _ _ w.heap.size [.int .i64 4, .int .i64 0, .int .i64 0, .string (s.extract 2 s.size)] rfl kz Tryz.underlying157 info_rtt) rfl ?_
        rw [HQ.out]
        exact ⟨rfl, Xz⟩
      go_wp2_with fail
      refine (HM.out _).mono ?_
      rintro e w2 ⟨rfl, hb⟩
      have HK2 := Lib.hid (HK1.out.ex hb)
      have HX2 := Lib.hid (HX1.out.trans hb)
      clear hb
      cases hmb : mayB s
      case false =>
        have h2 : 2 < s.size := by omega
        have d2 : decide ((2 : Int) < (s.size : Int)) = true := decide_eq_true (by omega)
        have hl2 : (2 : Int) ≤ (s.size : Int) := by omega
        go_wp2_with fail
        refine (HX9.out _).mono ?_
        rintro e w3 ⟨rfl, hb⟩
        have HK3 := Lib.hid (HK2.out.ex hb)
        have HX3 := Lib.hid (HX2.out.trans hb)
        clear hb
        cases hxb : ((expS (s.extract 2 s.size)).toList == s.toList)
        case false =>
          have HOn := Lib.hid (TitV.one ⟨0, 0, 0, ⟨#[]⟩⟩)
          unfold TitV.cs at HOn
          have HQ := Lib.hid (show r = ⟨0, 0, 0, ⟨#[]⟩⟩ from by rw [HTL.out]; unfold rtail; rw [if_neg (fun h => by rw [hmb] at h; cases h.2.2), if_neg (fun h => by rw [hxb] at h; cases h.2)])
          go_wp2_with (refine st_agg 157 rfl (.tmp 2) (.tmp 82) rfl w.heap.size [.int .i64 0, .int .i64 0, .int .i64 0, .string ⟨#[]⟩] [.int .i64 0, .int .i64 0, .int .i64 0, .string ⟨#[]⟩] rfl rfl info_rtt rfl HOn.out HK3.out HX3.out hle ?_; intro wz kz Xz gz)
          (try simp only [Exit.inBlock, Exit.then])
          refine bodyPost_ret (ret_agg1 rfl _ _ w.heap.size [.int .i64 0, .int .i64 0, .int .i64 0, .string ⟨#[]⟩] rfl kz Tryz.underlying157 info_rtt) rfl ?_
          rw [HQ.out]
          exact ⟨rfl, Xz⟩
        have HOn := Lib.hid (TitV.one ⟨4, 0, 0, s.extract 2 s.size⟩)
        unfold TitV.cs at HOn
        have HQ := Lib.hid (show r = ⟨4, 0, 0, s.extract 2 s.size⟩ from by rw [HTL.out]; unfold rtail; rw [if_neg (fun h => by rw [hmb] at h; cases h.2.2), if_pos ⟨h2, hxb⟩])
        go_wp2_with (refine st_agg 157 rfl (.tmp 2) (.tmp 81) rfl w.heap.size [.int .i64 0, .int .i64 0, .int .i64 0, .string ⟨#[]⟩] [.int .i64 4, .int .i64 0, .int .i64 0, .string (s.extract 2 s.size)] rfl rfl info_rtt rfl HOn.out HK3.out HX3.out hle ?_; intro wz kz Xz gz)
        (try simp only [Exit.inBlock, Exit.then])
        refine bodyPost_ret (ret_agg1 rfl _ _ w.heap.size [.int .i64 4, .int .i64 0, .int .i64 0, .string (s.extract 2 s.size)] rfl kz Tryz.underlying157 info_rtt) rfl ?_
        rw [HQ.out]
        exact ⟨rfl, Xz⟩
      have HOn := Lib.hid (TitV.one ⟨3, 0, 0, ⟨#[]⟩⟩)
      unfold TitV.cs at HOn
      have HQ := Lib.hid (show r = ⟨3, 0, 0, ⟨#[]⟩⟩ from by rw [HTL.out]; unfold rtail; rw [if_pos ⟨h4, heb, hmb⟩])
      go_wp2_with (refine st_agg 157 rfl (.tmp 2) (.tmp 68) rfl w.heap.size [.int .i64 0, .int .i64 0, .int .i64 0, .string ⟨#[]⟩] [.int .i64 3, .int .i64 0, .int .i64 0, .string ⟨#[]⟩] rfl rfl info_rtt rfl HOn.out HK2.out HX2.out hle ?_; intro wz kz Xz gz)
      (try simp only [Exit.inBlock, Exit.then])
      refine bodyPost_ret (ret_agg1 rfl _ _ w.heap.size [.int .i64 3, .int .i64 0, .int .i64 0, .string ⟨#[]⟩] rfl kz Tryz.underlying157 info_rtt) rfl ?_
      rw [HQ.out]
      exact ⟨rfl, Xz⟩
    go_enter Tryz.func103, Tryz.ntmps103
    go_wp2_with fail
    refine (HP6.out _).mono ?_
    rintro e w1 ⟨rfl, hb⟩
    have HK1 := Lib.hid (HK0.out.ex hb)
    have HX1 := Lib.hid (HX0.out.trans hb)
    clear hb
    go_wp2_with fail
    refine (HOC.out _).mono ?_
    rintro e w2 ⟨rfl, hb⟩
    have HK2 := Lib.hid (HK1.out.ex hb)
    have HX2 := Lib.hid (HX1.out.trans hb)
    clear hb
    cases hql : ((ofChkS n).toList == s.toList)
    case false =>
      have HTL := Lib.hid (show r = rtail s from by rw [HT.out]; rw [if_neg (fun h => by rw [hql] at h; cases h.2)])
      have h4 : 4 ≤ s.size := by omega
      have d4 : decide ((4 : Int) ≤ (s.size : Int)) = true := decide_eq_true (by omega)
      have hl4 : (4 : Int) ≤ (s.size : Int) := by omega
      cases heb : ((s.extract 0 4).toList == [116, 109, 112, 45])
      case false =>
        have h2 : 2 < s.size := by omega
        have d2 : decide ((2 : Int) < (s.size : Int)) = true := decide_eq_true (by omega)
        have hl2 : (2 : Int) ≤ (s.size : Int) := by omega
        go_wp2_with fail
        refine (HX9.out _).mono ?_
        rintro e w3 ⟨rfl, hb⟩
        have HK3 := Lib.hid (HK2.out.ex hb)
        have HX3 := Lib.hid (HX2.out.trans hb)
        clear hb
        cases hxb : ((expS (s.extract 2 s.size)).toList == s.toList)
        case false =>
          have HOn := Lib.hid (TitV.one ⟨0, 0, 0, ⟨#[]⟩⟩)
          unfold TitV.cs at HOn
          have HQ := Lib.hid (show r = ⟨0, 0, 0, ⟨#[]⟩⟩ from by rw [HTL.out]; unfold rtail; rw [if_neg (fun h => by rw [heb] at h; cases h.2.1), if_neg (fun h => by rw [hxb] at h; cases h.2)])
          go_wp2_with (refine st_agg 157 rfl (.tmp 2) (.tmp 82) rfl w.heap.size [.int .i64 0, .int .i64 0, .int .i64 0, .string ⟨#[]⟩] [.int .i64 0, .int .i64 0, .int .i64 0, .string ⟨#[]⟩] rfl rfl info_rtt rfl HOn.out HK3.out HX3.out hle ?_; intro wz kz Xz gz)
          (try simp only [Exit.inBlock, Exit.then])
          refine bodyPost_ret (ret_agg1 rfl _ _ w.heap.size [.int .i64 0, .int .i64 0, .int .i64 0, .string ⟨#[]⟩] rfl kz Tryz.underlying157 info_rtt) rfl ?_
          rw [HQ.out]
          exact ⟨rfl, Xz⟩
        have HOn := Lib.hid (TitV.one ⟨4, 0, 0, s.extract 2 s.size⟩)
        unfold TitV.cs at HOn
        have HQ := Lib.hid (show r = ⟨4, 0, 0, s.extract 2 s.size⟩ from by rw [HTL.out]; unfold rtail; rw [if_neg (fun h => by rw [heb] at h; cases h.2.1), if_pos ⟨h2, hxb⟩])
        go_wp2_with (refine st_agg 157 rfl (.tmp 2) (.tmp 81) rfl w.heap.size [.int .i64 0, .int .i64 0, .int .i64 0, .string ⟨#[]⟩] [.int .i64 4, .int .i64 0, .int .i64 0, .string (s.extract 2 s.size)] rfl rfl info_rtt rfl HOn.out HK3.out HX3.out hle ?_; intro wz kz Xz gz)
        (try simp only [Exit.inBlock, Exit.then])
        refine bodyPost_ret (ret_agg1 rfl _ _ w.heap.size [.int .i64 4, .int .i64 0, .int .i64 0, .string (s.extract 2 s.size)] rfl kz Tryz.underlying157 info_rtt) rfl ?_
        rw [HQ.out]
        exact ⟨rfl, Xz⟩
      go_wp2_with fail
      refine (HM.out _).mono ?_
      rintro e w3 ⟨rfl, hb⟩
      have HK3 := Lib.hid (HK2.out.ex hb)
      have HX3 := Lib.hid (HX2.out.trans hb)
      clear hb
      cases hmb : mayB s
      case false =>
        have h2 : 2 < s.size := by omega
        have d2 : decide ((2 : Int) < (s.size : Int)) = true := decide_eq_true (by omega)
        have hl2 : (2 : Int) ≤ (s.size : Int) := by omega
        go_wp2_with fail
        refine (HX9.out _).mono ?_
        rintro e w4 ⟨rfl, hb⟩
        have HK4 := Lib.hid (HK3.out.ex hb)
        have HX4 := Lib.hid (HX3.out.trans hb)
        clear hb
        cases hxb : ((expS (s.extract 2 s.size)).toList == s.toList)
        case false =>
          have HOn := Lib.hid (TitV.one ⟨0, 0, 0, ⟨#[]⟩⟩)
          unfold TitV.cs at HOn
          have HQ := Lib.hid (show r = ⟨0, 0, 0, ⟨#[]⟩⟩ from by rw [HTL.out]; unfold rtail; rw [if_neg (fun h => by rw [hmb] at h; cases h.2.2), if_neg (fun h => by rw [hxb] at h; cases h.2)])
          go_wp2_with (refine st_agg 157 rfl (.tmp 2) (.tmp 82) rfl w.heap.size [.int .i64 0, .int .i64 0, .int .i64 0, .string ⟨#[]⟩] [.int .i64 0, .int .i64 0, .int .i64 0, .string ⟨#[]⟩] rfl rfl info_rtt rfl HOn.out HK4.out HX4.out hle ?_; intro wz kz Xz gz)
          (try simp only [Exit.inBlock, Exit.then])
          refine bodyPost_ret (ret_agg1 rfl _ _ w.heap.size [.int .i64 0, .int .i64 0, .int .i64 0, .string ⟨#[]⟩] rfl kz Tryz.underlying157 info_rtt) rfl ?_
          rw [HQ.out]
          exact ⟨rfl, Xz⟩
        have HOn := Lib.hid (TitV.one ⟨4, 0, 0, s.extract 2 s.size⟩)
        unfold TitV.cs at HOn
        have HQ := Lib.hid (show r = ⟨4, 0, 0, s.extract 2 s.size⟩ from by rw [HTL.out]; unfold rtail; rw [if_neg (fun h => by rw [hmb] at h; cases h.2.2), if_pos ⟨h2, hxb⟩])
        go_wp2_with (refine st_agg 157 rfl (.tmp 2) (.tmp 81) rfl w.heap.size [.int .i64 0, .int .i64 0, .int .i64 0, .string ⟨#[]⟩] [.int .i64 4, .int .i64 0, .int .i64 0, .string (s.extract 2 s.size)] rfl rfl info_rtt rfl HOn.out HK4.out HX4.out hle ?_; intro wz kz Xz gz)
        (try simp only [Exit.inBlock, Exit.then])
        refine bodyPost_ret (ret_agg1 rfl _ _ w.heap.size [.int .i64 4, .int .i64 0, .int .i64 0, .string (s.extract 2 s.size)] rfl kz Tryz.underlying157 info_rtt) rfl ?_
        rw [HQ.out]
        exact ⟨rfl, Xz⟩
      have HOn := Lib.hid (TitV.one ⟨3, 0, 0, ⟨#[]⟩⟩)
      unfold TitV.cs at HOn
      have HQ := Lib.hid (show r = ⟨3, 0, 0, ⟨#[]⟩⟩ from by rw [HTL.out]; unfold rtail; rw [if_pos ⟨h4, heb, hmb⟩])
      go_wp2_with (refine st_agg 157 rfl (.tmp 2) (.tmp 68) rfl w.heap.size [.int .i64 0, .int .i64 0, .int .i64 0, .string ⟨#[]⟩] [.int .i64 3, .int .i64 0, .int .i64 0, .string ⟨#[]⟩] rfl rfl info_rtt rfl HOn.out HK3.out HX3.out hle ?_; intro wz kz Xz gz)
      (try simp only [Exit.inBlock, Exit.then])
      refine bodyPost_ret (ret_agg1 rfl _ _ w.heap.size [.int .i64 3, .int .i64 0, .int .i64 0, .string ⟨#[]⟩] rfl kz Tryz.underlying157 info_rtt) rfl ?_
      rw [HQ.out]
      exact ⟨rfl, Xz⟩
    have HOn := Lib.hid (TitV.one ⟨1, n, 0, ⟨#[]⟩⟩)
    unfold TitV.cs at HOn
    have HQ := Lib.hid (show r = ⟨1, n, 0, ⟨#[]⟩⟩ from by rw [HT.out]; exact if_pos (by first | exact ⟨rfl, hql⟩ | simp [hql]))
    go_wp2_with (refine st_agg 157 rfl (.tmp 2) (.tmp 26) rfl w.heap.size [.int .i64 0, .int .i64 0, .int .i64 0, .string ⟨#[]⟩] [.int .i64 1, .int .i64 (n : Int), .int .i64 0, .string ⟨#[]⟩] rfl rfl info_rtt rfl HOn.out HK2.out HX2.out hle ?_; intro wz kz Xz gz)
    (try simp only [Exit.inBlock, Exit.then])
    refine bodyPost_ret (ret_agg1 rfl _ _ w.heap.size [.int .i64 1, .int .i64 (n : Int), .int .i64 0, .string ⟨#[]⟩] rfl kz Tryz.underlying157 info_rtt) rfl ?_
    rw [HQ.out]
    exact ⟨rfl, Xz⟩
end Go.Proofs.YtomfcgeibbicoaaGreat
