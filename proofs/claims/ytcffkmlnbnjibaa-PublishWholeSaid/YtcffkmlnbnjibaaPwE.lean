/- Walk: PublishWhole. -/
import Derived.Test.YtcffkmlnbnjibaaPwD
import Derived.Test.YtcffkmlnbnjibaaDkQ
import Derived.Test.YtcffkmlnbnjibaaRowS
namespace Go.Proofs.Ytcffkmlnbnjibaa
open Go.RowKit Go.Maps
def sT : ByteArray := ⟨#[116]⟩
set_option maxRecDepth 100000 in
theorem lives35_pub : ((DkV.fresh 9).pub sT sA sX).2 = (5, 0) ∧ ((DkV.fresh 9).pub sT sA sX).1.read sA = (sX, 0) := by constructor <;> kernel_rfl
theorem sX_list : sX.toList = [120] := by kernel_rfl
set_option maxHeartbeats 1000000 in
set_option maxRecDepth 100000 in
theorem lives35_calls (w : World) : Calls Try.prog 16 #[] w fun e w' => e = .returned (.bool true) ∧ Ex w w' := by
  go_enter Try.func16, Try.ntmps16
  go_wp2_with fail
  refine (dnew_calls 9 w (by omega) (by omega)).mono ?_
  rintro e w1 ⟨⟨g, rfl, hg, hP⟩, hb1⟩
  have HP1 := Lib.hid (DkP.more (G := NewB w) hP (fun k hk => by rcases hk with hk | hk; exact hk.elim; exact hk.1))
  have HX1 := Lib.hid hb1
  have HO1 := Lib.hid (fresh_ok (n := 9) (by omega) (by omega))
  clear hP hb1
  go_wp2_with fail
  refine (pub_calls HP1.out HO1.out (by omega) sT sA sX (by decide) (by decide) (by decide)).mono ?_
  rintro e w2 ⟨rfl, hP, hO⟩
  have HS2 := Lib.hid (DkP.step HX1.out hP hO)
  have HO2 := Lib.hid (pub_ok (s := sT) (b := sA) (x := sX) HO1.out (by omega) (by decide) (by decide))
  have HL := Lib.hid lives35_pub.2
  rw [lives35_pub.1]
  generalize ((DkV.fresh 9).pub sT sA sX).1 = Q2 at *
  clear hP hO
  go_wp2_with fail
  refine (dread_calls HS2.out.1 HO2.out (by omega) sA (by decide)).mono ?_
  rintro e w7 ⟨rfl, hb7⟩
  rw [HL.out]
  unfold sX
  go_wp2_with fail
  go_ret
  exact ⟨rfl, HS2.out.2.trans hb7⟩
/-- The disk that is written on. -/
def diskW (was : Bool) (old : ByteArray) : DkV := if was = true then ⟨200, [⟨old, old⟩], ⟨[⟨sA, 1⟩], []⟩, FuV.calm, 0⟩ else ⟨200, [], ⟨[], []⟩, FuV.calm, 0⟩
theorem load_none : DkV.load 200 [] = (some (diskW false ⟨#[]⟩), 0) := by kernel_rfl
theorem load_one {old : ByteArray} (h : old.size ≤ 500) : DkV.load 200 [⟨sA, old⟩] = (some (diskW true old), 0) := by
  have h1 : (DkV.fresh 200).loadL [⟨sA, old⟩] = (⟨200, [⟨old, old⟩], ⟨[], [⟨false, ⟨#[]⟩, true, sA, 1⟩]⟩, FuV.calm, 0⟩, 0) := by kernel_rfl
  unfold DkV.load
  have h2 : ¬ ((200 : Int) < ((⟨200, [⟨old, old⟩], ⟨[], [⟨false, ⟨#[]⟩, true, sA, 1⟩]⟩, FuV.calm, 0⟩ : DkV).taken : Int)) := by
    show ¬ ((200 : Int) < ((((max old.size old.size + 31) / 32 + 0 : Nat)) : Int))
    omega
  rw [if_neg (by omega), if_neg (by show ¬ 64 < 1; omega), h1]
  exact (if_neg (by simp)).trans ((if_neg h2).trans (by kernel_rfl))
theorem diskW_clean (was : Bool) (old : ByteArray) : Clean (diskW was old) := by
  unfold diskW
  cases was
  · exact ⟨rfl, fun m hm => by cases hm⟩
  · refine ⟨rfl, fun m hm => ?_⟩
    rcases List.mem_cons.1 hm with rfl | hm
    · exact ⟨Int.le_refl _, Int.le_refl _, rfl⟩
    · cases hm
theorem diskW_room {was : Bool} {old x : ByteArray} (h1 : old.size ≤ 500) (h2 : x.size ≤ 500) : Room (diskW was old) x := by
  unfold diskW
  cases was
  · refine ⟨by show (0 : Nat) ≤ 63; omega, ?_⟩
    show (((0 : Nat)) : Int) + (cntS x.size : Int) ≤ 200
    unfold cntS; omega
  · refine ⟨by show (1 : Nat) ≤ 63; omega, ?_⟩
    show (((max old.size old.size + 31) / 32 + 0 : Nat) : Int) + (cntS x.size : Int) ≤ 200
    unfold cntS; omega
theorem diskW_cont (was : Bool) (old : ByteArray) : (diskW was old).cont sA = if was = true then some old else none := by
  cases was <;> kernel_rfl
theorem diskW_ok (was : Bool) {old : ByteArray} (h : old.size ≤ 500) : (diskW was old).Ok 2 := by
  unfold diskW
  cases was
  · exact ⟨⟨by show 0 + 0 ≤ 2; omega, (fun m hm => by cases hm), (fun c hc => by cases hc)⟩, calm_ok, by show (1 : Int) ≤ 200; omega, by show (200 : Int) ≤ 4096; omega, by show 0 ≤ 2; omega, by show 0 ≤ 2; omega, (fun t ht => by cases ht)⟩
  · refine ⟨⟨by show 1 + 0 ≤ 2; omega, fun m hm => ?_, (fun c hc => by cases hc)⟩, calm_ok, by show (1 : Int) ≤ 200; omega, by show (200 : Int) ≤ 4096; omega, by show 1 ≤ 2; omega, by show 0 ≤ 2; omega, fun t ht => ?_⟩
    · rcases List.mem_cons.1 hm with rfl | hm
      · exact ⟨by show 1 ≤ _; omega, by show _ ≤ (1 : Int); omega, by show (1 : Int) ≤ _; omega⟩
      · cases hm
    · rcases List.mem_cons.1 ht with rfl | ht
      · exact ⟨by show old.size ≤ _; omega, by show old.size ≤ _; omega⟩
      · cases ht
theorem fl_row (w : World) (a b : ByteArray) : Row (w.alloc (.cells #[.string a, .string b] 41)) 2 (some ⟨w.heap.size, 0, none⟩) 1 [.string a, .string b] := by
  have := (Blk.new w [.string a, .string b] 41).row (k := 2) (n := 1) (by simp)
  simpa using this
theorem fl_one (a b : ByteArray) : ∀ u ∈ [Value.string a, Value.string b], u.oneCell' = true := by
  intro u hu
  simp only [List.mem_cons, List.not_mem_nil, or_false] at hu
  rcases hu with rfl | rfl <;> rfl
/-- The fault is laid. -/
def armD (Q : DkV) (n : Int) : DkV := if n < 0 then Q else { Q with fu := ⟨-1, -1, n, false⟩ }
theorem fault_arm {was : Bool} {old : ByteArray} {n : Int} (h : ¬ n < 0) : (diskW was old).fault 3 n = (armD (diskW was old) n, 0) := by
  have h1 : (diskW was old).fu = FuV.calm := by unfold diskW; split <;> rfl
  unfold DkV.fault armD
  rw [h1, if_neg (by decide), if_neg h]
  have h2 : FuV.calm.arm 3 n = (⟨-1, -1, n, false⟩, true) := by
    unfold FuV.arm
    rw [if_neg (by omega), if_neg (by decide), if_neg (by decide), if_neg (by decide)]
    rfl
  rw [h2]
  rfl
theorem armD_ok {Q : DkV} {M : Nat} {n : Int} (h : Q.Ok M) (hn : n ≤ 9223372036854775807) : (armD Q n).Ok M := by
  unfold armD
  split
  · exact h
  · rename_i h0
    exact ⟨h.fo, ⟨by unfold inF; show (-1 : Int) ≤ -1 ∧ (-1 : Int) ≤ _; omega, by unfold inF; show (-1 : Int) ≤ -1 ∧ (-1 : Int) ≤ _; omega, by unfold inF; show (-1 : Int) ≤ n ∧ n ≤ _; omega⟩, h.s1, h.s2, h.tl, h.cl, h.tz⟩
theorem armD_law {was : Bool} {old x : ByteArray} {n : Int} (h1 : old.size ≤ 500) (h2 : x.size ≤ 500) : Clean (armD (diskW was old) n) ∧ Lit0 (armD (diskW was old) n) ∧ Room (armD (diskW was old) n) x ∧ (armD (diskW was old) n).cont sA = (if was = true then some old else none) ∧ (n < 0 → (armD (diskW was old) n).fu.d = -1) := by
  have hc := diskW_clean was old
  have hr := diskW_room (was := was) h1 h2
  have hk := diskW_cont was old
  have hf : (diskW was old).fu = FuV.calm := by unfold diskW; split <;> rfl
  unfold armD
  split
  · exact ⟨hc, ⟨by rw [hf]; rfl, by rw [hf]; rfl, by rw [hf]; rfl⟩, hr, hk, fun _ => by rw [hf]; rfl⟩
  · rename_i hn
    exact ⟨⟨hc.ch, hc.id⟩, ⟨rfl, rfl, rfl⟩, ⟨hr.ids, hr.sec⟩, hk, fun h => absurd h hn⟩
/-- What is read in the end. -/
theorem whole_law {was : Bool} {old x cho : ByteArray} {n : Int} (h1 : old.size ≤ 500) (h2 : x.size ≤ 500) {r : DkV × Nat × Int} {rd : ByteArray × Int} (hr : (armD (diskW was old) n).pub sT sA x = r) (hd : (r.1.crash cho).1.read sA = rd) :
    ((r.2.2 = 0 ∧ r.2.1 = 5 ∧ rd = (x, 0)) ∨ (r.2.2 = 14 ∧ r.2.1 ≤ 4 ∧ ¬ n < 0 ∧ (rd = (x, 0) ∨ rd = (if was = true then (old, 0) else (⟨#[]⟩, 8))))) := by
  obtain ⟨a1, a2, a3, a4, a5⟩ := armD_law (was := was) (n := n) h1 h2
  obtain ⟨hA, hB⟩ := pub_crash (s := sT) (b := sA) a1 a2 a3 (by kernel_rfl) (by kernel_rfl) (by rw [show sT.toList = [116] from by kernel_rfl, show sA.toList = [97] from by kernel_rfl]; decide) cho
  rw [hr] at hA hB
  have hrd : rd = match (r.1.crash cho).1.cont sA with | some y => (y, 0) | none => (⟨#[]⟩, 8) := by
    rw [← hd]
    unfold DkV.read DkV.cont DkV.idOf
    rw [hA.fu, if_neg (by decide), hA.clean.now]
    cases (findM sA (r.1.crash cho).1.fo.kept).2 <;> rfl
  rcases hB with ⟨b1, b2, b3⟩ | ⟨b1, b2, b3, b4⟩
  · left
    rw [b3] at hrd
    exact ⟨b1, b2, hrd⟩
  · right
    refine ⟨b1, b2, fun h => b3 (a5 h), ?_⟩
    rcases b4 with b4 | b4
    · right
      rw [b4, a4] at hrd
      cases was
      · exact hrd
      · exact hrd
    · left
      rw [b4] at hrd
      exact hrd
theorem info_file : (Try.prog.info? 41).map (fun i => (i.zero, i.size, i.bytes)) = some (some (.agg #[.string ⟨#[]⟩, .string ⟨#[]⟩]), 2, 32) := by kernel_rfl
set_option maxHeartbeats 2000000 in
set_option maxRecDepth 100000 in
theorem whole_calls (old x cho : ByteArray) (was : Bool) (n : Int) (w : World) (h1 : old.size ≤ maxLen) (h2 : x.size ≤ maxLen) (h3 : cho.size ≤ maxLen) (hn1 : -9223372036854775808 ≤ n) (hn2 : n ≤ 9223372036854775807) :
    Calls Try.prog 4 #[.agg #[.string old, .string x, .string cho], .bool was, .int .i64 n] w fun e w' => e = .returned (.bool true) ∧ Ex w w' := by
  unfold maxLen at h1 h2 h3
  have HX0 := Lib.hid (ex_alloc (Ex.refl w) (.cells #[.string old, .string x, .string cho] 38))
  have hc0 : (w.alloc (.cells #[.string old, .string x, .string cho] 38)).cell? ⟨w.heap.size, 0, none⟩ = some (.string old) := by rw [(Blk.new w [.string old, .string x, .string cho] 38).cell]; rfl
  have hc1 : (w.alloc (.cells #[.string old, .string x, .string cho] 38)).cell? ⟨w.heap.size, 1, none⟩ = some (.string x) := by rw [(Blk.new w [.string old, .string x, .string cho] 38).cell]; rfl
  have hc2 : (w.alloc (.cells #[.string old, .string x, .string cho] 38)).cell? ⟨w.heap.size, 2, none⟩ = some (.string cho) := by rw [(Blk.new w [.string old, .string x, .string cho] 38).cell]; rfl
  by_cases k1 : 500 < old.size
  · have d1 : decide ((500 : Int) < (old.size : Int)) = true := decide_eq_true (by omega)
    go_enter Try.func4, Try.ntmps4
    go_wp2_with fail
    go_quiet (fail)
    go_wp2_with fail
    refine (lives35_calls _).mono ?_
    rintro e wl ⟨rfl, hbl⟩
    go_wp2_with fail
    go_ret
    exact ⟨rfl, (HX0.out.trans (Dr.ex ⟨_, rfl⟩)).trans hbl⟩
  have d1 : decide ((500 : Int) < (old.size : Int)) = false := decide_eq_false (by omega)
  by_cases k2 : 500 < x.size
  · have d2 : decide ((500 : Int) < (x.size : Int)) = true := decide_eq_true (by omega)
    go_enter Try.func4, Try.ntmps4
    go_wp2_with fail
    go_quiet (fail)
    go_wp2_with fail
    refine (lives35_calls _).mono ?_
    rintro e wl ⟨rfl, hbl⟩
    go_wp2_with fail
    go_ret
    exact ⟨rfl, (HX0.out.trans (Dr.ex ⟨_, rfl⟩)).trans hbl⟩
  have d2 : decide ((500 : Int) < (x.size : Int)) = false := decide_eq_false (by omega)
  by_cases k3 : 200 < cho.size
  · have d3 : decide ((200 : Int) < (cho.size : Int)) = true := decide_eq_true (by omega)
    go_enter Try.func4, Try.ntmps4
    go_wp2_with fail
    go_quiet (fail)
    go_wp2_with fail
    refine (lives35_calls _).mono ?_
    rintro e wl ⟨rfl, hbl⟩
    go_wp2_with fail
    go_ret
    exact ⟨rfl, (HX0.out.trans (Dr.ex ⟨_, rfl⟩)).trans hbl⟩
  have d3 : decide ((200 : Int) < (cho.size : Int)) = false := decide_eq_false (by omega)
  cases was
  · go_enter Try.func4, Try.ntmps4
    go_wp2_with fail
    go_quiet (fail)
    have HXW := Lib.hid (HX0.out.trans (Dr.ex ⟨nq, rfl⟩) : Ex w ((w.alloc (.cells #[.string old, .string x, .string cho] 38)).drewN nq))
    generalize (w.alloc (.cells #[.string old, .string x, .string cho] 38)).drewN nq = W at *
    clear hc0 hc1 hc2 HX0
    go_wp2_with fail
    refine (dload_calls 200 none 0 [] _ (Row.nil _ _ _) (fun f hf => by cases hf) (by omega) (by omega)).mono ?_
    rintro e w1 ⟨⟨v, rfl, _, hv⟩, hb1⟩
    rw [load_none] at hv ⊢
    obtain ⟨g, rfl, hg, hP⟩ := hv _ rfl
    have HP1 := Lib.hid hP
    have HX1 := Lib.hid hb1
    have HO1 := Lib.hid (diskW_ok false (old := ⟨#[]⟩) (by show 0 ≤ 500; omega))
    clear hP hb1 hv
    obtain ⟨r, hr⟩ : ∃ r, (armD (diskW false ⟨#[]⟩) n).pub sT sA x = r := ⟨_, rfl⟩
    obtain ⟨rd, hd⟩ : ∃ rd, (r.1.crash cho).1.read sA = rd := ⟨_, rfl⟩
    have hlaw := whole_law (was := false) (old := ⟨#[]⟩) (by show 0 ≤ 500; omega) (by omega) hr hd
    by_cases hn : n < 0
    · have d4 : decide (0 ≤ n) = false := decide_eq_false (by omega)
      have d5 : decide (n < 0) = true := decide_eq_true hn
      rw [show armD (diskW false ⟨#[]⟩) n = diskW false ⟨#[]⟩ from if_pos hn] at hr
      have HR := Lib.hid hr
      have HS2 := Lib.hid (And.intro HP1.out HX1.out)
      have HO2 := HO1
      clear hr
      go_wp2_with fail
      refine (pub_calls HS2.out.1 HO2.out (by omega) sT sA x (by decide) (by decide) (by omega)).mono ?_
      rintro e w3 ⟨rfl, hP, hO⟩
      have HS3 := Lib.hid (DkP.step HS2.out.2 hP hO)
      have HO3 := Lib.hid (pub_ok (s := sT) (b := sA) (x := x) HO2.out (by omega) (by decide) (by decide))
      rw [HR.out] at HS3 HO3 ⊢
      obtain ⟨Q2, k, f⟩ := r
      simp only at HS3 HO3 hd hlaw ⊢
      have HRD := Lib.hid hd
      clear hP hO hd HS2 HO2 HP1 HX1 HO1 HR
      rcases hlaw with ⟨rfl, rfl, rfl⟩ | ⟨rfl, hk, hn', hlaw⟩
      · go_wp2_with fail
        refine (dcrash_calls HS3.out.1 HO3.out (by omega) cho (by omega)).mono ?_
        rintro e w4 ⟨rfl, hP, hO⟩
        have HS4 := Lib.hid (DkP.step HS3.out.2 hP hO)
        have HO4 := Lib.hid (crash_ok HO3.out cho)
        clear hP hO
        generalize (Q2.crash cho).2 = r4
        generalize (Q2.crash cho).1 = Q4 at *
        go_wp2_with fail
        refine (dread_calls HS4.out.1 HO4.out (by omega) sA (by decide)).mono ?_
        rintro e w5 ⟨rfl, hb5⟩
        rw [HRD.out]
        have hx : (x.toList == x.toList) = true := by simp
        go_wp2_with fail
        refine (lives35_calls _).mono ?_
        rintro e w6 ⟨rfl, hb6⟩
        go_wp2_with fail
        go_ret
        exact ⟨rfl, HXW.out.trans ((HS4.out.2.trans hb5).trans hb6)⟩
      · omega
    · have d4 : decide (0 ≤ n) = true := decide_eq_true (by omega)
      have d5 : decide (n < 0) = false := decide_eq_false hn
      have HR := Lib.hid hr
      clear hr
      go_wp2_with fail
      refine (dfault_calls HP1.out 3 n).mono ?_
      rintro e w2 ⟨rfl, hP, hO⟩
      rw [fault_arm (n := n) (by omega)] at hP ⊢
      have HS2 := Lib.hid (DkP.step HX1.out (hP.more (fun k hk => .inl hk)) hO)
      have HO2 := Lib.hid (armD_ok (n := n) HO1.out hn2)
      clear hP hO
      go_wp2_with fail
      refine (pub_calls HS2.out.1 HO2.out (by omega) sT sA x (by decide) (by decide) (by omega)).mono ?_
      rintro e w3 ⟨rfl, hP, hO⟩
      have HS3 := Lib.hid (DkP.step HS2.out.2 hP hO)
      have HO3 := Lib.hid (pub_ok (s := sT) (b := sA) (x := x) HO2.out (by omega) (by decide) (by decide))
      rw [HR.out] at HS3 HO3 ⊢
      obtain ⟨Q2, k, f⟩ := r
      simp only at HS3 HO3 hd hlaw ⊢
      have HRD := Lib.hid hd
      clear hP hO hd HS2 HO2 HP1 HX1 HO1 HR
      rcases hlaw with ⟨rfl, rfl, rfl⟩ | ⟨rfl, hk, hn', hlaw⟩
      · go_wp2_with fail
        refine (dcrash_calls HS3.out.1 HO3.out (by omega) cho (by omega)).mono ?_
        rintro e w4 ⟨rfl, hP, hO⟩
        have HS4 := Lib.hid (DkP.step HS3.out.2 hP hO)
        have HO4 := Lib.hid (crash_ok HO3.out cho)
        clear hP hO
        generalize (Q2.crash cho).2 = r4
        generalize (Q2.crash cho).1 = Q4 at *
        go_wp2_with fail
        refine (dread_calls HS4.out.1 HO4.out (by omega) sA (by decide)).mono ?_
        rintro e w5 ⟨rfl, hb5⟩
        rw [HRD.out]
        have hx : (x.toList == x.toList) = true := by simp
        go_wp2_with fail
        refine (lives35_calls _).mono ?_
        rintro e w6 ⟨rfl, hb6⟩
        go_wp2_with fail
        go_ret
        exact ⟨rfl, HXW.out.trans ((HS4.out.2.trans hb5).trans hb6)⟩
      · have hk5 : ((k : Int) == 5) = false := by simpa using (show ¬ (k : Int) = 5 by omega)
        rcases hlaw with rfl | rfl
        · go_wp2_with fail
          refine (dcrash_calls HS3.out.1 HO3.out (by omega) cho (by omega)).mono ?_
          rintro e w4 ⟨rfl, hP, hO⟩
          have HS4 := Lib.hid (DkP.step HS3.out.2 hP hO)
          have HO4 := Lib.hid (crash_ok HO3.out cho)
          clear hP hO
          generalize (Q2.crash cho).2 = r4
          generalize (Q2.crash cho).1 = Q4 at *
          go_wp2_with fail
          refine (dread_calls HS4.out.1 HO4.out (by omega) sA (by decide)).mono ?_
          rintro e w5 ⟨rfl, hb5⟩
          rw [HRD.out]
          have hx : (x.toList == x.toList) = true := by simp
          go_wp2_with fail
          refine (lives35_calls _).mono ?_
          rintro e w6 ⟨rfl, hb6⟩
          go_wp2_with fail
          go_ret
          exact ⟨rfl, HXW.out.trans ((HS4.out.2.trans hb5).trans hb6)⟩
        · go_wp2_with fail
          refine (dcrash_calls HS3.out.1 HO3.out (by omega) cho (by omega)).mono ?_
          rintro e w4 ⟨rfl, hP, hO⟩
          have HS4 := Lib.hid (DkP.step HS3.out.2 hP hO)
          have HO4 := Lib.hid (crash_ok HO3.out cho)
          clear hP hO
          generalize (Q2.crash cho).2 = r4
          generalize (Q2.crash cho).1 = Q4 at *
          go_wp2_with fail
          refine (dread_calls HS4.out.1 HO4.out (by omega) sA (by decide)).mono ?_
          rintro e w5 ⟨rfl, hb5⟩
          rw [HRD.out]
          rw [if_neg (by decide)]
          go_wp2_with fail
          refine (lives35_calls _).mono ?_
          rintro e w6 ⟨rfl, hb6⟩
          go_wp2_with fail
          go_ret
          exact ⟨rfl, HXW.out.trans ((HS4.out.2.trans hb5).trans hb6)⟩
  · go_enter Try.func4, Try.ntmps4
    go_wp2_with fail
    go_quiet (fail)
    have HXW := Lib.hid (HX0.out.trans (Dr.ex ⟨nq, rfl⟩) : Ex w ((w.alloc (.cells #[.string old, .string x, .string cho] 38)).drewN nq))
    generalize (w.alloc (.cells #[.string old, .string x, .string cho] 38)).drewN nq = W at *
    clear hc0 hc1 hc2 HX0
    obtain ⟨i0, hi0, hz0, hz1, hz2⟩ := info_parts info_file
    go_wp2_with (at_builtin; refine wpList_append_row _ rfl (.tmp 38) (.tmp 41) 39 rfl W.heap.size 41 i0 _ 2 32 Try.underlying39 hi0 hz0 hz1 hz2 rfl (by decide) (.slice none 0 0) 0 [] rfl (World.ownsRow_nil _ _ _ _) (some ⟨W.heap.size, 0, none⟩) 1 1 [.string ⟨#[97]⟩, .string old] rfl (fl_row W sA old) (fl_one _ _) (by decide) (by decide) (by simp) ?_; intro v' w' ho' hg' _)
    obtain ⟨A, c, rfl, _⟩ := own_shape ho'
    have hrow := Row.of_own ho'
    have HXA := Lib.hid (Ex.trans (ex_alloc (Ex.refl W) _) (((Off.refl (fun _ => False) _).grown hg' (fun k e => by cases e)).ex (fun k _ => id)))
    clear ho' hg'
    refine (dload_calls 200 A c [⟨sA, old⟩] _ hrow (fun f hf => by
      rcases List.mem_cons.1 hf with rfl | hf
      · exact ⟨by show sA.size ≤ _; decide, by show old.size ≤ _; omega⟩
      · cases hf) (by omega) (by omega)).mono ?_
    rintro e w1 ⟨⟨v, rfl, _, hv⟩, hb1⟩
    rw [load_one (by omega)] at hv ⊢
    obtain ⟨g, rfl, hg, hP⟩ := hv _ rfl
    have HP1 := Lib.hid (DkP.more (G := NewB W) hP (fun k hk => Nat.le_trans HXA.out.size hk))
    have HX1 := Lib.hid (HXA.out.trans hb1)
    have HO1 := Lib.hid (diskW_ok true (old := old) (by omega))
    clear hP hb1 hv hrow
    obtain ⟨r, hr⟩ : ∃ r, (armD (diskW true old) n).pub sT sA x = r := ⟨_, rfl⟩
    obtain ⟨rd, hd⟩ : ∃ rd, (r.1.crash cho).1.read sA = rd := ⟨_, rfl⟩
    have hlaw := whole_law (was := true) (old := old) (by omega) (by omega) hr hd
    by_cases hn : n < 0
    · have d4 : decide (0 ≤ n) = false := decide_eq_false (by omega)
      have d5 : decide (n < 0) = true := decide_eq_true hn
      rw [show armD (diskW true old) n = diskW true old from if_pos hn] at hr
      have HR := Lib.hid hr
      have HS2 := Lib.hid (And.intro HP1.out HX1.out)
      have HO2 := HO1
      clear hr
      go_wp2_with fail
      refine (pub_calls HS2.out.1 HO2.out (by omega) sT sA x (by decide) (by decide) (by omega)).mono ?_
      rintro e w3 ⟨rfl, hP, hO⟩
      have HS3 := Lib.hid (DkP.step HS2.out.2 hP hO)
      have HO3 := Lib.hid (pub_ok (s := sT) (b := sA) (x := x) HO2.out (by omega) (by decide) (by decide))
      rw [HR.out] at HS3 HO3 ⊢
      obtain ⟨Q2, k, f⟩ := r
      simp only at HS3 HO3 hd hlaw ⊢
      have HRD := Lib.hid hd
      clear hP hO hd HS2 HO2 HP1 HX1 HO1 HR
      rcases hlaw with ⟨rfl, rfl, rfl⟩ | ⟨rfl, hk, hn', hlaw⟩
      · go_wp2_with fail
        refine (dcrash_calls HS3.out.1 HO3.out (by omega) cho (by omega)).mono ?_
        rintro e w4 ⟨rfl, hP, hO⟩
        have HS4 := Lib.hid (DkP.step HS3.out.2 hP hO)
        have HO4 := Lib.hid (crash_ok HO3.out cho)
        clear hP hO
        generalize (Q2.crash cho).2 = r4
        generalize (Q2.crash cho).1 = Q4 at *
        go_wp2_with fail
        refine (dread_calls HS4.out.1 HO4.out (by omega) sA (by decide)).mono ?_
        rintro e w5 ⟨rfl, hb5⟩
        rw [HRD.out]
        have hx : (x.toList == x.toList) = true := by simp
        go_wp2_with fail
        refine (lives35_calls _).mono ?_
        rintro e w6 ⟨rfl, hb6⟩
        go_wp2_with fail
        go_ret
        exact ⟨rfl, HXW.out.trans ((HS4.out.2.trans hb5).trans hb6)⟩
      · omega
    · have d4 : decide (0 ≤ n) = true := decide_eq_true (by omega)
      have d5 : decide (n < 0) = false := decide_eq_false hn
      have HR := Lib.hid hr
      clear hr
      go_wp2_with fail
      refine (dfault_calls HP1.out 3 n).mono ?_
      rintro e w2 ⟨rfl, hP, hO⟩
      rw [fault_arm (n := n) (by omega)] at hP ⊢
      have HS2 := Lib.hid (DkP.step HX1.out (hP.more (fun k hk => .inl hk)) hO)
      have HO2 := Lib.hid (armD_ok (n := n) HO1.out hn2)
      clear hP hO
      go_wp2_with fail
      refine (pub_calls HS2.out.1 HO2.out (by omega) sT sA x (by decide) (by decide) (by omega)).mono ?_
      rintro e w3 ⟨rfl, hP, hO⟩
      have HS3 := Lib.hid (DkP.step HS2.out.2 hP hO)
      have HO3 := Lib.hid (pub_ok (s := sT) (b := sA) (x := x) HO2.out (by omega) (by decide) (by decide))
      rw [HR.out] at HS3 HO3 ⊢
      obtain ⟨Q2, k, f⟩ := r
      simp only at HS3 HO3 hd hlaw ⊢
      have HRD := Lib.hid hd
      clear hP hO hd HS2 HO2 HP1 HX1 HO1 HR
      rcases hlaw with ⟨rfl, rfl, rfl⟩ | ⟨rfl, hk, hn', hlaw⟩
      · go_wp2_with fail
        refine (dcrash_calls HS3.out.1 HO3.out (by omega) cho (by omega)).mono ?_
        rintro e w4 ⟨rfl, hP, hO⟩
        have HS4 := Lib.hid (DkP.step HS3.out.2 hP hO)
        have HO4 := Lib.hid (crash_ok HO3.out cho)
        clear hP hO
        generalize (Q2.crash cho).2 = r4
        generalize (Q2.crash cho).1 = Q4 at *
        go_wp2_with fail
        refine (dread_calls HS4.out.1 HO4.out (by omega) sA (by decide)).mono ?_
        rintro e w5 ⟨rfl, hb5⟩
        rw [HRD.out]
        have hx : (x.toList == x.toList) = true := by simp
        go_wp2_with fail
        refine (lives35_calls _).mono ?_
        rintro e w6 ⟨rfl, hb6⟩
        go_wp2_with fail
        go_ret
        exact ⟨rfl, HXW.out.trans ((HS4.out.2.trans hb5).trans hb6)⟩
      · have hk5 : ((k : Int) == 5) = false := by simpa using (show ¬ (k : Int) = 5 by omega)
        rcases hlaw with rfl | rfl
        · go_wp2_with fail
          refine (dcrash_calls HS3.out.1 HO3.out (by omega) cho (by omega)).mono ?_
          rintro e w4 ⟨rfl, hP, hO⟩
          have HS4 := Lib.hid (DkP.step HS3.out.2 hP hO)
          have HO4 := Lib.hid (crash_ok HO3.out cho)
          clear hP hO
          generalize (Q2.crash cho).2 = r4
          generalize (Q2.crash cho).1 = Q4 at *
          go_wp2_with fail
          refine (dread_calls HS4.out.1 HO4.out (by omega) sA (by decide)).mono ?_
          rintro e w5 ⟨rfl, hb5⟩
          rw [HRD.out]
          have hx : (x.toList == x.toList) = true := by simp
          cases ho : (x.toList == old.toList)
          · go_wp2_with fail
            refine (lives35_calls _).mono ?_
            rintro e w6 ⟨rfl, hb6⟩
            go_wp2_with fail
            go_ret
            exact ⟨rfl, HXW.out.trans ((HS4.out.2.trans hb5).trans hb6)⟩
          · go_wp2_with fail
            refine (lives35_calls _).mono ?_
            rintro e w6 ⟨rfl, hb6⟩
            go_wp2_with fail
            go_ret
            exact ⟨rfl, HXW.out.trans ((HS4.out.2.trans hb5).trans hb6)⟩
        · go_wp2_with fail
          refine (dcrash_calls HS3.out.1 HO3.out (by omega) cho (by omega)).mono ?_
          rintro e w4 ⟨rfl, hP, hO⟩
          have HS4 := Lib.hid (DkP.step HS3.out.2 hP hO)
          have HO4 := Lib.hid (crash_ok HO3.out cho)
          clear hP hO
          generalize (Q2.crash cho).2 = r4
          generalize (Q2.crash cho).1 = Q4 at *
          go_wp2_with fail
          refine (dread_calls HS4.out.1 HO4.out (by omega) sA (by decide)).mono ?_
          rintro e w5 ⟨rfl, hb5⟩
          rw [HRD.out]
          have hx : (old.toList == old.toList) = true := by simp
          rw [if_pos trivial]
          go_wp2_with fail
          refine (lives35_calls _).mono ?_
          rintro e w6 ⟨rfl, hb6⟩
          go_wp2_with fail
          go_ret
          exact ⟨rfl, HXW.out.trans ((HS4.out.2.trans hb5).trans hb6)⟩
end Go.Proofs.Ytcffkmlnbnjibaa
