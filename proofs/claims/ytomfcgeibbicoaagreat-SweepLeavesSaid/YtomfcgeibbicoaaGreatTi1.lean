/- Walks: what a name is: beginnings of texts. -/
import Derived.Test.YtomfcgeibbicoaaGreatTiU
import Derived.Test.YtomfcgeibbicoaaGreatDg0
import Derived.Test.YtomfcgeibbicoaaGreatRf0
import Derived.Lib.Strings
import Derived.Lib.Bytealg
import Derived.RegionTactic
namespace Go.Proofs.YtomfcgeibbicoaaGreat
open Go.RowKit
/-- Does a text begin so? -/
def hasP (s p : ByteArray) : Bool := decide (p.size ≤ s.size) && ((s.extract 0 p.size).toList == p.toList)
set_option maxRecDepth 100000 in
theorem hasp_calls (s p : ByteArray) (w : World) : Calls Tryz.prog 263 #[.string s, .string p] w fun e w' => e = .returned (.bool (hasP s p)) ∧ Ex w w' := by
  by_cases h : p.size ≤ s.size
  · have d1 : decide ((p.size : Int) ≤ (s.size : Int)) = true := decide_eq_true (by omega)
    have hpl : (p.size : Int) ≤ (s.size : Int) := by omega
    have hp0 : (0 : Int) ≤ (p.size : Int) := by omega
    have hpn : ((p.size : Int)).toNat = p.size := by omega
    have hE : hasP s p = ((s.extract 0 p.size).toList == p.toList) := by unfold hasP; rw [decide_eq_true h, Bool.true_and]
    rw [hE]
    clear hE
    go_enter Tryz.func263, Tryz.ntmps263
    go_wp2_with fail
    go_ret
    exact ⟨rfl, Ex.refl _⟩
  · have d1 : decide ((p.size : Int) ≤ (s.size : Int)) = false := decide_eq_false (by omega)
    have hE : hasP s p = false := by unfold hasP; rw [decide_eq_false h, Bool.false_and]
    rw [hE]
    go_enter Tryz.func263, Tryz.ntmps263
    go_wp2_with fail
    go_ret
    exact ⟨rfl, Ex.refl _⟩
theorem hasPrefix_calls (s p : ByteArray) (w : World) : Calls Tryz.prog 235 #[.string s, .string p] w fun e w' => e = .returned (.bool (hasP s p)) ∧ Ex w w' := by
  go_enter Tryz.func235, Tryz.ntmps235
  go_wp2_with fail
  refine (hasp_calls s p _).mono ?_
  rintro e w1 ⟨rfl, hb⟩
  go_wp2_with fail
  go_ret
  exact ⟨rfl, hb⟩
/-- What is left behind a beginning. -/
def cutP (s p : ByteArray) : ByteArray × Bool := if hasP s p = true then (s.extract p.size s.size, true) else (s, false)
set_option maxRecDepth 100000 in
theorem cutp_calls (s p : ByteArray) (w : World) : Calls Tryz.prog 264 #[.string s, .string p] w fun e w' => e = .returned (.tuple #[.string (cutP s p).1, .bool (cutP s p).2]) ∧ Ex w w' := by
  cases h : hasP s p
  · have hE : cutP s p = (s, false) := by unfold cutP; rw [h]; rfl
    rw [hE]
    go_enter Tryz.func264, Tryz.ntmps264
    go_wp2_with fail
    refine (hasp_calls s p _).mono ?_
    rintro e w1 ⟨rfl, hb⟩
    rw [h]
    go_wp2_with fail
    go_ret2
    exact ⟨rfl, hb⟩
  · have hE : cutP s p = (s.extract p.size s.size, true) := by unfold cutP; rw [h]; rfl
    rw [hE]
    have hle : p.size ≤ s.size := by
      unfold hasP at h
      rw [Bool.and_eq_true, decide_eq_true_eq] at h
      exact h.1
    have hpl : (p.size : Int) ≤ (s.size : Int) := by omega
    have hp0 : (0 : Int) ≤ (p.size : Int) := by omega
    have hpn : ((p.size : Int)).toNat = p.size := by omega
    have HH := Lib.hid h
    clear h hE
    go_enter Tryz.func264, Tryz.ntmps264
    go_wp2_with fail
    refine (hasp_calls s p _).mono ?_
    rintro e w1 ⟨rfl, hb⟩
    rw [HH.out]
    go_wp2_with fail
    go_ret2
    exact ⟨rfl, hb⟩
theorem cutPrefix_calls (s p : ByteArray) (w : World) : Calls Tryz.prog 236 #[.string s, .string p] w fun e w' => e = .returned (.tuple #[.string (cutP s p).1, .bool (cutP s p).2]) ∧ Ex w w' := by
  go_enter Tryz.func236, Tryz.ntmps236
  go_wp2_with fail
  refine (cutp_calls s p _).mono ?_
  rintro e w1 ⟨rfl, hb⟩
  go_wp2_with fail
  go_ret2
  exact ⟨rfl, hb⟩
def frCheck : ByteArray := ⟨#[99, 104, 101, 99, 107, 45]⟩
def frLog : ByteArray := ⟨#[108, 111, 103, 45]⟩
theorem front1_calls (w : World) : Calls Tryz.prog 199 #[.int .i64 1] w fun e w' => e = .returned (.string frCheck) ∧ Ex w w' := by
  go_enter Tryz.func199, Tryz.ntmps199
  go_wp2_with fail
  go_ret
  exact ⟨rfl, ex_alloc (Ex.refl _) _⟩
theorem front2_calls (w : World) : Calls Tryz.prog 199 #[.int .i64 2] w fun e w' => e = .returned (.string frLog) ∧ Ex w w' := by
  go_enter Tryz.func199, Tryz.ntmps199
  go_wp2_with fail
  go_ret
  exact ⟨rfl, ex_alloc (Ex.refl _) _⟩
/-- What a name is: its kind, epoch, part, and the name that one who saves gave. -/
structure TitV where
  k : Int
  e : Int
  p : Int
  nm : ByteArray
def TitV.cs (t : TitV) : List Value := [.int .i64 t.k, .int .i64 t.e, .int .i64 t.p, .string t.nm]
def TitV.none : TitV := ⟨0, 0, 0, ⟨#[]⟩⟩
theorem TitV.one (t : TitV) : ∀ v ∈ t.cs, v.oneCell' = true := by
  intro v hv
  simp only [TitV.cs, List.mem_cons, List.not_mem_nil, or_false] at hv
  rcases hv with rfl | rfl | rfl | rfl <;> rfl
theorem info_tt : (Tryz.prog.info? 192).map (·.size) = some 4 := by kernel_rfl
def chkD (s : ByteArray) : ByteArray := (cutP s frCheck).1
def chkT (s : ByteArray) : TitV × Bool := (⟨1, (numP (chkD s)).1, 0, ⟨#[]⟩⟩, (cutP s frCheck).2 && (numP (chkD s)).2 && decide ((chkD s).size = 6))
set_option maxHeartbeats 2000000 in
set_option maxRecDepth 100000 in
theorem check_calls (s : ByteArray) (w : World) : Calls Tryz.prog 233 #[.string s] w fun e w' => e = .returned (.tuple #[.agg (chkT s).1.cs.toArray, .bool (chkT s).2]) ∧ Ex w w' := by
  have HK := Lib.hid (Blk.new w TitV.none.cs 192)
  have HX := Lib.hid (ex_alloc (Ex.refl w) (.cells TitV.none.cs.toArray 192))
  have hle := Nat.le_refl w.heap.size
  have HC := Lib.hid (fun w => cutPrefix_calls s frCheck w)
  have HP := Lib.hid (fun w => parse_calls (chkD s) w)
  have hT : chkT s = (⟨1, (numP (chkD s)).1, 0, ⟨#[]⟩⟩, (cutP s frCheck).2 && (numP (chkD s)).2 && decide ((chkD s).size = 6)) := rfl
  obtain ⟨d, hd⟩ : ∃ d, chkD s = d := ⟨_, rfl⟩
  obtain ⟨ok, hok⟩ : ∃ b, (cutP s frCheck).2 = b := ⟨_, rfl⟩
  obtain ⟨n, fine, hn⟩ : ∃ n b, numP d = (n, b) := ⟨_, _, rfl⟩
  rw [show (cutP s frCheck).1 = d from hd, hok] at HC
  rw [hd, hn] at HP
  rw [hd, hn, hok] at hT
  rw [hT]
  clear hT hd hok hn
  unfold TitV.none TitV.cs at HK HX
  have HOn := Lib.hid (TitV.one ⟨1, n, 0, ⟨#[]⟩⟩)
  unfold TitV.cs at HOn ⊢
  by_cases h6 : d.size = 6
  case' pos =>
    have d6 : decide ((d.size : Int) = 6) = true := decide_eq_true (by omega)
    have e6 : ((d.size : Int) == 6) = true := beq_iff_eq.2 (by omega)
  case' neg =>
    have d6 : decide ((d.size : Int) = 6) = false := decide_eq_false (by omega)
    have e6 : ((d.size : Int) == 6) = false := beq_eq_false_iff_ne.2 (by omega)
  all_goals
    have HD6 := Lib.hid (show decide (d.size = 6) = decide ((d.size : Int) = 6) from by
      first
        | rw [decide_eq_true h6, d6]
        | rw [decide_eq_false h6, d6])
    clear h6
    cases ok
  all_goals cases fine
  all_goals
    go_enter Tryz.func233, Tryz.ntmps233
    go_wp2_with fail
    refine (front1_calls _).mono ?_
    rintro e w1 ⟨rfl, hb1⟩
    have HK1 := Lib.hid (HK.out.ex hb1)
    have HX1 := Lib.hid (HX.out.trans hb1)
    clear hb1
    go_wp2_with fail
    refine (HC.out _).mono ?_
    rintro e w2 ⟨rfl, hb2⟩
    have HK2 := Lib.hid (HK1.out.ex hb2)
    have HX2 := Lib.hid (HX1.out.trans hb2)
    clear hb2
    go_wp2_with fail
    refine (HP.out _).mono ?_
    rintro e w3 ⟨rfl, hb3⟩
    have HK3 := Lib.hid (HK2.out.ex hb3)
    have HX3 := Lib.hid (HX2.out.trans hb3)
    clear hb3
    go_wp2_with (refine st_agg 192 rfl (.tmp 2) (.tmp 20) rfl w.heap.size [.int .i64 0, .int .i64 0, .int .i64 0, .string ⟨#[]⟩] [.int .i64 1, .int .i64 n, .int .i64 0, .string ⟨#[]⟩] rfl rfl info_tt rfl HOn.out HK3.out HX3.out hle ?_; intro wz kz Xz gz)
    (try simp only [Exit.inBlock, Exit.then])
    refine bodyPost_ret (ret_agg2 rfl _ _ w.heap.size [.int .i64 1, .int .i64 n, .int .i64 0, .string ⟨#[]⟩] rfl kz Tryz.underlying192 info_tt) rfl ?_
    rw [HD6.out, d6]
    exact ⟨rfl, Xz⟩
end Go.Proofs.YtomfcgeibbicoaaGreat
namespace Go.Proofs.YtomfcgeibbicoaaGreat
open Go.RowKit
set_option maxHeartbeats 1000000 in
set_option maxRecDepth 100000 in
theorem indexByte_calls (s : ByteArray) (c : Int) (w : World) : Calls Tryz.prog 281 #[.string s, .int .u8 c] w fun e w' => e = .returned (.int .i64 (Lib.indexByte s.data.toList c.toNat.toUInt8)) ∧ w' = w := by
  go_enter Tryz.func281, Tryz.ntmps281
  go_wp2
  rw [run_callFunc_extern Tryz.func285 (by kernel_rfl) (by kernel_rfl) (by kernel_rfl) (e := Extern.BytealgIndexByte.indexByte) (by kernel_rfl), Lib.run_indexByteString]
  simp only [Result.andThen]
  rw [Oper.upon_value]
  go_wp2
  go_ret
  exact ⟨rfl, rfl⟩
set_option maxHeartbeats 1000000 in
set_option maxRecDepth 100000 in
theorem index1_calls (s : ByteArray) (w : World) : Calls Tryz.prog 280 #[.string s, .string ⟨#[45]⟩] w fun e w' => e = .returned (.int .i64 (Lib.indexByte s.data.toList 45)) ∧ w' = w := by
  go_enter Tryz.func280, Tryz.ntmps280
  go_wp2_with (go_at_call 281; refine (indexByte_calls _ _ _).mono ?_; rintro e w' ⟨rfl, rfl⟩)
  · have h : ([45] == s.toList) = true := by assumption
    go_ret
    refine ⟨?_, rfl⟩
    have e : s.data.toList = [45] := by rw [← Lib.toList_data]; exact (beq_iff_eq.1 h).symm
    rw [e]
    simp [Lib.indexByte]
  · go_ret
    exact ⟨rfl, rfl⟩
theorem index_in : ∀ (l : List UInt8) (c : UInt8), Lib.indexByte l c = -1 ∨ (0 ≤ Lib.indexByte l c ∧ Lib.indexByte l c < (l.length : Int))
  | [], _ => .inl rfl
  | b :: l, c => by
    have ih := index_in l c
    unfold Lib.indexByte
    rw [List.length_cons]
    split
    · right; omega
    · split
      · left; rfl
      · rename_i h
        right
        rcases ih with ih | ih
        · rw [ih] at h; exact absurd rfl h
        · omega
/-- Where the first dash stands; -1: nowhere. -/
def dashS (s : ByteArray) : Int := Lib.indexByte s.data.toList 45
theorem dash_in (s : ByteArray) : dashS s = -1 ∨ (0 ≤ dashS s ∧ dashS s < (s.size : Int)) := index_in s.data.toList 45
/-- A text cut at its first dash. -/
def cutD (s : ByteArray) : ByteArray × ByteArray × Bool := if 0 ≤ dashS s then (s.extract 0 (dashS s).toNat, s.extract ((dashS s).toNat + 1) s.size, true) else (s, ⟨#[]⟩, false)
set_option maxHeartbeats 2000000 in
set_option maxRecDepth 100000 in
theorem cutd_calls (s : ByteArray) (w : World) (hs : s.size ≤ 9223372036854775806) : Calls Tryz.prog 277 #[.string s, .string ⟨#[45]⟩] w fun e w' => e = .returned (.tuple #[.string (cutD s).1, .string (cutD s).2.1, .bool (cutD s).2.2]) ∧ Ex w w' := by
  have HI := Lib.hid (show ∀ w, Calls Tryz.prog 280 #[.string s, .string ⟨#[45]⟩] w fun e w' => e = .returned (.int .i64 (dashS s)) ∧ w' = w from fun w => index1_calls s w)
  rcases dash_in s with h | ⟨h0, h1⟩
  · have hE : cutD s = (s, ⟨#[]⟩, false) := by unfold cutD; rw [if_neg (by omega)]
    rw [hE]
    rw [h] at HI
    go_enter Tryz.func277, Tryz.ntmps277
    go_wp2_with fail
    refine (HI.out _).mono ?_
    rintro e w1 ⟨rfl, rfl⟩
    go_wp2_with fail
    go_ret3
    exact ⟨rfl, Ex.refl _⟩
  · have hE : cutD s = (s.extract 0 (dashS s).toNat, s.extract ((dashS s).toNat + 1) s.size, true) := by unfold cutD; rw [if_pos h0]
    rw [hE]
    obtain ⟨k, hk⟩ : ∃ k : Nat, dashS s = (k : Int) := ⟨(dashS s).toNat, by omega⟩
    rw [hk] at HI ⊢
    have hkn : ((k : Int)).toNat = k := by omega
    rw [hkn]
    have hks : (k : Int) < (s.size : Int) := by omega
    have hks1 : (k : Int) ≤ (s.size : Int) := by omega
    have hks2 : (k : Int) + 1 ≤ (s.size : Int) := by omega
    have hk0 : (0 : Int) ≤ (k : Int) := by omega
    have hk1 : (0 : Int) ≤ (k : Int) + 1 := by omega
    have hkn1 : ((k : Int) + 1).toNat = k + 1 := by omega
    have hkw : IntKind.i64.wrap ((k : Int) + 1) = (k : Int) + 1 := IntWalk.i64_in _ (by omega)
    have d0 : decide ((0 : Int) ≤ (k : Int)) = true := decide_eq_true hk0
    clear hE hk h0 h1
    go_enter Tryz.func277, Tryz.ntmps277
    go_wp2_with fail
    refine (HI.out _).mono ?_
    rintro e w1 ⟨rfl, rfl⟩
    go_wp2_with fail
    go_region
    all_goals go_wp2_with fail
    all_goals go_ret3
    all_goals exact ⟨rfl, (Ex.refl w1).drew⟩
theorem strcut_calls (s : ByteArray) (w : World) (hs : s.size ≤ 9223372036854775806) : Calls Tryz.prog 262 #[.string s, .string ⟨#[45]⟩] w fun e w' => e = .returned (.tuple #[.string (cutD s).1, .string (cutD s).2.1, .bool (cutD s).2.2]) ∧ Ex w w' := by
  go_enter Tryz.func262, Tryz.ntmps262
  go_wp2_with fail
  refine (cutd_calls s _ hs).mono ?_
  rintro e w1 ⟨rfl, hb⟩
  go_wp2_with fail
  go_ret3
  exact ⟨rfl, hb⟩
def logR (s : ByteArray) : ByteArray := (cutP s frLog).1
def logT (s : ByteArray) : TitV × Bool :=
  (⟨2, (numP (cutD (logR s)).1).1, (numP (cutD (logR s)).2.1).1, ⟨#[]⟩⟩, (cutP s frLog).2 && (cutD (logR s)).2.2 && (numP (cutD (logR s)).1).2 && (numP (cutD (logR s)).2.1).2 && decide ((cutD (logR s)).1.size = 6) && decide ((cutD (logR s)).2.1.size = 4))
theorem cutP_size (s p : ByteArray) : (cutP s p).1.size ≤ s.size := by
  unfold cutP
  split
  · rw [ByteArray.size_extract]; omega
  · exact Nat.le_refl _
set_option maxHeartbeats 4000000 in
set_option maxRecDepth 100000 in
theorem log_calls (s : ByteArray) (w : World) (hs : s.size ≤ 9223372036854775806) : Calls Tryz.prog 234 #[.string s] w fun e w' => e = .returned (.tuple #[.agg (logT s).1.cs.toArray, .bool (logT s).2]) ∧ Ex w w' := by
  have HK := Lib.hid (Blk.new w TitV.none.cs 192)
  have HX := Lib.hid (ex_alloc (Ex.refl w) (.cells TitV.none.cs.toArray 192))
  have hle := Nat.le_refl w.heap.size
  have HC := Lib.hid (fun w => cutPrefix_calls s frLog w)
  have hrs : (logR s).size ≤ 9223372036854775806 := Nat.le_trans (cutP_size s frLog) hs
  have HD := Lib.hid (fun w => strcut_calls (logR s) w hrs)
  have hT : logT s = (⟨2, (numP (cutD (logR s)).1).1, (numP (cutD (logR s)).2.1).1, ⟨#[]⟩⟩, (cutP s frLog).2 && (cutD (logR s)).2.2 && (numP (cutD (logR s)).1).2 && (numP (cutD (logR s)).2.1).2 && decide ((cutD (logR s)).1.size = 6) && decide ((cutD (logR s)).2.1.size = 4)) := rfl
  obtain ⟨r, hr⟩ : ∃ r, logR s = r := ⟨_, rfl⟩
  obtain ⟨ok, hok⟩ : ∃ b, (cutP s frLog).2 = b := ⟨_, rfl⟩
  obtain ⟨d, p, two, hd⟩ : ∃ d p two, cutD r = (d, p, two) := ⟨_, _, _, rfl⟩
  have HP := Lib.hid (fun w => parse_calls d w)
  have HR := Lib.hid (fun w => parse_calls p w)
  obtain ⟨n, fine, hn⟩ : ∃ n b, numP d = (n, b) := ⟨_, _, rfl⟩
  obtain ⟨k, good, hk⟩ : ∃ n b, numP p = (n, b) := ⟨_, _, rfl⟩
  rw [show (cutP s frLog).1 = r from hr, hok] at HC
  rw [hr, hd] at HD
  rw [hn] at HP
  rw [hk] at HR
  rw [hr, hd, hok] at hT
  simp only at hT
  rw [hn, hk] at hT
  rw [hT]
  clear hT hr hok hd hn hk hrs hs
  unfold TitV.none TitV.cs at HK HX
  have HOn := Lib.hid (TitV.one ⟨2, n, k, ⟨#[]⟩⟩)
  unfold TitV.cs at HOn ⊢
  obtain ⟨rb, hrb⟩ : ∃ rb, (ok && two && fine && good && decide (d.size = 6) && decide (p.size = 4)) = rb := ⟨_, rfl⟩
  simp only
  rw [hrb]
  cases ok
  · have HRB := Lib.hid (show rb = false from by rw [← hrb]; simp)
    clear hrb
    go_enter Tryz.func234, Tryz.ntmps234
    go_wp2_with fail
    refine (front2_calls _).mono ?_
    rintro e w1 ⟨rfl, hb1⟩
    have HK1 := Lib.hid (HK.out.ex hb1)
    have HX1 := Lib.hid (HX.out.trans hb1)
    clear hb1
    go_wp2_with fail
    refine (HC.out _).mono ?_
    rintro e w2 ⟨rfl, hb2⟩
    have HK2 := Lib.hid (HK1.out.ex hb2)
    have HX2 := Lib.hid (HX1.out.trans hb2)
    clear hb2
    go_wp2_with fail
    refine (HD.out _).mono ?_
    rintro e w3 ⟨rfl, hb3⟩
    have HK3 := Lib.hid (HK2.out.ex hb3)
    have HX3 := Lib.hid (HX2.out.trans hb3)
    clear hb3
    go_wp2_with fail
    refine (HP.out _).mono ?_
    rintro e w4 ⟨rfl, hb4⟩
    have HK4 := Lib.hid (HK3.out.ex hb4)
    have HX4 := Lib.hid (HX3.out.trans hb4)
    clear hb4
    go_wp2_with fail
    refine (HR.out _).mono ?_
    rintro e w5 ⟨rfl, hb5⟩
    have HK5 := Lib.hid (HK4.out.ex hb5)
    have HX5 := Lib.hid (HX4.out.trans hb5)
    clear hb5
    go_wp2_with (refine st_agg 192 rfl (.tmp 2) (.tmp 37) rfl w.heap.size [.int .i64 0, .int .i64 0, .int .i64 0, .string ⟨#[]⟩] [.int .i64 2, .int .i64 n, .int .i64 k, .string ⟨#[]⟩] rfl rfl info_tt rfl HOn.out HK5.out HX5.out hle ?_; intro wz kz Xz gz)
    (try simp only [Exit.inBlock, Exit.then])
    refine bodyPost_ret (ret_agg2 rfl _ _ w.heap.size [.int .i64 2, .int .i64 n, .int .i64 k, .string ⟨#[]⟩] rfl kz Tryz.underlying192 info_tt) rfl ?_
    rw [HRB.out]
    exact ⟨rfl, Xz⟩
  cases two
  · have HRB := Lib.hid (show rb = false from by rw [← hrb]; simp)
    clear hrb
    go_enter Tryz.func234, Tryz.ntmps234
    go_wp2_with fail
    refine (front2_calls _).mono ?_
    rintro e w1 ⟨rfl, hb1⟩
    have HK1 := Lib.hid (HK.out.ex hb1)
    have HX1 := Lib.hid (HX.out.trans hb1)
    clear hb1
    go_wp2_with fail
    refine (HC.out _).mono ?_
    rintro e w2 ⟨rfl, hb2⟩
    have HK2 := Lib.hid (HK1.out.ex hb2)
    have HX2 := Lib.hid (HX1.out.trans hb2)
    clear hb2
    go_wp2_with fail
    refine (HD.out _).mono ?_
    rintro e w3 ⟨rfl, hb3⟩
    have HK3 := Lib.hid (HK2.out.ex hb3)
    have HX3 := Lib.hid (HX2.out.trans hb3)
    clear hb3
    go_wp2_with fail
    refine (HP.out _).mono ?_
    rintro e w4 ⟨rfl, hb4⟩
    have HK4 := Lib.hid (HK3.out.ex hb4)
    have HX4 := Lib.hid (HX3.out.trans hb4)
    clear hb4
    go_wp2_with fail
    refine (HR.out _).mono ?_
    rintro e w5 ⟨rfl, hb5⟩
    have HK5 := Lib.hid (HK4.out.ex hb5)
    have HX5 := Lib.hid (HX4.out.trans hb5)
    clear hb5
    go_wp2_with (refine st_agg 192 rfl (.tmp 2) (.tmp 37) rfl w.heap.size [.int .i64 0, .int .i64 0, .int .i64 0, .string ⟨#[]⟩] [.int .i64 2, .int .i64 n, .int .i64 k, .string ⟨#[]⟩] rfl rfl info_tt rfl HOn.out HK5.out HX5.out hle ?_; intro wz kz Xz gz)
    (try simp only [Exit.inBlock, Exit.then])
    refine bodyPost_ret (ret_agg2 rfl _ _ w.heap.size [.int .i64 2, .int .i64 n, .int .i64 k, .string ⟨#[]⟩] rfl kz Tryz.underlying192 info_tt) rfl ?_
    rw [HRB.out]
    exact ⟨rfl, Xz⟩
  cases fine
  · have HRB := Lib.hid (show rb = false from by rw [← hrb]; simp)
    clear hrb
    go_enter Tryz.func234, Tryz.ntmps234
    go_wp2_with fail
    refine (front2_calls _).mono ?_
    rintro e w1 ⟨rfl, hb1⟩
    have HK1 := Lib.hid (HK.out.ex hb1)
    have HX1 := Lib.hid (HX.out.trans hb1)
    clear hb1
    go_wp2_with fail
    refine (HC.out _).mono ?_
    rintro e w2 ⟨rfl, hb2⟩
    have HK2 := Lib.hid (HK1.out.ex hb2)
    have HX2 := Lib.hid (HX1.out.trans hb2)
    clear hb2
    go_wp2_with fail
    refine (HD.out _).mono ?_
    rintro e w3 ⟨rfl, hb3⟩
    have HK3 := Lib.hid (HK2.out.ex hb3)
    have HX3 := Lib.hid (HX2.out.trans hb3)
    clear hb3
    go_wp2_with fail
    refine (HP.out _).mono ?_
    rintro e w4 ⟨rfl, hb4⟩
    have HK4 := Lib.hid (HK3.out.ex hb4)
    have HX4 := Lib.hid (HX3.out.trans hb4)
    clear hb4
    go_wp2_with fail
    refine (HR.out _).mono ?_
    rintro e w5 ⟨rfl, hb5⟩
    have HK5 := Lib.hid (HK4.out.ex hb5)
    have HX5 := Lib.hid (HX4.out.trans hb5)
    clear hb5
    go_wp2_with (refine st_agg 192 rfl (.tmp 2) (.tmp 37) rfl w.heap.size [.int .i64 0, .int .i64 0, .int .i64 0, .string ⟨#[]⟩] [.int .i64 2, .int .i64 n, .int .i64 k, .string ⟨#[]⟩] rfl rfl info_tt rfl HOn.out HK5.out HX5.out hle ?_; intro wz kz Xz gz)
    (try simp only [Exit.inBlock, Exit.then])
    refine bodyPost_ret (ret_agg2 rfl _ _ w.heap.size [.int .i64 2, .int .i64 n, .int .i64 k, .string ⟨#[]⟩] rfl kz Tryz.underlying192 info_tt) rfl ?_
    rw [HRB.out]
    exact ⟨rfl, Xz⟩
  cases good
  · have HRB := Lib.hid (show rb = false from by rw [← hrb]; simp)
    clear hrb
    go_enter Tryz.func234, Tryz.ntmps234
    go_wp2_with fail
    refine (front2_calls _).mono ?_
    rintro e w1 ⟨rfl, hb1⟩
    have HK1 := Lib.hid (HK.out.ex hb1)
    have HX1 := Lib.hid (HX.out.trans hb1)
    clear hb1
    go_wp2_with fail
    refine (HC.out _).mono ?_
    rintro e w2 ⟨rfl, hb2⟩
    have HK2 := Lib.hid (HK1.out.ex hb2)
    have HX2 := Lib.hid (HX1.out.trans hb2)
    clear hb2
    go_wp2_with fail
    refine (HD.out _).mono ?_
    rintro e w3 ⟨rfl, hb3⟩
    have HK3 := Lib.hid (HK2.out.ex hb3)
    have HX3 := Lib.hid (HX2.out.trans hb3)
    clear hb3
    go_wp2_with fail
    refine (HP.out _).mono ?_
    rintro e w4 ⟨rfl, hb4⟩
    have HK4 := Lib.hid (HK3.out.ex hb4)
    have HX4 := Lib.hid (HX3.out.trans hb4)
    clear hb4
    go_wp2_with fail
    refine (HR.out _).mono ?_
    rintro e w5 ⟨rfl, hb5⟩
    have HK5 := Lib.hid (HK4.out.ex hb5)
    have HX5 := Lib.hid (HX4.out.trans hb5)
    clear hb5
    go_wp2_with (refine st_agg 192 rfl (.tmp 2) (.tmp 37) rfl w.heap.size [.int .i64 0, .int .i64 0, .int .i64 0, .string ⟨#[]⟩] [.int .i64 2, .int .i64 n, .int .i64 k, .string ⟨#[]⟩] rfl rfl info_tt rfl HOn.out HK5.out HX5.out hle ?_; intro wz kz Xz gz)
    (try simp only [Exit.inBlock, Exit.then])
    refine bodyPost_ret (ret_agg2 rfl _ _ w.heap.size [.int .i64 2, .int .i64 n, .int .i64 k, .string ⟨#[]⟩] rfl kz Tryz.underlying192 info_tt) rfl ?_
    rw [HRB.out]
    exact ⟨rfl, Xz⟩
  by_cases h6 : d.size = 6
  case neg =>
    have HRB := Lib.hid (show rb = false from by rw [← hrb]; simp [h6])
    have d6 : decide ((d.size : Int) = 6) = false := decide_eq_false (by omega)
    have e6 : ((d.size : Int) == 6) = false := beq_eq_false_iff_ne.2 (by omega)
    clear hrb h6
    go_enter Tryz.func234, Tryz.ntmps234
    go_wp2_with fail
    refine (front2_calls _).mono ?_
    rintro e w1 ⟨rfl, hb1⟩
    have HK1 := Lib.hid (HK.out.ex hb1)
    have HX1 := Lib.hid (HX.out.trans hb1)
    clear hb1
    go_wp2_with fail
    refine (HC.out _).mono ?_
    rintro e w2 ⟨rfl, hb2⟩
    have HK2 := Lib.hid (HK1.out.ex hb2)
    have HX2 := Lib.hid (HX1.out.trans hb2)
    clear hb2
    go_wp2_with fail
    refine (HD.out _).mono ?_
    rintro e w3 ⟨rfl, hb3⟩
    have HK3 := Lib.hid (HK2.out.ex hb3)
    have HX3 := Lib.hid (HX2.out.trans hb3)
    clear hb3
    go_wp2_with fail
    refine (HP.out _).mono ?_
    rintro e w4 ⟨rfl, hb4⟩
    have HK4 := Lib.hid (HK3.out.ex hb4)
    have HX4 := Lib.hid (HX3.out.trans hb4)
    clear hb4
    go_wp2_with fail
    refine (HR.out _).mono ?_
    rintro e w5 ⟨rfl, hb5⟩
    have HK5 := Lib.hid (HK4.out.ex hb5)
    have HX5 := Lib.hid (HX4.out.trans hb5)
    clear hb5
    go_wp2_with (refine st_agg 192 rfl (.tmp 2) (.tmp 37) rfl w.heap.size [.int .i64 0, .int .i64 0, .int .i64 0, .string ⟨#[]⟩] [.int .i64 2, .int .i64 n, .int .i64 k, .string ⟨#[]⟩] rfl rfl info_tt rfl HOn.out HK5.out HX5.out hle ?_; intro wz kz Xz gz)
    (try simp only [Exit.inBlock, Exit.then])
    refine bodyPost_ret (ret_agg2 rfl _ _ w.heap.size [.int .i64 2, .int .i64 n, .int .i64 k, .string ⟨#[]⟩] rfl kz Tryz.underlying192 info_tt) rfl ?_
    rw [HRB.out]
    exact ⟨rfl, Xz⟩
  have d6 : decide ((d.size : Int) = 6) = true := decide_eq_true (by omega)
  have e6 : ((d.size : Int) == 6) = true := beq_iff_eq.2 (by omega)
  by_cases h4 : p.size = 4
  case neg =>
    have HRB := Lib.hid (show rb = false from by rw [← hrb]; simp [h4])
    have d4 : decide ((p.size : Int) = 4) = false := decide_eq_false (by omega)
    have e4 : ((p.size : Int) == 4) = false := beq_eq_false_iff_ne.2 (by omega)
    clear hrb h6 h4
    go_enter Tryz.func234, Tryz.ntmps234
    go_wp2_with fail
    refine (front2_calls _).mono ?_
    rintro e w1 ⟨rfl, hb1⟩
    have HK1 := Lib.hid (HK.out.ex hb1)
    have HX1 := Lib.hid (HX.out.trans hb1)
    clear hb1
    go_wp2_with fail
    refine (HC.out _).mono ?_
    rintro e w2 ⟨rfl, hb2⟩
    have HK2 := Lib.hid (HK1.out.ex hb2)
    have HX2 := Lib.hid (HX1.out.trans hb2)
    clear hb2
    go_wp2_with fail
    refine (HD.out _).mono ?_
    rintro e w3 ⟨rfl, hb3⟩
    have HK3 := Lib.hid (HK2.out.ex hb3)
    have HX3 := Lib.hid (HX2.out.trans hb3)
    clear hb3
    go_wp2_with fail
    refine (HP.out _).mono ?_
    rintro e w4 ⟨rfl, hb4⟩
    have HK4 := Lib.hid (HK3.out.ex hb4)
    have HX4 := Lib.hid (HX3.out.trans hb4)
    clear hb4
    go_wp2_with fail
    refine (HR.out _).mono ?_
    rintro e w5 ⟨rfl, hb5⟩
    have HK5 := Lib.hid (HK4.out.ex hb5)
    have HX5 := Lib.hid (HX4.out.trans hb5)
    clear hb5
    go_wp2_with (refine st_agg 192 rfl (.tmp 2) (.tmp 37) rfl w.heap.size [.int .i64 0, .int .i64 0, .int .i64 0, .string ⟨#[]⟩] [.int .i64 2, .int .i64 n, .int .i64 k, .string ⟨#[]⟩] rfl rfl info_tt rfl HOn.out HK5.out HX5.out hle ?_; intro wz kz Xz gz)
    (try simp only [Exit.inBlock, Exit.then])
    refine bodyPost_ret (ret_agg2 rfl _ _ w.heap.size [.int .i64 2, .int .i64 n, .int .i64 k, .string ⟨#[]⟩] rfl kz Tryz.underlying192 info_tt) rfl ?_
    rw [HRB.out]
    exact ⟨rfl, Xz⟩
  have d4 : decide ((p.size : Int) = 4) = true := decide_eq_true (by omega)
  have e4 : ((p.size : Int) == 4) = true := beq_iff_eq.2 (by omega)
  have HRB := Lib.hid (show rb = true from by rw [← hrb]; simp [h6, h4])
  clear hrb h6 h4
  go_enter Tryz.func234, Tryz.ntmps234
  go_wp2_with fail
  refine (front2_calls _).mono ?_
  rintro e w1 ⟨rfl, hb1⟩
  have HK1 := Lib.hid (HK.out.ex hb1)
  have HX1 := Lib.hid (HX.out.trans hb1)
  clear hb1
  go_wp2_with fail
  refine (HC.out _).mono ?_
  rintro e w2 ⟨rfl, hb2⟩
  have HK2 := Lib.hid (HK1.out.ex hb2)
  have HX2 := Lib.hid (HX1.out.trans hb2)
  clear hb2
  go_wp2_with fail
  refine (HD.out _).mono ?_
  rintro e w3 ⟨rfl, hb3⟩
  have HK3 := Lib.hid (HK2.out.ex hb3)
  have HX3 := Lib.hid (HX2.out.trans hb3)
  clear hb3
  go_wp2_with fail
  refine (HP.out _).mono ?_
  rintro e w4 ⟨rfl, hb4⟩
  have HK4 := Lib.hid (HK3.out.ex hb4)
  have HX4 := Lib.hid (HX3.out.trans hb4)
  clear hb4
  go_wp2_with fail
  refine (HR.out _).mono ?_
  rintro e w5 ⟨rfl, hb5⟩
  have HK5 := Lib.hid (HK4.out.ex hb5)
  have HX5 := Lib.hid (HX4.out.trans hb5)
  clear hb5
  go_wp2_with (refine st_agg 192 rfl (.tmp 2) (.tmp 37) rfl w.heap.size [.int .i64 0, .int .i64 0, .int .i64 0, .string ⟨#[]⟩] [.int .i64 2, .int .i64 n, .int .i64 k, .string ⟨#[]⟩] rfl rfl info_tt rfl HOn.out HK5.out HX5.out hle ?_; intro wz kz Xz gz)
  (try simp only [Exit.inBlock, Exit.then])
  refine bodyPost_ret (ret_agg2 rfl _ _ w.heap.size [.int .i64 2, .int .i64 n, .int .i64 k, .string ⟨#[]⟩] rfl kz Tryz.underlying192 info_tt) rfl ?_
  rw [HRB.out]
  exact ⟨rfl, Xz⟩
end Go.Proofs.YtomfcgeibbicoaaGreat
namespace Go.Proofs.YtomfcgeibbicoaaGreat
open Go.RowKit
/-- What a name is. -/
def titR (s : ByteArray) : TitV :=
  if (chkT s).2 = true then (chkT s).1 else if (logT s).2 = true then (logT s).1 else if (hasP s frTemp && mayB s) = true then ⟨3, 0, 0, ⟨#[]⟩⟩ else
    if ((cutP s frExp).2 && userB (cutP s frExp).1) = true then ⟨4, 0, 0, (cutP s frExp).1⟩ else ⟨0, 0, 0, ⟨#[]⟩⟩
set_option maxHeartbeats 4000000 in
set_option maxRecDepth 100000 in
theorem tread_calls (s : ByteArray) (w : World) (hs : s.size ≤ 9223372036854775806) : Calls Tryz.prog 220 #[.string s] w fun e w' => e = .returned (.agg (titR s).cs.toArray) ∧ Ex w w' := by
  have HK := Lib.hid (Blk.new w TitV.none.cs 192)
  have HX := Lib.hid (ex_alloc (Ex.refl w) (.cells TitV.none.cs.toArray 192))
  have hle := Nat.le_refl w.heap.size
  have HC := Lib.hid (fun w => check_calls s w)
  have HL := Lib.hid (fun w => log_calls s w hs)
  obtain ⟨r, hr⟩ : ∃ r, titR s = r := ⟨_, rfl⟩
  rw [hr]
  have HR := Lib.hid (show r = titR s from hr.symm)
  clear hr
  obtain ⟨⟨ck, ce, cp, cn⟩, cb, hc⟩ : ∃ t b, chkT s = (t, b) := ⟨_, _, rfl⟩
  obtain ⟨⟨lk, le, lp, ln⟩, lb, hl⟩ : ∃ t b, logT s = (t, b) := ⟨_, _, rfl⟩
  rw [hc] at HC
  rw [hl] at HL
  have HT := Lib.hid (show titR s = if cb = true then ⟨ck, ce, cp, cn⟩ else if lb = true then ⟨lk, le, lp, ln⟩ else if (hasP s frTemp && mayB s) = true then ⟨3, 0, 0, ⟨#[]⟩⟩ else if ((cutP s frExp).2 && userB (cutP s frExp).1) = true then ⟨4, 0, 0, (cutP s frExp).1⟩ else ⟨0, 0, 0, ⟨#[]⟩⟩ from by unfold titR; rw [hc, hl])
  have HP := Lib.hid (fun w => hasPrefix_calls s frTemp w)
  have HE := Lib.hid (fun w => cutPrefix_calls s frExp w)
  obtain ⟨x, xb, hx⟩ : ∃ x b, cutP s frExp = (x, b) := ⟨_, _, rfl⟩
  obtain ⟨pb, hp⟩ : ∃ b, hasP s frTemp = b := ⟨_, rfl⟩
  rw [hx] at HE HT
  rw [hp] at HP HT
  have HM := Lib.hid (fun w => may_calls s w)
  have HU := Lib.hid (fun w => user_calls x w)
  obtain ⟨mb, hm⟩ : ∃ b, mayB s = b := ⟨_, rfl⟩
  obtain ⟨ub, hu⟩ : ∃ b, userB x = b := ⟨_, rfl⟩
  rw [hm] at HM HT
  rw [hu, show (x, xb).1 = x from rfl] at HT
  rw [hu] at HU
  clear hc hl hx hp hm hu hs
  unfold TitV.none TitV.cs at HK HX
  unfold TitV.cs at HC HL
  go_enter Tryz.func220, Tryz.ntmps220
  go_wp2_with fail
  refine (HC.out _).mono ?_
  rintro e w1 ⟨rfl, hb1⟩
  have HK1 := Lib.hid (HK.out.ex (ex_alloc hb1 (.cells #[.int .i64 ck, .int .i64 ce, .int .i64 cp, .string cn] 192)))
  have HX1 := Lib.hid (HX.out.trans (ex_alloc hb1 (.cells #[.int .i64 ck, .int .i64 ce, .int .i64 cp, .string cn] 192)))
  clear hb1
  cases cb
  case true =>
    have HOn := Lib.hid (TitV.one ⟨ck, ce, cp, cn⟩)
    unfold TitV.cs at HOn
    have HQ := Lib.hid (show r = ⟨ck, ce, cp, cn⟩ from by rw [HR.out, HT.out]; rfl)
    go_wp2_with (refine st_agg 192 rfl (.tmp 2) (.tmp 15) rfl w.heap.size [.int .i64 0, .int .i64 0, .int .i64 0, .string ⟨#[]⟩] [.int .i64 ck, .int .i64 ce, .int .i64 cp, .string cn] rfl rfl info_tt rfl HOn.out HK1.out HX1.out hle ?_; intro wz kz Xz gz)
    (try simp only [Exit.inBlock, Exit.then])
    refine bodyPost_ret (ret_agg1 rfl _ _ w.heap.size [.int .i64 ck, .int .i64 ce, .int .i64 cp, .string cn] rfl kz Tryz.underlying192 info_tt) rfl ?_
    rw [HQ.out]
    exact ⟨rfl, Xz⟩
  go_wp2_with fail
  refine (HL.out _).mono ?_
  rintro e w2 ⟨rfl, hb2⟩
  have HK2 := Lib.hid (HK1.out.ex (ex_alloc hb2 (.cells #[.int .i64 lk, .int .i64 le, .int .i64 lp, .string ln] 192)))
  have HX2 := Lib.hid (HX1.out.trans (ex_alloc hb2 (.cells #[.int .i64 lk, .int .i64 le, .int .i64 lp, .string ln] 192)))
  clear hb2
  cases lb
  case true =>
    have HOn := Lib.hid (TitV.one ⟨lk, le, lp, ln⟩)
    unfold TitV.cs at HOn
    have HQ := Lib.hid (show r = ⟨lk, le, lp, ln⟩ from by rw [HR.out, HT.out]; rfl)
    go_wp2_with (refine st_agg 192 rfl (.tmp 2) (.tmp 22) rfl w.heap.size [.int .i64 0, .int .i64 0, .int .i64 0, .string ⟨#[]⟩] [.int .i64 lk, .int .i64 le, .int .i64 lp, .string ln] rfl rfl info_tt rfl HOn.out HK2.out HX2.out hle ?_; intro wz kz Xz gz)
    (try simp only [Exit.inBlock, Exit.then])
    refine bodyPost_ret (ret_agg1 rfl _ _ w.heap.size [.int .i64 lk, .int .i64 le, .int .i64 lp, .string ln] rfl kz Tryz.underlying192 info_tt) rfl ?_
    rw [HQ.out]
    exact ⟨rfl, Xz⟩
  go_wp2_with fail
  refine (front3_calls _).mono ?_
  rintro e w3 ⟨rfl, hb3⟩
  have HK3 := Lib.hid (HK2.out.ex hb3)
  have HX3 := Lib.hid (HX2.out.trans hb3)
  clear hb3
  go_wp2_with fail
  refine (HP.out _).mono ?_
  rintro e w4 ⟨rfl, hb4⟩
  have HK4 := Lib.hid (HK3.out.ex hb4)
  have HX4 := Lib.hid (HX3.out.trans hb4)
  clear hb4
  cases pb
  case false =>
    go_wp2_with fail
    refine (front4_calls _).mono ?_
    rintro e w5 ⟨rfl, hb5⟩
    have HK5 := Lib.hid (HK4.out.ex hb5)
    have HX5 := Lib.hid (HX4.out.trans hb5)
    clear hb5
    go_wp2_with fail
    refine (HE.out _).mono ?_
    rintro e w6 ⟨rfl, hb6⟩
    have HK6 := Lib.hid (HK5.out.ex hb6)
    have HX6 := Lib.hid (HX5.out.trans hb6)
    clear hb6
    cases xb
    case false =>
      have HOn := Lib.hid (TitV.one ⟨0, 0, 0, ⟨#[]⟩⟩)
      unfold TitV.cs at HOn
      have HQ := Lib.hid (show r = ⟨0, 0, 0, ⟨#[]⟩⟩ from by rw [HR.out, HT.out]; rfl)
      go_wp2_with (refine st_agg 192 rfl (.tmp 2) (.tmp 44) rfl w.heap.size [.int .i64 0, .int .i64 0, .int .i64 0, .string ⟨#[]⟩] [.int .i64 0, .int .i64 0, .int .i64 0, .string ⟨#[]⟩] rfl rfl info_tt rfl HOn.out HK6.out HX6.out hle ?_; intro wz kz Xz gz)
      (try simp only [Exit.inBlock, Exit.then])
      refine bodyPost_ret (ret_agg1 rfl _ _ w.heap.size [.int .i64 0, .int .i64 0, .int .i64 0, .string ⟨#[]⟩] rfl kz Tryz.underlying192 info_tt) rfl ?_
      rw [HQ.out]
      exact ⟨rfl, Xz⟩
    go_wp2_with fail
    refine (HU.out _).mono ?_
    rintro e w7 ⟨rfl, hb7⟩
    have HK7 := Lib.hid (HK6.out.ex hb7)
    have HX7 := Lib.hid (HX6.out.trans hb7)
    clear hb7
    cases ub
    case false =>
      have HOn := Lib.hid (TitV.one ⟨0, 0, 0, ⟨#[]⟩⟩)
      unfold TitV.cs at HOn
      have HQ := Lib.hid (show r = ⟨0, 0, 0, ⟨#[]⟩⟩ from by rw [HR.out, HT.out]; rfl)
      go_wp2_with (refine st_agg 192 rfl (.tmp 2) (.tmp 44) rfl w.heap.size [.int .i64 0, .int .i64 0, .int .i64 0, .string ⟨#[]⟩] [.int .i64 0, .int .i64 0, .int .i64 0, .string ⟨#[]⟩] rfl rfl info_tt rfl HOn.out HK7.out HX7.out hle ?_; intro wz kz Xz gz)
      (try simp only [Exit.inBlock, Exit.then])
      refine bodyPost_ret (ret_agg1 rfl _ _ w.heap.size [.int .i64 0, .int .i64 0, .int .i64 0, .string ⟨#[]⟩] rfl kz Tryz.underlying192 info_tt) rfl ?_
      rw [HQ.out]
      exact ⟨rfl, Xz⟩
    have HOn := Lib.hid (TitV.one ⟨4, 0, 0, x⟩)
    unfold TitV.cs at HOn
    have HQ := Lib.hid (show r = ⟨4, 0, 0, x⟩ from by rw [HR.out, HT.out]; rfl)
    go_wp2_with (refine st_agg 192 rfl (.tmp 2) (.tmp 43) rfl w.heap.size [.int .i64 0, .int .i64 0, .int .i64 0, .string ⟨#[]⟩] [.int .i64 4, .int .i64 0, .int .i64 0, .string x] rfl rfl info_tt rfl HOn.out HK7.out HX7.out hle ?_; intro wz kz Xz gz)
    (try simp only [Exit.inBlock, Exit.then])
    refine bodyPost_ret (ret_agg1 rfl _ _ w.heap.size [.int .i64 4, .int .i64 0, .int .i64 0, .string x] rfl kz Tryz.underlying192 info_tt) rfl ?_
    rw [HQ.out]
    exact ⟨rfl, Xz⟩
  go_wp2_with fail
  refine (HM.out _).mono ?_
  rintro e w5 ⟨rfl, hb5⟩
  have HK5 := Lib.hid (HK4.out.ex hb5)
  have HX5 := Lib.hid (HX4.out.trans hb5)
  clear hb5
  cases mb
  case false =>
    go_wp2_with fail
    refine (front4_calls _).mono ?_
    rintro e w6 ⟨rfl, hb6⟩
    have HK6 := Lib.hid (HK5.out.ex hb6)
    have HX6 := Lib.hid (HX5.out.trans hb6)
    clear hb6
    go_wp2_with fail
    refine (HE.out _).mono ?_
    rintro e w7 ⟨rfl, hb7⟩
    have HK7 := Lib.hid (HK6.out.ex hb7)
    have HX7 := Lib.hid (HX6.out.trans hb7)
    clear hb7
    cases xb
    case false =>
      have HOn := Lib.hid (TitV.one ⟨0, 0, 0, ⟨#[]⟩⟩)
      unfold TitV.cs at HOn
      have HQ := Lib.hid (show r = ⟨0, 0, 0, ⟨#[]⟩⟩ from by rw [HR.out, HT.out]; rfl)
      go_wp2_with (refine st_agg 192 rfl (.tmp 2) (.tmp 44) rfl w.heap.size [.int .i64 0, .int .i64 0, .int .i64 0, .string ⟨#[]⟩] [.int .i64 0, .int .i64 0, .int .i64 0, .string ⟨#[]⟩] rfl rfl info_tt rfl HOn.out HK7.out HX7.out hle ?_; intro wz kz Xz gz)
      (try simp only [Exit.inBlock, Exit.then])
      refine bodyPost_ret (ret_agg1 rfl _ _ w.heap.size [.int .i64 0, .int .i64 0, .int .i64 0, .string ⟨#[]⟩] rfl kz Tryz.underlying192 info_tt) rfl ?_
      rw [HQ.out]
      exact ⟨rfl, Xz⟩
    go_wp2_with fail
    refine (HU.out _).mono ?_
    rintro e w8 ⟨rfl, hb8⟩
    have HK8 := Lib.hid (HK7.out.ex hb8)
    have HX8 := Lib.hid (HX7.out.trans hb8)
    clear hb8
    cases ub
    case false =>
      have HOn := Lib.hid (TitV.one ⟨0, 0, 0, ⟨#[]⟩⟩)
      unfold TitV.cs at HOn
      have HQ := Lib.hid (show r = ⟨0, 0, 0, ⟨#[]⟩⟩ from by rw [HR.out, HT.out]; rfl)
      go_wp2_with (refine st_agg 192 rfl (.tmp 2) (.tmp 44) rfl w.heap.size [.int .i64 0, .int .i64 0, .int .i64 0, .string ⟨#[]⟩] [.int .i64 0, .int .i64 0, .int .i64 0, .string ⟨#[]⟩] rfl rfl info_tt rfl HOn.out HK8.out HX8.out hle ?_; intro wz kz Xz gz)
      (try simp only [Exit.inBlock, Exit.then])
      refine bodyPost_ret (ret_agg1 rfl _ _ w.heap.size [.int .i64 0, .int .i64 0, .int .i64 0, .string ⟨#[]⟩] rfl kz Tryz.underlying192 info_tt) rfl ?_
      rw [HQ.out]
      exact ⟨rfl, Xz⟩
    have HOn := Lib.hid (TitV.one ⟨4, 0, 0, x⟩)
    unfold TitV.cs at HOn
    have HQ := Lib.hid (show r = ⟨4, 0, 0, x⟩ from by rw [HR.out, HT.out]; rfl)
    go_wp2_with (refine st_agg 192 rfl (.tmp 2) (.tmp 43) rfl w.heap.size [.int .i64 0, .int .i64 0, .int .i64 0, .string ⟨#[]⟩] [.int .i64 4, .int .i64 0, .int .i64 0, .string x] rfl rfl info_tt rfl HOn.out HK8.out HX8.out hle ?_; intro wz kz Xz gz)
    (try simp only [Exit.inBlock, Exit.then])
    refine bodyPost_ret (ret_agg1 rfl _ _ w.heap.size [.int .i64 4, .int .i64 0, .int .i64 0, .string x] rfl kz Tryz.underlying192 info_tt) rfl ?_
    rw [HQ.out]
    exact ⟨rfl, Xz⟩
  have HOn := Lib.hid (TitV.one ⟨3, 0, 0, ⟨#[]⟩⟩)
  unfold TitV.cs at HOn
  have HQ := Lib.hid (show r = ⟨3, 0, 0, ⟨#[]⟩⟩ from by rw [HR.out, HT.out]; rfl)
  go_wp2_with (refine st_agg 192 rfl (.tmp 2) (.tmp 30) rfl w.heap.size [.int .i64 0, .int .i64 0, .int .i64 0, .string ⟨#[]⟩] [.int .i64 3, .int .i64 0, .int .i64 0, .string ⟨#[]⟩] rfl rfl info_tt rfl HOn.out HK5.out HX5.out hle ?_; intro wz kz Xz gz)
  (try simp only [Exit.inBlock, Exit.then])
  refine bodyPost_ret (ret_agg1 rfl _ _ w.heap.size [.int .i64 3, .int .i64 0, .int .i64 0, .string ⟨#[]⟩] rfl kz Tryz.underlying192 info_tt) rfl ?_
  rw [HQ.out]
  exact ⟨rfl, Xz⟩
end Go.Proofs.YtomfcgeibbicoaaGreat
