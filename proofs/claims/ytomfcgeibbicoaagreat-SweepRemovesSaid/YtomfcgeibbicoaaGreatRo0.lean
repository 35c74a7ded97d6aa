/- Plain law: what a name is, by the program and by the document, is the same. -/
import Derived.Test.YtomfcgeibbicoaaGreatTiV
import Derived.Test.YtomfcgeibbicoaaGreatRfK
namespace Go.Proofs.YtomfcgeibbicoaaGreat
open Go.RowKit
def Lb (s : ByteArray) : List UInt8 := s.data.toList
theorem lb_inj {a b : ByteArray} (h : Lb a = Lb b) : a = b := ba_data (Array.toList_inj.1 h)
theorem lb_app (a b : ByteArray) : Lb (a ++ b) = Lb a ++ Lb b := by unfold Lb; rw [ByteArray.data_append, Array.toList_append]
theorem lb_ext (s : ByteArray) (a b : Nat) : Lb (s.extract a b) = ((Lb s).drop a).take (b - a) := by unfold Lb; rw [ByteArray.data_extract, Array.toList_extract, List.extract_eq_take_drop]
theorem lb_len (s : ByteArray) : (Lb s).length = s.size := rfl
theorem lb_eqb (a b : ByteArray) : (a.toList == b.toList) = true ↔ a = b := by
  rw [beq_iff_eq, Lib.toList_data, Lib.toList_data]
  exact ⟨fun h => lb_inj h, fun h => by rw [h]⟩
theorem hasP_iff (s p : ByteArray) : hasP s p = true ↔ s = p ++ s.extract p.size s.size := by
  unfold hasP
  rw [Bool.and_eq_true, decide_eq_true_eq, lb_eqb]
  constructor
  · rintro ⟨h1, h2⟩
    apply lb_inj
    have h3 := congrArg Lb h2
    rw [lb_ext, Nat.sub_zero, List.drop_zero] at h3
    rw [lb_app, lb_ext, List.take_of_length_le (by rw [List.length_drop, lb_len]; omega), ← h3]
    conv => lhs; rw [← List.take_append_drop p.size (Lb s)]
  · intro h
    have h4 : s.size = p.size + (s.extract p.size s.size).size := by
      conv => lhs; rw [h]
      rw [ByteArray.size_append]
    refine ⟨by omega, ?_⟩
    apply lb_inj
    have h5 := congrArg Lb h
    rw [lb_app] at h5
    rw [lb_ext, Nat.sub_zero, List.drop_zero, h5, List.take_left' (lb_len p)]
theorem cutP_yes {s p : ByteArray} (h : hasP s p = true) : cutP s p = (s.extract p.size s.size, true) := by unfold cutP; rw [if_pos h]
theorem cutP_no {s p : ByteArray} (h : hasP s p = false) : cutP s p = (s, false) := by unfold cutP; rw [h]; rfl
theorem ext_size (s : ByteArray) (a b : Nat) : (s.extract a b).size = min b s.size - a := ByteArray.size_extract
theorem digF_len {s : ByteArray} {k : Nat} (h : (numP s).2 = true) (hk : s.size = k) : digF (numP s).1.toNat k = s := by rw [← hk]; exact digF_val h
theorem chk_iff (s : ByteArray) : (chkT s).2 = true ↔ s.size = 12 ∧ (numP (s.extract 6 12)).2 = true ∧ ((ofChkS (numP (s.extract 6 12)).1.toNat).toList == s.toList) = true := by
  have hf : frCheck.size = 6 := rfl
  unfold chkT chkD
  cases hp : hasP s frCheck
  · rw [cutP_no hp]
    constructor
    · intro h; simp at h
    · rintro ⟨h1, h2, h3⟩
      exfalso
      rw [lb_eqb] at h3
      unfold ofChkS at h3
      rw [digF_len h2 (by rw [ext_size]; omega), if_neg (by rw [ext_size]; omega)] at h3
      rw [(hasP_iff s frCheck).2 (by rw [hf, h1]; exact h3.symm)] at hp
      cases hp
  · rw [cutP_yes hp]
    have hh := (hasP_iff s frCheck).1 hp
    rw [hf] at hh ⊢
    have hz : 6 ≤ s.size := by
      have := congrArg ByteArray.size hh
      rw [ByteArray.size_append, hf] at this
      omega
    constructor
    · intro h
      rw [Bool.and_eq_true, Bool.and_eq_true, decide_eq_true_eq] at h
      obtain ⟨⟨_, h2⟩, h3⟩ := h
      have h12 : s.size = 12 := by
        change (s.extract 6 s.size).size = 6 at h3
        rw [ext_size] at h3; omega
      change (numP (s.extract 6 s.size)).2 = true at h2
      rw [h12] at h2 h3 hh
      refine ⟨h12, h2, ?_⟩
      rw [lb_eqb]
      unfold ofChkS
      rw [digF_len h2 h3, if_neg (by rw [ext_size]; omega)]
      exact hh.symm
    · rintro ⟨h1, h2, h3⟩
      rw [h1, Bool.and_eq_true, Bool.and_eq_true, decide_eq_true_eq]
      exact ⟨⟨rfl, h2⟩, by change (s.extract 6 12).size = 6; rw [ext_size]; omega⟩
theorem chk_val {s : ByteArray} (h : (chkT s).2 = true) : (chkT s).1 = ⟨1, (numP (s.extract 6 12)).1, 0, ⟨#[]⟩⟩ := by
  have h1 := ((chk_iff s).1 h).1
  unfold chkT chkD at h ⊢
  cases hp : hasP s frCheck
  · rw [cutP_no hp] at h; simp at h
  · rw [cutP_yes hp, h1]; rfl
/- Where the dash stands. -/
theorem index_at : ∀ (l : List UInt8) (c : UInt8) (k : Nat), l[k]? = some c → (∀ i, i < k → l[i]? ≠ some c) → Lib.indexByte l c = (k : Int)
  | [], _, _, h, _ => by simp at h
  | b :: l, c, 0, h, _ => by
    simp at h
    unfold Lib.indexByte
    rw [h]; simp
  | b :: l, c, k + 1, h, hn => by
    have ih := index_at l c k (by simpa using h) fun i hi => by have := hn (i + 1) (by omega); simpa using this
    have hb : b ≠ c := by have := hn 0 (by omega); simpa using this
    unfold Lib.indexByte
    rw [if_neg (by simpa using hb), ih, if_neg (by first | (simp; done) | (simp; omega))]
    rfl
theorem index_get : ∀ (l : List UInt8) (c : UInt8) (k : Nat), Lib.indexByte l c = (k : Int) → l[k]? = some c
  | [], _, _, h => by unfold Lib.indexByte at h; omega
  | b :: l, c, k, h => by
    unfold Lib.indexByte at h
    split at h
    · rename_i hb
      have : k = 0 := by omega
      subst this
      simpa using hb
    · split at h
      · omega
      · rename_i h1
        have hg := Lib.indexByte_ge l c
        cases k with
        | zero => simp at h1; omega
        | succ k =>
          have := index_get l c k (by push_cast at h; omega)
          simpa using this
theorem byte_get {s : ByteArray} {k : Nat} (hk : k < s.size) : (Lb s)[k]? = some (UInt8.ofNat (byteAt s k)) := by
  unfold Lb byteAt
  rw [dif_pos hk]
  simp only [Array.getElem?_toList, UInt8.ofNat_toNat]
  exact Array.getElem?_eq_getElem hk
theorem dig_no {s : ByteArray} (h : (numP s).2 = true) {i : Nat} : (Lb s)[i]? ≠ some 45 := by
  obtain ⟨_, _, hd, _⟩ := num_digs h
  intro h1
  have hi : i < s.size := by
    rcases Nat.lt_or_ge i s.size with h2 | h2
    · exact h2
    · rw [List.getElem?_eq_none (by rw [lb_len]; exact h2)] at h1; cases h1
  have hb := dig_in (hd i hi)
  rw [byte_get hi] at h1
  have h3 := congrArg UInt8.toNat (Option.some.inj h1)
  rw [UInt8.toNat_ofNat'] at h3
  have h4 : byteAt s i % 2 ^ 8 = 45 := h3
  omega
/-- A text of a part's name, put together. -/
theorem log_cut {r : ByteArray} (h6 : (numP (r.extract 0 6)).2 = true) (hz : r.size = 11) (hd : (Lb r)[6]? = some 45) : cutD r = (r.extract 0 6, r.extract 7 11, true) := by
  have hi : dashS r = 6 := by
    refine index_at (Lb r) 45 6 hd fun i hi h => dig_no h6 (i := i) ?_
    rw [lb_ext, List.drop_zero, List.getElem?_take_of_lt (by omega)]
    exact h
  unfold cutD
  rw [hi, if_pos (by decide), hz]
  rfl
theorem hasP_of {s p t : ByteArray} (h : s = p ++ t) : hasP s p = true := by
  unfold hasP
  rw [Bool.and_eq_true, decide_eq_true_eq, lb_eqb]
  refine ⟨by rw [h, ByteArray.size_append]; omega, ?_⟩
  apply lb_inj
  rw [lb_ext, Nat.sub_zero, List.drop_zero, h, lb_app, List.take_left' (lb_len p)]
theorem ext_ext {s : ByteArray} {c a b : Nat} : (s.extract c s.size).extract a b = s.extract (c + a) (c + b) := by
  apply lb_inj
  rw [lb_ext, lb_ext, lb_ext, List.take_of_length_le (l := (Lb s).drop c) (by rw [List.length_drop, lb_len]; omega), List.drop_drop]
  congr 1
  omega
theorem dash_mid {s : ByteArray} (hz : s.size = 15) (hd : (Lb s)[10]? = some 45) : s.extract 4 15 = s.extract 4 10 ++ dashB ++ s.extract 11 15 := by
  apply lb_inj
  rw [lb_app, lb_app, lb_ext, lb_ext, lb_ext, show Lb dashB = [45] from rfl]
  have h10 : 10 < (Lb s).length := by rw [lb_len]; omega
  have h1 : (Lb s)[10] = 45 := by rw [List.getElem?_eq_getElem h10] at hd; exact Option.some.inj hd
  have h2 : (Lb s).drop 10 = 45 :: (Lb s).drop 11 := by rw [List.drop_eq_getElem_cons h10, h1]
  have h3 : (Lb s).drop 4 = ((Lb s).drop 4).take 6 ++ (Lb s).drop 10 := by
    conv => lhs; rw [← List.take_append_drop 6 ((Lb s).drop 4), List.drop_drop]
  rw [List.take_of_length_le (l := (Lb s).drop 4) (by rw [List.length_drop, lb_len]; omega), List.take_of_length_le (l := (Lb s).drop 11) (by rw [List.length_drop, lb_len]; omega)]
  conv => lhs; rw [h3, h2]
  simp
theorem log_iff (s : ByteArray) : ((logT s).2 = true ↔ s.size = 15 ∧ (numP (s.extract 4 10)).2 = true ∧ (numP (s.extract 11 15)).2 = true ∧ ((ofLogS (numP (s.extract 4 10)).1.toNat (numP (s.extract 11 15)).1.toNat).toList == s.toList) = true) ∧
    ((logT s).2 = true → (logT s).1 = ⟨2, (numP (s.extract 4 10)).1, (numP (s.extract 11 15)).1, ⟨#[]⟩⟩) := by
  have hf : frLog.size = 4 := rfl
  have hdb : dashB.size = 1 := rfl
  unfold logT logR
  cases hp : hasP s frLog
  · rw [cutP_no hp]
    refine ⟨⟨fun h => by simp at h, ?_⟩, fun h => by simp at h⟩
    rintro ⟨h1, h2, h3, h4⟩
    exfalso
    rw [lb_eqb] at h4
    unfold ofLogS at h4
    rw [digF_len h2 (by rw [ext_size]; omega), digF_len h3 (by rw [ext_size]; omega), if_neg (by rw [ext_size, ext_size]; omega), ByteArray.append_assoc, ByteArray.append_assoc] at h4
    rw [hasP_of h4.symm] at hp
    cases hp
  · rw [cutP_yes hp]
    have hh := (hasP_iff s frLog).1 hp
    rw [hf] at hh ⊢
    have hz : 4 ≤ s.size := by
      have := congrArg ByteArray.size hh
      rw [ByteArray.size_append, hf] at this
      omega
    have hrs : (s.extract 4 s.size).size = s.size - 4 := by rw [ext_size]; omega
    have key : (cutD (s.extract 4 s.size)).2.2 = true → (cutD (s.extract 4 s.size)).1.size = 6 → (cutD (s.extract 4 s.size)).2.1.size = 4 → s.size = 15 ∧ (Lb s)[10]? = some 45 ∧ cutD (s.extract 4 s.size) = (s.extract 4 10, s.extract 11 15, true) := by
      intro k1 k2 k3
      unfold cutD at k1 k2 k3 ⊢
      rcases dash_in (s.extract 4 s.size) with hn | ⟨hn, hl⟩
      · rw [hn] at k1; cases k1
      rw [if_pos hn] at k2 k3 ⊢
      obtain ⟨k, hk⟩ : ∃ k : Nat, dashS (s.extract 4 s.size) = (k : Int) := ⟨(dashS (s.extract 4 s.size)).toNat, by omega⟩
      rw [hk] at k2 k3 hl ⊢
      rw [show ((k : Int)).toNat = k by omega] at k2 k3 ⊢
      rw [ext_size] at k2 k3
      rw [hrs] at k2 k3 hl
      have hk6 : k = 6 := by omega
      have h15 : s.size = 15 := by omega
      have hg := index_get (Lb (s.extract 4 s.size)) 45 k hk
      subst hk6
      refine ⟨h15, ?_, ?_⟩
      · rw [lb_ext, List.getElem?_take_of_lt (by omega), List.getElem?_drop] at hg
        exact hg
      · rw [hrs, ext_ext, ext_ext, h15]
    refine ⟨⟨?_, ?_⟩, ?_⟩
    · intro h
      simp only [Bool.and_eq_true, decide_eq_true_eq] at h
      obtain ⟨⟨⟨⟨⟨_, k1⟩, k4⟩, k5⟩, k2⟩, k3⟩ := h
      obtain ⟨h15, hg, hc⟩ := key k1 k2 k3
      rw [hc] at k4 k5
      refine ⟨h15, k4, k5, ?_⟩
      rw [lb_eqb]
      unfold ofLogS
      rw [digF_len k4 (by rw [ext_size]; omega), digF_len k5 (by rw [ext_size]; omega), if_neg (by rw [ext_size, ext_size]; omega), ByteArray.append_assoc, ByteArray.append_assoc, ← ByteArray.append_assoc (a := s.extract 4 10), ← dash_mid h15 hg]
      rw [h15] at hh
      exact hh.symm
    · rintro ⟨h1, h2, h3, h4⟩
      rw [lb_eqb] at h4
      unfold ofLogS at h4
      rw [digF_len h2 (by rw [ext_size]; omega), digF_len h3 (by rw [ext_size]; omega), if_neg (by rw [ext_size, ext_size]; omega)] at h4
      have hg : (Lb s)[10]? = some 45 := by
        have h5 := congrArg Lb h4
        rw [lb_app, lb_app, lb_app] at h5
        rw [← h5, List.getElem?_append_left (by simp [lb_len, hf, hdb]; omega), List.getElem?_append_right (by simp [lb_len, hf]; omega)]
        simp [lb_len, hf, h1]
        rfl
      have hc : cutD (s.extract 4 s.size) = (s.extract 4 10, s.extract 11 15, true) := by
        have h6 : (s.extract 4 s.size).extract 0 6 = s.extract 4 10 := ext_ext
        rw [log_cut (by rw [h6]; exact h2) (by rw [hrs]; omega) (by rw [lb_ext, List.getElem?_take_of_lt (by omega), List.getElem?_drop]; exact hg), h6, ext_ext]
      rw [hc]
      simp only [Bool.and_eq_true, decide_eq_true_eq]
      exact ⟨⟨⟨⟨⟨trivial, trivial⟩, h2⟩, h3⟩, by rw [ext_size]; omega⟩, by rw [ext_size]; omega⟩
    · intro h
      simp only [Bool.and_eq_true, decide_eq_true_eq] at h
      obtain ⟨⟨⟨⟨⟨_, k1⟩, k4⟩, k5⟩, k2⟩, k3⟩ := h
      obtain ⟨h15, hg, hc⟩ := key k1 k2 k3
      rw [hc]
theorem tail_eq (s : ByteArray) : rtail s = if (hasP s frTemp && mayB s) = true then ⟨3, 0, 0, ⟨#[]⟩⟩ else if ((cutP s frExp).2 && userB (cutP s frExp).1) = true then ⟨4, 0, 0, (cutP s frExp).1⟩ else ⟨0, 0, 0, ⟨#[]⟩⟩ := by
  unfold rtail
  have h1 : (4 ≤ s.size ∧ ((s.extract 0 4).toList == [116, 109, 112, 45]) = true ∧ mayB s = true) ↔ (hasP s frTemp && mayB s) = true := by
    unfold hasP
    rw [Bool.and_eq_true, Bool.and_eq_true, decide_eq_true_eq, and_assoc, show frTemp.toList = [116, 109, 112, 45] from by rw [Lib.toList_data]; rfl, show frTemp.size = 4 from rfl]
  by_cases hc : (hasP s frTemp && mayB s) = true
  · rw [if_pos hc, if_pos (h1.2 hc)]
  · rw [if_neg hc, if_neg (fun h => hc (h1.1 h))]
    have hx : frExp.size = 2 := rfl
    cases hp : hasP s frExp
    · rw [cutP_no hp]
      have hL : ¬ (2 < s.size ∧ ((expS (s.extract 2 s.size)).toList == s.toList) = true) := by
        rintro ⟨h2, h3⟩
        rw [lb_eqb] at h3
        unfold expS at h3
        split at h3
        · rw [hasP_of h3.symm] at hp; cases hp
        · rw [← h3] at h2; exact absurd h2 (by decide)
      rw [if_neg hL, if_neg (fun h => by simp at h)]
    · rw [cutP_yes hp, hx]
      have hh := (hasP_iff s frExp).1 hp
      rw [hx] at hh
      have hz : 2 ≤ s.size := by
        have := congrArg ByteArray.size hh
        rw [ByteArray.size_append, hx] at this
        omega
      cases hu : userB (s.extract 2 s.size)
      · have hL : ¬ (2 < s.size ∧ ((expS (s.extract 2 s.size)).toList == s.toList) = true) := by
          rintro ⟨h2, h3⟩
          rw [lb_eqb] at h3
          unfold expS at h3
          rw [hu] at h3
          have h3 : (⟨#[]⟩ : ByteArray) = s := h3
          rw [← h3] at h2; exact absurd h2 (by decide)
        rw [if_neg hL, if_neg (fun h => by simp at h)]
      · have h2 : 2 < s.size := by
          unfold userB at hu
          rw [Bool.and_eq_true, decide_eq_true_eq, ext_size] at hu
          omega
        have hL : 2 < s.size ∧ ((expS (s.extract 2 s.size)).toList == s.toList) = true := by
          refine ⟨h2, ?_⟩
          rw [lb_eqb]
          unfold expS
          rw [if_pos hu]
          exact hh.symm
        rw [if_pos hL]
        rfl
theorem rtit_eq (s : ByteArray) : rtitS s = titR s := by
  unfold rtitS titR
  by_cases h1 : (chkT s).2 = true
  · rw [if_pos h1, if_pos ((chk_iff s).1 h1), chk_val h1]
  · rw [if_neg h1, if_neg (fun h => h1 ((chk_iff s).2 h))]
    by_cases h2 : (logT s).2 = true
    · rw [if_pos h2, if_pos ((log_iff s).1.1 h2), (log_iff s).2 h2]
    · rw [if_neg h2, if_neg (fun h => h2 ((log_iff s).1.2 h)), tail_eq]
end Go.Proofs.YtomfcgeibbicoaaGreat
namespace Go.Proofs.YtomfcgeibbicoaaGreat
open Go.RowKit Go.Maps
/-- A rising list of names. -/
abbrev Rise (l : List ByteArray) : Prop := l.Pairwise fun a b => upN a b = true
theorem up_lt {a b : ByteArray} : upN a b = true ↔ a.data.toList < b.data.toList := by rw [← before_up, before_lt]
theorem up_not {a b : ByteArray} (h : upN a b = true) : upN b a = false ∧ (a.toList == b.toList) = false := by
  have h1 := up_lt.1 h
  constructor
  · cases hq : upN b a
    · rfl
    · exact absurd (Std.lt_trans h1 (up_lt.1 hq)) Std.lt_irrefl
  · rw [Bool.eq_false_iff]
    intro hq
    rw [lb_eqb] at hq
    subst hq
    exact absurd h1 (Std.lt_irrefl)
def isOld (ep : Int) (t : TitV) : Bool := (decide (t.k = 1) || decide (t.k = 2)) && !decide (t.e = ep)
def isTemp (t : TitV) : Bool := decide (t.k = 3)
/-- Of these names those of which something holds. -/
def pickN (p : TitV → Bool) (l : List ByteArray) : List ByteArray := l.filter fun s => p (titR s)
theorem pickN_yes {p : TitV → Bool} {l : List ByteArray} {k : Nat} (hk : k < l.length) (h : p (titR l[k]) = true) : pickN p (l.take (k + 1)) = pickN p (l.take k) ++ [l[k]] := by
  unfold pickN
  rw [List.take_succ_eq_append_getElem hk, List.filter_append, List.filter_cons_of_pos (by exact h)]
  rfl
theorem pickN_no {p : TitV → Bool} {l : List ByteArray} {k : Nat} (hk : k < l.length) (h : p (titR l[k]) = false) : pickN p (l.take (k + 1)) = pickN p (l.take k) := by
  unfold pickN
  rw [List.take_succ_eq_append_getElem hk, List.filter_append, List.filter_cons_of_neg (by rw [h]; exact Bool.false_ne_true)]
  simp
theorem pickN_len (p : TitV → Bool) (l : List ByteArray) : (pickN p l).length ≤ l.length := List.length_filter_le _ _
/-- What was picked ahead of a name is less than it. -/
theorem pickN_up {p : TitV → Bool} {l : List ByteArray} (hr : Rise l) {k : Nat} (hk : k < l.length) : ∀ x ∈ pickN p (l.take k), upN l[k] x = false ∧ (x.toList == l[k].toList) = false := by
  intro x hx
  have hx := (List.mem_filter.1 hx).1
  obtain ⟨i, hi, rfl⟩ := List.mem_iff_getElem.1 hx
  rw [List.length_take] at hi
  rw [List.getElem_take]
  exact up_not (List.pairwise_iff_getElem.1 hr i k (by omega) hk (by omega))
theorem Row.strAt {w : World} {A : Option Addr} {n : Nat} {l : List ByteArray} (h : Row w 1 A n (l.map Value.string)) {k : Nat} (hk : k < l.length) : ∃ b o, A = some ⟨b, o, none⟩ ∧ w.cell? ⟨b, o + k, none⟩ = some (.string l[k]) :=
  row_at h (by rw [List.getElem?_map, List.getElem?_eq_getElem hk]; rfl)
set_option maxHeartbeats 2000000 in
set_option maxRecDepth 100000 in
theorem radd_calls (A : Option Addr) (c : Nat) (l : List ByteArray) (s : ByteArray) (w : World) (hr : Row w 1 A l.length (l.map Value.string)) (hl : l.length ≤ 1000000) (hs : ∀ x ∈ l, upN s x = false ∧ (x.toList == s.toList) = false) :
    Calls Tryz.prog 104 #[.slice A l.length c, .string s] w fun e w' => ∃ v, e = .returned v ∧ w'.ownsRow w.heap.size 9 1 v (l.length + 1) ((l ++ [s]).map Value.string) ∧ Ex w w' := by
  have HR := Lib.hid hr
  have HS := Lib.hid hs
  have HI := Lib.hid (show (Tryz.prog.info? 9).map (fun i => (i.zero, i.size, i.bytes)) = some (some (.string ⟨#[]⟩), 1, 16) from by kernel_rfl)
  clear hr hs
  go_enter Tryz.func104, Tryz.ntmps104
  go_wp2_with fail
  go_loopw [5, 6, 7] (fun v d i wr => ∃ k : Nat, k ≤ l.length ∧ i = .int .i64 (k : Int) ∧ d = .bool false ∧ wr.ownsRow w.heap.size 9 1 v k ((l.take k).map Value.string) ∧ Ex w wr) (fun _ _ i _ => l.length - (intOf i).toNat)
  case atStart => exact ⟨0, Nat.zero_le _, rfl, rfl, World.ownsRow_nil _ _ _ _, Ex.refl _⟩
  case round =>
    obtain ⟨k, hk, rfl, rfl, hor, hbr⟩ := hrel
    have HO2 := Lib.hid hor
    have HB2 := Lib.hid hbr
    have hzb := hbr.size
    clear hor hbr
    by_cases hlt : k < l.length
    · obtain ⟨b, o, rfl, f1⟩ := (HR.out.ex HB2.out).strAt hlt
      have HTK := Lib.hid (List.take_succ_eq_append_getElem hlt)
      obtain ⟨hs1, hs2⟩ := HS.out _ (List.getElem_mem hlt)
      have h1 : ∀ u ∈ [Value.string l[k]], u.oneCell' = true := fun u hu => by rw [List.mem_singleton.1 hu]; rfl
      have hqq : Op.bytesLess l[k].toList s.toList = true := by
        have h9 : (!Op.bytesLess l[k].toList s.toList && !l[k].toList == s.toList) = false := by rw [← hs1]; unfold upN ltN; rw [Bool.not_or]
        rw [hs2] at h9
        simpa using h9
      have HH1 := Lib.hid h1
      clear h1
      generalize l[k] = m at *
      have hkI : (k : Int) < (l.length : Int) := by omega
      have hk0 : (0 : Int) ≤ (k : Int) := by omega
      have hkn : ((k : Int)).toNat = k := by omega
      clear hs1
      go_wp2_with (at_builtin; refine app_own 23 9 (.string ⟨#[]⟩) 1 16 Tryz.underlying23 HI.out rfl (by decide) (by decide) rfl (.tmp 35) (.tmp 40) rfl w.heap.size _ k _ rfl (own_ex HO2.out (ex_alloc (Ex.refl wr) _)) (some ⟨wr.heap.size, 0, none⟩) 1 1 [.string m] rfl (row_lit1 wr [.string m] _) HH1.out (by omega) (Nat.le_trans hzb (ex_alloc (Ex.refl wr) _).size) (ex_alloc HB2.out _) ?_; intro v' w' ho' hb')
      exact ⟨⟨k + 1, by omega, by go_num, rfl, by rw [HTK.out, List.map_append]; exact ho', hb'⟩, by simp [intOf]; omega⟩
    · have hkl : k = l.length := by omega
      subst hkl
      have HTK := Lib.hid (show l.take l.length = l from List.take_length)
      have h1 : ∀ u ∈ [Value.string s], u.oneCell' = true := fun u hu => by rw [List.mem_singleton.1 hu]; rfl
      have HH1 := Lib.hid h1
      clear h1
      go_wp2_with (at_builtin; refine app_own 23 9 (.string ⟨#[]⟩) 1 16 Tryz.underlying23 HI.out rfl (by decide) (by decide) rfl (.tmp 44) (.tmp 46) rfl w.heap.size _ l.length _ rfl (own_ex HO2.out (ex_alloc (Ex.refl wr) _)) (some ⟨wr.heap.size, 0, none⟩) 1 1 [.string s] rfl (row_lit1 wr [.string s] _) HH1.out (by omega) (Nat.le_trans hzb (ex_alloc (Ex.refl wr) _).size) (ex_alloc HB2.out _) ?_; intro v' w' ho' hb')
      go_ret
      rw [HTK.out] at ho'
      refine ⟨_, rfl, ?_, hb'⟩
      rw [List.map_append]
      exact ho'
end Go.Proofs.YtomfcgeibbicoaaGreat
namespace Go.Proofs.YtomfcgeibbicoaaGreat
open Go.RowKit Go.Maps
set_option maxHeartbeats 2000000 in
set_option maxRecDepth 100000 in
theorem rold_calls (A : Option Addr) (c : Nat) (l : List ByteArray) (ep : Int) (w : World) (hr : Row w 1 A l.length (l.map Value.string)) (hl : l.length ≤ 1000000) (hri : Rise l) (hsz : ∀ s ∈ l, s.size ≤ 9223372036854775806) :
    Calls Tryz.prog 37 #[.slice A l.length c, .int .i64 ep] w fun e w' => ∃ v, e = .returned v ∧ w'.ownsRow w.heap.size 9 1 v (pickN (isOld ep) l).length ((pickN (isOld ep) l).map Value.string) ∧ Ex w w' := by
  have HR := Lib.hid hr
  have HRI := Lib.hid hri
  have HSZ := Lib.hid hsz
  clear hr hri hsz
  go_enter Tryz.func37, Tryz.ntmps37
  go_wp2_with fail
  go_loopw [5, 6] (fun v i wr => ∃ k : Nat, k ≤ l.length ∧ i = .int .i64 (k : Int) ∧ wr.ownsRow w.heap.size 9 1 v (pickN (isOld ep) (l.take k)).length ((pickN (isOld ep) (l.take k)).map Value.string) ∧ Ex w wr) (fun _ i _ => l.length - (intOf i).toNat)
  case atStart => exact ⟨0, Nat.zero_le _, rfl, World.ownsRow_nil _ _ _ _, Ex.refl _⟩
  case round =>
    obtain ⟨k, hk, rfl, hor, hbr⟩ := hrel
    obtain ⟨A2, c2, rfl, _⟩ := own_shape hor
    have HO2 := Lib.hid hor
    have HB2 := Lib.hid hbr
    have hzb := hbr.size
    clear hor hbr
    by_cases hlt : k < l.length
    · obtain ⟨b, o, rfl, f1⟩ := (HR.out.ex HB2.out).strAt hlt
      have HU := Lib.hid (pickN_up (p := isOld ep) HRI.out hlt)
      have HYS := Lib.hid (fun h => pickN_yes (p := isOld ep) hlt h)
      have HNO := Lib.hid (fun h => pickN_no (p := isOld ep) hlt h)
      have hss := HSZ.out _ (List.getElem_mem hlt)
      have hpl : (pickN (isOld ep) (l.take k)).length ≤ 1000000 := Nat.le_trans (pickN_len _ _) (by rw [List.length_take]; omega)
      generalize l[k] = s at *
      have hkI : (k : Int) < (l.length : Int) := by omega
      have hk0 : (0 : Int) ≤ (k : Int) := by omega
      have hkn : ((k : Int)).toNat = k := by omega
      have hC := rtread_calls s wr hss
      rw [rtit_eq] at hC
      have HC := Lib.hid hC
      obtain ⟨T, hT⟩ : ∃ T, titR s = T := ⟨_, rfl⟩
      rw [hT] at HC HYS HNO
      clear hT hC
      obtain ⟨tk, te, tp, tn⟩ := T
      unfold TitV.cs at HC
      go_wp2_with fail
      refine HC.out.mono ?_
      rintro e w1 ⟨rfl, hb1⟩
      have HK1 := Lib.hid (Blk.new w1 [.int .i64 tk, .int .i64 te, .int .i64 tp, .string tn] 157)
      have HX1 := Lib.hid (ex_alloc hb1 (.cells #[.int .i64 tk, .int .i64 te, .int .i64 tp, .string tn] 157))
      have f2 := HX1.out.cell f1
      have k0 := HK1.out.cell 0
      have k1 := HK1.out.cell 1
      clear hb1 f1
      have HO4 := Lib.hid (own_ex HO2.out HX1.out)
      have hX4 := HX1.out.size
      generalize (pickN (isOld ep) (l.take k)) = pk at *
      have HP4 := Lib.hid (Row.of_own HO4.out)
      by_cases h3 : isOld ep ⟨tk, te, tp, tn⟩ = true
      · have HPK := Lib.hid (HYS.out h3)
        have hne : te ≠ ep := by
          intro h
          unfold isOld at h3
          rw [decide_eq_true h] at h3
          simp at h3
        have q1 : decide (te = ep) = false := decide_eq_false hne
        have q2 : (te == ep) = false := beq_eq_false_iff_ne.2 hne
        have hk12 : tk = 1 ∨ tk = 2 := by
          unfold isOld at h3
          simp at h3
          exact h3.1
        clear h3 hne HYS HNO
        rcases hk12 with rfl | rfl
        all_goals
          go_wp2_with (refine (radd_calls _ _ _ _ _ HP4.out hpl HU.out).mono ?_; rintro e w2 ⟨v2, rfl, ho2, hb2⟩)
          exact ⟨⟨k + 1, by omega, by go_num, by rw [HPK.out, List.length_append]; exact own_more ho2 (by omega), HB2.out.trans (HX1.out.trans hb2)⟩, by simp [intOf]; omega⟩
      · have h3 := Bool.eq_false_iff.2 h3
        have HPK := Lib.hid (HNO.out h3)
        have hq : (tk = 1 ∨ tk = 2) → te = ep := by
          intro h
          unfold isOld at h3
          rcases h with rfl | rfl <;> simpa using h3
        clear h3 HYS HNO
        by_cases h1 : tk = 1
        · obtain rfl := hq (.inl h1)
          subst h1
          go_wp2_with fail
          exact ⟨⟨k + 1, by omega, by go_num, by rw [HPK.out]; exact HO4.out, HB2.out.trans HX1.out⟩, by simp [intOf]; omega⟩
        · have d1 : decide (tk = 1) = false := decide_eq_false h1
          have e1 : (tk == 1) = false := beq_eq_false_iff_ne.2 h1
          by_cases h2 : tk = 2
          · obtain rfl := hq (.inr h2)
            subst h2
            go_wp2_with fail
            exact ⟨⟨k + 1, by omega, by go_num, by rw [HPK.out]; exact HO4.out, HB2.out.trans HX1.out⟩, by simp [intOf]; omega⟩
          · have d2 : decide (tk = 2) = false := decide_eq_false h2
            have e2 : (tk == 2) = false := beq_eq_false_iff_ne.2 h2
            go_wp2_with fail
            exact ⟨⟨k + 1, by omega, by go_num, by rw [HPK.out]; exact HO4.out, HB2.out.trans HX1.out⟩, by simp [intOf]; omega⟩
    · have hkl : k = l.length := by omega
      subst hkl
      have HTK := Lib.hid (List.take_length (l := l))
      go_wp2_with fail
      go_ret
      have ho3 := HO2.out
      rw [HTK.out] at ho3 ⊢
      exact ⟨_, rfl, ho3, HB2.out⟩
set_option maxHeartbeats 2000000 in
set_option maxRecDepth 100000 in
theorem rtemps_calls (A : Option Addr) (c : Nat) (l : List ByteArray) (w : World) (hr : Row w 1 A l.length (l.map Value.string)) (hl : l.length ≤ 1000000) (hri : Rise l) (hsz : ∀ s ∈ l, s.size ≤ 9223372036854775806) :
    Calls Tryz.prog 38 #[.slice A l.length c] w fun e w' => ∃ v, e = .returned v ∧ w'.ownsRow w.heap.size 9 1 v (pickN isTemp l).length ((pickN isTemp l).map Value.string) ∧ Ex w w' := by
  have HR := Lib.hid hr
  have HRI := Lib.hid hri
  have HSZ := Lib.hid hsz
  clear hr hri hsz
  go_enter Tryz.func38, Tryz.ntmps38
  go_wp2_with fail
  go_loopw [3, 4] (fun v i wr => ∃ k : Nat, k ≤ l.length ∧ i = .int .i64 (k : Int) ∧ wr.ownsRow w.heap.size 9 1 v (pickN isTemp (l.take k)).length ((pickN isTemp (l.take k)).map Value.string) ∧ Ex w wr) (fun _ i _ => l.length - (intOf i).toNat)
  case atStart => exact ⟨0, Nat.zero_le _, rfl, World.ownsRow_nil _ _ _ _, Ex.refl _⟩
  case round =>
    obtain ⟨k, hk, rfl, hor, hbr⟩ := hrel
    obtain ⟨A2, c2, rfl, _⟩ := own_shape hor
    have HO2 := Lib.hid hor
    have HB2 := Lib.hid hbr
    have hzb := hbr.size
    clear hor hbr
    by_cases hlt : k < l.length
    · obtain ⟨b, o, rfl, f1⟩ := (HR.out.ex HB2.out).strAt hlt
      have HU := Lib.hid (pickN_up (p := isTemp) HRI.out hlt)
      have HYS := Lib.hid (fun h => pickN_yes (p := isTemp) hlt h)
      have HNO := Lib.hid (fun h => pickN_no (p := isTemp) hlt h)
      have hss := HSZ.out _ (List.getElem_mem hlt)
      have hpl : (pickN isTemp (l.take k)).length ≤ 1000000 := Nat.le_trans (pickN_len _ _) (by rw [List.length_take]; omega)
      generalize l[k] = s at *
      have hkI : (k : Int) < (l.length : Int) := by omega
      have hk0 : (0 : Int) ≤ (k : Int) := by omega
      have hkn : ((k : Int)).toNat = k := by omega
      have hC := rtread_calls s wr hss
      rw [rtit_eq] at hC
      have HC := Lib.hid hC
      obtain ⟨T, hT⟩ : ∃ T, titR s = T := ⟨_, rfl⟩
      rw [hT] at HC HYS HNO
      clear hT hC
      obtain ⟨tk, te, tp, tn⟩ := T
      unfold TitV.cs at HC
      go_wp2_with fail
      refine HC.out.mono ?_
      rintro e w1 ⟨rfl, hb1⟩
      have HK1 := Lib.hid (Blk.new w1 [.int .i64 tk, .int .i64 te, .int .i64 tp, .string tn] 157)
      have HX1 := Lib.hid (ex_alloc hb1 (.cells #[.int .i64 tk, .int .i64 te, .int .i64 tp, .string tn] 157))
      have f2 := HX1.out.cell f1
      have k0 := HK1.out.cell 0
      clear hb1 f1
      have HO4 := Lib.hid (own_ex HO2.out HX1.out)
      have hX4 := HX1.out.size
      generalize (pickN isTemp (l.take k)) = pk at *
      have HP4 := Lib.hid (Row.of_own HO4.out)
      by_cases h3 : tk = 3
      · subst h3
        have HPK := Lib.hid (HYS.out rfl)
        clear HYS HNO
        go_wp2_with (refine (radd_calls _ _ _ _ _ HP4.out hpl HU.out).mono ?_; rintro e w2 ⟨v2, rfl, ho2, hb2⟩)
        exact ⟨⟨k + 1, by omega, by go_num, by rw [HPK.out, List.length_append]; exact own_more ho2 (by omega), HB2.out.trans (HX1.out.trans hb2)⟩, by simp [intOf]; omega⟩
      · have d1 : decide (tk = 3) = false := decide_eq_false h3
        have e1 : (tk == 3) = false := beq_eq_false_iff_ne.2 h3
        have HPK := Lib.hid (HNO.out d1)
        clear HYS HNO h3
        go_wp2_with fail
        exact ⟨⟨k + 1, by omega, by go_num, by rw [HPK.out]; exact HO4.out, HB2.out.trans HX1.out⟩, by simp [intOf]; omega⟩
    · have hkl : k = l.length := by omega
      subst hkl
      have HTK := Lib.hid (List.take_length (l := l))
      go_wp2_with fail
      go_ret
      have ho3 := HO2.out
      rw [HTK.out] at ho3 ⊢
      exact ⟨_, rfl, ho3, HB2.out⟩
set_option maxHeartbeats 2000000 in
set_option maxRecDepth 100000 in
theorem rnamesV_calls {F : Nat → Prop} {w : World} {Q : DkV} {tv sl : Value} {M : Nat}  (h : RdV F w Q tv sl) (ho : Q.Ok M) (hM : M ≤ 800000) :
    Calls Tryz.prog 69 #[.agg (Q.rcs tv sl).toArray] w fun e w' => ∃ v, e = .returned v ∧ w'.ownsRow w.heap.size 9 1 v Q.fo.now.length (Q.fo.now.map fun m => Value.string m.nm) ∧ Ex w w' := by
  obtain ⟨tA, tc, sB, sn, sd, rfl, rfl⟩ := h.shape
  obtain ⟨tm, htm⟩ : ∃ m, m = Q.tapes.length := ⟨_, rfl⟩
  rw [← htm] at h ⊢
  have hX := ex_alloc (Ex.refl w) (.cells (Q.rcs (.slice tA tm tc) (.slice sB sn sd)).toArray 40)
  have hB := Blk.new w (Q.rcs (.slice tA tm tc) (.slice sB sn sd)) 40
  have HR0 := Lib.hid (h.ex hX)
  have HB0 := Lib.hid hB
  have HX0 := Lib.hid hX
  have HO := Lib.hid ho
  have htl : tm ≤ 800000 := by have := ho.tl; omega
  have HTM := Lib.hid htm
  have hq : Q.fo.ch.length ≤ 1000000 := by have := ho.fo.kl; omega
  have hnl : Q.fo.now.length ≤ 1000000 := by have := ho.fo.now_len; omega
  have HI := Lib.hid (show (Tryz.prog.info? 9).map (fun i => (i.zero, i.size, i.bytes)) = some (some (.string ⟨#[]⟩), 1, 16) from by kernel_rfl)
  clear h ho hX hB htm
  unfold DkV.rcs
  go_enter Tryz.func69, Tryz.ntmps69
  go_wp2_with fail
  refine (rfnow_calls HR0.out.fo hq).mono ?_
  rintro e w1 ⟨u1, rfl, ⟨A1, c1, rfl, hr1⟩, hb1⟩
  have HX1 := Lib.hid (HX0.out.trans hb1)
  have HM1 := Lib.hid hr1.row
  clear hb1 hr1
  obtain ⟨L, hL⟩ : ∃ L, Q.fo.now = L := ⟨_, rfl⟩
  rw [hL] at HM1 hnl ⊢
  have HL := Lib.hid hL
  clear hL
  go_wp2_with fail
  go_loopw [3, 5] (fun v i wr => ∃ k : Nat, k ≤ L.length ∧ i = .int .i64 (k : Int) ∧ wr.ownsRow w1.heap.size 9 1 v k ((L.take k).map fun m => Value.string m.nm) ∧ Ex w1 wr) (fun _ i _ => L.length - (intOf i).toNat)
  case atStart => exact ⟨0, Nat.zero_le _, rfl, World.ownsRow_nil _ _ _ _, Ex.refl _⟩
  case round =>
    obtain ⟨k, hk, rfl, ho, hb⟩ := hrel
    have hzb := hb.size
    by_cases hlt : k < L.length
    · obtain ⟨b, o, rfl, f1, f2⟩ := (HM1.out.ex hb).mk hlt
      have h1 : ∀ u ∈ [Value.string L[k].nm], u.oneCell' = true := fun u hu => by rw [List.mem_singleton.1 hu]; rfl
      have HTK := Lib.hid (List.take_succ_eq_append_getElem hlt)
      generalize L[k] = m at *
      go_wp2_with (at_builtin; refine app_own 23 9 (.string ⟨#[]⟩) 1 16 Tryz.underlying23 HI.out rfl (by decide) (by decide) rfl (.tmp 15) (.tmp 21) rfl w1.heap.size _ k _ rfl (own_ex ho (ex_alloc (Ex.refl wr) _)) (some ⟨wr.heap.size, 0, none⟩) 1 1 [.string m.nm] rfl (row_lit1 wr [.string m.nm] _) h1 (by omega) (Nat.le_trans hzb (ex_alloc (Ex.refl wr) _).size) (ex_alloc hb _) ?_; intro v' w' ho' hb')
      exact ⟨⟨k + 1, by omega, by go_num, by rw [HTK.out, List.map_append]; exact ho', hb'⟩, by simp [intOf]; omega⟩
    · have hkl : k = L.length := by omega
      subst hkl
      have HTK := Lib.hid (List.take_length (l := L))
      have hz1 := HX1.out.size
      rw [HTK.out] at ho
      obtain ⟨A2, c2, rfl, _⟩ := own_shape ho
      have HOO := Lib.hid (own_more ho hz1)
      clear ho
      go_wp2_with fail
      go_ret
      rw [HL.out]
      exact ⟨.slice A2 L.length c2, rfl, HOO.out, HX1.out.trans hb⟩
end Go.Proofs.YtomfcgeibbicoaaGreat
