/- Walks: chunk.tail and chunk.Cut. -/
import Derived.Test.YtkckeogdijdohaaKnF
import Derived.WalkMore
import Derived.ScopeJumps
namespace Go.Proofs.Ytkckeogdijdohaa
open Go.RowKit
theorem back16 {r : ByteArray} (hv : validU r = true) (h : 16 < r.size) : 13 ≤ backU r 16 ∧ backU r 16 ≤ 16 ∧ edge r (backU r 16 : Nat) = true := by
  have e : backU r 16 = backF r 16 := if_neg (by omega)
  rw [e]
  have hle := backF_le r 16
  have hed := backF_edge r 16
  refine ⟨?_, hle, hed⟩
  have hc := (valid_iff.1 hv).at_edge (backF r 16) (by omega) (by omega) hed
  obtain ⟨n, h0, h4, h5, h6, _⟩ := hc.next (by omega)
  rcases Nat.lt_or_ge 16 (backF r 16 + n) with hlt | hge
  · omega
  · have := backF_ge (k := 16) hge h6
    omega
theorem ba_cut (r : ByteArray) (p : Nat) : r.extract 0 p ++ r.extract p r.size = r := by
  rw [ByteArray.extract_append_extract]
  simp
/-- Chunks so far, and what is left. -/
structure CutI (s : ByteArray) (l : List ByteArray) (r : ByteArray) : Prop where
  val : validU r = true
  all : flat l ++ r = s
  big : ∀ x ∈ l, fitsB x = true ∧ 13 ≤ x.size
  seam : l = [] ∨ ∃ x, l.getLast? = some x ∧ 16 < x.size + r.size
theorem CutI.start {s : ByteArray} (h : validU s = true) : CutI s [] s := ⟨h, ba_nil_app s, (fun _ h => by cases h), .inl rfl⟩
theorem CutI.size {s r : ByteArray} {l : List ByteArray} (x : CutI s l r) : l.length + r.size ≤ s.size := by
  have h1 := flat_many (fun y hy => (x.big y hy).1)
  have h2 := congrArg ByteArray.size x.all
  rw [ByteArray.size_append] at h2
  omega
theorem CutI.next {s r : ByteArray} {l : List ByteArray} (x : CutI s l r) (h : 16 < r.size) : CutI s (l ++ [r.extract 0 (backU r 16)]) (r.extract (backU r 16) r.size) := by
  obtain ⟨h1, h2, h3⟩ := back16 x.val h
  have hc := valid_cut x.val (p := backU r 16) (by omega) h3
  have hs : (r.extract 0 (backU r 16)).size = backU r 16 := by rw [ByteArray.size_extract]; omega
  refine ⟨hc.2, ?_, fun y hy => ?_, .inr ⟨_, List.getLast?_concat, ?_⟩⟩
  · rw [flat_app, flat_one, ByteArray.append_assoc, ba_cut r _]
    exact x.all
  · rcases List.mem_append.1 hy with hy | hy
    · exact x.big y hy
    · rw [List.mem_singleton.1 hy]
      exact ⟨fitsB_iff.2 ⟨by omega, by omega, hc.1⟩, by omega⟩
  · rw [hs, ByteArray.size_extract]; omega
/-- Where no chunk is small, none is one with the next. -/
theorem Tt.big {l : List ByteArray} (h : ∀ x ∈ l, 13 ≤ x.size) : Tt l := by
  intro i a b ha hb
  have h1 := h a (List.mem_of_getElem? ha)
  have h2 := h b (List.mem_of_getElem? hb)
  omega
theorem Tt.snoc {l : List ByteArray} {x : ByteArray} (h : Tt l) (hx : ∀ y, l.getLast? = some y → 16 < y.size + x.size) : Tt (l ++ [x]) := by
  intro i a b ha hb
  rcases Nat.lt_or_ge (i + 1) l.length with hlt | hge
  · rw [List.getElem?_append_left (by omega)] at ha
    rw [List.getElem?_append_left hlt] at hb
    exact h i a b ha hb
  · rcases Nat.lt_or_ge i l.length with hl2 | hg2
    · have hi : i + 1 = l.length := by omega
      rw [List.getElem?_append_left hl2] at ha
      rw [List.getElem?_append_right hge, hi, Nat.sub_self] at hb
      simp only [List.getElem?_cons_zero, Option.some.injEq] at hb
      subst hb
      apply hx
      rw [List.getLast?_eq_getElem?, show l.length - 1 = i by omega]
      exact ha
    · rw [List.getElem?_append_right hge] at hb
      rw [List.getElem?_eq_none (by simp; omega)] at hb
      cases hb
theorem CutI.good {s r : ByteArray} {l : List ByteArray} (x : CutI s l r) (h : r.size ≤ 16) (h0 : 1 ≤ r.size) : GoodL (l ++ [r]) ∧ flat (l ++ [r]) = s := by
  refine ⟨⟨fun y hy => ?_, ?_⟩, ?_⟩
  · rcases List.mem_append.1 hy with hy | hy
    · exact (x.big y hy).1
    · rw [List.mem_singleton.1 hy]
      exact fitsB_iff.2 ⟨h0, h, x.val⟩
  · refine Tt.snoc (Tt.big fun y hy => (x.big y hy).2) fun y hy => ?_
    rcases x.seam with rfl | ⟨z, hz, h1⟩
    · cases hy
    · rw [hz] at hy
      injection hy with hy
      subst hy
      exact h1
  · rw [flat_app, flat_one]; exact x.all
theorem CutI.none {s r : ByteArray} {l : List ByteArray} (x : CutI s l r) (h0 : r.size = 0) : l = [] ∧ s = r := by
  rcases x.seam with rfl | ⟨z, hz, h1⟩
  · exact ⟨rfl, by rw [← x.all]; exact ba_nil_app r⟩
  · have := (fitsB_iff.1 (x.big z (List.mem_of_getLast? hz)).1).2.1
    omega
set_option maxHeartbeats 400000 in
theorem tail_calls (A : Option Addr) (c : Nat) (l : List ByteArray) (w : World) (hn : l.length ≤ 100000) (hr : Row w 1 A l.length (strs l)) (hg : GoodL l) : Calls Try.prog 62 #[.slice A l.length c] w fun e w' => e = .returned (.slice A l.length c) ∧ Ex w w' := by
  by_cases h2 : l.length < 2
  · have d1 : decide ((l.length : Int) < 2) = true := decide_eq_true (by omega)
    clear hr hg h2
    go_enter Try.func62, Try.ntmps62
    go_wp2_with fail
    refine wp_region_calm (by kernel_rfl) (by kernel_rfl) ?_
    repeat (go_big_quiet_step ((fail)))
    refine wpQuiet_nil ?_
    intro w2 hX
    replace hX := calm_world hX
    go_wp2_with fail
    go_ret
    exact ⟨rfl, hX⟩
  · have d1 : decide ((l.length : Int) < 2) = false := decide_eq_false (by omega)
    obtain ⟨b, o, rfl, hc⟩ := hr.str (k := l.length - 2) (by omega)
    obtain ⟨b', o', he, hc'⟩ := hr.str (k := l.length - 1) (by omega)
    injection he with he
    injection he with he1 he2
    subst he1; subst he2
    have hx := List.getElem?_eq_getElem (l := l) (i := l.length - 2) (by omega)
    have hy := List.getElem?_eq_getElem (l := l) (i := l.length - 1) (by omega)
    have hbig := hg.2 (l.length - 2) _ _ hx (by rw [show l.length - 2 + 1 = l.length - 1 by omega]; exact hy)
    have f1 := fitsB_iff.1 (hg.1 _ (List.getElem_mem (l := l) (n := l.length - 2) (by omega)))
    have f2 := fitsB_iff.1 (hg.1 _ (List.getElem_mem (l := l) (n := l.length - 1) (by omega)))
    generalize (l[l.length - 2]'(by omega)) = x at hc hbig f1
    generalize (l[l.length - 1]'(by omega)) = y at hc' hbig f2
    obtain ⟨f3, f4, _⟩ := f1
    obtain ⟨f5, f6, _⟩ := f2
    have q1 := Wd.cell hc
    have q2 := Wd.cell hc'
    have w1' : IntKind.i64.wrap ((l.length : Int) - 2) = (l.length : Int) - 2 := IntWalk.i64_in _ (by omega)
    have w2' : IntKind.i64.wrap ((l.length : Int) - 1) = (l.length : Int) - 1 := IntWalk.i64_in _ (by omega)
    have w3' : (0 : Int) ≤ (l.length : Int) - 2 := by omega
    have w4' : (0 : Int) ≤ (l.length : Int) - 1 := by omega
    have w5' : (l.length : Int) - 2 < (l.length : Int) := by omega
    have w6' : (l.length : Int) - 1 < (l.length : Int) := by omega
    have w7' : ((l.length : Int) - 2).toNat = l.length - 2 := by omega
    have w8' : ((l.length : Int) - 1).toNat = l.length - 1 := by omega
    have wa' : 1 ≤ l.length := by omega
    have wb' : 2 ≤ l.length := by omega
    have wc' : (2 : Int) ≤ (l.length : Int) := by omega
    have wd' : (1 : Int) ≤ (l.length : Int) := by omega
    have HO := Lib.hid (show ∀ w, Calls Try.prog 86 #[.string x, .string y] w fun e w' => e = .returned (.bool false) ∧ w' = w from fun w => by
      have := one_calls x y w (by omega) (by omega)
      rwa [decide_eq_false (by omega)] at this)
    clear hr hg h2 hx hy
    go_enter Try.func62, Try.ntmps62
    go_wp2_with fail
    refine wp_region_calm (by kernel_rfl) (by kernel_rfl) ?_
    repeat (go_big_quiet_step ((go_at_call 86; exact calm_same (HO.out _))))
    refine wpQuiet_nil ?_
    intro w2 hX
    replace hX := calm_world hX
    go_wp2_with fail
    go_ret
    exact ⟨rfl, hX⟩
/-- What Cut hands back. -/
def CutP (s : ByteArray) (w : World) (e : Ending) (w' : World) : Prop := ∃ A c l, e = .returned (.slice A l.length c) ∧ l.length ≤ c ∧ Row w' 1 A l.length (strs l) ∧ GoodL l ∧ flat l = s ∧ Ex w w'
theorem ba_zero {s : ByteArray} (h : s.size = 0) : s = ⟨#[]⟩ := by
  cases s with
  | mk d =>
    have : d = #[] := Array.eq_empty_of_size_eq_zero h
    rw [this]
theorem cut_not (s : ByteArray) (w : World) (hs : s.size ≤ 100000) (hv : validU s = false) : Calls Try.prog 33 #[.string s] w fun e w' => e = .returned (.slice none 0 0) ∧ Ex w w' := by
  go_enter Try.func33, Try.ntmps33
  go_wp2_with fail
  go_step3
  go_wp2_with fail
  refine (valid_calls _ _ (by omega)).mono ?_
  rintro e w1 ⟨rfl, hb1⟩
  rw [hv]
  go_wp2_with fail
  (try rw [Exit.noGoto_ret])
  go_ret
  exact ⟨rfl, hb1⟩
def lenS : Value → Nat
  | .string s => s.size
  | _ => 0
set_option maxRecDepth 100000 in
set_option maxHeartbeats 1000000 in
theorem cut_calls (s : ByteArray) (w : World) (hs : s.size ≤ 100000) (hv : validU s = true) : Calls Try.prog 33 #[.string s] w (CutP s w) := by
  have HV := Lib.hid hv
  clear hv
  go_enter Try.func33, Try.ntmps33
  go_wp2_with fail
  refine wp_scope_jumps 0 (fun a' w' => ∃ (r : ByteArray) (l : List ByteArray) (vo u4 u8 u9 u10 u11 u12 u13 u14 u15 u16 u17 u18 u19 u20 u21 : Value), a' = { tmps := #[.string r, undef, .slice none 0 0, vo, u4, .string s, .bool true, .bool false, u8, u9, u10, u11, u12, u13, u14, u15, u16, u17, u18, u19, u20, u21, undef, undef, undef, undef, undef, undef, undef, undef], defers := [] } ∧ CutI s l r ∧ w'.ownsRow w.heap.size 9 1 vo l.length (strs l) ∧ Ex w w') (fun a' _ => lenS (a'.tmps.getD 0 undef)) rfl ?_ ?_
  · go_wp2_with fail
    refine (valid_calls _ _ (by omega)).mono ?_
    rintro e w1 ⟨rfl, hb1⟩
    rw [HV.out]
    have HI := Lib.hid (CutI.start HV.out)
    have HO := Lib.hid (World.ownsRow_nil w1 w.heap.size 9 1)
    have HB := Lib.hid hb1
    clear hb1
    go_wp2_with fail
    go_step3
    by_cases h16 : 16 < s.size
    · obtain ⟨g1, g2, g3⟩ := back16 HI.out.val h16
      have HN := Lib.hid (HI.out.next h16)
      have hsl := HI.out.size
      obtain ⟨p, hp⟩ : ∃ p, p = backU s 16 := ⟨_, rfl⟩
      have HP := Lib.hid hp
      rw [← hp] at g1 g2 HN
      have i1 : (p : Int) ≤ (s.size : Int) := by omega
      have i2 : p ≤ s.size := by omega
      clear g3 hp
      go_wp2_with fail
      refine (back_calls s 16 _ (by omega)).mono ?_
      rintro e w2 ⟨rfl, rfl⟩
      rw [← HP.out]
      go_wp2_with (at_builtin; go_must (refine app_str rfl (.tmp 13) (.tmp 17) rfl w.heap.size (.slice none 0 0) 0 (strs []) rfl (own_ex HO.out (ex_alloc (Ex.refl _) _)) (some ⟨w2.heap.size, 0, none⟩) 1 1 (strs [s.extract 0 p]) rfl (row_lit w2 (strs [s.extract 0 p]) 9) (strs_one _) (by omega) (by have := HB.out.size; simp; omega) (ex_alloc HB.out _) ?_; intro v5 w5 q1 q2 _ _; rw [← strs_app] at q1; have HO5 := Lib.hid q1; have HB5 := Lib.hid q2; clear q1 q2))
      go_step3
      refine ⟨rfl, s.extract p s.size, [] ++ [s.extract 0 p], v5, _, _, _, _, _, _, _, _, _, _, _, _, _, _, _, rfl, HN.out, ?_, HB5.out⟩
      rw [List.length_append]; exact HO5.out
    · by_cases h0 : s.size = 0
      · have hem := empty_iff (s := s)
        rw [decide_eq_true h0] at hem
        have HG := Lib.hid (show GoodL [] from ⟨(fun _ h => by cases h), fun _ _ _ h => by simp at h⟩)
        have HRW := Lib.hid (Row.nil w1 1 none)
        have HSR := Lib.hid (show flat [] = s from (ba_zero h0).symm)
        clear h0
        go_wp2_with fail
        refine (tail_calls none 0 [] _ (by simp) HRW.out HG.out).mono ?_
        rintro e w2 ⟨rfl, hb2⟩
        go_wp2_with fail
        (try simp only [Exit.jump])
        go_ret
        exact ⟨none, 0, [], rfl, Nat.le_refl _, HRW.out.ex hb2, HG.out, HSR.out, HB.out.trans hb2⟩
      · have hem := empty_iff (s := s)
        rw [decide_eq_false h0] at hem
        have HG := Lib.hid (HI.out.good (by omega) (by omega))
        have hsl := HI.out.size
        go_wp2_with (at_builtin; go_must (refine app_str rfl (.tmp 24) (.tmp 26) rfl w.heap.size (.slice none 0 0) 0 (strs []) rfl (own_ex HO.out (ex_alloc (Ex.refl _) _)) (some ⟨w1.heap.size, 0, none⟩) 1 1 (strs [s]) rfl (row_lit w1 (strs [s]) 9) (strs_one _) (by omega) (by have := HB.out.size; simp; omega) (ex_alloc HB.out _) ?_; intro v5 w5 q1 q2 _ _; rw [← strs_app] at q1; have HO5 := Lib.hid q1; have HB5 := Lib.hid q2; clear q1 q2; obtain ⟨A1, c1, hv1, hc1⟩ := own_shape HO5.out; subst hv1; have HRW := Lib.hid (Row.of_own HO5.out)))
        have hll : ([] ++ [s]).length = 0 + 1 := by simp
        have hTC := tail_calls A1 c1 ([] ++ [s]) w5 (by omega) (by rw [hll]; exact HRW.out) HG.out.1
        rw [hll] at hTC
        have HLL := Lib.hid hll
        clear hll
        refine hTC.mono ?_
        rintro e w6 ⟨rfl, hb6⟩
        have HX6 := Lib.hid (Ex.trans (show Ex w w5 from HB5.out) hb6)
        have HR6 := Lib.hid (HRW.out.ex hb6)
        clear hb6
        go_wp2_with fail
        (try simp only [Exit.jump])
        go_ret
        exact ⟨A1, c1, [] ++ [s], by rw [HLL.out]; rfl, by rw [HLL.out]; exact hc1, by rw [HLL.out]; exact HR6.out, HG.out.1, HG.out.2, HX6.out⟩
  · rintro a' w1 ⟨r, l, vo, u4, u8, u9, u10, u11, u12, u13, u14, u15, u16, u17, u18, u19, u20, u21, rfl, hi, ho, hb⟩
    have HI := Lib.hid hi
    have HO := Lib.hid ho
    have HB := Lib.hid hb
    clear hi ho hb
    by_cases h16 : 16 < r.size
    · obtain ⟨g1, g2, g3⟩ := back16 HI.out.val h16
      have HN := Lib.hid (HI.out.next h16)
      have hsl := HI.out.size
      obtain ⟨p, hp⟩ : ∃ p, p = backU r 16 := ⟨_, rfl⟩
      have HP := Lib.hid hp
      rw [← hp] at g1 g2 HN
      have i1 : (p : Int) ≤ (r.size : Int) := by omega
      have i2 : p ≤ r.size := by omega
      have i3 : r.size ≤ 100000 := by omega
      clear g3 hp
      go_wp2_with fail
      refine (back_calls r 16 _ (by omega)).mono ?_
      rintro e w2 ⟨rfl, rfl⟩
      rw [← HP.out]
      go_wp2_with (at_builtin; go_must (refine app_str rfl (.tmp 13) (.tmp 17) rfl w.heap.size vo l.length (strs l) rfl (own_ex HO.out (ex_alloc (Ex.refl _) _)) (some ⟨w2.heap.size, 0, none⟩) 1 1 (strs [r.extract 0 p]) rfl (row_lit w2 (strs [r.extract 0 p]) 9) (strs_one _) (by omega) (by have := HB.out.size; simp; omega) (ex_alloc HB.out _) ?_; intro v5 w5 q1 q2 _ _; rw [← strs_app] at q1; have HO5 := Lib.hid q1; have HB5 := Lib.hid q2; clear q1 q2))
      go_step3
      refine ⟨rfl, ⟨r.extract p r.size, l ++ [r.extract 0 p], v5, _, _, _, _, _, _, _, _, _, _, _, _, _, _, _, rfl, HN.out, ?_, HB5.out⟩, ?_⟩
      · rw [List.length_append]; exact HO5.out
      · show (r.extract p r.size).size < r.size
        rw [ByteArray.size_extract]; omega
    · by_cases h0 : r.size = 0
      · obtain ⟨hl, hsr⟩ := HI.out.none h0
        subst hl
        have HSR := Lib.hid (show flat [] = s from by rw [hsr]; exact (ba_zero h0).symm)
        have hem := empty_iff (s := r)
        rw [decide_eq_true h0] at hem
        have HO0 := Lib.hid (show w1.ownsRow w.heap.size 9 1 vo 0 [] from HO.out)
        obtain ⟨A1, c1, hv1, hc1⟩ := own_shape HO0.out
        subst hv1
        have HRW := Lib.hid (Row.of_own HO0.out)
        have HG := Lib.hid (show GoodL [] from ⟨(fun _ h => by cases h), fun _ _ _ h => by simp at h⟩)
        clear h0 hsr
        go_wp2_with fail
        refine (tail_calls A1 c1 [] _ (by simp) HRW.out HG.out).mono ?_
        rintro e w2 ⟨rfl, hb2⟩
        go_wp2_with fail
        (try simp only [Exit.jump])
        go_ret
        exact ⟨A1, c1, [], rfl, hc1, HRW.out.ex hb2, HG.out, HSR.out, HB.out.trans hb2⟩
      · have hem := empty_iff (s := r)
        rw [decide_eq_false h0] at hem
        have HG := Lib.hid (HI.out.good (by omega) (by omega))
        have hsl := HI.out.size
        go_wp2_with (at_builtin; go_must (refine app_str rfl (.tmp 24) (.tmp 26) rfl w.heap.size vo l.length (strs l) rfl (own_ex HO.out (ex_alloc (Ex.refl _) _)) (some ⟨w1.heap.size, 0, none⟩) 1 1 (strs [r]) rfl (row_lit w1 (strs [r]) 9) (strs_one _) (by omega) (by have := HB.out.size; simp; omega) (ex_alloc HB.out _) ?_; intro v5 w5 q1 q2 _ _; rw [← strs_app] at q1; have HO5 := Lib.hid q1; have HB5 := Lib.hid q2; clear q1 q2; obtain ⟨A1, c1, hv1, hc1⟩ := own_shape HO5.out; subst hv1; have HRW := Lib.hid (Row.of_own HO5.out)))
        have hll : (l ++ [r]).length = l.length + 1 := by simp
        have hTC := tail_calls A1 c1 (l ++ [r]) w5 (by omega) (by rw [hll]; exact HRW.out) HG.out.1
        rw [hll] at hTC
        have HLL := Lib.hid hll
        clear hll
        refine hTC.mono ?_
        rintro e w6 ⟨rfl, hb6⟩
        have HX6 := Lib.hid (Ex.trans (show Ex w w5 from HB5.out) hb6)
        have HR6 := Lib.hid (HRW.out.ex hb6)
        clear hb6
        go_wp2_with fail
        (try simp only [Exit.jump])
        go_ret
        exact ⟨A1, c1, l ++ [r], by rw [HLL.out]; rfl, by rw [HLL.out]; exact hc1, by rw [HLL.out]; exact HR6.out, HG.out.1, HG.out.2, HX6.out⟩
end Go.Proofs.Ytkckeogdijdohaa
