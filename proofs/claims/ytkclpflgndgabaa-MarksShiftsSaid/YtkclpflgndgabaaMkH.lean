/- Walks: the document's Drop and Set, and the program's. -/
import Derived.Test.YtkclpflgndgabaaMkF
import Derived.Test.YtkclpflgndgabaaMkG
namespace Go.Proofs.Ytkclpflgndgabaa
open Go.RowKit
/-- Has a mark another name? -/
def nmNot (s : ByteArray) (m : Mk) : Bool := !nmIs s m
/-- A list without a name, and the error's number. -/
def dropM (s : ByteArray) (l : List Mk) : List Mk × Int := if (findM s l).2 = true then (l.filter (nmNot s), 0) else ([], 8)
theorem row_new (w : World) (m : Mk) : Row (w.alloc (.cells #[.string m.nm, .int .i64 m.pl] 24)) 2 (some ⟨w.heap.size, 0, none⟩) 1 (Mk.cs [m]) :=
  row_one (x := m) (heap_alloc_new w _)
theorem filt_yes {p : Mk → Bool} {l : List Mk} {k : Nat} (hk : k < l.length) (h : p l[k] = true) : (l.take (k + 1)).filter p = (l.take k).filter p ++ [l[k]] := by
  rw [List.take_succ_eq_append_getElem hk, List.filter_append]; simp [h]
theorem filt_no {p : Mk → Bool} {l : List Mk} {k : Nat} (hk : k < l.length) (h : p l[k] = false) : (l.take (k + 1)).filter p = (l.take k).filter p := by
  rw [List.take_succ_eq_append_getElem hk, List.filter_append]; simp [h]
theorem filt_len (p : Mk → Bool) (l : List Mk) (k : Nat) : ((l.take k).filter p).length ≤ k := Nat.le_trans (List.length_filter_le _ _) (List.length_take_le _ _)
set_option maxHeartbeats 400000 in
theorem refDrop_calls (A : Option Addr) (n c : Nat) (l : List Mk) (s : ByteArray) (w : World) (hn : n ≤ 100000) (hm : Row w 2 A n (Mk.cs l)) :
    Calls Try.prog 13 #[.slice A n c, .string s] w fun e w' => ∃ v, e = .returned (.tuple #[v, .int .i64 (dropM s l).2]) ∧ w'.ownsRow w.heap.size 24 2 v (dropM s l).1.length (Mk.cs (dropM s l).1) ∧ Ex w w' := by
  have hl := hm.mk_len
  subst hl
  have Hm := Lib.hid hm
  clear hm
  cases hf : (findM s l).2
  · have Hf := Lib.hid hf
    have Hd := Lib.hid (show dropM s l = ([], 8) from by unfold dropM; rw [hf]; rfl)
    clear hf
    go_enter Try.func13, Try.ntmps13
    go_wp2_with fail
    refine (refFind_calls _ _ _ l s _ (by omega) Hm.out).mono ?_
    rintro e w1 ⟨rfl, rfl⟩
    rw [Hf.out]
    go_wp2
    go_ret2
    exact ⟨_, by rw [Hd.out]; rfl, by rw [Hd.out]; exact World.ownsRow_nil _ _ _ _, Ex.refl _⟩
  · have Hf := Lib.hid hf
    have Hd := Lib.hid (show dropM s l = (l.filter (nmNot s), 0) from by unfold dropM; rw [hf]; rfl)
    clear hf
    go_enter Try.func13, Try.ntmps13
    go_wp2_with fail
    refine (refFind_calls _ _ _ l s _ (by omega) Hm.out).mono ?_
    rintro e w1 ⟨rfl, rfl⟩
    rw [Hf.out]
    go_wp2
    go_loopw [8, 9] (fun v i wr => ∃ k : Nat, k ≤ l.length ∧ i = .int .i64 k ∧ wr.ownsRow w1.heap.size 24 2 v ((l.take k).filter (nmNot s)).length (Mk.cs ((l.take k).filter (nmNot s))) ∧ Ex w1 wr) (fun _ i _ => l.length - (intOf i).toNat)
    case atStart => exact ⟨0, Nat.zero_le _, rfl, World.ownsRow_nil _ _ _ _, Ex.refl _⟩
    case round =>
      obtain ⟨k, hk, rfl, ho, hb⟩ := hrel
      have hle := filt_len (nmNot s) l k
      by_cases hlt : k < l.length
      · obtain ⟨b, o, rfl, c1, c2⟩ := (Hm.out.ex hb).mk hlt
        cases hq : nmIs s l[k]
        · have hp : nmNot s l[k] = true := by unfold nmNot; rw [hq]; rfl
          have Hfy := Lib.hid (filt_yes hlt hp)
          have hq' : (l[k].nm.toList == s.toList) = false := hq
          have hq2 : (l[k].nm.toList != s.toList) = true := by rw [bne, hq']; rfl
          clear hq hp
          go_wp2_with (first | (at_builtin; refine app_mk rfl (.tmp 31) (.tmp 36) rfl w1.heap.size _ _ ((l.take k).filter (nmNot s)) rfl (ho.alloc _) (some ⟨wr.heap.size, 0, none⟩) 1 1 [l[k]] rfl (row_new wr l[k]) (by omega) (by have := hb.size; simp; omega) (ex_alloc hb _) ?_; intro v' w' ho' hb' hg _))
          exact ⟨⟨k + 1, by omega, by go_num, by rw [Hfy.out, List.length_append]; exact ho', hb'⟩, by simp [intOf]; omega⟩
        · have hp : nmNot s l[k] = false := by unfold nmNot; rw [hq]; rfl
          have Hfn := Lib.hid (filt_no hlt hp)
          have hq' : (l[k].nm.toList == s.toList) = true := hq
          have hq2 : (l[k].nm.toList != s.toList) = false := by rw [bne, hq']; rfl
          clear hq hp
          go_wp2
          go_roundw
          case rel => exact ⟨k + 1, by omega, by go_num, by rw [Hfn.out]; exact ho, hb⟩
          case measure => simp [intOf]; omega
      · go_wp2
        go_ret2
        have e1 : l.take k = l := List.take_of_length_le (by omega)
        rw [e1] at ho
        exact ⟨_, by rw [Hd.out]; rfl, by rw [Hd.out]; exact ho, hb⟩
/-- One more mark is gone over by the document's Set. -/
def stepI (m : Mk) (r : List Mk × Bool) (x : Mk) : List Mk × Bool := if (!r.2 && upN m.nm x.nm) = true then (r.1 ++ [m] ++ [x], true) else (r.1 ++ [x], r.2)
def foldI (m : Mk) (l : List Mk) : List Mk × Bool := l.foldl (stepI m) ([], false)
def endI (m : Mk) (r : List Mk × Bool) : List Mk := if r.2 = true then r.1 else r.1 ++ [m]
/-- What the document's Set makes. -/
def setR (l : List Mk) (m : Mk) : List Mk × Int :=
  if mayMk m.nm = false then ([], 7) else if (findM m.nm l).2 = true then (endI m (foldI m (l.filter (nmNot m.nm))), 0) else if 16 ≤ l.length then ([], 9) else (endI m (foldI m l), 0)
theorem foldI_succ (m : Mk) {l : List Mk} {k : Nat} (hk : k < l.length) : foldI m (l.take (k + 1)) = stepI m (foldI m (l.take k)) l[k] := by
  unfold foldI
  rw [List.take_succ_eq_append_getElem hk, List.foldl_append]; rfl
theorem stepI_len (m : Mk) (r : List Mk × Bool) (x : Mk) : (stepI m r x).1.length + (if (stepI m r x).2 = true then 0 else 1) = r.1.length + (if r.2 = true then 0 else 1) + 1 := by
  unfold stepI
  cases h : r.2 <;> cases h' : upN m.nm x.nm <;> simp
theorem foldI_len (m : Mk) (l : List Mk) : (foldI m l).1.length + (if (foldI m l).2 = true then 0 else 1) = l.length + 1 := by
  have : ∀ (l : List Mk) (r : List Mk × Bool), (l.foldl (stepI m) r).1.length + (if (l.foldl (stepI m) r).2 = true then 0 else 1) = r.1.length + (if r.2 = true then 0 else 1) + l.length := by
    intro l
    induction l with
    | nil => intro r; rfl
    | cons x l ih => intro r; rw [List.foldl_cons, ih, stepI_len, List.length_cons]; omega
  have := this l ([], false)
  unfold foldI
  rw [this]; simp; omega
set_option maxHeartbeats 1000000 in
theorem refSet_calls (A : Option Addr) (n c : Nat) (l : List Mk) (m : Mk) (w : World) (hn : n ≤ 100000) (hs : m.nm.size ≤ 9223372036854775807) (hm : Row w 2 A n (Mk.cs l)) :
    Calls Try.prog 11 #[.slice A n c, .agg #[.string m.nm, .int .i64 m.pl]] w fun e w' => ∃ v, e = .returned (.tuple #[v, .int .i64 (setR l m).2]) ∧ w'.ownsRow w.heap.size 24 2 v (setR l m).1.length (Mk.cs (setR l m).1) ∧ Ex w w' := by
  have hl := hm.mk_len
  subst hl
  have Hm := Lib.hid hm
  clear hm
  cases hmay : mayMk m.nm
  · have Hd := Lib.hid (show setR l m = ([], 7) from by unfold setR; rw [if_pos hmay])
    have Hy := Lib.hid hmay
    clear hmay
    go_enter Try.func11, Try.ntmps11
    go_wp2_with fail
    refine (refMayMark_calls _ _ hs).mono ?_
    rintro e w1 ⟨rfl, rfl⟩
    rw [Hy.out]
    go_wp2
    go_ret2
    exact ⟨_, by rw [Hd.out]; rfl, by rw [Hd.out]; exact World.ownsRow_nil _ _ _ _, ex_alloc (Ex.refl _) _⟩
  · cases hf : (findM m.nm l).2
    · by_cases h16 : 16 ≤ l.length
      · have Hd := Lib.hid (show setR l m = ([], 9) from by unfold setR; rw [if_neg (by rw [hmay]; simp), if_neg (by rw [hf]; simp), if_pos h16])
        have Hy := Lib.hid hmay
        have Hf := Lib.hid hf
        clear hmay hf
        go_enter Try.func11, Try.ntmps11
        go_wp2_with fail
        refine (refMayMark_calls _ _ hs).mono ?_
        rintro e w1 ⟨rfl, rfl⟩
        rw [Hy.out]
        go_wp2_with fail
        refine (refFind_calls _ _ _ l m.nm _ (by omega) (Hm.out.ex (ex_alloc (Ex.refl _) _))).mono ?_
        rintro e w1 ⟨rfl, rfl⟩
        rw [Hf.out]
        go_wp2
        go_ret2
        exact ⟨_, by rw [Hd.out]; rfl, by rw [Hd.out]; exact World.ownsRow_nil _ _ _ _, ex_alloc (Ex.refl _) _⟩
      · have Hd := Lib.hid (show setR l m = (endI m (foldI m l), 0) from by unfold setR; rw [if_neg (by rw [hmay]; simp), if_neg (by rw [hf]; simp), if_neg h16])
        have Hy := Lib.hid hmay
        have Hf := Lib.hid hf
        clear hmay hf
        have g0 : (w.alloc (.cells #[.string m.nm, .int .i64 m.pl] 24)).cell? ⟨w.heap.size, 0, none⟩ = some (.string m.nm) := (show Blk _ _ 24 (Mk.enc m) from heap_alloc_new w _).cell 0
        have g1 : (w.alloc (.cells #[.string m.nm, .int .i64 m.pl] 24)).cell? ⟨w.heap.size, 1, none⟩ = some (.int .i64 m.pl) := (show Blk _ _ 24 (Mk.enc m) from heap_alloc_new w _).cell 1
        go_enter Try.func11, Try.ntmps11
        go_wp2_with fail
        refine (refMayMark_calls _ _ hs).mono ?_
        rintro e w1 ⟨rfl, rfl⟩
        rw [Hy.out]
        go_wp2_with fail
        refine (refFind_calls _ _ _ l m.nm _ (by omega) (Hm.out.ex (ex_alloc (Ex.refl _) _))).mono ?_
        rintro e W ⟨rfl, hW⟩
        rw [Hf.out]
        have hb0 : W.cell? ⟨w.heap.size, 0, none⟩ = some (.string m.nm) := by rw [hW]; exact g0
        have hb1 : W.cell? ⟨w.heap.size, 1, none⟩ = some (.int .i64 m.pl) := by rw [hW]; exact g1
        have hWw : Ex w W := by rw [hW]; exact ex_alloc (Ex.refl _) _
        have hWs := hWw.size
        obtain ⟨L, hL⟩ : ∃ L, L = l := ⟨l, rfl⟩
        have HL := Lib.hid (show Row W 2 A L.length (Mk.cs L) from by rw [hL]; exact Hm.out.ex hWw)
        have hLn : L.length ≤ 100000 := by rw [hL]; exact hn
        have Hd := Lib.hid (show setR l m = (endI m (foldI m L), 0) from by rw [hL]; exact Hd.out)
        rw [← hL] at h16 ⊢
        clear hL hW g0 g1
        go_wp2
        go_loopw [8, 9, 10] (fun v d i wr => ∃ k : Nat, k ≤ L.length ∧ i = .int .i64 k ∧ d = .bool (foldI m (L.take k)).2 ∧ wr.ownsRow W.heap.size 24 2 v (foldI m (L.take k)).1.length (Mk.cs (foldI m (L.take k)).1) ∧ Ex W wr) (fun _ _ i _ => L.length - (intOf i).toNat)
        case atStart => exact ⟨0, Nat.zero_le _, rfl, rfl, World.ownsRow_nil _ _ _ _, Ex.refl _⟩
        case round =>
          obtain ⟨k, hk, rfl, rfl, ho, hb⟩ := hrel
          have hfl := foldI_len m (L.take k)
          rw [List.length_take] at hfl
          have hfl2 : (foldI m (L.take k)).1.length ≤ k + 1 := by omega
          clear hfl
          have b0 := hb.cell hb0
          have b1 := hb.cell hb1
          by_cases hlt : k < L.length
          · obtain ⟨b, o, rfl, c1o, c2o⟩ := HL.out.mk hlt
            have c1 := hb.cell c1o
            have c2 := hb.cell c2o
            have w4 : (k : Int) < (L.length : Int) := by omega
            have Hs := Lib.hid (foldI_succ m hlt)
            cases hdn : (foldI m (L.take k)).2
            · go_wp2
              go_quiet (fail)
              have hqq : (!Op.bytesLess L[k].nm.toList m.nm.toList && !L[k].nm.toList == m.nm.toList) = upN m.nm L[k].nm := by unfold upN ltN; rw [Bool.not_or]
              rw [hqq]
              clear hqq
              have ho2 : (wr.drewN nq).ownsRow W.heap.size 24 2 _ (foldI m (L.take k)).1.length (Mk.cs (foldI m (L.take k)).1) := ho
              have hb2 : Ex W (wr.drewN nq) := hb.trans (Dr.ex ⟨nq, rfl⟩)
              have hz2 := hb.size
              cases hq : upN m.nm L[k].nm
              · have Hr := Lib.hid (show stepI m (foldI m (L.take k)) L[k] = ((foldI m (L.take k)).1 ++ [L[k]], false) from by unfold stepI; rw [hdn, hq]; rfl)
                clear hq hdn
                go_wp2_with (first | (at_builtin; refine app_mk rfl (.tmp 55) (.tmp 60) rfl W.heap.size _ _ (foldI m (L.take k)).1 rfl (ho2.alloc _) (some ⟨wr.heap.size, 0, none⟩) 1 1 [L[k]] rfl (row_new (wr.drewN nq) L[k]) (by omega) (by simp; omega) (ex_alloc hb2 _) ?_; intro v' w' ho' hb' hg _))
                exact ⟨⟨k + 1, by omega, by go_num, by rw [Hs.out, Hr.out], by rw [Hs.out, Hr.out, List.length_append]; exact ho', hb'⟩, by simp [intOf]; omega⟩
              · have Hr := Lib.hid (show stepI m (foldI m (L.take k)) L[k] = ((foldI m (L.take k)).1 ++ [m] ++ [L[k]], true) from by unfold stepI; rw [hdn, hq]; rfl)
                clear hq hdn
                have r1 := row_new (wr.drewN nq) m
                go_wp2_with (first | (at_builtin; refine app_mk rfl (.tmp 51) (.tmp 53) rfl W.heap.size _ _ (foldI m (L.take k)).1 rfl (ho2.alloc _) (some ⟨wr.heap.size, 0, none⟩) 1 1 [m] rfl r1 (by omega) (by simp; omega) (ex_alloc hb2 _) ?_; intro v1 w1 ho1 hb1' hg1 _; have hz1 := hb1'.size; have d1 := Ex.cell hb1' c1o; have d2 := Ex.cell hb1' c2o) | (at_builtin; refine app_mk rfl (.tmp 55) (.tmp 60) rfl W.heap.size _ _ ((foldI m (L.take k)).1 ++ [m]) rfl (ho1.alloc _) (some ⟨w1.heap.size, 0, none⟩) 1 1 [L[k]] rfl (row_new w1 L[k]) (by omega) (by simp; omega) (ex_alloc hb1' _) ?_; intro v' w' ho' hb' hg _))
                exact ⟨⟨k + 1, by omega, by go_num, by rw [Hs.out, Hr.out], by rw [Hs.out, Hr.out, List.length_append, List.length_append]; exact ho', hb'⟩, by simp [intOf]; omega⟩
            · go_wp2
              go_quiet (fail)
              have Hr := Lib.hid (show stepI m (foldI m (L.take k)) L[k] = ((foldI m (L.take k)).1 ++ [L[k]], true) from by unfold stepI; rw [hdn]; rfl)
              have ho2 : (wr.drewN nq).ownsRow W.heap.size 24 2 _ (foldI m (L.take k)).1.length (Mk.cs (foldI m (L.take k)).1) := ho
              have hb2 : Ex W (wr.drewN nq) := hb.trans (Dr.ex ⟨nq, rfl⟩)
              have hz2 := hb.size
              clear hdn
              go_wp2_with (first | (at_builtin; refine app_mk rfl (.tmp 55) (.tmp 60) rfl W.heap.size _ _ (foldI m (L.take k)).1 rfl (ho2.alloc _) (some ⟨wr.heap.size, 0, none⟩) 1 1 [L[k]] rfl (row_new (wr.drewN nq) L[k]) (by omega) (by simp; omega) (ex_alloc hb2 _) ?_; intro v' w' ho' hb' hg _))
              exact ⟨⟨k + 1, by omega, by go_num, by rw [Hs.out, Hr.out], by rw [Hs.out, Hr.out, List.length_append]; exact ho', hb'⟩, by simp [intOf]; omega⟩
          · have e1 : L.take k = L := List.take_of_length_le (by omega)
            rw [e1] at ho hfl2 ⊢
            have hz2 := hb.size
            cases hdn : (foldI m L).2
            · have Hr := Lib.hid (show endI m (foldI m L) = (foldI m L).1 ++ [m] from by unfold endI; rw [hdn]; rfl)
              clear hdn
              go_wp2_with (first | (at_builtin; refine app_mk rfl (.tmp 64) (.tmp 66) rfl W.heap.size _ _ (foldI m L).1 rfl (ho.alloc _) (some ⟨wr.heap.size, 0, none⟩) 1 1 [m] rfl (row_new wr m) (by omega) (by simp; omega) (ex_alloc hb _) ?_; intro v' w' ho' hb' hg _))
              go_ret2
              exact ⟨_, by rw [Hd.out]; rfl, by rw [Hd.out, Hr.out, List.length_append]; exact own_more ho' hWs, hWw.trans hb'⟩
            · have Hr := Lib.hid (show endI m (foldI m L) = (foldI m L).1 from by unfold endI; rw [hdn]; rfl)
              clear hdn
              go_wp2
              go_ret2
              exact ⟨_, by rw [Hd.out]; rfl, by rw [Hd.out, Hr.out]; exact own_more ho hWs, hWw.trans hb⟩
    · have Hd := Lib.hid (show setR l m = (endI m (foldI m (l.filter (nmNot m.nm))), 0) from by unfold setR; rw [if_neg (by rw [hmay]; simp), if_pos hf])
      have Hdr := Lib.hid (show dropM m.nm l = (l.filter (nmNot m.nm), 0) from by unfold dropM; rw [hf]; rfl)
      have Hy := Lib.hid hmay
      have Hf := Lib.hid hf
      clear hmay hf
      have g0 : (w.alloc (.cells #[.string m.nm, .int .i64 m.pl] 24)).cell? ⟨w.heap.size, 0, none⟩ = some (.string m.nm) := (show Blk _ _ 24 (Mk.enc m) from heap_alloc_new w _).cell 0
      have g1 : (w.alloc (.cells #[.string m.nm, .int .i64 m.pl] 24)).cell? ⟨w.heap.size, 1, none⟩ = some (.int .i64 m.pl) := (show Blk _ _ 24 (Mk.enc m) from heap_alloc_new w _).cell 1
      go_enter Try.func11, Try.ntmps11
      go_wp2_with fail
      refine (refMayMark_calls _ _ hs).mono ?_
      rintro e w1 ⟨rfl, rfl⟩
      rw [Hy.out]
      go_wp2_with fail
      refine (refFind_calls _ _ _ l m.nm _ (by omega) (Hm.out.ex (ex_alloc (Ex.refl _) _))).mono ?_
      rintro e w1 ⟨rfl, rfl⟩
      rw [Hf.out]
      go_wp2_with fail
      refine (refDrop_calls _ _ _ l m.nm _ hn (Hm.out.ex (ex_alloc (Ex.refl _) _))).mono ?_
      rintro e W ⟨v0, rfl, hown, hW⟩
      rw [Hdr.out] at hown ⊢
      have hb0 : W.cell? ⟨w.heap.size, 0, none⟩ = some (.string m.nm) := hW.cell g0
      have hb1 : W.cell? ⟨w.heap.size, 1, none⟩ = some (.int .i64 m.pl) := hW.cell g1
      have hWw : Ex w W := (ex_alloc (Ex.refl _) _).trans hW
      have hWs := hWw.size
      have hLn : (l.filter (nmNot m.nm)).length ≤ 100000 := Nat.le_trans (List.length_filter_le _ _) hn
      obtain ⟨A', c', rfl, _⟩ := own_shape hown
      have HL := Lib.hid (Row.of_own hown)
      generalize l.filter (nmNot m.nm) = L at HL Hd hLn ⊢
      clear hown hW g0 g1
      go_wp2
      go_loopw [8, 9, 10] (fun v d i wr => ∃ k : Nat, k ≤ L.length ∧ i = .int .i64 k ∧ d = .bool (foldI m (L.take k)).2 ∧ wr.ownsRow W.heap.size 24 2 v (foldI m (L.take k)).1.length (Mk.cs (foldI m (L.take k)).1) ∧ Ex W wr) (fun _ _ i _ => L.length - (intOf i).toNat)
      case atStart => exact ⟨0, Nat.zero_le _, rfl, rfl, World.ownsRow_nil _ _ _ _, Ex.refl _⟩
      case round =>
        obtain ⟨k, hk, rfl, rfl, ho, hb⟩ := hrel
        have hfl := foldI_len m (L.take k)
        rw [List.length_take] at hfl
        have hfl2 : (foldI m (L.take k)).1.length ≤ k + 1 := by omega
        clear hfl
        have b0 := hb.cell hb0
        have b1 := hb.cell hb1
        by_cases hlt : k < L.length
        · obtain ⟨b, o, rfl, c1o, c2o⟩ := HL.out.mk hlt
          have c1 := hb.cell c1o
          have c2 := hb.cell c2o
          have w4 : (k : Int) < (L.length : Int) := by omega
          have Hs := Lib.hid (foldI_succ m hlt)
          cases hdn : (foldI m (L.take k)).2
          · go_wp2
            go_quiet (fail)
            have hqq : (!Op.bytesLess L[k].nm.toList m.nm.toList && !L[k].nm.toList == m.nm.toList) = upN m.nm L[k].nm := by unfold upN ltN; rw [Bool.not_or]
            rw [hqq]
            clear hqq
            have ho2 : (wr.drewN nq).ownsRow W.heap.size 24 2 _ (foldI m (L.take k)).1.length (Mk.cs (foldI m (L.take k)).1) := ho
            have hb2 : Ex W (wr.drewN nq) := hb.trans (Dr.ex ⟨nq, rfl⟩)
            have hz2 := hb.size
            cases hq : upN m.nm L[k].nm
            · have Hr := Lib.hid (show stepI m (foldI m (L.take k)) L[k] = ((foldI m (L.take k)).1 ++ [L[k]], false) from by unfold stepI; rw [hdn, hq]; rfl)
              clear hq hdn
              go_wp2_with (first | (at_builtin; refine app_mk rfl (.tmp 55) (.tmp 60) rfl W.heap.size _ _ (foldI m (L.take k)).1 rfl (ho2.alloc _) (some ⟨wr.heap.size, 0, none⟩) 1 1 [L[k]] rfl (row_new (wr.drewN nq) L[k]) (by omega) (by simp; omega) (ex_alloc hb2 _) ?_; intro v' w' ho' hb' hg _))
              exact ⟨⟨k + 1, by omega, by go_num, by rw [Hs.out, Hr.out], by rw [Hs.out, Hr.out, List.length_append]; exact ho', hb'⟩, by simp [intOf]; omega⟩
            · have Hr := Lib.hid (show stepI m (foldI m (L.take k)) L[k] = ((foldI m (L.take k)).1 ++ [m] ++ [L[k]], true) from by unfold stepI; rw [hdn, hq]; rfl)
              clear hq hdn
              have r1 := row_new (wr.drewN nq) m
              go_wp2_with (first | (at_builtin; refine app_mk rfl (.tmp 51) (.tmp 53) rfl W.heap.size _ _ (foldI m (L.take k)).1 rfl (ho2.alloc _) (some ⟨wr.heap.size, 0, none⟩) 1 1 [m] rfl r1 (by omega) (by simp; omega) (ex_alloc hb2 _) ?_; intro v1 w1 ho1 hb1' hg1 _; have hz1 := hb1'.size; have d1 := Ex.cell hb1' c1o; have d2 := Ex.cell hb1' c2o) | (at_builtin; refine app_mk rfl (.tmp 55) (.tmp 60) rfl W.heap.size _ _ ((foldI m (L.take k)).1 ++ [m]) rfl (ho1.alloc _) (some ⟨w1.heap.size, 0, none⟩) 1 1 [L[k]] rfl (row_new w1 L[k]) (by omega) (by simp; omega) (ex_alloc hb1' _) ?_; intro v' w' ho' hb' hg _))
              exact ⟨⟨k + 1, by omega, by go_num, by rw [Hs.out, Hr.out], by rw [Hs.out, Hr.out, List.length_append, List.length_append]; exact ho', hb'⟩, by simp [intOf]; omega⟩
          · go_wp2
            go_quiet (fail)
            have Hr := Lib.hid (show stepI m (foldI m (L.take k)) L[k] = ((foldI m (L.take k)).1 ++ [L[k]], true) from by unfold stepI; rw [hdn]; rfl)
            have ho2 : (wr.drewN nq).ownsRow W.heap.size 24 2 _ (foldI m (L.take k)).1.length (Mk.cs (foldI m (L.take k)).1) := ho
            have hb2 : Ex W (wr.drewN nq) := hb.trans (Dr.ex ⟨nq, rfl⟩)
            have hz2 := hb.size
            clear hdn
            go_wp2_with (first | (at_builtin; refine app_mk rfl (.tmp 55) (.tmp 60) rfl W.heap.size _ _ (foldI m (L.take k)).1 rfl (ho2.alloc _) (some ⟨wr.heap.size, 0, none⟩) 1 1 [L[k]] rfl (row_new (wr.drewN nq) L[k]) (by omega) (by simp; omega) (ex_alloc hb2 _) ?_; intro v' w' ho' hb' hg _))
            exact ⟨⟨k + 1, by omega, by go_num, by rw [Hs.out, Hr.out], by rw [Hs.out, Hr.out, List.length_append]; exact ho', hb'⟩, by simp [intOf]; omega⟩
        · have e1 : L.take k = L := List.take_of_length_le (by omega)
          rw [e1] at ho hfl2 ⊢
          have hz2 := hb.size
          cases hdn : (foldI m L).2
          · have Hr := Lib.hid (show endI m (foldI m L) = (foldI m L).1 ++ [m] from by unfold endI; rw [hdn]; rfl)
            clear hdn
            go_wp2_with (first | (at_builtin; refine app_mk rfl (.tmp 64) (.tmp 66) rfl W.heap.size _ _ (foldI m L).1 rfl (ho.alloc _) (some ⟨wr.heap.size, 0, none⟩) 1 1 [m] rfl (row_new wr m) (by omega) (by simp; omega) (ex_alloc hb _) ?_; intro v' w' ho' hb' hg _))
            go_ret2
            exact ⟨_, by rw [Hd.out]; rfl, by rw [Hd.out, Hr.out, List.length_append]; exact own_more ho' hWs, hWw.trans hb'⟩
          · have Hr := Lib.hid (show endI m (foldI m L) = (foldI m L).1 from by unfold endI; rw [hdn]; rfl)
            clear hdn
            go_wp2
            go_ret2
            exact ⟨_, by rw [Hd.out]; rfl, by rw [Hd.out, Hr.out]; exact own_more ho hWs, hWw.trans hb⟩
end Go.Proofs.Ytkclpflgndgabaa
