/- Walks: lists of marks shifted: the program's and the document's. -/
import Derived.Test.YtkclpflgndgabaaEdA
import Derived.Test.YtkclpflgndgabaaMkP
import Derived.Deep.RegionHeld3
namespace Go.Proofs.Ytkclpflgndgabaa
open Go.RowKit
def shM (e : Ed) (m : Mk) : Mk := ⟨m.nm, shiftR e m.pl⟩
theorem set1_cs {cur : List Value} {l : List Mk} {i n : Nat} (p : Int) (hct : cur.take (n * 2) = Mk.cs l) (hl : l.length = n) (hi : i < n) : (cur.set (i * 2 + 1) (.int .i64 p)).take (n * 2) = Mk.cs (l.set i ⟨(l[i]'(by omega)).nm, p⟩) := by
  have h := set_cs ⟨(l[i]'(by omega)).nm, p⟩ hct hl hi
  have e0 : cur[i * 2]? = some (.string (l[i]'(by omega)).nm) := by
    have e2 := flat_get Mk.enc 2 (fun _ => rfl) l i (l[i]'(by omega)) 0 (List.getElem?_eq_getElem (by omega)) (by omega)
    rw [← Mk.cs, ← hct, Nat.add_zero, List.getElem?_take_of_lt (by omega)] at e2
    exact e2
  have e1 : cur.set (i * 2) (.string (l[i]'(by omega)).nm) = cur := by
    apply List.ext_getElem?
    intro j
    by_cases hj : j = i * 2
    · subst hj
      rw [List.getElem?_set_self (by have := (List.getElem?_eq_some_iff.1 e0).1; exact this), e0]
    · rw [List.getElem?_set_ne (fun h => hj h.symm)]
  rw [e1] at h
  exact h
theorem sh_set {e : Ed} {l : List Mk} {k : Nat} (hk : k < l.length) : ((l.take k).map (shM e) ++ l.drop k).set k (shM e l[k]) = (l.take (k + 1)).map (shM e) ++ l.drop (k + 1) := by
  have h1 : ((l.take k).map (shM e)).length = k := by rw [List.length_map, List.length_take]; omega
  rw [List.set_append_right _ _ (by omega), h1, Nat.sub_self, List.drop_eq_getElem_cons hk, List.set_cons_zero, List.take_succ_eq_append_getElem hk, List.map_append, List.append_assoc]
  rfl
theorem sh_len {e : Ed} {l : List Mk} (k : Nat) : ((l.take k).map (shM e) ++ l.drop k).length = l.length := by
  rw [List.length_append, List.length_map, List.length_take, List.length_drop]; omega
theorem sh_get {e : Ed} {l : List Mk} {k : Nat} (hk : k < l.length) : ((l.take k).map (shM e) ++ l.drop k)[k]'(by rw [sh_len]; exact hk) = l[k] := by
  have h1 : ((l.take k).map (shM e)).length = k := by rw [List.length_map, List.length_take]; omega
  rw [List.getElem_append_right (by omega)]
  simp only [h1, Nat.sub_self, List.getElem_drop, Nat.add_zero]
set_option maxHeartbeats 1000000 in
theorem shift_calls (A : Option Addr) (n c : Nat) (l : List Mk) (e : Ed) (w : World) (hn : n ≤ 900) (hm : Row w 2 A n (Mk.cs l)) (hA : A = none → c = 0)
    (h1 : 0 ≤ e.pl) (h2 : e.pl ≤ 1000000000) (h3 : ∀ m ∈ l, -1000000000 ≤ m.pl ∧ m.pl ≤ 1000000000) (h4 : e.old.size ≤ 1000000000) (h5 : e.nw.size ≤ 1000000000) :
    Calls Try.prog 21 #[.slice A n c, .agg #[.int .i64 e.pl, .string e.old, .string e.nw]] w fun r w' => ∃ v, r = .returned v ∧ w'.ownsRow w.heap.size 24 2 v n (Mk.cs (l.map (shM e))) ∧ Ex w w' := by
  have hl := hm.mk_len
  subst hl
  have Hm := Lib.hid hm
  have HA := Lib.hid hA
  have H3 := Lib.hid h3
  clear hm hA h3
  have X0 : Ex w (w.alloc (.cells #[.int .i64 e.pl, .string e.old, .string e.nw] 38)) := ex_alloc (Ex.refl _) _
  have g0 : (w.alloc (.cells #[.int .i64 e.pl, .string e.old, .string e.nw] 38)).cell? ⟨w.heap.size, 0, none⟩ = some (.int .i64 e.pl) := (show Blk _ _ 38 [.int .i64 e.pl, .string e.old, .string e.nw] from heap_alloc_new w _).cell 0
  have g1 : (w.alloc (.cells #[.int .i64 e.pl, .string e.old, .string e.nw] 38)).cell? ⟨w.heap.size, 1, none⟩ = some (.string e.old) := (show Blk _ _ 38 [.int .i64 e.pl, .string e.old, .string e.nw] from heap_alloc_new w _).cell 1
  have g2 : (w.alloc (.cells #[.int .i64 e.pl, .string e.old, .string e.nw] 38)).cell? ⟨w.heap.size, 2, none⟩ = some (.string e.nw) := (show Blk _ _ 38 [.int .i64 e.pl, .string e.old, .string e.nw] from heap_alloc_new w _).cell 2
  go_enter Try.func21, Try.ntmps21
  go_wp2_with fail
  refine (clone_calls A l.length c l _ (by omega) (Hm.out.ex X0) HA.out).mono ?_
  rintro r W ⟨v, rfl, ho, hb⟩
  have k0 := Ex.cell hb g0
  have k1 := Ex.cell hb g1
  have k2 := Ex.cell hb g2
  have X1 : Ex w W := X0.trans hb
  rcases own_blk ho with ⟨rfl, hl0, hl⟩ | ⟨g, cap, cur0, rfl, hg, hblk, hnc, hcm, hcl, hct⟩
  · have hnil := List.eq_nil_of_length_eq_zero hl0
    subst hnil
    clear hl0 hl
    go_wp2
    go_loopw [12] (fun i wr => i = .int .i64 0 ∧ wr = W) (fun _ _ => 0)
    case atStart => exact ⟨rfl, rfl⟩
    case round =>
      obtain ⟨rfl, rfl⟩ := hrel
      go_wp2
      go_ret
      exact ⟨_, rfl, World.ownsRow_nil _ _ _ _, X1⟩
  · have hgw : w.heap.size + 1 ≤ g := by have := hg; simp at this; exact this
    have HB0 := Lib.hid hblk
    have HC0 := Lib.hid hct
    have HL0 := Lib.hid hcl
    have HR := Lib.hid (Hm.out.ex X1)
    clear hblk hct hcl ho
    go_wp2
    go_loopw [12] (fun i wr => ∃ k : Nat, ∃ cur : List Value, k ≤ l.length ∧ i = .int .i64 k ∧ Blk wr g 24 cur ∧ cur.length = cap * 2 ∧ cur.take (l.length * 2) = Mk.cs ((l.take k).map (shM e) ++ l.drop k) ∧ Below (w.heap.size + 1) W wr) (fun i _ => l.length - (intOf i).toNat)
    case atStart => exact ⟨0, cur0, Nat.zero_le _, rfl, HB0.out, HL0.out, HC0.out, Below.refl _ _⟩
    case round =>
      obtain ⟨k, cur, hk, rfl, hblk, hcl, hct, hbw⟩ := hrel
      by_cases hlt : k < l.length
      · obtain ⟨b, o, rfl, c1, c2⟩ := Hm.out.mk hlt
        have hbb : b < w.heap.size := World.block_lt_of_cell? w _ c1
        have d1 : wr.cell? ⟨b, o + k * 2, none⟩ = some (.string l[k].nm) := (hbw.cell (p := ⟨b, _, none⟩) (show b < w.heap.size + 1 by omega)).trans (Ex.cell X1 c1)
        have d2 : wr.cell? ⟨b, o + k * 2 + 1, none⟩ = some (.int .i64 l[k].pl) := (hbw.cell (p := ⟨b, _, none⟩) (show b < w.heap.size + 1 by omega)).trans (Ex.cell X1 c2)
        have q0 := (hbw.cell (p := ⟨w.heap.size, 0, none⟩) (by simp)).trans k0
        have q1 := (hbw.cell (p := ⟨w.heap.size, 1, none⟩) (by simp)).trans k1
        have q2 := (hbw.cell (p := ⟨w.heap.size, 2, none⟩) (by simp)).trans k2
        have hz : w.heap.size < wr.heap.size := by have := hbw.size; have := hb.size; simp at this; omega
        have hzb : b < wr.heap.size := by omega
        obtain ⟨hp1, hp2⟩ := H3.out l[k] (List.getElem_mem hlt)
        have hcl2 : k * 2 + 1 < cur.length := by omega
        have HB := Lib.hid hblk
        have HL := Lib.hid hcl
        have HS := Lib.hid (show (cur.set (k * 2 + 1) (.int .i64 (shiftR e l[k].pl))).take (l.length * 2) = Mk.cs ((l.take (k + 1)).map (shM e) ++ l.drop (k + 1)) from by
          rw [set1_cs (shiftR e l[k].pl) hct (sh_len k) hlt, ← sh_set hlt]
          simp only [sh_get hlt]
          rfl)
        clear hblk hct hcl
        go_wp2_with fail
        refine (shiftE_calls e l[k].pl _ h1 h2 hp2 hp1 h4 h5).mono ?_
        rintro r w2 ⟨rfl, hb2⟩
        have hbw2 : Below (w.heap.size + 1) W w2 := (hbw.alloc (by omega) _).trans (Below.mono hb2 (by simp; omega))
        have HB2 := Lib.hid (show Blk w2 g 24 cur from (HB.out.ex (ex_alloc (Ex.refl _) _)).ex hb2)
        obtain ⟨u1, hu1⟩ : ∃ u, w2.cell? ⟨g, k * 2 + 1, none⟩ = some u := ⟨_, (HB2.out.cell _).trans (List.getElem?_eq_getElem hcl2)⟩
        have hf1 := HB2.out.frozen (k * 2 + 1)
        go_wp2
        exact ⟨⟨k + 1, cur.set (k * 2 + 1) (.int .i64 (shiftR e l[k].pl)), by omega, by go_num, HB2.out.set_ _ _, by rw [List.length_set]; exact HL.out, HS.out, hbw2.setCell (p := ⟨g, k * 2 + 1, none⟩) hgw _⟩, by simp [intOf]; omega⟩
      · have hkl : k = l.length := by omega
        go_wp2
        go_ret
        refine ⟨_, rfl, own_of_blk hblk (by omega) hnc hcm hcl ?_, Below.trans X1 (Below.mono hbw (by omega))⟩
        rw [hct, List.take_of_length_le (by omega), List.drop_eq_nil_of_le (by omega), List.append_nil]
set_option maxHeartbeats 1000000 in
theorem refShift_calls (A : Option Addr) (n c : Nat) (l : List Mk) (e : Ed) (w : World) (hn : n ≤ 900) (hm : Row w 2 A n (Mk.cs l))
    (h1 : 0 ≤ e.pl) (h2 : e.pl ≤ 1000000000) (h3 : ∀ m ∈ l, -1000000000 ≤ m.pl ∧ m.pl ≤ 1000000000) (h4 : e.old.size ≤ 1000000000) (h5 : e.nw.size ≤ 1000000000) :
    Calls Try.prog 22 #[.slice A n c, .agg #[.int .i64 e.pl, .string e.old, .string e.nw]] w fun r w' => ∃ v, r = .returned v ∧ w'.ownsRow w.heap.size 24 2 v n (Mk.cs (l.map (shM e))) ∧ Ex w w' := by
  have hl := hm.mk_len
  subst hl
  have Hm := Lib.hid hm
  have H3 := Lib.hid h3
  clear hm h3
  have X0 : Ex w (w.alloc (.cells #[.int .i64 e.pl, .string e.old, .string e.nw] 38)) := ex_alloc (Ex.refl _) _
  have g0 : (w.alloc (.cells #[.int .i64 e.pl, .string e.old, .string e.nw] 38)).cell? ⟨w.heap.size, 0, none⟩ = some (.int .i64 e.pl) := (show Blk _ _ 38 [.int .i64 e.pl, .string e.old, .string e.nw] from heap_alloc_new w _).cell 0
  have g1 : (w.alloc (.cells #[.int .i64 e.pl, .string e.old, .string e.nw] 38)).cell? ⟨w.heap.size, 1, none⟩ = some (.string e.old) := (show Blk _ _ 38 [.int .i64 e.pl, .string e.old, .string e.nw] from heap_alloc_new w _).cell 1
  have g2 : (w.alloc (.cells #[.int .i64 e.pl, .string e.old, .string e.nw] 38)).cell? ⟨w.heap.size, 2, none⟩ = some (.string e.nw) := (show Blk _ _ 38 [.int .i64 e.pl, .string e.old, .string e.nw] from heap_alloc_new w _).cell 2
  obtain ⟨W, hW⟩ : ∃ W, W = w.alloc (.cells #[.int .i64 e.pl, .string e.old, .string e.nw] 38) := ⟨_, rfl⟩
  rw [← hW] at X0 g0 g1 g2
  have HW := Lib.hid hW
  have hWs : W.heap.size = w.heap.size + 1 := by rw [hW]; simp
  have HWs := Lib.hid hWs
  clear hW hWs
  go_enter Try.func22, Try.ntmps22
  go_wp2
  rw [← HW.out]
  go_loopw [5, 6] (fun v i wr => ∃ k : Nat, k ≤ l.length ∧ i = .int .i64 k ∧ wr.ownsRow W.heap.size 24 2 v k (Mk.cs ((l.take k).map (shM e))) ∧ Ex W wr) (fun _ i _ => l.length - (intOf i).toNat)
  case atStart => exact ⟨0, Nat.zero_le _, rfl, World.ownsRow_nil _ _ _ _, Ex.refl _⟩
  case round =>
    obtain ⟨k, hk, rfl, ho, hb⟩ := hrel
    have k0 := Ex.cell hb g0
    have k1 := Ex.cell hb g1
    have k2 := Ex.cell hb g2
    have hz := hb.size
    by_cases hlt : k < l.length
    · obtain ⟨b, o, rfl, c1o, c2o⟩ := (Hm.out.ex X0).mk hlt
      have c1 := Ex.cell hb c1o
      have c2 := Ex.cell hb c2o
      obtain ⟨hp1, hp2⟩ := H3.out l[k] (List.getElem_mem hlt)
      have w4 : (k : Int) < (l.length : Int) := by omega
      have HS := Lib.hid (show (l.take (k + 1)).map (shM e) = (l.take k).map (shM e) ++ [shM e l[k]] from by rw [List.take_succ_eq_append_getElem hlt, List.map_append]; rfl)
      go_wp2
      go_region_held3 (fun w' => w'.cell? ⟨b, o + k * 2, none⟩ = some (.string l[k].nm) ∧ w'.cell? ⟨b, o + k * 2 + 1, none⟩ = some (.int .i64 l[k].pl) ∧ w'.cell? ⟨w.heap.size, 0, none⟩ = some (.int .i64 e.pl) ∧ w'.cell? ⟨w.heap.size, 1, none⟩ = some (.string e.old) ∧ w'.cell? ⟨w.heap.size, 2, none⟩ = some (.string e.nw)) (go_keep) (first | (go_at_call 40; refine (refShiftE_calls e l[k].pl _ h1 h2 hp2 hp1 h4 h5).mono ?_; rintro r w2 ⟨rfl, hb2⟩; have ho2 := own_ex (w := wr.drew) (show World.ownsRow wr.drew _ _ _ _ _ _ from ho) hb2; have hB2 : Ex W w2 := (hb.drew).trans (Below.mono hb2 hz); have m0 := Ex.cell (w := wr.drew) hb2 c1; have m1 := Ex.cell (w := wr.drew) hb2 c2; have m2 := Ex.cell (w := wr.drew) hb2 k0; have m3 := Ex.cell (w := wr.drew) hb2 k1; have m4 := Ex.cell (w := wr.drew) hb2 k2) | (refine app_mk_step rfl (.tmp 13) (.tmp 27) rfl W.heap.size _ k ((l.take k).map (shM e)) ?_ (ho2.alloc _) (some ⟨w2.heap.size, 0, none⟩) 1 1 [shM e l[k]] ?_ (row_new w2 (shM e l[k])) ?_ ?_ (ex_alloc hB2 _) ?_; (focus go_simp); (focus go_simp); (focus omega); (focus (have := hB2.size; simp; omega)); intro v' w' ho' hb' hg' _; have n0 := Ex.cell hb' c1o; have n1 := Ex.cell hb' c2o; have n2 := Ex.cell hb' g0; have n3 := Ex.cell hb' g1; have n4 := Ex.cell hb' g2))
      go_wp2
      exact ⟨⟨k + 1, by omega, by go_num, by rw [HS.out]; exact ho', hb'⟩, by simp [intOf]; omega⟩
    · go_wp2
      go_ret
      have hkl : k = l.length := by omega
      subst hkl
      rw [List.take_of_length_le (Nat.le_refl _)] at ho
      exact ⟨_, rfl, own_more ho (by have := HWs.out; omega), X0.trans hb⟩
end Go.Proofs.Ytkclpflgndgabaa
