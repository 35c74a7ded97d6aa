/- Walk: the program's Set. -/
import Derived.Test.YtkclpflgndgabaaMkI
namespace Go.Proofs.Ytkclpflgndgabaa
open Go.RowKit
/-- Insert, the mark boxed behind the clone. -/
theorem insA {w w3 : World} {B n j : Nat} {v : Value} {l : List Mk} (m : Mk) (ho : w3.ownsRow B 24 2 v n (Mk.cs l)) (hn : n ≤ 1000) (hj : j ≤ n) (hE : Ex w w3) (hB : w.heap.size ≤ B) :
    Calls Try.prog 32 #[v, .int .i64 (j : Int), .slice (some ⟨w3.heap.size, 0, none⟩) 1 1] (w3.alloc (.cells #[.string m.nm, .int .i64 m.pl] 24)) fun e w' => ∃ v', e = .returned v' ∧ w'.ownsRow w.heap.size 24 2 v' (n + 1) (Mk.cs (l.take j ++ m :: l.drop j)) ∧ Ex w w' :=
  insert_calls w.heap.size w _ v n l j m w3.heap.size ((own_more ho hB).alloc _) hn hj (heap_alloc_new w3 _) (fun e => by have := (ho.lt _ e).2; omega) (by have := hE.size; simp; omega) (ex_alloc hE _)
/-- Insert, the mark boxed ahead of the clone. -/
theorem insB {w w3 : World} {n j bx : Nat} {v : Value} {l : List Mk} (m : Mk) (hE : Ex w w3) (hx : Blk w3 bx 24 (Mk.enc m)) (ho : w3.ownsRow w.heap.size 24 2 v n (Mk.cs l)) (hne : v.ownBlock ≠ some bx) (hn : n ≤ 1000) (hj : j ≤ n) :
    Calls Try.prog 32 #[v, .int .i64 (j : Int), .slice (some ⟨bx, 0, none⟩) 1 1] w3 fun e w' => ∃ v', e = .returned v' ∧ w'.ownsRow w.heap.size 24 2 v' (n + 1) (Mk.cs (l.take j ++ m :: l.drop j)) ∧ Ex w w' :=
  insert_calls w.heap.size w _ v n l j m bx ho hn hj hx hne hE.size hE
set_option maxHeartbeats 1000000 in
theorem set_calls (A : Option Addr) (n c : Nat) (l : List Mk) (m : Mk) (w : World) (hn : n ≤ 900) (hs : m.nm.size ≤ 9223372036854775807) (hm : Row w 2 A n (Mk.cs l)) (hA : A = none → c = 0) :
    Calls Try.prog 10 #[.slice A n c, .agg #[.string m.nm, .int .i64 m.pl]] w fun e w' => ∃ v, e = .returned (.tuple #[v, .int .i64 (setM l m).2]) ∧ w'.ownsRow w.heap.size 24 2 v (setM l m).1.length (Mk.cs (setM l m).1) ∧ Ex w w' := by
  have hl := hm.mk_len
  have Hm := Lib.hid hm
  have HA := Lib.hid hA
  clear hm hA
  have X0 : Ex w (w.alloc (.cells #[.string m.nm, .int .i64 m.pl] 24)) := ex_alloc (Ex.refl _) _
  have g0 : (w.alloc (.cells #[.string m.nm, .int .i64 m.pl] 24)).cell? ⟨w.heap.size, 0, none⟩ = some (.string m.nm) := (show Blk _ _ 24 (Mk.enc m) from heap_alloc_new w _).cell 0
  have g1 : (w.alloc (.cells #[.string m.nm, .int .i64 m.pl] 24)).cell? ⟨w.heap.size, 1, none⟩ = some (.int .i64 m.pl) := (show Blk _ _ 24 (Mk.enc m) from heap_alloc_new w _).cell 1
  cases hmay : mayMk m.nm
  · have Hd := Lib.hid (show setM l m = ([], 7) from by unfold setM; rw [if_pos hmay])
    have Hy := Lib.hid hmay
    clear hmay
    go_enter Try.func10, Try.ntmps10
    go_wp2_with fail
    refine (mayMark_calls _ _ hs).mono ?_
    rintro e w1 ⟨rfl, rfl⟩
    rw [Hy.out]
    go_wp2
    go_ret2
    exact ⟨_, by rw [Hd.out]; rfl, by rw [Hd.out]; exact World.ownsRow_nil _ _ _ _, X0⟩
  · rcases atZ_cases m.nm l with ⟨k, hk, hz, hq, hr⟩ | ⟨hz, hr⟩
    · have Hd := Lib.hid (show setM l m = (l.set k m, 0) from by unfold setM; rw [if_neg (by rw [hmay]; simp), if_pos (findM_of hk hq hr), hz]; rfl)
      have hkn : k < n := by omega
      have Hl := Lib.hid hl
      have Hz := Lib.hid hz
      have Hy := Lib.hid hmay
      clear hr hz hl hq hmay
      go_enter Try.func10, Try.ntmps10
      go_wp2_with fail
      refine (mayMark_calls _ _ hs).mono ?_
      rintro e w1 ⟨rfl, rfl⟩
      rw [Hy.out]
      go_wp2_with fail
      refine (at_calls A n c l m.nm _ (by omega) (Hm.out.ex X0)).mono ?_
      rintro e w1 ⟨rfl, hb⟩
      have X1 : Ex w w1 := X0.trans hb
      have k0 := Ex.cell hb g0
      have k1 := Ex.cell hb g1
      rw [Hz.out]
      go_wp2_with fail
      refine (clone_calls A n c l _ (by omega) (Hm.out.ex X1) HA.out).mono ?_
      rintro e w2 ⟨v, rfl, ho, hb2⟩
      have q0 := Ex.cell hb2 k0
      have q1 := Ex.cell hb2 k1
      rcases own_blk ho with ⟨rfl, rfl, _⟩ | ⟨g, cap, cur, rfl, hg, hblk, hnc, hcm, hcl, hct⟩
      · omega
      · have hcl2 : k * 2 + 1 < cur.length := by omega
        obtain ⟨u0, hx0⟩ : ∃ u, w2.cell? ⟨g, k * 2, none⟩ = some u := ⟨_, (hblk.cell _).trans (List.getElem?_eq_getElem (by omega))⟩
        obtain ⟨u1, hx1⟩ : ∃ u, w2.cell? ⟨g, k * 2 + 1, none⟩ = some u := ⟨_, (hblk.cell _).trans (List.getElem?_eq_getElem hcl2)⟩
        have hf0 := hblk.frozen (k * 2)
        have hf1 := hblk.frozen (k * 2 + 1)
        have HB := Lib.hid ((hblk.set_ (k * 2) (.string m.nm)).set_ (k * 2 + 1) (.int .i64 m.pl))
        have HC := Lib.hid (set_cs m hct Hl.out hkn)
        have HL := Lib.hid (show ((cur.set (k * 2) (.string m.nm)).set (k * 2 + 1) (.int .i64 m.pl)).length = cap * 2 from by rw [List.length_set, List.length_set, hcl])
        have hX : Below w.heap.size w ((w2.setCell ⟨g, k * 2, none⟩ (.string m.nm)).setCell ⟨g, k * 2 + 1, none⟩ (.int .i64 m.pl)) := by
          have hg' : w.heap.size ≤ g := Nat.le_trans X1.size hg
          exact ((X1.trans hb2).setCell (p := ⟨g, k * 2, none⟩) hg' _).setCell (p := ⟨g, k * 2 + 1, none⟩) hg' _
        have hg' : w.heap.size ≤ g := Nat.le_trans X1.size hg
        have HLs := Lib.hid (show (l.set k m).length = n from by rw [List.length_set, Hl.out])
        clear hblk hcl hct ho
        go_wp2
        go_ret2
        exact ⟨_, by rw [Hd.out]; rfl, by rw [Hd.out, HLs.out]; exact own_of_blk HB.out hg' hnc hcm HL.out HC.out, hX⟩
    · have hf : (findM m.nm l).2 = false := by rw [findM_none hr]
      by_cases h16 : 16 ≤ n
      · have Hd := Lib.hid (show setM l m = ([], 9) from by unfold setM; rw [if_neg (by rw [hmay]; simp), if_neg (by rw [hf]; simp), if_pos (by omega)])
        have Hz := Lib.hid hz
        have Hy := Lib.hid hmay
        clear hr hz hl hf hmay
        go_enter Try.func10, Try.ntmps10
        go_wp2_with fail
        refine (mayMark_calls _ _ hs).mono ?_
        rintro e w1 ⟨rfl, rfl⟩
        rw [Hy.out]
        go_wp2_with fail
        refine (at_calls A n c l m.nm _ (by omega) (Hm.out.ex X0)).mono ?_
        rintro e w1 ⟨rfl, hb⟩
        rw [Hz.out]
        go_wp2
        go_ret2
        exact ⟨_, by rw [Hd.out]; rfl, by rw [Hd.out]; exact World.ownsRow_nil _ _ _ _, X0.trans hb⟩
      · obtain ⟨j, hj, hzj, Hd⟩ : ∃ j, j ≤ n ∧ ((zIdx (fun x => upN m.nm x.nm) l = (j : Int) ∧ j < n) ∨ (zIdx (fun x => upN m.nm x.nm) l = -1 ∧ j = n)) ∧ Hid (setM l m = (l.take j ++ m :: l.drop j, 0)) := by
          have hd : setM l m = if zIdx (fun x => upN m.nm x.nm) l = -1 then (l ++ [m], 0) else (l.take (zIdx (fun x => upN m.nm x.nm) l).toNat ++ m :: l.drop (zIdx (fun x => upN m.nm x.nm) l).toNat, 0) := by
            unfold setM; rw [if_neg (by rw [hmay]; simp), if_neg (by rw [hf]; simp), if_neg (by omega)]
          rcases zIdx_cases (fun x => upN m.nm x.nm) l with ⟨j, hj, hzj, _⟩ | ⟨hzj, _⟩
          · exact ⟨j, by omega, .inl ⟨hzj, by omega⟩, Lib.hid (by rw [hd, if_neg (by rw [hzj]; omega), hzj]; rfl)⟩
          · exact ⟨n, Nat.le_refl _, .inr ⟨hzj, rfl⟩, Lib.hid (by rw [hd, if_pos hzj, List.take_of_length_le (by omega), List.drop_eq_nil_of_le (by omega)])⟩
        have Hz := Lib.hid hz
        have Hy := Lib.hid hmay
        have Hlen := Lib.hid (show (l.take j ++ m :: l.drop j).length = n + 1 from by rw [List.length_append, List.length_cons, List.length_take, List.length_drop]; omega)
        clear hr hz hl hf hmay
        rcases hzj with ⟨hzj, _⟩ | ⟨hzj, hjn⟩
        rotate_left
        obtain rfl : n = j := hjn.symm
        clear hjn
        rotate_left
        all_goals
          have Hzj := Lib.hid hzj
          clear hzj
          go_enter Try.func10, Try.ntmps10
          go_wp2_with fail
          refine (mayMark_calls _ _ hs).mono ?_
          rintro e w1 ⟨rfl, rfl⟩
          rw [Hy.out]
          go_wp2_with fail
          refine (at_calls A n c l m.nm _ (by omega) (Hm.out.ex X0)).mono ?_
          rintro e w1 ⟨rfl, hb⟩
          have X1 : Ex w w1 := X0.trans hb
          have k0 := Ex.cell hb g0
          have k1 := Ex.cell hb g1
          rw [Hz.out]
          go_wp2_with fail
          refine (indexFunc_calls A n c l w.heap.size m.nm _ (by omega) (Hm.out.ex X1) k0).mono ?_
          rintro e w2 ⟨rfl, hb2⟩
          have X2 : Ex w w2 := X1.trans hb2
          have q0 := Ex.cell hb2 k0
          have q1 := Ex.cell hb2 k1
          rw [Hzj.out]
          go_wp2
          have X2d : Ex w w2.drew := X2.drew
          have X2s : w.heap.size ≤ w2.drew.heap.size := X2.size
          have hn' : n ≤ 1000 := by omega
          have q0d : w2.drew.cell? ⟨w.heap.size, 0, none⟩ = some (.string m.nm) := q0
          have q1d : w2.drew.cell? ⟨w.heap.size, 1, none⟩ = some (.int .i64 m.pl) := q1
          go_region_with (first | (go_at_call 29; refine (clone_calls A n c l _ (by omega) ?_ HA.out).mono ?_; (focus (first | exact Hm.out.ex X2d | exact Hm.out.ex (ex_alloc X2d _))); rintro e w3 ⟨v, rfl, ho, hb3⟩; (try (have s0 := Ex.cell hb3 q0d; have s1 := Ex.cell hb3 q1d)); (try (have hE3 : Ex w w3 := (show Ex w (w2.alloc (.cells #[.string m.nm, .int .i64 m.pl] 24)).drew from (ex_alloc X2 _).drew).trans hb3; have hx3 : Blk w3 w2.heap.size 24 (Mk.enc m) := Blk.ex (w := (w2.alloc (.cells #[.string m.nm, .int .i64 m.pl] 24)).drew) (heap_alloc_new w2 _) hb3; have hne3 : v.ownBlock ≠ some w2.heap.size := (fun e => by have := (ho.lt _ e).1; simp at this; omega); have ho3 := own_more ho (show w.heap.size ≤ (w2.alloc (.cells #[.string m.nm, .int .i64 m.pl] 24)).drew.heap.size from (ex_alloc X2 _).size)))) | (go_at_call 32; (with_reducible refine (insA m ho hn' hj (X2d.trans hb3) X2s).mono ?_); rintro e w4 ⟨v4, rfl, ho4, hb4⟩) | (go_at_call 32; (with_reducible refine (insB m hE3 hx3 ho3 hne3 hn' hj).mono ?_); rintro e w4 ⟨v4, rfl, ho4, hb4⟩))
          all_goals go_wp2
          all_goals go_ret2
          all_goals exact ⟨_, by rw [Hd.out]; rfl, by rw [Hd.out, Hlen.out]; exact ho4, hb4⟩
end Go.Proofs.Ytkclpflgndgabaa
