/- The document's folders: Put, Drop, Move, Sync, Crash. -/
import Derived.Test.YtcffkmlnbnjibaaGreatRfB
namespace Go.Proofs.YtcffkmlnbnjibaaGreat
open Go.RowKit
set_option maxRecDepth 100000 in
set_option maxHeartbeats 2000000 in
theorem rfput_calls {F : Nat → Prop} {w : World} {sl : Value} {q : FoV} (s : ByteArray) (i : Int) (h : LsV F w sl q.lists) {M : Nat} (ho : q.Ok M) (hM : M ≤ 1000000) (hF : ∀ k, F k → k < w.heap.size) :
    Calls Tryz.prog 78 #[.agg #[sl], .string s, .int .i64 i] w fun e w' => ∃ sl', e = .returned (.tuple #[.agg #[sl'], .bool (q.put s i).2]) ∧ LsV F w' sl' (q.put s i).1.lists ∧ Ex w w' := by
  have hq : q.ch.length ≤ 1000000 := by have := ho.kl; omega
  have hqn := Nat.le_trans ho.now_len hM
  have HQ9 := Lib.hid (show q.now.length ≤ 9223372036854775807 by omega)
  have hX := ex_two w (.cells #[sl] 55) (.cells #[.slice none 0 0] 55)
  have hK := blk_two w (.cells #[sl] 55) [.slice none 0 0] 55
  have hB := (Blk.new w [sl] 55).ex (ex_alloc (Ex.refl _) (.cells #[.slice none 0 0] 55))
  obtain ⟨G, hG, eG⟩ := Grow.mk2 hX hF
  have HF3 := Lib.hid (fun (w' : World) (hx : Ex ((w.alloc (.cells #[sl] 55)).alloc (.cells #[.slice none 0 0] 55)) w') (k : Nat) (hk : G k) => Nat.lt_of_lt_of_le (hG.lt k hk) hx.size)
  have HG := Lib.hid hG
  have HG1 := Lib.hid (hG.new (w.heap.size + 1) (Nat.le_succ _) (by simp))
  have HLn := Lib.hid (show q.lists.length ≤ 10000000 by rw [lists_len]; omega)
  have HH := Lib.hid (hG.ls eG h)
  have HK := Lib.hid hK
  have HB := Lib.hid hB
  have HX := Lib.hid hX
  clear h hX hK hB hG eG
  cases hf : (findM s q.now).2
  · have HE := Lib.hid (show q.put s i = (q.doC ⟨false, ⟨#[]⟩, true, s, i⟩, true) from by unfold FoV.put; rw [if_neg (by rw [hf]; simp)])
    have HN := Lib.hid (show endI ⟨s, i⟩ (foldI ⟨s, i⟩ q.now) = Chg.ap ⟨false, ⟨#[]⟩, true, s, i⟩ q.now from by rw [fold_ins0]; show insM ⟨s, i⟩ q.now = putM ⟨s, i⟩ q.now; unfold putM; rw [filt_none hf])
    have Hf := Lib.hid hf
    clear hf
    obtain ⟨sA, sn, sc, rfl⟩ : ∃ A n c, sl = .slice A n c := HH.out.shape
    go_enter Tryz.func78, Tryz.ntmps78
    go_wp2_with fail
    refine (rfnow_calls HH.out hq).mono ?_
    rintro e w1 ⟨u1, rfl, hu1, hb1⟩
    obtain ⟨A1, c1, rfl, hr1⟩ := hu1
    have HB1 := Lib.hid (HB.out.ex hb1)
    have HW1 := Lib.hid hb1
    have HH1 := Lib.hid (HH.out.ex hb1)
    have HK1 := Lib.hid (HK.out.ex hb1)
    go_wp2_with fail
    refine (rffind_calls A1 c1 q.now s _ (by omega) hr1.row).mono ?_
    rintro e w2 ⟨rfl, rfl⟩
    rw [Hf.out]
    have x0 : w2.cell? ⟨w.heap.size, 0, none⟩ = some (.slice sA sn sc) := HB1.out.cell 0
    have x1 : w2.cell? ⟨w.heap.size + 1, 0, none⟩ = some (.slice none 0 0) := HK1.out.cell 0
    have x2 : w2.frozen? ⟨w.heap.size + 1, 0, none⟩ = false := HK1.out.frozen 0
    go_wp2_with fail
    go_region_held3 (fun w' => w'.cell? ⟨w.heap.size, 0, none⟩ = some (.slice sA sn sc) ∧ w'.frozen? ⟨w.heap.size + 1, 0, none⟩ = false) (go_keep) (first
      | (go_at_call 97; ((with_reducible refine (rfnow_calls (F := G) (q := q) (HH1.out.ex (Ex.refl w2).drew) hq).mono ?_); rintro e w3 ⟨u3, rfl, hu3, hb3⟩; obtain ⟨A3, c3, rfl, hr3⟩ := hu3; have HR3 := Lib.hid hr3; have HX3 := Lib.hid (Ex.trans (Ex.refl w2).drew hb3); clear hr3 hb3; have y0 := HX3.out.cell x0; have y1 := HX3.out.cell x1; have y2 := (HK1.out.ex HX3.out).frozen 0))
      | (go_at_call 128; ((with_reducible refine (rfwith_calls A3 c3 q.now ⟨s, i⟩ w3 hqn HR3.out.row).mono ?_); rintro e w4 ⟨v4, rfl, ho4, hb4⟩; rw [HN.out] at ho4; have hu4 := LiV.own (F := G) ho4 (HF3.out w3 (HW1.out.trans HX3.out)); obtain ⟨A4, c4, rfl, hr4⟩ := hu4; have HR4 := Lib.hid hr4; have HX4 := Lib.hid (Ex.trans HX3.out hb4); clear hr4 hb4 ho4; have z0 := HX4.out.cell x0; have z1 := HX4.out.cell x1; have z2 := (HK1.out.ex HX4.out).frozen 0))
      | (go_at_call 127; ((with_reducible refine (rfthen_calls (F := G) (ls := q.lists) (l := Chg.ap ⟨false, ⟨#[]⟩, true, s, i⟩ q.now) (HH1.out.ex HX4.out) (LiV.mk HR4.out) HLn.out (HF3.out w4 (HW1.out.trans HX4.out))).mono ?_); rintro e w5 ⟨v5, rfl, hl5, hb5⟩; obtain ⟨A5, n5, c5, rfl⟩ := hl5.shape; have HL5 := Lib.hid hl5; have HX5 := Lib.hid (Ex.trans HX4.out hb5); clear hl5 hb5; have t0 := HX5.out.cell x0; have t1 := HX5.out.cell x1; have t2 := (HK1.out.ex HX5.out).frozen 0)))
    go_wp2_with fail
    (try simp only [Exit.inBlock, Exit.then])
    refine bodyPost_ret (ret_agg2 rfl _ _ (w.heap.size + 1) [.slice A5 n5 c5] rfl ((HK1.out.ex HX5.out).setCell (i := 0) _) Tryz.underlying55 info_f9) rfl ?_
    refine ⟨_, by rw [HE.out]; rfl, ?_, Ex.set (HX.out.trans (HW1.out.trans HX5.out)) (Nat.le_succ _) _⟩
    rw [HE.out]
    show LsV F _ _ (q.doC _).lists
    rw [lists_do]
    exact (HL5.out.offs (off_set w5 (w.heap.size + 1) 0 _) fun k hk => by rw [hk]; exact HG1.out).less HG.out.of
  · have HE := Lib.hid (show q.put s i = (q, false) from by unfold FoV.put; rw [hf]; rfl)
    have Hf := Lib.hid hf
    clear hf
    obtain ⟨sA, sn, sc, rfl⟩ : ∃ A n c, sl = .slice A n c := HH.out.shape
    go_enter Tryz.func78, Tryz.ntmps78
    go_wp2_with fail
    refine (rfnow_calls HH.out hq).mono ?_
    rintro e w1 ⟨u1, rfl, hu1, hb1⟩
    obtain ⟨A1, c1, rfl, hr1⟩ := hu1
    have HB1 := Lib.hid (HB.out.ex hb1)
    have HW1 := Lib.hid hb1
    have HH1 := Lib.hid (HH.out.ex hb1)
    have HK1 := Lib.hid (HK.out.ex hb1)
    go_wp2_with fail
    refine (rffind_calls A1 c1 q.now s _ HQ9.out hr1.row).mono ?_
    rintro e w2 ⟨rfl, rfl⟩
    rw [Hf.out]
    have x0 : w2.cell? ⟨w.heap.size, 0, none⟩ = some (.slice sA sn sc) := HB1.out.cell 0
    have x1 : w2.cell? ⟨w.heap.size + 1, 0, none⟩ = some (.slice none 0 0) := HK1.out.cell 0
    have x2 : w2.frozen? ⟨w.heap.size + 1, 0, none⟩ = false := HK1.out.frozen 0
    go_wp2_with fail
    (try simp only [Exit.inBlock, Exit.then])
    refine bodyPost_ret (ret_agg2 rfl _ _ (w.heap.size + 1) [.slice sA sn sc] rfl (HK1.out.setCell (i := 0) _) Tryz.underlying55 info_f9) rfl ?_
    refine ⟨_, by rw [HE.out]; rfl, ?_, Ex.set (HX.out.trans HW1.out) (Nat.le_succ _) _⟩
    rw [HE.out]
    exact (HH1.out.offs (off_set w2 (w.heap.size + 1) 0 _) fun k hk => by rw [hk]; exact HG1.out).less HG.out.of
-- printed by genRfC.py from here on
set_option maxRecDepth 100000 in
set_option maxHeartbeats 2000000 in
theorem rfdrop_calls {F : Nat → Prop} {w : World} {sl : Value} {q : FoV} (s : ByteArray) (h : LsV F w sl q.lists) {M : Nat} (ho : q.Ok M) (hM : M ≤ 1000000) (hF : ∀ k, F k → k < w.heap.size) :
    Calls Tryz.prog 143 #[.agg #[sl], .string s] w fun e w' => ∃ sl', e = .returned (.tuple #[.agg #[sl'], .bool (q.drop s).2]) ∧ LsV F w' sl' (q.drop s).1.lists ∧ Ex w w' := by
  have hq : q.ch.length ≤ 1000000 := by have := ho.kl; omega
  have hqn := Nat.le_trans ho.now_len hM
  have HQ9 := Lib.hid (show q.now.length ≤ 9223372036854775807 by omega)
  have hX := ex_two w (.cells #[sl] 55) (.cells #[.slice none 0 0] 55)
  have hK := blk_two w (.cells #[sl] 55) [.slice none 0 0] 55
  have hB := (Blk.new w [sl] 55).ex (ex_alloc (Ex.refl _) (.cells #[.slice none 0 0] 55))
  obtain ⟨G, hG, eG⟩ := Grow.mk2 hX hF
  have HF3 := Lib.hid (fun (w' : World) (hx : Ex ((w.alloc (.cells #[sl] 55)).alloc (.cells #[.slice none 0 0] 55)) w') (k : Nat) (hk : G k) => Nat.lt_of_lt_of_le (hG.lt k hk) hx.size)
  have HG := Lib.hid hG
  have HG1 := Lib.hid (hG.new (w.heap.size + 1) (Nat.le_succ _) (by simp))
  have HLn := Lib.hid (show q.lists.length ≤ 10000000 by rw [lists_len]; omega)
  have HH := Lib.hid (hG.ls eG h)
  have HK := Lib.hid hK
  have HB := Lib.hid hB
  have HX := Lib.hid hX
  clear h hX hK hB hG eG
  cases hf : (findM s q.now).2
  · have HE := Lib.hid (show q.drop s = (q, false) from by unfold FoV.drop; rw [hf]; rfl)
    have Hf := Lib.hid hf
    clear hf
    obtain ⟨sA, sn, sc, rfl⟩ : ∃ A n c, sl = .slice A n c := HH.out.shape
    go_enter Tryz.func143, Tryz.ntmps143
    go_wp2_with fail
    refine (rfnow_calls HH.out hq).mono ?_
    rintro e w1 ⟨u1, rfl, hu1, hb1⟩
    obtain ⟨A1, c1, rfl, hr1⟩ := hu1
    have HB1 := Lib.hid (HB.out.ex hb1)
    have HW1 := Lib.hid hb1
    have HH1 := Lib.hid (HH.out.ex hb1)
    have HK1 := Lib.hid (HK.out.ex hb1)
    go_wp2_with fail
    refine (rffind_calls A1 c1 q.now s _ HQ9.out hr1.row).mono ?_
    rintro e w2 ⟨rfl, rfl⟩
    rw [Hf.out]
    have x0 : w2.cell? ⟨w.heap.size, 0, none⟩ = some (.slice sA sn sc) := HB1.out.cell 0
    have x1 : w2.cell? ⟨w.heap.size + 1, 0, none⟩ = some (.slice none 0 0) := HK1.out.cell 0
    have x2 : w2.frozen? ⟨w.heap.size + 1, 0, none⟩ = false := HK1.out.frozen 0
    go_wp2_with fail
    (try simp only [Exit.inBlock, Exit.then])
    refine bodyPost_ret (ret_agg2 rfl _ _ (w.heap.size + 1) [.slice sA sn sc] rfl (HK1.out.setCell (i := 0) _) Tryz.underlying55 info_f9) rfl ?_
    refine ⟨_, by rw [HE.out]; rfl, ?_, Ex.set (HX.out.trans HW1.out) (Nat.le_succ _) _⟩
    rw [HE.out]
    exact (HH1.out.offs (off_set w2 (w.heap.size + 1) 0 _) fun k hk => by rw [hk]; exact HG1.out).less HG.out.of
  · have HE := Lib.hid (show q.drop s = (q.doC ⟨true, s, false, ⟨#[]⟩, 0⟩, true) from by unfold FoV.drop; rw [hf]; rfl)
    have Hf := Lib.hid hf
    clear hf
    obtain ⟨sA, sn, sc, rfl⟩ : ∃ A n c, sl = .slice A n c := HH.out.shape
    go_enter Tryz.func143, Tryz.ntmps143
    go_wp2_with fail
    refine (rfnow_calls HH.out hq).mono ?_
    rintro e w1 ⟨u1, rfl, hu1, hb1⟩
    obtain ⟨A1, c1, rfl, hr1⟩ := hu1
    have HB1 := Lib.hid (HB.out.ex hb1)
    have HW1 := Lib.hid hb1
    have HH1 := Lib.hid (HH.out.ex hb1)
    have HK1 := Lib.hid (HK.out.ex hb1)
    go_wp2_with fail
    refine (rffind_calls A1 c1 q.now s _ HQ9.out hr1.row).mono ?_
    rintro e w2 ⟨rfl, rfl⟩
    rw [Hf.out]
    have x0 : w2.cell? ⟨w.heap.size, 0, none⟩ = some (.slice sA sn sc) := HB1.out.cell 0
    have x1 : w2.cell? ⟨w.heap.size + 1, 0, none⟩ = some (.slice none 0 0) := HK1.out.cell 0
    have x2 : w2.frozen? ⟨w.heap.size + 1, 0, none⟩ = false := HK1.out.frozen 0
    go_wp2_with fail
    go_region_held3 (fun w' => w'.cell? ⟨w.heap.size, 0, none⟩ = some (.slice sA sn sc) ∧ w'.frozen? ⟨w.heap.size + 1, 0, none⟩ = false) (go_keep) (first
      | (go_at_call 97; ((with_reducible refine (rfnow_calls (F := G) (q := q) (HH1.out.ex (Ex.refl w2).drew) hq).mono ?_); rintro e w3 ⟨u3, rfl, hu3, hb3⟩; obtain ⟨A3, c3, rfl, hr3⟩ := hu3; have HR3 := Lib.hid hr3; have HX3 := Lib.hid (Ex.trans (Ex.refl w2).drew hb3); clear hr3 hb3; have y0 := HX3.out.cell x0; have y1 := HX3.out.cell x1; have y2 := (HK1.out.ex HX3.out).frozen 0))
      | (go_at_call 164; ((with_reducible refine (rfwithout_calls A3 c3 q.now s w3 hqn HR3.out.row).mono ?_); rintro e w4 ⟨v4, rfl, ho4, hb4⟩; have hu4 := LiV.own (F := G) ho4 (HF3.out w3 (HW1.out.trans HX3.out)); obtain ⟨A4, c4, rfl, hr4⟩ := hu4; have HR4 := Lib.hid hr4; have HX4 := Lib.hid (Ex.trans HX3.out hb4); clear hr4 hb4 ho4; have y0 := HX4.out.cell x0; have y1 := HX4.out.cell x1; have y2 := (HK1.out.ex HX4.out).frozen 0))
      | (go_at_call 127; ((with_reducible refine (rfthen_calls (F := G) (ls := q.lists) (l := q.now.filter (nmNot s)) (HH1.out.ex HX4.out) (LiV.mk HR4.out) HLn.out (HF3.out w4 (HW1.out.trans HX4.out))).mono ?_); rintro e w5 ⟨v5, rfl, hl5, hb5⟩; obtain ⟨A5, n5, c5, rfl⟩ := hl5.shape; have HL5 := Lib.hid hl5; have HX5 := Lib.hid (Ex.trans HX4.out hb5); clear hl5 hb5; have y0 := HX5.out.cell x0; have y1 := HX5.out.cell x1; have y2 := (HK1.out.ex HX5.out).frozen 0)))
    go_wp2_with fail
    (try simp only [Exit.inBlock, Exit.then])
    refine bodyPost_ret (ret_agg2 rfl _ _ (w.heap.size + 1) [.slice A5 n5 c5] rfl ((HK1.out.ex HX5.out).setCell (i := 0) _) Tryz.underlying55 info_f9) rfl ?_
    refine ⟨_, by rw [HE.out]; rfl, ?_, Ex.set (HX.out.trans (HW1.out.trans HX5.out)) (Nat.le_succ _) _⟩
    rw [HE.out]
    show LsV F _ _ (q.doC _).lists
    rw [lists_do]
    show LsV F _ _ (q.lists ++ [q.now.filter (nmNot s)])
    exact (HL5.out.offs (off_set w5 (w.heap.size + 1) 0 _) fun k hk => by rw [hk]; exact HG1.out).less HG.out.of
set_option maxRecDepth 100000 in
set_option maxHeartbeats 2000000 in
theorem rfmove_calls {F : Nat → Prop} {w : World} {sl : Value} {q : FoV} (a b : ByteArray) (h : LsV F w sl q.lists) {M : Nat} (ho : q.Ok M) (hM : M ≤ 1000000) (hF : ∀ k, F k → k < w.heap.size) :
    Calls Tryz.prog 163 #[.agg #[sl], .string a, .string b] w fun e w' => ∃ sl', e = .returned (.tuple #[.agg #[sl'], .bool (q.move a b).2]) ∧ LsV F w' sl' (q.move a b).1.lists ∧ Ex w w' := by
  have hq : q.ch.length ≤ 1000000 := by have := ho.kl; omega
  have hqn := Nat.le_trans ho.now_len hM
  have HQ9 := Lib.hid (show q.now.length ≤ 9223372036854775807 by omega)
  have hX := ex_two w (.cells #[sl] 55) (.cells #[.slice none 0 0] 55)
  have hK := blk_two w (.cells #[sl] 55) [.slice none 0 0] 55
  have hB := (Blk.new w [sl] 55).ex (ex_alloc (Ex.refl _) (.cells #[.slice none 0 0] 55))
  obtain ⟨G, hG, eG⟩ := Grow.mk2 hX hF
  have HF3 := Lib.hid (fun (w' : World) (hx : Ex ((w.alloc (.cells #[sl] 55)).alloc (.cells #[.slice none 0 0] 55)) w') (k : Nat) (hk : G k) => Nat.lt_of_lt_of_le (hG.lt k hk) hx.size)
  have HG := Lib.hid hG
  have HG1 := Lib.hid (hG.new (w.heap.size + 1) (Nat.le_succ _) (by simp))
  have HLn := Lib.hid (show q.lists.length ≤ 10000000 by rw [lists_len]; omega)
  have HH := Lib.hid (hG.ls eG h)
  have HK := Lib.hid hK
  have HB := Lib.hid hB
  have HX := Lib.hid hX
  clear h hX hK hB hG eG
  cases hf : (findM a q.now).2
  · have HE := Lib.hid (show q.move a b = (q, false) from by unfold FoV.move; rw [hf]; rfl)
    have Hf := Lib.hid hf
    clear hf
    obtain ⟨sA, sn, sc, rfl⟩ : ∃ A n c, sl = .slice A n c := HH.out.shape
    go_enter Tryz.func163, Tryz.ntmps163
    go_wp2_with fail
    refine (rfnow_calls HH.out hq).mono ?_
    rintro e w1 ⟨u1, rfl, hu1, hb1⟩
    obtain ⟨A1, c1, rfl, hr1⟩ := hu1
    have HB1 := Lib.hid (HB.out.ex hb1)
    have HW1 := Lib.hid hb1
    have HH1 := Lib.hid (HH.out.ex hb1)
    have HK1 := Lib.hid (HK.out.ex hb1)
    go_wp2_with fail
    refine (rffind_calls A1 c1 q.now a _ HQ9.out hr1.row).mono ?_
    rintro e w2 ⟨rfl, rfl⟩
    rw [Hf.out]
    have x0 : w2.cell? ⟨w.heap.size, 0, none⟩ = some (.slice sA sn sc) := HB1.out.cell 0
    have x1 : w2.cell? ⟨w.heap.size + 1, 0, none⟩ = some (.slice none 0 0) := HK1.out.cell 0
    have x2 : w2.frozen? ⟨w.heap.size + 1, 0, none⟩ = false := HK1.out.frozen 0
    go_wp2_with fail
    (try simp only [Exit.inBlock, Exit.then])
    refine bodyPost_ret (ret_agg2 rfl _ _ (w.heap.size + 1) [.slice sA sn sc] rfl (HK1.out.setCell (i := 0) _) Tryz.underlying55 info_f9) rfl ?_
    refine ⟨_, by rw [HE.out]; rfl, ?_, Ex.set (HX.out.trans HW1.out) (Nat.le_succ _) _⟩
    rw [HE.out]
    exact (HH1.out.offs (off_set w2 (w.heap.size + 1) 0 _) fun k hk => by rw [hk]; exact HG1.out).less HG.out.of
  · cases hab : a.toList == b.toList
    · have HE := Lib.hid (show q.move a b = (q.doC ⟨true, a, true, b, (findM a q.now).1⟩, true) from by unfold FoV.move; rw [hf, hab]; rfl)
      have Hf := Lib.hid hf
      clear hf
      obtain ⟨L1, e1⟩ : ∃ L1, q.now.filter (nmNot a) = L1 := ⟨_, rfl⟩
      obtain ⟨L2, e2⟩ : ∃ L2, L1.filter (nmNot b) = L2 := ⟨_, rfl⟩
      have hl1 : L1.length ≤ 1000000 := by rw [← e1]; exact Nat.le_trans (List.length_filter_le _ _) hqn
      have hl2 : L2.length ≤ 1000000 := by rw [← e2]; exact Nat.le_trans (List.length_filter_le _ _) hl1
      have HN := Lib.hid (show ∀ i, endI ⟨b, i⟩ (foldI ⟨b, i⟩ L2) = Chg.ap ⟨true, a, true, b, i⟩ q.now from fun i => by rw [fold_ins0, ← e2, ← e1]; rfl)
      have E1 := Lib.hid e1
      have E2 := Lib.hid e2
      clear e1 e2
      obtain ⟨sA, sn, sc, rfl⟩ : ∃ A n c, sl = .slice A n c := HH.out.shape
      go_enter Tryz.func163, Tryz.ntmps163
      go_wp2_with fail
      refine (rfnow_calls HH.out hq).mono ?_
      rintro e w1 ⟨u1, rfl, hu1, hb1⟩
      obtain ⟨A1, c1, rfl, hr1⟩ := hu1
      have HB1 := Lib.hid (HB.out.ex hb1)
      have HW1 := Lib.hid hb1
      have HH1 := Lib.hid (HH.out.ex hb1)
      have HK1 := Lib.hid (HK.out.ex hb1)
      go_wp2_with fail
      refine (rffind_calls A1 c1 q.now a _ HQ9.out hr1.row).mono ?_
      rintro e w2 ⟨rfl, rfl⟩
      rw [Hf.out]
      have x0 : w2.cell? ⟨w.heap.size, 0, none⟩ = some (.slice sA sn sc) := HB1.out.cell 0
      have x1 : w2.cell? ⟨w.heap.size + 1, 0, none⟩ = some (.slice none 0 0) := HK1.out.cell 0
      have x2 : w2.frozen? ⟨w.heap.size + 1, 0, none⟩ = false := HK1.out.frozen 0
      go_wp2_with fail
      go_region_held3 (fun w' => w'.cell? ⟨w.heap.size, 0, none⟩ = some (.slice sA sn sc) ∧ w'.frozen? ⟨w.heap.size + 1, 0, none⟩ = false) (go_keep) (first
        | (go_at_call 97; ((with_reducible refine (rfnow_calls (F := G) (q := q) (HH1.out.ex (Ex.refl w2).drew) hq).mono ?_); rintro e w3 ⟨u3, rfl, hu3, hb3⟩; obtain ⟨A3, c3, rfl, hr3⟩ := hu3; have HR3 := Lib.hid hr3; have HX3 := Lib.hid (Ex.trans (Ex.refl w2).drew hb3); clear hr3 hb3; have y0 := HX3.out.cell x0; have y1 := HX3.out.cell x1; have y2 := (HK1.out.ex HX3.out).frozen 0))
        | (go_at_call 164; ((with_reducible refine (rfwithout_calls A3 c3 q.now a w3 hqn HR3.out.row).mono ?_); rintro e w4 ⟨v4, rfl, ho4, hb4⟩; rw [E1.out] at ho4; have hu4 := LiV.own (F := G) ho4 (HF3.out w3 (HW1.out.trans HX3.out)); obtain ⟨A4, c4, rfl, hr4⟩ := hu4; have HR4 := Lib.hid hr4; have HX4 := Lib.hid (Ex.trans HX3.out hb4); clear hr4 hb4 ho4; have y0 := HX4.out.cell x0; have y1 := HX4.out.cell x1; have y2 := (HK1.out.ex HX4.out).frozen 0))
        | (go_at_call 164; ((with_reducible refine (rfwithout_calls A4 c4 L1 b w4 hl1 HR4.out.row).mono ?_); rintro e w5 ⟨v5, rfl, ho5, hb5⟩; rw [E2.out] at ho5; have hu5 := LiV.own (F := G) ho5 (HF3.out w4 (HW1.out.trans HX4.out)); obtain ⟨A5, c5, rfl, hr5⟩ := hu5; have HR5 := Lib.hid hr5; have HX5 := Lib.hid (Ex.trans HX4.out hb5); clear hr5 hb5 ho5; have y0 := HX5.out.cell x0; have y1 := HX5.out.cell x1; have y2 := (HK1.out.ex HX5.out).frozen 0))
        | (go_at_call 128; ((with_reducible refine (rfwith_calls A5 c5 L2 ⟨b, (findM a q.now).1⟩ w5 hl2 HR5.out.row).mono ?_); rintro e w6 ⟨v6, rfl, ho6, hb6⟩; rw [HN.out] at ho6; have hu6 := LiV.own (F := G) ho6 (HF3.out w5 (HW1.out.trans HX5.out)); obtain ⟨A6, c6, rfl, hr6⟩ := hu6; have HR6 := Lib.hid hr6; have HX6 := Lib.hid (Ex.trans HX5.out hb6); clear hr6 hb6 ho6; have y0 := HX6.out.cell x0; have y1 := HX6.out.cell x1; have y2 := (HK1.out.ex HX6.out).frozen 0))
        | (go_at_call 127; ((with_reducible refine (rfthen_calls (F := G) (ls := q.lists) (l := Chg.ap ⟨true, a, true, b, (findM a q.now).1⟩ q.now) (HH1.out.ex HX6.out) (LiV.mk HR6.out) HLn.out (HF3.out w6 (HW1.out.trans HX6.out))).mono ?_); rintro e w7 ⟨v7, rfl, hl7, hb7⟩; obtain ⟨A7, n7, c7, rfl⟩ := hl7.shape; have HL7 := Lib.hid hl7; have HX7 := Lib.hid (Ex.trans HX6.out hb7); clear hl7 hb7; have y0 := HX7.out.cell x0; have y1 := HX7.out.cell x1; have y2 := (HK1.out.ex HX7.out).frozen 0)))
      go_wp2_with fail
      (try simp only [Exit.inBlock, Exit.then])
      refine bodyPost_ret (ret_agg2 rfl _ _ (w.heap.size + 1) [.slice A7 n7 c7] rfl ((HK1.out.ex HX7.out).setCell (i := 0) _) Tryz.underlying55 info_f9) rfl ?_
      refine ⟨_, by rw [HE.out]; rfl, ?_, Ex.set (HX.out.trans (HW1.out.trans HX7.out)) (Nat.le_succ _) _⟩
      rw [HE.out]
      show LsV F _ _ (q.doC _).lists
      rw [lists_do]
      exact (HL7.out.offs (off_set w7 (w.heap.size + 1) 0 _) fun k hk => by rw [hk]; exact HG1.out).less HG.out.of
    · have HE := Lib.hid (show q.move a b = (q, true) from by unfold FoV.move; rw [hf, hab]; rfl)
      have Hf := Lib.hid hf
      clear hf
      obtain ⟨sA, sn, sc, rfl⟩ : ∃ A n c, sl = .slice A n c := HH.out.shape
      go_enter Tryz.func163, Tryz.ntmps163
      go_wp2_with fail
      refine (rfnow_calls HH.out hq).mono ?_
      rintro e w1 ⟨u1, rfl, hu1, hb1⟩
      obtain ⟨A1, c1, rfl, hr1⟩ := hu1
      have HB1 := Lib.hid (HB.out.ex hb1)
      have HW1 := Lib.hid hb1
      have HH1 := Lib.hid (HH.out.ex hb1)
      have HK1 := Lib.hid (HK.out.ex hb1)
      go_wp2_with fail
      refine (rffind_calls A1 c1 q.now a _ HQ9.out hr1.row).mono ?_
      rintro e w2 ⟨rfl, rfl⟩
      rw [Hf.out]
      have x0 : w2.cell? ⟨w.heap.size, 0, none⟩ = some (.slice sA sn sc) := HB1.out.cell 0
      have x1 : w2.cell? ⟨w.heap.size + 1, 0, none⟩ = some (.slice none 0 0) := HK1.out.cell 0
      have x2 : w2.frozen? ⟨w.heap.size + 1, 0, none⟩ = false := HK1.out.frozen 0
      go_wp2_with fail
      (try simp only [Exit.inBlock, Exit.then])
      refine bodyPost_ret (ret_agg2 rfl _ _ (w.heap.size + 1) [.slice sA sn sc] rfl (HK1.out.setCell (i := 0) _) Tryz.underlying55 info_f9) rfl ?_
      refine ⟨_, by rw [HE.out]; rfl, ?_, Ex.set (HX.out.trans HW1.out) (Nat.le_succ _) _⟩
      rw [HE.out]
      exact (HH1.out.offs (off_set w2 (w.heap.size + 1) 0 _) fun k hk => by rw [hk]; exact HG1.out).less HG.out.of
end Go.Proofs.YtcffkmlnbnjibaaGreat
