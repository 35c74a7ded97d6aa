/- Walks: a folder's IDs. -/
import Derived.Test.YtcffkmlnbnjibaaGreatFoG
namespace Go.Proofs.YtcffkmlnbnjibaaGreat
open Go.RowKit Go.Maps Go.Sort Go.Shelf
/-- The numbers of names that have been met. -/
def MetV (l : List Mk) (left : Lit → Bool) (x : Int) : Prop := ∃ m ∈ l, m.pl = x ∧ left (nmK m.nm) = false
theorem met_start (l : List Mk) (x : Int) : MetV l (hasL (enL l)) x ↔ False := by
  refine ⟨fun ⟨m, hm, _, h⟩ => ?_, fun h => h.elim⟩
  rw [enL_has] at h
  unfold findM at h
  cases hf : l.find? (nmIs m.nm) with
  | none => rw [List.find?_eq_none] at hf; exact hf m hm (by unfold nmIs; exact beq_self_eq_true _)
  | some y => rw [hf] at h; cases h
theorem met_step {l : List Mk} (hr : (l.map fun m => m.nm.data.toList).Pairwise fun a b => a < b) {left : Lit → Bool} {m0 : Mk} (h0 : m0 ∈ l) (x : Int) : (x = m0.pl ∨ MetV l left x) ↔ MetV l (fun z => left z && !z.sameKey (nmK m0.nm)) x := by
  constructor
  · rintro (rfl | ⟨m, hm, hx, hl⟩)
    · refine ⟨m0, h0, rfl, ?_⟩
      have : (nmK m0.nm).sameKey (nmK m0.nm) = true := (same_nm m0.nm m0).trans (by unfold nmIs; exact beq_self_eq_true _)
      simp [this]
    · exact ⟨m, hm, hx, by simp [hl]⟩
  · rintro ⟨m, hm, hx, hl⟩
    replace hl : (left (nmK m.nm) && !(nmK m.nm).sameKey (nmK m0.nm)) = false := hl
    cases hq : (nmK m.nm).sameKey (nmK m0.nm)
    · rw [hq] at hl
      exact .inr ⟨m, hm, hx, by simpa using hl⟩
    · have hq' : nmIs m0.nm m = true := (same_nm m0.nm m).symm.trans hq
      have e1 := nm_eq hq'
      obtain ⟨i, hi, rfl⟩ := List.getElem_of_mem hm
      have f1 := findM_at hr hi
      obtain ⟨j, hj, rfl⟩ := List.getElem_of_mem h0
      have f2 := findM_at hr hj
      have : findM l[i].nm l = findM l[j].nm l := by
        unfold findM
        have : nmIs l[i].nm = nmIs l[j].nm := by unfold nmIs; rw [e1]
        rw [this]
      rw [f1, f2] at this
      injection this with h1 _
      exact .inl (hx.symm.trans h1)
theorem met_all {l : List Mk} {left : Lit → Bool} (h : ∀ kl, left kl = false) (x : Int) : MetV l left x ↔ ∃ m ∈ l, m.pl = x := ⟨fun ⟨m, a, b, _⟩ => ⟨m, a, b⟩, fun ⟨m, a, b⟩ => ⟨m, a, b, h _⟩⟩
theorem inv_str : ∀ key kl, keyOf Tryz.prog 9 key = some kl → ∃ x, key = encStr x := fun key kl h => by
  obtain ⟨x, hx, _⟩ := Maps.keyOf_str Tryz.underlying9 h
  exact ⟨x, hx⟩
theorem MapI.look {w : World} {b : Nat} {l : List (Lit × Value)} (h : MapB w Tryz.prog 3 b l) {S : Int → Prop} (hv : SetV l S) {x : Int} (h1 : -9223372036854775808 ≤ x) (h2 : x ≤ 9223372036854775807) :
    ∃ c, (Instr.lookup 155 (.map (some b)) (.int .i64 x) false).run Tryz.prog w = .ok (.int .i64 c) w := by
  have := MapB.look h intKey Tryz.underlying155 (zero_int w) (key_int h1 h2)
  obtain ⟨c, hc⟩ := hv.get x
  rw [hc] at this
  exact ⟨c, this⟩
theorem MapI.store {w : World} {b : Nat} {l : List (Lit × Value)} (h : MapB w Tryz.prog 3 b l) (hl : l.length ≤ 100000000) {S : Int → Prop} (hv : SetV l S) {x : Int} (h1 : -9223372036854775808 ≤ x) (h2 : x ≤ 9223372036854775807) (c : Int) :
    ∃ w' l', (Instr.mapUpdate 155 (.map (some b)) (.int .i64 x) (.int .i64 c)).run Tryz.prog w = .ok () w' ∧ MapB w' Tryz.prog 3 b l' ∧ SetV l' (fun y => y = x ∨ S y) ∧ l'.length ≤ l.length + 1 ∧ w.grownBy w' (some b) := by
  obtain ⟨w', a1, a2, a3⟩ := MapB.store h intKey Tryz.underlying155 (by unfold maxLen; omega) (.int .i64 c) (key_int h1 h2)
  exact ⟨w', _, a1, a2, hv.put x c, stoL_len _ _ _, a3⟩
theorem ch_no {q : FoV} {k : Nat} {c : Chg} (h : q.ch.take (k + 1) = q.ch.take k ++ [c]) (hc : c.pu = false) (x : Int) : ((∃ m ∈ q.kept, m.pl = x) ∨ ∃ c ∈ q.ch.take k, c.pu = true ∧ c.id = x) ↔ ((∃ m ∈ q.kept, m.pl = x) ∨ ∃ c ∈ q.ch.take (k + 1), c.pu = true ∧ c.id = x) := by
  rw [h]
  constructor
  · rintro (h | ⟨d, hd, h1, h2⟩)
    · exact .inl h
    · exact .inr ⟨d, by simp [hd], h1, h2⟩
  · rintro (h | ⟨d, hd, h1, h2⟩)
    · exact .inl h
    · rcases List.mem_append.1 hd with hd | hd
      · exact .inr ⟨d, hd, h1, h2⟩
      · rcases List.mem_cons.1 hd with rfl | hd
        · rw [hc] at h1; cases h1
        · cases hd
theorem ch_yes {q : FoV} {k : Nat} {c : Chg} (h : q.ch.take (k + 1) = q.ch.take k ++ [c]) (hc : c.pu = true) (x : Int) : (x = c.id ∨ ((∃ m ∈ q.kept, m.pl = x) ∨ ∃ c ∈ q.ch.take k, c.pu = true ∧ c.id = x)) ↔ ((∃ m ∈ q.kept, m.pl = x) ∨ ∃ c ∈ q.ch.take (k + 1), c.pu = true ∧ c.id = x) := by
  rw [h]
  constructor
  · rintro (rfl | h | ⟨d, hd, h1, h2⟩)
    · exact .inr ⟨c, by simp, hc, rfl⟩
    · exact .inl h
    · exact .inr ⟨d, by simp [hd], h1, h2⟩
  · rintro (h | ⟨d, hd, h1, h2⟩)
    · exact .inr (.inl h)
    · rcases List.mem_append.1 hd with hd | hd
      · exact .inr (.inr ⟨d, hd, h1, h2⟩)
      · rcases List.mem_cons.1 hd with rfl | hd
        · exact .inl h2.symm
        · cases hd
theorem ex_of_grown {w w1 w2 : World} (h : Ex w w1) (hg : w1.grownBy w2 none) : Ex w w2 := Below.grown h hg h.size fun k hk => by cases hk
theorem ex_of_new {w w1 w2 : World} {b : Nat} (h : Ex w w1) (hb : w.heap.size ≤ b) (hg : w1.grownBy w2 (some b)) : Ex w w2 := Below.grown h hg h.size fun k hk => by injection hk with e; omega
set_option maxHeartbeats 4000000 in
set_option maxRecDepth 100000 in
theorem foids_calls {w : World} {g : Nat} {F : Nat → Prop} {q : FoV} {M : Nat} (ho : q.Ok M) (hM : M ≤ 1000000) (h : FoP w g F q) :
    Calls Tryz.prog 51 #[.pointer (some ⟨g, 0, none⟩)] w fun e w' => ∃ v, e = .returned v ∧ w'.ownsRow w.heap.size 3 1 v q.ids.length (q.ids.map (Value.int .i64)) ∧ Ex w w' := by
  have H := Lib.hid h
  have HO := Lib.hid ho
  have hmm := @run_makeMap Tryz.prog
  clear h ho
  go_enter Tryz.func51, Tryz.ntmps51
  go_wp2_with fail
  refine (fonone_calls H.out).mono ?_
  rintro e w1 ⟨rfl, hb1⟩
  obtain ⟨kb, nb, v, hr⟩ := H.out.ex hb1
  obtain ⟨A, cp, rfl, hcp⟩ := own_shape hr.own
  have HX1 := Lib.hid hb1
  have hXB := ex_alloc (Ex.refl w1) (.map #[] 0)
  have HB0 := Lib.hid (MapB.made w1 Tryz.prog 3)
  have c0 : (w1.alloc (.map #[] 0)).cell? ⟨g, 0, none⟩ = some (.map (some kb)) := hXB.cell (by rw [hr.blk.cell]; rfl)
  have HK := Lib.hid (hr.kept.ex hXB)
  have HR := Lib.hid hr
  have HRW := Lib.hid (Row.of_own hr.own)
  have hkB : kb < w1.heap.size := hr.kept.lt
  have HXB := Lib.hid hXB
  have HRI := Lib.hid (rises_names hr.kept)
  have hz1 : (w1.alloc (.map #[] 0)).heap.size = w1.heap.size + 1 := by simp
  have HZ1 := Lib.hid hz1
  clear hr hb1 hXB hz1
  have hkl : q.kept.length + q.ch.length ≤ 1000000 := by have := HO.out.kl; omega
  go_wp2_with (at_range; refine wpList_range_map _ rfl _ 150 rfl 9 3 strKey Tryz.underlying150 kb (enL q.kept) rfl HK.out ?_; intro w3 hrg0 hg3 hs3)
  go_frame
  rw [HZ1.out] at hrg0 hs3 ⊢
  have HG3 := Lib.hid (ex_of_grown HXB.out hg3)
  have HB3 := Lib.hid (MapB.keep HB0.out (hg3.block w1.heap.size HB0.out.lt (by simp)))
  clear hg3 c0
  go_loopw [5] (fun _ wr => ∃ left cnt l', MapR wr Tryz.prog 9 kb (w1.heap.size + 1) (enL q.kept) left cnt ∧ MapB wr Tryz.prog 3 w1.heap.size l' ∧ SetV l' (MetV q.kept left) ∧ l'.length + cnt ≤ q.kept.length ∧ Ex w1 wr) (fun _ wr => wr.rangeLeft kb (w1.heap.size + 1))
  case atStart => exact ⟨_, _, [], hrg0, HB3.out, SetV.nil.mono fun x => (met_start _ x).symm, by rw [enL_len]; simp, HG3.out⟩
  case round =>
    obtain ⟨left, cnt, l', hrg, hB, hV, hln, hb⟩ := hrel
    have HRG := Lib.hid hrg
    have HB := Lib.hid hB
    have HV := Lib.hid hV
    have HX := Lib.hid hb
    clear hrg hB hV hb hrg0
    go_wp2_with (at_next; refine wpList_next_map _ rfl _ rfl 9 strKey encStr inv_str kb (w1.heap.size + 1) (enL q.kept) left cnt rfl HRG.out ?_ ?_)
    case refine_2 =>
      intro x kl v w4 cnt' _ _ hmem hrg4 hlt4 hg4 hs4 hen
      obtain ⟨m0, hm0, e0⟩ := List.mem_map.1 hmem
      unfold enM at e0
      injection e0 with e1 e2
      subst e1
      subst e2
      have hok := HO.out.ks m0 hm0
      have HRG4 := Lib.hid hrg4
      have hne : some w1.heap.size ≠ some (w1.heap.size + 1) := by intro e; injection e with e; omega
      have HB4 := Lib.hid (MapB.keep HB.out (hg4.block w1.heap.size HB.out.lt hne))
      have HX4 := Lib.hid (ex_of_new HX.out (Nat.le_succ _) hg4)
      have HM0 := Lib.hid hm0
      obtain ⟨h1, h2, h3⟩ := hok
      obtain ⟨c, hlook⟩ := MapI.look HB4.out HV.out h2 h3
      clear hmem hrg4 hg4 hm0
      go_wp2_with (at_mapUpdate; refine wpList_store_map _ rfl _ _ _ 155 rfl 3 3 intKey Tryz.underlying155 w1.heap.size l' rfl HB4.out (by unfold maxLen; omega) _ _ _ rfl rfl (key_int h2 h3) ?_; intro w5 hM5 hg5; have HM5 := Lib.hid hM5; have HG5 := Lib.hid hg5; clear hM5 hg5; go_frame)
      have hR5 := MapR.kept HRG4.out HG5.out (by intro e; injection e with e; omega) (by intro e; injection e with e; omega)
      refine ⟨⟨_, cnt', _, hR5, HM5.out, (HV.out.put m0.pl _).mono (met_step HRI.out HM0.out), Nat.le_trans (Nat.add_le_add_right (stoL_len _ _ _) _) (by omega), ex_of_new HX4.out (Nat.le_refl _) HG5.out⟩, ?_⟩
      rw [hR5.left_eq, HRG.out.left_eq]
      exact hlt4
    case refine_1 =>
      intro hc0 hl0
      have HVA := Lib.hid (HV.out.mono (met_all hl0))
      have c2 : wr.cell? ⟨g, 2, none⟩ = some (.slice A q.ch.length cp) := HX.out.cell (by rw [HR.out.blk.cell]; rfl)
      have hzr := HX.out.size
      obtain ⟨wo, hwo⟩ : ∃ wo : World, wo = wr := ⟨_, rfl⟩
      rw [← hwo] at HB HX c2 hzr ⊢
      clear hwo HRG hc0 HG3 HB3 hs3
      have hlen2 : q.ch.length ≤ 1000000 := by omega
      go_wp2_with fail
      go_loopw [29] (fun i ws => ∃ (k : Nat) (l2 : List (Lit × Value)), k ≤ q.ch.length ∧ i = .int .i64 (k : Int) ∧ MapB ws Tryz.prog 3 w1.heap.size l2 ∧ SetV l2 (fun x => (∃ m ∈ q.kept, m.pl = x) ∨ ∃ c ∈ q.ch.take k, c.pu = true ∧ c.id = x) ∧ l2.length ≤ q.kept.length + k ∧ Ex w1 ws) (fun i _ => q.ch.length - (intOf i).toNat)
      case atStart => exact ⟨0, l', Nat.zero_le _, rfl, HB.out, HVA.out.mono (fun x => by simp), by omega, HX.out⟩
      case round =>
        obtain ⟨k, l2, hk, rfl, hB2, hV2, hl2, hb2⟩ := hrel
        have HB2 := Lib.hid hB2
        have HV2 := Lib.hid hV2
        have HX2 := Lib.hid hb2
        have hz2 := hb2.size
        clear hB2 hV2 hb2
        by_cases hlt : k < q.ch.length
        · obtain ⟨b, o, hA, a0, a1, a2, a3, a4⟩ := HRW.out.chg (i := k) hlt
          subst hA
          have HOK := Lib.hid (HO.out.cs (q.ch[k]'hlt) (List.getElem_mem _))
          have HS := Lib.hid (List.take_succ_eq_append_getElem hlt)
          generalize (q.ch[k]'hlt) = c at *
          obtain ⟨dr, gone, pu, come, id⟩ := c
          simp only at a0 a1 a2 a3 a4
          replace a0 := HX2.out.cell a0
          replace a1 := HX2.out.cell a1
          replace a2 := HX2.out.cell a2
          replace a3 := HX2.out.cell a3
          replace a4 := HX2.out.cell a4
          have hE := ex_alloc (Ex.refl wr) (.cells #[.bool dr, .string gone, .bool pu, .string come, .int .i64 id] 157)
          have HB3 := Lib.hid (MapB.ex HB2.out hE)
          have HX3 := Lib.hid (HX2.out.trans hE)
          obtain ⟨_, _, h2, h3⟩ := HOK.out
          simp only at h2 h3
          cases pu
          · clear hE
            go_wp2_with fail
            exact ⟨⟨k + 1, l2, by omega, by go_num, HB3.out, HV2.out.mono (fun x => ch_no HS.out rfl x), by omega, HX3.out⟩, by simp [intOf]; omega⟩
          · obtain ⟨c, hlook⟩ := MapI.look HB3.out HV2.out h2 h3
            clear hE
            go_wp2_with (at_mapUpdate; refine wpList_store_map _ rfl _ _ _ 155 rfl 3 3 intKey Tryz.underlying155 w1.heap.size l2 rfl HB3.out (by unfold maxLen; omega) _ _ _ rfl rfl (key_int h2 h3) ?_; intro w5 hM5 hg5; have HM5 := Lib.hid hM5; have HG5 := Lib.hid hg5; clear hM5 hg5)
            exact ⟨⟨k + 1, _, by omega, by go_num, HM5.out, (HV2.out.put id _).mono (fun x => ch_yes HS.out rfl x), Nat.le_trans (stoL_len _ _ _) (by omega), ex_of_new HX3.out (Nat.le_refl _) HG5.out⟩, by simp [intOf]; omega⟩
        · have hkl2 : k = q.ch.length := by omega
          have HV3 := Lib.hid (HV2.out.mono (T := fun x => (∃ m ∈ q.kept, m.pl = x) ∨ ∃ c ∈ q.ch, c.pu = true ∧ c.id = x) (fun x => by rw [hkl2, List.take_length]))
          go_wp2_with fail
          refine (keysI_calls w1.heap.size wr).mono ?_
          rintro e w6 ⟨rfl, rfl⟩
          go_wp2_with fail
          refine (sortedI_calls HB2.out HV3.out (by omega) q.ids_up (fun x => q.ids_mem x)).mono ?_
          rintro e w7 ⟨v7, rfl, ho7, hb7⟩
          have HO7 := Lib.hid ho7
          have HX7 := Lib.hid hb7
          clear ho7 hb7
          go_wp2_with fail
          go_ret
          exact ⟨v7, rfl, own_more HO7.out (Nat.le_trans HX1.out.size hz2), (HX1.out.trans HX2.out).trans HX7.out⟩
end Go.Proofs.YtcffkmlnbnjibaaGreat
