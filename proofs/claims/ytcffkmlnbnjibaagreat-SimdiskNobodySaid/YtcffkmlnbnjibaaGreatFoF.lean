/- Walks: a folder's names in order. -/
import Derived.Test.YtcffkmlnbnjibaaGreatFoE
namespace Go.Proofs.YtcffkmlnbnjibaaGreat
open Go.RowKit Go.Maps
theorem MkU.one (l : List Mk) : ∀ u ∈ Mk.cs l, u.oneCell' = true := by
  intro u hu
  obtain ⟨m, _, hm⟩ := List.mem_flatMap.1 hu
  simp only [Mk.enc, List.mem_cons, List.not_mem_nil, or_false] at hm
  rcases hm with rfl | rfl <;> rfl
theorem MkU.app (l l' : List Mk) : Mk.cs (l ++ l') = Mk.cs l ++ Mk.cs l' := List.flatMap_append
theorem mku_row {w : World} {T : TypeId} {b : Nat} {x : Mk} (h : Blk w b T (Mk.enc x)) : Row w 2 (some ⟨b, 0, none⟩) 1 (Mk.cs [x]) := by
  have := h.row (k := 2) (n := 1) (by simp [Mk.enc])
  rw [show Mk.cs [x] = Mk.enc x by simp [Mk.cs]]
  simpa [Mk.enc] using this
/-- append at lists of names and numbers. -/
theorem app_mkT {P : Program} {w w0 : World} {ops : Array Oper} {rest : List Oper} {o : Oper} {a : Act} {Q : Exit → Act → World → Prop} (T E : TypeId) (hT : P.underlying T = some (.slice E)) (hE : (P.info? E).map (fun i => (i.zero, i.size, i.bytes)) = some (some (.agg #[.string ⟨#[]⟩, .int .i64 0]), 2, 24))
    (hgd : o.guard = none) (s x : Operand) (ho : o.op = .call { callee := .builtin .append, args := #[s, x], argTypes := #[T, T] }) (base : Nat) (v : Value) (n : Nat) (l : List Mk) (hs : a.eval s = v) (hown : w.ownsRow base E 2 v n (Mk.cs l))
    (A : Option Addr) (m c : Nat) (l' : List Mk) (hx : a.eval x = .slice A m c) (hr : Row w 2 A m (Mk.cs l')) (hsm : n + m ≤ 100000000) (hbase : base ≤ w.heap.size) (hb : Below base w0 w)
    (h : ∀ v' w', w'.ownsRow base E 2 v' (n + m) (Mk.cs (l ++ l')) → Below base w0 w' → w.grownBy w' v.ownBlock → (v'.ownBlock = v.ownBlock ∨ v'.ownBlock = some w.heap.size) → wpList P ops Q rest (a.put o.dst v') w') : wpList P ops Q (o :: rest) a w := by
  obtain ⟨i0, hi0, hz0, hz1, hz2⟩ := info_parts hE
  refine wpList_append_row w hgd s x _ ho base _ i0 _ 2 24 hT hi0 hz0 hz1 hz2 rfl (by decide) v n (Mk.cs l) hs hown A m c (Mk.cs l') hx hr (MkU.one l') (by unfold maxLen; omega) (by omega) hbase ?_
  intro v' w' h1 h2 h3
  exact h v' w' (by rw [MkU.app]; exact h1) (below_append hb hown (Nat.le_refl _) hbase h2) h2 h3
theorem info_fe : (Tryz.prog.info? 103).map (fun i => (i.zero, i.size, i.bytes)) = some (some (.agg #[.string ⟨#[]⟩, .int .i64 0]), 2, 24) := by kernel_rfl
theorem findM_at {l : List Mk} (hr : (l.map fun m => m.nm.data.toList).Pairwise fun a b => a < b) {k : Nat} (hk : k < l.length) : findM l[k].nm l = (l[k].pl, true) := by
  refine findM_some hk (by unfold nmIs; exact beq_self_eq_true _) fun j hj hjk => ?_
  rw [List.pairwise_map] at hr
  have := List.pairwise_iff_getElem.1 hr j k hj hk hjk
  unfold nmIs
  rw [beq_eq_false_iff_ne, ByteArray.toList_eq, ByteArray.toList_eq]
  intro e
  rw [e] at this
  exact List.lt_irrefl _ this
theorem take_mk {l : List Mk} {k : Nat} (hk : k < l.length) : l.take (k + 1) = l.take k ++ [l[k]] := List.take_succ_eq_append_getElem hk
set_option maxHeartbeats 1000000 in
theorem folist_calls {w : World} {b : Nat} {l : List Mk} (h : MapN w b l) (hl : l.length ≤ 1000000) (hs : ∀ m ∈ l, MkOk m) :
    Calls Tryz.prog 107 #[.map (some b)] w fun e w' => ∃ v, e = .returned v ∧ w'.ownsRow w.heap.size 103 2 v l.length (Mk.cs l) ∧ Ex w w' := by
  have H := Lib.hid h
  have HR := Lib.hid (rises_names h)
  have HS := Lib.hid hs
  clear h hs
  go_enter Tryz.func107, Tryz.ntmps107
  go_wp2_with fail
  refine (keysN_calls b w).mono ?_
  rintro e w1 ⟨rfl, rfl⟩
  go_wp2_with fail
  refine (sortedN_calls H.out hl).mono ?_
  rintro e w2 ⟨sv, rfl, ho2, hb2⟩
  obtain ⟨sA, sc, rfl, hsc⟩ := own_shape ho2
  have HSR := Lib.hid (Row.of_own ho2)
  have HX2 := Lib.hid hb2
  have hz2 := hb2.size
  clear ho2 hb2
  go_wp2_with fail
  go_loopw [3, 10] (fun v i wr => ∃ k : Nat, k ≤ l.length ∧ i = .int .i64 (k : Int) ∧ wr.ownsRow w2.heap.size 103 2 v k (Mk.cs (l.take k)) ∧ Ex w2 wr) (fun _ i _ => l.length - (intOf i).toNat)
  case atStart => exact ⟨0, Nat.zero_le _, rfl, World.ownsRow_nil _ _ _ _, Ex.refl _⟩
  case round =>
    obtain ⟨k, hk, rfl, ho, hb⟩ := hrel
    have HW := Lib.hid ho
    have HB := Lib.hid hb
    have HBw := Lib.hid (HX2.out.trans hb)
    have hzr := hb.size
    clear ho hb
    by_cases hlt : k < l.length
    · obtain ⟨b', o', hA, hc'⟩ := HSR.out.2 (by omega)
      subst hA
      have c0 : wr.cell? ⟨b', o' + k, none⟩ = some (.string l[k].nm) := HB.out.cell (hc' k _ (by rw [List.getElem?_map, List.getElem?_eq_getElem hlt]; rfl))
      have hlk := MapN.look (H.out.ex HBw.out) (HS.out l[k] (List.getElem_mem _)).1
      rw [findM_at HR.out hlt] at hlk
      have HT := Lib.hid (take_mk hlt)
      have hk1 : (wr.alloc (.cells #[.string l[k].nm, .int .i64 l[k].pl] 103)).heap.size = wr.heap.size + 1 := by simp
      have HK1 := Lib.hid hk1
      clear hc' hk1
      generalize l[k] = x at *
      go_wp2_with (at_builtin; refine app_mkT 100 103 Tryz.underlying100 info_fe rfl (.tmp 14) (.tmp 20) rfl w2.heap.size _ _ (l.take k) rfl (HW.out.alloc _) (some ⟨wr.heap.size, 0, none⟩) 1 1 [x] rfl (mku_row (T := 103) (heap_alloc_new wr _)) (by omega) (by have := HK1.out; omega) (ex_alloc HB.out _) ?_; intro v' w' ho' hb' hg' _)
      exact ⟨⟨k + 1, by omega, by go_num, by rw [HT.out]; exact ho', hb'⟩, by simp [intOf]; omega⟩
    · have hkl : k = l.length := by omega
      subst hkl
      have HT := Lib.hid (List.take_length (l := l))
      go_wp2_with fail
      go_ret
      have ho3 := own_more HW.out hz2
      rw [HT.out] at ho3
      exact ⟨_, rfl, ho3, HBw.out⟩
theorem fonow_calls {w : World} {g : Nat} {F : Nat → Prop} {q : FoV} {M : Nat} (ho : q.Ok M) (hM : M ≤ 1000000) (h : FoP w g F q) :
    Calls Tryz.prog 48 #[.pointer (some ⟨g, 0, none⟩)] w fun e w' => ∃ v, e = .returned v ∧ w'.ownsRow w.heap.size 103 2 v q.now.length (Mk.cs q.now) ∧ Ex w w' := by
  have H := Lib.hid h
  have HO := Lib.hid ho
  clear h ho
  go_enter Tryz.func48, Tryz.ntmps48
  go_wp2_with fail
  refine (fonone_calls H.out).mono ?_
  rintro e w1 ⟨rfl, hb1⟩
  obtain ⟨kb, nb, v, hr⟩ := H.out.ex hb1
  have c1 : w1.cell? ⟨g, 1, none⟩ = some (.map (some nb)) := by rw [hr.blk.cell]; rfl
  have HN := Lib.hid hr.now
  have hz := hb1.size
  clear hr
  go_wp2_with fail
  refine (folist_calls HN.out (Nat.le_trans HO.out.now_len hM) HO.out.now_all).mono ?_
  rintro e w3 ⟨v, rfl, ho3, hb3⟩
  go_wp2_with fail
  go_ret
  exact ⟨v, rfl, own_more ho3 hz, hb1.trans hb3⟩
end Go.Proofs.YtcffkmlnbnjibaaGreat
