/- Walks: a disk: files that can be there no more are forgotten; a file more; an empty disk. -/
import Derived.Test.YtcffkmlnbnjibaaGreatDkC
namespace Go.Proofs.YtcffkmlnbnjibaaGreat
open Go.RowKit Go.Maps
/-- Just the tapes of these numbers. -/
structure TpL (l : List (Lit × Value)) (ids : List Int) (tb : Int → Nat) : Prop where
  el : ∀ p ∈ l, ∃ id ∈ ids, p = (inK id, ptrV (tb id))
  co : ∀ id ∈ ids, (inK id, ptrV (tb id)) ∈ l
theorem TpL.nil (tb : Int → Nat) : TpL [] [] tb := ⟨(fun p hp => by cases hp), fun id hid => by cases hid⟩
theorem TpL.put {l : List (Lit × Value)} {ids : List Int} {tb : Int → Nat} (h : TpL l ids tb) (id : Int) : TpL (stoL (inK id) (ptrV (tb id)) l) (ids ++ [id]) tb := by
  refine ⟨fun p hp => ?_, fun x hx => ?_⟩
  · rcases (stoL_mem _ _ _ _).1 hp with rfl | ⟨hp, _⟩
    · exact ⟨id, by simp, rfl⟩
    · obtain ⟨x, hx, e⟩ := h.el p hp
      exact ⟨x, by simp [hx], e⟩
  · by_cases e : x = id
    · subst e; exact (stoL_mem _ _ _ _).2 (.inl rfl)
    · rcases List.mem_append.1 hx with hx | hx
      · exact (stoL_mem _ _ _ _).2 (.inr ⟨h.co x hx, by rw [sameI]; exact decide_eq_false e⟩)
      · rcases List.mem_cons.1 hx with rfl | hx
        · exact absurd rfl e
        · cases hx
section
variable {w : World} {g : Nat} {F : Nat → Prop} {Q : DkV} {tm fg fz : Nat} {FF : Nat → Prop} {l : List (Lit × Value)} {tb : Int → Nat}
set_option maxHeartbeats 2000000 in
theorem dsweep_calls (h : DkR w g F Q tm fg fz FF l tb) {M : Nat} (ho : Q.Ok M) (hM : M ≤ 1000000) :
    Calls Tryz.prog 66 #[.pointer (some ⟨g, 0, none⟩)] w fun e w' => e = .returned (.tuple #[]) ∧ (∃ tm' l', DkR w' g (Fresh F w w') Q tm' fg fz FF l' tb) ∧ Off F w w' := by
  have hmm := @run_makeMap Tryz.prog
  have H := Lib.hid h
  have HO := Lib.hid ho
  have hXB := ex_alloc (Ex.refl w) (.map #[] 0)
  have HXB := Lib.hid hXB
  have HB0 := Lib.hid (MapB.made w Tryz.prog 3)
  have c4 : (w.alloc (.map #[] 0)).cell? ⟨g, 4, none⟩ = some (ptrV fg) := hXB.cell (by rw [h.blk.cell]; rfl)
  have hil : Q.fo.ids.length ≤ 1000000 := by have := h.ids_len; have := ho.tl; omega
  have hz1 : (w.alloc (.map #[] 0)).heap.size = w.heap.size + 1 := by simp
  have HZ1 := Lib.hid hz1
  clear h ho hXB hz1
  go_enter Tryz.func66, Tryz.ntmps66
  go_wp2_with fail
  refine (foids_calls HO.out.fo hM (H.out.ex HXB.out).fob).mono ?_
  rintro e w1 ⟨iv, rfl, ho1, hb1⟩
  obtain ⟨iA, ic, rfl, _⟩ := own_shape ho1
  have HIR := Lib.hid (Row.of_own ho1)
  have HX1 := Lib.hid (HXB.out.trans hb1)
  have HB1 := Lib.hid (HB0.out.ex hb1)
  have hz2 := hb1.size
  rw [HZ1.out] at hz2
  clear ho1 hb1 c4
  go_wp2_with fail
  go_loopw [12] (fun i wr => ∃ (k : Nat) (l2 : List (Lit × Value)), k ≤ Q.fo.ids.length ∧ i = .int .i64 (k : Int) ∧ MapB wr Tryz.prog 3 w.heap.size l2 ∧ TpL l2 (Q.fo.ids.take k) tb ∧ l2.length ≤ k ∧ Ex w wr ∧ Row wr 1 iA Q.fo.ids.length (Q.fo.ids.map (Value.int .i64))) (fun i _ => Q.fo.ids.length - (intOf i).toNat)
  case atStart => exact ⟨0, [], Nat.zero_le _, rfl, HB1.out, TpL.nil tb, Nat.zero_le _, HX1.out, HIR.out⟩
  case round =>
    obtain ⟨k, l2, hk, rfl, hB, hL, hl2, hb, hI⟩ := hrel
    have HB := Lib.hid hB
    have HL := Lib.hid hL
    have HX := Lib.hid hb
    have HI := Lib.hid hI
    have HR := Lib.hid (H.out.ex hb)
    clear hB hL hb hI
    by_cases hlt : k < Q.fo.ids.length
    · obtain ⟨b', o', hA, hc'⟩ := HI.out.2 (by omega)
      have c0 : wr.cell? ⟨b', o' + k, none⟩ = some (.int .i64 Q.fo.ids[k]) := hc' k _ (by rw [List.getElem?_map, List.getElem?_eq_getElem hlt]; rfl)
      have hmem : Q.fo.ids[k] ∈ Q.fo.ids := List.getElem_mem _
      have hlk := HR.out.look hmem HO.out hM
      have ht := HR.out.tape hmem
      have hk1 : -9223372036854775808 ≤ Q.fo.ids[k] := by have := ht.i1; omega
      have hk2 : Q.fo.ids[k] ≤ 9223372036854775807 := by have := ht.i2; have := HO.out.tl; omega
      have HS := Lib.hid (List.take_succ_eq_append_getElem hlt)
      have c3 : wr.cell? ⟨g, 3, none⟩ = some (.map (some tm)) := by rw [HR.out.blk.cell]; rfl
      obtain rfl := hA
      clear hc' hmem ht
      generalize Q.fo.ids[k] = id at *
      go_wp2_with (at_mapUpdate; refine wpList_store_map _ rfl _ _ _ 23 rfl 3 96 intKey Tryz.underlying23 w.heap.size l2 rfl HB.out (by unfold maxLen; omega) _ _ _ rfl rfl (key_int hk1 hk2) ?_; intro w5 hM5 hg5; have HM5 := Lib.hid hM5; have HG5 := Lib.hid hg5; clear hM5 hg5)
      have hbw : ∀ b o u, wr.cell? ⟨b, o, none⟩ = some u → w5.cell? ⟨b, o, none⟩ = some u := by
        intro b o u hu
        by_cases hbb : b = w.heap.size
        · subst hbb
          obtain ⟨es, clock, hm, _⟩ := HB.out
          simp [World.cell?, hm] at hu
        · exact (World.cell?_of_block (w := wr) (HG5.out.block b (World.block_lt_of_cell? wr _ hu) (by intro e; injection e with e; exact hbb e))).trans hu
      exact ⟨⟨k + 1, _, by omega, by go_num, HM5.out, by rw [HS.out]; exact HL.out.put id, Nat.le_trans (stoL_len _ _ _) (by omega), ex_of_new HX.out (Nat.le_refl _) HG5.out, HI.out.keep hbw⟩, by simp [intOf]; omega⟩
    · have hkl : k = Q.fo.ids.length := by omega
      have HL2 : Hid (TpL l2 Q.fo.ids tb) := by
        have h1 := HL.out
        rw [hkl, List.take_length] at h1
        exact h1
      have c3 : wr.cell? ⟨g, 3, none⟩ = some (.map (some tm)) := by rw [HR.out.blk.cell]; rfl
      have f3 := HR.out.blk.frozen 3
      have HO3 := Lib.hid (off_set wr g 3 (.map (some w.heap.size)))
      have HB3 := Lib.hid (HR.out.blk.setCell (i := 3) (.map (some w.heap.size)))
      have hzr := HX.out.size
      have hz4 : (wr.setCell ⟨g, 3, none⟩ (.map (some w.heap.size))).heap.size = wr.heap.size := by simp [World.setCell]
      have HZ4 := Lib.hid hz4
      clear hz4
      go_wp2_with fail
      go_end0
      have l1 := H.out.blk.lt
      have l2' := H.out.fub.lt
      have hBl := HB.out.lt
      refine ⟨rfl, ⟨w.heap.size, l2, ?_⟩, ?_⟩
      · refine { HR.out.more (G := Fresh F w (wr.setCell ⟨g, 3, none⟩ (.map (some w.heap.size)))) (fun k hk => .inl hk) with ffl := fun k hk => Nat.lt_of_lt_of_le (HR.out.ffl k hk) HO3.out.size, blk := by have := HB3.out; unfold DkV.cells at this ⊢; simpa using this, fob := HR.out.fob.off HO3.out (fun k _ hk e => HR.out.ffg (e ▸ hk)), fub := HR.out.fub.off HO3.out (fun e => HR.out.gz e.symm), tpb := HB.out.off HO3.out (by omega), co := HL2.out.co, gt := by omega, zt := by omega, fft := fun hf => by have := H.out.ffl _ hf; omega, ft_ := .inr ⟨Nat.le_refl _, by rw [HZ4.out]; omega⟩, el := fun p hp => ?_, inj := fun a b ha hb e => ?_ }
        · obtain ⟨id, hid, e⟩ := HL2.out.el p hp
          have ht := HR.out.tape hid
          have hlt2 := (H.out.tape hid).lt
          exact ⟨id, e, { ht.keep (HO3.out.block _ ht.lt ht.ng) with f := .inl ht.f, nm := by omega }⟩
        · obtain ⟨x, hx, ex⟩ := HL2.out.el _ ha
          obtain ⟨y, hy, ey⟩ := HL2.out.el _ hb
          injection ex with ex1 _
          injection ex1 with _ ex2
          injection ey with ey1 _
          injection ey1 with _ ey2
          subst ex2
          subst ey2
          exact H.out.inj _ _ (H.out.co _ hx) (H.out.co _ hy) e
      · exact (HX.out.off F).trans (HO3.out.mono fun k _ e => e ▸ H.out.fg_)
end
end Go.Proofs.YtcffkmlnbnjibaaGreat
