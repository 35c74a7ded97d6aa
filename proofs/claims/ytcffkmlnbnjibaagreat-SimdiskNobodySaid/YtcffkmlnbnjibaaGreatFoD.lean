/- Walks: a folder's settle, Sync, Crash. -/
import Derived.Test.YtcffkmlnbnjibaaGreatFoC
import Derived.Test.YtcffkmlnbnjibaaGreatFoL
namespace Go.Proofs.YtcffkmlnbnjibaaGreat
open Go.RowKit Go.Maps
theorem Row.chg {w : World} {A : Option Addr} {n : Nat} {l : List Chg} (h : Row w 5 A n (l.flatMap Chg.cs)) {i : Nat} (hi : i < l.length) :
    ∃ b o, A = some ⟨b, o, none⟩ ∧ w.cell? ⟨b, o + i * 5, none⟩ = some (.bool l[i].dr) ∧ w.cell? ⟨b, o + i * 5 + 1, none⟩ = some (.string l[i].gone) ∧ w.cell? ⟨b, o + i * 5 + 2, none⟩ = some (.bool l[i].pu) ∧ w.cell? ⟨b, o + i * 5 + 3, none⟩ = some (.string l[i].come) ∧ w.cell? ⟨b, o + i * 5 + 4, none⟩ = some (.int .i64 l[i].id) := by
  have hn : n = l.length := by have := h.1; rw [flat_len Chg.cs 5 (fun _ => rfl)] at this; omega
  obtain ⟨b, o, e, hc⟩ := h.2 (by omega)
  have h0 : ∀ j, j < 5 → (l.flatMap Chg.cs)[i * 5 + j]? = (Chg.cs l[i])[j]? := fun j hj => flat_get Chg.cs 5 (fun _ => rfl) l i l[i] j (List.getElem?_eq_getElem hi) hj
  exact ⟨b, o, e, hc (i * 5) _ (h0 0 (by omega)), hc (i * 5 + 1) _ (h0 1 (by omega)), hc (i * 5 + 2) _ (h0 2 (by omega)), hc (i * 5 + 3) _ (h0 3 (by omega)), hc (i * 5 + 4) _ (h0 4 (by omega))⟩
def apC (l : List Mk) (ch : List Chg) : List Mk := ch.foldl (fun l c => c.ap l) l
theorem apC_succ (l : List Mk) {ch : List Chg} {k : Nat} (hk : k < ch.length) : apC l (ch.take (k + 1)) = (ch[k]).ap (apC l (ch.take k)) := by
  unfold apC
  rw [List.take_succ_eq_append_getElem hk, List.foldl_append]; rfl
set_option maxHeartbeats 4000000 in
set_option maxRecDepth 100000 in
theorem fosettle_calls {w : World} {g : Nat} {F : Nat → Prop} {q : FoV} (n : Nat) (hn : n ≤ q.ch.length) {M : Nat} (ho : q.Ok M) (hM : M ≤ 1000000) (h : FoP w g F q) :
    Calls Tryz.prog 117 #[.pointer (some ⟨g, 0, none⟩), .int .i64 (n : Int)] w fun e w' => e = .returned (.tuple #[]) ∧ FoP w' g (Fresh F w w') (q.settle n) ∧ Off F w w' := by
  obtain ⟨kb, nb, v, h⟩ := h
  obtain ⟨A, cp, rfl, hcp⟩ := own_shape h.own
  have c2 : w.cell? ⟨g, 2, none⟩ = some (.slice A q.ch.length cp) := by rw [h.blk.cell]; rfl
  have HR := Lib.hid h
  have HO := Lib.hid ho
  have hlen : q.ch.length ≤ 1000000 := by have := ho.kl; omega
  have hnI : (n : Int) ≤ (cp : Int) := by omega
  clear h ho
  go_enter Tryz.func117, Tryz.ntmps117
  go_wp2_with fail
  go_loopw [13] (fun i wr => ∃ k : Nat, k ≤ n ∧ i = .int .i64 (k : Int) ∧ MapN wr kb (apC q.kept (q.ch.take k)) ∧ Off (· = kb) w wr) (fun i _ => n - (intOf i).toNat)
  case atStart => exact ⟨0, Nat.zero_le _, rfl, HR.out.kept, Off.refl _ _⟩
  case round =>
    obtain ⟨k, hk, rfl, hM, hO⟩ := hrel
    have HM := Lib.hid hM
    have HOf := Lib.hid hO
    clear hM hO
    by_cases hlt : k < n
    · obtain ⟨b, o, hA, a0, a1, a2, a3, a4⟩ := (Row.of_own HR.out.own).chg (i := k) (by omega)
      subst hA
      have hbk : ¬ b = kb := (HR.out.vs b rfl).2.1
      have HOK := Lib.hid (HO.out.cs (q.ch[k]'(by omega)) (List.getElem_mem _))
      have HS := Lib.hid (apC_succ q.kept (ch := q.ch) (k := k) (by omega))
      generalize (q.ch[k]'(by omega)) = c at *
      obtain ⟨dr, gone, pu, come, id⟩ := c
      simp only at a0 a1 a2 a3 a4
      replace a0 := HOf.out.cell a0 hbk
      replace a1 := HOf.out.cell a1 hbk
      replace a2 := HOf.out.cell a2 hbk
      replace a3 := HOf.out.cell a3 hbk
      replace a4 := HOf.out.cell a4 hbk
      have g0 : wr.cell? ⟨g, 0, none⟩ = some (.map (some kb)) := HOf.out.cell (by rw [HR.out.blk.cell]; rfl) HR.out.gk
      have hX0 := ex_alloc (Ex.refl wr) (.cells #[.bool dr, .string gone, .bool pu, .string come, .int .i64 id] 157)
      have hK : Blk (wr.alloc (.cells #[.bool dr, .string gone, .bool pu, .string come, .int .i64 id] 157)) wr.heap.size 157 [.bool dr, .string gone, .bool pu, .string come, .int .i64 id] := Blk.new wr _ _
      have c1 : (wr.alloc (.cells #[.bool dr, .string gone, .bool pu, .string come, .int .i64 id] 157)).cell? ⟨g, 0, none⟩ = some (.map (some kb)) := hX0.cell g0
      have k0 : (wr.alloc (.cells #[.bool dr, .string gone, .bool pu, .string come, .int .i64 id] 157)).cell? ⟨wr.heap.size, 0, none⟩ = some (.bool dr) := by rw [hK.cell]; rfl
      have k1 : (wr.alloc (.cells #[.bool dr, .string gone, .bool pu, .string come, .int .i64 id] 157)).cell? ⟨wr.heap.size, 1, none⟩ = some (.string gone) := by rw [hK.cell]; rfl
      have k2 : (wr.alloc (.cells #[.bool dr, .string gone, .bool pu, .string come, .int .i64 id] 157)).cell? ⟨wr.heap.size, 2, none⟩ = some (.bool pu) := by rw [hK.cell]; rfl
      have k3 : (wr.alloc (.cells #[.bool dr, .string gone, .bool pu, .string come, .int .i64 id] 157)).cell? ⟨wr.heap.size, 3, none⟩ = some (.string come) := by rw [hK.cell]; rfl
      have k4 : (wr.alloc (.cells #[.bool dr, .string gone, .bool pu, .string come, .int .i64 id] 157)).cell? ⟨wr.heap.size, 4, none⟩ = some (.int .i64 id) := by rw [hK.cell]; rfl
      have HX0 := Lib.hid hX0
      clear hX0 hK
      go_wp2_with fail
      generalize (wr.alloc (.cells #[.bool dr, .string gone, .bool pu, .string come, .int .i64 id] 157)) = W at *
      have HN := Lib.hid (HM.out.ex HX0.out)
      have hnw : ¬ wr.heap.size = kb := by have := HM.out.lt; omega
      have hlen2 : Hid ((apC q.kept (q.ch.take k)).length ≤ 1000000000) := by
        have h1 := foldl_ap_len (q.ch.take k) q.kept
        have h2 := HO.out.kl
        have h3 : (q.ch.take k).length ≤ q.ch.length := by rw [List.length_take]; omega
        unfold Hid apC
        omega
      go_region_held3 (fun w' => w'.cell? ⟨g, 0, none⟩ = some (.map (some kb)) ∧ w'.cell? ⟨wr.heap.size, 0, none⟩ = some (.bool dr) ∧ w'.cell? ⟨wr.heap.size, 1, none⟩ = some (.string gone) ∧ w'.cell? ⟨wr.heap.size, 2, none⟩ = some (.bool pu) ∧ w'.cell? ⟨wr.heap.size, 3, none⟩ = some (.string come) ∧ w'.cell? ⟨wr.heap.size, 4, none⟩ = some (.int .i64 id)) (go_keep) ((go_at_call 154; refine (apply_calls ⟨dr, gone, pu, come, id⟩ (MapN.ex HN.out (Ex.refl W).drew) hlen2.out HOK.out).mono ?_; rintro e w2 ⟨rfl, hM2, hO2⟩; have HM2 := Lib.hid hM2; have HO2 := Lib.hid ((Ex.off (Ex.refl W).drew (· = kb)).trans hO2); clear hM2 hO2; have d1 := HO2.out.cell c1 HR.out.gk; have e0 := HO2.out.cell k0 hnw; have e1 := HO2.out.cell k1 hnw; have e2 := HO2.out.cell k2 hnw; have e3 := HO2.out.cell k3 hnw; have e4 := HO2.out.cell k4 hnw))
      go_wp2_with fail
      exact ⟨⟨k + 1, by omega, by go_num, by rw [HS.out]; exact HM2.out, (HOf.out.trans (HX0.out.off _)).trans HO2.out⟩, by simp [intOf]; omega⟩
    · have hkn : k = n := by omega
      subst hkn
      have g0 : wr.cell? ⟨g, 0, none⟩ = some (.map (some kb)) := HOf.out.cell (by rw [HR.out.blk.cell]; rfl) HR.out.gk
      have HB := Lib.hid (HR.out.blk.off HOf.out HR.out.gk)
      have hz1 := HOf.out.size
      go_wp2_with fail
      refine (cloneN_calls HM.out).mono ?_
      rintro e w2 ⟨rfl, hC, hb2⟩
      have HB2 := Lib.hid (HB.out.ex hb2)
      have c1 : w2.cell? ⟨g, 1, none⟩ = some (.map (some nb)) := by rw [HB2.out.cell]; rfl
      have c2' : w2.cell? ⟨g, 2, none⟩ = some (.slice A q.ch.length cp) := by rw [HB2.out.cell]; rfl
      have f1 := HB2.out.frozen 1
      have f2 := HB2.out.frozen 2
      have HC := Lib.hid hC
      have HX2 := Lib.hid hb2
      have hz2 := hb2.size
      clear hC hb2
      go_wp2_with fail
      go_end0
      have s1 := off_set w2 g 1 (.map (some wr.heap.size))
      have s2 := off_set (w2.setCell ⟨g, 1, none⟩ (.map (some wr.heap.size))) g 2 (.slice none 0 0)
      have l1 := HR.out.blk.lt
      have l2 := HR.out.kept.lt
      have l3 := HC.out.lt
      have hz3 : ((w2.setCell ⟨g, 1, none⟩ (.map (some wr.heap.size))).setCell ⟨g, 2, none⟩ (.slice none 0 0)).heap.size = w2.heap.size := by simp [World.setCell]
      have k1 := ((HM.out.ex HX2.out).off s1 (fun e => HR.out.gk e.symm)).off s2 (fun e => HR.out.gk e.symm)
      have k2 := (HC.out.off s1 (by omega)).off s2 (by omega)
      refine ⟨rfl, ⟨kb, wr.heap.size, .slice none 0 0, (HB2.out.setCell (i := 1) (.map (some wr.heap.size))).setCell (i := 2) (.slice none 0 0), k1, k2, World.ownsRow_nil _ _ _ _, by omega, HR.out.gk, by omega, (fun k hk => by cases hk), .inl HR.out.fg, .inl HR.out.fk, .inr ⟨hz1, by rw [hz3]; exact l3⟩⟩, ?_⟩
      exact ((((HOf.out.mono (G := F) fun k _ e => e ▸ HR.out.fk).trans (HX2.out.off F)).trans (s1.mono fun k _ e => e ▸ HR.out.fg)).trans (s2.mono fun k _ e => e ▸ HR.out.fg))
theorem FoV.Ok.settle {q : FoV} {M n : Nat} (h : q.Ok M) (hn : n ≤ q.ch.length) : (q.settle n).Ok M := by
  refine ⟨?_, ?_, fun c hc => by cases hc⟩
  · have h1 := foldl_ap_len (q.ch.take n) q.kept
    have h2 := h.kl
    have h3 : (q.ch.take n).length ≤ q.ch.length := by rw [List.length_take]; omega
    show ((q.ch.take n).foldl (fun l c => c.ap l) q.kept).length + 0 ≤ M
    omega
  · exact fold_all (fun c hc _ => (h.cs c (List.mem_of_mem_take hc)).mk) h.ks
def FoV.sync (q : FoV) : FoV := q.settle q.ch.length
theorem fosync_calls {w : World} {g : Nat} {F : Nat → Prop} {q : FoV} {M : Nat} (ho : q.Ok M) (hM : M ≤ 1000000) (h : FoP w g F q) :
    Calls Tryz.prog 65 #[.pointer (some ⟨g, 0, none⟩)] w fun e w' => e = .returned (.tuple #[]) ∧ FoP w' g (Fresh F w w') q.sync ∧ Off F w w' := by
  have H := Lib.hid h
  have HO := Lib.hid ho
  clear h ho
  go_enter Tryz.func65, Tryz.ntmps65
  go_wp2_with fail
  refine (fonone_calls H.out).mono ?_
  rintro e w1 ⟨rfl, hb1⟩
  have H1 := Lib.hid (H.out.ex hb1)
  obtain ⟨kb, nb, v, hr⟩ := H1.out
  obtain ⟨A, cp, rfl, hcp⟩ := own_shape hr.own
  have c2 : w1.cell? ⟨g, 2, none⟩ = some (.slice A q.ch.length cp) := by rw [hr.blk.cell]; rfl
  clear hr
  go_wp2_with fail
  refine (fosettle_calls q.ch.length (Nat.le_refl _) HO.out hM H1.out).mono ?_
  rintro e w3 ⟨rfl, hp, hoff⟩
  go_wp2_with fail
  go_end0
  exact ⟨rfl, hp.more (Fresh.sub hb1.size), (hb1.off F).trans hoff⟩
/-- How many changes a choice makes last. -/
def FoV.pick (q : FoV) (c : Int) : Nat := (c % ((q.ch.length : Int) + 1)).toNat
def FoV.crash (q : FoV) (c : Int) : FoV := q.settle (q.pick c)
theorem FoV.pick_le (q : FoV) (c : Int) : q.pick c ≤ q.ch.length := by
  unfold pick
  have h1 : (0 : Int) < (q.ch.length : Int) + 1 := by omega
  have h2 := Int.emod_lt_of_pos c h1
  omega
theorem focrash_calls {w : World} {g : Nat} {F : Nat → Prop} {q : FoV} (c : Int) (hc : 0 ≤ c) (hc2 : c ≤ 9223372036854775807) {M : Nat} (ho : q.Ok M) (hM : M ≤ 1000000) (h : FoP w g F q) :
    Calls Tryz.prog 71 #[.pointer (some ⟨g, 0, none⟩), .int .i64 c] w fun e w' => e = .returned (.int .i64 (q.pick c : Int)) ∧ FoP w' g (Fresh F w w') (q.crash c) ∧ Off F w w' := by
  have H := Lib.hid h
  have HO := Lib.hid ho
  have hlen : q.ch.length ≤ 1000000 := by have := ho.kl; omega
  have hp0 : (q.pick c : Int) = c % ((q.ch.length : Int) + 1) := by
    unfold FoV.pick
    have h2 := Int.emod_nonneg c (show ((q.ch.length : Int) + 1) ≠ 0 by omega)
    omega
  have HP := Lib.hid hp0
  have hle := q.pick_le c
  clear h ho hp0
  go_enter Tryz.func71, Tryz.ntmps71
  go_wp2_with fail
  refine (fonone_calls H.out).mono ?_
  rintro e w1 ⟨rfl, hb1⟩
  have H1 := Lib.hid (H.out.ex hb1)
  obtain ⟨kb, nb, v, hr⟩ := H1.out
  obtain ⟨A, cp, rfl, hcp⟩ := own_shape hr.own
  have c2 : w1.cell? ⟨g, 2, none⟩ = some (.slice A q.ch.length cp) := by rw [hr.blk.cell]; rfl
  have d1 : decide (c % ((q.ch.length : Int) + 1) < 0) = false := decide_eq_false (by have := Int.emod_nonneg c (show ((q.ch.length : Int) + 1) ≠ 0 by omega); omega)
  clear hr
  go_wp2_with fail
  rw [← HP.out]
  refine (fosettle_calls (q.pick c) hle HO.out hM H1.out).mono ?_
  rintro e w3 ⟨rfl, hp, hoff⟩
  go_wp2_with fail
  go_ret
  exact ⟨rfl, hp.more (Fresh.sub hb1.size), (hb1.off F).trans hoff⟩
end Go.Proofs.YtcffkmlnbnjibaaGreat
