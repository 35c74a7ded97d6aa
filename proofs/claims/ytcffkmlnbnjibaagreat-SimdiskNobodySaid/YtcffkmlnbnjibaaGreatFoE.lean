/- Walks: a folder's Copy. -/
import Derived.Test.YtcffkmlnbnjibaaGreatFoD
namespace Go.Proofs.YtcffkmlnbnjibaaGreat
open Go.RowKit Go.Maps
set_option maxHeartbeats 400000 in
theorem chclone_calls (A : Option Addr) (n c : Nat) (l : List Chg) (w : World) (hn : n ≤ 1000000) (hm : Row w 5 A n (l.flatMap Chg.cs)) (h0 : A = none → c = 0) :
    Calls Tryz.prog 124 #[.slice A n c] w fun e w' => ∃ v, e = .returned v ∧ w'.ownsRow w.heap.size 157 5 v n (l.flatMap Chg.cs) ∧ Ex w w' := by
  obtain ⟨i0, hi0, hz0, hz1, hz2⟩ := info_parts info_ch
  have heq := fun (w : World) (a : Option Addr) (n c : Nat) => Lib.run_eql_slice_nil (P := Tryz.prog) w 151 157 a n c 0 0 Tryz.underlying151
  cases A with
  | none =>
    have hl : l.length = n := by have := hm.1; rw [flat_len Chg.cs 5 (fun _ => rfl)] at this; omega
    have : n = 0 := by
      rcases Nat.eq_zero_or_pos n with h | h
      · exact h
      · obtain ⟨b, o, e, _⟩ := hm.2 h; cases e
    subst this
    have hcs : l.flatMap Chg.cs = [] := List.eq_nil_of_length_eq_zero (by rw [flat_len Chg.cs 5 (fun _ => rfl), hl])
    have Hcs := Lib.hid hcs
    clear hcs hm hl h0
    go_enter Tryz.func124, Tryz.ntmps124
    go_wp2
    go_ret
    exact ⟨_, rfl, by rw [Hcs.out]; exact World.ownsRow_nil _ _ _ _, Ex.refl _⟩
  | some a =>
    have Hm := Lib.hid hm
    clear hm h0
    go_enter Tryz.func124, Tryz.ntmps124
    go_wp2_with (first | (at_builtin; refine wpList_append_row _ rfl (.tmp 5) (.tmp 6) 151 rfl w.heap.size 157 i0 _ 5 56 Tryz.underlying151 hi0 hz0 hz1 hz2 rfl (by decide) (.slice (some ⟨w.heap.size, 0, none⟩) 0 0) 0 [] rfl (own_lit w _ 5) (some a) n c (l.flatMap Chg.cs) rfl (Hm.out.ex (ex_alloc (Ex.refl w) _)) (Chg.one l) (by unfold maxLen; omega) (by omega) (by simp) ?_; intro v' w' ho hg _))
    go_ret
    exact ⟨v', rfl, by simpa using ho, below_append (ex_alloc (Ex.refl w) _) (own_lit w 157 5) (Nat.le_refl _) (by simp) hg⟩
set_option maxHeartbeats 4000000 in
set_option maxRecDepth 100000 in
theorem focopy_calls {w : World} {g : Nat} {F : Nat → Prop} {q : FoV} {M : Nat} (ho : q.Ok M) (hM : M ≤ 1000000) (h : FoP w g F q) :
    Calls Tryz.prog 75 #[.pointer (some ⟨g, 0, none⟩)] w fun e w' => ∃ g', e = .returned (.pointer (some ⟨g', 0, none⟩)) ∧ w.heap.size ≤ g' ∧ FoP w' g' (Fresh (fun _ => False) w w') q ∧ Ex w w' := by
  obtain ⟨kb, nb, v, h⟩ := h
  obtain ⟨A, cp, rfl, hcp⟩ := own_shape h.own
  have hA : A = none → cp = 0 := by
    rintro rfl
    rcases own_blk h.own with ⟨e, _, _⟩ | ⟨g1, cap, cur, e, _⟩
    · injection e
    · injection e with e1; cases e1
  have c0 : w.cell? ⟨g, 0, none⟩ = some (.map (some kb)) := by rw [h.blk.cell]; rfl
  have c1 : w.cell? ⟨g, 1, none⟩ = some (.map (some nb)) := by rw [h.blk.cell]; rfl
  have c2 : w.cell? ⟨g, 2, none⟩ = some (.slice A q.ch.length cp) := by rw [h.blk.cell]; rfl
  have c3 : w.cell? ⟨g, 3, none⟩ = some (.bool true) := by rw [h.blk.cell]; rfl
  have HR := Lib.hid h
  have hlen : q.ch.length ≤ 1000000 := by have := ho.kl; omega
  have HA := Lib.hid hA
  clear h ho hA
  go_enter Tryz.func75, Tryz.ntmps75
  go_wp2_with fail
  go_region_held3 (fun w' => w'.cell? ⟨g, 0, none⟩ = some (.map (some kb)) ∧ w'.cell? ⟨g, 1, none⟩ = some (.map (some nb)) ∧ w'.cell? ⟨g, 2, none⟩ = some (.slice A q.ch.length cp) ∧ w'.cell? ⟨g, 3, none⟩ = some (.bool true)) (go_keep) (first
    | (go_at_call 123; ((with_reducible refine (cloneN_calls (l := q.kept) (b := kb) (HR.out.ex (Ex.refl w).drew).kept).mono ?_); rintro e w2 ⟨rfl, hC2, hb2⟩; have HC2 := Lib.hid hC2; have HX2 := Lib.hid (Ex.trans (Ex.refl w).drew hb2); clear hC2 hb2; have c0' := HX2.out.cell c0; have c1' := HX2.out.cell c1; have c2' := HX2.out.cell c2; have c3' := HX2.out.cell c3))
    | (go_at_call 123; ((with_reducible refine (cloneN_calls (l := q.now) (b := nb) (HR.out.ex HX2.out).now).mono ?_); rintro e w3 ⟨rfl, hC3, hb3⟩; have HC3 := Lib.hid hC3; have HX3 := Lib.hid (HX2.out.trans hb3); have HB3 := Lib.hid hb3; clear hC3 hb3; have c0'' := HX3.out.cell c0; have c1'' := HX3.out.cell c1; have c2'' := HX3.out.cell c2; have c3'' := HX3.out.cell c3))
    | (go_at_call 124; ((with_reducible refine (chclone_calls A q.ch.length cp q.ch _ hlen ((Row.of_own HR.out.own).ex HX3.out) HA.out).mono ?_); rintro e w4 ⟨v4, rfl, ho4, hb4⟩; obtain ⟨A4, n4, rfl, _⟩ := own_shape ho4; have HO4 := Lib.hid ho4; have HX4 := Lib.hid (HX3.out.trans hb4); have HB4 := Lib.hid hb4; clear ho4 hb4; have c0''' := HX4.out.cell c0; have c1''' := HX4.out.cell c1; have c2''' := HX4.out.cell c2; have c3''' := HX4.out.cell c3)))
  go_wp2_with fail
  go_ret
  have m2 : MapN w2 w.heap.size q.kept := HC2.out
  have l2 := m2.lt
  have l3 := HC3.out.lt
  have z2 := HX2.out.size
  have z3 := HB3.out.size
  have z4 := HB4.out.size
  have hX := ex_alloc (Ex.refl w4) (.cells #[.map (some w.heap.size), .map (some w2.heap.size), .slice A4 q.ch.length n4, .bool true] 153)
  have hz : (w4.alloc (.cells #[.map (some w.heap.size), .map (some w2.heap.size), .slice A4 q.ch.length n4, .bool true] 153)).heap.size = w4.heap.size + 1 := by simp
  refine ⟨w4.heap.size, rfl, by omega, ⟨w.heap.size, w2.heap.size, .slice A4 q.ch.length n4, Blk.new w4 _ _, ((m2.ex HB3.out).ex HB4.out).ex hX, (HC3.out.ex HB4.out).ex hX, own_more (own_ex HO4.out hX) (Nat.zero_le _), by omega, by omega, by omega, (fun k hk => ?_), .inr ⟨by omega, by omega⟩, .inr ⟨by omega, by omega⟩, .inr ⟨by omega, by omega⟩⟩, ex_alloc HX4.out _⟩
  have := HO4.out.lt k hk
  exact ⟨by omega, by omega, by omega, .inr ⟨by omega, by omega⟩⟩
end Go.Proofs.YtcffkmlnbnjibaaGreat
