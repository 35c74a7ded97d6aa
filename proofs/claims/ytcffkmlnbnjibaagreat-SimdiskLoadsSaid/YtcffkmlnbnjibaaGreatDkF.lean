/- Walks: a disk's Files and List. -/
import Derived.Test.YtcffkmlnbnjibaaGreatRfK
import Derived.Test.YtcffkmlnbnjibaaGreatDkL
namespace Go.Proofs.YtcffkmlnbnjibaaGreat
open Go.RowKit Go.Maps
theorem DkP.idz {w : World} {g : Nat} {F : Nat → Prop} {Q : DkV} (h : DkP w g F Q) : Idz Q := by
  obtain ⟨tm, fg, fz, FF, l, tb, h⟩ := h
  exact fun x hx => ⟨(h.tape hx).i1, (h.tape hx).i2⟩
theorem now_ids {q : FoV} {m : Mk} (hm : m ∈ q.now) : m.pl ∈ q.ids := by
  have hL : q.now ∈ q.lists := List.mem_of_getElem? (lists_last q)
  unfold FoV.ids
  rw [setI_mem, List.mem_flatMap]
  exact ⟨_, hL, List.mem_map.2 ⟨m, hm, rfl⟩⟩
section
variable {P : Program} {w w0 : World} {o : Oper} {a : Act} {K : Act → World → Prop} {Q : Exit → Act → World → Prop}
/-- append at an own row, in a region that draws its order; which block turns. -/
theorem wp_app_grown (T E : TypeId) (z : Value) (k bytes : Nat) (hT : P.underlying T = some (.slice E)) (hE : (P.info? E).map (fun i => (i.zero, i.size, i.bytes)) = some (some z, k, bytes)) (hz : z.cells.size = k) (hk : 0 < k) (hby : bytes ≤ 1000)
    (s x : Operand) (ho : o.op = .call { callee := .builtin .append, args := #[s, x], argTypes := #[T, T] }) (base : Nat) (v : Value) (n : Nat) (cs : List Value) (hs : a.eval s = v) (hown : w.ownsRow base E k v n cs)
    (A : Option Addr) (m c : Nat) (cs' : List Value) (hx : a.eval x = .slice A m c) (hr : Row w k A m cs') (h1 : ∀ u ∈ cs', u.oneCell' = true) (hsm : n + m ≤ 100000000) (hb : Below base w0 w) (hbase : base ≤ w0.heap.size)
    (h : ∀ v' w', w'.ownsRow base E k v' (n + m) (cs ++ cs') → Below base w0 w' → w.grownBy w' v.ownBlock → K (a.put o.dst v') w') : o.wp P a w K Q := by
  obtain ⟨i0, hi0, hz0, hz1, hz2⟩ := info_parts hE
  refine wp_append_row w s x _ ho base _ i0 _ k bytes hT hi0 hz0 hz1 hz2 hz hk v n cs hs hown A m c cs' hx hr h1 (by unfold maxLen; omega) (Nat.le_trans (Nat.mul_le_mul hsm hby) (by decide)) (Nat.le_trans hbase hb.size) ?_
  intro v' w' k1 k2 _
  exact h v' w' k1 (below_append hb hown (Nat.le_refl _) (Nat.le_trans hbase hb.size) k2) k2
end
set_option maxHeartbeats 4000000 in
set_option maxRecDepth 100000 in
theorem dfiles_calls {w : World} {g : Nat} {F : Nat → Prop} {Q : DkV} (h : DkP w g F Q) {M : Nat} (ho : Q.Ok M) (hM : M ≤ 800000) :
    Calls Tryz.prog 19 #[ptrV g] w fun e w' => ∃ v, e = .returned v ∧ w'.ownsRow w.heap.size 49 2 v Q.files.length (Q.files.flatMap FlV.cs) ∧ Ex w w' := by
  have H := Lib.hid h
  have HO := Lib.hid ho
  have hnl : Q.fo.now.length ≤ 1000000 := by have := ho.fo.now_len; omega
  clear h ho
  go_enter Tryz.func19, Tryz.ntmps19
  go_wp2_with fail
  refine (dnone_calls H.out).mono ?_
  rintro e w1 ⟨rfl, hb1⟩
  obtain ⟨tm, fg, fz, FF, l, tb, hr⟩ := H.out.ex hb1
  have c4 : w1.cell? ⟨g, 4, none⟩ = some (ptrV fg) := by rw [hr.blk.cell]; rfl
  have HR := Lib.hid hr
  have HX1 := Lib.hid hb1
  clear hr hb1
  go_wp2_with fail
  refine (fonow_calls HO.out.fo (by omega) HR.out.fob).mono ?_
  rintro e w2 ⟨v2, rfl, ho2, hb2⟩
  obtain ⟨A2, c2, rfl, _⟩ := own_shape ho2
  have HM2 := Lib.hid (Row.of_own ho2)
  have HX2 := Lib.hid (HX1.out.trans hb2)
  have HR2 := Lib.hid (HR.out.ex hb2)
  have hz2 := HX2.out.size
  clear ho2 hb2 c4
  obtain ⟨L, hL⟩ : ∃ L, Q.fo.now = L := ⟨_, rfl⟩
  have HFS := Lib.hid (show Q.files = L.map fun m => (⟨m.nm, (Q.tapeAt m.pl).nw⟩ : FlV) from by unfold DkV.files; rw [hL])
  have HMEM := Lib.hid (fun (m : Mk) (hm : m ∈ L) => now_ids (q := Q.fo) (m := m) (by rw [hL]; exact hm))
  rw [hL] at HM2 hnl ⊢
  clear hL
  obtain ⟨fl, hfl⟩ : ∃ fl : Mk → FlV, fl = fun m => ⟨m.nm, (Q.tapeAt m.pl).nw⟩ := ⟨_, rfl⟩
  have HFL := Lib.hid hfl
  rw [← hfl] at HFS
  clear hfl
  go_wp2_with fail
  go_loopw [3, 14] (fun v i wr => ∃ k : Nat, k ≤ L.length ∧ i = .int .i64 (k : Int) ∧ wr.ownsRow w2.heap.size 49 2 v k (((L.take k).map fl).flatMap FlV.cs) ∧ Ex w2 wr) (fun _ i _ => L.length - (intOf i).toNat)
  case atStart => exact ⟨0, Nat.zero_le _, rfl, World.ownsRow_nil _ _ _ _, Ex.refl _⟩
  case round =>
    obtain ⟨k, hk, rfl, hor, hbr⟩ := hrel
    have HO2 := Lib.hid hor
    have HB2 := Lib.hid hbr
    have hzb := hbr.size
    clear hor hbr
    by_cases hlt : k < L.length
    · obtain ⟨m, hm⟩ : ∃ m, L[k]? = some m := ⟨_, List.getElem?_eq_getElem hlt⟩
      obtain ⟨b, o, rfl, f1o, f2o⟩ := HM2.out.mk' hm
      have hmi := HMEM.out m (List.mem_of_getElem? hm)
      have HTK := Lib.hid (show L.take (k + 1) = L.take k ++ [m] from by rw [List.take_add_one, hm]; rfl)
      have HFK := Lib.hid (show fl m = ⟨m.nm, (Q.tapeAt m.pl).nw⟩ from by rw [HFL.out])
      have hkI : (k : Int) < (L.length : Int) := by omega
      have hk0 : (0 : Int) ≤ (k : Int) := by omega
      have hkn : ((k : Int)).toNat = k := by omega
      have hkm : k + 1 ≤ 100000000 := by omega
      have hd0 : 0 < 2 := by decide
      have hd1 : 32 ≤ 1000 := by decide
      have f1 := HB2.out.cell f1o
      have f2 := HB2.out.cell f2o
      have HMI := Lib.hid hmi
      obtain ⟨mn, mp⟩ := m
      simp only at f1 f2 f1o f2o HFK HMI
      clear hm hmi
      have hbA := ex_alloc (Ex.refl wr) (.cells #[.string mn, .int .i64 mp] 103)
      have HBA := Lib.hid (HB2.out.trans hbA)
      have HOA := Lib.hid (own_ex HO2.out hbA)
      have HRA := Lib.hid (HR2.out.ex HBA.out)
      have hzA : wr.heap.size ≤ (wr.alloc (.cells #[.string mn, .int .i64 mp] 103)).heap.size := hbA.size
      have hK : Blk (wr.alloc (.cells #[.string mn, .int .i64 mp] 103)) wr.heap.size 103 [.string mn, .int .i64 mp] := Blk.new wr _ _
      have e0 := hK.cell 0
      have e1 := hK.cell 1
      have g3 : (wr.alloc (.cells #[.string mn, .int .i64 mp] 103)).cell? ⟨g, 3, none⟩ = some (.map (some tm)) := by rw [HRA.out.blk.cell]; rfl
      have HKA := Lib.hid hK
      clear hbA hK
      go_wp2_with fail
      have HNE := Lib.hid (fun (x : Option Nat) (hx : x = u3.ownBlock) => show some wr.heap.size ≠ x from fun e => by have := HO2.out.lt wr.heap.size (by rw [← hx, ← e]); omega)
      have HKB := HKA
      have hM1 : M ≤ 1000000 := by omega
      generalize (wr.alloc (.cells #[.string mn, .int .i64 mp] 103)) = W at *
      have lk := (HRA.out.ex (Ex.refl W).drew).look HMI.out HO.out (by omega)
      go_region_held3 (fun w' => w'.cell? ⟨wr.heap.size, 0, none⟩ = some (.string mn) ∧ w'.cell? ⟨wr.heap.size, 1, none⟩ = some (.int .i64 mp) ∧ w'.cell? ⟨g, 3, none⟩ = some (.map (some tm)) ∧ (Instr.lookup 23 (.map (some tm)) (.int .i64 mp) false).run Tryz.prog w' = .ok (ptrV (tb mp)) w') (first | (go_keep; done) | (refine ⟨?_, ?_, ?_, ?_⟩ <;> first | exact (HRA.out.ex (Ex.trans HX4.out (ex_alloc (Ex.refl w4) _))).look HMI.out HO.out hM1 | go_keep)) (first
        | (go_at_call 46; ((with_reducible refine (tnow_calls ((HRA.out.ex (Ex.refl W).drew).tape HMI.out).at.1).mono ?_); rintro e w4 ⟨rfl, hb4⟩; have HX4 := Lib.hid (Ex.trans (Ex.refl W).drew hb4); clear hb4; have e0' := HX4.out.cell e0; have e1' := HX4.out.cell e1; have g3' := HX4.out.cell g3; have lk' := (HRA.out.ex HX4.out).look HMI.out HO.out (by omega)))
        | (have hA := own_ex (w' := (w4.alloc (.cells #[.string mn, .string (Q.tapeAt mp).nw] 49))) HOA.out (Ex.trans HX4.out (ex_alloc (Ex.refl w4) _)); have hRw := row_fl (w := w4) (T := 49) (f := ⟨mn, (Q.tapeAt mp).nw⟩); have hBB := Ex.trans HBA.out (Ex.trans HX4.out (ex_alloc (Ex.refl w4) (.cells #[.string mn, .string (Q.tapeAt mp).nw] 49))); rw [if_pos (by rfl)]; refine wp_app_grown (w := (w4.alloc (.cells #[.string mn, .string (Q.tapeAt mp).nw] 49))) (w0 := w2) 41 49 (.agg #[.string ⟨#[]⟩, .string ⟨#[]⟩]) 2 32 ?g1 ?g2 ?g3 ?g4 ?g5 (.tmp 18) (.tmp 30) ?g6 w2.heap.size u3 k (((L.take k).map fl).flatMap FlV.cs) ?hs ?hown (some ⟨w4.heap.size, 0, none⟩) 1 1 ([(⟨mn, (Q.tapeAt mp).nw⟩ : FlV)].flatMap FlV.cs) ?hx ?hr ?h1 ?hsm ?hb ?hbase ?K; (case g1 => exact Tryz.underlying41); (case g2 => exact info_fl11); (case g3 => exact rfl); (case g4 => exact hd0); (case g5 => exact hd1); (case g6 => exact rfl); (case hs => exact rfl); (case hx => exact rfl); (case hown => exact hA); (case hr => exact hRw); (case h1 => exact fls_one _); (case hsm => exact hkm); (case hb => exact hBB); (case hbase => exact Nat.le_refl _); intro v' w' ho' hb' hgw; have HKw := Blk.grown (HKB.out.ex (Ex.trans HX4.out (ex_alloc (Ex.refl w4) (.cells #[.string mn, .string (Q.tapeAt mp).nw] 49)))) hgw (HNE.out _ rfl); have e0'' := HKw.cell 0; have e1'' := HKw.cell 1; have g3'' := (show w'.cell? ⟨g, 3, none⟩ = some (.map (some tm)) from (HR2.out.ex hb').blk.cell 3); have lk'' := (HR2.out.ex hb').look HMI.out HO.out hM1))
      go_wp2_with fail
      exact ⟨⟨k + 1, by omega, by go_num, by rw [HTK.out, List.map_append, List.flatMap_append]; show World.ownsRow _ _ _ _ _ _ (_ ++ [fl ⟨mn, mp⟩].flatMap FlV.cs); rw [HFK.out]; exact ho', hb'⟩, by simp [intOf]; omega⟩
    · have hkl : k = L.length := by omega
      subst hkl
      have HTK := Lib.hid (List.take_length (l := L))
      go_wp2_with fail
      go_ret
      refine ⟨_, rfl, ?_, HX2.out.trans HB2.out⟩
      have ho3 := own_more HO2.out hz2
      rw [HTK.out] at ho3
      rw [HFS.out, List.length_map]
      exact ho3
end Go.Proofs.YtcffkmlnbnjibaaGreat
