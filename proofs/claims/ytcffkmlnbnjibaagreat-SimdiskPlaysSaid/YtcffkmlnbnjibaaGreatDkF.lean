/- Walks: a disk's Files and List. -/
import Derived.Test.YtcffkmlnbnjibaaGreatRfK
import Derived.Test.YtcffkmlnbnjibaaGreatDkL
import Derived.StillTailTactics
namespace Go.Proofs.YtcffkmlnbnjibaaGreat
open Go.RowKit Go.Maps
theorem DkP.idz {w : World} {g : Nat} {F : Nat → Prop} {Q : DkV} (h : DkP w g F Q) : Idz Q := by
  obtain ⟨tm, fg, fz, FF, l, tb, h⟩ := h
  exact fun x hx => ⟨(h.tape hx).i1, (h.tape hx).i2⟩
theorem now_ids {q : FoV} {m : Mk} (hm : m ∈ q.now) : m.pl ∈ q.ids := by
  have hL : q.now ∈ q.lists := List.mem_of_getElem? (lists_last q)
  unfold FoV.ids
  rw [setI_mem, List.mem_flatMap]
  exact ⟨_, hL, List.mem_map.2 ⟨m, hm, rfl⟩⟩
section
variable {P : Program} {w w0 : World} {o : Oper} {a : Act} {K : Act → World → Prop} {Q : Exit → Act → World → Prop}
/-- append at an own row, in a region that draws its order; which block turns. -/
theorem wp_app_grown (T E : TypeId) (z : Value) (k bytes : Nat) (hT : P.underlying T = some (.slice E)) (hE : (P.info? E).map (fun i => (i.zero, i.size, i.bytes)) = some (some z, k, bytes)) (hz : z.cells.size = k) (hk : 0 < k) (hby : bytes ≤ 1000)
    (s x : Operand) (ho : o.op = .call { callee := .builtin .append, args := #[s, x], argTypes := #[T, T] }) (base : Nat) (v : Value) (n : Nat) (cs : List Value) (hs : a.eval s = v) (hown : w.ownsRow base E k v n cs)
    (A : Option Addr) (m c : Nat) (cs' : List Value) (hx : a.eval x = .slice A m c) (hr : Row w k A m cs') (h1 : ∀ u ∈ cs', u.oneCell' = true) (hsm : n + m ≤ 100000000) (hb : Below base w0 w) (hbase : base ≤ w0.heap.size)
    (h : ∀ v' w', w'.ownsRow base E k v' (n + m) (cs ++ cs') → Below base w0 w' → w.grownBy w' v.ownBlock → K (a.put o.dst v') w') : o.wp P a w K Q := by
  obtain ⟨i0, hi0, hz0, hz1, hz2⟩ := info_parts hE
  refine wp_append_row w s x _ ho base _ i0 _ k bytes hT hi0 hz0 hz1 hz2 hz hk v n cs hs hown A m c cs' hx hr h1 (by unfold maxLen; omega) (Nat.le_trans (Nat.mul_le_mul hsm hby) (by decide)) (Nat.le_trans hbase hb.size) ?_
  intro v' w' k1 k2 _
  exact h v' w' k1 (below_append hb hown (Nat.le_refl _) (Nat.le_trans hbase hb.size) k2) k2
end
set_option maxHeartbeats 4000000 in
set_option maxRecDepth 100000 in
theorem dfiles_calls {w : World} {g : Nat} {F : Nat → Prop} {Q : DkV} (h : DkP w g F Q) {M : Nat} (ho : Q.Ok M) (hM : M ≤ 800000) :
    Calls Tryz.prog 19 #[ptrV g] w fun e w' => ∃ v, e = .returned v ∧ w'.ownsRow w.heap.size 49 2 v Q.files.length (Q.files.flatMap FlV.cs) ∧ Ex w w' := by
  have H := Lib.hid h
  have HO := Lib.hid ho
  have hnl : Q.fo.now.length ≤ 1000000 := by have := ho.fo.now_len; omega
  clear h ho
  go_enter Tryz.func19, Tryz.ntmps19
  go_wp2_with fail
  refine (dnone_calls H.out).mono ?_
  rintro e w1 ⟨rfl, hb1⟩
  obtain ⟨tm, fg, fz, FF, l, tb, hr⟩ := H.out.ex hb1
  have c4 : w1.cell? ⟨g, 4, none⟩ = some (ptrV fg) := by rw [hr.blk.cell]; rfl
  have HR := Lib.hid hr
  have HX1 := Lib.hid hb1
  clear hr hb1
  go_wp2_with fail
  refine (fonow_calls HO.out.fo (by omega) HR.out.fob).mono ?_
  rintro e w2 ⟨v2, rfl, ho2, hb2⟩
  obtain ⟨A2, c2, rfl, _⟩ := own_shape ho2
  have HM2 := Lib.hid (Row.of_own ho2)
  have HX2 := Lib.hid (HX1.out.trans hb2)
  have HR2 := Lib.hid (HR.out.ex hb2)
  have hz2 := HX2.out.size
  clear ho2 hb2 c4
  obtain ⟨L, hL⟩ : ∃ L, Q.fo.now = L := ⟨_, rfl⟩
  have HFS := Lib.hid (show Q.files = L.map fun m => (⟨m.nm, (Q.tapeAt m.pl).nw⟩ : FlV) from by unfold DkV.files; rw [hL])
  have HMEM := Lib.hid (fun (m : Mk) (hm : m ∈ L) => now_ids (q := Q.fo) (m := m) (by rw [hL]; exact hm))
  rw [hL] at HM2 hnl ⊢
  clear hL
  obtain ⟨fl, hfl⟩ : ∃ fl : Mk → FlV, fl = fun m => ⟨m.nm, (Q.tapeAt m.pl).nw⟩ := ⟨_, rfl⟩
  have HFL := Lib.hid hfl
  rw [← hfl] at HFS
  clear hfl
  go_wp2_with fail
  go_loopw [3, 14] (fun v i wr => ∃ k : Nat, k ≤ L.length ∧ i = .int .i64 (k : Int) ∧ wr.ownsRow w2.heap.size 49 2 v k (((L.take k).map fl).flatMap FlV.cs) ∧ Ex w2 wr) (fun _ i _ => L.length - (intOf i).toNat)
  case atStart => exact ⟨0, Nat.zero_le _, rfl, World.ownsRow_nil _ _ _ _, Ex.refl _⟩
  case round =>
    obtain ⟨k, hk, rfl, hor, hbr⟩ := hrel
    have HO2 := Lib.hid hor
    have HB2 := Lib.hid hbr
    have hzb := hbr.size
    clear hor hbr
    by_cases hlt : k < L.length
    · obtain ⟨m, hm⟩ : ∃ m, L[k]? = some m := ⟨_, List.getElem?_eq_getElem hlt⟩
      obtain ⟨b, o, rfl, f1o, f2o⟩ := HM2.out.mk' hm
      have hmi := HMEM.out m (List.mem_of_getElem? hm)
      have HTK := Lib.hid (show L.take (k + 1) = L.take k ++ [m] from by rw [List.take_add_one, hm]; rfl)
      have HFK := Lib.hid (show fl m = ⟨m.nm, (Q.tapeAt m.pl).nw⟩ from by rw [HFL.out])
      have hkI : (k : Int) < (L.length : Int) := by omega
      have hk0 : (0 : Int) ≤ (k : Int) := by omega
      have hkn : ((k : Int)).toNat = k := by omega
      have hkm : k + 1 ≤ 100000000 := by omega
      have hd0 : 0 < 2 := by decide
      have hd1 : 32 ≤ 1000 := by decide
      have f1 := HB2.out.cell f1o
      have f2 := HB2.out.cell f2o
      have HMI := Lib.hid hmi
      obtain ⟨mn, mp⟩ := m
      simp only at f1 f2 f1o f2o HFK HMI
      clear hm hmi
      have hbA := ex_alloc (Ex.refl wr) (.cells #[.string mn, .int .i64 mp] 103)
      have HBA := Lib.hid (HB2.out.trans hbA)
      have HOA := Lib.hid (own_ex HO2.out hbA)
      have HRA := Lib.hid (HR2.out.ex HBA.out)
      have hzA : wr.heap.size ≤ (wr.alloc (.cells #[.string mn, .int .i64 mp] 103)).heap.size := hbA.size
      have hK : Blk (wr.alloc (.cells #[.string mn, .int .i64 mp] 103)) wr.heap.size 103 [.string mn, .int .i64 mp] := Blk.new wr _ _
      have e0 := hK.cell 0
      have e1 := hK.cell 1
      have g3 : (wr.alloc (.cells #[.string mn, .int .i64 mp] 103)).cell? ⟨g, 3, none⟩ = some (.map (some tm)) := by rw [HRA.out.blk.cell]; rfl
      have HKA := Lib.hid hK
      clear hbA hK
      go_wp2_with fail
      have HNE := Lib.hid (fun (x : Option Nat) (hx : x = u3.ownBlock) => show some wr.heap.size ≠ x from fun e => by have := HO2.out.lt wr.heap.size (by rw [← hx, ← e]); omega)
      have HKB := HKA
      have hM1 : M ≤ 1000000 := by omega
      generalize (wr.alloc (.cells #[.string mn, .int .i64 mp] 103)) = W at *
      have lk := (HRA.out.ex (Ex.refl W).drew).look HMI.out HO.out (by omega)
      go_region_held3 (fun w' => w'.cell? ⟨wr.heap.size, 0, none⟩ = some (.string mn) ∧ w'.cell? ⟨wr.heap.size, 1, none⟩ = some (.int .i64 mp) ∧ w'.cell? ⟨g, 3, none⟩ = some (.map (some tm)) ∧ (Instr.lookup 23 (.map (some tm)) (.int .i64 mp) false).run Tryz.prog w' = .ok (ptrV (tb mp)) w') (first | (go_keep; done) | (refine ⟨?_, ?_, ?_, ?_⟩ <;> first | exact (HRA.out.ex (Ex.trans HX4.out (ex_alloc (Ex.refl w4) _))).look HMI.out HO.out hM1 | go_keep)) (first
        | (go_at_call 46; ((with_reducible refine (tnow_calls ((HRA.out.ex (Ex.refl W).drew).tape HMI.out).at.1).mono ?_); rintro e w4 ⟨rfl, hb4⟩; have HX4 := Lib.hid (Ex.trans (Ex.refl W).drew hb4); clear hb4; have e0' := HX4.out.cell e0; have e1' := HX4.out.cell e1; have g3' := HX4.out.cell g3; have lk' := (HRA.out.ex HX4.out).look HMI.out HO.out (by omega)))
        | (have hA := own_ex (w' := (w4.alloc (.cells #[.string mn, .string (Q.tapeAt mp).nw] 49))) HOA.out (Ex.trans HX4.out (ex_alloc (Ex.refl w4) _)); have hRw := row_fl (w := w4) (T := 49) (f := ⟨mn, (Q.tapeAt mp).nw⟩); have hBB := Ex.trans HBA.out (Ex.trans HX4.out (ex_alloc (Ex.refl w4) (.cells #[.string mn, .string (Q.tapeAt mp).nw] 49))); rw [if_pos (by rfl)]; refine wp_app_grown (w := (w4.alloc (.cells #[.string mn, .string (Q.tapeAt mp).nw] 49))) (w0 := w2) 41 49 (.agg #[.string ⟨#[]⟩, .string ⟨#[]⟩]) 2 32 ?g1 ?g2 ?g3 ?g4 ?g5 (.tmp 18) (.tmp 30) ?g6 w2.heap.size u3 k (((L.take k).map fl).flatMap FlV.cs) ?hs ?hown (some ⟨w4.heap.size, 0, none⟩) 1 1 ([(⟨mn, (Q.tapeAt mp).nw⟩ : FlV)].flatMap FlV.cs) ?hx ?hr ?h1 ?hsm ?hb ?hbase ?K; (case g1 => exact Tryz.underlying41); (case g2 => exact info_fl11); (case g3 => exact rfl); (case g4 => exact hd0); (case g5 => exact hd1); (case g6 => exact rfl); (case hs => exact rfl); (case hx => exact rfl); (case hown => exact hA); (case hr => exact hRw); (case h1 => exact fls_one _); (case hsm => exact hkm); (case hb => exact hBB); (case hbase => exact Nat.le_refl _); intro v' w' ho' hb' hgw; have HKw := Blk.grown (HKB.out.ex (Ex.trans HX4.out (ex_alloc (Ex.refl w4) (.cells #[.string mn, .string (Q.tapeAt mp).nw] 49)))) hgw (HNE.out _ rfl); have e0'' := HKw.cell 0; have e1'' := HKw.cell 1; have g3'' := (show w'.cell? ⟨g, 3, none⟩ = some (.map (some tm)) from (HR2.out.ex hb').blk.cell 3); have lk'' := (HR2.out.ex hb').look HMI.out HO.out hM1))
      go_wp2_with fail
      exact ⟨⟨k + 1, by omega, by go_num, by rw [HTK.out, List.map_append, List.flatMap_append]; show World.ownsRow _ _ _ _ _ _ (_ ++ [fl ⟨mn, mp⟩].flatMap FlV.cs); rw [HFK.out]; exact ho', hb'⟩, by simp [intOf]; omega⟩
    · have hkl : k = L.length := by omega
      subst hkl
      have HTK := Lib.hid (List.take_length (l := L))
      go_wp2_with fail
      go_ret
      refine ⟨_, rfl, ?_, HX2.out.trans HB2.out⟩
      have ho3 := own_more HO2.out hz2
      rw [HTK.out] at ho3
      rw [HFS.out, List.length_map]
      exact ho3
end Go.Proofs.YtcffkmlnbnjibaaGreat
namespace Go.Proofs.YtcffkmlnbnjibaaGreat
open Go.RowKit Go.Maps
/-- The names that are seen. -/
def DkV.names (Q : DkV) : List Value := Q.fo.now.map fun m => .string m.nm
theorem strs_one' {l : List Mk} : ∀ u ∈ l.map (fun m => Value.string m.nm), u.oneCell' = true := by
  intro u hu
  obtain ⟨n, _, rfl⟩ := List.mem_map.1 hu
  rfl
/-- What List gives. -/
def ListP (w : World) (Q : DkV) (w' : World) (e : Ending) : Prop := (∃ v, e = .returned (.tuple #[v, .int .i64 (if Q.fu.off = true then 14 else 0)]) ∧ (Q.fu.off = true → v = .slice none 0 0) ∧ (Q.fu.off = false → w'.ownsRow w.heap.size 9 1 v Q.names.length Q.names)) ∧ Ex w w'
theorem ListP.no {w w' : World} {Q : DkV} (h : Q.fu.off = true) (hX : Ex w w') : ListP w Q w' (.returned (.tuple #[.slice none 0 0, .int .i64 14])) := by
  unfold ListP
  rw [if_pos h]
  exact ⟨⟨_, rfl, fun _ => rfl, fun h2 => by rw [h] at h2; cases h2⟩, hX⟩
theorem ListP.yes {w w' : World} {Q : DkV} {v : Value} (h : Q.fu.off = false) (ho : w'.ownsRow w.heap.size 9 1 v Q.names.length Q.names) (hX : Ex w w') : ListP w Q w' (.returned (.tuple #[v, .int .i64 0])) := by
  unfold ListP
  rw [if_neg (by rw [h]; decide)]
  exact ⟨⟨v, rfl, (fun h2 => by rw [h] at h2; cases h2), fun _ => ho⟩, hX⟩
set_option maxHeartbeats 2000000 in
set_option maxRecDepth 100000 in
theorem dlist_calls {w : World} {g : Nat} {F : Nat → Prop} {Q : DkV} (h : DkP w g F Q) {M : Nat} (ho : Q.Ok M) (hM : M ≤ 800000) :
    Calls Tryz.prog 10 #[ptrV g] w fun e w' => ListP w Q w' e := by
  have H := Lib.hid h
  have HO := Lib.hid ho
  have hnl : Q.fo.now.length ≤ 1000000 := by have := ho.fo.now_len; omega
  have HI := Lib.hid (show (Tryz.prog.info? 9).map (fun i => (i.zero, i.size, i.bytes)) = some (some (.string ⟨#[]⟩), 1, 16) from by kernel_rfl)
  clear h ho
  have HCR := Lib.hid (dready_calls H.out)
  by_cases hoff : Q.fu.off = true
  case pos =>
    rw [if_pos hoff] at HCR
    have HOF := Lib.hid hoff
    clear hoff
    go_enter Tryz.func10, Tryz.ntmps10
    go_wp2_with fail
    refine HCR.out.mono ?_
    rintro e w1 ⟨rfl, hb1⟩
    go_wp2_with fail
    go_ret2
    exact ListP.no HOF.out hb1
  case neg =>
    rw [if_neg hoff] at HCR
    have HOF := Lib.hid (Bool.eq_false_iff.2 hoff)
    clear hoff
    go_enter Tryz.func10, Tryz.ntmps10
    go_wp2_with fail
    refine HCR.out.mono ?_
    rintro e w1 ⟨rfl, hb1⟩
    obtain ⟨tm, fg, fz, FF, l, tb, hr⟩ := H.out.ex hb1
    have c4 : w1.cell? ⟨g, 4, none⟩ = some (ptrV fg) := by rw [hr.blk.cell]; rfl
    have HR := Lib.hid hr
    have HX1 := Lib.hid hb1
    clear hr hb1 HCR
    go_wp2_with fail
    refine (fonow_calls HO.out.fo (by omega) HR.out.fob).mono ?_
    rintro e w2 ⟨v2, rfl, ho2, hb2⟩
    obtain ⟨A2, c2, rfl, _⟩ := own_shape ho2
    have HM2 := Lib.hid (Row.of_own ho2)
    have HX2 := Lib.hid (HX1.out.trans hb2)
    have hz2 := HX2.out.size
    clear ho2 hb2 c4
    obtain ⟨L, hL⟩ : ∃ L, Q.fo.now = L := ⟨_, rfl⟩
    have HFS := Lib.hid (show Q.names = L.map fun m => Value.string m.nm from by unfold DkV.names; rw [hL])
    rw [hL] at HM2 hnl ⊢
    clear hL
    go_wp2_with fail
    go_loopw [5, 19] (fun v i wr => ∃ k : Nat, k ≤ L.length ∧ i = .int .i64 (k : Int) ∧ wr.ownsRow w2.heap.size 9 1 v k ((L.take k).map fun m => Value.string m.nm) ∧ Ex w2 wr) (fun _ i _ => L.length - (intOf i).toNat)
    case atStart => exact ⟨0, Nat.zero_le _, rfl, World.ownsRow_nil _ _ _ _, Ex.refl _⟩
    case round =>
      obtain ⟨k, hk, rfl, hor, hbr⟩ := hrel
      have HO2 := Lib.hid hor
      have HB2 := Lib.hid hbr
      have hzb := hbr.size
      clear hor hbr
      by_cases hlt : k < L.length
      · obtain ⟨m, hm⟩ : ∃ m, L[k]? = some m := ⟨_, List.getElem?_eq_getElem hlt⟩
        obtain ⟨b, o, rfl, f1o, f2o⟩ := HM2.out.mk' hm
        have HTK := Lib.hid (show L.take (k + 1) = L.take k ++ [m] from by rw [List.take_add_one, hm]; rfl)
        have hkI : (k : Int) < (L.length : Int) := by omega
        have hk0 : (0 : Int) ≤ (k : Int) := by omega
        have hkn : ((k : Int)).toNat = k := by omega
        have f1 := HB2.out.cell f1o
        have f2 := HB2.out.cell f2o
        obtain ⟨mn, mp⟩ := m
        simp only at f1 f2 f1o f2o
        clear hm
        have hbA := ex_two wr (.cells #[.string mn, .int .i64 mp] 103) (.cells #[.string mn] 9)
        have HBA := Lib.hid (HB2.out.trans hbA)
        have HOA := Lib.hid (own_ex HO2.out hbA)
        have hzA : w2.heap.size ≤ ((wr.alloc (.cells #[.string mn, .int .i64 mp] 103)).alloc (.cells #[.string mn] 9)).heap.size := Nat.le_trans hzb hbA.size
        have hrw := row_lit1 (wr.alloc (.cells #[.string mn, .int .i64 mp] 103)) [.string mn] 9
        rw [show (wr.alloc (.cells #[.string mn, .int .i64 mp] 103)).heap.size = wr.heap.size + 1 from by simp] at hrw
        have HRW := Lib.hid hrw
        clear hrw
        clear hbA
        go_wp2_with (at_builtin; refine app_own 31 9 (.string ⟨#[]⟩) 1 16 Tryz.underlying31 HI.out rfl (by decide) (by decide) rfl (.tmp 23) (.tmp 26) rfl w2.heap.size _ k _ rfl HOA.out (some ⟨wr.heap.size + 1, 0, none⟩) 1 1 [.string mn] rfl HRW.out ?h1 ?h2 hzA HBA.out ?K; (case h1 => exact fun u hu => by rw [List.mem_singleton.1 hu]; rfl); (case h2 => omega); intro v' w' ho' hb')
        exact ⟨⟨k + 1, by omega, by go_num, by rw [HTK.out, List.map_append]; exact ho', hb'⟩, by simp [intOf]; omega⟩
      · have hkl : k = L.length := by omega
        subst hkl
        have HTK := Lib.hid (List.take_length (l := L))
        go_wp2_with fail
        go_ret2
        refine ListP.yes HOF.out ?_ (HX2.out.trans HB2.out)
        have ho3 := own_more HO2.out hz2
        rw [HTK.out] at ho3
        rw [HFS.out, List.length_map]
        exact ho3
end Go.Proofs.YtcffkmlnbnjibaaGreat
namespace Go.Proofs.YtcffkmlnbnjibaaGreat
open Go.RowKit Go.Maps
theorem inv_int : ∀ key kl, keyOf Tryz.prog 3 key = some kl → ∃ x : Int, key = .int .i64 x := fun key kl h => by
  obtain ⟨x, hx, _⟩ := Maps.keyOf_int_inv Tryz.underlying3 h
  exact ⟨x, hx⟩
/-- Tapes that were copied so far. -/
structure CpR (w : World) (Q : DkV) (lo : Nat) (left : Lit → Bool) (l l2 : List (Lit × Value)) (tb tb2 : Int → Nat) (dn : List Int) : Prop where
  tp : TpL l2 dn tb2
  ok : ∀ id ∈ dn, left (inK id) = false ∧ lo ≤ tb2 id ∧ tb2 id < w.heap.size ∧ 1 ≤ id ∧ id ≤ (Q.tapes.length : Int) ∧ ∃ t, Q.tapes[(id - 1).toNat]? = some t ∧ Blk w (tb2 id) 148 t.cs
  inj : ∀ a ∈ dn, ∀ b ∈ dn, tb2 a = tb2 b → a = b
  co : ∀ id, (inK id, ptrV (tb id)) ∈ l → left (inK id) = true ∨ id ∈ dn
theorem inK_same (a : Int) : (inK a).sameKey (inK a) = true := by simp [Lit.sameKey]
theorem inK_eq {a b : Int} (h : (inK a).sameKey (inK b) = true) : a = b := by
  have := WideAt.sameKey_eq h
  injection this
theorem CpR.start (w : World) (Q : DkV) (lo : Nat) (l : List (Lit × Value)) (tb : Int → Nat) : CpR w Q lo (hasL l) l [] tb tb [] :=
  ⟨TpL.nil tb, fun id h => (by cases h), fun a h => (by cases h), fun id h => .inl (List.any_eq_true.2 ⟨_, h, inK_same id⟩)⟩
theorem TpL.turn {l : List (Lit × Value)} {dn : List Int} {tb tb2 : Int → Nat} (h : TpL l dn tb) (he : ∀ id ∈ dn, tb2 id = tb id) : TpL l dn tb2 :=
  ⟨fun p hp => by obtain ⟨id, hid, e⟩ := h.el p hp; exact ⟨id, hid, by rw [e, he id hid]⟩, fun id hid => by rw [he id hid]; exact h.co id hid⟩
theorem CpR.step {w w' : World} {Q : DkV} {lo nb : Nat} {left : Lit → Bool} {l l2 : List (Lit × Value)} {tb tb2 : Int → Nat} {dn : List Int} {id : Int} {t : TpV} (h : CpR w Q lo left l l2 tb tb2 dn) (hx : left (inK id) = true)
    (hk : ∀ k, lo ≤ k → k < w.heap.size → w'.heap[k]? = w.heap[k]?) (hs : w.heap.size ≤ w'.heap.size) (h1 : w.heap.size ≤ nb) (h2 : lo ≤ nb) (h3 : nb < w'.heap.size) (i1 : 1 ≤ id) (i2 : id ≤ (Q.tapes.length : Int)) (ht : Q.tapes[(id - 1).toNat]? = some t) (hB : Blk w' nb 148 t.cs) :
    CpR w' Q lo (fun z => left z && !z.sameKey (inK id)) l (stoL (inK id) (ptrV nb) l2) tb (fun k => if k = id then nb else tb2 k) (dn ++ [id]) := by
  have hni : id ∉ dn := fun hm => by have := (h.ok id hm).1; rw [hx] at this; cases this
  have hne : ∀ a ∈ dn, ¬ a = id := fun a ha e => hni (e ▸ ha)
  refine ⟨?_, fun a ha => ?_, fun a ha b hb e => ?_, fun a ha => ?_⟩
  · have := (h.tp.turn (tb2 := fun k => if k = id then nb else tb2 k) (fun a ha => if_neg (hne a ha))).put id
    simp only [if_true] at this
    exact this
  · rcases List.mem_append.1 ha with ha | ha
    · obtain ⟨a1, a2, a3, a4, a5, u, a6, a7⟩ := h.ok a ha
      simp only [if_neg (hne a ha)]
      exact ⟨by rw [a1]; rfl, a2, by omega, a4, a5, u, a6, (hk _ a2 a3).trans a7⟩
    · obtain rfl := List.mem_singleton.1 ha
      simp only [if_true]
      exact ⟨by rw [inK_same]; simp, h2, h3, i1, i2, t, ht, hB⟩
  · rcases List.mem_append.1 ha with xa | xa
    · rw [if_neg (hne a xa)] at e
      rcases List.mem_append.1 hb with xb | xb
      · rw [if_neg (hne b xb)] at e
        exact h.inj a xa b xb e
      · have eb := List.mem_singleton.1 xb
        rw [if_pos eb] at e
        have := (h.ok a xa).2.2.1
        omega
    · have ea := List.mem_singleton.1 xa
      rw [if_pos ea] at e
      rcases List.mem_append.1 hb with xb | xb
      · rw [if_neg (hne b xb)] at e
        have := (h.ok b xb).2.2.1
        omega
      · exact ea.trans (List.mem_singleton.1 xb).symm
  · rcases h.co a ha with hl | hd
    · by_cases e : a = id
      · exact .inr (by simp [e])
      · refine .inl ?_
        rw [hl]
        cases hq : (inK a).sameKey (inK id)
        · rfl
        · exact absurd (inK_eq hq) e
    · exact .inr (by simp [hd])
theorem MapR.same {P : Program} {k : TypeId} {w w' : World} {b r : Nat} {l : List (Lit × Value)} {left : Lit → Bool} {cnt : Nat} (h : MapR w P k b r l left cnt) (hb : w'.heap[b]? = w.heap[b]?) (hr : w'.heap[r]? = w.heap[r]?) : MapR w' P k b r l left cnt := by
  obtain ⟨es, clock, since, seen, c0, h1, h2, h3, h4, h5, h6⟩ := h
  exact ⟨es, clock, since, seen, c0, hb.trans h1, h2, h3, h4, hr.trans h5, h6⟩
set_option maxHeartbeats 4000000 in
set_option maxRecDepth 100000 in
theorem dcopy_calls {w : World} {g : Nat} {F : Nat → Prop} {Q : DkV} (h : DkP w g F Q) {M : Nat} (ho : Q.Ok M) (hM : M ≤ 800000) :
    Calls Tryz.prog 24 #[ptrV g] w fun e w' => ∃ g', e = .returned (ptrV g') ∧ w.heap.size ≤ g' ∧ DkP w' g' (Fresh (fun _ => False) w w') Q ∧ Ex w w' := by
  have hmm := @run_makeMap Tryz.prog
  have HP := Lib.hid h
  have HO := Lib.hid ho
  clear h ho
  go_enter Tryz.func24, Tryz.ntmps24
  go_wp2_with fail
  refine (dnone_calls HP.out).mono ?_
  rintro e w1 ⟨rfl, hb1⟩
  obtain ⟨tm, fg, fz, FF, l, tb, hr⟩ := HP.out.ex hb1
  have c0 : w1.cell? ⟨g, 0, none⟩ = some (.int .i64 Q.sec) := by rw [hr.blk.cell]; rfl
  have c1 : w1.cell? ⟨g, 1, none⟩ = some (.int .i64 (Q.tapes.length : Int)) := by rw [hr.blk.cell]; rfl
  have c2 : w1.cell? ⟨g, 2, none⟩ = some (.int .i64 (Q.calls : Int)) := by rw [hr.blk.cell]; rfl
  have c3 : w1.cell? ⟨g, 3, none⟩ = some (.map (some tm)) := by rw [hr.blk.cell]; rfl
  have c4 : w1.cell? ⟨g, 4, none⟩ = some (ptrV fg) := by rw [hr.blk.cell]; rfl
  have c5 : w1.cell? ⟨g, 5, none⟩ = some (ptrV fz) := by rw [hr.blk.cell]; rfl
  have hgl := hr.blk.lt
  have HR := Lib.hid hr
  have HX1 := Lib.hid hb1
  clear hr hb1
  have hXA := ex_alloc (Ex.refl w1) (.cells #[.int .i64 Q.sec, .int .i64 (Q.tapes.length : Int), .int .i64 (Q.calls : Int), .map (some (w1.heap.size + 1)), ptrV fg, ptrV fz] 27)
  have hKA := Blk.new w1 [.int .i64 Q.sec, .int .i64 (Q.tapes.length : Int), .int .i64 (Q.calls : Int), .map (some (w1.heap.size + 1)), ptrV fg, ptrV fz] 27
  have hzA : (w1.alloc (.cells #[.int .i64 Q.sec, .int .i64 (Q.tapes.length : Int), .int .i64 (Q.calls : Int), .map (some (w1.heap.size + 1)), ptrV fg, ptrV fz] 27)).heap.size = w1.heap.size + 1 := by simp
  obtain ⟨WA, hWA⟩ : ∃ WA, w1.alloc (.cells #[.int .i64 Q.sec, .int .i64 (Q.tapes.length : Int), .int .i64 (Q.calls : Int), .map (some (w1.heap.size + 1)), ptrV fg, ptrV fz] 27) = WA := ⟨_, rfl⟩
  have hKA' : Blk WA w1.heap.size 27 [.int .i64 Q.sec, .int .i64 (Q.tapes.length : Int), .int .i64 (Q.calls : Int), .map (some (w1.heap.size + 1)), ptrV fg, ptrV fz] := by rw [← hWA]; exact hKA
  rw [hWA] at hXA hzA
  have hXB := ex_alloc hXA (.map #[] 0)
  have hB0 := MapB.made WA Tryz.prog 3
  have hzB : (WA.alloc (.map #[] 0)).heap.size = w1.heap.size + 2 := by rw [show (WA.alloc (.map #[] 0)).heap.size = WA.heap.size + 1 from by simp, hzA]
  have hKB := hKA'.ex (ex_alloc (Ex.refl WA) (.map #[] 0))
  rw [hzA] at hB0
  have HRB := Lib.hid (HR.out.ex hXB)
  have HXB := Lib.hid hXB
  have HKB := Lib.hid hKB
  have HB0 := Lib.hid hB0
  have HZB := Lib.hid hzB
  have HWA := Lib.hid hWA
  have HLL := Lib.hid HR.out.l_len
  clear hXA hKA hKA' hzA hWA hXB hB0 hzB hKB
  go_wp2_with (at_range; rw [HWA.out]; refine wpList_range_map _ rfl _ 23 rfl 3 96 intKey Tryz.underlying23 tm l rfl HRB.out.tpb ?_; intro w3 hrg0 hg3 hs3)
  go_frame
  rw [HZB.out] at hrg0 hs3 ⊢
  have HX3 := Lib.hid (ex_of_grown HXB.out hg3)
  have HB3 := Lib.hid (MapB.keep HB0.out (hg3.block (w1.heap.size + 1) HB0.out.lt (by simp)))
  have HK3 := Lib.hid (show Blk w3 w1.heap.size 27 [.int .i64 Q.sec, .int .i64 (Q.tapes.length : Int), .int .i64 (Q.calls : Int), .map (some (w1.heap.size + 1)), ptrV fg, ptrV fz] from (hg3.block w1.heap.size HKB.out.lt (by simp)).trans HKB.out)
  have hlo3 : w1.heap.size + 3 ≤ w3.heap.size := by omega
  have hll := HLL.out
  have htl : Q.tapes.length ≤ 800000 := by have := HO.out.tl; omega
  clear hg3
  go_loopw [4] (fun _ wr => ∃ (left : Lit → Bool) (cnt : Nat) (l2 : List (Lit × Value)) (tb2 : Int → Nat) (dn : List Int), MapR wr Tryz.prog 3 tm (w1.heap.size + 2) l left cnt ∧ MapB wr Tryz.prog 3 (w1.heap.size + 1) l2 ∧ CpR wr Q (w1.heap.size + 3) left l l2 tb tb2 dn ∧ l2.length + cnt ≤ l.length ∧ Ex w1 wr ∧ Blk wr w1.heap.size 27 [.int .i64 Q.sec, .int .i64 (Q.tapes.length : Int), .int .i64 (Q.calls : Int), .map (some (w1.heap.size + 1)), ptrV fg, ptrV fz] ∧ w1.heap.size + 3 ≤ wr.heap.size) (fun _ wr => wr.rangeLeft tm (w1.heap.size + 2))
  case atStart => exact ⟨_, _, [], _, [], hrg0, HB3.out, CpR.start _ _ _ _ _, by simp, HX3.out, HK3.out, hlo3⟩
  case round =>
    obtain ⟨left, cnt, l2, tb2, dn, hrg, hB, hC, hln, hb, hK, hlo⟩ := hrel
    have HRG := Lib.hid hrg
    have HB := Lib.hid hB
    have HC := Lib.hid hC
    have HX := Lib.hid hb
    have HK := Lib.hid hK
    have html : tm < w1.heap.size := HR.out.tpb.lt
    clear hrg hB hC hb hK hrg0 HX3 HB3 HK3 hlo3 hs3
    go_wp2_with (at_next; refine wpList_next_map _ rfl _ rfl 3 intKey (fun x : Int => Value.int .i64 x) inv_int tm (w1.heap.size + 2) l left cnt rfl HRG.out ?_ ?_)
    case refine_2 =>
      intro x kl v w4 cnt' hkey hleft hmem hrg4 hlt4 hg4 hs4 hen
      obtain ⟨id, eid, hti⟩ := HR.out.el _ hmem
      injection eid with e1 e2
      obtain ⟨x', hx1, hx2, _⟩ := Maps.keyOf_int_inv Tryz.underlying3 hkey
      injection hx1 with _ hx1
      rw [e1] at hx2
      injection hx2 with _ hx2
      obtain rfl : id = x := by omega
      subst e1
      subst e2
      have hid1 := hti.i1
      have hid2 := hti.i2
      have HX4 := Lib.hid (ex_of_new HX.out (show w1.heap.size ≤ w1.heap.size + 2 by omega) hg4)
      have hne1 : some (w1.heap.size + 1) ≠ some (w1.heap.size + 2) := by intro e; injection e with e; omega
      have hne0 : some w1.heap.size ≠ some (w1.heap.size + 2) := by intro e; injection e with e; omega
      have HB4 := Lib.hid (MapB.keep HB.out (hg4.block _ HB.out.lt hne1))
      have HK4 := Lib.hid (show Blk w4 w1.heap.size 27 [.int .i64 Q.sec, .int .i64 (Q.tapes.length : Int), .int .i64 (Q.calls : Int), .map (some (w1.heap.size + 1)), ptrV fg, ptrV fz] from (hg4.block _ HK.out.lt hne0).trans HK.out)
      obtain ⟨t, htt, htB⟩ := hti.tp
      have HTT := Lib.hid htt
      have HTB := Lib.hid (htB.ex HX4.out)
      have HRG4 := Lib.hid hrg4
      have HG4 := Lib.hid hg4
      have HLE := Lib.hid hleft
      have k3 := HK4.out.cell 3
      have y3 : w4.cell? ⟨w1.heap.size, 3, none⟩ = some (.map (some (w1.heap.size + 1))) := k3
      clear hkey hleft hmem hrg4 hg4 hti htt htB k3 hx1 hx2
      go_wp2_with fail
      have hl2m : l2.length < maxLen := by unfold maxLen; omega
      have hki : keyOf Tryz.prog 3 (.int .i64 id) = some (inK id) := key_int (by omega) (by omega)
      have HKI := Lib.hid hki
      clear hki
      go_region_held3 (fun w' => w'.cell? ⟨w1.heap.size, 3, none⟩ = some (.map (some (w1.heap.size + 1)))) (go_keep) ((go_at_call 74; ((with_reducible refine (tcopy_calls (HTB.out.ex (Ex.refl w4).drew)).mono ?_); rintro e w6 ⟨nb, rfl, hnb, hB6, hb6⟩; have HE6 := Lib.hid (Ex.trans (Ex.refl w4).drew hb6); have HB6 := Lib.hid (HB4.out.ex HE6.out); have HN6 := Lib.hid hB6; have hz6 : w4.heap.size ≤ w6.heap.size := hb6.size; have hnb4 : w4.heap.size ≤ nb := hnb; clear hB6 hb6 hnb; have y6 : w6.cell? ⟨w1.heap.size, 3, none⟩ = some (.map (some (w1.heap.size + 1))) := HE6.out.cell y3; obtain ⟨w7, hrun, hM7, hg7⟩ := MapB.store HB6.out intKey Tryz.underlying23 hl2m (ptrV nb) HKI.out; have HM7 := Lib.hid hM7; have HG7 := Lib.hid hg7; clear hM7 hg7; have y7 : w7.cell? ⟨w1.heap.size, 3, none⟩ = some (.map (some (w1.heap.size + 1))) := (World.cell?_of_block (w := w6) (HG7.out.block _ (World.block_lt_of_cell? w6 _ y6) (by intro e; injection e with e; simp only at e; omega))).trans y6)))
      go_wp2_with fail
      have hlo4 := HG4.out.size
      have hlo7 := HG7.out.size
      have hc7 : ∀ k, k < w6.heap.size → k ≠ w1.heap.size + 1 → w7.heap[k]? = w6.heap[k]? := fun k hk hn => HG7.out.block k hk (by intro e; injection e with e; exact hn e)
      have hc47 : ∀ k, k < w4.heap.size → k ≠ w1.heap.size + 1 → w7.heap[k]? = w4.heap[k]? := fun k hk hn => (hc7 k (by omega) hn).trans (HE6.out.block k hk)
      have hR7 := MapR.same HRG4.out (hc47 tm (by omega) (by omega)) (hc47 (w1.heap.size + 2) (by omega) (by omega))
      have hcr7 : ∀ k, w1.heap.size + 3 ≤ k → k < wr.heap.size → w7.heap[k]? = wr.heap[k]? := fun k h1 h2 => (hc47 k (by omega) (by omega)).trans (HG4.out.block k h2 (by intro e; injection e with e; omega))
      have hC7 := HC.out.step HLE.out hcr7 (by omega) (show wr.heap.size ≤ nb by omega) (by omega) (show nb < w7.heap.size by have := HN6.out.lt; omega) hid1 hid2 HTT.out ((hc7 nb HN6.out.lt (by omega)).trans HN6.out)
      refine ⟨⟨_, cnt', _, _, _, hR7, HM7.out, hC7, Nat.le_trans (Nat.add_le_add_right (stoL_len _ _ _) _) (by omega), ?_, (hc47 _ HK4.out.lt (by omega)).trans HK4.out, by omega⟩, ?_⟩
      · exact ex_of_new (Ex.trans HX4.out HE6.out) (show w1.heap.size ≤ w1.heap.size + 1 by omega) HG7.out
      · rw [hR7.left_eq, HRG.out.left_eq]
        exact hlt4
    case refine_1 =>
      intro hc0 hl0
      have HRr := Lib.hid (HR.out.ex HX.out)
      have y4 : wr.cell? ⟨g, 4, none⟩ = some (ptrV fg) := HX.out.cell c4
      have y5 : wr.cell? ⟨g, 5, none⟩ = some (ptrV fz) := HX.out.cell c5
      clear HRG
      have f4 := HK.out.frozen 4
      have f5 := HK.out.frozen 5
      have x4 : wr.cell? ⟨w1.heap.size, 4, none⟩ = some (ptrV fg) := HK.out.cell 4
      have x5 : wr.cell? ⟨w1.heap.size, 5, none⟩ = some (ptrV fz) := HK.out.cell 5
      have n1 : ¬ g = w1.heap.size := by omega
      have n2 : ¬ w1.heap.size = g := by omega
      have hM1 : M ≤ 1000000 := by omega
      have hcl : w1.heap.size < wr.heap.size := HK.out.lt
      go_wp2_with fail
      go_region_held3 (fun w' => w'.cell? ⟨g, 4, none⟩ = some (ptrV fg) ∧ w'.cell? ⟨g, 5, none⟩ = some (ptrV fz)) (go_keep) (first
        | (go_at_call 75; ((with_reducible refine (focopy_calls HO.out.fo hM1 (HRr.out.ex (Ex.refl wr).drew).fob).mono ?_); rintro e w10 ⟨ng, rfl, hng, hF10, hb10⟩; have HF10 := Lib.hid hF10; have hng0 : wr.heap.size ≤ ng := hng; have hz10 : wr.heap.size ≤ w10.heap.size := hb10.size; have HE10 := Lib.hid (Ex.trans (Ex.refl wr).drew hb10); clear hng hF10 hb10; have y4 := HE10.out.cell y4; have y5 := HE10.out.cell y5; have x4 := HE10.out.cell x4; have x5 := HE10.out.cell x5; have f4 := (HK.out.ex HE10.out).frozen 4; have f5 := (HK.out.ex HE10.out).frozen 5))
        | (go_at_call 76; ((with_reducible refine (fcopy_calls (HRr.out.ex HE10.out).fub).mono ?_); rintro e w11 ⟨nz, rfl, hnz, hZ11, hb11⟩; have HZ11 := Lib.hid hZ11; have HF11 := Lib.hid (HF10.out.ex hb11); have hz11 : w10.heap.size ≤ w11.heap.size := hb11.size; have HE11 := Lib.hid (Ex.trans HE10.out hb11); have y4 := Ex.cell hb11 y4; have y5 := Ex.cell hb11 y5; have x4 := Ex.cell hb11 x4; have x5 := Ex.cell hb11 x5; clear hZ11 hb11; have f4 := (HK.out.ex HE11.out).frozen 4; have f5 := (HK.out.ex HE11.out).frozen 5)))
      have HOF := Lib.hid ((off_set w11 w1.heap.size 4 (ptrV ng)).trans (off_set (w11.setCell ⟨w1.heap.size, 4, none⟩ (ptrV ng)) w1.heap.size 5 (ptrV nz)))
      have HKF := Lib.hid (((HK.out.ex HE11.out).setCell (i := 4) (ptrV ng)).setCell (i := 5) (ptrV nz))
      have hzF := HOF.out.size
      have hX1 := HX1.out.size
      obtain ⟨WF, hWF⟩ : ∃ WF, (w11.setCell ⟨w1.heap.size, 4, none⟩ (ptrV ng)).setCell ⟨w1.heap.size, 5, none⟩ (ptrV nz) = WF := ⟨_, rfl⟩
      rw [hWF] at HOF HKF hzF ⊢
      clear hWF x4 x5 f4 f5 y4 y5
      go_wp2_with fail
      go_ret
      refine ⟨w1.heap.size, rfl, hX1, ⟨w1.heap.size + 1, ng, nz, Fresh (fun _ => False) wr.drew w10, l2, tb2, ?_⟩, ?_⟩
      · have hB := HB.out
        have hBl := hB.lt
        have hnzl := HZ11.out.lt
        have hFl : ∀ k, Fresh (fun _ => False) wr.drew w10 k → wr.heap.size ≤ k ∧ k < w10.heap.size := fun k hk => by
          rcases hk with hk | hk
          · exact hk.elim
          · exact hk
        have hdn : ∀ id, (inK id, ptrV (tb2 id)) ∈ l2 → id ∈ dn := fun id hid => by
          obtain ⟨x, hx, e⟩ := HC.out.tp.el _ hid
          injection e with e1 _
          injection e1 with _ e2
          exact e2 ▸ hx
        refine { blk := HKF.out, fob := HF11.out.off HOF.out fun k _ hk e => ?_, fub := HZ11.out.off HOF.out (by omega), tpb := (hB.ex HE11.out).off HOF.out (by omega), el := fun p hp => ?_, co := fun id hid => ?_, inj := fun a b ha hb e => HC.out.inj a (hdn a ha) b (hdn b hb) e, gz := by omega, gt := by omega, zt := by omega, ffg := fun hk => ?_, ffz := fun hk => ?_, fft := fun hk => ?_, fg_ := .inr ⟨by omega, by omega⟩, fz_ := .inr ⟨by omega, by omega⟩, ft_ := .inr ⟨by omega, by omega⟩, sub := fun k hk => .inr ?_, ffl := fun k hk => ?_ }
        · have e : k = w1.heap.size := e
          have := hFl k hk; omega
        · obtain ⟨id, hid, e⟩ := HC.out.tp.el p hp
          obtain ⟨_, a2, a3, a4, a5, u, a6, a7⟩ := HC.out.ok id hid
          exact ⟨id, e, ⟨a4, a5, ⟨u, a6, ((a7.ex HE11.out).off HOF.out (by omega))⟩, .inr ⟨by omega, by omega⟩, fun hk => by have := hFl _ hk; omega, by omega, by omega, by omega⟩⟩
        · rcases HC.out.co id (HR.out.co id hid) with hl | hd
          · rw [hl0] at hl; cases hl
          · exact HC.out.tp.co id hd
        · have := hFl _ hk; omega
        · have := hFl _ hk; omega
        · have := hFl _ hk; omega
        · have := hFl _ hk; omega
        · have := hFl _ hk; omega
      · exact new_off (HX1.out.trans (HX.out.trans HE11.out)) (HOF.out.mono fun k _ (hk : k = w1.heap.size) => by show w.heap.size ≤ k; omega)
end Go.Proofs.YtcffkmlnbnjibaaGreat
