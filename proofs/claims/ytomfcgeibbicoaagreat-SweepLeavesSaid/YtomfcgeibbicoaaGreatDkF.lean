/- Walks: a disk's Files and List. -/
import Derived.Test.YtomfcgeibbicoaaGreatRfK
import Derived.Test.YtomfcgeibbicoaaGreatDkL
import Derived.StillTailTactics
namespace Go.Proofs.YtomfcgeibbicoaaGreat
open Go.RowKit Go.Maps
theorem DkP.idz {w : World} {g : Nat} {F : Nat → Prop} {Q : DkV} (h : DkP w g F Q) : Idz Q := by
  obtain ⟨tm, fg, fz, FF, l, tb, h⟩ := h
  exact fun x hx => ⟨(h.tape hx).i1, (h.tape hx).i2⟩
theorem now_ids {q : FoV} {m : Mk} (hm : m ∈ q.now) : m.pl ∈ q.ids := by
  have hL : q.now ∈ q.lists := List.mem_of_getElem? (lists_last q)
  unfold FoV.ids
  rw [setI_mem, List.mem_flatMap]
  exact ⟨_, hL, List.mem_map.2 ⟨m, hm, rfl⟩⟩
section
variable {P : Program} {w w0 : World} {o : Oper} {a : Act} {K : Act → World → Prop} {Q : Exit → Act → World → Prop}
/-- append at an own row, in a region that draws its order; which block turns. -/
theorem wp_app_grown (T E : TypeId) (z : Value) (k bytes : Nat) (hT : P.underlying T = some (.slice E)) (hE : (P.info? E).map (fun i => (i.zero, i.size, i.bytes)) = some (some z, k, bytes)) (hz : z.cells.size = k) (hk : 0 < k) (hby : bytes ≤ 1000)
    (s x : Operand) (ho : o.op = .call { callee := .builtin .append, args := #[s, x], argTypes := #[T, T] }) (base : Nat) (v : Value) (n : Nat) (cs : List Value) (hs : a.eval s = v) (hown : w.ownsRow base E k v n cs)
    (A : Option Addr) (m c : Nat) (cs' : List Value) (hx : a.eval x = .slice A m c) (hr : Row w k A m cs') (h1 : ∀ u ∈ cs', u.oneCell' = true) (hsm : n + m ≤ 100000000) (hb : Below base w0 w) (hbase : base ≤ w0.heap.size)
    (h : ∀ v' w', w'.ownsRow base E k v' (n + m) (cs ++ cs') → Below base w0 w' → w.grownBy w' v.ownBlock → K (a.put o.dst v') w') : o.wp P a w K Q := by
  obtain ⟨i0, hi0, hz0, hz1, hz2⟩ := info_parts hE
  refine wp_append_row w s x _ ho base _ i0 _ k bytes hT hi0 hz0 hz1 hz2 hz hk v n cs hs hown A m c cs' hx hr h1 (by unfold maxLen; omega) (Nat.le_trans (Nat.mul_le_mul hsm hby) (by decide)) (Nat.le_trans hbase hb.size) ?_
  intro v' w' k1 k2 _
  exact h v' w' k1 (below_append hb hown (Nat.le_refl _) (Nat.le_trans hbase hb.size) k2) k2
end
set_option maxHeartbeats 4000000 in
set_option maxRecDepth 100000 in
theorem dfiles_calls {w : World} {g : Nat} {F : Nat → Prop} {Q : DkV} (h : DkP w g F Q) {M : Nat} (ho : Q.Ok M) (hM : M ≤ 800000) :
    Calls Tryz.prog 17 #[ptrV g] w fun e w' => ∃ v, e = .returned v ∧ w'.ownsRow w.heap.size 80 2 v Q.files.length (Q.files.flatMap FlV.cs) ∧ Ex w w' := by
  have H := Lib.hid h
  have HO := Lib.hid ho
  have hnl : Q.fo.now.length ≤ 1000000 := by have := ho.fo.now_len; omega
  clear h ho
  go_enter Tryz.func17, Tryz.ntmps17
  go_wp2_with fail
  refine (dnone_calls H.out).mono ?_
  rintro e w1 ⟨rfl, hb1⟩
  obtain ⟨tm, fg, fz, FF, l, tb, hr⟩ := H.out.ex hb1
  have c4 : w1.cell? ⟨g, 4, none⟩ = some (ptrV fg) := by rw [hr.blk.cell]; rfl
  have HR := Lib.hid hr
  have HX1 := Lib.hid hb1
  clear hr hb1
  go_wp2_with fail
  refine (fonow_calls HO.out.fo (by omega) HR.out.fob).mono ?_
  rintro e w2 ⟨v2, rfl, ho2, hb2⟩
  obtain ⟨A2, c2, rfl, _⟩ := own_shape ho2
  have HM2 := Lib.hid (Row.of_own ho2)
  have HX2 := Lib.hid (HX1.out.trans hb2)
  have HR2 := Lib.hid (HR.out.ex hb2)
  have hz2 := HX2.out.size
  clear ho2 hb2 c4
  obtain ⟨L, hL⟩ : ∃ L, Q.fo.now = L := ⟨_, rfl⟩
  have HFS := Lib.hid (show Q.files = L.map fun m => (⟨m.nm, (Q.tapeAt m.pl).nw⟩ : FlV) from by unfold DkV.files; rw [hL])
  have HMEM := Lib.hid (fun (m : Mk) (hm : m ∈ L) => now_ids (q := Q.fo) (m := m) (by rw [hL]; exact hm))
  rw [hL] at HM2 hnl ⊢
  clear hL
  obtain ⟨fl, hfl⟩ : ∃ fl : Mk → FlV, fl = fun m => ⟨m.nm, (Q.tapeAt m.pl).nw⟩ := ⟨_, rfl⟩
  have HFL := Lib.hid hfl
  rw [← hfl] at HFS
  clear hfl
  go_wp2_with fail
  go_loopw [3, 14] (fun v i wr => ∃ k : Nat, k ≤ L.length ∧ i = .int .i64 (k : Int) ∧ wr.ownsRow w2.heap.size 80 2 v k (((L.take k).map fl).flatMap FlV.cs) ∧ Ex w2 wr) (fun _ i _ => L.length - (intOf i).toNat)
  case atStart => exact ⟨0, Nat.zero_le _, rfl, World.ownsRow_nil _ _ _ _, Ex.refl _⟩
  case round =>
    obtain ⟨k, hk, rfl, hor, hbr⟩ := hrel
    have HO2 := Lib.hid hor
    have HB2 := Lib.hid hbr
    have hzb := hbr.size
    clear hor hbr
    by_cases hlt : k < L.length
    · obtain ⟨m, hm⟩ : ∃ m, L[k]? = some m := ⟨_, List.getElem?_eq_getElem hlt⟩
      obtain ⟨b, o, rfl, f1o, f2o⟩ := HM2.out.mk' hm
      have hmi := HMEM.out m (List.mem_of_getElem? hm)
      have HTK := Lib.hid (show L.take (k + 1) = L.take k ++ [m] from by rw [List.take_add_one, hm]; rfl)
      have HFK := Lib.hid (show fl m = ⟨m.nm, (Q.tapeAt m.pl).nw⟩ from by rw [HFL.out])
      have hkI : (k : Int) < (L.length : Int) := by omega
      have hk0 : (0 : Int) ≤ (k : Int) := by omega
      have hkn : ((k : Int)).toNat = k := by omega
      have hkm : k + 1 ≤ 100000000 := by omega
      have hd0 : 0 < 2 := by decide
      have hd1 : 32 ≤ 1000 := by decide
      have f1 := HB2.out.cell f1o
      have f2 := HB2.out.cell f2o
      have HMI := Lib.hid hmi
      obtain ⟨mn, mp⟩ := m
      simp only at f1 f2 f1o f2o HFK HMI
      clear hm hmi
      have hbA := ex_alloc (Ex.refl wr) (.cells #[.string mn, .int .i64 mp] 125)
      have HBA := Lib.hid (HB2.out.trans hbA)
      have HOA := Lib.hid (own_ex HO2.out hbA)
      have HRA := Lib.hid (HR2.out.ex HBA.out)
      have hzA : wr.heap.size ≤ (wr.alloc (.cells #[.string mn, .int .i64 mp] 125)).heap.size := hbA.size
      have hK : Blk (wr.alloc (.cells #[.string mn, .int .i64 mp] 125)) wr.heap.size 125 [.string mn, .int .i64 mp] := Blk.new wr _ _
      have e0 := hK.cell 0
      have e1 := hK.cell 1
      have g3 : (wr.alloc (.cells #[.string mn, .int .i64 mp] 125)).cell? ⟨g, 3, none⟩ = some (.map (some tm)) := by rw [HRA.out.blk.cell]; rfl
      have HKA := Lib.hid hK
      clear hbA hK
      go_wp2_with fail
      have HNE := Lib.hid (fun (x : Option Nat) (hx : x = u3.ownBlock) => show some wr.heap.size ≠ x from fun e => by have := HO2.out.lt wr.heap.size (by rw [← hx, ← e]); omega)
      have HKB := HKA
      have hM1 : M ≤ 1000000 := by omega
      generalize (wr.alloc (.cells #[.string mn, .int .i64 mp] 125)) = W at *
      have lk := (HRA.out.ex (Ex.refl W).drew).look HMI.out HO.out (by omega)
      go_region_held3 (fun w' => w'.cell? ⟨wr.heap.size, 0, none⟩ = some (.string mn) ∧ w'.cell? ⟨wr.heap.size, 1, none⟩ = some (.int .i64 mp) ∧ w'.cell? ⟨g, 3, none⟩ = some (.map (some tm)) ∧ (Instr.lookup 98 (.map (some tm)) (.int .i64 mp) false).run Tryz.prog w' = .ok (ptrV (tb mp)) w') (first | (go_keep; done) | (refine ⟨?_, ?_, ?_, ?_⟩ <;> first | exact (HRA.out.ex (Ex.trans HX4.out (ex_alloc (Ex.refl w4) _))).look HMI.out HO.out hM1 | go_keep)) (first
        | (go_at_call 64; ((with_reducible refine (tnow_calls ((HRA.out.ex (Ex.refl W).drew).tape HMI.out).at.1).mono ?_); rintro e w4 ⟨rfl, hb4⟩; have HX4 := Lib.hid (Ex.trans (Ex.refl W).drew hb4); clear hb4; have e0' := HX4.out.cell e0; have e1' := HX4.out.cell e1; have g3' := HX4.out.cell g3; have lk' := (HRA.out.ex HX4.out).look HMI.out HO.out (by omega)))
        | (have hA := own_ex (w' := (w4.alloc (.cells #[.string mn, .string (Q.tapeAt mp).nw] 80))) HOA.out (Ex.trans HX4.out (ex_alloc (Ex.refl w4) _)); have hRw := row_fl (w := w4) (T := 80) (f := ⟨mn, (Q.tapeAt mp).nw⟩); have hBB := Ex.trans HBA.out (Ex.trans HX4.out (ex_alloc (Ex.refl w4) (.cells #[.string mn, .string (Q.tapeAt mp).nw] 80))); rw [if_pos (by rfl)]; refine wp_app_grown (w := (w4.alloc (.cells #[.string mn, .string (Q.tapeAt mp).nw] 80))) (w0 := w2) 22 80 (.agg #[.string ⟨#[]⟩, .string ⟨#[]⟩]) 2 32 ?g1 ?g2 ?g3 ?g4 ?g5 (.tmp 18) (.tmp 30) ?g6 w2.heap.size u3 k (((L.take k).map fl).flatMap FlV.cs) ?hs ?hown (some ⟨w4.heap.size, 0, none⟩) 1 1 ([(⟨mn, (Q.tapeAt mp).nw⟩ : FlV)].flatMap FlV.cs) ?hx ?hr ?h1 ?hsm ?hb ?hbase ?K; (case g1 => exact Tryz.underlying22); (case g2 => exact info_fl11); (case g3 => exact rfl); (case g4 => exact hd0); (case g5 => exact hd1); (case g6 => exact rfl); (case hs => exact rfl); (case hx => exact rfl); (case hown => exact hA); (case hr => exact hRw); (case h1 => exact fls_one _); (case hsm => exact hkm); (case hb => exact hBB); (case hbase => exact Nat.le_refl _); intro v' w' ho' hb' hgw; have HKw := Blk.grown (HKB.out.ex (Ex.trans HX4.out (ex_alloc (Ex.refl w4) (.cells #[.string mn, .string (Q.tapeAt mp).nw] 80)))) hgw (HNE.out _ rfl); have e0'' := HKw.cell 0; have e1'' := HKw.cell 1; have g3'' := (show w'.cell? ⟨g, 3, none⟩ = some (.map (some tm)) from (HR2.out.ex hb').blk.cell 3); have lk'' := (HR2.out.ex hb').look HMI.out HO.out hM1))
      go_wp2_with fail
      exact ⟨⟨k + 1, by omega, by go_num, by rw [HTK.out, List.map_append, List.flatMap_append]; show World.ownsRow _ _ _ _ _ _ (_ ++ [fl ⟨mn, mp⟩].flatMap FlV.cs); rw [HFK.out]; exact ho', hb'⟩, by simp [intOf]; omega⟩
    · have hkl : k = L.length := by omega
      subst hkl
      have HTK := Lib.hid (List.take_length (l := L))
      go_wp2_with fail
      go_ret
      refine ⟨_, rfl, ?_, HX2.out.trans HB2.out⟩
      have ho3 := own_more HO2.out hz2
      rw [HTK.out] at ho3
      rw [HFS.out, List.length_map]
      exact ho3
end Go.Proofs.YtomfcgeibbicoaaGreat
namespace Go.Proofs.YtomfcgeibbicoaaGreat
open Go.RowKit Go.Maps
/-- The names that are seen. -/
def DkV.names (Q : DkV) : List Value := Q.fo.now.map fun m => .string m.nm
theorem strs_one' {l : List Mk} : ∀ u ∈ l.map (fun m => Value.string m.nm), u.oneCell' = true := by
  intro u hu
  obtain ⟨n, _, rfl⟩ := List.mem_map.1 hu
  rfl
/-- What List gives. -/
def ListP (w : World) (Q : DkV) (w' : World) (e : Ending) : Prop := (∃ v, e = .returned (.tuple #[v, .int .i64 (if Q.fu.off = true then 14 else 0)]) ∧ (Q.fu.off = true → v = .slice none 0 0) ∧ (Q.fu.off = false → w'.ownsRow w.heap.size 9 1 v Q.names.length Q.names)) ∧ Ex w w'
theorem ListP.no {w w' : World} {Q : DkV} (h : Q.fu.off = true) (hX : Ex w w') : ListP w Q w' (.returned (.tuple #[.slice none 0 0, .int .i64 14])) := by
  unfold ListP
  rw [if_pos h]
  exact ⟨⟨_, rfl, fun _ => rfl, fun h2 => by rw [h] at h2; cases h2⟩, hX⟩
theorem ListP.yes {w w' : World} {Q : DkV} {v : Value} (h : Q.fu.off = false) (ho : w'.ownsRow w.heap.size 9 1 v Q.names.length Q.names) (hX : Ex w w') : ListP w Q w' (.returned (.tuple #[v, .int .i64 0])) := by
  unfold ListP
  rw [if_neg (by rw [h]; decide)]
  exact ⟨⟨v, rfl, (fun h2 => by rw [h] at h2; cases h2), fun _ => ho⟩, hX⟩
set_option maxHeartbeats 2000000 in
set_option maxRecDepth 100000 in
theorem dlist_calls {w : World} {g : Nat} {F : Nat → Prop} {Q : DkV} (h : DkP w g F Q) {M : Nat} (ho : Q.Ok M) (hM : M ≤ 800000) :
    Calls Tryz.prog 66 #[ptrV g] w fun e w' => ListP w Q w' e := by
  have H := Lib.hid h
  have HO := Lib.hid ho
  have hnl : Q.fo.now.length ≤ 1000000 := by have := ho.fo.now_len; omega
  have HI := Lib.hid (show (Tryz.prog.info? 9).map (fun i => (i.zero, i.size, i.bytes)) = some (some (.string ⟨#[]⟩), 1, 16) from by kernel_rfl)
  clear h ho
  have HCR := Lib.hid (dready_calls H.out)
  by_cases hoff : Q.fu.off = true
  case pos =>
    rw [if_pos hoff] at HCR
    have HOF := Lib.hid hoff
    clear hoff
    go_enter Tryz.func66, Tryz.ntmps66
    go_wp2_with fail
    refine HCR.out.mono ?_
    rintro e w1 ⟨rfl, hb1⟩
    go_wp2_with fail
    go_ret2
    exact ListP.no HOF.out hb1
  case neg =>
    rw [if_neg hoff] at HCR
    have HOF := Lib.hid (Bool.eq_false_iff.2 hoff)
    clear hoff
    go_enter Tryz.func66, Tryz.ntmps66
    go_wp2_with fail
    refine HCR.out.mono ?_
    rintro e w1 ⟨rfl, hb1⟩
    obtain ⟨tm, fg, fz, FF, l, tb, hr⟩ := H.out.ex hb1
    have c4 : w1.cell? ⟨g, 4, none⟩ = some (ptrV fg) := by rw [hr.blk.cell]; rfl
    have HR := Lib.hid hr
    have HX1 := Lib.hid hb1
    clear hr hb1 HCR
    go_wp2_with fail
    refine (fonow_calls HO.out.fo (by omega) HR.out.fob).mono ?_
    rintro e w2 ⟨v2, rfl, ho2, hb2⟩
    obtain ⟨A2, c2, rfl, _⟩ := own_shape ho2
    have HM2 := Lib.hid (Row.of_own ho2)
    have HX2 := Lib.hid (HX1.out.trans hb2)
    have hz2 := HX2.out.size
    clear ho2 hb2 c4
    obtain ⟨L, hL⟩ : ∃ L, Q.fo.now = L := ⟨_, rfl⟩
    have HFS := Lib.hid (show Q.names = L.map fun m => Value.string m.nm from by unfold DkV.names; rw [hL])
    rw [hL] at HM2 hnl ⊢
    clear hL
    go_wp2_with fail
    go_loopw [5, 19] (fun v i wr => ∃ k : Nat, k ≤ L.length ∧ i = .int .i64 (k : Int) ∧ wr.ownsRow w2.heap.size 9 1 v k ((L.take k).map fun m => Value.string m.nm) ∧ Ex w2 wr) (fun _ i _ => L.length - (intOf i).toNat)
    case atStart => exact ⟨0, Nat.zero_le _, rfl, World.ownsRow_nil _ _ _ _, Ex.refl _⟩
    case round =>
      obtain ⟨k, hk, rfl, hor, hbr⟩ := hrel
      have HO2 := Lib.hid hor
      have HB2 := Lib.hid hbr
      have hzb := hbr.size
      clear hor hbr
      by_cases hlt : k < L.length
      · obtain ⟨m, hm⟩ : ∃ m, L[k]? = some m := ⟨_, List.getElem?_eq_getElem hlt⟩
        obtain ⟨b, o, rfl, f1o, f2o⟩ := HM2.out.mk' hm
        have HTK := Lib.hid (show L.take (k + 1) = L.take k ++ [m] from by rw [List.take_add_one, hm]; rfl)
        have hkI : (k : Int) < (L.length : Int) := by omega
        have hk0 : (0 : Int) ≤ (k : Int) := by omega
        have hkn : ((k : Int)).toNat = k := by omega
        have f1 := HB2.out.cell f1o
        have f2 := HB2.out.cell f2o
        obtain ⟨mn, mp⟩ := m
        simp only at f1 f2 f1o f2o
        clear hm
        have hbA := ex_two wr (.cells #[.string mn, .int .i64 mp] 125) (.cells #[.string mn] 9)
        have HBA := Lib.hid (HB2.out.trans hbA)
        have HOA := Lib.hid (own_ex HO2.out hbA)
        have hzA : w2.heap.size ≤ ((wr.alloc (.cells #[.string mn, .int .i64 mp] 125)).alloc (.cells #[.string mn] 9)).heap.size := Nat.le_trans hzb hbA.size
        have hrw := row_lit1 (wr.alloc (.cells #[.string mn, .int .i64 mp] 125)) [.string mn] 9
        rw [show (wr.alloc (.cells #[.string mn, .int .i64 mp] 125)).heap.size = wr.heap.size + 1 from by simp] at hrw
        have HRW := Lib.hid hrw
        clear hrw
        clear hbA
        go_wp2_with (at_builtin; refine app_own 23 9 (.string ⟨#[]⟩) 1 16 Tryz.underlying23 HI.out rfl (by decide) (by decide) rfl (.tmp 23) (.tmp 26) rfl w2.heap.size _ k _ rfl HOA.out (some ⟨wr.heap.size + 1, 0, none⟩) 1 1 [.string mn] rfl HRW.out ?h1 ?h2 hzA HBA.out ?K; (case h1 => exact fun u hu => by rw [List.mem_singleton.1 hu]; rfl); (case h2 => omega); intro v' w' ho' hb')
        exact ⟨⟨k + 1, by omega, by go_num, by rw [HTK.out, List.map_append]; exact ho', hb'⟩, by simp [intOf]; omega⟩
      · have hkl : k = L.length := by omega
        subst hkl
        have HTK := Lib.hid (List.take_length (l := L))
        go_wp2_with fail
        go_ret2
        refine ListP.yes HOF.out ?_ (HX2.out.trans HB2.out)
        have ho3 := own_more HO2.out hz2
        rw [HTK.out] at ho3
        rw [HFS.out, List.length_map]
        exact ho3
end Go.Proofs.YtomfcgeibbicoaaGreat
namespace Go.Proofs.YtomfcgeibbicoaaGreat
open Go.RowKit Go.Maps
theorem inv_int : ∀ key kl, keyOf Tryz.prog 3 key = some kl → ∃ x : Int, key = .int .i64 x := fun key kl h => by
  obtain ⟨x, hx, _⟩ := Maps.keyOf_int_inv Tryz.underlying3 h
  exact ⟨x, hx⟩
/-- Tapes that were copied so far. -/
structure CpR (w : World) (Q : DkV) (lo : Nat) (left : Lit → Bool) (l l2 : List (Lit × Value)) (tb tb2 : Int → Nat) (dn : List Int) : Prop where
  tp : TpL l2 dn tb2
  ok : ∀ id ∈ dn, left (inK id) = false ∧ lo ≤ tb2 id ∧ tb2 id < w.heap.size ∧ 1 ≤ id ∧ id ≤ (Q.tapes.length : Int) ∧ ∃ t, Q.tapes[(id - 1).toNat]? = some t ∧ Blk w (tb2 id) 174 t.cs
  inj : ∀ a ∈ dn, ∀ b ∈ dn, tb2 a = tb2 b → a = b
  co : ∀ id, (inK id, ptrV (tb id)) ∈ l → left (inK id) = true ∨ id ∈ dn
theorem inK_same (a : Int) : (inK a).sameKey (inK a) = true := by simp [Lit.sameKey]
theorem inK_eq {a b : Int} (h : (inK a).sameKey (inK b) = true) : a = b := by
  have := WideAt.sameKey_eq h
  injection this
theorem CpR.start (w : World) (Q : DkV) (lo : Nat) (l : List (Lit × Value)) (tb : Int → Nat) : CpR w Q lo (hasL l) l [] tb tb [] :=
  ⟨TpL.nil tb, fun id h => (by cases h), fun a h => (by cases h), fun id h => .inl (List.any_eq_true.2 ⟨_, h, inK_same id⟩)⟩
theorem TpL.turn {l : List (Lit × Value)} {dn : List Int} {tb tb2 : Int → Nat} (h : TpL l dn tb) (he : ∀ id ∈ dn, tb2 id = tb id) : TpL l dn tb2 :=
  ⟨fun p hp => by obtain ⟨id, hid, e⟩ := h.el p hp; exact ⟨id, hid, by rw [e, he id hid]⟩, fun id hid => by rw [he id hid]; exact h.co id hid⟩
theorem CpR.step {w w' : World} {Q : DkV} {lo nb : Nat} {left : Lit → Bool} {l l2 : List (Lit × Value)} {tb tb2 : Int → Nat} {dn : List Int} {id : Int} {t : TpV} (h : CpR w Q lo left l l2 tb tb2 dn) (hx : left (inK id) = true)
    (hk : ∀ k, lo ≤ k → k < w.heap.size → w'.heap[k]? = w.heap[k]?) (hs : w.heap.size ≤ w'.heap.size) (h1 : w.heap.size ≤ nb) (h2 : lo ≤ nb) (h3 : nb < w'.heap.size) (i1 : 1 ≤ id) (i2 : id ≤ (Q.tapes.length : Int)) (ht : Q.tapes[(id - 1).toNat]? = some t) (hB : Blk w' nb 174 t.cs) :
    CpR w' Q lo (fun z => left z && !z.sameKey (inK id)) l (stoL (inK id) (ptrV nb) l2) tb (fun k => if k = id then nb else tb2 k) (dn ++ [id]) := by
  have hni : id ∉ dn := fun hm => by have := (h.ok id hm).1; rw [hx] at this; cases this
  have hne : ∀ a ∈ dn, ¬ a = id := fun a ha e => hni (e ▸ ha)
  refine ⟨?_, fun a ha => ?_, fun a ha b hb e => ?_, fun a ha => ?_⟩
  · have := (h.tp.turn (tb2 := fun k => if k = id then nb else tb2 k) (fun a ha => if_neg (hne a ha))).put id
    simp only [if_true] at this
    exact this
  · rcases List.mem_append.1 ha with ha | ha
    · obtain ⟨a1, a2, a3, a4, a5, u, a6, a7⟩ := h.ok a ha
      simp only [if_neg (hne a ha)]
      exact ⟨by rw [a1]; rfl, a2, by omega, a4, a5, u, a6, (hk _ a2 a3).trans a7⟩
    · obtain rfl := List.mem_singleton.1 ha
      simp only [if_true]
      exact ⟨by rw [inK_same]; simp, h2, h3, i1, i2, t, ht, hB⟩
  · rcases List.mem_append.1 ha with xa | xa
    · rw [if_neg (hne a xa)] at e
      rcases List.mem_append.1 hb with xb | xb
      · rw [if_neg (hne b xb)] at e
        exact h.inj a xa b xb e
      · have eb := List.mem_singleton.1 xb
        rw [if_pos eb] at e
        have := (h.ok a xa).2.2.1
        omega
    · have ea := List.mem_singleton.1 xa
      rw [if_pos ea] at e
      rcases List.mem_append.1 hb with xb | xb
      · rw [if_neg (hne b xb)] at e
        have := (h.ok b xb).2.2.1
        omega
      · exact ea.trans (List.mem_singleton.1 xb).symm
  · rcases h.co a ha with hl | hd
    · by_cases e : a = id
      · exact .inr (by simp [e])
      · refine .inl ?_
        rw [hl]
        cases hq : (inK a).sameKey (inK id)
        · rfl
        · exact absurd (inK_eq hq) e
    · exact .inr (by simp [hd])
theorem MapR.same {P : Program} {k : TypeId} {w w' : World} {b r : Nat} {l : List (Lit × Value)} {left : Lit → Bool} {cnt : Nat} (h : MapR w P k b r l left cnt) (hb : w'.heap[b]? = w.heap[b]?) (hr : w'.heap[r]? = w.heap[r]?) : MapR w' P k b r l left cnt := by
  obtain ⟨es, clock, since, seen, c0, h1, h2, h3, h4, h5, h6⟩ := h
  exact ⟨es, clock, since, seen, c0, hb.trans h1, h2, h3, h4, hr.trans h5, h6⟩
end Go.Proofs.YtomfcgeibbicoaaGreat
