/- The document's disk: Read, Names, Files, Fault. -/
import Derived.Test.YtomfcgeibbicoaaGreatRfJ
import Derived.Test.YtomfcgeibbicoaaGreatDkQ
namespace Go.Proofs.YtomfcgeibbicoaaGreat
open Go.RowKit
set_option maxHeartbeats 2000000 in
set_option maxRecDepth 100000 in
theorem rnames_calls {F : Nat → Prop} {w : World} {Q : DkV} {tv sl : Value} {M : Nat}  (h : RdV F w Q tv sl) (ho : Q.Ok M) (hM : M ≤ 800000) :
    Calls Tryz.prog 69 #[.agg (Q.rcs tv sl).toArray] w fun e w' => ∃ A c, e = .returned (.slice A Q.fo.now.length c) ∧ Ex w w' := by
  obtain ⟨tA, tc, sB, sn, sd, rfl, rfl⟩ := h.shape
  obtain ⟨tm, htm⟩ : ∃ m, m = Q.tapes.length := ⟨_, rfl⟩
  rw [← htm] at h ⊢
  have hX := ex_alloc (Ex.refl w) (.cells (Q.rcs (.slice tA tm tc) (.slice sB sn sd)).toArray 40)
  have hB := Blk.new w (Q.rcs (.slice tA tm tc) (.slice sB sn sd)) 40
  have HR0 := Lib.hid (h.ex hX)
  have HB0 := Lib.hid hB
  have HX0 := Lib.hid hX
  have HO := Lib.hid ho
  have htl : tm ≤ 800000 := by have := ho.tl; omega
  have HTM := Lib.hid htm
  have hq : Q.fo.ch.length ≤ 1000000 := by have := ho.fo.kl; omega
  have hnl : Q.fo.now.length ≤ 1000000 := by have := ho.fo.now_len; omega
  have HI := Lib.hid (show (Tryz.prog.info? 9).map (fun i => (i.zero, i.size, i.bytes)) = some (some (.string ⟨#[]⟩), 1, 16) from by kernel_rfl)
  clear h ho hX hB htm
  unfold DkV.rcs
  go_enter Tryz.func69, Tryz.ntmps69
  go_wp2_with fail
  refine (rfnow_calls HR0.out.fo hq).mono ?_
  rintro e w1 ⟨u1, rfl, ⟨A1, c1, rfl, hr1⟩, hb1⟩
  have HX1 := Lib.hid (HX0.out.trans hb1)
  have HM1 := Lib.hid hr1.row
  clear hb1 hr1
  obtain ⟨L, hL⟩ : ∃ L, Q.fo.now = L := ⟨_, rfl⟩
  rw [hL] at HM1 hnl ⊢
  have HL := Lib.hid hL
  clear hL
  go_wp2_with fail
  go_loopw [3, 5] (fun v i wr => ∃ (k : Nat) (cs : List Value), k ≤ L.length ∧ i = .int .i64 (k : Int) ∧ wr.ownsRow w1.heap.size 9 1 v k cs ∧ Ex w1 wr) (fun _ i _ => L.length - (intOf i).toNat)
  case atStart => exact ⟨0, [], Nat.zero_le _, rfl, World.ownsRow_nil _ _ _ _, Ex.refl _⟩
  case round =>
    obtain ⟨k, cs, hk, rfl, ho, hb⟩ := hrel
    have hzb := hb.size
    by_cases hlt : k < L.length
    · obtain ⟨b, o, rfl, f1, f2⟩ := (HM1.out.ex hb).mk hlt
      have h1 : ∀ u ∈ [Value.string L[k].nm], u.oneCell' = true := fun u hu => by rw [List.mem_singleton.1 hu]; rfl
      generalize L[k] = m at *
      go_wp2_with (at_builtin; refine app_own 23 9 (.string ⟨#[]⟩) 1 16 Tryz.underlying23 HI.out rfl (by decide) (by decide) rfl (.tmp 15) (.tmp 21) rfl w1.heap.size _ k cs rfl (ho.alloc _) (some ⟨wr.heap.size, 0, none⟩) 1 1 [.string m.nm] rfl (row_lit1 wr [.string m.nm] _) h1 (by omega) (Nat.le_trans hzb (ex_alloc (Ex.refl wr) _).size) (ex_alloc hb _) ?_; intro v' w' ho' hb')
      exact ⟨⟨k + 1, _, by omega, by go_num, ho', hb'⟩, by simp [intOf]; omega⟩
    · have hkl : k = L.length := by omega
      subst hkl
      obtain ⟨A2, c2, rfl, _⟩ := own_shape ho
      go_wp2_with fail
      go_ret
      exact ⟨A2, c2, by rw [HL.out]; rfl, HX1.out.trans hb⟩
/-- All files that are seen. -/
def DkV.files (Q : DkV) : List FlV := Q.fo.now.map fun m => ⟨m.nm, (Q.tapeAt m.pl).nw⟩
section
variable {P : Program} {w w0 : World} {o : Oper} {a : Act} {K : Act → World → Prop} {Q : Exit → Act → World → Prop}
/-- append at an own row of any elements, in a region that draws its order. -/
theorem wp_app_own (T E : TypeId) (z : Value) (k bytes : Nat) (hT : P.underlying T = some (.slice E)) (hE : (P.info? E).map (fun i => (i.zero, i.size, i.bytes)) = some (some z, k, bytes)) (hz : z.cells.size = k) (hk : 0 < k) (hby : bytes ≤ 1000)
    (s x : Operand) (ho : o.op = .call { callee := .builtin .append, args := #[s, x], argTypes := #[T, T] }) (base : Nat) (v : Value) (n : Nat) (cs : List Value) (hs : a.eval s = v) (hown : w.ownsRow base E k v n cs)
    (A : Option Addr) (m c : Nat) (cs' : List Value) (hx : a.eval x = .slice A m c) (hr : Row w k A m cs') (h1 : ∀ u ∈ cs', u.oneCell' = true) (hsm : n + m ≤ 100000000) (hb : Below base w0 w) (hbase : base ≤ w0.heap.size)
    (h : ∀ v' w', w'.ownsRow base E k v' (n + m) (cs ++ cs') → Below base w0 w' → K (a.put o.dst v') w') : o.wp P a w K Q := by
  obtain ⟨i0, hi0, hz0, hz1, hz2⟩ := info_parts hE
  refine wp_append_row w s x _ ho base _ i0 _ k bytes hT hi0 hz0 hz1 hz2 hz hk v n cs hs hown A m c cs' hx hr h1 (by unfold maxLen; omega) (Nat.le_trans (Nat.mul_le_mul hsm hby) (by decide)) (Nat.le_trans hbase hb.size) ?_
  intro v' w' k1 k2 _
  exact h v' w' k1 (below_append hb hown (Nat.le_refl _) (Nat.le_trans hbase hb.size) k2)
theorem step_app_own {ops : Array Oper} {E0 : Prop} (hgd : o.guard = none) (T E : TypeId) (z : Value) (k bytes : Nat) (hT : P.underlying T = some (.slice E)) (hE : (P.info? E).map (fun i => (i.zero, i.size, i.bytes)) = some (some z, k, bytes)) (hz : z.cells.size = k) (hk : 0 < k) (hby : bytes ≤ 1000)
    (s x : Operand) (ho : o.op = .call { callee := .builtin .append, args := #[s, x], argTypes := #[T, T] }) (base : Nat) (v : Value) (n : Nat) (cs : List Value) (hs : a.eval s = v) (hown : w.ownsRow base E k v n cs)
    (A : Option Addr) (m c : Nat) (cs' : List Value) (hx : a.eval x = .slice A m c) (hr : Row w k A m cs') (h1 : ∀ u ∈ cs', u.oneCell' = true) (hsm : n + m ≤ 100000000) (hb : Below base w0 w) (hbase : base ≤ w0.heap.size)
    (h : ∀ v' w', w'.ownsRow base E k v' (n + m) (cs ++ cs') → Below base w0 w' → K (a.put o.dst v') w') : if Region.wanted o (yielded ops a.tmps) = true then Oper.wp P o a w K Q else E0 := by
  rw [if_pos (by simp [Region.wanted, hgd])]
  exact wp_app_own T E z k bytes hT hE hz hk hby s x ho base v n cs hs hown A m c cs' hx hr h1 hsm hb hbase h
end
theorem info_fl11 : (Tryz.prog.info? 80).map (fun i => (i.zero, i.size, i.bytes)) = some (some (.agg #[.string ⟨#[]⟩, .string ⟨#[]⟩]), 2, 32) := by kernel_rfl
theorem Row.mk' {w : World} {A : Option Addr} {n : Nat} {l : List Mk} (h : Row w 2 A n (Mk.cs l)) {i : Nat} {m : Mk} (hi : l[i]? = some m) :
    ∃ b o, A = some ⟨b, o, none⟩ ∧ w.cell? ⟨b, o + i * 2, none⟩ = some (.string m.nm) ∧ w.cell? ⟨b, o + i * 2 + 1, none⟩ = some (.int .i64 m.pl) := by
  obtain ⟨hl, e⟩ := List.getElem?_eq_some_iff.1 hi
  rw [← e]
  exact h.mk hl
theorem Idz.now {Q : DkV} (h : Idz Q) {m : Mk} (hm : m ∈ Q.fo.now) : ∃ i, i < Q.tapes.length ∧ m.pl = (i : Int) + 1 := by
  have hL : Q.fo.now ∈ Q.fo.lists := List.mem_of_getElem? (lists_last Q.fo)
  exact h.at (by unfold FoV.ids; rw [setI_mem, List.mem_flatMap]; exact ⟨_, hL, List.mem_map.2 ⟨m, hm, rfl⟩⟩)
theorem fls_one (l : List FlV) : ∀ u ∈ l.flatMap FlV.cs, u.oneCell' = true := by
  intro u hu
  obtain ⟨t, _, ht⟩ := List.mem_flatMap.1 hu
  simp only [FlV.cs, List.mem_cons, List.not_mem_nil, or_false] at ht
  rcases ht with rfl | rfl <;> rfl
theorem row_fl {w : World} {T : TypeId} {f : FlV} : Row (w.alloc (.cells #[.string f.nm, .string f.dt] T)) 2 (some ⟨w.heap.size, 0, none⟩) 1 ([f].flatMap FlV.cs) := (Blk.new w f.cs T).row (k := 2) (n := 1) (Nat.le_refl 2)
set_option maxHeartbeats 2000000 in
set_option maxRecDepth 100000 in
theorem rfiles_calls {F : Nat → Prop} {w : World} {Q : DkV} {tv sl : Value} {M : Nat}  (h : RdV F w Q tv sl) (ho : Q.Ok M) (hM : M ≤ 800000) (hi : Idz Q) :
    Calls Tryz.prog 18 #[.agg (Q.rcs tv sl).toArray] w fun e w' => ∃ v, e = .returned v ∧ w'.ownsRow w.heap.size 80 2 v Q.files.length (Q.files.flatMap FlV.cs) ∧ Ex w w' := by
  obtain ⟨tA, tc, sB, sn, sd, rfl, rfl⟩ := h.shape
  obtain ⟨tm, htm⟩ : ∃ m, m = Q.tapes.length := ⟨_, rfl⟩
  rw [← htm] at h ⊢
  have hX := ex_alloc (Ex.refl w) (.cells (Q.rcs (.slice tA tm tc) (.slice sB sn sd)).toArray 40)
  have hB := Blk.new w (Q.rcs (.slice tA tm tc) (.slice sB sn sd)) 40
  have HR0 := Lib.hid (h.ex hX)
  have HB0 := Lib.hid hB
  have HX0 := Lib.hid hX
  have HO := Lib.hid ho
  have htl : tm ≤ 800000 := by have := ho.tl; omega
  have HTM := Lib.hid htm
  have hq : Q.fo.ch.length ≤ 1000000 := by have := ho.fo.kl; omega
  have hnl : Q.fo.now.length ≤ 1000000 := by have := ho.fo.now_len; omega
  have hz0 := HX0.out.size
  have HI := Lib.hid hi
  clear h ho hX hB htm hi
  unfold DkV.rcs
  go_enter Tryz.func18, Tryz.ntmps18
  go_wp2_with fail
  refine (rfnow_calls HR0.out.fo hq).mono ?_
  rintro e w1 ⟨u1, rfl, ⟨A1, c1, rfl, hr1⟩, hb1⟩
  have HB1 := Lib.hid (HB0.out.ex hb1)
  have HX1 := Lib.hid (HX0.out.trans hb1)
  have HR1 := Lib.hid (HR0.out.ex hb1)
  have HM1 := Lib.hid hr1.row
  have hz1 := hb1.size
  clear hb1 hr1
  obtain ⟨L, hL⟩ : ∃ L, Q.fo.now = L := ⟨_, rfl⟩
  have HFS := Lib.hid (show Q.files = L.map fun m => (⟨m.nm, (Q.tapeAt m.pl).nw⟩ : FlV) from by unfold DkV.files; rw [hL])
  have HMEM := Lib.hid (fun (m : Mk) (hm : m ∈ L) => HI.out.now (by rw [hL]; exact hm))
  rw [hL] at HM1 hnl ⊢
  clear hL
  obtain ⟨fl, hfl⟩ : ∃ fl : Mk → FlV, fl = fun m => ⟨m.nm, (Q.tapeAt m.pl).nw⟩ := ⟨_, rfl⟩
  have HFL := Lib.hid hfl
  rw [← hfl] at HFS
  clear hfl
  go_wp2_with fail
  go_loopw [3, 5] (fun v i wr => ∃ k : Nat, k ≤ L.length ∧ i = .int .i64 (k : Int) ∧ wr.ownsRow w1.heap.size 80 2 v k (((L.take k).map fl).flatMap FlV.cs) ∧ Ex w1 wr) (fun _ i _ => L.length - (intOf i).toNat)
  case atStart => exact ⟨0, Nat.zero_le _, rfl, World.ownsRow_nil _ _ _ _, Ex.refl _⟩
  case round =>
    obtain ⟨k, hk, rfl, hor, hbr⟩ := hrel
    have HO2 := Lib.hid hor
    have HB2 := Lib.hid hbr
    have hzb := hbr.size
    clear hor hbr
    by_cases hlt : k < L.length
    · obtain ⟨m, hm⟩ : ∃ m, L[k]? = some m := ⟨_, List.getElem?_eq_getElem hlt⟩
      obtain ⟨b, o, rfl, f1o, f2o⟩ := HM1.out.mk' hm
      obtain ⟨j, hj, ej⟩ := HMEM.out m (List.mem_of_getElem? hm)
      obtain ⟨t, ht⟩ : ∃ t, Q.tapes[j]? = some t := ⟨_, List.getElem?_eq_getElem hj⟩
      have hjm : j < tm := by rw [HTM.out]; exact hj
      obtain ⟨b2, o2, rfl⟩ := HR1.out.tp.addr hjm
      obtain ⟨_, cno⟩ := HR1.out.tp.at ht
      have HFK := Lib.hid (show fl m = ⟨m.nm, t.nw⟩ from by rw [HFL.out]; show (⟨m.nm, (Q.tapeAt m.pl).nw⟩ : FlV) = _; rw [ej, tapeAt_some ht])
      have HTK := Lib.hid (show L.take (k + 1) = L.take k ++ [m] from by rw [List.take_add_one, hm]; rfl)
      have hjI : (j : Int) < (tm : Int) := by omega
      have hj1 : (j : Int) + 1 - 1 = (j : Int) := by omega
      rw [ej] at f2o
      have x1o : w1.cell? ⟨w.heap.size, 1, none⟩ = some (.slice (some ⟨b2, o2, none⟩) tm tc) := HB1.out.cell 1
      have f1 := HB2.out.cell f1o
      have f2 := HB2.out.cell f2o
      have cn := HB2.out.cell cno
      have x1 : wr.cell? ⟨w.heap.size, 1, none⟩ = some (.slice (some ⟨b2, o2, none⟩) tm tc) := (HB1.out.ex HB2.out).cell 1
      have hkI : (k : Int) < (L.length : Int) := by omega
      have hj0 : (0 : Int) ≤ (j : Int) := by omega
      have hk0 : (0 : Int) ≤ (k : Int) := by omega
      have hjw : IntKind.i64.wrap (j : Int) = (j : Int) := IntWalk.i64_in _ (by omega)
      have hjw2 : IntKind.i64.wrap ((j : Int) + 1 - 1) = (j : Int) := by rw [hj1]; exact hjw
      have hjn : ((j : Int)).toNat = j := by omega
      have hkn : ((k : Int)).toNat = k := by omega
      have hkm : k + 1 ≤ 100000000 := by omega
      have hd0 : 0 < 2 := by decide
      have hd1 : 32 ≤ 1000 := by decide
      clear ht hj ej hm
      obtain ⟨mn, mp⟩ := m
      simp only at f1 f2 f1o f2o
      go_wp2_with fail
      go_region_held3 (fun w' => w'.cell? ⟨b, o + k * 2, none⟩ = some (.string mn) ∧ w'.cell? ⟨b, o + k * 2 + 1, none⟩ = some (.int .i64 ((j : Int) + 1)) ∧ w'.cell? ⟨w.heap.size, 1, none⟩ = some (.slice (some ⟨b2, o2, none⟩) tm tc) ∧ w'.cell? ⟨b2, o2 + j * 2 + 1, none⟩ = some (.string t.nw)) (go_keep) (first
        | (have hA := own_ex (w' := (wr.drew.alloc (.cells #[.string mn, .string t.nw] 80))) HO2.out (ex_alloc (Ex.refl wr).drew _); have hR := row_fl (w := wr.drew) (T := 80) (f := ⟨mn, t.nw⟩); have hBB := ex_alloc HB2.out.drew (.cells #[.string mn, .string t.nw] 80); rw [if_pos (by rfl)]; refine wp_app_own (w := (wr.drew.alloc (.cells #[.string mn, .string t.nw] 80))) (w0 := w1) 22 80 (.agg #[.string ⟨#[]⟩, .string ⟨#[]⟩]) 2 32 ?g1 ?g2 ?g3 ?g4 ?g5 (.tmp 15) (.tmp 33) ?g6 w1.heap.size u3 k (((L.take k).map fl).flatMap FlV.cs) ?hs ?hown (some ⟨wr.heap.size, 0, none⟩) 1 1 ([(⟨mn, t.nw⟩ : FlV)].flatMap FlV.cs) ?hx ?hr ?h1 ?hsm ?hb ?hbase ?K; (case g1 => exact Tryz.underlying22); (case g2 => exact info_fl11); (case g3 => exact rfl); (case g4 => exact hd0); (case g5 => exact hd1); (case g6 => exact rfl); (case hs => exact rfl); (case hx => exact rfl); (case hown => exact hA); (case hr => exact hR); (case h1 => exact fls_one _); (case hsm => exact hkm); (case hb => exact hBB); (case hbase => exact Nat.le_refl _); intro v' w' ho' hb'; have f1' := Ex.cell hb' f1o; have f2' := Ex.cell hb' f2o; have cn' := Ex.cell hb' cno; have x1' := Ex.cell hb' x1o))
      go_wp2_with fail
      exact ⟨⟨k + 1, by omega, by go_num, by rw [HTK.out, List.map_append, List.flatMap_append]; show World.ownsRow _ _ _ _ _ _ (_ ++ [fl ⟨mn, mp⟩].flatMap FlV.cs); rw [HFK.out]; exact ho', hb'⟩, by simp [intOf]; omega⟩
    · have hkl : k = L.length := by omega
      subst hkl
      have HTK := Lib.hid (List.take_length (l := L))
      go_wp2_with fail
      go_ret
      refine ⟨_, rfl, ?_, HX1.out.trans HB2.out⟩
      have ho3 := own_more HO2.out (show w.heap.size ≤ w1.heap.size by omega)
      rw [HTK.out] at ho3
      rw [HFS.out, List.length_map]
      exact ho3
end Go.Proofs.YtomfcgeibbicoaaGreat
