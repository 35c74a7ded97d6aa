/- A disk that was loaded: a crash leaves it as it is; lists of files. -/
import Derived.Test.YtcffkmlnbnjibaaGreatPxA
import Derived.Test.YtcffkmlnbnjibaaGreatDkF
namespace Go.Proofs.YtcffkmlnbnjibaaGreat
open Go.RowKit Go.Maps
theorem mix_eq_to (a ch : ByteArray) : ∀ k, k ≤ cntS a.size → (mixTo a a ch k).1 = a.extract 0 (32 * k)
  | 0, _ => by rw [show 32 * 0 = 0 from rfl, ByteArray.extract_same]; rfl
  | k + 1, hk => by
    have ih := mix_eq_to a ch k (by omega)
    have hu : unS a a k = false := by unfold unS; simp
    have hz : (a.extract 0 (32 * k)).size = 32 * k := by rw [ByteArray.size_extract]; unfold cntS at hk; omega
    have h2 : (secS a k).size ≠ 0 := by unfold secS; rw [ByteArray.size_extract]; unfold cntS at hk; omega
    rw [mixTo_succ]
    unfold mixStep
    rw [hu, if_neg (by simp), ih]
    show layS _ k _ = _
    unfold layS
    rw [if_neg h2, hz, Nat.sub_self, show zeroS 0 = ByteArray.empty from rfl, ByteArray.append_empty]
    exact ByteArray.extract_append_extract.trans (by rw [Nat.min_eq_left (by omega), Nat.max_eq_right (by omega)]; rfl)
theorem mix_eq (a ch : ByteArray) : (mixS a a ch).1 = a := by
  unfold mixS
  rw [Nat.max_self, mix_eq_to a ch _ (Nat.le_refl _)]
  apply ba_data
  rw [ByteArray.data_extract, Array.extract_eq_self_of_le (by show a.size ≤ _; unfold cntS; omega)]
/-- All lasts. -/
structure Lasts (Q : DkV) : Prop where
  tp : ∀ t ∈ Q.tapes, t.kp = t.nw
  ch : Q.fo.ch = []
  fu : Q.fu = FuV.calm
theorem Lasts.at {Q : DkV} (h : Lasts Q) (id : Int) : (Q.tapeAt id).kp = (Q.tapeAt id).nw := by
  unfold DkV.tapeAt
  rw [List.getD_eq_getElem?_getD]
  cases hq : Q.tapes[(id - 1).toNat]? with
  | none => rfl
  | some t => exact h.tp t (List.mem_of_getElem? hq)
theorem setT_same {Q : DkV} {id : Int} : Q.setT id (Q.tapeAt id) = Q := by
  unfold DkV.setT DkV.tapeAt
  rw [List.getD_eq_getElem?_getD]
  cases hq : Q.tapes[(id - 1).toNat]? with
  | none => rw [List.set_eq_of_length_le (List.getElem?_eq_none_iff.1 hq)]
  | some t =>
    obtain ⟨h1, h2⟩ := List.getElem?_eq_some_iff.1 hq
    show { Q with tapes := Q.tapes.set _ t } = Q
    rw [← h2, List.set_getElem_self]
theorem Lasts.crashL {Q : DkV} (h : Lasts Q) (ch : ByteArray) : ∀ (ids : List Int) (k : Nat), (Go.Proofs.YtcffkmlnbnjibaaGreat.crashL ch ids (Q, k)).1 = Q
  | [], _ => rfl
  | id :: r, k => by
    unfold Go.Proofs.YtcffkmlnbnjibaaGreat.crashL
    have e : (⟨(mixS (Q.tapeAt id).kp (Q.tapeAt id).nw (restS ch k)).1, (mixS (Q.tapeAt id).kp (Q.tapeAt id).nw (restS ch k)).1⟩ : TpV) = Q.tapeAt id := by
      have h1 := h.at id
      have h2 : (mixS (Q.tapeAt id).kp (Q.tapeAt id).nw (restS ch k)).1 = (Q.tapeAt id).nw := by rw [h1, mix_eq]
      rw [h2]
      cases hq : Q.tapeAt id with
      | mk a b => rw [hq] at h1; simp only at h1; rw [h1]
    show (Go.Proofs.YtcffkmlnbnjibaaGreat.crashL ch r (Q.setT id _, _)).1 = Q
    rw [e, setT_same]
    exact Lasts.crashL h ch r _
theorem Lasts.crash {Q : DkV} (h : Lasts Q) (ch : ByteArray) : (Q.crash ch).1 = Q := by
  have h1 : Q.crash1 ch = Q := by
    obtain ⟨sec, tapes, ⟨kept, chs⟩, fu, calls⟩ := Q
    have h2 : chs = [] := h.ch
    have h3 : fu = FuV.calm := h.fu
    subst h2; subst h3
    unfold DkV.crash1 FoV.crash FoV.settle
    simp only [List.take_nil, List.foldl_nil]
  unfold DkV.crash
  rw [h1]
  exact h.crashL ch _ _
theorem loadL_lasts : ∀ {l : List FlV} {Q : DkV}, (∀ t ∈ Q.tapes, t.kp = t.nw) → Q.fu = FuV.calm → (∀ t ∈ (Q.loadL l).1.tapes, t.kp = t.nw) ∧ (Q.loadL l).1.fu = FuV.calm
  | [], _, h1, h2 => ⟨h1, h2⟩
  | f :: r, Q, h1, h2 => by
    unfold DkV.loadL
    split
    · exact ⟨h1, h2⟩
    · split
      · exact ⟨h1, h2⟩
      · refine loadL_lasts (l := r) (fun t ht => ?_) h2
        rcases List.mem_append.1 ht with ht | ht
        · exact h1 t ht
        · rw [List.mem_singleton.1 ht]
theorem load_lasts {n : Int} {l : List FlV} {Q : DkV} {c : Int} (h : DkV.load n l = (some Q, c)) : Lasts Q := by
  unfold DkV.load at h
  split at h
  · cases h
  · split at h
    · cases h
    · split at h
      · cases h
      · split at h <;> cases h
        have h0 := loadL_lasts (l := l) (Q := DkV.fresh n) (fun t ht => (by cases ht)) rfl
        exact ⟨h0.1, rfl, h0.2⟩
theorem load_none {n : Int} {l : List FlV} {c : Int} (h : DkV.load n l = (none, c)) : c ≠ 0 := by
  unfold DkV.load at h
  split at h
  · cases h; decide
  · split at h
    · cases h; decide
    · split at h
      · rename_i hq
        injection h with _ h
        rw [← h]
        exact hq
      · split at h <;> cases h
        decide
set_option maxHeartbeats 2000000 in
set_option maxRecDepth 100000 in
theorem files11_calls {A B : Option Addr} {c d : Nat} {l : List FlV} {w : World} (hr : Row w 2 A l.length (l.flatMap FlV.cs)) (hs : Row w 2 B l.length (l.flatMap FlV.cs)) (hlm0 : l.length ≤ 1000000000) :
    Calls Tryz.prog 81 #[.slice A l.length c, .slice B l.length d] w fun e w' => e = .returned (.bool true) ∧ Ex w w' := by
  have HR := Lib.hid hr
  have HS := Lib.hid hs
  clear hr hs
  go_enter Tryz.func81, Tryz.ntmps81
  go_wp2_with fail
  go_loopw [5] (fun v wr => Ex w wr ∧ ∃ k : Nat, k ≤ l.length ∧ v = .int .i64 (k : Int)) (fun v _ => l.length - (intOf v).toNat)
  case atStart => exact ⟨Ex.refl w, 0, Nat.zero_le _, rfl⟩
  case round =>
    obtain ⟨hbr, k, hk, rfl⟩ := hrel
    have HBr := Lib.hid hbr
    by_cases hlt : k < l.length
    · obtain ⟨fb, fo, rfl, c1, c2⟩ := HR.out.fl hlt
      obtain ⟨gb, go, rfl, c3, c4⟩ := HS.out.fl hlt
      have x1 := hbr.cell c1
      have x2 := hbr.cell c2
      have x3 := hbr.cell c3
      have x4 := hbr.cell c4
      have hkI : (k : Int) < (l.length : Int) := by omega
      have hk0 : (0 : Int) ≤ (k : Int) := by omega
      have hkn : ((k : Int)).toNat = k := by omega
      have hlm : l.length ≤ 1000000000 := hlm0
      have hkw : IntKind.i64.wrap ((k : Int) + 1) = (k : Int) + 1 := IntWalk.i64_in _ (by omega)
      clear c1 c2 c3 c4 hbr
      generalize l[k] = f at *
      obtain ⟨nm, dt⟩ := f
      simp only at x1 x2 x3 x4
      go_wp2_with fail
      go_region_held3 (fun w' => w'.cell? ⟨fb, fo + k * 2, none⟩ = some (.string nm) ∧ w'.cell? ⟨fb, fo + k * 2 + 1, none⟩ = some (.string dt) ∧ w'.cell? ⟨gb, go + k * 2, none⟩ = some (.string nm) ∧ w'.cell? ⟨gb, go + k * 2 + 1, none⟩ = some (.string dt)) (go_keep) (fail)
      all_goals go_wp2_with fail
      all_goals exact ⟨⟨HBr.out.drew, k + 1, by omega, by go_num⟩, by simp [intOf]; omega⟩
    · have hkl : k = l.length := by omega
      subst hkl
      go_wp2_with fail
      go_ret
      exact ⟨rfl, HBr.out⟩
end Go.Proofs.YtcffkmlnbnjibaaGreat
namespace Go.Proofs.YtcffkmlnbnjibaaGreat
open Go.RowKit Go.Maps
set_option maxHeartbeats 2000000 in
set_option maxRecDepth 100000 in
theorem stands_calls {w : World} {g : Nat} {F D : Nat → Prop} {Q : DkV} {tv sl : Value} {M : Nat} (hP : DkP w g F Q) (hR : RdV D w Q tv sl) (ho : Q.Ok M) (hM : M ≤ 800000) (hD : ∀ k, D k → k < w.heap.size) :
    Calls Tryz.prog 28 #[ptrV g, .agg (Q.rcs tv sl).toArray] w fun e w' => e = .returned (.bool true) ∧ Ex w w' := by
  obtain ⟨tA, tc, sB, sn, sd, rfl, rfl⟩ := hR.shape
  have hX := ex_alloc (Ex.refl w) (.cells (Q.rcs (.slice tA Q.tapes.length tc) (.slice sB sn sd)).toArray 59)
  have hB := Blk.new w (Q.rcs (.slice tA Q.tapes.length tc) (.slice sB sn sd)) 59
  have HP0 := Lib.hid (hP.ex hX)
  have HR0 := Lib.hid (hR.ex hX)
  have HB0 := Lib.hid hB
  have HX0 := Lib.hid hX
  have HD0 := Lib.hid (fun k hk => Nat.lt_of_lt_of_le (hD k hk) hX.size)
  have hidz := hP.idz
  have htl6 : Q.tapes.length ≤ 1000000 := by have := ho.tl; omega
  have hfl6 : Q.files.length ≤ 1000000000 := by
    have : Q.files.length = Q.fo.now.length := by unfold DkV.files; rw [List.length_map]
    have := ho.fo.now_len; omega
  have HNM := Lib.hid (show Q.names.length = Q.fo.now.length from by unfold DkV.names; rw [List.length_map])
  have HCL := Lib.hid (fun (W : World) (h : DkP W g F Q) => dlist_calls h ho hM)
  have HCF := Lib.hid (fun (W : World) (h : DkP W g F Q) => dfiles_calls h ho hM)
  have HCE := Lib.hid (fun (W : World) (h : DkP W g F Q) => dfree_calls h ho hM)
  have HCN := Lib.hid (fun (W : World) (h : RdV D W Q (.slice tA Q.tapes.length tc) (.slice sB sn sd)) => rnames_calls h ho hM)
  have HCR := Lib.hid (fun (W : World) (hR : RdV D W Q (.slice tA Q.tapes.length tc) (.slice sB sn sd)) (hD : ∀ k, D k → k < W.heap.size) => rfree_calls hR ho.fo (by omega) hidz htl6 (by have := ho.s1; omega) (by have := ho.s2; omega) (fun t ht => by have := ho.tz t ht; omega) hD)
  have HCD := Lib.hid (fun (W : World) (hR : RdV D W Q (.slice tA Q.tapes.length tc) (.slice sB sn sd)) => rfiles_calls hR ho hM hidz)
  clear hP hR ho hX hB hD hidz
  unfold DkV.rcs at HCN HCR HCD HB0 HX0 HP0 HR0 HD0 ⊢
  generalize Q.tapes.length = tm at *
  generalize Q.fo.now.length = nl at *
  obtain ⟨W, hW⟩ : ∃ W, W = w.alloc (.cells [Value.int .i64 Q.sec, .slice tA tm tc, .slice sB sn sd, .int .i64 Q.fu.p, .int .i64 Q.fu.s, .int .i64 Q.fu.d, .bool Q.fu.off, .int .i64 (Q.calls : Int)].toArray 59) := ⟨_, rfl⟩
  rw [← hW] at HP0 HR0 HB0 HX0 HD0
  have HWE := Lib.hid hW
  clear hW
  by_cases hoff : Q.fu.off = true
  case pos =>
    have HOF := Lib.hid hoff
    have HL := Lib.hid (show ∀ W' w' e, ListP W' Q w' e → e = .returned (.tuple #[.slice none 0 0, .int .i64 14]) ∧ Ex W' w' from fun W' w' e h => by
      obtain ⟨⟨v, rfl, h1, _⟩, h2⟩ := h
      rw [h1 hoff, if_pos hoff]
      exact ⟨rfl, h2⟩)
    clear hoff
    rw [HOF.out] at HCN HCR HCD
    go_enter Tryz.func28, Tryz.ntmps28
    go_wp2_with fail
    rw [← HWE.out]
    refine (HCL.out _ HP0.out).mono ?_
    intro e w1 hl
    obtain ⟨rfl, hb1⟩ := HL.out _ _ _ hl
    have H1 := Lib.hid hb1
    obtain ⟨y0, y1, y2, y3, y4, y5, y6, y7⟩ := rd_cells (HB0.out.ex hb1)
    rw [HOF.out] at y6
    clear hl hb1
    go_wp2_with fail
    go_region_held3 (fun w' => w'.cell? ⟨w.heap.size, 0, none⟩ = some (.int .i64 Q.sec) ∧ w'.cell? ⟨w.heap.size, 1, none⟩ = some (.slice tA tm tc) ∧ w'.cell? ⟨w.heap.size, 2, none⟩ = some (.slice sB sn sd) ∧ w'.cell? ⟨w.heap.size, 3, none⟩ = some (.int .i64 Q.fu.p) ∧ w'.cell? ⟨w.heap.size, 4, none⟩ = some (.int .i64 Q.fu.s) ∧ w'.cell? ⟨w.heap.size, 5, none⟩ = some (.int .i64 Q.fu.d) ∧ w'.cell? ⟨w.heap.size, 6, none⟩ = some (.bool true) ∧ w'.cell? ⟨w.heap.size, 7, none⟩ = some (.int .i64 (Q.calls : Int))) (go_keep) (first
        | (go_at_call 19; ((with_reducible refine (HCF.out _ (HP0.out.ex (Ex.trans H1.out (Ex.refl w1).drew))).mono ?_); rintro e w11 ⟨v11, rfl, ho11, hb11⟩; obtain ⟨A11, c11, rfl, _⟩ := own_shape ho11; have H11 := Lib.hid (Ex.trans (Ex.trans H1.out (Ex.refl w1).drew) hb11); have HO11 := Lib.hid (Row.of_own ho11); clear ho11; obtain ⟨y0, y1, y2, y3, y4, y5, y6, y7⟩ := rd_cells (HB0.out.ex H11.out); rw [HOF.out] at y6; clear hb11))
        | (go_at_call 38; ((with_reducible refine (HCD.out _ (HR0.out.ex H11.out)).mono ?_); rintro e w12 ⟨v12, rfl, ho12, hb12⟩; obtain ⟨A12, c12, rfl, _⟩ := own_shape ho12; have H12 := Lib.hid (Ex.trans H11.out hb12); have HO12 := Lib.hid (Row.of_own ho12); have HP12 := Lib.hid (HO11.out.ex hb12); clear ho12; obtain ⟨y0, y1, y2, y3, y4, y5, y6, y7⟩ := rd_cells (HB0.out.ex H12.out); rw [HOF.out] at y6; clear hb12))
        | (go_at_call 81; ((with_reducible refine (files11_calls HP12.out HO12.out hfl6).mono ?_); rintro e w13 ⟨rfl, hb13⟩; have H13 := Lib.hid (Ex.trans H12.out hb13); obtain ⟨y0, y1, y2, y3, y4, y5, y6, y7⟩ := rd_cells (HB0.out.ex H13.out); rw [HOF.out] at y6; clear hb13))
        | (go_at_call 20; ((with_reducible refine (HCE.out _ (HP0.out.ex H13.out)).mono ?_); rintro e w14 ⟨rfl, hb14⟩; have H14 := Lib.hid (Ex.trans H13.out hb14); obtain ⟨y0, y1, y2, y3, y4, y5, y6, y7⟩ := rd_cells (HB0.out.ex H14.out); rw [HOF.out] at y6; clear hb14))
        | (go_at_call 39; ((with_reducible refine (HCR.out _ (HR0.out.ex H14.out) (fun k hk => Nat.lt_of_lt_of_le (HD0.out k hk) H14.out.size)).mono ?_); rintro e w15 ⟨rfl, hb15⟩; have H15 := Lib.hid (Ex.trans H14.out hb15); obtain ⟨y0, y1, y2, y3, y4, y5, y6, y7⟩ := rd_cells (HB0.out.ex H15.out); rw [HOF.out] at y6; clear hb15))
        | (go_at_call 23; ((with_reducible refine (dup_calls (HP0.out.ex H15.out)).mono ?_); rintro e w16 ⟨rfl, hb16⟩; have H16 := Lib.hid (Ex.trans H15.out hb16); rw [HOF.out]; obtain ⟨y0, y1, y2, y3, y4, y5, y6, y7⟩ := rd_cells (HB0.out.ex H16.out); rw [HOF.out] at y6; clear hb16))
        | (go_at_call 21; ((with_reducible refine (dcount_calls (HP0.out.ex H16.out)).mono ?_); rintro e w17 ⟨rfl, hb17⟩; have H17 := Lib.hid (Ex.trans H16.out hb17); obtain ⟨y0, y1, y2, y3, y4, y5, y6, y7⟩ := rd_cells (HB0.out.ex H17.out); rw [HOF.out] at y6; clear hb17)))
    go_wp2_with fail
    go_ret
    exact ⟨rfl, HX0.out.trans H17.out⟩
  case neg =>
    replace hoff := Bool.eq_false_iff.2 hoff
    have HOF := Lib.hid hoff
    have HL := Lib.hid (show ∀ W' w' e, ListP W' Q w' e → ∃ A c, e = .returned (.tuple #[.slice A nl c, .int .i64 0]) ∧ Ex W' w' from fun W' w' e h => by
      obtain ⟨⟨v, rfl, _, h1⟩, h2⟩ := h
      obtain ⟨A, c, rfl, _⟩ := own_shape (h1 hoff)
      rw [if_neg (by rw [hoff]; decide), HNM.out]
      exact ⟨A, c, rfl, h2⟩)
    clear hoff
    rw [HOF.out] at HCN HCR HCD
    go_enter Tryz.func28, Tryz.ntmps28
    go_wp2_with fail
    rw [← HWE.out]
    refine (HCL.out _ HP0.out).mono ?_
    intro e w1 hl
    obtain ⟨A1, c1, rfl, hb1⟩ := HL.out _ _ _ hl
    have H1 := Lib.hid hb1
    obtain ⟨y0, y1, y2, y3, y4, y5, y6, y7⟩ := rd_cells (HB0.out.ex hb1)
    rw [HOF.out] at y6
    clear hl hb1
    go_wp2_with fail
    refine (HCN.out _ (HR0.out.ex H1.out)).mono ?_
    rintro e w2 ⟨A2, c2, rfl, hb2⟩
    have H2 := Lib.hid (Ex.trans H1.out hb2)
    obtain ⟨y0, y1, y2, y3, y4, y5, y6, y7⟩ := rd_cells (HB0.out.ex H2.out)
    rw [HOF.out] at y6
    clear hb2
    go_wp2_with fail
    go_region_held3 (fun w' => w'.cell? ⟨w.heap.size, 0, none⟩ = some (.int .i64 Q.sec) ∧ w'.cell? ⟨w.heap.size, 1, none⟩ = some (.slice tA tm tc) ∧ w'.cell? ⟨w.heap.size, 2, none⟩ = some (.slice sB sn sd) ∧ w'.cell? ⟨w.heap.size, 3, none⟩ = some (.int .i64 Q.fu.p) ∧ w'.cell? ⟨w.heap.size, 4, none⟩ = some (.int .i64 Q.fu.s) ∧ w'.cell? ⟨w.heap.size, 5, none⟩ = some (.int .i64 Q.fu.d) ∧ w'.cell? ⟨w.heap.size, 6, none⟩ = some (.bool false) ∧ w'.cell? ⟨w.heap.size, 7, none⟩ = some (.int .i64 (Q.calls : Int))) (go_keep) (first
        | (go_at_call 19; ((with_reducible refine (HCF.out _ (HP0.out.ex (Ex.trans H2.out (Ex.refl w2).drew))).mono ?_); rintro e w11 ⟨v11, rfl, ho11, hb11⟩; obtain ⟨A11, c11, rfl, _⟩ := own_shape ho11; have H11 := Lib.hid (Ex.trans (Ex.trans H2.out (Ex.refl w2).drew) hb11); have HO11 := Lib.hid (Row.of_own ho11); clear ho11; obtain ⟨y0, y1, y2, y3, y4, y5, y6, y7⟩ := rd_cells (HB0.out.ex H11.out); rw [HOF.out] at y6; clear hb11))
        | (go_at_call 38; ((with_reducible refine (HCD.out _ (HR0.out.ex H11.out)).mono ?_); rintro e w12 ⟨v12, rfl, ho12, hb12⟩; obtain ⟨A12, c12, rfl, _⟩ := own_shape ho12; have H12 := Lib.hid (Ex.trans H11.out hb12); have HO12 := Lib.hid (Row.of_own ho12); have HP12 := Lib.hid (HO11.out.ex hb12); clear ho12; obtain ⟨y0, y1, y2, y3, y4, y5, y6, y7⟩ := rd_cells (HB0.out.ex H12.out); rw [HOF.out] at y6; clear hb12))
        | (go_at_call 81; ((with_reducible refine (files11_calls HP12.out HO12.out hfl6).mono ?_); rintro e w13 ⟨rfl, hb13⟩; have H13 := Lib.hid (Ex.trans H12.out hb13); obtain ⟨y0, y1, y2, y3, y4, y5, y6, y7⟩ := rd_cells (HB0.out.ex H13.out); rw [HOF.out] at y6; clear hb13))
        | (go_at_call 20; ((with_reducible refine (HCE.out _ (HP0.out.ex H13.out)).mono ?_); rintro e w14 ⟨rfl, hb14⟩; have H14 := Lib.hid (Ex.trans H13.out hb14); obtain ⟨y0, y1, y2, y3, y4, y5, y6, y7⟩ := rd_cells (HB0.out.ex H14.out); rw [HOF.out] at y6; clear hb14))
        | (go_at_call 39; ((with_reducible refine (HCR.out _ (HR0.out.ex H14.out) (fun k hk => Nat.lt_of_lt_of_le (HD0.out k hk) H14.out.size)).mono ?_); rintro e w15 ⟨rfl, hb15⟩; have H15 := Lib.hid (Ex.trans H14.out hb15); obtain ⟨y0, y1, y2, y3, y4, y5, y6, y7⟩ := rd_cells (HB0.out.ex H15.out); rw [HOF.out] at y6; clear hb15))
        | (go_at_call 23; ((with_reducible refine (dup_calls (HP0.out.ex H15.out)).mono ?_); rintro e w16 ⟨rfl, hb16⟩; have H16 := Lib.hid (Ex.trans H15.out hb16); rw [HOF.out]; obtain ⟨y0, y1, y2, y3, y4, y5, y6, y7⟩ := rd_cells (HB0.out.ex H16.out); rw [HOF.out] at y6; clear hb16))
        | (go_at_call 21; ((with_reducible refine (dcount_calls (HP0.out.ex H16.out)).mono ?_); rintro e w17 ⟨rfl, hb17⟩; have H17 := Lib.hid (Ex.trans H16.out hb17); obtain ⟨y0, y1, y2, y3, y4, y5, y6, y7⟩ := rd_cells (HB0.out.ex H17.out); rw [HOF.out] at y6; clear hb17)))
    go_wp2_with fail
    go_ret
    exact ⟨rfl, HX0.out.trans H17.out⟩
end Go.Proofs.YtcffkmlnbnjibaaGreat
