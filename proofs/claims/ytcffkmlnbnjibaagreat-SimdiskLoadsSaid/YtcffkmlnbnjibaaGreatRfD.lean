/- The document's folders: Sync, Crash, IDs. -/
import Derived.Test.YtcffkmlnbnjibaaGreatRfC
import Derived.Test.YtcffkmlnbnjibaaGreatDk0
namespace Go.Proofs.YtcffkmlnbnjibaaGreat
open Go.RowKit
theorem LsV.single {F : Nat → Prop} {w : World} {b : Nat} {u : Value} {l : List Mk} {T : TypeId} (h : Blk w b T [u]) (hb : ¬ F b) (hu : LiV F w u l) : LsV F w (.slice (some ⟨b, 0, none⟩) 1 1) [l] := by
  refine ⟨some ⟨b, 0, none⟩, 1, [u], rfl, ⟨h.row (k := 1) (n := 1) (show 1 * 1 ≤ 1 by decide), fun _ a ha hf => ?_⟩, fun i u' l' h1 h2 => ?_⟩
  · injection ha with ha
    subst ha
    exact hb hf
  · have hi : i = 0 := by have := (List.getElem?_eq_some_iff.1 h2).1; simpa using this
    subst hi
    injection h1 with h1
    injection h2 with h2
    subst h1; subst h2
    exact hu
set_option maxRecDepth 100000 in
set_option maxHeartbeats 2000000 in
theorem rfsync_calls {F : Nat → Prop} {w : World} {sl : Value} {q : FoV} (h : LsV F w sl q.lists) (hq : q.ch.length ≤ 1000000) (hF : ∀ k, F k → k < w.heap.size) :
    Calls Tryz.prog 79 #[.agg #[sl]] w fun e w' => ∃ sl', e = .returned (.agg #[sl']) ∧ LsV F w' sl' q.sync.lists ∧ Ex w w' := by
  have hX := ex_two w (.cells #[sl] 55) (.cells #[.slice none 0 0] 55)
  have hK := blk_two w (.cells #[sl] 55) [.slice none 0 0] 55
  obtain ⟨G, hG, eG⟩ := Grow.mk2 hX hF
  have HF3 := Lib.hid (fun (w' : World) (hx : Ex ((w.alloc (.cells #[sl] 55)).alloc (.cells #[.slice none 0 0] 55)) w') (k : Nat) (hk : G k) => Nat.lt_of_lt_of_le (hG.lt k hk) hx.size)
  have HG := Lib.hid hG
  have HG1 := Lib.hid (hG.new (w.heap.size + 1) (Nat.le_succ _) (by simp))
  have HH := Lib.hid (hG.ls eG h)
  have HK := Lib.hid hK
  have HX := Lib.hid hX
  have hz : w.heap.size + 1 + 1 ≤ ((w.alloc (.cells #[sl] 55)).alloc (.cells #[.slice none 0 0] 55)).heap.size := by simp
  clear h hX hK hG eG
  obtain ⟨sA, sn, sc, rfl⟩ : ∃ A n c, sl = .slice A n c := HH.out.shape
  go_enter Tryz.func79, Tryz.ntmps79
  go_wp2_with fail
  refine (rfnow_calls HH.out hq).mono ?_
  rintro e w1 ⟨u1, rfl, hu1, hb1⟩
  obtain ⟨A1, c1, rfl, hr1⟩ := hu1
  have HW1 := Lib.hid hb1
  have hz1 := Nat.le_trans hz hb1.size
  have HU := Lib.hid (LiV.mk (c := c1) hr1)
  have HB1 := Lib.hid (Blk.new w1 [.slice A1 q.now.length c1] 139)
  have HX1 := Lib.hid (ex_alloc (Ex.refl w1) (.cells #[.slice A1 q.now.length c1] 139))
  have HK1 := Lib.hid ((HK.out.ex hb1).ex HX1.out)
  have HX2 := Lib.hid (HX.out.trans (HW1.out.trans HX1.out))
  have hone : ∀ x ∈ [Value.slice (some ⟨w1.heap.size, 0, none⟩) 1 1], x.oneCell' = true := fun x hx => by rw [List.mem_singleton.1 hx]; rfl
  have hle := Nat.le_succ w.heap.size
  clear hb1 hr1 hz
  go_wp2_with (refine st_agg 55 rfl (.tmp 2) (.tmp 6) rfl (w.heap.size + 1) [.slice none 0 0] [.slice (some ⟨w1.heap.size, 0, none⟩) 1 1] rfl rfl info_f9 rfl hone HK1.out HX2.out hle ?_; intro w3 k3 x3 g3)
  (try simp only [Exit.inBlock, Exit.then])
  refine bodyPost_ret (ret_agg1 rfl _ _ (w.heap.size + 1) [.slice (some ⟨w1.heap.size, 0, none⟩) 1 1] rfl k3 Tryz.underlying55 info_f9) rfl ?_
  refine ⟨_, rfl, ?_, x3⟩
  rw [lists_sync]
  refine (LsV.single (T := 139) (HB1.out.grown g3 (by intro e; injection e with e; omega)) (fun hg => ?_) ((HU.out.ex HX1.out).offs (off_grown g3) fun k hk => by rw [hk]; exact HG1.out)).less HG.out.of
  have := HF3.out w1 HW1.out _ hg
  omega
set_option maxRecDepth 100000 in
set_option maxHeartbeats 2000000 in
theorem rfcrash_calls {F : Nat → Prop} {w : World} {sl : Value} {q : FoV} (c : Int) (hc : 0 ≤ c) (hc2 : c ≤ 1000000) (h : LsV F w sl q.lists) (hq : q.ch.length ≤ 1000000) (hF : ∀ k, F k → k < w.heap.size) :
    Calls Tryz.prog 132 #[.agg #[sl], .int .i64 c] w fun e w' => ∃ sl', e = .returned (.tuple #[.agg #[sl'], .int .i64 (q.pick c : Int)]) ∧ LsV F w' sl' (q.crash c).lists ∧ Ex w w' := by
  have hX := ex_two w (.cells #[sl] 55) (.cells #[.slice none 0 0] 55)
  have hK := blk_two w (.cells #[sl] 55) [.slice none 0 0] 55
  have hB := (Blk.new w [sl] 55).ex (ex_alloc (Ex.refl _) (.cells #[.slice none 0 0] 55))
  obtain ⟨G, hG, eG⟩ := Grow.mk2 hX hF
  have HF3 := Lib.hid hG.lt
  have HG := Lib.hid hG
  have HG1 := Lib.hid (hG.new (w.heap.size + 1) (Nat.le_succ _) (by simp))
  have hH := hG.ls eG h
  have HK := Lib.hid hK
  have HX := Lib.hid hX
  obtain ⟨A, cc, vs, rfl, hr, hk⟩ := hH
  have hle := q.pick_le c
  have HP := Lib.hid (lists_get q hle)
  obtain ⟨b, o, u, rfl, hcell, hu⟩ := LsV.at hr hk (lists_get q hle)
  have hp0 : c % ((q.ch.length : Int) + 1) = (q.pick c : Int) := by
    unfold FoV.pick
    have h2 := Int.emod_nonneg c (show ((q.ch.length : Int) + 1) ≠ 0 by omega)
    omega
  have hp1 : (q.pick c : Int) % ((q.ch.length : Int) + 1) = (q.pick c : Int) := Int.emod_eq_of_lt (by omega) (by omega)
  have hp2 : q.pick c % (q.ch.length + 1) = q.pick c := Nat.mod_eq_of_lt (by omega)
  have hn : q.lists.length = q.ch.length + 1 := lists_len q
  have hB0 := hB.cell 0
  obtain ⟨Au, cu, rfl, hru⟩ := hu
  have HU := Lib.hid (LiV.mk (c := cu) hru)
  have HS := Lib.hid (show (q.crash c).lists = [(q.ch.take (q.pick c)).foldl (fun l c => c.ap l) q.kept] from rfl)
  generalize ((q.ch.take (q.pick c)).foldl (fun l c => c.ap l) q.kept) = L at *
  generalize q.pick c = k at *
  generalize q.ch.length = m at *
  generalize q.lists.length = n at *
  subst hn
  have hmI : ((m + 1 : Nat) : Int) = (m : Int) + 1 := by omega
  clear h hr hk hX hK hB hG eG hru
  have hz : ((w.alloc (.cells #[.slice (some ⟨b, o, none⟩) (m + 1) cc] 55)).alloc (.cells #[.slice none 0 0] 55)).heap.size = w.heap.size + 1 + 1 := by simp
  have hB1 := Blk.new ((w.alloc (.cells #[.slice (some ⟨b, o, none⟩) (m + 1) cc] 55)).alloc (.cells #[.slice none 0 0] 55)) [.slice Au L.length cu] 139
  rw [hz] at hB1
  have HB1 := Lib.hid hB1
  have HX1 := Lib.hid (ex_alloc (Ex.refl ((w.alloc (.cells #[.slice (some ⟨b, o, none⟩) (m + 1) cc] 55)).alloc (.cells #[.slice none 0 0] 55))) (.cells #[.slice Au L.length cu] 139))
  have HK1 := Lib.hid (HK.out.ex HX1.out)
  have HX2 := Lib.hid (HX.out.trans HX1.out)
  have HZ := Lib.hid hz
  have hone : ∀ x ∈ [Value.slice (some ⟨w.heap.size + 1 + 1, 0, none⟩) 1 1], x.oneCell' = true := fun x hx => by rw [List.mem_singleton.1 hx]; rfl
  have hle2 := Nat.le_succ w.heap.size
  clear hz hB1
  go_enter Tryz.func132, Tryz.ntmps132
  go_wp2_with (refine st_agg 55 rfl (.tmp 4) (.tmp 24) rfl (w.heap.size + 1) [.slice none 0 0] [.slice (some ⟨w.heap.size + 1 + 1, 0, none⟩) 1 1] rfl rfl info_f9 rfl hone HK1.out HX2.out hle2 ?_; intro w3 k3 x3 g3)
  (try simp only [Exit.inBlock, Exit.then])
  refine bodyPost_ret (ret_agg2 rfl _ _ (w.heap.size + 1) [.slice (some ⟨w.heap.size + 1 + 1, 0, none⟩) 1 1] rfl k3 Tryz.underlying55 info_f9) rfl ?_
  refine ⟨_, rfl, ?_, x3⟩
  rw [HS.out]
  refine (LsV.single (T := 139) (HB1.out.grown g3 (by intro e; injection e with e; omega)) (fun hg => ?_) ((HU.out.ex HX1.out).offs (off_grown g3) fun k hk => by rw [hk]; exact HG1.out)).less HG.out.of
  have := HF3.out _ hg
  rw [HZ.out] at this
  omega
/-- A rising list of numbers gone over. -/
def stepZ (n : Int) (r : List Int × Bool) (x : Int) : List Int × Bool := if (!r.2 && decide (n < x)) = true then (r.1 ++ [n] ++ [x], true) else (r.1 ++ [x], r.2)
def foldZ (n : Int) (l : List Int) : List Int × Bool := l.foldl (stepZ n) ([], false)
def endZ (n : Int) (r : List Int × Bool) : List Int := if r.2 = true then r.1 else r.1 ++ [n]
theorem foldZ_succ (n : Int) {l : List Int} {k : Nat} (hk : k < l.length) : foldZ n (l.take (k + 1)) = stepZ n (foldZ n (l.take k)) l[k] := by
  unfold foldZ
  rw [List.take_succ_eq_append_getElem hk, List.foldl_append]; rfl
theorem stepZ_len (n : Int) (r : List Int × Bool) (x : Int) : (stepZ n r x).1.length ≤ r.1.length + 2 ∧ ((stepZ n r x).2 = false → (stepZ n r x).1.length = r.1.length + 1 ∧ r.2 = false) ∧ (r.2 = true → (stepZ n r x).1.length = r.1.length + 1 ∧ (stepZ n r x).2 = true) := by
  unfold stepZ
  cases h : r.2 <;> cases h' : decide (n < x) <;> simp
theorem foldZ_len (n : Int) (l : List Int) : (foldZ n l).1.length ≤ l.length + 1 ∧ ((foldZ n l).2 = false → (foldZ n l).1.length = l.length) := by
  have : ∀ (l : List Int) (r : List Int × Bool), (l.foldl (stepZ n) r).1.length + (if (l.foldl (stepZ n) r).2 = true then 0 else 1) = r.1.length + (if r.2 = true then 0 else 1) + l.length := by
    intro l
    induction l with
    | nil => intro r; rfl
    | cons x l ih =>
      intro r
      rw [List.foldl_cons, ih, List.length_cons]
      unfold stepZ
      cases h : r.2 <;> cases h' : decide (n < x) <;> simp <;> omega
  have h := this l ([], false)
  unfold foldZ
  simp only [List.length_nil, Bool.false_eq_true, if_false] at h
  constructor
  · split at h <;> omega
  · intro hf
    rw [if_neg (by rw [hf]; decide)] at h
    omega
theorem foldZ_post (n : Int) (r : List Int) : ∀ l : List Int, endZ n (l.foldl (stepZ n) (r, true)) = r ++ l
  | [] => by simp [endZ]
  | x :: l => by
    rw [List.foldl_cons, show stepZ n (r, true) x = (r ++ [x], true) from rfl, foldZ_post n _ l]
    simp
theorem foldZ_ins (n : Int) (r : List Int) : ∀ l : List Int, endZ n (l.foldl (stepZ n) (r, false)) = r ++ insI n l
  | [] => by simp [endZ, insI]
  | x :: l => by
    rw [List.foldl_cons, insI]
    by_cases h : n < x
    · rw [show stepZ n (r, false) x = (r ++ [n] ++ [x], true) from by unfold stepZ; simp [h], foldZ_post, if_pos h]
      simp
    · rw [show stepZ n (r, false) x = (r ++ [x], false) from by unfold stepZ; simp [h], foldZ_ins n _ l, if_neg h]
      simp
theorem endZ_add {n : Int} {l : List Int} (h : n ∉ l) : endZ n (foldZ n l) = addI l n := by
  unfold foldZ addI
  rw [foldZ_ins, if_neg h]; rfl
/-- Numbers of the document. -/
def InV (F : Nat → Prop) (w : World) (v : Value) (l : List Int) : Prop := ∃ A c, v = .slice A l.length c ∧ RowF F w 1 A l.length (l.map (Value.int .i64))
theorem InV.ex {F : Nat → Prop} {w w' : World} {v : Value} {l : List Int} (h : InV F w v l) (hb : Ex w w') : InV F w' v l := by
  obtain ⟨A, c, e, h⟩ := h
  exact ⟨A, c, e, h.ex hb⟩
theorem InV.own {F : Nat → Prop} {w : World} {base n : Nat} {e : TypeId} {v : Value} {l : List Int} (h : w.ownsRow base e 1 v n (l.map (Value.int .i64))) (hF : ∀ k, F k → k < base) : InV F w v l := by
  have hn : n = l.length := by have := h.1; simpa using this.symm
  subst hn
  obtain ⟨A, c, rfl, _⟩ := own_shape h
  exact ⟨A, c, rfl, RowF.own h hF⟩
theorem InV.offs {F G : Nat → Prop} {w w' : World} {v : Value} {l : List Int} (h : InV F w v l) (hb : Off G w w') (hG : ∀ k, G k → F k) : InV F w' v l := by
  obtain ⟨A, c, e, h⟩ := h
  exact ⟨A, c, e, h.offs hb hG⟩
theorem InV.less {F G : Nat → Prop} {w : World} {v : Value} {l : List Int} (h : InV G w v l) (hG : ∀ k, F k → G k) : InV F w v l := by
  obtain ⟨A, c, e, h⟩ := h
  exact ⟨A, c, e, h.less hG⟩
theorem InV.shape {F : Nat → Prop} {w : World} {v : Value} {l : List Int} (h : InV F w v l) : ∃ A c, v = .slice A l.length c := by
  obtain ⟨A, c, e, _⟩ := h
  exact ⟨_, _, e⟩
theorem ints_one (l : List Int) : ∀ u ∈ l.map (Value.int .i64), u.oneCell' = true := by
  intro u hu
  obtain ⟨n, _, rfl⟩ := List.mem_map.1 hu
  rfl
theorem row_n {w : World} {T : TypeId} {n : Int} : Row (w.alloc (.cells #[.int .i64 n] T)) 1 (some ⟨w.heap.size, 0, none⟩) 1 ([n].map (Value.int .i64)) := row_lit1 w [.int .i64 n] T
set_option maxRecDepth 100000 in
set_option maxHeartbeats 2000000 in
theorem rfadd_calls {F : Nat → Prop} {w : World} {v : Value} {l : List Int} (n : Int) (h : InV F w v l) (hl : l.length ≤ 1000000) (hF : ∀ k, F k → k < w.heap.size) :
    Calls Tryz.prog 144 #[v, .int .i64 n] w fun e w' => ∃ v', e = .returned v' ∧ InV F w' v' (addI l n) ∧ Ex w w' := by
  obtain ⟨A, c, rfl, hr⟩ := h
  have HR := Lib.hid hr
  have hi1 : (Tryz.prog.info? 3).map (fun i => (i.zero, i.size, i.bytes)) = some (some (.int .i64 0), 1, 8) := info_i1
  have HI := Lib.hid hi1
  clear hr hi1
  go_enter Tryz.func144, Tryz.ntmps144
  go_wp2
  go_loopw [5, 6, 7] (fun v d i wr => ∃ k : Nat, k ≤ l.length ∧ i = .int .i64 (k : Int) ∧ d = .bool (foldZ n (l.take k)).2 ∧ (∀ j (hj : j < l.length), j < k → l[j] ≠ n) ∧ wr.ownsRow w.heap.size 3 1 v (foldZ n (l.take k)).1.length ((foldZ n (l.take k)).1.map (Value.int .i64)) ∧ Ex w wr) (fun _ _ i _ => l.length - (intOf i).toNat)
  case atStart => exact ⟨0, Nat.zero_le _, rfl, rfl, (fun _ _ h => absurd h (by omega)), World.ownsRow_nil _ _ _ _, Ex.refl _⟩
  case round =>
    obtain ⟨k, hk, rfl, rfl, hne, ho, hb⟩ := hrel
    have hfl := (foldZ_len n (l.take k)).1
    rw [List.length_take] at hfl
    have hfl2 : (foldZ n (l.take k)).1.length ≤ k + 1 := by omega
    have HNE := Lib.hid hne
    have HO := Lib.hid ho
    have HB := Lib.hid hb
    have hzb := hb.size
    clear hfl hne ho hb
    by_cases hlt : k < l.length
    · obtain ⟨b, o, rfl, c1⟩ := row_at (HR.out.row.ex HB.out) (k := k) (v := .int .i64 l[k]) (by rw [List.getElem?_map, List.getElem?_eq_getElem hlt]; rfl)
      have Hs := Lib.hid (foldZ_succ n hlt)
      have HNE1 := Lib.hid (fun (hx : l[k] ≠ n) j (hj : j < l.length) (hjk : j < k + 1) => show l[j] ≠ n from by
        rcases Nat.lt_or_ge j k with h3 | h3
        · exact HNE.out j hj h3
        · have : j = k := by omega
          subst this
          exact hx)
      have HMEM := Lib.hid (fun (hx : l[k] = n) => show addI l n = l from by unfold addI; rw [if_pos (by rw [← hx]; exact List.getElem_mem _)])
      have HCELLo := Lib.hid (show w.cell? ⟨b, o + k, none⟩ = some (.int .i64 l[k]) from by
        obtain ⟨b', o', e, hc⟩ := HR.out.row.2 (by omega)
        injection e with e
        injection e with e1 e2
        subst e1; subst e2
        exact hc k _ (by rw [List.getElem?_map, List.getElem?_eq_getElem hlt]; rfl))
      have HCELL := HCELLo
      clear HCELLo
      generalize hx : l[k] = x at *
      by_cases he : x = n
      · have d1 : decide (x = n) = true := decide_eq_true he
        have HM := Lib.hid (HMEM.out he)
        clear HMEM HNE1 hx
        go_wp2_with fail
        go_ret
        exact ⟨_, rfl, ⟨some ⟨b, o, none⟩, c, by rw [HM.out]; rfl, by rw [HM.out]; exact HR.out.ex HB.out⟩, HB.out⟩
      · have d1 : decide (x = n) = false := decide_eq_false he
        have HNE2 := Lib.hid (HNE1.out he)
        clear HMEM HNE1 hx
        obtain ⟨P, eP⟩ : ∃ P, P = (foldZ n (l.take k)).1 := ⟨_, rfl⟩
        rw [← eP] at hfl2
        have HO := Lib.hid (show wr.ownsRow w.heap.size 3 1 _ P.length (P.map (Value.int .i64)) from by rw [eP]; exact HO.out)
        cases hd : (foldZ n (l.take k)).2
        · by_cases hlx : n < x
          · have d2 : decide (n < x) = true := decide_eq_true hlx
            have Hr := Lib.hid (show stepZ n (foldZ n (l.take k)) x = (P ++ [n] ++ [x], true) from by rw [eP]; unfold stepZ; rw [hd, d2]; rfl)
            clear hd eP
            go_wp2_with (first | (at_builtin; refine app_own 107 3 (.int .i64 0) 1 8 Tryz.underlying107 HI.out rfl (by decide) (by decide) rfl (.tmp 31) (.tmp 33) rfl w.heap.size _ _ (P.map (Value.int .i64)) rfl (HO.out.alloc _) (some ⟨wr.heap.size, 0, none⟩) 1 1 ([n].map (Value.int .i64)) rfl row_n (ints_one _) (by omega) (Nat.le_trans hzb (ex_alloc (Ex.refl wr) _).size) (ex_alloc HB.out _) ?_; intro v1 w1 ho1 hb1; rw [← List.map_append] at ho1; have HO1 := Lib.hid ho1; have HB1 := Lib.hid hb1; have hz1 := hb1.size; have c2 := Ex.cell HB1.out HCELL.out; clear ho1 hb1) | (at_builtin; refine app_own 107 3 (.int .i64 0) 1 8 Tryz.underlying107 HI.out rfl (by decide) (by decide) rfl (.tmp 35) (.tmp 40) rfl w.heap.size _ _ ((P ++ [n]).map (Value.int .i64)) rfl (HO1.out.alloc _) (some ⟨w1.heap.size, 0, none⟩) 1 1 ([x].map (Value.int .i64)) rfl row_n (ints_one _) (by omega) (Nat.le_trans hz1 (ex_alloc (Ex.refl w1) _).size) (ex_alloc HB1.out _) ?_; intro v' w' ho' hb'))
            exact ⟨⟨k + 1, by omega, by go_num, by rw [Hs.out, Hr.out], HNE2.out, by rw [Hs.out, Hr.out, List.length_append, List.length_append, List.map_append]; exact ho', hb'⟩, by simp [intOf]; omega⟩
          · have d2 : decide (n < x) = false := decide_eq_false hlx
            have Hr := Lib.hid (show stepZ n (foldZ n (l.take k)) x = (P ++ [x], false) from by rw [eP]; unfold stepZ; rw [hd, d2]; rfl)
            clear hd eP
            go_wp2_with (at_builtin; refine app_own 107 3 (.int .i64 0) 1 8 Tryz.underlying107 HI.out rfl (by decide) (by decide) rfl (.tmp 35) (.tmp 40) rfl w.heap.size _ _ (P.map (Value.int .i64)) rfl (HO.out.alloc _) (some ⟨wr.heap.size, 0, none⟩) 1 1 ([x].map (Value.int .i64)) rfl row_n (ints_one _) (by omega) (Nat.le_trans hzb (ex_alloc (Ex.refl wr) _).size) (ex_alloc HB.out _) ?_; intro v' w' ho' hb')
            exact ⟨⟨k + 1, by omega, by go_num, by rw [Hs.out, Hr.out], HNE2.out, by rw [Hs.out, Hr.out, List.length_append, List.map_append]; exact ho', hb'⟩, by simp [intOf]; omega⟩
        · have Hr := Lib.hid (show stepZ n (foldZ n (l.take k)) x = (P ++ [x], true) from by rw [eP]; unfold stepZ; rw [hd]; rfl)
          clear hd eP
          go_wp2_with (at_builtin; refine app_own 107 3 (.int .i64 0) 1 8 Tryz.underlying107 HI.out rfl (by decide) (by decide) rfl (.tmp 35) (.tmp 40) rfl w.heap.size _ _ (P.map (Value.int .i64)) rfl (HO.out.alloc _) (some ⟨wr.heap.size, 0, none⟩) 1 1 ([x].map (Value.int .i64)) rfl row_n (ints_one _) (by omega) (Nat.le_trans hzb (ex_alloc (Ex.refl wr) _).size) (ex_alloc HB.out _) ?_; intro v' w' ho' hb')
          exact ⟨⟨k + 1, by omega, by go_num, by rw [Hs.out, Hr.out], HNE2.out, by rw [Hs.out, Hr.out, List.length_append, List.map_append]; exact ho', hb'⟩, by simp [intOf]; omega⟩
    · have hkl : k = l.length := by omega
      subst hkl
      have HA := Lib.hid (endZ_add (n := n) (l := l) fun hm => by
        obtain ⟨j, hj, e⟩ := List.getElem_of_mem hm
        exact HNE.out j hj hj e)
      have HT := Lib.hid (List.take_length (l := l))
      rw [HT.out] at hfl2 ⊢
      obtain ⟨P, eP⟩ : ∃ P, P = (foldZ n l).1 := ⟨_, rfl⟩
      rw [← eP] at hfl2
      have HO := Lib.hid (show wr.ownsRow w.heap.size 3 1 _ P.length (P.map (Value.int .i64)) from by rw [eP]; have := HO.out; rwa [HT.out] at this)
      cases hd : (foldZ n l).2
      · have Hr := Lib.hid (show addI l n = P ++ [n] from by rw [← HA.out, eP]; unfold endZ; rw [hd]; rfl)
        clear hd eP
        go_wp2_with (at_builtin; refine app_own 107 3 (.int .i64 0) 1 8 Tryz.underlying107 HI.out rfl (by decide) (by decide) rfl (.tmp 44) (.tmp 46) rfl w.heap.size _ _ (P.map (Value.int .i64)) rfl (HO.out.alloc _) (some ⟨wr.heap.size, 0, none⟩) 1 1 ([n].map (Value.int .i64)) rfl row_n (ints_one _) (by omega) (Nat.le_trans hzb (ex_alloc (Ex.refl wr) _).size) (ex_alloc HB.out _) ?_; intro v' w' ho' hb')
        go_ret
        exact ⟨_, rfl, by rw [Hr.out]; rw [← List.map_append] at ho'; exact InV.own ho' hF, hb'⟩
      · have Hr := Lib.hid (show addI l n = P from by rw [← HA.out, eP]; unfold endZ; rw [hd]; rfl)
        clear hd eP
        go_wp2_with fail
        go_ret
        exact ⟨_, rfl, by rw [Hr.out]; exact InV.own HO.out hF, HB.out⟩
theorem lists_lens {q : FoV} {M : Nat} (ho : q.Ok M) {k : Nat} {l : List Mk} (h : q.lists[k]? = some l) : l.length ≤ M := by
  have hk := (List.getElem?_eq_some_iff.1 h).1
  rw [lists_len] at hk
  rw [lists_get q (by omega)] at h
  injection h with h
  rw [← h]
  have h1 := foldl_ap_len (q.ch.take k) q.kept
  have h2 := ho.kl
  have h3 : (q.ch.take k).length ≤ q.ch.length := by rw [List.length_take]; omega
  omega
def plsOf (ls : List (List Mk)) : List Int := ls.flatMap fun l => l.map Mk.pl
/-- What is behind the first i lists, and k names of the next one. -/
def idsTo (ls : List (List Mk)) (i : Nat) (l : List Mk) (k : Nat) : List Int := setI (plsOf (ls.take i) ++ (l.take k).map Mk.pl)
theorem setI_snoc (xs : List Int) (x : Int) : setI (xs ++ [x]) = addI (setI xs) x := by unfold setI; rw [List.foldl_append]; rfl
theorem idsTo_succ (ls : List (List Mk)) (i : Nat) {l : List Mk} {k : Nat} (hk : k < l.length) : idsTo ls i l (k + 1) = addI (idsTo ls i l k) l[k].pl := by
  unfold idsTo
  rw [List.take_succ_eq_append_getElem hk, List.map_append, ← List.append_assoc]
  exact setI_snoc _ _
theorem idsTo_next {ls : List (List Mk)} {i : Nat} {l : List Mk} (h : ls[i]? = some l) (l2 : List Mk) : idsTo ls i l l.length = idsTo ls (i + 1) l2 0 := by
  obtain ⟨hi, e⟩ := List.getElem?_eq_some_iff.1 h
  unfold idsTo plsOf
  rw [List.take_length, List.take_succ_eq_append_getElem hi, e, List.flatMap_append]
  simp
theorem idsTo_len {q : FoV} {T : Nat} (hT : ∀ x ∈ q.ids, 1 ≤ x ∧ x ≤ (T : Int)) {i : Nat} {l : List Mk} (h : q.lists[i]? = some l) (k : Nat) : (idsTo q.lists i l k).length ≤ T := by
  have hsub : ∀ x ∈ idsTo q.lists i l k, x ∈ q.ids := by
    intro x hx
    unfold idsTo at hx
    rw [setI_mem, List.mem_append] at hx
    unfold FoV.ids
    rw [setI_mem, List.mem_flatMap]
    rcases hx with hx | hx
    · obtain ⟨L, hL, hx⟩ := List.mem_flatMap.1 hx
      exact ⟨L, List.mem_of_mem_take hL, hx⟩
    · obtain ⟨m, hm, e⟩ := List.mem_map.1 hx
      exact ⟨l, List.mem_of_getElem? h, List.mem_map.2 ⟨m, List.mem_of_mem_take hm, e⟩⟩
  exact up_len (setI_up _) (fun x hx => (hT x (hsub x hx)).1) (fun x hx => (hT x (hsub x hx)).2)
set_option maxRecDepth 100000 in
set_option maxHeartbeats 2000000 in
theorem rfids_calls {F : Nat → Prop} {w : World} {sl : Value} {q : FoV} {T M : Nat} (h : LsV F w sl q.lists) (ho : q.Ok M) (hM : M ≤ 1000000) (hT : ∀ x ∈ q.ids, 1 ≤ x ∧ x ≤ (T : Int)) (hT2 : T ≤ 1000000) (hF : ∀ k, F k → k < w.heap.size) :
    Calls Tryz.prog 98 #[.agg #[sl]] w fun e w' => ∃ v, e = .returned v ∧ InV F w' v q.ids ∧ Ex w w' := by
  have hX := ex_alloc (Ex.refl w) (.cells #[sl] 55)
  have hB := (Blk.new w [sl] 55)
  obtain ⟨G, hG, eG⟩ := Grow.mk2 hX hF
  have HF3 := Lib.hid (fun (w' : World) (hx : Ex (w.alloc (.cells #[sl] 55)) w') (k : Nat) (hk : G k) => Nat.lt_of_lt_of_le (hG.lt k hk) hx.size)
  have HG := Lib.hid hG
  have hH := hG.ls eG h
  have HX := Lib.hid hX
  obtain ⟨A, cc, vs, rfl, hr, hk⟩ := hH
  have HR := Lib.hid hr
  have HK := Lib.hid hk
  have HO := Lib.hid ho
  have HT := Lib.hid hT
  have hB0 := hB.cell 0
  have hn : q.lists.length = q.ch.length + 1 := lists_len q
  have hnl : q.lists.length ≤ 1000001 := by have := ho.kl; omega
  have HN := Lib.hid hn
  clear h hX hB hG eG hr hk ho hT hn
  go_enter Tryz.func98, Tryz.ntmps98
  go_wp2_with fail
  generalize (w.alloc (.cells #[.slice A q.lists.length cc] 55)) = W at *
  go_loopw [3, 4] (fun v i wr => ∃ k : Nat, k ≤ q.lists.length ∧ i = .int .i64 (k : Int) ∧ InV G wr v (idsTo q.lists k [] 0) ∧ Ex W wr) (fun _ i _ => q.lists.length - (intOf i).toNat)
  case atStart => exact ⟨0, Nat.zero_le _, rfl, ⟨none, 0, rfl, ⟨Row.nil _ _ _, fun h => absurd h (Nat.lt_irrefl 0)⟩⟩, Ex.refl _⟩
  case round =>
    obtain ⟨k, hk, rfl, hv, hb⟩ := hrel
    have HV := Lib.hid hv
    have HB := Lib.hid hb
    have b0 := hb.cell hB0
    clear hv hb
    by_cases hlt : k < q.lists.length
    · obtain ⟨l, hl⟩ : ∃ l, q.lists[k]? = some l := ⟨_, List.getElem?_eq_getElem hlt⟩
      obtain ⟨b, o, u, rfl, hcell, hu⟩ := LsV.at HR.out HK.out hl
      obtain ⟨Al, cl, rfl, hrl⟩ := hu
      have HRL := Lib.hid hrl.row
      have HL := Lib.hid hl
      have hll : l.length ≤ 1000000 := Nat.le_trans (lists_lens HO.out hl) hM
      have c0 := HB.out.cell hcell
      have e0 : idsTo q.lists k [] 0 = idsTo q.lists k l 0 := by unfold idsTo; simp
      rw [e0] at HV
      clear hl hrl e0
      go_wp2_with fail
      go_loopw [3, 5] (fun v j wq => ∃ m : Nat, m ≤ l.length ∧ j = .int .i64 (m : Int) ∧ InV G wq v (idsTo q.lists k l m) ∧ Ex W wq) (fun _ j _ => l.length - (intOf j).toNat)
      case atStart => exact ⟨0, Nat.zero_le _, rfl, HV.out, HB.out⟩
      case round =>
        obtain ⟨m, hm, rfl, hv, hb⟩ := hrel
        have HV2 := Lib.hid hv
        have HB2 := Lib.hid hb
        have d0 := hb.cell hB0
        have d1 := hb.cell hcell
        clear hv hb
        by_cases hlt2 : m < l.length
        · obtain ⟨b2, o2, rfl, f1, f2⟩ := (HRL.out.ex HB2.out).mk hlt2
          have HS := Lib.hid (idsTo_succ q.lists k hlt2)
          have HLen := Lib.hid (Nat.le_trans (idsTo_len HT.out HL.out m) hT2)
          generalize l[m] = x at *
          go_wp2_with fail
          refine (rfadd_calls x.pl HV2.out HLen.out (HF3.out _ HB2.out)).mono ?_
          rintro e w3 ⟨v3, rfl, hv3, hb3⟩
          have HV3 := Lib.hid hv3
          have HB3 := Lib.hid (HB2.out.trans hb3)
          clear hv3 hb3
          go_wp2_with fail
          exact ⟨⟨m + 1, by omega, by go_num, by rw [HS.out]; exact HV3.out, HB3.out⟩, by simp [intOf]; omega⟩
        · have hml : m = l.length := by omega
          subst hml
          have HS := Lib.hid (idsTo_next HL.out [])
          go_wp2_with fail
          exact ⟨⟨k + 1, by omega, by go_num, by rw [← HS.out]; exact HV2.out, HB2.out⟩, by simp [intOf]; omega⟩
    · have hkl : k = q.lists.length := by omega
      subst hkl
      have HS := Lib.hid (show idsTo q.lists q.lists.length [] 0 = q.ids from by unfold idsTo FoV.ids plsOf; rw [List.take_length]; simp)
      go_wp2_with fail
      go_ret
      exact ⟨_, rfl, by rw [← HS.out]; exact HV.out.less HG.out.of, HX.out.trans HB.out⟩
end Go.Proofs.YtcffkmlnbnjibaaGreat
