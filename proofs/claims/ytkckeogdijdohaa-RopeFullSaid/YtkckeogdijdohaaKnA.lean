/- Walks: a node's kids; a tree's chunks, and its text. -/
import Derived.Test.YtkckeogdijdohaaKn
namespace Go.Proofs.Ytkckeogdijdohaa
open Go.RowKit
/-- What Kids hands back. -/
def KidsP (h : Nat) (cs : List ByteArray) (w : World) (e : Ending) (w' : World) : Prop :=
  ∃ (A : Option Addr) (c : Nat) (ks : Kids), e = .returned (.slice A ks.length c) ∧ ks.length ≤ c ∧ 2 ≤ ks.length ∧ ks.length ≤ 8 ∧ cs = ks.cs ∧ Row w' 1 A ks.length ks.vs ∧ (∀ k ∈ ks, Kn h w' k.1 k.2) ∧ Ex w w'
theorem Kids.len (ks : Kids) : ks.vs.length = ks.length := List.length_map ..
theorem Kn.ptr {h : Nat} {w : World} {v : Value} {cs : List ByteArray} (x : Kn h w v cs) : ∃ p, v = .pointer p := by
  obtain ⟨g, s, A, n, cap, rfl, _⟩ := x.nd
  exact ⟨_, rfl⟩
theorem Kids.ptr {ks : Kids} {h : Nat} {w : World} (x : ∀ k ∈ ks, Kn h w k.1 k.2) : Ptr ks.vs := by
  intro u hu
  obtain ⟨k, hm, rfl⟩ := List.mem_map.1 hu
  exact (x k hm).ptr
theorem Kids.get {ks : Kids} {k : Nat} (h : k < ks.length) : ks.vs[k]'(by rw [Kids.len]; exact h) = ks[k].1 := by simp [Kids.vs]
theorem Row.kid {w : World} {A : Option Addr} {ks : Kids} (h : Row w 1 A ks.length ks.vs) {k : Nat} (hk : k < ks.length) : ∃ b o, A = some ⟨b, o, none⟩ ∧ w.cell? ⟨b, o + k, none⟩ = some ks[k].1 := by
  obtain ⟨b, o, e, hc⟩ := h.at1 hk
  exact ⟨b, o, e, by rw [hc, Kids.get hk]⟩
set_option maxHeartbeats 400000 in
theorem kids_calls {h : Nat} {v : Value} {cs : List ByteArray} (w : World) (x : Kn (h + 1) w v cs) : Calls Try.prog 75 #[v] w (KidsP h cs w) := by
  have X := Lib.hid x
  obtain ⟨g, A, cap, ks, rfl, h2, h8, e1, ⟨c0, c1, c2, c3, c4, c5⟩, hr, hk⟩ := x
  have HE := Lib.hid e1
  have HR := Lib.hid hr
  have HK := Lib.hid hk
  have hn0 : ((ks.length : Int) == 0) = false := by rw [beq_eq_false_iff_ne]; omega
  obtain ⟨n, hn⟩ : ∃ n, n = ks.length := ⟨_, rfl⟩
  have HN := Lib.hid hn
  rw [← hn] at c5 h2 h8 hn0 HR
  clear e1 hr hk c0 c1 c2 c3 c4 hn
  go_enter Try.func75, Try.ntmps75
  go_wp2_with fail
  refine (none_calls _ X.out).mono ?_
  rintro e w1 ⟨rfl, rfl⟩
  go_wp2_with (refine app_kn rfl (.const (.slice none 0 0)) (.tmp 16) rfl w1.heap.size (.slice none 0 0) 0 [] rfl (World.ownsRow_nil _ _ _ _) A n cap ks.vs rfl HR.out (Kids.ptr HK.out) (by omega) (Nat.le_refl _) (Below.refl _ _) ?_; intro v' w2 h1 h2' _ _; have HO := Lib.hid h1; clear h1)
  obtain ⟨A', c', hv', hc'⟩ := own_shape HO.out
  subst hv'
  go_ret
  have ho := Row.of_own HO.out
  rw [List.nil_append, Nat.zero_add] at ho
  rw [HN.out] at ho hc'
  exact ⟨A', c', ks, by rw [HN.out, Nat.zero_add]; rfl, by omega, by rw [← HN.out]; exact h2, by rw [← HN.out]; exact h8, HE.out, ho, fun k hm => (HK.out k hm).ex h2', h2'⟩
set_option maxHeartbeats 400000 in
theorem kids_leaf {v : Value} {cs : List ByteArray} (w : World) (x : Kn 0 w v cs) : Calls Try.prog 75 #[v] w fun e w' => e = .returned (.slice none 0 0) ∧ w' = w := by
  have X := Lib.hid x
  obtain ⟨g, s, rfl, e1, hf, ⟨c0, c1, c2, c3, c4, c5⟩⟩ := x
  clear e1 hf c0 c1 c2 c3 c4
  go_enter Try.func75, Try.ntmps75
  go_wp2_with fail
  refine (none_calls _ X.out).mono ?_
  rintro e w1 ⟨rfl, rfl⟩
  go_wp2_with fail
  go_ret
  exact ⟨rfl, rfl⟩
theorem kids_nil (w : World) : Calls Try.prog 75 #[.pointer none] w fun e w' => e = .returned (.slice none 0 0) ∧ w' = w := by
  go_enter Try.func75, Try.ntmps75
  go_wp2_with fail
  refine (none_nil _).mono ?_
  rintro e w1 ⟨rfl, rfl⟩
  go_wp2_with fail
  go_ret
  exact ⟨rfl, rfl⟩
/-- What gather hands back. -/
def GathP (W0 : World) (n : Nat) (l : List ByteArray) (e : Ending) (w' : World) : Prop :=
  ∃ v', e = .returned v' ∧ w'.ownsRow W0.heap.size 9 1 v' n (strs l) ∧ Ex W0 w'
theorem Kids.cs_take {ks : Kids} {k : Nat} (h : k < ks.length) : Kids.cs (ks.take (k + 1)) = Kids.cs (ks.take k) ++ ks[k].2 := by
  unfold Kids.cs
  rw [List.take_succ_eq_append_getElem h, List.flatMap_append]
  simp
theorem Kids.cs_take_le (ks : Kids) (k : Nat) : (Kids.cs (ks.take k)).length ≤ ks.cs.length := by
  have h : ks.cs = Kids.cs (ks.take k) ++ Kids.cs (ks.drop k) := by
    unfold Kids.cs; rw [← List.flatMap_append, List.take_append_drop]
  rw [h, List.length_append]; omega
set_option maxHeartbeats 1000000 in
theorem gather_calls : ∀ {h : Nat} {v vo : Value} {cs l : List ByteArray} {n : Nat} (W0 w : World), Kn h W0 v cs → Ex W0 w → w.ownsRow W0.heap.size 9 1 vo n (strs l) → n + cs.length ≤ 100000 → Calls Try.prog 68 #[v, vo] w (GathP W0 (n + cs.length) (l ++ cs)) := by
  intro h
  induction h with
  | zero =>
    intro v vo cs l n W0 w x hb hown hsm
    have X := Lib.hid (x.ex hb)
    have HB := Lib.hid hb
    have HO := Lib.hid hown
    obtain ⟨g, s, rfl, e1, hf, ⟨c0, c1, c2, c3, c4, c5⟩⟩ := x
    subst e1
    have c5 := hb.cell c5
    have c4 := hb.cell c4
    have hsz := hb.size
    rw [List.length_singleton] at hsm
    clear hf c0 c1 c2 c3 hb hown
    go_enter Try.func68, Try.ntmps68
    go_wp2_with fail
    refine (none_calls _ X.out).mono ?_
    rintro e w1 ⟨rfl, rfl⟩
    go_wp2_with (refine app_str rfl (.tmp 16) (.tmp 21) rfl W0.heap.size vo n (strs l) rfl (own_ex HO.out (ex_alloc (Ex.refl _) _)) (some ⟨w1.heap.size, 0, none⟩) 1 1 (strs [s]) rfl (row_lit w1 (strs [s]) 9) (strs_one _) (by omega) (by simp; omega) (ex_alloc HB.out _) ?_; intro v' w2 h1 h2 _ _; have H1 := Lib.hid h1; clear h1)
    go_ret
    refine ⟨v', rfl, ?_, h2⟩
    have := H1.out
    rwa [← strs_app] at this
  | succ h ih =>
    intro v vo cs l n W0 w x hb hown hsm
    have X := Lib.hid (x.ex hb)
    obtain ⟨g, A, cap, ks, rfl, h2, h8, e1, ⟨c0, c1, c2, c3, c4, c5⟩, hr, hk⟩ := x
    have HO := Lib.hid hown
    have HB := Lib.hid hb
    have HR := Lib.hid hr
    have HK := Lib.hid hk
    have HE := Lib.hid e1
    have hle : ∀ k, n + (Kids.cs (ks.take k)).length ≤ 100000 := fun k => by have := Kids.cs_take_le ks k; rw [← e1] at this; omega
    have HL := Lib.hid hle
    have c5 := hb.cell c5
    have hn0 : ((ks.length : Int) == 0) = false := by rw [beq_eq_false_iff_ne]; omega
    clear e1 hr hk c0 c1 c2 c3 c4 hown hb hsm hle
    go_enter Try.func68, Try.ntmps68
    go_wp2_with fail
    refine (none_calls _ X.out).mono ?_
    rintro e w1 ⟨rfl, rfl⟩
    go_wp2_with fail
    go_loopw [1, 6, 28] (fun v1 _ v28 wr => ∃ k : Nat, k ≤ ks.length ∧ v28 = .int .i64 (k : Int) ∧ wr.ownsRow W0.heap.size 9 1 v1 (n + (Kids.cs (ks.take k)).length) (strs (l ++ Kids.cs (ks.take k))) ∧ Ex W0 wr) (fun _ _ v28 _ => ks.length - (intOf v28).toNat)
    case atStart => exact ⟨0, by omega, rfl, by simpa [Kids.cs] using HO.out, HB.out⟩
    case round =>
      obtain ⟨k, hk, rfl, hown, hb⟩ := hrel
      have HO1 := Lib.hid hown
      clear hown
      by_cases hlt : k < ks.length
      · obtain ⟨b, o, rfl, hc⟩ := (HR.out.ex hb).kid hlt
        have HM := Lib.hid (HK.out ks[k] (List.getElem_mem hlt))
        have HT := Lib.hid (Kids.cs_take hlt)
        have hsm := HL.out (k + 1)
        rw [HT.out, List.length_append] at hsm
        have HB1 := Lib.hid hb
        generalize ks[k] = q at hc HM HT hsm
        obtain ⟨qv, qc⟩ := q
        have hsm : n + ((Kids.cs (ks.take k)).length + qc.length) ≤ 100000 := hsm
        go_wp2_with fail
        refine (ih W0 _ HM.out HB1.out HO1.out (by omega)).mono ?_
        rintro e w2 ⟨v', rfl, h1, h2⟩
        have H1 := Lib.hid h1
        clear h1
        go_wp2_with fail
        go_roundw
        case rel => exact ⟨k + 1, by omega, by go_num, by rw [HT.out, List.length_append, ← Nat.add_assoc, ← List.append_assoc]; exact H1.out, h2⟩
        case measure => simp [intOf]; omega
      · have hkl : k = ks.length := by omega
        have HF := Lib.hid (show Kids.cs (ks.take k) = cs from by rw [hkl, List.take_length, HE.out])
        clear hkl
        go_wp2_with fail
        go_ret
        refine ⟨_, rfl, ?_, hb⟩
        rw [← HF.out]
        exact HO1.out
theorem gather_nil (vo : Value) (w : World) : Calls Try.prog 68 #[.pointer none, vo] w fun e w' => e = .returned vo ∧ w' = w := by
  go_enter Try.func68, Try.ntmps68
  go_wp2_with fail
  refine (none_nil _).mono ?_
  rintro e w1 ⟨rfl, rfl⟩
  go_wp2_with fail
  go_ret
  exact ⟨rfl, rfl⟩
/-- What Chunks hands back. -/
def ChunksP (cs : List ByteArray) (w : World) (e : Ending) (w' : World) : Prop :=
  ∃ A c, e = .returned (.slice A cs.length c) ∧ cs.length ≤ c ∧ Row w' 1 A cs.length (strs cs) ∧ Ex w w'
theorem Kn.len_small {h : Nat} {w : World} {v : Value} {cs : List ByteArray} (x : Kn h w v cs) (hs : (flat cs).size ≤ 100000) : cs.length ≤ 100000 := by
  have := flat_many x.fit
  omega
set_option maxHeartbeats 400000 in
theorem chunks_calls {v : Value} {cs : List ByteArray} (w : World) (x : Tr w v cs) (hs : (flat cs).size ≤ 100000) : Calls Try.prog 37 #[v] w (ChunksP cs w) := by
  rcases x with ⟨rfl, rfl⟩ | ⟨h, x⟩
  · go_enter Try.func37, Try.ntmps37
    go_wp2_with fail
    refine (gather_nil _ _).mono ?_
    rintro e w1 ⟨rfl, rfl⟩
    go_wp2_with fail
    go_ret
    exact ⟨_, _, rfl, Nat.le_refl _, Row.nil _ _ _, Ex.refl _⟩
  · have X := Lib.hid x
    have hl := x.len_small hs
    clear x hs
    go_enter Try.func37, Try.ntmps37
    go_wp2_with fail
    refine (gather_calls (l := []) (n := 0) w w X.out (Ex.refl _) (World.ownsRow_nil _ _ _ _) (by omega)).mono ?_
    rintro e w1 ⟨v', rfl, h1, h2⟩
    rw [Nat.zero_add, List.nil_append] at h1
    have H1 := Lib.hid h1
    clear h1
    obtain ⟨A', c', hv', hc'⟩ := own_shape H1.out
    subst hv'
    go_wp2_with fail
    go_ret
    exact ⟨A', c', rfl, hc', Row.of_own H1.out, h2⟩
theorem lib_join_flat : ∀ cs : List ByteArray, Lib.join (cs.map (·.data.toList)) [] = (flat cs).data.toList
  | [] => rfl
  | x :: cs => by
    have h := lib_join_flat cs
    have hj : ∀ l : List (List UInt8), Lib.join l [] = l.flatten := by
      intro l
      cases l with
      | nil => rfl
      | cons y l => rw [Lib.join_cons]; simp [Lib.joinTail]
    rw [hj] at h ⊢
    rw [List.map_cons, List.flatten_cons, h, flat]
    rw [ByteArray.data_append]
    simp
theorem ba_of_list (s : ByteArray) : (⟨s.data.toList.toArray⟩ : ByteArray) = s := by cases s; rfl
set_option maxHeartbeats 400000 in
theorem text_calls {v : Value} {cs : List ByteArray} (w : World) (x : Tr w v cs) (hs : (flat cs).size ≤ 100000) : Calls Try.prog 18 #[v] w fun e w' => e = .returned (.string (flat cs)) ∧ Ex w w' := by
  have X := Lib.hid x
  have hl : cs.length ≤ 100000 := by
    rcases x with ⟨_, rfl⟩ | ⟨h, x⟩
    · simp
    · exact x.len_small hs
  have HF := Lib.hid (lib_join_flat cs)
  clear x
  go_enter Try.func18, Try.ntmps18
  go_wp2_with fail
  refine (chunks_calls _ X.out hs).mono ?_
  rintro e w1 ⟨A, c, rfl, hc, hr, hb⟩
  have HR := Lib.hid hr
  clear hr
  go_wp2_with fail
  by_cases h0 : cs.length = 0
  · have hcs : cs = [] := List.eq_nil_of_length_eq_zero h0
    subst hcs
    refine (join0_calls _ _ _ _).mono ?_
    rintro e w2 ⟨rfl, rfl⟩
    go_wp2_with fail
    go_ret
    exact ⟨rfl, hb⟩
  · obtain ⟨b, o, rfl, hcell⟩ := HR.out.2 (by omega)
    have hcells : ∀ (j : Nat) x, cs[j]? = some x → w1.cell? ⟨b, o + j, none⟩ = some (.string x) := fun j x hj => hcell j _ (by unfold strs; rw [List.getElem?_map, hj]; rfl)
    have hx := List.getElem?_eq_getElem (l := cs) (i := 0) (by omega)
    have hlt := World.block_lt_of_cell? w1 _ (hcells 0 _ hx)
    have HC := Lib.hid hcells
    clear hcells hcell hx
    refine (join_calls b o c cs ⟨#[]⟩ w1 HC.out hlt (by omega) hc (by show (Lib.join _ []).length ≤ _; rw [HF.out, Array.length_toList]; show (flat cs).size ≤ _; omega)).mono ?_
    rintro e w2 ⟨rfl, hb2⟩
    go_wp2_with fail
    go_ret
    refine ⟨?_, hb.trans hb2⟩
    show Ending.returned (.string ⟨(Lib.join _ []).toArray⟩) = _
    rw [HF.out, ba_of_list]
end Go.Proofs.Ytkckeogdijdohaa
