/- The document's folders: a change more, and what comes of it. -/
import Derived.Test.YtcffkmlnbnjibaaGreatRfA
namespace Go.Proofs.YtcffkmlnbnjibaaGreat
open Go.RowKit
theorem ls_app {F : Nat → Prop} {w : World} {vs : List Value} {ls : List (List Mk)} {u : Value} {l : List Mk} (hl : vs.length = ls.length) (h : ∀ (i : Nat) (u : Value) (l : List Mk), vs[i]? = some u → ls[i]? = some l → LiV F w u l) (hu : LiV F w u l) :
    ∀ (i : Nat) (u' : Value) (l' : List Mk), (vs ++ [u])[i]? = some u' → (ls ++ [l])[i]? = some l' → LiV F w u' l' := by
  intro i u' l' h1 h2
  rcases Nat.lt_or_ge i vs.length with hi | hi
  · rw [List.getElem?_append_left hi] at h1
    rw [List.getElem?_append_left (by omega)] at h2
    exact h i u' l' h1 h2
  · have hi2 : i = vs.length := by
      have := (List.getElem?_eq_some_iff.1 h1).1
      simp at this
      omega
    subst hi2
    simp at h1
    rw [hl] at h2
    simp at h2
    rw [← h1, ← h2]
    exact hu
theorem LsV.own {F : Nat → Prop} {w : World} {base : Nat} {e : TypeId} {v : Value} {vs : List Value} {ls : List (List Mk)} (h : w.ownsRow base e 1 v ls.length vs) (hF : ∀ k, F k → k < base) (hk : ∀ (i : Nat) (u : Value) (l : List Mk), vs[i]? = some u → ls[i]? = some l → LiV F w u l) : LsV F w v ls := by
  obtain ⟨A, c, rfl, _⟩ := own_shape h
  exact ⟨A, c, vs, rfl, RowF.own h hF, hk⟩
theorem row_u {w : World} {T : TypeId} {u : Value} : Row (w.alloc (.cells #[u] T)) 1 (some ⟨w.heap.size, 0, none⟩) 1 [u] := row_lit1 w [u] T
theorem own_one {w : World} {base n : Nat} {e : TypeId} {v : Value} {cs : List Value} (h : w.ownsRow base e 1 v n cs) : ∀ x ∈ [v], x.oneCell' = true := fun x hx => by
  obtain ⟨A, c, e, _⟩ := own_shape h
  rw [List.mem_singleton.1 hx, e]; rfl
theorem Below.ex2 {w W w2 : World} {m : Nat} (h : Ex w W) (hz : W.heap.size = m) (hb : Below m W w2) : Ex w w2 := by
  subst hz
  exact Ex.trans h hb
set_option maxRecDepth 100000 in
set_option maxHeartbeats 2000000 in
theorem rfthen_calls {F : Nat → Prop} {w : World} {sl u : Value} {ls : List (List Mk)} {l : List Mk} (h : LsV F w sl ls) (hu : LiV F w u l) (hn : ls.length ≤ 10000000) (hF : ∀ k, F k → k < w.heap.size) :
    Calls Tryz.prog 127 #[.agg #[sl], u] w fun e w' => ∃ sl', e = .returned (.agg #[sl']) ∧ LsV F w' sl' (ls ++ [l]) ∧ Ex w w' := by
  obtain ⟨A, c, vs, rfl, hr, hk⟩ := h
  obtain ⟨Au, cu, eu, hu2⟩ := hu
  have hu : LiV F w u l := ⟨Au, cu, eu, hu2⟩
  have hvl : vs.length = ls.length := hr.len
  have hone := LsV.one hvl hk
  have hX := ex_two w (.cells #[.slice A ls.length c] 55) (.cells #[.slice none 0 0] 55)
  have HK := Lib.hid (blk_two w (.cells #[.slice A ls.length c] 55) [.slice none 0 0] 55)
  have c0 : ((w.alloc (.cells #[.slice A ls.length c] 55)).alloc (.cells #[.slice none 0 0] 55)).cell? ⟨w.heap.size, 0, none⟩ = some (.slice A ls.length c) := (ex_alloc (Ex.refl _) _).cell ((Blk.new w [.slice A ls.length c] 55).cell 0)
  have hz : ((w.alloc (.cells #[.slice A ls.length c] 55)).alloc (.cells #[.slice none 0 0] 55)).heap.size = w.heap.size + 1 + 1 := by simp
  have hL := own_lit ((w.alloc (.cells #[.slice A ls.length c] 55)).alloc (.cells #[.slice none 0 0] 55)) 139 1
  rw [hz] at hL
  have hR := hr.1.ex (Ex.trans hX (ex_alloc (Ex.refl _) (.cells #[] 139)))
  have hB := ex_alloc (Ex.refl ((w.alloc (.cells #[.slice A ls.length c] 55)).alloc (.cells #[.slice none 0 0] 55))) (.cells #[] 139)
  unfold Ex at hB
  rw [hz] at hB
  have hB0 : w.heap.size + 1 + 1 ≤ (((w.alloc (.cells #[.slice A ls.length c] 55)).alloc (.cells #[.slice none 0 0] 55)).alloc (.cells #[] 139)).heap.size := by simp
  have HX := Lib.hid hX
  have HR := Lib.hid hR
  have HL := Lib.hid hL
  have HB := Lib.hid hB
  have HU := Lib.hid hu
  have HO := Lib.hid hone
  have HK2 := Lib.hid hk
  have hul : u.oneCell' = true := by rw [eu]; rfl
  have HU1 := Lib.hid (show ∀ x ∈ [u], x.oneCell' = true from fun x hx => by rw [List.mem_singleton.1 hx]; exact hul)
  have hsm : 0 + ls.length ≤ 100000000 := by omega
  have hsm2 : ls.length + 1 ≤ 100000000 := by omega
  have hWm : w.heap.size + 1 + 1 ≤ w.heap.size + 1 + 1 := Nat.le_refl _
  clear hr hu hone hk hX hul hL hR hB hu2
  subst eu
  generalize l.length = lu at *
  generalize hlen : ls.length = n at *
  go_enter Tryz.func127, Tryz.ntmps127
  go_wp2_with (first
    | (at_builtin; (refine app_own 53 139 (.slice none 0 0) 1 24 Tryz.underlying53 info_ls rfl (by decide) (by decide) rfl (.tmp 5) (.tmp 7) rfl (w.heap.size + 1 + 1) _ 0 [] rfl HL.out A n c vs rfl HR.out HO.out hsm hB0 HB.out ?_); intro v1 w1 o1 b1; rw [Nat.zero_add, List.nil_append] at o1; obtain ⟨A1, c1, rfl, _⟩ := own_shape o1; have O1 := Lib.hid o1; have B1 := Lib.hid b1; have z1 := Nat.le_trans (Nat.le_of_eq hz.symm) b1.size; clear o1 b1)
    | (at_builtin; refine app_own 53 139 (.slice none 0 0) 1 24 Tryz.underlying53 info_ls rfl (by decide) (by decide) rfl (.tmp 8) (.tmp 10) rfl (w.heap.size + 1 + 1) _ _ _ rfl (O1.out.alloc _) (some ⟨w1.heap.size, 0, none⟩) 1 1 [.slice Au lu cu] rfl row_u HU1.out hsm2 (Nat.le_trans z1 (ex_alloc (Ex.refl w1) _).size) (B1.out.alloc z1 _) ?_; intro v2 w2 o2 b2; obtain ⟨A2, c2, rfl, _⟩ := own_shape o2; have O2 := Lib.hid o2; have B2 := Lib.hid b2; clear o2 b2)
    | (refine st_agg 55 rfl (.tmp 4) (.tmp 12) rfl (w.heap.size + 1) [.slice none 0 0] [.slice A2 (n + 1) c2] rfl rfl info_f9 rfl (own_one O2.out) (HK.out.below B2.out (Nat.lt_succ_self _)) (Below.ex2 HX.out hz B2.out) (Nat.le_succ _) ?_; intro w3 k3 x3 g3))
  (try simp only [Exit.inBlock, Exit.then])
  refine bodyPost_ret (ret_agg1 rfl _ _ (w.heap.size + 1) [.slice A2 (n + 1) c2] rfl k3 Tryz.underlying55 info_f9) rfl ?_
  have hlen2 : (ls ++ [l]).length = n + 1 := by rw [List.length_append, hlen]; rfl
  refine ⟨_, rfl, ?_, x3⟩
  have o3 := O2.out
  rw [← hlen2] at o3 ⊢
  exact LsV.own (own_off o3 (off_grown g3) (fun k hk e => by have := own_ge o3 k hk; omega)) (fun k hk => by have := hF k hk; omega) (ls_app (by rw [hvl, hlen]) (fun i u' l' h1 h2 => (HK2.out i u' l' h1 h2).ex x3) (HU.out.ex x3))
/-- What is done to a folder of the document: its lists. -/
theorem rfnew_f_calls {F : Nat → Prop} (w : World) (hF : ∀ k, F k → k < w.heap.size) : Calls Tryz.prog 84 #[] w fun e w' => ∃ sl, e = .returned (.agg #[sl]) ∧ LsV F w' sl [[]] ∧ Ex w w' := by
  have hz : (w.alloc (.cells #[.slice none 0 0] 55)).heap.size = w.heap.size + 1 := by simp
  have HK := Lib.hid ((Blk.new w [.slice none 0 0] 55).ex (ex_alloc (Ex.refl _) (.cells #[.slice none 0 0] 139)))
  have HX := Lib.hid (ex_two w (.cells #[.slice none 0 0] 55) (.cells #[.slice none 0 0] 139))
  have HN := Lib.hid (blk_two w (.cells #[.slice none 0 0] 55) [.slice none 0 0] 139)
  have hle := Nat.le_refl w.heap.size
  have hone : ∀ x ∈ [Value.slice (some ⟨w.heap.size + 1, 0, none⟩) 1 1], x.oneCell' = true := fun x hx => by rw [List.mem_singleton.1 hx]; rfl
  go_enter Tryz.func84, Tryz.ntmps84
  go_wp2_with (refine st_agg 55 rfl (.tmp 0) (.tmp 2) rfl w.heap.size [.slice none 0 0] [.slice (some ⟨w.heap.size + 1, 0, none⟩) 1 1] rfl rfl info_f9 rfl hone HK.out HX.out hle ?_; intro w3 k3 x3 g3)
  (try simp only [Exit.inBlock, Exit.then])
  refine bodyPost_ret (ret_agg1 rfl _ _ w.heap.size [.slice (some ⟨w.heap.size + 1, 0, none⟩) 1 1] rfl k3 Tryz.underlying55 info_f9) rfl ?_
  have hN := HN.out.grown g3 (by intro e; injection e with e; omega)
  refine ⟨_, rfl, ⟨some ⟨w.heap.size + 1, 0, none⟩, 1, [.slice none 0 0], rfl, ⟨hN.row (k := 1) (n := 1) (by decide), fun _ a ha hf => ?_⟩, fun i u l h1 h2 => ?_⟩, x3⟩
  · injection ha with ha
    subst ha
    have := hF _ hf
    simp only at this
    omega
  · have hi : i = 0 := by have := (List.getElem?_eq_some_iff.1 h2).1; simpa using this
    subst hi
    injection h1 with h1
    injection h2 with h2
    subst h1; subst h2
    exact ⟨none, 0, rfl, Row.nil _ _ _, fun h => absurd h (by decide)⟩
end Go.Proofs.YtcffkmlnbnjibaaGreat
