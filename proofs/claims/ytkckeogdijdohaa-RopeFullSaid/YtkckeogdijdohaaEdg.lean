/- The greatest edge of a list of chunks: plain Lean; walks: weld.edge. -/
import Derived.Test.YtkckeogdijdohaaSplB
import Derived.Laws.EntriesVeiled
namespace Go.Proofs.Ytkckeogdijdohaa
open Go.RowKit
def edgeL : List ByteArray → Int → Nat
  | [], _ => 0
  | c :: cs, p => if p < c.size then backU c p else c.size + edgeL cs (p - c.size)
theorem edge_left {a b : ByteArray} {k : Nat} (h0 : 0 < k) (h : k < a.size) : edge (a ++ b) (k : Int) = edge a (k : Int) := by
  rw [edge_mid h0 (by rw [ByteArray.size_append]; omega), edge_mid h0 h, byteAt_left h]
theorem edge_right {a b : ByteArray} {k : Nat} (h0 : 0 < k) (h : k ≤ b.size) : edge (a ++ b) ((a.size + k : Nat) : Int) = edge b (k : Int) := by
  rcases Nat.lt_or_ge k b.size with hlt | hge
  · rw [edge_mid (by omega) (by rw [ByteArray.size_append]; omega), edge_mid h0 hlt, byteAt_right hlt]
  · rw [edge_end (.inr (by rw [ByteArray.size_append]; omega)), edge_end (.inr (by omega))]
theorem edge_seam {a b : ByteArray} (hb : validU b = true) : edge (a ++ b) (a.size : Int) = true := by
  have := ((valid_iff.1 hb).right a).is_edge
  rwa [Nat.add_zero] at this
theorem backF_left {a b : ByteArray} : ∀ {k : Nat}, k < a.size → backF (a ++ b) k = backF a k
  | 0, _ => rfl
  | k + 1, h => by
    unfold backF
    rw [edge_left (by omega) h, backF_left (by omega)]
theorem backF_right {a b : ByteArray} (hb : validU b = true) (ha : 0 < a.size) : ∀ {k : Nat}, k ≤ b.size → backF (a ++ b) (a.size + k) = a.size + backF b k
  | 0, _ => by
    rw [Nat.add_zero, backF_at (edge_seam hb)]; rfl
  | k + 1, h => by
    have e : backF (a ++ b) (a.size + (k + 1)) = if edge (a ++ b) ((a.size + (k + 1) : Nat) : Int) then a.size + (k + 1) else backF (a ++ b) (a.size + k) := rfl
    rw [e, edge_right (by omega) h, backF_right hb ha (by omega)]
    show _ = a.size + if edge b ((k + 1 : Nat) : Int) then k + 1 else backF b k
    split <;> rfl
theorem backU_app {a b : ByteArray} {p : Int} (hb : validU b = true) (ha : 0 < a.size) : backU (a ++ b) p = if p < a.size then backU a p else a.size + backU b (p - a.size) := by
  have hs := ByteArray.size_append (a := a) (b := b)
  by_cases h : p < a.size
  · rw [if_pos h]
    unfold backU
    rw [if_neg (by omega), if_neg (by omega)]
    exact backF_left (by omega)
  · rw [if_neg h]
    unfold backU
    by_cases h2 : ((a ++ b).size : Int) ≤ p
    · rw [if_pos h2, if_pos (by omega)]; omega
    · rw [if_neg h2, if_neg (by omega)]
      have e : p.toNat = a.size + (p - (a.size : Int)).toNat := by omega
      rw [e]
      exact backF_right hb ha (by omega)
theorem backU_edge (s : ByteArray) (p : Int) : edge s (backU s p : Nat) = true := by
  unfold backU
  split
  · exact edge_end (.inr rfl)
  · exact backF_edge s _
theorem flat_valid : ∀ {cs : List ByteArray}, (∀ x ∈ cs, fitsB x = true) → validU (flat cs) = true
  | [], _ => rfl
  | c :: _, h => valid_app (fitsB_iff.1 (h c (List.mem_cons_self ..))).2.2 (flat_valid fun x hx => h x (List.mem_cons_of_mem _ hx))
theorem edgeL_back : ∀ {cs : List ByteArray} {p : Int}, (∀ x ∈ cs, fitsB x = true) → edgeL cs p = backU (flat cs) p
  | [], p, _ => by
    have := backU_le (flat []) p
    have e : (flat []).size = 0 := rfl
    show 0 = _
    omega
  | c :: cs, p, h => by
    have hc := fitsB_iff.1 (h c (List.mem_cons_self ..))
    have ht := fun x hx => h x (List.mem_cons_of_mem _ hx)
    rw [flat, backU_app (flat_valid ht) (by omega), edgeL, edgeL_back ht]
theorem edgeL_le {cs : List ByteArray} {p : Int} (h : ∀ x ∈ cs, fitsB x = true) : edgeL cs p ≤ (flat cs).size := by
  rw [edgeL_back h]; exact backU_le _ _
theorem edgeL_app : ∀ {a b : List ByteArray} {p : Int}, edgeL (a ++ b) p = if p < (flat a).size ∧ a ≠ [] then edgeL a p else (flat a).size + edgeL b (p - (flat a).size)
  | [], b, p => by
    have e : (flat []).size = 0 := rfl
    rw [if_neg (fun h => h.2 rfl), e, Nat.zero_add, List.nil_append]
    congr 1
    omega
  | c :: a, b, p => by
    have hs := flat_size_cons c a
    have ih := edgeL_app (a := a) (b := b) (p := p - c.size)
    simp only [List.cons_append, edgeL]
    by_cases h : p < c.size
    · rw [if_pos h, if_pos ⟨by omega, by simp⟩, if_pos h]
    · rw [if_neg h, ih]
      by_cases h2 : p < (flat (c :: a)).size
      · rw [if_pos (show p < (flat (c :: a)).size ∧ c :: a ≠ [] from ⟨h2, by simp⟩), if_neg h]
        by_cases ha : a = []
        · subst ha
          have e : (flat [c]).size = c.size := by rw [flat_one]
          omega
        · rw [if_pos ⟨by omega, ha⟩]
      · rw [if_neg (show ¬ (p < (flat (c :: a)).size ∧ c :: a ≠ []) from fun h3 => h2 h3.1), if_neg (fun h3 => by have := h3.1; omega), hs]
        have e : p - (c.size : Int) - ((flat a).size : Int) = p - ((c.size + (flat a).size : Nat) : Int) := by omega
        rw [e]; omega
theorem okAt_zero {cs : List ByteArray} (h : ∀ x ∈ cs, fitsB x = true) : okAt cs 0 := by
  cases cs with
  | nil => trivial
  | cons c cs =>
    have hc := fitsB_iff.1 (h c (List.mem_cons_self ..))
    simp only [okAt]
    rw [if_neg (by omega)]
    exact .inl (Int.le_refl _)
theorem okAt_edge : ∀ {cs : List ByteArray} {p : Int}, (∀ x ∈ cs, fitsB x = true) → okAt cs (edgeL cs p : Nat)
  | [], _, _ => trivial
  | c :: cs, p, h => by
    have ht := fun x hx => h x (List.mem_cons_of_mem _ hx)
    by_cases hp : p < c.size
    · have hE : edgeL (c :: cs) p = backU c p := if_pos hp
      rw [hE]
      simp only [okAt]
      have hle := backU_le c p
      by_cases h2 : (c.size : Int) ≤ (backU c p : Nat)
      · rw [if_pos h2]
        have e : ((backU c p : Nat) : Int) - (c.size : Int) = 0 := by omega
        rw [e]; exact okAt_zero ht
      · rw [if_neg h2]
        exact .inr (backU_edge c p)
    · have hE : edgeL (c :: cs) p = c.size + edgeL cs (p - c.size) := if_neg hp
      rw [hE]
      simp only [okAt]
      rw [if_pos (by omega)]
      have e : ((c.size + edgeL cs (p - c.size) : Nat) : Int) - (c.size : Int) = (edgeL cs (p - c.size) : Nat) := by omega
      rw [e]; exact okAt_edge ht
theorem edgeL_ge {cs : List ByteArray} {p : Int} (h : ((flat cs).size : Int) ≤ p) : edgeL cs p = (flat cs).size := by
  have := edgeL_app (a := cs) (b := []) (p := p)
  rw [List.append_nil, if_neg (fun h1 => by have := h1.1; omega)] at this
  rw [this]; rfl
theorem edgeL_one (s : ByteArray) (p : Int) : edgeL [s] p = backU s p := by
  simp only [edgeL]
  by_cases h : p < s.size
  · rw [if_pos h]
  · rw [if_neg h]
    unfold backU
    rw [if_pos (by omega)]; rfl
def downV (B : Nat) : Value := .func (.func 76) #[] #[.pointer (some ⟨B, 0, none⟩)]
set_option maxRecDepth 100000 in
set_option maxHeartbeats 1000000 in
theorem down_calls : ∀ {h : Nat} {v : Value} {cs : List ByteArray} (B : Nat) (p : Int) (w : World), Kn h w v cs → w.cell? ⟨B, 0, none⟩ = some (downV B) → (flat cs).size ≤ 100000 → 0 ≤ p → p ≤ 9223372036854775807 → Calls Try.prog 76 #[v, .int .i64 p, .pointer (some ⟨B, 0, none⟩)] w fun e w' => e = .returned (.int .i64 (edgeL cs p : Nat)) ∧ Ex w w' := by
  intro h
  induction h with
  | zero =>
    intro v cs B p w x hB hs h1 h2
    have X := Lib.hid x
    obtain ⟨g, s, hv, e1, hf, hnd⟩ := x
    subst e1
    have HE := Lib.hid (edgeL_one s p)
    have HF := Lib.hid (flat_one s)
    have hz : s.size ≤ 100000 := by rw [flat_one] at hs; exact hs
    clear hv hf hnd hs hB
    go_enter Try.func76, Try.ntmps76
    go_wp2_with fail
    refine (kids_leaf _ X.out).mono ?_
    rintro e w1 ⟨rfl, rfl⟩
    go_wp2_with fail
    refine (text_at s _ (.inr ⟨0, X.out⟩) HF.out hz).mono ?_
    rintro e w2 ⟨rfl, hb2⟩
    go_wp2_with fail
    refine (back_calls s p _ (by omega)).mono ?_
    rintro e w3 ⟨rfl, rfl⟩
    go_wp2_with fail
    go_ret
    exact ⟨ret_int (by rw [HE.out]), hb2⟩
  | succ h ih =>
    intro v cs B p w x hB hs h1 h2
    have X := Lib.hid x
    have HS := Lib.hid hs
    have IH := Lib.hid (fun (v : Value) (cs : List ByteArray) => ih (v := v) (cs := cs))
    have HBC := Lib.hid hB
    clear x ih hs hB
    go_enter Try.func76, Try.ntmps76
    go_wp2_with fail
    refine (kids_calls _ X.out).mono ?_
    rintro e w4 ⟨A, c, ks, rfl, hc, h2', h8, hcs, hr, hk, hb4⟩
    have HR := Lib.hid hr
    have HK := Lib.hid hk
    have HB4 := Lib.hid hb4
    have HCS := Lib.hid hcs
    have d0 : ((ks.length : Int) == 0) = false := by rw [beq_eq_false_iff_ne]; omega
    clear hr hk hb4 hcs
    go_wp2_with fail
    go_loopw [7, 9, 10, 22] (fun v7 _ _ v22 wr => ∃ k : Nat, k ≤ ks.length ∧ v22 = .int .i64 (k : Int) ∧ v7 = .int .i64 ((flat (Kids.cs (ks.take k))).size : Int) ∧ ((flat (Kids.cs (ks.take k))).size : Int) ≤ p ∧ Ex w4 wr) (fun _ _ _ v22 _ => ks.length - (intOf v22).toNat)
    case atStart => exact ⟨0, by omega, rfl, rfl, h1, Ex.refl _⟩
    case round =>
      obtain ⟨k, hk, rfl, rfl, hle, hb⟩ := hrel
      by_cases hlt : k < ks.length
      · obtain ⟨b, o, rfl, hcell⟩ := (HR.out.ex hb).kid hlt
        have hq := (HK.out ks[k] (List.getElem_mem hlt)).ex hb
        have hpos := hq.pos
        have hcut := Kids.split_at hlt
        have hsz := HS.out
        rw [HCS.out, hcut, flat_size_app, flat_size_app] at hsz
        obtain ⟨pq, hpq⟩ := hq.ptr
        rw [hpq] at hcell
        have hFT := Fl.take hlt
        have hEL : p - (flat (Kids.cs (ks.take k))).size < (flat ks[k].2).size → edgeL cs p = (flat (Kids.cs (ks.take k))).size + edgeL ks[k].2 (p - (flat (Kids.cs (ks.take k))).size) := by
          intro h3
          rw [HCS.out, hcut, edgeL_app, if_neg (fun h4 => by have := h4.1; omega), edgeL_app, if_pos ⟨h3, fun e => by rw [e] at hpos; simp at hpos⟩]
        obtain ⟨A0, hA0⟩ : ∃ A0, A0 = (flat (Kids.cs (ks.take k))).size := ⟨_, rfl⟩
        obtain ⟨Q0, hQ0⟩ : ∃ Q0, Q0 = (flat ks[k].2).size := ⟨_, rfl⟩
        rw [← hA0, ← hQ0] at hFT hEL
        rw [← hA0] at hle hsz ⊢
        rw [← hQ0] at hsz
        have HFT := Lib.hid hFT
        have HEL := Lib.hid hEL
        have hAQ : A0 + Q0 ≤ 100000 := by omega
        have HSQ := Lib.hid (show (flat ks[k].2).size ≤ 100000 from by rw [← hQ0]; omega)
        have HQK := Lib.hid (show Kn h wr (.pointer pq) ks[k].2 from by rw [← hpq]; exact hq)
        have HCT := Lib.hid (fun w' (x : Kn h w' (.pointer pq) ks[k].2) => by have := count_at w' x; rw [← hQ0] at this; exact this)
        have hbl := edgeL_le (p := p - A0) hq.fit
        rw [← hQ0] at hbl
        have hfd := fun (a b c : Int) (w : World) => field_b a b c w
        generalize ks[k].2 = qc at *
        clear hq hpos hcut hpq hsz hFT hEL hA0 hQ0
        by_cases c1 : p - A0 < Q0
        · have d1 : decide (p - (A0 : Int) < (Q0 : Int)) = true := decide_eq_true c1
          go_wp2_with fail
          refine (HCT.out _ HQK.out).mono ?_
          rintro e w5 ⟨rfl, hb5⟩
          have HQ5 := Lib.hid (HQK.out.ex hb5)
          have HX5 := Lib.hid ((HB4.out.trans hb).trans hb5)
          have hcB := HX5.out.cell HBC.out
          have HCB := Lib.hid hcB
          unfold downV at hcB
          clear hb5
          go_wp2_with fail
          refine (IH.out _ _ B (p - A0) _ HQ5.out HCB.out HSQ.out (by omega) (by omega)).mono ?_
          rintro e w6 ⟨rfl, hb6⟩
          go_wp2_with fail
          go_ret
          exact ⟨ret_int (by rw [HEL.out c1]; omega), HX5.out.trans hb6⟩
        · have d1 : decide (p - (A0 : Int) < (Q0 : Int)) = false := decide_eq_false c1
          go_wp2_with fail
          refine (HCT.out _ HQK.out).mono ?_
          rintro e w5 ⟨rfl, hb5⟩
          go_wp2_with fail
          go_roundw
          case rel => exact ⟨k + 1, by omega, by go_num, by rw [HFT.out]; go_num, by rw [HFT.out]; omega, hb.trans hb5⟩
          case measure => simp [intOf]; omega
      · have hkl : k = ks.length := by omega
        rw [hkl, List.take_length, ← HCS.out] at hle ⊢
        have HG := Lib.hid (edgeL_ge hle)
        clear hkl hle
        go_wp2_with fail
        go_ret
        exact ⟨ret_int (by rw [HG.out]), HB4.out.trans hb⟩
theorem edgeL_low {cs : List ByteArray} {p : Int} (hf : ∀ x ∈ cs, fitsB x = true) (h : p ≤ 0) : edgeL cs p = 0 := by
  cases cs with
  | nil => rfl
  | cons c cs =>
    have hc := fitsB_iff.1 (hf c (List.mem_cons_self ..))
    simp only [edgeL]
    rw [if_pos (by omega)]
    unfold backU
    rw [if_neg (by omega), show p.toNat = 0 by omega]; rfl
set_option maxHeartbeats 400000 in
theorem edge_tr {v : Value} {cs : List ByteArray} (p : Int) (w : World) (x : Tr w v cs) (hs : (flat cs).size ≤ 100000) (h2 : p ≤ 9223372036854775807) : Calls Try.prog 48 #[v, .int .i64 p] w fun e w' => e = .returned (.int .i64 (edgeL cs p : Nat)) ∧ Ex w w' := by
  by_cases h1 : 0 < p
  · have d1 : decide (p ≤ 0) = false := decide_eq_false (by omega)
    rcases x with ⟨rfl, rfl⟩ | ⟨h, x⟩
    · go_enter Try.func48, Try.ntmps48
      go_wp2_with fail
      refine (height_nil _).mono ?_
      rintro e w1 ⟨rfl, rfl⟩
      go_wp2_with fail
      go_ret
      exact ⟨rfl, ex_alloc (Ex.refl _) _⟩
    · have X := Lib.hid x
      have d2 : decide ((h : Int) < 0) = false := decide_eq_false (by omega)
      clear x
      go_enter Try.func48, Try.ntmps48
      go_wp2_with fail
      refine (height_calls _ (X.out.ex (ex_alloc (Ex.refl _) _))).mono ?_
      rintro e w1 ⟨rfl, rfl⟩
      go_wp2_with fail
      have hcB : (w.alloc (Obj.cells #[downV w.heap.size] 69)).cell? ⟨w.heap.size, 0, none⟩ = some (downV w.heap.size) := by
        rw [(Blk.new w [downV w.heap.size] 69).cell]; rfl
      have HCB := Lib.hid hcB
      clear hcB
      refine (down_calls w.heap.size p _ (X.out.ex (ex_alloc (Ex.refl _) _)) HCB.out hs (by omega) h2).mono ?_
      rintro e w2 ⟨rfl, hb2⟩
      go_wp2_with fail
      go_ret
      exact ⟨rfl, ex_box (Ex.refl _) hb2⟩
  · have d1 : decide (p ≤ 0) = true := decide_eq_true (by omega)
    have HE := Lib.hid (edgeL_low (p := p) x.fit (by omega))
    clear x
    go_enter Try.func48, Try.ntmps48
    go_wp2_with fail
    go_ret
    exact ⟨ret_int (by rw [HE.out]; rfl), ex_alloc (Ex.refl _) _⟩
end Go.Proofs.Ytkckeogdijdohaa
