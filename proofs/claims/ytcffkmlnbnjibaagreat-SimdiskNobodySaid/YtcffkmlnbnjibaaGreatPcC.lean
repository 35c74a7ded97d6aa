/- Walks: the sectors in which two texts are unlike. -/
import Derived.Test.YtcffkmlnbnjibaaGreatPcB
namespace Go.Proofs.YtcffkmlnbnjibaaGreat
open Go.RowKit
theorem info_i1 : (Tryz.prog.info? 3).map (fun i => (i.zero, i.size, i.bytes)) = some (some (.int .i64 0), 1, 8) := by kernel_rfl
def nats (l : List Nat) : List Value := l.map fun (n : Nat) => .int .i64 (n : Int)
theorem nats_len (l : List Nat) : (nats l).length = l.length := List.length_map ..
theorem nats_one (l : List Nat) : ∀ u ∈ nats l, u.oneCell' = true := by
  intro u hu
  obtain ⟨x, _, rfl⟩ := List.mem_map.1 hu
  rfl
theorem nats_app (l l' : List Nat) : nats (l ++ l') = nats l ++ nats l' := List.map_append
theorem app_nat {w w0 : World} {ops : Array Oper} {rest : List Oper} {o : Oper} {a : Act} {Q : Exit → Act → World → Prop} (hgd : o.guard = none) (s x : Operand) (ho : o.op = .call { callee := .builtin .append, args := #[s, x], argTypes := #[107, 107] }) (base : Nat) (v : Value) (n : Nat) (l : List Value) (hs : a.eval s = v) (hown : w.ownsRow base 3 1 v n l)
    (A : Option Addr) (m c : Nat) (l' : List Value) (hx : a.eval x = .slice A m c) (hr : Row w 1 A m l') (h1 : ∀ u ∈ l', u.oneCell' = true) (hsm : n + m ≤ 1000000) (hbase : base ≤ w.heap.size) (hb : Below base w0 w)
    (h : ∀ v' w', w'.ownsRow base 3 1 v' (n + m) (l ++ l') → Below base w0 w' → w.grownBy w' v.ownBlock → (v'.ownBlock = v.ownBlock ∨ v'.ownBlock = some w.heap.size) → wpList Tryz.prog ops Q rest (a.put o.dst v') w') : wpList Tryz.prog ops Q (o :: rest) a w := by
  obtain ⟨i0, hi0, hz0, hz1, hz2⟩ := info_parts info_i1
  refine wpList_append_row w hgd s x _ ho base _ i0 _ 1 8 Tryz.underlying107 hi0 hz0 hz1 hz2 rfl (by decide) v n l hs hown A m c l' hx hr h1 (by unfold maxLen; omega) (by omega) hbase ?_
  intro v' w' h1 h2 h3
  exact h v' w' h1 (below_append hb hown (Nat.le_refl _) hbase h2) h2 h3
theorem row_lit1 (w : World) (cs : List Value) (t : TypeId) : Row (w.alloc (.cells cs.toArray t)) 1 (some ⟨w.heap.size, 0, none⟩) cs.length cs := by
  refine ⟨by omega, fun _ => ⟨_, 0, rfl, fun j u hu => ?_⟩⟩
  rw [(Blk.new w cs t).cell, Nat.zero_add, hu]
/-- Is the k-th sector unlike? -/
def unS (a b : ByteArray) (k : Nat) : Bool := !decide (secS a k = secS b k)
def unlikeS (a b : ByteArray) : List Nat := (List.range (cntS (max a.size b.size))).filter (unS a b)
theorem own_ex' {w w' : World} {base k n : Nat} {e : TypeId} {v : Value} {cs : List Value} (h : w.ownsRow base e k v n cs) (hb : Ex w w') : w'.ownsRow base e k v n cs := by
  rcases own_blk h with ⟨rfl, rfl, rfl⟩ | ⟨g, cap, cur, rfl, h1, h2, h3, h4, h5, h6⟩
  · exact World.ownsRow_nil _ _ _ _
  · exact own_of_blk (h2.ex hb) h1 h3 h4 h5 h6
set_option maxRecDepth 100000 in
set_option maxHeartbeats 1000000 in
theorem unlike_calls (a b : ByteArray) (w : World) (ha : a.size ≤ 900000) (hb' : b.size ≤ 900000) :
    Calls Tryz.prog 155 #[.string a, .string b] w fun e w' => ∃ v, e = .returned v ∧ w'.ownsRow w.heap.size 3 1 v (unlikeS a b).length (nats (unlikeS a b)) ∧ Ex w w' := by
  rcases Nat.lt_or_ge a.size b.size with h | h
  · have hM : max a.size b.size = b.size := by omega
    have hN : cntS (max a.size b.size) = cntS b.size := by rw [hM]
    obtain ⟨N, hNN⟩ : ∃ N, N = cntS b.size := ⟨_, rfl⟩
    have hNb : N ≤ 30000 := by rw [hNN]; unfold cntS; omega
    have HN := Lib.hid (hN.trans hNN.symm)
    have HP := Lib.hid (fun w => hNN ▸ pcount_calls b.size w (by omega))
    have c0 : a.size < b.size := by omega
    clear hM hN hNN h
    go_enter Tryz.func155, Tryz.ntmps155
    go_wp2_with fail
    refine (HP.out _).mono ?_
    rintro e w1 ⟨rfl, hb1⟩
    go_wp2_with fail
    go_loopw [5, 13] (fun v5 v13 wr => ∃ k : Nat, k ≤ N ∧ v13 = .int .i64 (k : Int) ∧ wr.ownsRow w.heap.size 3 1 v5 ((List.range k).filter (unS a b)).length (nats ((List.range k).filter (unS a b))) ∧ Ex w wr) (fun _ v13 _ => N - (intOf v13).toNat)
    case atStart => exact ⟨0, by omega, rfl, World.ownsRow_nil _ _ _ _, hb1⟩
    case round =>
      obtain ⟨k, hk, rfl, hr, hb⟩ := hrel
      have HR := Lib.hid hr
      have HX := Lib.hid hb
      clear hr hb hb1
      by_cases hlt : k < N
      · go_wp2_with fail
        refine (pslice_calls a k _ (by omega)).mono ?_
        rintro e w2 ⟨rfl, hb2⟩
        have HX2 := Lib.hid (HX.out.trans hb2)
        have HR2 := Lib.hid (own_ex' HR.out hb2)
        clear hb2
        go_wp2_with fail
        refine (pslice_calls b k _ (by omega)).mono ?_
        rintro e w3 ⟨rfl, hb3⟩
        have HX3 := Lib.hid (HX2.out.trans hb3)
        have HR3 := Lib.hid (own_ex' HR2.out hb3)
        clear hb3
        have hsz3 : w.heap.size ≤ w3.heap.size := HX3.out.size
        by_cases hxy : secS a k = secS b k
        · have HF : Hid ((List.range (k + 1)).filter (unS a b) = (List.range k).filter (unS a b)) := by
            rw [List.range_succ, List.filter_append, List.filter_cons_of_neg (by unfold unS; rw [decide_eq_true hxy]; decide)]
            exact List.append_nil _
          rw [hxy]
          generalize secS b k = y
          clear hxy
          go_wp2_with fail
          exact ⟨⟨k + 1, by omega, by go_num, by rw [HF.out]; exact HR3.out, HX3.out⟩, by simp [intOf]; omega⟩
        · have HF : Hid ((List.range (k + 1)).filter (unS a b) = (List.range k).filter (unS a b) ++ [k]) := by
            rw [List.range_succ, List.filter_append, List.filter_cons_of_pos (by unfold unS; rw [decide_eq_false hxy]; decide)]
            exact rfl
          have hne : ((secS a k).toList == (secS b k).toList) = false := by
            rw [beq_eq_false_iff_ne]; intro h; exact hxy (ba_data (by rw [ByteArray.toList_eq, ByteArray.toList_eq] at h; exact Array.ext' h))
          have hLl : ((List.range k).filter (unS a b)).length ≤ k := by have := List.length_filter_le (unS a b) (List.range k); rwa [List.length_range] at this
          generalize hL : (List.range k).filter (unS a b) = L at *
          generalize secS b k = y at *
          generalize secS a k = x at *
          clear hxy
          go_wp2_with (at_builtin; go_must (refine app_nat rfl (.tmp 23) (.tmp 25) rfl w.heap.size u5 L.length (nats L) rfl (own_ex' HR3.out (ex_alloc (Ex.refl _) _)) (some ⟨w3.heap.size, 0, none⟩) 1 1 (nats [k]) rfl (row_lit1 w3 (nats [k]) 3) (nats_one _) (by omega) (by simp; omega) (ex_alloc HX3.out _) ?_; intro v4 w4 hr4 hb4 _ _; have HR4 := Lib.hid hr4; have HX4 := Lib.hid hb4; clear hr4 hb4))
          exact ⟨⟨k + 1, by omega, by go_num, by rw [HF.out, List.length_append, nats_app]; exact HR4.out, HX4.out⟩, by simp [intOf]; omega⟩
      · have hkN : k = N := by omega
        subst hkN
        go_wp2_with fail
        go_ret
        refine ⟨_, rfl, ?_, HX.out⟩
        unfold unlikeS
        rw [HN.out]
        exact HR.out
  · have hM : max a.size b.size = a.size := by omega
    have hN : cntS (max a.size b.size) = cntS a.size := by rw [hM]
    obtain ⟨N, hNN⟩ : ∃ N, N = cntS a.size := ⟨_, rfl⟩
    have hNb : N ≤ 30000 := by rw [hNN]; unfold cntS; omega
    have HN := Lib.hid (hN.trans hNN.symm)
    have HP := Lib.hid (fun w => hNN ▸ pcount_calls a.size w (by omega))
    have c0 : ¬ a.size < b.size := by omega
    clear hM hN hNN h
    go_enter Tryz.func155, Tryz.ntmps155
    go_wp2_with fail
    refine (HP.out _).mono ?_
    rintro e w1 ⟨rfl, hb1⟩
    go_wp2_with fail
    go_loopw [5, 13] (fun v5 v13 wr => ∃ k : Nat, k ≤ N ∧ v13 = .int .i64 (k : Int) ∧ wr.ownsRow w.heap.size 3 1 v5 ((List.range k).filter (unS a b)).length (nats ((List.range k).filter (unS a b))) ∧ Ex w wr) (fun _ v13 _ => N - (intOf v13).toNat)
    case atStart => exact ⟨0, by omega, rfl, World.ownsRow_nil _ _ _ _, hb1⟩
    case round =>
      obtain ⟨k, hk, rfl, hr, hb⟩ := hrel
      have HR := Lib.hid hr
      have HX := Lib.hid hb
      clear hr hb hb1
      by_cases hlt : k < N
      · go_wp2_with fail
        refine (pslice_calls a k _ (by omega)).mono ?_
        rintro e w2 ⟨rfl, hb2⟩
        have HX2 := Lib.hid (HX.out.trans hb2)
        have HR2 := Lib.hid (own_ex' HR.out hb2)
        clear hb2
        go_wp2_with fail
        refine (pslice_calls b k _ (by omega)).mono ?_
        rintro e w3 ⟨rfl, hb3⟩
        have HX3 := Lib.hid (HX2.out.trans hb3)
        have HR3 := Lib.hid (own_ex' HR2.out hb3)
        clear hb3
        have hsz3 : w.heap.size ≤ w3.heap.size := HX3.out.size
        by_cases hxy : secS a k = secS b k
        · have HF : Hid ((List.range (k + 1)).filter (unS a b) = (List.range k).filter (unS a b)) := by
            rw [List.range_succ, List.filter_append, List.filter_cons_of_neg (by unfold unS; rw [decide_eq_true hxy]; decide)]
            exact List.append_nil _
          rw [hxy]
          generalize secS b k = y
          clear hxy
          go_wp2_with fail
          exact ⟨⟨k + 1, by omega, by go_num, by rw [HF.out]; exact HR3.out, HX3.out⟩, by simp [intOf]; omega⟩
        · have HF : Hid ((List.range (k + 1)).filter (unS a b) = (List.range k).filter (unS a b) ++ [k]) := by
            rw [List.range_succ, List.filter_append, List.filter_cons_of_pos (by unfold unS; rw [decide_eq_false hxy]; decide)]
            exact rfl
          have hne : ((secS a k).toList == (secS b k).toList) = false := by
            rw [beq_eq_false_iff_ne]; intro h; exact hxy (ba_data (by rw [ByteArray.toList_eq, ByteArray.toList_eq] at h; exact Array.ext' h))
          have hLl : ((List.range k).filter (unS a b)).length ≤ k := by have := List.length_filter_le (unS a b) (List.range k); rwa [List.length_range] at this
          generalize hL : (List.range k).filter (unS a b) = L at *
          generalize secS b k = y at *
          generalize secS a k = x at *
          clear hxy
          go_wp2_with (at_builtin; go_must (refine app_nat rfl (.tmp 23) (.tmp 25) rfl w.heap.size u5 L.length (nats L) rfl (own_ex' HR3.out (ex_alloc (Ex.refl _) _)) (some ⟨w3.heap.size, 0, none⟩) 1 1 (nats [k]) rfl (row_lit1 w3 (nats [k]) 3) (nats_one _) (by omega) (by simp; omega) (ex_alloc HX3.out _) ?_; intro v4 w4 hr4 hb4 _ _; have HR4 := Lib.hid hr4; have HX4 := Lib.hid hb4; clear hr4 hb4))
          exact ⟨⟨k + 1, by omega, by go_num, by rw [HF.out, List.length_append, nats_app]; exact HR4.out, HX4.out⟩, by simp [intOf]; omega⟩
      · have hkN : k = N := by omega
        subst hkN
        go_wp2_with fail
        go_ret
        refine ⟨_, rfl, ?_, HX.out⟩
        unfold unlikeS
        rw [HN.out]
        exact HR.out
end Go.Proofs.YtcffkmlnbnjibaaGreat
