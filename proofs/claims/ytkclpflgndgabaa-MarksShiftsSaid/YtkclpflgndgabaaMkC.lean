/- Walks: the library's slices.Clone, slices.IndexFunc at marks. -/
import Derived.Test.YtkclpflgndgabaaMkB
import Derived.Test.YtkclpflgndgabaaRun
namespace Go.Proofs.Ytkclpflgndgabaa
open Go.RowKit
theorem info_mk : (Try.prog.info? 24).map (fun i => (i.zero, i.size, i.bytes)) = some (some (.agg #[.string ⟨#[]⟩, .int .i64 0]), 2, 24) := by kernel_rfl
theorem Mk.one (l : List Mk) : ∀ u ∈ Mk.cs l, u.oneCell' = true := by
  intro u hu
  obtain ⟨m, _, hm⟩ := List.mem_flatMap.1 hu
  simp only [Mk.enc, List.mem_cons, List.not_mem_nil, or_false] at hm
  rcases hm with rfl | rfl <;> rfl
theorem Mk.cs_append (l l' : List Mk) : Mk.cs (l ++ l') = Mk.cs l ++ Mk.cs l' := List.flatMap_append
section
variable {w w0 : World} {ops : Array Oper} {rest : List Oper} {o : Oper} {a : Act} {Q : Exit → Act → World → Prop} {K : Act → World → Prop} {E : Prop}
/-- append at lists of marks. -/
theorem app_mk (hgd : o.guard = none) (s x : Operand) (ho : o.op = .call { callee := .builtin .append, args := #[s, x], argTypes := #[22, 22] }) (base : Nat) (v : Value) (n : Nat) (l : List Mk) (hs : a.eval s = v) (hown : w.ownsRow base 24 2 v n (Mk.cs l))
    (A : Option Addr) (m c : Nat) (l' : List Mk) (hx : a.eval x = .slice A m c) (hr : Row w 2 A m (Mk.cs l')) (hsm : n + m ≤ 1000000) (hbase : base ≤ w.heap.size) (hb : Below base w0 w)
    (h : ∀ v' w', w'.ownsRow base 24 2 v' (n + m) (Mk.cs (l ++ l')) → Below base w0 w' → w.grownBy w' v.ownBlock → (v'.ownBlock = v.ownBlock ∨ v'.ownBlock = some w.heap.size) → wpList Try.prog ops Q rest (a.put o.dst v') w') : wpList Try.prog ops Q (o :: rest) a w := by
  obtain ⟨i0, hi0, hz0, hz1, hz2⟩ := info_parts info_mk
  refine wpList_append_row w hgd s x _ ho base _ i0 _ 2 24 Try.underlying22 hi0 hz0 hz1 hz2 rfl (by decide) v n (Mk.cs l) hs hown A m c (Mk.cs l') hx hr (Mk.one l') (by unfold maxLen; omega) (by omega) hbase ?_
  intro v' w' h1 h2 h3
  exact h v' w' (by rw [Mk.cs_append]; exact h1) (below_append hb hown (Nat.le_refl _) hbase h2) h2 h3
theorem app_mk_step (hgd : o.guard = none) (s x : Operand) (ho : o.op = .call { callee := .builtin .append, args := #[s, x], argTypes := #[22, 22] }) (base : Nat) (v : Value) (n : Nat) (l : List Mk) (hs : a.eval s = v) (hown : w.ownsRow base 24 2 v n (Mk.cs l))
    (A : Option Addr) (m c : Nat) (l' : List Mk) (hx : a.eval x = .slice A m c) (hr : Row w 2 A m (Mk.cs l')) (hsm : n + m ≤ 1000000) (hbase : base ≤ w.heap.size) (hb : Below base w0 w)
    (h : ∀ v' w', w'.ownsRow base 24 2 v' (n + m) (Mk.cs (l ++ l')) → Below base w0 w' → w.grownBy w' v.ownBlock → (v'.ownBlock = v.ownBlock ∨ v'.ownBlock = some w.heap.size) → K (a.put o.dst v') w') :
    if Region.wanted o (yielded ops a.tmps) = true then Oper.wp Try.prog o a w K Q else E := by
  obtain ⟨i0, hi0, hz0, hz1, hz2⟩ := info_parts info_mk
  refine step_append_row w hgd s x _ ho base _ i0 _ 2 24 Try.underlying22 hi0 hz0 hz1 hz2 rfl (by decide) v n (Mk.cs l) hs hown A m c (Mk.cs l') hx hr (Mk.one l') (by unfold maxLen; omega) (by omega) hbase ?_
  intro v' w' h1 h2 h3
  exact h v' w' (by rw [Mk.cs_append]; exact h1) (below_append hb hown (Nat.le_refl _) hbase h2) h2 h3
end
set_option maxHeartbeats 400000 in
theorem clone_calls (A : Option Addr) (n c : Nat) (l : List Mk) (w : World) (hn : n ≤ 100000) (hm : Row w 2 A n (Mk.cs l)) (h0 : A = none → c = 0) :
    Calls Try.prog 29 #[.slice A n c] w fun e w' => ∃ v, e = .returned v ∧ w'.ownsRow w.heap.size 24 2 v n (Mk.cs l) ∧ Ex w w' := by
  obtain ⟨i0, hi0, hz0, hz1, hz2⟩ := info_parts info_mk
  have heq := fun (w : World) (a : Option Addr) (n c : Nat) => Lib.run_eql_slice_nil (P := Try.prog) w 22 24 a n c 0 0 Try.underlying22
  cases A with
  | none =>
    have hl := hm.mk_len
    have : n = 0 := by
      rcases Nat.eq_zero_or_pos n with h | h
      · exact h
      · obtain ⟨b, o, e, _⟩ := hm.2 h; cases e
    subst this
    have hcs : Mk.cs l = [] := List.eq_nil_of_length_eq_zero (by rw [Mk.cs_len, hl])
    have Hcs := Lib.hid hcs
    clear hcs hm hl h0
    go_enter Try.func29, Try.ntmps29
    go_wp2
    go_ret
    exact ⟨_, rfl, by rw [Hcs.out]; exact World.ownsRow_nil _ _ _ _, Ex.refl _⟩
  | some a =>
    have Hm := Lib.hid hm
    clear hm h0
    go_enter Try.func29, Try.ntmps29
    go_wp2_with (first | (at_builtin; refine app_mk rfl (.tmp 5) (.tmp 6) rfl w.heap.size (.slice (some ⟨w.heap.size, 0, none⟩) 0 0) 0 [] rfl (own_lit w _ 2) (some a) n c l rfl (Hm.out.ex (ex_alloc (Ex.refl w) _)) (by omega) (by simp) (ex_alloc (Ex.refl w) _) ?_; intro v' w' ho hb hg _))
    go_ret
    exact ⟨v', rfl, by simpa using ho, hb⟩
end Go.Proofs.Ytkclpflgndgabaa
