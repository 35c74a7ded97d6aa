/- append at lists of strings and of tree nodes; what their rows hold. -/
import Derived.Test.YtkckeogdijdohaaVal
import Derived.Test.YtkckeogdijdohaaSto
import Derived.Deep.RegionHeld3
namespace Go.Proofs.Ytkckeogdijdohaa
open Go.RowKit
def strs (l : List ByteArray) : List Value := l.map .string
theorem strs_len (l : List ByteArray) : (strs l).length = l.length := List.length_map ..
theorem strs_app (l l' : List ByteArray) : strs (l ++ l') = strs l ++ strs l' := List.map_append
theorem strs_one (l : List ByteArray) : ∀ u ∈ strs l, u.oneCell' = true := by
  intro u hu
  obtain ⟨x, _, rfl⟩ := List.mem_map.1 hu
  rfl
/-- Pointers, as cells. -/
def Ptr (l : List Value) : Prop := ∀ u ∈ l, ∃ p, u = .pointer p
theorem Ptr.one {l : List Value} (h : Ptr l) : ∀ u ∈ l, u.oneCell' = true := by
  intro u hu
  obtain ⟨p, rfl⟩ := h u hu
  rfl
theorem info_str : (Try.prog.info? 9).map (fun i => (i.zero, i.size, i.bytes)) = some (some (.string ⟨#[]⟩), 1, 16) := by kernel_rfl
theorem info_kn : (Try.prog.info? 23).map (fun i => (i.zero, i.size, i.bytes)) = some (some (.pointer none), 1, 8) := by kernel_rfl
/-- A row's k-th cell. -/
theorem Row.at1 {w : World} {A : Option Addr} {n : Nat} {cs : List Value} (h : Row w 1 A n cs) {k : Nat} (hk : k < n) : ∃ b o, A = some ⟨b, o, none⟩ ∧ w.cell? ⟨b, o + k, none⟩ = some (cs[k]'(by rw [h.1]; omega)) := by
  obtain ⟨b, o, e, hc⟩ := h.2 (by omega)
  exact ⟨b, o, e, hc k _ (List.getElem?_eq_getElem _)⟩
theorem Row.len1 {w : World} {A : Option Addr} {n : Nat} {cs : List Value} (h : Row w 1 A n cs) : cs.length = n := by rw [h.1]; omega
section
variable {w w0 : World} {ops : Array Oper} {rest : List Oper} {o : Oper} {a : Act} {Q : Exit → Act → World → Prop} {K : Act → World → Prop} {E : Prop}
theorem app_str (hgd : o.guard = none) (s x : Operand) (ho : o.op = .call { callee := .builtin .append, args := #[s, x], argTypes := #[58, 58] }) (base : Nat) (v : Value) (n : Nat) (l : List Value) (hs : a.eval s = v) (hown : w.ownsRow base 9 1 v n l)
    (A : Option Addr) (m c : Nat) (l' : List Value) (hx : a.eval x = .slice A m c) (hr : Row w 1 A m l') (h1 : ∀ u ∈ l', u.oneCell' = true) (hsm : n + m ≤ 1000000) (hbase : base ≤ w.heap.size) (hb : Below base w0 w)
    (h : ∀ v' w', w'.ownsRow base 9 1 v' (n + m) (l ++ l') → Below base w0 w' → w.grownBy w' v.ownBlock → (v'.ownBlock = v.ownBlock ∨ v'.ownBlock = some w.heap.size) → wpList Try.prog ops Q rest (a.put o.dst v') w') : wpList Try.prog ops Q (o :: rest) a w := by
  obtain ⟨i0, hi0, hz0, hz1, hz2⟩ := info_parts info_str
  refine wpList_append_row w hgd s x _ ho base _ i0 _ 1 16 Try.underlying58 hi0 hz0 hz1 hz2 rfl (by decide) v n l hs hown A m c l' hx hr h1 (by unfold maxLen; omega) (by omega) hbase ?_
  intro v' w' h1 h2 h3
  exact h v' w' h1 (below_append hb hown (Nat.le_refl _) hbase h2) h2 h3
theorem app_kn (hgd : o.guard = none) (s x : Operand) (ho : o.op = .call { callee := .builtin .append, args := #[s, x], argTypes := #[57, 57] }) (base : Nat) (v : Value) (n : Nat) (l : List Value) (hs : a.eval s = v) (hown : w.ownsRow base 23 1 v n l)
    (A : Option Addr) (m c : Nat) (l' : List Value) (hx : a.eval x = .slice A m c) (hr : Row w 1 A m l') (h1 : Ptr l') (hsm : n + m ≤ 1000000) (hbase : base ≤ w.heap.size) (hb : Below base w0 w)
    (h : ∀ v' w', w'.ownsRow base 23 1 v' (n + m) (l ++ l') → Below base w0 w' → w.grownBy w' v.ownBlock → (v'.ownBlock = v.ownBlock ∨ v'.ownBlock = some w.heap.size) → wpList Try.prog ops Q rest (a.put o.dst v') w') : wpList Try.prog ops Q (o :: rest) a w := by
  obtain ⟨i0, hi0, hz0, hz1, hz2⟩ := info_parts info_kn
  refine wpList_append_row w hgd s x _ ho base _ i0 _ 1 8 Try.underlying57 hi0 hz0 hz1 hz2 rfl (by decide) v n l hs hown A m c l' hx hr h1.one (by unfold maxLen; omega) (by omega) hbase ?_
  intro v' w' h1 h2 h3
  exact h v' w' h1 (below_append hb hown (Nat.le_refl _) hbase h2) h2 h3
theorem app_kn_step (hgd : o.guard = none) (s x : Operand) (ho : o.op = .call { callee := .builtin .append, args := #[s, x], argTypes := #[57, 57] }) (base : Nat) (v : Value) (n : Nat) (l : List Value) (hs : a.eval s = v) (hown : w.ownsRow base 23 1 v n l)
    (A : Option Addr) (m c : Nat) (l' : List Value) (hx : a.eval x = .slice A m c) (hr : Row w 1 A m l') (h1 : Ptr l') (hsm : n + m ≤ 1000000) (hbase : base ≤ w.heap.size) (hb : Below base w0 w)
    (h : ∀ v' w', w'.ownsRow base 23 1 v' (n + m) (l ++ l') → Below base w0 w' → w.grownBy w' v.ownBlock → (v'.ownBlock = v.ownBlock ∨ v'.ownBlock = some w.heap.size) → K (a.put o.dst v') w') :
    if Region.wanted o (yielded ops a.tmps) = true then Oper.wp Try.prog o a w K Q else E := by
  obtain ⟨i0, hi0, hz0, hz1, hz2⟩ := info_parts info_kn
  refine step_append_row w hgd s x _ ho base _ i0 _ 1 8 Try.underlying57 hi0 hz0 hz1 hz2 rfl (by decide) v n l hs hown A m c l' hx hr h1.one (by unfold maxLen; omega) (by omega) hbase ?_
  intro v' w' h1 h2 h3
  exact h v' w' h1 (below_append hb hown (Nat.le_refl _) hbase h2) h2 h3
end
/-- A slice literal's row. -/
theorem row_lit (w : World) (cs : List Value) (t : TypeId) : Row (w.alloc (.cells cs.toArray t)) 1 (some ⟨w.heap.size, 0, none⟩) cs.length cs := by
  refine ⟨by omega, fun _ => ⟨_, 0, rfl, fun j u hu => ?_⟩⟩
  rw [(Blk.new w cs t).cell, Nat.zero_add, hu]
end Go.Proofs.Ytkckeogdijdohaa
