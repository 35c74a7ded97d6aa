/- Maps as rising lists of keys and values. No program is named here. -/
import Derived.Test.YtcffkmlnbnjibaaGreatOff
import Derived.Maps.Ext
import Derived.Maps.OwnSet
import Derived.Maps.RangeWalk
import Derived.Sort.KeysCollected
import Derived.Lib.SlKeysI
import Derived.Shelf.SlMaps.Clone
namespace Go.Proofs.YtcffkmlnbnjibaaGreat
open Go.RowKit Go.Maps
/-- An element as it is. -/
def heldV (v : Value) : Option (DataW Value × List MemPlace) := some (.held v, [])
def asD (l : List (Lit × Value)) : DataW Value := .map (l.map fun p => (p.1, .held p.2))
/-- Block b is a map of just these entries. -/
def MapB (w : World) (P : Program) (k : TypeId) (b : Nat) (l : List (Lit × Value)) : Prop := w.ownsMap P k heldV b l.length (asD l)
def hasL (l : List (Lit × Value)) (kl : Lit) : Bool := l.any fun p => p.1.sameKey kl
def getL (l : List (Lit × Value)) (kl : Lit) (z : Value) : Value := match l.find? (fun p => p.1.sameKey kl) with | some p => p.2 | none => z
def insL (x : Lit × Value) : List (Lit × Value) → List (Lit × Value)
  | [] => [x]
  | y :: r => if x.1.before y.1 then x :: y :: r else y :: insL x r
def delL (kl : Lit) (l : List (Lit × Value)) : List (Lit × Value) := l.filter fun p => !p.1.sameKey kl
def stoL (kl : Lit) (v : Value) (l : List (Lit × Value)) : List (Lit × Value) := insL (kl, v) (delL kl l)
theorem asD_ins (x : Lit × Value) : ∀ l : List (Lit × Value), DataW.insert (x.1, .held x.2) (l.map fun p => (p.1, DataW.held p.2)) = (insL x l).map fun p => (p.1, .held p.2)
  | [] => rfl
  | y :: r => by
    show (if x.1.before y.1 then _ else _) = List.map _ (if x.1.before y.1 then x :: y :: r else y :: insL x r)
    by_cases h : x.1.before y.1 = true
    · rw [if_pos h, if_pos h]; rfl
    · rw [if_neg h, if_neg h, asD_ins x r]; rfl
theorem asD_del (kl : Lit) (l : List (Lit × Value)) : (asD l).del kl = asD (delL kl l) := by
  unfold asD delL DataW.del
  simp only [List.filter_map]
  rfl
theorem asD_put (kl : Lit) (v : Value) (l : List (Lit × Value)) : (asD l).put kl (.held v) = asD (stoL kl v l) := by
  unfold stoL
  rw [asD, DataW.put, asD, ← asD_ins]
  simp only [List.filter_map, delL]
  rfl
theorem asD_has (kl : Lit) (l : List (Lit × Value)) : Maps.has (asD l) kl = hasL l kl := by
  show List.any (l.map fun p => (p.1, DataW.held p.2)) (fun p => p.1.sameKey kl) = _
  rw [List.any_map]
  rfl
theorem asD_at (kl : Lit) (l : List (Lit × Value)) (z : Value) : (asD l).atKey kl (.held z) = .held (getL l kl z) := by
  unfold asD getL DataW.atKey
  simp only [List.find?_map]
  cases h : l.find? (fun p => p.1.sameKey kl) with
  | none =>
    have : List.find? ((fun p => p.1.sameKey kl) ∘ fun p : Lit × Value => (p.1, DataW.held p.2)) l = none := h
    rw [this]; rfl
  | some p =>
    have : List.find? ((fun p => p.1.sameKey kl) ∘ fun p : Lit × Value => (p.1, DataW.held p.2)) l = some p := h
    rw [this]; rfl
theorem asD_size (l : List (Lit × Value)) : Maps.size (asD l) = l.length := by
  show (l.map fun p => (p.1, DataW.held p.2)).length = _
  rw [List.length_map]
section
variable {P : Program} {k : TypeId} {w w' : World} {b n : Nat} {l : List (Lit × Value)}
theorem MapB.of {D : DataW Value} (h : w.ownsMap P k heldV b n D) (hD : D = asD l) : MapB w P k b l := by
  subst hD
  obtain ⟨es, clock, hb, F, _, hd⟩ := h
  refine ⟨es, clock, hb, F, ?_, hd⟩
  have h1 : Maps.size (asD l) = es.size := by rw [hd]; simp [Maps.size, length_sorted]
  rw [asD_size] at h1
  omega
theorem MapB.lt (h : MapB w P k b l) : b < w.heap.size := World.ownsMap.lt h
theorem MapB.keep (h : MapB w P k b l) (hb : w'.heap[b]? = w.heap[b]?) : MapB w' P k b l := by
  obtain ⟨es, clock, h1, h2⟩ := h
  exact ⟨es, clock, hb.trans h1, h2⟩
theorem MapB.ex (h : MapB w P k b l) (hb : Ex w w') : MapB w' P k b l := h.keep (hb.block b h.lt)
theorem MapB.off {F : Nat → Prop} (h : MapB w P k b l) (hb : Off F w w') (hF : ¬ F b) : MapB w' P k b l := h.keep (hb.block b h.lt hF)
theorem MapB.made (w : World) (P : Program) (k : TypeId) : MapB (w.alloc (.map #[] 0)) P k w.heap.size [] := World.ownsMap_made w P k heldV
theorem MapB.rises (h : MapB w P k b l) (K : Keyed P k) : l.Pairwise fun p q => p.1.before q.1 = true := by
  obtain ⟨es, he, hp, _⟩ := World.ownsMap.canon h K
  unfold asD at he
  injection he with he
  subst he
  rw [List.pairwise_map] at hp
  exact hp
theorem MapB.keys (h : MapB w P k b l) : ∀ p ∈ l, ∃ v, keyOf P k v = some p.1 := by
  obtain ⟨es, he, hk⟩ := World.ownsMap.keysOf h
  unfold asD at he
  injection he with he
  subst he
  intro p hp
  exact hk (p.1, .held p.2) (List.mem_map.2 ⟨p, hp, rfl⟩)
/-- 'v, ok := m[k]'. -/
theorem MapB.look_ok {t e : TypeId} (h : MapB w P k b l) (K : Keyed P k) (ht : P.underlying t = some (.map k e)) {z : Value} (hz : (zeroValue e).run P w = .ok z w) {key : Value} {kl : Lit} (hkey : keyOf P k key = some kl) :
    (Instr.lookup t (.map (some b)) key true).run P w = .ok (.tuple #[getL l kl z, .bool (hasL l kl)]) w := by
  obtain ⟨v, ps, hrun, hv⟩ := World.ownsMap.look_ok h K ht hz (zd := .held z) (zp := []) rfl hkey
  rw [asD_at, asD_has] at *
  unfold heldV at hv
  simp only [Option.some.injEq, Prod.mk.injEq, DataW.held.injEq] at hv
  rw [hrun, hv.1]
/-- 'm[k]'. -/
theorem MapB.look {t e : TypeId} (h : MapB w P k b l) (K : Keyed P k) (ht : P.underlying t = some (.map k e)) {z : Value} (hz : (zeroValue e).run P w = .ok z w) {key : Value} {kl : Lit} (hkey : keyOf P k key = some kl) :
    (Instr.lookup t (.map (some b)) key false).run P w = .ok (getL l kl z) w := by
  obtain ⟨v, ps, hrun, hv⟩ := World.ownsMap.lookup h K ht hz (zd := .held z) (zp := []) rfl hkey
  rw [asD_at] at hv
  unfold heldV at hv
  simp only [Option.some.injEq, Prod.mk.injEq, DataW.held.injEq] at hv
  rw [hrun, hv.1]
/-- 'm[k] = v'. -/
theorem MapB.store {t e : TypeId} (h : MapB w P k b l) (K : Keyed P k) (ht : P.underlying t = some (.map k e)) (hn : l.length < maxLen) {key : Value} (val : Value) {kl : Lit} (hkey : keyOf P k key = some kl) :
    ∃ w', (Instr.mapUpdate t (.map (some b)) key val).run P w = .ok () w' ∧ MapB w' P k b (stoL kl val l) ∧ w.grownBy w' (some b) := by
  obtain ⟨w', hrun, h1, h2⟩ := World.ownsMap.store h K ht hn hkey (val := val) (d := .held val) (ps := []) rfl
  exact ⟨w', hrun, MapB.of h1 (asD_put kl val l), h2.grown⟩
/-- 'delete(m, k)'. -/
theorem MapB.drop {t e : TypeId} (h : MapB w P k b l) (K : Keyed P k) (ht : P.underlying t = some (.map k e)) {key : Value} {kl : Lit} (hkey : keyOf P k key = some kl) (ty : TypeId) :
    ∃ w', (Builtin.delete_ #[t, k] ty #[.map (some b), key]).run P w = .ok (.tuple #[]) w' ∧ MapB w' P k b (delL kl l) ∧ w.grownBy w' (some b) := by
  obtain ⟨w', hrun, h1, h2⟩ := World.ownsMap.drop h K ht hkey ty
  exact ⟨w', hrun, MapB.of h1 (asD_del kl l), h2.grown⟩
end
/-- 'delete(m, k)' whose run is known. -/
theorem wpList_delete_run {P : Program} {w w' : World} {ops : Array Oper} {rest : List Oper} {o : Oper} {a : Act} {Q : Exit → Act → World → Prop} (hg : o.guard = none) (m x : Operand) (t k : TypeId) (hop : o.op = Op.call { callee := Callee.builtin Builtin.delete, args := #[m, x], argTypes := #[t, k] })
    (mv xv : Value) (hm : a.eval m = mv) (hx : a.eval x = xv) (hrun : (Builtin.delete_ #[t, k] o.type #[mv, xv]).run P w = .ok (.tuple #[]) w') (K : wpList P ops Q rest (a.put o.dst (.tuple #[])) w') : wpList P ops Q (o :: rest) a w := by
  refine wpList_plain hg fun K' hK' => ?_
  unfold Oper.wp
  simp [execOp, hop, resolve, invoke, builtin, hm, hx, hrun, Result.andThen]
  exact hK' _ _ K
theorem asD_at_mem {l : List (Lit × Value)} {kl : Lit} {y : DataW Value} (h : ∀ zd, (asD l).atKey kl zd = y) : ∃ v, (kl, v) ∈ l ∧ y = .held v := by
  have h1 := h .nil
  unfold asD DataW.atKey at h1
  simp only [List.find?_map] at h1
  cases hf : List.find? ((fun p => p.1.sameKey kl) ∘ fun p : Lit × Value => (p.1, DataW.held p.2)) l with
  | none =>
    have h2 := h (.held .nilFunc)
    unfold asD DataW.atKey at h2
    simp only [List.find?_map, hf, Option.map_none] at h1 h2
    rw [← h2] at h1
    cases h1
  | some p =>
    have hm := List.mem_of_find?_eq_some hf
    have hk0 : p.1.sameKey kl = true := by
      have := List.find?_some hf
      simpa using this
    have hk := WideAt.sameKey_eq hk0
    simp only [hf, Option.map_some] at h1
    refine ⟨p.2, ?_, h1.symm⟩
    have : p.1 = kl := hk
    rw [← this]; exact hm
/-- 'range m' under way: left: which keys are still to come. -/
def MapR (w : World) (P : Program) (k : TypeId) (b r : Nat) (l : List (Lit × Value)) (left : Lit → Bool) (cnt : Nat) : Prop := w.ranges P k heldV b r l.length (asD l) left cnt
theorem MapR.kept {P : Program} {k : TypeId} {w w' : World} {b r : Nat} {l : List (Lit × Value)} {left : Lit → Bool} {cnt : Nat} (h : MapR w P k b r l left cnt) {row : Option Nat} (hg : w.grownBy w' row) (hb : some b ≠ row) (hr : some r ≠ row) : MapR w' P k b r l left cnt := World.ranges.kept h hg hb hr
theorem MapR.map {P : Program} {k : TypeId} {w : World} {b r : Nat} {l : List (Lit × Value)} {left : Lit → Bool} {cnt : Nat} (h : MapR w P k b r l left cnt) : MapB w P k b l := World.ranges.owns h
theorem MapR.left_eq {P : Program} {k : TypeId} {w : World} {b r : Nat} {l : List (Lit × Value)} {left : Lit → Bool} {cnt : Nat} (h : MapR w P k b r l left cnt) : w.rangeLeft b r = cnt := World.ranges.left_eq h
theorem MapR.lt {P : Program} {k : TypeId} {w : World} {b r : Nat} {l : List (Lit × Value)} {left : Lit → Bool} {cnt : Nat} (h : MapR w P k b r l left cnt) : r < w.heap.size := World.ranges.lt h
section
variable {P : Program} (w : World) {ops : Array Oper} {rest : List Oper} {o : Oper} {a : Act} {Q : Exit → Act → World → Prop}
theorem wpList_range_map (hg : o.guard = none) (m : Operand) (t : TypeId) (hop : o.op = Op.range t m) (k e : TypeId) (K : Keyed P k) (ht : P.underlying t = some (.map k e)) (b : Nat) (l : List (Lit × Value)) (hm : a.eval m = .map (some b)) (h : MapB w P k b l)
    (hK : ∀ w', MapR w' P k b w.heap.size l (hasL l) l.length → w.grownBy w' none → w'.heap.size = w.heap.size + 1 → wpList P ops Q rest (a.put o.dst (.pointer (some ⟨w.heap.size, 0, none⟩))) w') : wpList P ops Q (o :: rest) a w :=
  wpList_range_own w hg m t hop k e K ht heldV b l.length (asD l) hm h fun w' h1 h2 h3 => hK w' (by
    have e1 : Maps.has (asD l) = hasL l := funext fun kl => asD_has kl l
    rw [e1, asD_size] at h1
    exact h1) h2 h3
theorem wpList_next_map {α : Type} (hg : o.guard = none) (it : Operand) (hop : o.op = Op.next it false) (k : TypeId) (K : Keyed P k) (mkK : α → Value) (invK : ∀ key kl, keyOf P k key = some kl → ∃ x, key = mkK x) (b r : Nat) (l : List (Lit × Value)) (left : Lit → Bool) (cnt : Nat)
    (hit : a.eval it = .pointer (some ⟨r, 0, none⟩)) (h : MapR w P k b r l left cnt)
    (hDone : cnt = 0 → (∀ kl, left kl = false) → wpList P ops Q rest (a.put o.dst (.tuple #[.bool false])) w)
    (hMore : ∀ (x : α) (kl : Lit) (v : Value) (w' : World) (cnt' : Nat), keyOf P k (mkK x) = some kl → left kl = true → (kl, v) ∈ l → MapR w' P k b r l (fun z => left z && !z.sameKey kl) cnt' → cnt' < cnt → w.grownBy w' (some r) → w'.heap.size = w.heap.size →
      (Instr.entry (.pointer (some ⟨r, 0, none⟩))).run P w' = .ok (.tuple #[mkK x, v]) w' → wpList P ops Q rest (a.put o.dst (.tuple #[.bool true, mkK x, v])) w') : wpList P ops Q (o :: rest) a w :=
  wpList_next_ranges w hg it hop k K heldV mkK id invK (fun v _ _ => ⟨v, rfl⟩) b r l.length (asD l) left cnt hit h hDone fun x c kl y w' cnt' h1 h2 h3 h4 h5 h6 h7 h8 h9 => by
    unfold heldV at h3
    simp only [Option.some.injEq] at h3
    obtain ⟨v, hv, hy⟩ := asD_at_mem h4
    rw [← h3] at hy
    simp only [DataW.held.injEq] at hy
    obtain rfl : c = v := hy
    exact hMore x kl c w' cnt' h1 h2 hv h5 h6 h7 h8 h9
/-- 'm[k] = v' at the operation. -/
theorem wpList_store_map (hg : o.guard = none) (m x v : Operand) (t : TypeId) (hop : o.op = Op.mapUpdate t m x v) (k e : TypeId) (K : Keyed P k) (ht : P.underlying t = some (.map k e)) (b : Nat) (l : List (Lit × Value)) (hm : a.eval m = .map (some b)) (h : MapB w P k b l) (hn : l.length < maxLen)
    (key val : Value) (kl : Lit) (hx : a.eval x = key) (hv : a.eval v = val) (hkey : keyOf P k key = some kl)
    (hK : ∀ w', MapB w' P k b (stoL kl val l) → w.grownBy w' (some b) → wpList P ops Q rest (a.put o.dst undef) w') : wpList P ops Q (o :: rest) a w := by
  refine wpList_plain hg fun K' hK' => ?_
  obtain ⟨w', hrun, r1, r2⟩ := h.store K ht hn val hkey
  unfold Oper.wp
  simp [execOp, hop, hm, hx, hv, hrun, Result.andThen]
  exact hK' _ _ (hK w' r1 r2)
end
end Go.Proofs.YtcffkmlnbnjibaaGreat
