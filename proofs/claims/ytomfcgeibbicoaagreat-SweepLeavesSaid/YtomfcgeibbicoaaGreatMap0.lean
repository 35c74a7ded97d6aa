/- Maps as rising lists of keys and values. No program is named here. -/
import Derived.Test.YtomfcgeibbicoaaGreatOff
import Derived.Maps.Ext
import Derived.Maps.OwnSet
import Derived.Maps.RangeWalk
import Derived.Sort.KeysCollected
import Derived.Lib.SlKeysI
import Derived.Shelf.SlMaps.Clone
import Derived.Test.YtomfcgeibbicoaaGreatMk0
namespace Go.Proofs.YtomfcgeibbicoaaGreat
open Go.RowKit Go.Maps
/-- An element as it is. -/
def heldV (v : Value) : Option (DataW Value × List MemPlace) := some (.held v, [])
def asD (l : List (Lit × Value)) : DataW Value := .map (l.map fun p => (p.1, .held p.2))
/-- Block b is a map of just these entries. -/
def MapB (w : World) (P : Program) (k : TypeId) (b : Nat) (l : List (Lit × Value)) : Prop := w.ownsMap P k heldV b l.length (asD l)
def hasL (l : List (Lit × Value)) (kl : Lit) : Bool := l.any fun p => p.1.sameKey kl
def getL (l : List (Lit × Value)) (kl : Lit) (z : Value) : Value := match l.find? (fun p => p.1.sameKey kl) with | some p => p.2 | none => z
def insL (x : Lit × Value) : List (Lit × Value) → List (Lit × Value)
  | [] => [x]
  | y :: r => if x.1.before y.1 then x :: y :: r else y :: insL x r
def delL (kl : Lit) (l : List (Lit × Value)) : List (Lit × Value) := l.filter fun p => !p.1.sameKey kl
def stoL (kl : Lit) (v : Value) (l : List (Lit × Value)) : List (Lit × Value) := insL (kl, v) (delL kl l)
theorem asD_ins (x : Lit × Value) : ∀ l : List (Lit × Value), DataW.insert (x.1, .held x.2) (l.map fun p => (p.1, DataW.held p.2)) = (insL x l).map fun p => (p.1, .held p.2)
  | [] => rfl
  | y :: r => by
    show (if x.1.before y.1 then _ else _) = List.map _ (if x.1.before y.1 then x :: y :: r else y :: insL x r)
    by_cases h : x.1.before y.1 = true
    · rw [if_pos h, if_pos h]; rfl
    · rw [if_neg h, if_neg h, asD_ins x r]; rfl
theorem asD_del (kl : Lit) (l : List (Lit × Value)) : (asD l).del kl = asD (delL kl l) := by
  unfold asD delL DataW.del
  simp only [List.filter_map]
  rfl
theorem asD_put (kl : Lit) (v : Value) (l : List (Lit × Value)) : (asD l).put kl (.held v) = asD (stoL kl v l) := by
  unfold stoL
  rw [asD, DataW.put, asD, ← asD_ins]
  simp only [List.filter_map, delL]
  rfl
theorem asD_has (kl : Lit) (l : List (Lit × Value)) : Maps.has (asD l) kl = hasL l kl := by
  show List.any (l.map fun p => (p.1, DataW.held p.2)) (fun p => p.1.sameKey kl) = _
  rw [List.any_map]
  rfl
theorem asD_at (kl : Lit) (l : List (Lit × Value)) (z : Value) : (asD l).atKey kl (.held z) = .held (getL l kl z) := by
  unfold asD getL DataW.atKey
  simp only [List.find?_map]
  cases h : l.find? (fun p => p.1.sameKey kl) with
  | none =>
    have : List.find? ((fun p => p.1.sameKey kl) ∘ fun p : Lit × Value => (p.1, DataW.held p.2)) l = none := h
    rw [this]; rfl
  | some p =>
    have : List.find? ((fun p => p.1.sameKey kl) ∘ fun p : Lit × Value => (p.1, DataW.held p.2)) l = some p := h
    rw [this]; rfl
theorem asD_size (l : List (Lit × Value)) : Maps.size (asD l) = l.length := by
  show (l.map fun p => (p.1, DataW.held p.2)).length = _
  rw [List.length_map]
section
variable {P : Program} {k : TypeId} {w w' : World} {b n : Nat} {l : List (Lit × Value)}
theorem MapB.of {D : DataW Value} (h : w.ownsMap P k heldV b n D) (hD : D = asD l) : MapB w P k b l := by
  subst hD
  obtain ⟨es, clock, hb, F, _, hd⟩ := h
  refine ⟨es, clock, hb, F, ?_, hd⟩
  have h1 : Maps.size (asD l) = es.size := by rw [hd]; simp [Maps.size, length_sorted]
  rw [asD_size] at h1
  omega
theorem MapB.lt (h : MapB w P k b l) : b < w.heap.size := World.ownsMap.lt h
theorem MapB.keep (h : MapB w P k b l) (hb : w'.heap[b]? = w.heap[b]?) : MapB w' P k b l := by
  obtain ⟨es, clock, h1, h2⟩ := h
  exact ⟨es, clock, hb.trans h1, h2⟩
theorem MapB.ex (h : MapB w P k b l) (hb : Ex w w') : MapB w' P k b l := h.keep (hb.block b h.lt)
theorem MapB.off {F : Nat → Prop} (h : MapB w P k b l) (hb : Off F w w') (hF : ¬ F b) : MapB w' P k b l := h.keep (hb.block b h.lt hF)
theorem MapB.made (w : World) (P : Program) (k : TypeId) : MapB (w.alloc (.map #[] 0)) P k w.heap.size [] := World.ownsMap_made w P k heldV
theorem MapB.rises (h : MapB w P k b l) (K : Keyed P k) : l.Pairwise fun p q => p.1.before q.1 = true := by
  obtain ⟨es, he, hp, _⟩ := World.ownsMap.canon h K
  unfold asD at he
  injection he with he
  subst he
  rw [List.pairwise_map] at hp
  exact hp
theorem MapB.keys (h : MapB w P k b l) : ∀ p ∈ l, ∃ v, keyOf P k v = some p.1 := by
  obtain ⟨es, he, hk⟩ := World.ownsMap.keysOf h
  unfold asD at he
  injection he with he
  subst he
  intro p hp
  exact hk (p.1, .held p.2) (List.mem_map.2 ⟨p, hp, rfl⟩)
/-- 'v, ok := m[k]'. -/
theorem MapB.look_ok {t e : TypeId} (h : MapB w P k b l) (K : Keyed P k) (ht : P.underlying t = some (.map k e)) {z : Value} (hz : (zeroValue e).run P w = .ok z w) {key : Value} {kl : Lit} (hkey : keyOf P k key = some kl) :
    (Instr.lookup t (.map (some b)) key true).run P w = .ok (.tuple #[getL l kl z, .bool (hasL l kl)]) w := by
  obtain ⟨v, ps, hrun, hv⟩ := World.ownsMap.look_ok h K ht hz (zd := .held z) (zp := []) rfl hkey
  rw [asD_at, asD_has] at *
  unfold heldV at hv
  simp only [Option.some.injEq, Prod.mk.injEq, DataW.held.injEq] at hv
  rw [hrun, hv.1]
/-- 'm[k]'. -/
theorem MapB.look {t e : TypeId} (h : MapB w P k b l) (K : Keyed P k) (ht : P.underlying t = some (.map k e)) {z : Value} (hz : (zeroValue e).run P w = .ok z w) {key : Value} {kl : Lit} (hkey : keyOf P k key = some kl) :
    (Instr.lookup t (.map (some b)) key false).run P w = .ok (getL l kl z) w := by
  obtain ⟨v, ps, hrun, hv⟩ := World.ownsMap.lookup h K ht hz (zd := .held z) (zp := []) rfl hkey
  rw [asD_at] at hv
  unfold heldV at hv
  simp only [Option.some.injEq, Prod.mk.injEq, DataW.held.injEq] at hv
  rw [hrun, hv.1]
/-- 'm[k] = v'. -/
theorem MapB.store {t e : TypeId} (h : MapB w P k b l) (K : Keyed P k) (ht : P.underlying t = some (.map k e)) (hn : l.length < maxLen) {key : Value} (val : Value) {kl : Lit} (hkey : keyOf P k key = some kl) :
    ∃ w', (Instr.mapUpdate t (.map (some b)) key val).run P w = .ok () w' ∧ MapB w' P k b (stoL kl val l) ∧ w.grownBy w' (some b) := by
  obtain ⟨w', hrun, h1, h2⟩ := World.ownsMap.store h K ht hn hkey (val := val) (d := .held val) (ps := []) rfl
  exact ⟨w', hrun, MapB.of h1 (asD_put kl val l), h2.grown⟩
/-- 'delete(m, k)'. -/
theorem MapB.drop {t e : TypeId} (h : MapB w P k b l) (K : Keyed P k) (ht : P.underlying t = some (.map k e)) {key : Value} {kl : Lit} (hkey : keyOf P k key = some kl) (ty : TypeId) :
    ∃ w', (Builtin.delete_ #[t, k] ty #[.map (some b), key]).run P w = .ok (.tuple #[]) w' ∧ MapB w' P k b (delL kl l) ∧ w.grownBy w' (some b) := by
  obtain ⟨w', hrun, h1, h2⟩ := World.ownsMap.drop h K ht hkey ty
  exact ⟨w', hrun, MapB.of h1 (asD_del kl l), h2.grown⟩
end
/-- 'delete(m, k)' whose run is known. -/
theorem wpList_delete_run {P : Program} {w w' : World} {ops : Array Oper} {rest : List Oper} {o : Oper} {a : Act} {Q : Exit → Act → World → Prop} (hg : o.guard = none) (m x : Operand) (t k : TypeId) (hop : o.op = Op.call { callee := Callee.builtin Builtin.delete, args := #[m, x], argTypes := #[t, k] })
    (mv xv : Value) (hm : a.eval m = mv) (hx : a.eval x = xv) (hrun : (Builtin.delete_ #[t, k] o.type #[mv, xv]).run P w = .ok (.tuple #[]) w') (K : wpList P ops Q rest (a.put o.dst (.tuple #[])) w') : wpList P ops Q (o :: rest) a w := by
  refine wpList_plain hg fun K' hK' => ?_
  unfold Oper.wp
  simp [execOp, hop, resolve, invoke, builtin, hm, hx, hrun, Result.andThen]
  exact hK' _ _ K
theorem asD_at_mem {l : List (Lit × Value)} {kl : Lit} {y : DataW Value} (h : ∀ zd, (asD l).atKey kl zd = y) : ∃ v, (kl, v) ∈ l ∧ y = .held v := by
  have h1 := h .nil
  unfold asD DataW.atKey at h1
  simp only [List.find?_map] at h1
  cases hf : List.find? ((fun p => p.1.sameKey kl) ∘ fun p : Lit × Value => (p.1, DataW.held p.2)) l with
  | none =>
    have h2 := h (.held .nilFunc)
    unfold asD DataW.atKey at h2
    simp only [List.find?_map, hf, Option.map_none] at h1 h2
    rw [← h2] at h1
    cases h1
  | some p =>
    have hm := List.mem_of_find?_eq_some hf
    have hk0 : p.1.sameKey kl = true := by
      have := List.find?_some hf
      simpa using this
    have hk := WideAt.sameKey_eq hk0
    simp only [hf, Option.map_some] at h1
    refine ⟨p.2, ?_, h1.symm⟩
    have : p.1 = kl := hk
    rw [← this]; exact hm
/-- 'range m' under way: left: which keys are still to come. -/
def MapR (w : World) (P : Program) (k : TypeId) (b r : Nat) (l : List (Lit × Value)) (left : Lit → Bool) (cnt : Nat) : Prop := w.ranges P k heldV b r l.length (asD l) left cnt
theorem MapR.kept {P : Program} {k : TypeId} {w w' : World} {b r : Nat} {l : List (Lit × Value)} {left : Lit → Bool} {cnt : Nat} (h : MapR w P k b r l left cnt) {row : Option Nat} (hg : w.grownBy w' row) (hb : some b ≠ row) (hr : some r ≠ row) : MapR w' P k b r l left cnt := World.ranges.kept h hg hb hr
theorem MapR.map {P : Program} {k : TypeId} {w : World} {b r : Nat} {l : List (Lit × Value)} {left : Lit → Bool} {cnt : Nat} (h : MapR w P k b r l left cnt) : MapB w P k b l := World.ranges.owns h
theorem MapR.left_eq {P : Program} {k : TypeId} {w : World} {b r : Nat} {l : List (Lit × Value)} {left : Lit → Bool} {cnt : Nat} (h : MapR w P k b r l left cnt) : w.rangeLeft b r = cnt := World.ranges.left_eq h
theorem MapR.lt {P : Program} {k : TypeId} {w : World} {b r : Nat} {l : List (Lit × Value)} {left : Lit → Bool} {cnt : Nat} (h : MapR w P k b r l left cnt) : r < w.heap.size := World.ranges.lt h
section
variable {P : Program} (w : World) {ops : Array Oper} {rest : List Oper} {o : Oper} {a : Act} {Q : Exit → Act → World → Prop}
theorem wpList_range_map (hg : o.guard = none) (m : Operand) (t : TypeId) (hop : o.op = Op.range t m) (k e : TypeId) (K : Keyed P k) (ht : P.underlying t = some (.map k e)) (b : Nat) (l : List (Lit × Value)) (hm : a.eval m = .map (some b)) (h : MapB w P k b l)
    (hK : ∀ w', MapR w' P k b w.heap.size l (hasL l) l.length → w.grownBy w' none → w'.heap.size = w.heap.size + 1 → wpList P ops Q rest (a.put o.dst (.pointer (some ⟨w.heap.size, 0, none⟩))) w') : wpList P ops Q (o :: rest) a w :=
  wpList_range_own w hg m t hop k e K ht heldV b l.length (asD l) hm h fun w' h1 h2 h3 => hK w' (by
    have e1 : Maps.has (asD l) = hasL l := funext fun kl => asD_has kl l
    rw [e1, asD_size] at h1
    exact h1) h2 h3
theorem wpList_next_map {α : Type} (hg : o.guard = none) (it : Operand) (hop : o.op = Op.next it false) (k : TypeId) (K : Keyed P k) (mkK : α → Value) (invK : ∀ key kl, keyOf P k key = some kl → ∃ x, key = mkK x) (b r : Nat) (l : List (Lit × Value)) (left : Lit → Bool) (cnt : Nat)
    (hit : a.eval it = .pointer (some ⟨r, 0, none⟩)) (h : MapR w P k b r l left cnt)
    (hDone : cnt = 0 → (∀ kl, left kl = false) → wpList P ops Q rest (a.put o.dst (.tuple #[.bool false])) w)
    (hMore : ∀ (x : α) (kl : Lit) (v : Value) (w' : World) (cnt' : Nat), keyOf P k (mkK x) = some kl → left kl = true → (kl, v) ∈ l → MapR w' P k b r l (fun z => left z && !z.sameKey kl) cnt' → cnt' < cnt → w.grownBy w' (some r) → w'.heap.size = w.heap.size →
      (Instr.entry (.pointer (some ⟨r, 0, none⟩))).run P w' = .ok (.tuple #[mkK x, v]) w' → wpList P ops Q rest (a.put o.dst (.tuple #[.bool true, mkK x, v])) w') : wpList P ops Q (o :: rest) a w :=
  wpList_next_ranges w hg it hop k K heldV mkK id invK (fun v _ _ => ⟨v, rfl⟩) b r l.length (asD l) left cnt hit h hDone fun x c kl y w' cnt' h1 h2 h3 h4 h5 h6 h7 h8 h9 => by
    unfold heldV at h3
    simp only [Option.some.injEq] at h3
    obtain ⟨v, hv, hy⟩ := asD_at_mem h4
    rw [← h3] at hy
    simp only [DataW.held.injEq] at hy
    obtain rfl : c = v := hy
    exact hMore x kl c w' cnt' h1 h2 hv h5 h6 h7 h8 h9
/-- 'm[k] = v' at the operation. -/
theorem wpList_store_map (hg : o.guard = none) (m x v : Operand) (t : TypeId) (hop : o.op = Op.mapUpdate t m x v) (k e : TypeId) (K : Keyed P k) (ht : P.underlying t = some (.map k e)) (b : Nat) (l : List (Lit × Value)) (hm : a.eval m = .map (some b)) (h : MapB w P k b l) (hn : l.length < maxLen)
    (key val : Value) (kl : Lit) (hx : a.eval x = key) (hv : a.eval v = val) (hkey : keyOf P k key = some kl)
    (hK : ∀ w', MapB w' P k b (stoL kl val l) → w.grownBy w' (some b) → wpList P ops Q rest (a.put o.dst undef) w') : wpList P ops Q (o :: rest) a w := by
  refine wpList_plain hg fun K' hK' => ?_
  obtain ⟨w', hrun, r1, r2⟩ := h.store K ht hn val hkey
  unfold Oper.wp
  simp [execOp, hop, hm, hx, hv, hrun, Result.andThen]
  exact hK' _ _ (hK w' r1 r2)
end
end Go.Proofs.YtomfcgeibbicoaaGreat
namespace Go.Proofs.YtomfcgeibbicoaaGreat
open Go.RowKit Go.Maps
def insI (n : Int) : List Int → List Int
  | [] => [n]
  | x :: r => if n < x then n :: x :: r else x :: insI n r
def addI (l : List Int) (n : Int) : List Int := if n ∈ l then l else insI n l
theorem insI_mem (n x : Int) : ∀ l : List Int, x ∈ insI n l ↔ x = n ∨ x ∈ l
  | [] => by simp [insI]
  | y :: r => by
    unfold insI
    split
    · simp
    · rw [List.mem_cons, insI_mem n x r, List.mem_cons]
      constructor
      · rintro (h | h | h)
        · exact .inr (.inl h)
        · exact .inl h
        · exact .inr (.inr h)
      · rintro (h | h | h)
        · exact .inr (.inl h)
        · exact .inl h
        · exact .inr (.inr h)
theorem insI_len (n : Int) : ∀ l : List Int, (insI n l).length = l.length + 1
  | [] => rfl
  | x :: r => by
    unfold insI
    split
    · rfl
    · simp [insI_len n r]
theorem addI_mem (l : List Int) (n x : Int) : x ∈ addI l n ↔ x = n ∨ x ∈ l := by
  unfold addI
  split
  · rename_i h
    exact ⟨.inr, fun h' => by rcases h' with rfl | h'; exact h; exact h'⟩
  · exact insI_mem n x l
theorem addI_len (l : List Int) (n : Int) : (addI l n).length ≤ l.length + 1 := by
  unfold addI
  split
  · omega
  · rw [insI_len]; omega
abbrev Up (l : List Int) : Prop := l.Pairwise fun a b => a < b
theorem insI_up {n : Int} : ∀ {l : List Int}, Up l → n ∉ l → Up (insI n l)
  | [], _, _ => by simp [insI, Up]
  | x :: r, h, hn => by
    obtain ⟨h1, h2⟩ := List.pairwise_cons.1 h
    unfold insI
    split
    · rename_i hlt
      refine List.pairwise_cons.2 ⟨fun y hy => ?_, h⟩
      rcases List.mem_cons.1 hy with rfl | hy
      · exact hlt
      · have := h1 y hy; omega
    · rename_i hlt
      refine List.pairwise_cons.2 ⟨fun y hy => ?_, insI_up h2 fun hm => hn (by simp [hm])⟩
      rcases (insI_mem n y r).1 hy with rfl | hy
      · have : y ≠ x := fun e => hn (by simp [e])
        omega
      · exact h1 y hy
theorem addI_up {n : Int} {l : List Int} (h : Up l) : Up (addI l n) := by
  unfold addI
  split
  · exact h
  · rename_i hn; exact insI_up h hn
def setI (xs : List Int) : List Int := xs.foldl addI []
theorem foldI_up : ∀ (xs : List Int) {l : List Int}, Up l → Up (xs.foldl addI l)
  | [], _, h => h
  | _ :: r, _, h => foldI_up r (addI_up h)
theorem foldI_mem (x : Int) : ∀ (xs : List Int) (l : List Int), x ∈ xs.foldl addI l ↔ x ∈ xs ∨ x ∈ l
  | [], l => by simp
  | y :: r, l => by
    rw [List.foldl_cons, foldI_mem x r, addI_mem, List.mem_cons]
    constructor
    · rintro (h | h | h)
      · exact .inl (.inr h)
      · exact .inl (.inl h)
      · exact .inr h
    · rintro ((h | h) | h)
      · exact .inr (.inl h)
      · exact .inl h
      · exact .inr (.inr h)
theorem setI_up (xs : List Int) : Up (setI xs) := foldI_up xs List.Pairwise.nil
theorem setI_mem (x : Int) (xs : List Int) : x ∈ setI xs ↔ x ∈ xs := by
  unfold setI
  rw [foldI_mem]; simp
theorem foldI_lenI : ∀ (xs : List Int) (l : List Int), (xs.foldl addI l).length ≤ l.length + xs.length
  | [], l => by simp
  | y :: r, l => by
    have h1 := foldI_lenI r (addI l y)
    have h2 := addI_len l y
    rw [List.foldl_cons, List.length_cons]
    omega
theorem up_nodup {l : List Int} (h : Up l) : l.Nodup := h.imp fun {a b} h => by omega
/-- Rising lists of the same numbers are one. -/
theorem up_ext {l l' : List Int} (h : Up l) (h' : Up l') (hm : ∀ x, x ∈ l ↔ x ∈ l') : l = l' := by
  have hp := (List.perm_ext_iff_of_nodup (up_nodup h) (up_nodup h')).2 hm
  exact List.Perm.eq_of_pairwise (le := fun a b => a < b) (fun a b _ _ h1 h2 => by omega) h h' hp
theorem insL_mem (x p : Lit × Value) : ∀ l : List (Lit × Value), p ∈ insL x l ↔ p = x ∨ p ∈ l
  | [] => by simp [insL]
  | y :: r => by
    unfold insL
    split
    · simp
    · rw [List.mem_cons, insL_mem x p r, List.mem_cons]
      constructor
      · rintro (h | h | h)
        · exact .inr (.inl h)
        · exact .inl h
        · exact .inr (.inr h)
      · rintro (h | h | h)
        · exact .inr (.inl h)
        · exact .inl h
        · exact .inr (.inr h)
theorem stoL_mem (kl : Lit) (v : Value) (l : List (Lit × Value)) (p : Lit × Value) : p ∈ stoL kl v l ↔ p = (kl, v) ∨ (p ∈ l ∧ p.1.sameKey kl = false) := by
  unfold stoL delL
  rw [insL_mem, List.mem_filter]
  simp
theorem insL_len (x : Lit × Value) : ∀ l : List (Lit × Value), (insL x l).length = l.length + 1
  | [] => rfl
  | y :: r => by
    unfold insL
    split
    · rfl
    · simp [insL_len x r]
theorem stoL_len (kl : Lit) (v : Value) (l : List (Lit × Value)) : (stoL kl v l).length ≤ l.length + 1 := by
  unfold stoL
  rw [insL_len]
  have := List.length_filter_le (fun p : Lit × Value => !p.1.sameKey kl) l
  unfold delL
  omega
abbrev inK (x : Int) : Lit := .int .i64 x
theorem sameI (x y : Int) : (inK x).sameKey (inK y) = decide (x = y) := by
  show decide (IntKind.i64 = IntKind.i64 ∧ x = y) = _
  simp
/-- Numbers as keys, numbers as elements; the keys are those of S. -/
structure SetV (l : List (Lit × Value)) (S : Int → Prop) : Prop where
  el : ∀ p ∈ l, ∃ x c, p = (inK x, .int .i64 c)
  ke : ∀ x, (∃ c, (inK x, Value.int .i64 c) ∈ l) ↔ S x
theorem SetV.nil : SetV [] fun _ => False := ⟨(fun p hp => by cases hp), fun x => ⟨(fun ⟨_, h⟩ => by cases h), fun h => h.elim⟩⟩
theorem SetV.put {l : List (Lit × Value)} {S : Int → Prop} (h : SetV l S) (x c : Int) : SetV (stoL (inK x) (.int .i64 c) l) (fun y => y = x ∨ S y) := by
  refine ⟨fun p hp => ?_, fun y => ?_⟩
  · rcases (stoL_mem _ _ _ _).1 hp with rfl | ⟨hp, _⟩
    · exact ⟨x, c, rfl⟩
    · exact h.el p hp
  · constructor
    · rintro ⟨d, hd⟩
      rcases (stoL_mem _ _ _ _).1 hd with e | ⟨hp, _⟩
      · injection e with e1 e2
        injection e1 with _ e3
        exact .inl e3
      · exact .inr ((h.ke y).1 ⟨d, hp⟩)
    · intro hy
      by_cases e : y = x
      · subst e; exact ⟨c, (stoL_mem _ _ _ _).2 (.inl rfl)⟩
      · have hS : S y := by rcases hy with hy | hy; exact absurd hy e; exact hy
        obtain ⟨d, hd⟩ := (h.ke y).2 hS
        exact ⟨d, (stoL_mem _ _ _ _).2 (.inr ⟨hd, by rw [sameI]; exact decide_eq_false e⟩)⟩
theorem SetV.mono {l : List (Lit × Value)} {S T : Int → Prop} (h : SetV l S) (hS : ∀ x, S x ↔ T x) : SetV l T := ⟨h.el, fun x => (h.ke x).trans (hS x)⟩
theorem SetV.get {l : List (Lit × Value)} {S : Int → Prop} (h : SetV l S) (x : Int) : ∃ c, getL l (inK x) (.int .i64 0) = .int .i64 c := by
  unfold getL
  cases hf : l.find? (fun p => p.1.sameKey (inK x)) with
  | none => exact ⟨0, rfl⟩
  | some p =>
    obtain ⟨y, c, rfl⟩ := h.el p (List.mem_of_find?_eq_some hf)
    exact ⟨c, rfl⟩
theorem intKeys_asD (l : List (Lit × Value)) : intKeys (asD l) = l.map fun p => Go.intOf p.1 := by
  show (l.map fun p => (p.1, DataW.held p.2)).map (fun p => Go.intOf p.1) = _
  rw [List.map_map]
  rfl
theorem SetV.keys {l : List (Lit × Value)} {S : Int → Prop} (h : SetV l S) (x : Int) : x ∈ (l.map fun p => Go.intOf p.1) ↔ S x := by
  rw [← h.ke x, List.mem_map]
  constructor
  · rintro ⟨p, hp, hx⟩
    obtain ⟨y, c, rfl⟩ := h.el p hp
    obtain rfl : y = x := hx
    exact ⟨c, hp⟩
  · rintro ⟨c, hc⟩
    exact ⟨_, hc, rfl⟩
theorem SetV.up {l : List (Lit × Value)} {S : Int → Prop} (h : SetV l S) (hr : l.Pairwise fun p q => p.1.before q.1 = true) : Up (l.map fun p => Go.intOf p.1) := by
  show List.Pairwise _ _
  rw [List.pairwise_map]
  refine hr.imp_of_mem fun {p q} hp hq hb => ?_
  obtain ⟨x, c, rfl⟩ := h.el p hp
  obtain ⟨y, d, rfl⟩ := h.el q hq
  exact of_decide_eq_true hb
end Go.Proofs.YtomfcgeibbicoaaGreat
namespace Go.Proofs.YtomfcgeibbicoaaGreat
open Go.RowKit Go.Maps
theorem before_lt : ∀ a b : List UInt8, bytesBefore a b = true ↔ a < b
  | [], [] => by simp [bytesBefore]
  | [], b :: s => by simp [bytesBefore]
  | a :: r, [] => by simp [bytesBefore]
  | a :: r, b :: s => by
    have := before_lt r s
    simp only [bytesBefore, Bool.or_eq_true, Bool.and_eq_true, decide_eq_true_eq, beq_iff_eq, List.cons_lt_cons_iff, this]
theorem before_up (a b : ByteArray) : bytesBefore a.data.toList b.data.toList = upN a b := by
  rw [Bool.eq_iff_iff, before_lt, up_iff, ByteArray.toList_eq, ByteArray.toList_eq]
/-- A name as a key. -/
def nmK (s : ByteArray) : Lit := .string s.data.toList
def enM (m : Mk) : Lit × Value := (nmK m.nm, .int .i64 m.pl)
def enL (l : List Mk) : List (Lit × Value) := l.map enM
theorem same_nm (s : ByteArray) (m : Mk) : (enM m).1.sameKey (nmK s) = nmIs s m := by
  show (m.nm.data.toList == s.data.toList) = (m.nm.toList == s.toList)
  rw [ByteArray.toList_eq, ByteArray.toList_eq]
theorem enL_has (s : ByteArray) (l : List Mk) : hasL (enL l) (nmK s) = (findM s l).2 := by
  unfold hasL enL findM
  rw [List.any_map]
  have : ((fun p : Lit × Value => p.1.sameKey (nmK s)) ∘ enM) = nmIs s := funext fun m => same_nm s m
  rw [this]
  cases h : l.find? (nmIs s) with
  | none =>
    rw [List.find?_eq_none] at h
    rw [List.any_eq_false]
    exact h
  | some m =>
    rw [List.any_eq_true]
    exact ⟨m, List.mem_of_find?_eq_some h, List.find?_some h⟩
theorem enL_get (s : ByteArray) (l : List Mk) : getL (enL l) (nmK s) (.int .i64 0) = .int .i64 (findM s l).1 := by
  unfold getL enL findM
  rw [List.find?_map]
  have : ((fun p : Lit × Value => p.1.sameKey (nmK s)) ∘ enM) = nmIs s := funext fun m => same_nm s m
  rw [this]
  cases h : l.find? (nmIs s) with
  | none => rfl
  | some m => rfl
theorem enL_del (s : ByteArray) (l : List Mk) : delL (nmK s) (enL l) = enL (l.filter (nmNot s)) := by
  unfold delL enL
  rw [List.filter_map]
  congr 1
  apply List.filter_congr
  intro m _
  show (!(enM m).1.sameKey (nmK s)) = !nmIs s m
  rw [same_nm]
/-- A mark more, in its place. -/
def insM (m : Mk) : List Mk → List Mk
  | [] => [m]
  | x :: r => if upN m.nm x.nm = true then m :: x :: r else x :: insM m r
theorem enL_ins (m : Mk) : ∀ l : List Mk, insL (enM m) (enL l) = enL (insM m l)
  | [] => rfl
  | x :: r => by
    have hb : (enM m).1.before (enM x).1 = upN m.nm x.nm := before_up m.nm x.nm
    show (if (enM m).1.before (enM x).1 = true then enM m :: enM x :: enL r else enM x :: insL (enM m) (enL r)) = enL (if upN m.nm x.nm = true then m :: x :: r else x :: insM m r)
    rw [hb]
    split
    · rfl
    · rw [enL_ins m r]; rfl
theorem fold_ins (m : Mk) (r : List Mk) : ∀ l : List Mk, endI m (l.foldl (stepI m) (r, false)) = r ++ insM m l
  | [] => by simp [endI, insM]
  | x :: t => by
    rw [List.foldl_cons, insM]
    cases h : upN m.nm x.nm
    · rw [show stepI m (r, false) x = (r ++ [x], false) from by unfold stepI; rw [h]; rfl, fold_ins m (r ++ [x]) t]
      simp
    · rw [show stepI m (r, false) x = (r ++ [m] ++ [x], true) from by unfold stepI; rw [h]; rfl, fold_post]
      simp [endI]
theorem fold_ins0 (m : Mk) (l : List Mk) : endI m (foldI m l) = insM m l := by
  unfold foldI
  rw [fold_ins]; rfl
/-- A mark more, or elsewhere. -/
def putM (m : Mk) (l : List Mk) : List Mk := insM m (l.filter (nmNot m.nm))
theorem enL_put (m : Mk) (l : List Mk) : stoL (nmK m.nm) (.int .i64 m.pl) (enL l) = enL (putM m l) := by
  unfold stoL putM
  rw [enL_del, ← enL_ins]; rfl
theorem insM_len (m : Mk) : ∀ l : List Mk, (insM m l).length = l.length + 1
  | [] => rfl
  | x :: r => by
    unfold insM
    split
    · rfl
    · simp [insM_len m r]
theorem insM_mem (m x : Mk) : ∀ l : List Mk, x ∈ insM m l ↔ x = m ∨ x ∈ l
  | [] => by simp [insM]
  | y :: r => by
    unfold insM
    split
    · simp
    · rw [List.mem_cons, insM_mem m x r, List.mem_cons]
      constructor
      · rintro (h | h | h)
        · exact .inr (.inl h)
        · exact .inl h
        · exact .inr (.inr h)
      · rintro (h | h | h)
        · exact .inr (.inl h)
        · exact .inl h
        · exact .inr (.inr h)
theorem putM_len (m : Mk) (l : List Mk) : (putM m l).length ≤ l.length + 1 := by
  unfold putM
  rw [insM_len]
  have := List.length_filter_le (nmNot m.nm) l
  omega
theorem filt_none {s : ByteArray} {l : List Mk} (h : (findM s l).2 = false) : l.filter (nmNot s) = l := by
  rw [List.filter_eq_self]
  intro m hm
  unfold nmNot
  cases hq : nmIs s m
  · rfl
  · exfalso
    unfold findM at h
    cases hf : l.find? (nmIs s) with
    | none => rw [List.find?_eq_none] at hf; exact hf m hm hq
    | some x => rw [hf] at h; cases h
end Go.Proofs.YtomfcgeibbicoaaGreat
