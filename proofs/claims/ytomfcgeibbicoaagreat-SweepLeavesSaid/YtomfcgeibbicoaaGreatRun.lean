/- Laws at single operations, for rows of elements of k cells: copy, clear, append of zeros; and one that takes any operation whose run is known. -/
import Derived.Test.YtomfcgeibbicoaaGreatBase
import Derived.Lib.Overlaps
import Derived.Deep.RegionLaw
namespace Go.Proofs.YtomfcgeibbicoaaGreat
open Go.RowKit
/-- Block g is just these cells, none frozen. -/
def Blk (w : World) (g : Nat) (e : TypeId) (cur : List Value) : Prop := w.heap[g]? = some (.cells cur.toArray e (0, 0))
theorem Blk.lt {w : World} {g : Nat} {e : TypeId} {cur : List Value} (h : Blk w g e cur) : g < w.heap.size := (Array.getElem?_eq_some_iff.1 h).1
theorem Blk.cell {w : World} {g : Nat} {e : TypeId} {cur : List Value} (h : Blk w g e cur) (j : Nat) : w.cell? ⟨g, j, none⟩ = cur[j]? := by
  rw [cell_of_row w g j cur.toArray e (0, 0) h]; simp
theorem Blk.frozen {w : World} {g : Nat} {e : TypeId} {cur : List Value} (h : Blk w g e cur) (j : Nat) : w.frozen? ⟨g, j, none⟩ = false := by
  unfold Blk at h
  simp [World.frozen?, h]
theorem Blk.ex {w w' : World} {g : Nat} {e : TypeId} {cur : List Value} (h : Blk w g e cur) (hb : Ex w w') : Blk w' g e cur := (hb.block g h.lt).trans h
theorem Blk.below {B : Nat} {w w' : World} {g : Nat} {e : TypeId} {cur : List Value} (h : Blk w g e cur) (hb : Below B w w') (hg : g < B) : Blk w' g e cur := (hb.block g hg).trans h
theorem Blk.drewN {w : World} {g : Nat} {e : TypeId} {cur : List Value} (h : Blk w g e cur) (n : Nat) : Blk (w.drewN n) g e cur := h
theorem Blk.grown {w w' : World} {g : Nat} {e : TypeId} {cur : List Value} {row : Option Nat} (h : Blk w g e cur) (hb : w.grownBy w' row) (hg : some g ≠ row) : Blk w' g e cur := (hb.block g h.lt hg).trans h
theorem Blk.setCell {w : World} {g i : Nat} {t : TypeId} {cur : List Value} (h : Blk w g t cur) (v : Value) : Blk (w.setCell ⟨g, i, none⟩ v) g t (cur.set i v) := by
  have hlt := h.lt
  unfold Blk at h ⊢
  have h' : w.heap[g] = .cells cur.toArray t (0, 0) := by simpa [Array.getElem?_eq_getElem hlt] using h
  show (w.heap.modify g _)[g]? = _
  rw [Array.getElem?_eq_getElem (by simpa using hlt), Array.getElem_modify_self, h']
  simp
theorem Blk.row {w : World} {g k n : Nat} {e : TypeId} {cur : List Value} (h : Blk w g e cur) (hn : n * k ≤ cur.length) : Row w k (some ⟨g, 0, none⟩) n (cur.take (n * k)) := by
  refine ⟨by rw [List.length_take]; omega, fun _ => ⟨g, 0, rfl, fun j u hu => ?_⟩⟩
  rw [h.cell, Nat.zero_add]
  rw [List.getElem?_take] at hu
  split at hu
  · exact hu
  · cases hu
/-- What an own row is, where it is not nil. -/
theorem own_blk {w : World} {base k n : Nat} {e : TypeId} {v : Value} {cs : List Value} (h : w.ownsRow base e k v n cs) : (v = .slice none 0 0 ∧ n = 0 ∧ cs = []) ∨
    ∃ g cap cur, v = .slice (some ⟨g, 0, none⟩) n cap ∧ base ≤ g ∧ Blk w g e cur ∧ n ≤ cap ∧ cap ≤ maxLen ∧ cur.length = cap * k ∧ cur.take (n * k) = cs := by
  rcases h.2 with ⟨hv, hn⟩ | ⟨g, cap, cur, hv, hb, hh, hc, hm, hl, ht⟩
  · exact .inl ⟨hv, hn, List.eq_nil_of_length_eq_zero (by rw [h.1, hn]; omega)⟩
  · exact .inr ⟨g, cap, cur.toList, hv, hb, by simpa [Blk] using hh, hc, hm, by simpa using hl, ht⟩
theorem own_of_blk {w : World} {base k n g cap : Nat} {e : TypeId} {cur cs : List Value} (h : Blk w g e cur) (hb : base ≤ g) (hc : n ≤ cap) (hm : cap ≤ maxLen) (hl : cur.length = cap * k) (ht : cur.take (n * k) = cs) :
    w.ownsRow base e k (.slice (some ⟨g, 0, none⟩) n cap) n cs := by
  refine ⟨?_, .inr ⟨g, cap, cur.toArray, rfl, hb, h, hc, hm, by simpa using hl, by simpa using ht⟩⟩
  rw [← ht, List.length_take, hl]
  exact Nat.min_eq_left (Nat.mul_le_mul_right _ hc)

/-- cs laid over cur from o on. -/
def spl (cur : List Value) (o : Nat) (cs : List Value) : List Value := cur.take o ++ cs ++ cur.drop (o + cs.length)
theorem spl_len {cur cs : List Value} {o : Nat} (h : o + cs.length ≤ cur.length) : (spl cur o cs).length = cur.length := by
  simp only [spl, List.length_append, List.length_take, List.length_drop]; omega
theorem blk_setRow {w : World} {g : Nat} {e : TypeId} {cur new : List Value} (h : Blk w g e cur) : Blk (w.setRow g new.toArray) g e new := setRow_heap w g cur.toArray new.toArray e (0, 0) h
theorem grown_setRow (w : World) (g : Nat) (new : Array Value) : w.grownBy (w.setRow g new) (some g) :=
  ⟨rfl, rfl, rfl, by simp [World.setRow], fun k _ hk => setRow_other w g k new (fun e => hk (by rw [e]))⟩

section
variable {P : Program}
/-- Any operation whose run is known. -/
theorem wpList_val {w w' : World} {ops : Array Oper} {rest : List Oper} {o : Oper} {a : Act} {Q : Exit → Act → World → Prop} {v : Value} (hg : o.guard = none) (h : (execOp a.eval o).run P w = .ok (.value v) w')
    (K : wpList P ops Q rest (a.put o.dst v) w') : wpList P ops Q (o :: rest) a w :=
  wpList_plain hg fun _ hK => by unfold Oper.wp; rw [h]; exact hK _ _ K
/-- The same as a step of a region that draws its order. -/
theorem step_val {w w' : World} {ops : Array Oper} {o : Oper} {a : Act} {K : Act → World → Prop} {Q : Exit → Act → World → Prop} {E : Prop} {v : Value} (hg : o.guard = none) (h : (execOp a.eval o).run P w = .ok (.value v) w')
    (hK : K (a.put o.dst v) w') : if Region.wanted o (yielded ops a.tmps) = true then Oper.wp P o a w K Q else E := by
  rw [if_pos (by simp [Region.wanted, hg])]
  unfold Oper.wp; rw [h]; exact hK

theorem run_copy_k (w : World) (dT sT ty elem : TypeId) (k g o dLen dCap : Nat) (sp : Option Addr) (sLen sCap : Nat) (cur : List Value) (t : TypeId) (cs : List Value)
    (hu : P.underlying dT = some (.slice elem)) (hs : (P.info? elem).map (·.size) = some k) (hg : Blk w g t cur) (hn : cs.length = Nat.min sLen dLen * k)
    (hsrc : 0 < cs.length → ∃ b o', sp = some ⟨b, o', none⟩ ∧ ∀ j u, cs[j]? = some u → w.cell? ⟨b, o' + j, none⟩ = some u) (hfit : o + cs.length ≤ cur.length) (h1 : ∀ v ∈ cs, v.oneCell' = true) :
    (Builtin.copy_ #[dT, sT] ty #[.slice (some ⟨g, o, none⟩) dLen dCap, .slice sp sLen sCap]).run P w = .ok (goInt (Nat.min sLen dLen)) (w.setRow g (spl cur o cs).toArray) := by
  have hst := run_storeCells_at P g o t cs 0 cur.toArray w hg (by simpa using hfit) h1
  have hf : (Builtin.firstCells k (Nat.min sLen dLen) (.slice sp sLen sCap)).run P w = .ok cs.toArray w := by
    cases sp with
    | none =>
      have : cs = [] := by
        rcases Nat.eq_zero_or_pos cs.length with h0 | h0
        · exact List.eq_nil_of_length_eq_zero h0
        · obtain ⟨b, o', e, _⟩ := hsrc h0; cases e
      subst this; rfl
    | some a =>
      have hc : ∀ j v, cs[j]? = some v → w.cell? (a.add j) = some v := by
        intro j v hj
        obtain ⟨b, o', e, hcell⟩ := hsrc (by have := (List.getElem?_eq_some_iff.1 hj).1; omega)
        injection e with e
        subst e
        rw [add_lit0]; exact hcell j v hj
      have := run_loadCells_list (P := P) w a cs hc
      simpa [Builtin.firstCells, hn] using this
  cases hq : P.info? elem with
  | none => simp [hq] at hs
  | some i =>
    have hi : i.size = k := by simpa [hq] using hs
    simp only [Nat.add_zero] at hst
    simp [Builtin.copy_, run_underlying hu, Builtin.lenOf, sizeOf, typeInfo, hq, hi, hf, hst, spl]

theorem exec_copy_k {w : World} {o : Oper} {a : Act} (d s : Operand) (dT sT : TypeId) (ho : o.op = .call { callee := .builtin .copy, args := #[d, s], argTypes := #[dT, sT] }) (elem : TypeId) (k g off dLen dCap : Nat) (sp : Option Addr) (sLen sCap : Nat) (cur : List Value) (t : TypeId) (cs : List Value)
    (hu : P.underlying dT = some (.slice elem)) (hs : (P.info? elem).map (·.size) = some k) (hd : a.eval d = .slice (some ⟨g, off, none⟩) dLen dCap) (hsv : a.eval s = .slice sp sLen sCap) (hg : Blk w g t cur) (hn : cs.length = Nat.min sLen dLen * k)
    (hsrc : 0 < cs.length → ∃ b o', sp = some ⟨b, o', none⟩ ∧ ∀ j u, cs[j]? = some u → w.cell? ⟨b, o' + j, none⟩ = some u) (hfit : off + cs.length ≤ cur.length) (h1 : ∀ v ∈ cs, v.oneCell' = true) :
    (execOp a.eval o).run P w = .ok (.value (goInt (Nat.min sLen dLen))) (w.setRow g (spl cur off cs).toArray) := by
  have hrun := run_copy_k (P := P) w dT sT o.type elem k g off dLen dCap sp sLen sCap cur t cs hu hs hg hn hsrc hfit h1
  simp [execOp, ho, resolve, invoke, builtin, hd, hsv, hrun, Result.andThen]
theorem wpList_copy_k {w : World} {ops : Array Oper} {rest : List Oper} {o : Oper} {a : Act} {Q : Exit → Act → World → Prop} (hgd : o.guard = none) (d s : Operand) (dT sT : TypeId) (ho : o.op = .call { callee := .builtin .copy, args := #[d, s], argTypes := #[dT, sT] }) (elem : TypeId) (k g off dLen dCap : Nat) (sp : Option Addr) (sLen sCap : Nat) (cur : List Value) (t : TypeId) (cs : List Value)
    (hu : P.underlying dT = some (.slice elem)) (hs : (P.info? elem).map (·.size) = some k) (hd : a.eval d = .slice (some ⟨g, off, none⟩) dLen dCap) (hsv : a.eval s = .slice sp sLen sCap) (hg : Blk w g t cur) (hn : cs.length = Nat.min sLen dLen * k)
    (hsrc : 0 < cs.length → ∃ b o', sp = some ⟨b, o', none⟩ ∧ ∀ j u, cs[j]? = some u → w.cell? ⟨b, o' + j, none⟩ = some u) (hfit : off + cs.length ≤ cur.length) (h1 : ∀ v ∈ cs, v.oneCell' = true)
    (K : ∀ w', Blk w' g t (spl cur off cs) → w.grownBy w' (some g) → wpList P ops Q rest (a.put o.dst (goInt (Nat.min sLen dLen))) w') : wpList P ops Q (o :: rest) a w :=
  wpList_val hgd (exec_copy_k d s dT sT ho elem k g off dLen dCap sp sLen sCap cur t cs hu hs hd hsv hg hn hsrc hfit h1) (K _ (blk_setRow hg) (grown_setRow w g _))
theorem step_copy_k {w : World} {ops : Array Oper} {o : Oper} {a : Act} {K : Act → World → Prop} {Q : Exit → Act → World → Prop} {E : Prop} (hgd : o.guard = none) (d s : Operand) (dT sT : TypeId) (ho : o.op = .call { callee := .builtin .copy, args := #[d, s], argTypes := #[dT, sT] }) (elem : TypeId) (k g off dLen dCap : Nat) (sp : Option Addr) (sLen sCap : Nat) (cur : List Value) (t : TypeId) (cs : List Value)
    (hu : P.underlying dT = some (.slice elem)) (hs : (P.info? elem).map (·.size) = some k) (hd : a.eval d = .slice (some ⟨g, off, none⟩) dLen dCap) (hsv : a.eval s = .slice sp sLen sCap) (hg : Blk w g t cur) (hn : cs.length = Nat.min sLen dLen * k)
    (hsrc : 0 < cs.length → ∃ b o', sp = some ⟨b, o', none⟩ ∧ ∀ j u, cs[j]? = some u → w.cell? ⟨b, o' + j, none⟩ = some u) (hfit : off + cs.length ≤ cur.length) (h1 : ∀ v ∈ cs, v.oneCell' = true)
    (hK : ∀ w', Blk w' g t (spl cur off cs) → w.grownBy w' (some g) → K (a.put o.dst (goInt (Nat.min sLen dLen))) w') : if Region.wanted o (yielded ops a.tmps) = true then Oper.wp P o a w K Q else E :=
  step_val hgd (exec_copy_k d s dT sT ho elem k g off dLen dCap sp sLen sCap cur t cs hu hs hd hsv hg hn hsrc hfit h1) (hK _ (blk_setRow hg) (grown_setRow w g _))

theorem zeroCells_len (z : Array Value) (n : Nat) : (Builtin.zeroCells z n).toList.length = n * z.size := by simp [Builtin.zeroCells]
theorem zeroCells_one {z : Array Value} (h1 : ∀ v ∈ z.toList, v.oneCell' = true) (n : Nat) : ∀ v ∈ (Builtin.zeroCells z n).toList, v.oneCell' = true := by
  intro v hv
  simp only [Builtin.zeroCells, Array.toList_map, List.mem_map] at hv
  obtain ⟨i, hi, rfl⟩ := hv
  have hi' : i < n * z.size := by simpa using hi
  have hz : 0 < z.size := by
    rcases Nat.eq_zero_or_pos z.size with h0 | h0
    · rw [h0] at hi'; omega
    · exact h0
  have hlt := Nat.mod_lt i hz
  rw [getElem!_pos z (i % z.size) hlt]
  exact h1 _ (by simp)
/-- 'clear' of n elements from cell o on. -/
theorem wpList_clear_k {w : World} {ops : Array Oper} {rest : List Oper} {op : Oper} {a : Act} {Q : Exit → Act → World → Prop} (hgd : op.guard = none) (d : Operand) (dT : TypeId) (ho : op.op = .call { callee := .builtin .clear, args := #[d], argTypes := #[dT] }) (elem : TypeId) (z : Value) (k g o n c : Nat) (cur : List Value) (t : TypeId)
    (hu : P.underlying dT = some (.slice elem)) (hz : (zeroValue elem).run P w = .ok z w) (hk : z.cells.size = k) (h1 : ∀ v ∈ z.cells.toList, v.oneCell' = true) (hd : a.eval d = .slice (some ⟨g, o, none⟩) n c) (hg : Blk w g t cur) (hfit : o + n * k ≤ cur.length)
    (K : ∀ w', Blk w' g t (spl cur o (Builtin.zeroCells z.cells n).toList) → w.grownBy w' (some g) → wpList P ops Q rest (a.put op.dst (.tuple #[])) w') : wpList P ops Q (op :: rest) a w := by
  have hl := zeroCells_len z.cells n
  rw [hk] at hl
  have hst := run_storeCells_at P g o t (Builtin.zeroCells z.cells n).toList 0 cur.toArray w hg (by rw [hl]; simpa using hfit) (zeroCells_one h1 n)
  simp only [Nat.add_zero] at hst
  have hrun : (Builtin.clear_ #[dT] op.type #[.slice (some ⟨g, o, none⟩) n c]).run P w = .ok (.tuple #[]) (w.setRow g (spl cur o (Builtin.zeroCells z.cells n).toList).toArray) := by
    cases n with
    | zero =>
      have e : spl cur o (Builtin.zeroCells z.cells 0).toList = cur := by
        have e0 : (Builtin.zeroCells z.cells 0).toList = [] := List.eq_nil_of_length_eq_zero (by rw [hl]; omega)
        rw [e0]
        simp [spl]
      rw [e, setRow_self w g cur.toArray t (0, 0) hg]
      simp [Builtin.clear_, run_underlying hu]
    | succ n => simp [Builtin.clear_, run_underlying hu, hz, hst, spl]
  refine wpList_val hgd (v := .tuple #[]) ?_ (K _ (blk_setRow hg) (grown_setRow w g _))
  simp [execOp, ho, resolve, invoke, builtin, hd, hrun, Result.andThen]
/-- append(s, make([]T, m)...), where there is no room. -/
theorem wpList_append_zeros {w : World} {ops : Array Oper} {rest : List Oper} {op : Oper} {a : Act} {Q : Exit → Act → World → Prop} (hgd : op.guard = none) (s x : Operand) (t ti : TypeId) (ho : op.op = .call { callee := .builtin .append, args := #[s, x], argTypes := #[t, ti] })
    (e : TypeId) (i : TypeInfo) (z : Value) (k bytes : Nat) (ht : P.underlying t = some (.slice e)) (kk : IntKind) (hti : P.underlying ti = some (.int kk)) (hi : P.info? e = some i) (hz : i.zero = some z) (hsize : i.size = k) (hby : i.bytes = bytes) (hzs : z.cells.size = k)
    (A : Option Addr) (n c m : Nat) (cs : List Value) (mm : Int) (hs : a.eval s = .slice A n c) (hr : Row w k A n cs) (hA : A ≠ none) (hx : a.eval x = .int .i64 mm) (hm : mm = (m : Int)) (hroom : c < n + m) (h63 : n + m ≤ 1000000) (hb : bytes ≤ 1000000)
    (K : ∀ w' cap, Blk w' w.heap.size e (cs ++ (Builtin.zeroCells z.cells m).toList ++ (Builtin.zeroCells z.cells (cap - (n + m))).toList) → n + m ≤ cap → cap ≤ maxLen → w.grownBy w' none → wpList P ops Q rest (a.put op.dst (.slice (some ⟨w.heap.size, 0, none⟩) (n + m) cap)) w') : wpList P ops Q (op :: rest) a w := by
  subst hsize; subst hby; subst hm
  obtain ⟨ad, rfl⟩ : ∃ ad, A = some ad := by cases A with | none => exact absurd rfl hA | some ad => exact ⟨ad, rfl⟩
  have hw : (IntKind.i64).wrap (m : Int) = m := IntWalk.i64_in _ (by omega)
  have hholds : ∀ j v, cs[j]? = some v → w.cell? (ad.add j) = some v := by
    intro j v hj
    have hjl := (List.getElem?_eq_some_iff.1 hj).1
    have h1 := hr.1
    obtain ⟨b, o, e1, hc⟩ := hr.2 (by rcases Nat.eq_zero_or_pos n with h0 | h0; (rw [h0] at h1; omega); exact h0)
    injection e1 with e1
    subst e1
    rw [add_lit0]; exact hc j v hj
  have hfo := run_firstCells_some (P := P) w.drew i.size n ad n c cs hr.1 (by simpa using hholds)
  have hnot : ¬ (n + m ≤ c) := by omega
  have hcap1 := grownCap_ge w (n + m) c e
  have hcap2 := grownCap_le_maxLen w (n + m) c e (by simp only [maxLen]; omega)
  have hbm : m * i.bytes ≤ 1000000 * 1000000 := Nat.mul_le_mul (by omega) hb
  have hnc : Builtin.nextslicecap (n + m) c * i.bytes ≤ 281474976710656 := growslice_fits hroom (by have := Nat.mul_le_mul h63 hb; omega)
  have h48 : ¬ (281474976710656 < Builtin.nextslicecap (n + m) c * i.bytes) := by omega
  have h48' : ¬ ((281474976710656 : Int) < (m : Int) * (i.bytes : Int)) := by
    have : (m : Int) * (i.bytes : Int) = ((m * i.bytes : Nat) : Int) := by simp
    rw [this]; omega
  have h63' : ¬ ((9223372036854775807 : Int) < (n : Int) + (m : Int)) := by omega
  have h0' : ¬ ((m : Int) < 0) := by omega
  have ha : (asInt (.int .i64 (m : Int))).run P w = .ok (m : Int) w := rfl
  refine wpList_val hgd (v := .slice (some ⟨w.heap.size, 0, none⟩) (n + m) (grownCap w (n + m) c e)) (w' := w.drew.alloc (.cells (cs ++ (Builtin.zeroCells z.cells m).toList ++ (Builtin.zeroCells z.cells (grownCap w (n + m) c e - (n + m))).toList).toArray e)) ?_ (K _ _ (heap_alloc_new w.drew _) hcap1 hcap2 ⟨rfl, rfl, rfl, by simp, fun k hk h => (World.grownBy_alloc w.drew _ none).block k hk h⟩)
  simp [execOp, ho, resolve, invoke, builtin, hs, hx, Result.andThen]
  by_cases hmz : m * i.size = 0
  · have e0 : (Builtin.zeroCells z.cells m) = #[] := by
      apply Array.eq_empty_of_size_eq_zero
      have := zeroCells_len z.cells m
      rw [hzs, hmz] at this
      simpa using this
    simp [Builtin.append_, run_underlying ht, run_underlying hti, sizeOf, typeInfo, hi, hz, ha, hw, h0', h48', hnot, h63', h48, Question.forced, hfo, zeroValue, newRow, grownCap, hmz, e0]
    congr 2
    apply Array.ext'
    simp
  · simp [Builtin.append_, run_underlying ht, run_underlying hti, sizeOf, typeInfo, hi, hz, ha, hw, h0', h48', hnot, h63', h48, Question.forced, hfo, zeroValue, newRow, grownCap, hmz]
    congr 2
    apply Array.ext'
    simp
/-- append(v, xs...): v a row of the call's own (or nil), xs any slice that reads. -/
theorem run_append_row (w : World) (base : Nat) (t ty e : TypeId) (i : TypeInfo) (z : Value) (k bytes : Nat) (ht : P.underlying t = some (.slice e)) (hi : P.info? e = some i) (hz : i.zero = some z)
    (hsize : i.size = k) (hby : i.bytes = bytes) (hzs : z.cells.size = k) (hsz : 0 < k) (v : Value) (n : Nat) (xs : List Value) (hown : w.ownsRow base e k v n xs)
    (A : Option Addr) (m c : Nat) (news : List Value) (hr : Row w k A m news) (h1 : ∀ u ∈ news, u.oneCell' = true)
    (h63 : n + m ≤ maxLen) (hbytes : (n + m) * bytes ≤ 140737488355328) (hbase : base ≤ w.heap.size) :
    ∃ v' w', (Builtin.append_ #[t, t] ty #[v, .slice A m c]).run P w = .ok v' w' ∧ w'.ownsRow base e k v' (n + m) (xs ++ news) ∧ w.grownBy w' v.ownBlock ∧ (v'.ownBlock = v.ownBlock ∨ v'.ownBlock = some w.heap.size) := by
  by_cases hm : m = 0
  · subst hm
    have hn : news = [] := List.eq_nil_of_length_eq_zero (by rw [hr.1]; omega)
    subst hn
    refine ⟨v, w, ?_, by simpa using hown, World.grownBy.refl w _, .inl rfl⟩
    rcases hown.2 with ⟨rfl, rfl⟩ | ⟨g, cap, cur, rfl, _, _, hnc, _⟩
    · cases A <;> simp [Builtin.append_, run_underlying ht, sizeOf, typeInfo, hi, Builtin.lenOf, Builtin.firstCells, loadCells, loadCellsFrom]
    · cases A <;> simp [Builtin.append_, run_underlying ht, sizeOf, typeInfo, hi, Builtin.lenOf, Builtin.firstCells, hnc, storeCells, loadCells, loadCellsFrom]
  · obtain ⟨b, o, rfl, hc⟩ := hr.2 (by omega)
    obtain ⟨v', w', hrun, h2, h3, _, h5⟩ := run_append_own_at (P := P) w base t ty e i z k bytes ht hi hz hsize hby hzs hsz v n xs hown ⟨b, o, none⟩ m c news hr.1 (fun j u hu => by rw [add_lit0]; exact hc j u hu) h1 h63 hbytes hbase
    exact ⟨v', w', hrun, h2, h3, h5⟩
theorem wp_append_row (w : World) {o : Oper} {a : Act} {K : Act → World → Prop} {Q : Exit → Act → World → Prop} (s x : Operand) (t : TypeId) (ho : o.op = .call { callee := .builtin .append, args := #[s, x], argTypes := #[t, t] })
    (base : Nat) (e : TypeId) (i : TypeInfo) (z : Value) (k bytes : Nat) (ht : P.underlying t = some (.slice e)) (hi : P.info? e = some i) (hz : i.zero = some z)
    (hsize : i.size = k) (hby : i.bytes = bytes) (hzs : z.cells.size = k) (hsz : 0 < k) (v : Value) (n : Nat) (xs : List Value) (hs : a.eval s = v) (hown : w.ownsRow base e k v n xs)
    (A : Option Addr) (m c : Nat) (news : List Value) (hx : a.eval x = .slice A m c) (hr : Row w k A m news) (h1 : ∀ u ∈ news, u.oneCell' = true)
    (h63 : n + m ≤ maxLen) (hbytes : (n + m) * bytes ≤ 140737488355328) (hbase : base ≤ w.heap.size)
    (h : ∀ v' w', w'.ownsRow base e k v' (n + m) (xs ++ news) → w.grownBy w' v.ownBlock → (v'.ownBlock = v.ownBlock ∨ v'.ownBlock = some w.heap.size) → K (a.put o.dst v') w') : o.wp P a w K Q := by
  obtain ⟨v', w', hrun, h2, h3, h4⟩ := run_append_row (P := P) w base t o.type e i z k bytes ht hi hz hsize hby hzs hsz v n xs hown A m c news hr h1 h63 hbytes hbase
  unfold Oper.wp execOp
  simp only [ho, resolve, invoke, builtin, Sem.run_bind, Sem.run_pure, Result.andThen_ok, List.map_toArray, List.map_cons, List.map_nil, hs, hx, hrun]
  exact h v' w' h2 h3 h4
theorem wpList_append_row (w : World) {ops : Array Oper} {rest : List Oper} {o : Oper} {a : Act} {Q : Exit → Act → World → Prop} (hgd : o.guard = none) (s x : Operand) (t : TypeId) (ho : o.op = .call { callee := .builtin .append, args := #[s, x], argTypes := #[t, t] })
    (base : Nat) (e : TypeId) (i : TypeInfo) (z : Value) (k bytes : Nat) (ht : P.underlying t = some (.slice e)) (hi : P.info? e = some i) (hz : i.zero = some z)
    (hsize : i.size = k) (hby : i.bytes = bytes) (hzs : z.cells.size = k) (hsz : 0 < k) (v : Value) (n : Nat) (xs : List Value) (hs : a.eval s = v) (hown : w.ownsRow base e k v n xs)
    (A : Option Addr) (m c : Nat) (news : List Value) (hx : a.eval x = .slice A m c) (hr : Row w k A m news) (h1 : ∀ u ∈ news, u.oneCell' = true)
    (h63 : n + m ≤ maxLen) (hbytes : (n + m) * bytes ≤ 140737488355328) (hbase : base ≤ w.heap.size)
    (h : ∀ v' w', w'.ownsRow base e k v' (n + m) (xs ++ news) → w.grownBy w' v.ownBlock → (v'.ownBlock = v.ownBlock ∨ v'.ownBlock = some w.heap.size) → wpList P ops Q rest (a.put o.dst v') w') : wpList P ops Q (o :: rest) a w :=
  wpList_plain hgd fun _ hK => wp_append_row w s x t ho base e i z k bytes ht hi hz hsize hby hzs hsz v n xs hs hown A m c news hx hr h1 h63 hbytes hbase fun v' w' h2 h3 h4 => hK _ _ (h v' w' h2 h3 h4)
theorem step_append_row (w : World) {ops : Array Oper} {o : Oper} {a : Act} {K : Act → World → Prop} {Q : Exit → Act → World → Prop} {E : Prop} (hgd : o.guard = none) (s x : Operand) (t : TypeId) (ho : o.op = .call { callee := .builtin .append, args := #[s, x], argTypes := #[t, t] })
    (base : Nat) (e : TypeId) (i : TypeInfo) (z : Value) (k bytes : Nat) (ht : P.underlying t = some (.slice e)) (hi : P.info? e = some i) (hz : i.zero = some z)
    (hsize : i.size = k) (hby : i.bytes = bytes) (hzs : z.cells.size = k) (hsz : 0 < k) (v : Value) (n : Nat) (xs : List Value) (hs : a.eval s = v) (hown : w.ownsRow base e k v n xs)
    (A : Option Addr) (m c : Nat) (news : List Value) (hx : a.eval x = .slice A m c) (hr : Row w k A m news) (h1 : ∀ u ∈ news, u.oneCell' = true)
    (h63 : n + m ≤ maxLen) (hbytes : (n + m) * bytes ≤ 140737488355328) (hbase : base ≤ w.heap.size)
    (h : ∀ v' w', w'.ownsRow base e k v' (n + m) (xs ++ news) → w.grownBy w' v.ownBlock → (v'.ownBlock = v.ownBlock ∨ v'.ownBlock = some w.heap.size) → K (a.put o.dst v') w') :
    if Region.wanted o (yielded ops a.tmps) = true then Oper.wp P o a w K Q else E := by
  rw [if_pos (by simp [Region.wanted, hgd])]
  exact wp_append_row w s x t ho base e i z k bytes ht hi hz hsize hby hzs hsz v n xs hs hown A m c news hx hr h1 h63 hbytes hbase h
/-- Behind an append the new row's block is the old one or a new one. -/
theorem below_append {B base k n : Nat} {w0 w w' : World} {e : TypeId} {v : Value} {xs : List Value} (hb : Below B w0 w) (hown : w.ownsRow base e k v n xs) (hB : B ≤ base) (hBw : B ≤ w.heap.size) (hg : w.grownBy w' v.ownBlock) : Below B w0 w' :=
  hb.grown hg hBw fun g hk => Nat.le_trans hB (hown.lt g hk).1
end
end Go.Proofs.YtomfcgeibbicoaaGreat
