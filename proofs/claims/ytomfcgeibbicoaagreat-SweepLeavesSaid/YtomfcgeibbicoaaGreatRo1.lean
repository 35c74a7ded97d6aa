/- Walks: names picked by the program's roster (a range over a function). -/
import Derived.RangeFuncNested
import Derived.RangeFuncBound
import Derived.RangeFuncCalls
import Derived.RangeFuncLeaves
import Derived.RangeFuncBox
import Derived.Shelf.Abstract
import Derived.Shelf.RegionOpen
import Derived.OwnWalkIn
import Derived.TacticsInMore
import Derived.LoopNIn
import Derived.LoopIn
import Derived.Shelf.Slices.CompactS
import Derived.Test.YtomfcgeibbicoaaGreatProg
import Derived.Test.YtomfcgeibbicoaaGreatRo0
namespace Go.Proofs
open Go.RowKit Go.Sort Go.Shelf
def Tryz.compactS_ren : Go.Shelf.Ren := ⟨fun | 194 => 188 | n => n, fun | 31 => 23 | 9 => 9 | 3 => 3 | 4 => 4 | 0 => 0 | n => n, fun | n => n⟩
theorem Tryz.compactS : Go.Proofs.Lays.n194 Tryz.prog Tryz.compactS_ren := {
  mixed := by kernel_rfl
  f194 := Tryz.func188.trans (congrArg some (by kernel_rfl))
  t0 := Tryz.underlying0
  a0 := Tryz.isAgg0
  z0 := Tryz.sizeOf0
  v0 := Tryz.zeroValue0
  t3 := Tryz.underlying3
  a3 := Tryz.isAgg3
  z3 := Tryz.sizeOf3
  v3 := Tryz.zeroValue3
  t4 := Tryz.underlying4
  a4 := Tryz.isAgg4
  z4 := Tryz.sizeOf4
  v4 := Tryz.zeroValue4
  t9 := Tryz.underlying9
  a9 := Tryz.isAgg9
  z9 := Tryz.sizeOf9
  v9 := Tryz.zeroValue9
  t31 := Tryz.underlying23
  a31 := Tryz.isAgg23
  z31 := Tryz.sizeOf23
  v31 := Tryz.zeroValue23 }
end Go.Proofs
namespace Go.Proofs.YtomfcgeibbicoaaGreat
open Go.RowKit Go.Maps Go.Shelf Go.Sort
attribute [local go_sem] Oper.semAt_some
theorem ex_keeps {W W' : World} (h : Ex W W') : KeepsOthers W W' := ⟨h.size, fun k _ hk _ => (h.block k (Array.getElem?_eq_some_iff.1 hk).1).trans hk⟩
theorem ex_grown {W W' : World} (h : Ex W W') : W.grownBy W' none := ⟨h.os, h.tape, h.output, h.size, fun k hk _ => h.block k hk⟩
set_option maxRecDepth 100000 in
set_option maxHeartbeats 2000000 in
/-- The roster's iterator: each name with what it is. -/
theorem titles1_in (n : Nat) (hn : 1 ≤ n) (l Bs n₀ : Nat) (A : Option Addr) (c : Nat) (zs : List ByteArray) (hz : zs.length ≤ 1000000) (hsz : ∀ s ∈ zs, s.size ≤ 9223372036854775806) (J Jx : List ByteArray → World → Prop)
    (hJ : ∀ pre W W', J pre W → Ex W W' → J pre W')
    (hY : ∀ pre x W, J pre W → pre.length < zs.length → YieldAt Fence.wide (n - 1) Tryz.prog l #[.string x, .agg (titR x).cs.toArray] W fun e W' =>
      (e = .returned (.bool true) ∧ J (pre ++ [x]) W' ∧ Below n₀ W W') ∨ (e = .returned (.bool false) ∧ Jx (pre ++ [x]) W'))
    (W : World) (hBs : W.cell? ⟨Bs, 0, none⟩ = some (.slice A zs.length c)) (hr : Row W 1 A zs.length (zs.map Value.string)) (hlow : ∀ a, A = some a → a.block < n₀) (hn0 : n₀ ≤ W.heap.size) (h0 : J [] W) :
    CallsIn Fence.wide n Tryz.prog 219 #[.func (.yield l) #[] #[], .pointer (some ⟨Bs, 0, none⟩)] W fun e W' => (∃ v, e = .returned v) ∧
      ((∃ ys, ys = zs ∧ J ys W') ∨ (∃ pre, pre <+: zs ∧ Jx pre W')) := by
  refine callsIn_of_wp Tryz.func219 rfl trivial ?_ rfl
  simp only [Tryz.ntmps219, List.size_toArray, List.length_cons, List.length_nil, Nat.reduceAdd, Nat.reduceSub, Array.replicate_succ, Array.replicate_zero, List.push_toArray, List.append_toArray, List.nil_append, List.cons_append]
  have HSZ := Lib.hid hsz
  have HY := Lib.hid hY
  have HJ := Lib.hid hJ
  have HR := Lib.hid hr
  have HLW := Lib.hid hlow
  clear hsz hY hJ hr hlow
  gi_wp2
  gi_loopw [7] (fun i wr => ∃ k : Nat, k ≤ zs.length ∧ i = .int .i64 k ∧ J (zs.take k) wr ∧ Below n₀ W wr)
    (fun i _ => zs.length - (intOf i).toNat)
  case atStart => exact ⟨0, Nat.zero_le _, rfl, h0, Below.refl _ _⟩
  case round =>
    obtain ⟨k, hk, rfl, hJs, hnx⟩ := hrel
    by_cases hlt : k < zs.length
    · obtain ⟨b, o, hA, c1⟩ := HR.out.strAt hlt
      have hbl := HLW.out _ hA
      subst hA
      have c2 := (hnx.cell (p := ⟨b, o + k, none⟩) hbl).trans c1
      have hTK := Lib.hid (List.take_succ_eq_append_getElem hlt)
      have hss := HSZ.out _ (List.getElem_mem hlt)
      have hlk : (zs.take k).length < zs.length := by rw [List.length_take]; omega
      obtain ⟨x, hx⟩ : ∃ x, zs[k] = x := ⟨_, rfl⟩
      rw [hx] at hTK c1 c2 hss
      clear hx
      have hnz := hnx.size
      gi_wp2
      refine ⟨trivial, (callsIn_wide.2 (tread_calls x wr hss)).mono ?_⟩
      rintro e w1 ⟨rfl, hb1⟩
      obtain ⟨fn, tmps, assign, body, hy, hR⟩ := HY.out _ x w1 (HJ.out _ _ _ hJs hb1) hlk
      have HR1 := Lib.hid hR
      clear hR
      gi_wp2
      refine HR1.out.mono ?_
      have hn1 : Below n₀ W w1 := hnx.trans (hb1.mono (by omega))
      rintro e W3 (⟨rfl, hJ3, hk3⟩ | ⟨rfl, hJx3⟩)
      · gi_wp2
        go_roundw
        case rel => exact ⟨k + 1, by omega, by simp, by rw [hTK.out]; exact hJ3, hn1.trans hk3⟩
        case measure => simp [intOf]; omega
      · gi_wp2
        refine bodyPost_ret (results_none rfl _ _ _) rfl ?_
        exact ⟨⟨_, rfl⟩, .inr ⟨_, ⟨zs.drop (k + 1), by rw [← hTK.out, List.take_append_drop]⟩, hJx3⟩⟩
    · obtain rfl : k = zs.length := by omega
      gi_wp2
      go_end0
      exact ⟨⟨_, rfl⟩, .inl ⟨_, rfl, by rw [List.take_length] at hJs; exact hJs⟩⟩
theorem titles_calls (A : Option Addr) (n c : Nat) (w : World) : Calls Tryz.prog 186 #[.slice A n c] w fun e w' => e = .returned (.func (.func 219) #[] #[.pointer (some ⟨w.heap.size, 0, none⟩)]) ∧ w' = w.alloc (.cells #[.slice A n c] 23) := by
  go_enter Tryz.func186, Tryz.ntmps186
  go_wp2_with fail
  go_ret
  exact ⟨rfl, rfl⟩
theorem titles_stops (n : Nat) (hn : 1 ≤ n) (Bs n₀ : Nat) (A : Option Addr) (c : Nat) (zs : List ByteArray) (hz : zs.length ≤ 1000000) (hsz : ∀ s ∈ zs, s.size ≤ 9223372036854775806) (w : World) (hBs : Bs < w.heap.size) (hn₀ : n₀ ≤ w.heap.size)
    (hc : w.cell? ⟨Bs, 0, none⟩ = some (.slice A zs.length c)) (hr : Row w 1 A zs.length (zs.map Value.string)) (hlow : ∀ a, A = some a → a.block < n₀) :
    SeqStopsK Fence.wide n Tryz.prog 219 #[.pointer (some ⟨Bs, 0, none⟩)] (fun x : ByteArray => #[Value.string x, .agg (titR x).cs.toArray]) (Below n₀) (fun ys => ys = zs) (fun pre => pre <+: zs) zs.length w := fun l J Jx W hW hJ _ hY h0 =>
  titles1_in n hn l Bs n₀ A c zs hz hsz J Jx (fun pre X Y hX hXY => hJ pre X Y none hX (ex_grown hXY) (fun r e => by cases e)) hY W ((hW.cell (p := ⟨Bs, 0, none⟩) hBs).trans hc) (hr.ex hW) hlow (Nat.le_trans hn₀ hW.size) h0
end Go.Proofs.YtomfcgeibbicoaaGreat
namespace Go.Proofs.YtomfcgeibbicoaaGreat
open Go.RowKit Go.Maps Go.Shelf Go.Sort
attribute [local go_sem] Oper.semAt_some
set_option maxRecDepth 100000 in
set_option maxHeartbeats 1000000 in
theorem ours_calls (t : TitV) (w : World) : Calls Tryz.prog 136 #[.agg t.cs.toArray] w fun e w' => e = .returned (.bool (decide (t.k = 1) || decide (t.k = 2))) ∧ Ex w w' := by
  obtain ⟨tk, te, tp, tn⟩ := t
  unfold TitV.cs
  have hX := ex_alloc (Ex.refl w) (.cells #[.int .i64 tk, .int .i64 te, .int .i64 tp, .string tn] 192)
  have k0 := (Blk.new w [.int .i64 tk, .int .i64 te, .int .i64 tp, .string tn] 192).cell 0
  have HX := Lib.hid hX
  clear hX
  by_cases h1 : tk = 1
  · subst h1
    go_enter Tryz.func136, Tryz.ntmps136
    go_wp2_with fail
    go_ret
    exact ⟨rfl, HX.out⟩
  · have d1 : decide (tk = 1) = false := decide_eq_false h1
    have e1 : (tk == 1) = false := beq_eq_false_iff_ne.2 h1
    by_cases h2 : tk = 2
    · subst h2
      go_enter Tryz.func136, Tryz.ntmps136
      go_wp2_with fail
      go_ret
      exact ⟨rfl, HX.out⟩
    · have d2 : decide (tk = 2) = false := decide_eq_false h2
      have e2 : (tk == 2) = false := beq_eq_false_iff_ne.2 h2
      rw [d1, d2]
      go_enter Tryz.func136, Tryz.ntmps136
      go_wp2_with fail
      go_ret
      exact ⟨rfl, HX.out⟩
set_option maxRecDepth 100000 in
set_option maxHeartbeats 1000000 in
theorem old1_calls (t : TitV) (eb : Nat) (ep : Int) (w : World) (hc : w.cell? ⟨eb, 0, none⟩ = some (.int .i64 ep)) : Calls Tryz.prog 135 #[.agg t.cs.toArray, .pointer (some ⟨eb, 0, none⟩)] w fun e w' => e = .returned (.bool (isOld ep t)) ∧ Ex w w' := by
  have HC := Lib.hid (fun w => ours_calls t w)
  unfold isOld
  obtain ⟨tk, te, tp, tn⟩ := t
  unfold TitV.cs at HC ⊢
  have hX := ex_alloc (Ex.refl w) (.cells #[.int .i64 tk, .int .i64 te, .int .i64 tp, .string tn] 192)
  have HK := Lib.hid (Blk.new w [.int .i64 tk, .int .i64 te, .int .i64 tp, .string tn] 192)
  have c1 := hX.cell hc
  have HX := Lib.hid hX
  clear hX
  obtain ⟨b, hb⟩ : ∃ b, (decide (tk = 1) || decide (tk = 2)) = b := ⟨_, rfl⟩
  have hb' : (decide ((⟨tk, te, tp, tn⟩ : TitV).k = 1) || decide ((⟨tk, te, tp, tn⟩ : TitV).k = 2)) = b := hb
  rw [hb'] at HC ⊢
  clear hb hb' hc
  go_enter Tryz.func135, Tryz.ntmps135
  go_wp2_with fail
  refine (HC.out _).mono ?_
  rintro e w1 ⟨rfl, hb1⟩
  have c2 := hb1.cell c1
  have k1 := (HK.out.ex hb1).cell 1
  cases b
  · go_wp2_with fail
    go_ret
    exact ⟨rfl, HX.out.trans hb1⟩
  · by_cases he : te = ep
    · subst he
      go_wp2_with fail
      go_ret
      exact ⟨by simp, HX.out.trans hb1⟩
    · have d1 : decide (te = ep) = false := decide_eq_false he
      have e1 : (te == ep) = false := beq_eq_false_iff_ne.2 he
      go_wp2_with fail
      go_ret
      exact ⟨by show Ending.returned (.bool (!(te == ep))) = _; rw [e1]; show _ = Ending.returned (.bool (true && !decide (te = ep))); rw [d1]; rfl, HX.out.trans hb1⟩
set_option maxRecDepth 100000 in
set_option maxHeartbeats 1000000 in
theorem temps1_calls (t : TitV) (w : World) : Calls Tryz.prog 137 #[.agg t.cs.toArray] w fun e w' => e = .returned (.bool (isTemp t)) ∧ Ex w w' := by
  unfold isTemp
  obtain ⟨tk, te, tp, tn⟩ := t
  unfold TitV.cs
  have hX := ex_alloc (Ex.refl w) (.cells #[.int .i64 tk, .int .i64 te, .int .i64 tp, .string tn] 192)
  have k0 := (Blk.new w [.int .i64 tk, .int .i64 te, .int .i64 tp, .string tn] 192).cell 0
  have HX := Lib.hid hX
  clear hX
  by_cases h1 : tk = 3
  · subst h1
    go_enter Tryz.func137, Tryz.ntmps137
    go_wp2_with fail
    go_ret
    exact ⟨rfl, HX.out⟩
  · have d1 : decide (tk = 3) = false := decide_eq_false h1
    have e1 : (tk == 3) = false := beq_eq_false_iff_ne.2 h1
    rw [show decide ((⟨tk, te, tp, tn⟩ : TitV).k = 3) = false from d1]
    go_enter Tryz.func137, Tryz.ntmps137
    go_wp2_with fail
    go_ret
    exact ⟨rfl, HX.out⟩
theorem rise_map {l : List ByteArray} (h : Rise l) : (l.map fun s => s.data.toList).Pairwise fun a b => a < b := by
  rw [List.pairwise_map]
  exact h.imp fun {a b} hb => up_lt.1 hb
theorem Rise.pick {l : List ByteArray} (h : Rise l) (p : TitV → Bool) : Rise (pickN p l) := List.Pairwise.filter _ h
theorem compact_rise {zs : List (List UInt8)} (h : zs.Pairwise fun a b => a < b) : Lib.compact zs = zs := by
  unfold Lib.compact
  have h1 := Lib.compactUpTo_all zs.toArray zs.length fun j hj => by
    cases j with
    | zero => exact Lib.keeps_lt_one _ 0 (by decide)
    | succ j =>
      refine Lib.keeps_pos ?_
      have h2 := List.pairwise_iff_getElem.1 h j (j + 1) (by omega) hj (by omega)
      rw [getElem!_pos zs.toArray (j + 1) (by simpa using hj), getElem!_pos zs.toArray (j + 1 - 1) (by simp; omega)]
      intro e
      simp at e
      rw [e] at h2
      exact Std.lt_irrefl h2
  rw [h1]
  exact Lib.range_map_get zs.toArray
theorem enc_str (s : ByteArray) : encStr s.data.toList = Value.string s := by
  show Value.string ⟨s.data.toList.toArray⟩ = _
  rw [Array.toArray_toList]
theorem own_holds {w : World} {base g c : Nat} {e : TypeId} {l : List ByteArray} (h : w.ownsRow base e 1 (.slice (some ⟨g, 0, none⟩) l.length c) l.length (l.map Value.string)) : Holds encStr w g 0 (l.map fun s => s.data.toList).toArray := by
  intro j hj
  have hj' : j < l.length := by simpa using hj
  have hc := h.cells (g := g) rfl j (.string l[j]) (by rw [List.getElem?_map, List.getElem?_eq_getElem hj']; rfl)
  rw [add_lit0] at hc
  rw [getElem!_pos _ j hj]
  simp only [List.getElem_toArray, List.getElem_map]
  rw [enc_str]
  exact ⟨hc, by rw [Nat.zero_add]; exact h.frozenAt j⟩
theorem ex_grow (w : World) (n : Nat) (os : Array Obj) : Ex w (grow (Sort.ahead w n) os) :=
  ⟨rfl, rfl, rfl, by simp [grow, Sort.ahead], fun k hk => by simp only [grow, Sort.ahead]; exact Array.getElem?_append_left hk⟩
/-- A rising row sorted, and each once: it is as it was. -/
theorem sort_rise {w : World} {base : Nat} {v : Value} {l : List ByteArray} (h : w.ownsRow base 9 1 v l.length (l.map Value.string)) (hr : Rise l) (hl : l.length ≤ 1000000) :
    Calls Tryz.prog 187 #[v] w fun e w' => e = .returned (.tuple #[]) ∧ Ex w w' := by
  obtain ⟨A, c, rfl, hc⟩ := own_shape h
  rcases h.2 with ⟨hn, h0⟩ | ⟨g, cap, cur, hv, _, hg, _⟩
  · injection hn with e1 e2 e3
    subst e1
    obtain rfl : l = [] := List.eq_nil_of_length_eq_zero e2
    refine (AnyM.slices_Sort_string_none Tryz.sortN _ _ _).mono ?_
    rintro e w' ⟨rfl, rfl⟩
    exact ⟨rfl, Ex.refl _⟩
  · injection hv with e1 e2 e3
    subst e1
    have hH := own_holds h
    have := AnyM.slices_Sort_string Tryz.sortN g 0 c (l.map fun s => s.data.toList) w hH (Array.getElem?_eq_some_iff.1 hg).1 (by rw [List.length_map]; omega)
    rw [List.length_map, sort_same (List.Perm.refl _) (rise_map hr)] at this
    refine this.mono ?_
    rintro e w' ⟨rfl, n, os, rfl⟩
    refine ⟨rfl, ?_⟩
    rw [putRow_self encStr (Sort.ahead w n) g 0 _ (holds_ahead encStr w n g 0 _ hH)]
    exact ex_grow w n os
theorem compact_rise_calls {w : World} {base : Nat} {v : Value} {l : List ByteArray} (h : w.ownsRow base 9 1 v l.length (l.map Value.string)) (hr : Rise l) (hl : l.length ≤ 1000000) :
    Calls Tryz.prog 188 #[v] w fun e w' => e = .returned v ∧ Ex w w' := by
  obtain ⟨A, c, rfl, hc⟩ := own_shape h
  rcases h.2 with ⟨hn, h0⟩ | ⟨g, cap, cur, hv, _, hg, _⟩
  · injection hn with e1 e2 e3
    subst e1
    obtain rfl : l = [] := List.eq_nil_of_length_eq_zero e2
    refine (Any.slices_Compact_string_empty Tryz.compactS _ _ _).mono ?_
    rintro e w' ⟨rfl, rfl⟩
    exact ⟨rfl, Ex.refl _⟩
  · injection hv with e1 e2 e3
    subst e1
    have hH := own_holds h
    have := Any.slices_Compact_string Tryz.compactS g 0 c (l.map fun s => s.data.toList) w hH (by rw [List.length_map]; omega) (by rw [List.length_map]; omega)
    rw [compact_rise (rise_map hr), List.length_map, Nat.sub_self] at this
    refine this.mono ?_
    rintro e w' ⟨rfl, q, rfl⟩
    refine ⟨rfl, ?_⟩
    simp only [List.replicate_zero, List.append_nil]
    rw [putRow_self encStr (Sort.ahead w q) g 0 _ (holds_ahead encStr w q g 0 _ hH)]
    exact Dr.ex ⟨q, rfl⟩
end Go.Proofs.YtomfcgeibbicoaaGreat
namespace Go.Proofs.YtomfcgeibbicoaaGreat
open Go.RowKit Go.Maps Go.Shelf Go.Sort
attribute [local go_sem] Oper.semAt_some
theorem pickN_snoc (p : TitV → Bool) (l : List ByteArray) (s : ByteArray) : pickN p (l ++ [s]) = pickN p l ++ (if p (titR s) = true then [s] else []) := by
  unfold pickN
  rw [List.filter_append]
  congr 1
  by_cases h : p (titR s) = true
  · rw [if_pos h]; simp [h]
  · rw [if_neg h]; simp [h]
theorem blk_own {β : Type} (B : Nat) (t : TypeId) (cs : List Value) : Go.Own (fun (_ : β) W => Blk W B t cs) := fun s X Y row hs hg hr => by
  refine (hg.block B hs.lt fun e => ?_).trans hs
  obtain ⟨o, h1, h2⟩ := hr B e.symm
  rw [show X.heap[B]? = _ from hs] at h1
  cases h1
  cases h2
theorem ex_from {W W' : World} (h : Ex W W') (B : Nat) : KeepsFrom B W W' := (ex_keeps h).from B
theorem ex_box1 {W W' : World} {B : Nat} {t : TypeId} {v : Value} (h : Boxed W B t v) (hb : Ex W W') : Boxed W' B t v := (hb.block B h.lt).trans h
set_option maxRecDepth 100000 in
set_option maxHeartbeats 4000000 in
theorem pickOld_calls (A : Option Addr) (c : Nat) (zs : List ByteArray) (hz : zs.length ≤ 1000000) (hsz : ∀ s ∈ zs, s.size ≤ 9223372036854775806) (hri : Rise zs) (eb : Nat) (ep : Int) (w : World) (hr : Row w 1 A zs.length (zs.map Value.string)) (hlow : ∀ a, A = some a → a.block < w.heap.size) (hce : w.cell? ⟨eb, 0, none⟩ = some (.int .i64 ep)) :
    Calls Tryz.prog 134 #[.slice A zs.length c, .func (.func 135) #[] #[.pointer (some ⟨eb, 0, none⟩)]] w fun e w' => ∃ v, e = .returned v ∧ w'.ownsRow w.heap.size 9 1 v (pickN (isOld ep) zs).length ((pickN (isOld ep) zs).map Value.string) ∧ Ex w w' := by
  have hE := World.block_lt_of_cell? w _ hce
  have hE : eb < w.heap.size := hE
  have HSZ := Lib.hid hsz
  have HRI := Lib.hid hri
  have HR := Lib.hid hr
  have HLW := Lib.hid hlow
  have HCE := Lib.hid hce
  have HI := Lib.hid (show (Tryz.prog.info? 9).map (fun i => (i.zero, i.size, i.bytes)) = some (some (.string ⟨#[]⟩), 1, 16) from by kernel_rfl)
  clear hsz hri hr hlow hce
  refine (callsIn_wide (n := 3)).1 ?_
  refine callsIn_of_wp_marks Tryz.func134 rfl trivial ?_ rfl
  simp only [Tryz.ntmps134, List.size_toArray, List.length_cons, List.length_nil, Nat.reduceAdd, Nat.reduceSub, Array.replicate_succ, Array.replicate_zero, List.push_toArray, List.append_toArray, List.nil_append, List.cons_append]
  gi_wp2_with (refine ⟨trivial, ?_⟩; gi_at_call 186; refine (callsIn_wide.2 (titles_calls _ _ _ _)).mono ?_; rintro e w' ⟨rfl, rfl⟩)
  have bF := ((Boxed.new w 193 (.func (.func 135) #[] #[.pointer (some ⟨eb, 0, none⟩)])).alloc (.cells #[.slice none 0 0] 23)).alloc (.cells #[.slice A zs.length c] 23)
  have bO := (Boxed.new (w.alloc (.cells #[.func (.func 135) #[] #[.pointer (some ⟨eb, 0, none⟩)]] 193)) 23 (.slice none 0 0)).alloc (.cells #[.slice A zs.length c] 23)
  have bN := Boxed.new ((w.alloc (.cells #[.func (.func 135) #[] #[.pointer (some ⟨eb, 0, none⟩)]] 193)).alloc (.cells #[.slice none 0 0] 23)) 23 (.slice A zs.length c)
  simp only [World.size_alloc] at bF bO bN
  have hB0 : Below w.heap.size w (((w.alloc (.cells #[.func (.func 135) #[] #[.pointer (some ⟨eb, 0, none⟩)]] 193)).alloc (.cells #[.slice none 0 0] 23)).alloc (.cells #[.slice A zs.length c] 23)) := (((Below.refl _ w).alloc (Nat.le_refl _) _).alloc (by simp) _).alloc (by simp; omega) _
  have hsz : (((w.alloc (.cells #[.func (.func 135) #[] #[.pointer (some ⟨eb, 0, none⟩)]] 193)).alloc (.cells #[.slice none 0 0] 23)).alloc (.cells #[.slice A zs.length c] 23)).heap.size = w.heap.size + 3 := by simp
  obtain ⟨W0, hW0⟩ : ∃ W0, ((w.alloc (.cells #[.func (.func 135) #[] #[.pointer (some ⟨eb, 0, none⟩)]] 193)).alloc (.cells #[.slice none 0 0] 23)).alloc (.cells #[.slice A zs.length c] 23) = W0 := ⟨_, rfl⟩
  rw [hW0] at bF bO bN hB0 hsz ⊢
  clear hW0
  refine wpIn_rangeFunc_ownH rfl (by omega) (gf := 219) (lb := #[.pointer (some ⟨w.heap.size + 1 + 1, 0, none⟩)]) rfl trivial (enters_of Tryz.func219 (by kernel_rfl) rfl)
    (titles_stops (3 - 1) (by omega) (w.heap.size + 1 + 1) w.heap.size A c zs hz HSZ.out W0 (by omega) (by omega) bN.cell (HR.out.keep fun b o u h => (hB0.cell (World.block_lt_of_cell? w _ h)).trans h) HLW.out) belowK_t (belowK_b (by omega)) (Below.refl _ _) (fun _ => rfl)
    (fun pre W => ((∃ v, Boxed W (w.heap.size + 1) 23 v ∧ W.ownsRow w.heap.size 9 1 v (pickN (isOld ep) pre).length ((pickN (isOld ep) pre).map Value.string) ∧ True) ∧ Boxed W w.heap.size 193 (.func (.func 135) #[] #[.pointer (some ⟨eb, 0, none⟩)])) ∧ Below w.heap.size w W)
    (fun _ _ _ => False)
    (OwnFrom.and (OwnFrom.and (Own.from (holdsRow_own w.heap.size (w.heap.size + 1) 23 9 1 (fun pre => (pickN (isOld ep) pre).length) (fun pre => (pickN (isOld ep) pre).map Value.string) (fun _ _ => True)) _) (Own.from (boxed_own _ _ _) _)) (ownFrom_below (Nat.le_refl _) (by omega)))
    (fun _ _ _ _ _ hs _ _ => hs)
    ⟨⟨⟨_, bO, World.ownsRow_nil _ _ _ _, trivial⟩, bF⟩, hB0⟩
    (fun x a' W => ∃ Bx, w.heap.size + 1 < Bx ∧ Blk W Bx 192 (titR x).cs ∧ a' = { tmps := #[.slice A zs.length c, .func (.func 135) #[] #[.pointer (some ⟨eb, 0, none⟩)], undef, .pointer (some ⟨w.heap.size, 0, none⟩), .slice none 0 0, .pointer (some ⟨w.heap.size + 1, 0, none⟩), .string x, .pointer (some ⟨Bx, 0, none⟩), .slice A zs.length c, .func (.func 219) #[] #[.pointer (some ⟨w.heap.size + 1 + 1, 0, none⟩)], .string x, .agg (titR x).cs.toArray, undef, undef, undef, undef, undef, undef, undef, undef, undef, undef, undef], defers := [] })
    (fun x a' _ X Y row hs hg hr => by obtain ⟨Bx, h1, h2, h3⟩ := hs; exact ⟨Bx, h1, blk_own Bx _ (titR x).cs () X Y row h2 hg (fun r e => (hr r e).2), h3⟩)
    ?assign ?body ?done ?stop
  case assign =>
    rintro l pre x W K ⟨⟨⟨v, hv, hrow, _⟩, bF1⟩, hB1⟩ hK
    obtain ⟨T, hT⟩ : ∃ T, titR x = T := ⟨_, rfl⟩
    have hK' := hK
    rw [hT] at hK ⊢
    obtain ⟨tk, te, tp, tn⟩ := T
    unfold TitV.cs at hK ⊢
    have HK := Lib.hid hK
    clear hK hK'
    gi_wp2
    exact HK.out _ _ ((KeepsOthers.alloc _ _).from _) ((Below.refl _ W).alloc hB1.size _) ⟨⟨⟨v, hv.alloc _, hrow.alloc _, trivial⟩, bF1.alloc _⟩, hB1.alloc hB1.size _⟩ ⟨W.heap.size, by have := hv.lt; omega, Blk.new W _ _, rfl⟩
  case body =>
    rintro l pre x a' W hl ⟨r, hr⟩ ⟨⟨⟨v, hv, hrow, _⟩, bF1⟩, hB1⟩ ⟨Bx, hBx, bX, rfl⟩ hlt
    have hpl : (pickN (isOld ep) pre).length ≤ 1000000 := Nat.le_trans (pickN_len _ _) (by omega)
    have cF := bF1.cell
    have HSN := Lib.hid (pickN_snoc (isOld ep) pre x)
    have HC := Lib.hid (fun W h => old1_calls (titR x) eb ep W h)
    have HV := Lib.hid hv
    have HRW := Lib.hid hrow
    have HB1 := Lib.hid hB1
    have HCE1 := (hB1.cell (p := ⟨eb, 0, none⟩) hE).trans HCE.out
    obtain ⟨T, hT⟩ : ∃ T, titR x = T := ⟨_, rfl⟩
    rw [hT] at HC HSN bX ⊢
    clear hT hv hrow hB1
    obtain ⟨tk, te, tp, tn⟩ := T
    unfold TitV.cs at HC bX ⊢
    have x0 := bX.cell 0
    have x1 := bX.cell 1
    have x2 := bX.cell 2
    have x3 := bX.cell 3
    gi_wp2
    refine ⟨trivial, (CallsIn.inRound l (callsIn_wide.2 (HC.out W HCE1))).mono ?_⟩
    rintro e W2 ⟨rfl, hb2⟩
    have hbm := hb2.mono HB1.out.size
    have hv2 := ex_box1 HV.out hb2
    have hrow2 := own_ex HRW.out hb2
    have hz2 := hb2.size
    have hz1 := HB1.out.size
    have bF2 := Lib.hid (ex_box1 bF1 hb2)
    have HBm := Lib.hid hbm
    have hc2 := hv2.cell
    cases hq : isOld ep ⟨tk, te, tp, tn⟩
    · have HSM := HSN.out
      rw [hq, if_neg (by decide), List.append_nil] at HSM
      gi_wp2
      exact ⟨ex_from hb2 _, HBm.out, ⟨⟨v, hv2, by rw [HSM]; exact hrow2, trivial⟩, bF2.out⟩, HB1.out.trans HBm.out⟩
    · have HSM := HSN.out
      rw [hq, if_pos rfl] at HSM
      have HS2 := Lib.hid HSM
      clear HSM HSN hq HC
      obtain ⟨i0, hi, hzz0, hzz1, hzz2⟩ := info_parts HI.out
      have hm : (pickN (isOld ep) pre).length + 1 ≤ maxLen := by unfold maxLen; omega
      gi_wp2_with (gi_at_builtin; refine wpListIn_append_own _ rfl _ _ 23 rfl w.heap.size 9 i0 (.string ⟨#[]⟩) 1 16 Tryz.underlying23 hi hzz0 hzz1 hzz2 rfl (by decide) _ _ _ rfl (hrow2.alloc _) ⟨W2.heap.size, 0, none⟩ 1 1 [.string x] rfl rfl (cell_one_new _ _ _) (by simp [Value.oneCell']) hm (by omega) (by simp; omega) ?_; intro v' w1 hown' hgrow _; obtain ⟨g', cap', rfl⟩ := ownsRow_succ hown'; obtain ⟨hv1, hv3, hr3, hk3, hb3⟩ := hv2.appended (by decide) hrow2 (Nat.le_trans hz1 hz2) (by omega) hown' hgrow; have hc1 := hv1.cell; have hf1 := hv1.frozen)
      exact ⟨((ex_keeps hb2).trans hk3).from _, HBm.out.trans hb3, ⟨⟨_, hv3, by rw [HS2.out, List.length_append, List.map_append]; exact hr3, trivial⟩, (((bF2.out.alloc _).kept hgrow (bF2.out.not_row (by decide) hrow2)).other (by simp) _)⟩, HB1.out.trans (HBm.out.trans hb3)⟩
  case done =>
    rintro D ys W hD rfl ⟨⟨⟨v, hv, hrow, _⟩, bF1⟩, hB1⟩ hK
    have hc := hv.cell
    gi_wp2
    have hpl : (pickN (isOld ep) ys).length ≤ 1000000 := Nat.le_trans (pickN_len _ _) hz
    refine ⟨trivial, (callsIn_wide.2 (sort_rise hrow (HRI.out.pick _) hpl)).mono ?_⟩
    rintro e W3 ⟨rfl, hb3⟩
    have hc3 := hb3.cell hc
    have hK3 := (hb3.block D (Array.getElem?_eq_some_iff.1 hK).1).trans hK
    have hrow3 := own_ex hrow hb3
    gi_wp2
    refine ⟨trivial, (callsIn_wide.2 (compact_rise_calls hrow3 (HRI.out.pick _) hpl)).mono ?_⟩
    rintro e W4 ⟨rfl, hb4⟩
    have hK4 := (hb4.block D (Array.getElem?_eq_some_iff.1 hK3).1).trans hK3
    have hB4 := hB1.trans ((Ex.trans hb3 hb4).mono hB1.size)
    gi_wp2
    refine ⟨by simp, .inl ⟨_, _, rfl, run_takeDeferred hK4, ?_⟩⟩
    exact ⟨_, results_tmp rfl _ _ _, v, rfl, ownsRow_putObj (own_ex hrow3 hb4) _ hK4 rfl, hB4.trans (belowK_b (w := w) (Nat.le_refl _) W4 D _ _ (by omega) hK4 rfl rfl)⟩
  case stop =>
    rintro D c pre W _ _ h _
    exact h.elim
set_option maxRecDepth 100000 in
set_option maxHeartbeats 4000000 in
theorem pickTemps_calls (A : Option Addr) (c : Nat) (zs : List ByteArray) (hz : zs.length ≤ 1000000) (hsz : ∀ s ∈ zs, s.size ≤ 9223372036854775806) (hri : Rise zs) (w : World) (hr : Row w 1 A zs.length (zs.map Value.string)) (hlow : ∀ a, A = some a → a.block < w.heap.size) :
    Calls Tryz.prog 134 #[.slice A zs.length c, .func (.func 137) #[] #[]] w fun e w' => ∃ v, e = .returned v ∧ w'.ownsRow w.heap.size 9 1 v (pickN (isTemp) zs).length ((pickN (isTemp) zs).map Value.string) ∧ Ex w w' := by
  have HSZ := Lib.hid hsz
  have HRI := Lib.hid hri
  have HR := Lib.hid hr
  have HLW := Lib.hid hlow
  have HI := Lib.hid (show (Tryz.prog.info? 9).map (fun i => (i.zero, i.size, i.bytes)) = some (some (.string ⟨#[]⟩), 1, 16) from by kernel_rfl)
  clear hsz hri hr hlow
  refine (callsIn_wide (n := 3)).1 ?_
  refine callsIn_of_wp_marks Tryz.func134 rfl trivial ?_ rfl
  simp only [Tryz.ntmps134, List.size_toArray, List.length_cons, List.length_nil, Nat.reduceAdd, Nat.reduceSub, Array.replicate_succ, Array.replicate_zero, List.push_toArray, List.append_toArray, List.nil_append, List.cons_append]
  gi_wp2_with (refine ⟨trivial, ?_⟩; gi_at_call 186; refine (callsIn_wide.2 (titles_calls _ _ _ _)).mono ?_; rintro e w' ⟨rfl, rfl⟩)
  have bF := ((Boxed.new w 193 (.func (.func 137) #[] #[])).alloc (.cells #[.slice none 0 0] 23)).alloc (.cells #[.slice A zs.length c] 23)
  have bO := (Boxed.new (w.alloc (.cells #[.func (.func 137) #[] #[]] 193)) 23 (.slice none 0 0)).alloc (.cells #[.slice A zs.length c] 23)
  have bN := Boxed.new ((w.alloc (.cells #[.func (.func 137) #[] #[]] 193)).alloc (.cells #[.slice none 0 0] 23)) 23 (.slice A zs.length c)
  simp only [World.size_alloc] at bF bO bN
  have hB0 : Below w.heap.size w (((w.alloc (.cells #[.func (.func 137) #[] #[]] 193)).alloc (.cells #[.slice none 0 0] 23)).alloc (.cells #[.slice A zs.length c] 23)) := (((Below.refl _ w).alloc (Nat.le_refl _) _).alloc (by simp) _).alloc (by simp; omega) _
  have hsz : (((w.alloc (.cells #[.func (.func 137) #[] #[]] 193)).alloc (.cells #[.slice none 0 0] 23)).alloc (.cells #[.slice A zs.length c] 23)).heap.size = w.heap.size + 3 := by simp
  obtain ⟨W0, hW0⟩ : ∃ W0, ((w.alloc (.cells #[.func (.func 137) #[] #[]] 193)).alloc (.cells #[.slice none 0 0] 23)).alloc (.cells #[.slice A zs.length c] 23) = W0 := ⟨_, rfl⟩
  rw [hW0] at bF bO bN hB0 hsz ⊢
  clear hW0
  refine wpIn_rangeFunc_ownH rfl (by omega) (gf := 219) (lb := #[.pointer (some ⟨w.heap.size + 1 + 1, 0, none⟩)]) rfl trivial (enters_of Tryz.func219 (by kernel_rfl) rfl)
    (titles_stops (3 - 1) (by omega) (w.heap.size + 1 + 1) w.heap.size A c zs hz HSZ.out W0 (by omega) (by omega) bN.cell (HR.out.keep fun b o u h => (hB0.cell (World.block_lt_of_cell? w _ h)).trans h) HLW.out) belowK_t (belowK_b (by omega)) (Below.refl _ _) (fun _ => rfl)
    (fun pre W => ((∃ v, Boxed W (w.heap.size + 1) 23 v ∧ W.ownsRow w.heap.size 9 1 v (pickN (isTemp) pre).length ((pickN (isTemp) pre).map Value.string) ∧ True) ∧ Boxed W w.heap.size 193 (.func (.func 137) #[] #[])) ∧ Below w.heap.size w W)
    (fun _ _ _ => False)
    (OwnFrom.and (OwnFrom.and (Own.from (holdsRow_own w.heap.size (w.heap.size + 1) 23 9 1 (fun pre => (pickN (isTemp) pre).length) (fun pre => (pickN (isTemp) pre).map Value.string) (fun _ _ => True)) _) (Own.from (boxed_own _ _ _) _)) (ownFrom_below (Nat.le_refl _) (by omega)))
    (fun _ _ _ _ _ hs _ _ => hs)
    ⟨⟨⟨_, bO, World.ownsRow_nil _ _ _ _, trivial⟩, bF⟩, hB0⟩
    (fun x a' W => ∃ Bx, w.heap.size + 1 < Bx ∧ Blk W Bx 192 (titR x).cs ∧ a' = { tmps := #[.slice A zs.length c, .func (.func 137) #[] #[], undef, .pointer (some ⟨w.heap.size, 0, none⟩), .slice none 0 0, .pointer (some ⟨w.heap.size + 1, 0, none⟩), .string x, .pointer (some ⟨Bx, 0, none⟩), .slice A zs.length c, .func (.func 219) #[] #[.pointer (some ⟨w.heap.size + 1 + 1, 0, none⟩)], .string x, .agg (titR x).cs.toArray, undef, undef, undef, undef, undef, undef, undef, undef, undef, undef, undef], defers := [] })
    (fun x a' _ X Y row hs hg hr => by obtain ⟨Bx, h1, h2, h3⟩ := hs; exact ⟨Bx, h1, blk_own Bx _ (titR x).cs () X Y row h2 hg (fun r e => (hr r e).2), h3⟩)
    ?assign ?body ?done ?stop
  case assign =>
    rintro l pre x W K ⟨⟨⟨v, hv, hrow, _⟩, bF1⟩, hB1⟩ hK
    obtain ⟨T, hT⟩ : ∃ T, titR x = T := ⟨_, rfl⟩
    have hK' := hK
    rw [hT] at hK ⊢
    obtain ⟨tk, te, tp, tn⟩ := T
    unfold TitV.cs at hK ⊢
    have HK := Lib.hid hK
    clear hK hK'
    gi_wp2
    exact HK.out _ _ ((KeepsOthers.alloc _ _).from _) ((Below.refl _ W).alloc hB1.size _) ⟨⟨⟨v, hv.alloc _, hrow.alloc _, trivial⟩, bF1.alloc _⟩, hB1.alloc hB1.size _⟩ ⟨W.heap.size, by have := hv.lt; omega, Blk.new W _ _, rfl⟩
  case body =>
    rintro l pre x a' W hl ⟨r, hr⟩ ⟨⟨⟨v, hv, hrow, _⟩, bF1⟩, hB1⟩ ⟨Bx, hBx, bX, rfl⟩ hlt
    have hpl : (pickN (isTemp) pre).length ≤ 1000000 := Nat.le_trans (pickN_len _ _) (by omega)
    have cF := bF1.cell
    have HSN := Lib.hid (pickN_snoc (isTemp) pre x)
    have HC := Lib.hid (fun W => temps1_calls (titR x) W)
    have HV := Lib.hid hv
    have HRW := Lib.hid hrow
    have HB1 := Lib.hid hB1
    obtain ⟨T, hT⟩ : ∃ T, titR x = T := ⟨_, rfl⟩
    rw [hT] at HC HSN bX ⊢
    clear hT hv hrow hB1
    obtain ⟨tk, te, tp, tn⟩ := T
    unfold TitV.cs at HC bX ⊢
    have x0 := bX.cell 0
    have x1 := bX.cell 1
    have x2 := bX.cell 2
    have x3 := bX.cell 3
    gi_wp2
    refine ⟨trivial, (CallsIn.inRound l (callsIn_wide.2 (HC.out W))).mono ?_⟩
    rintro e W2 ⟨rfl, hb2⟩
    have hbm := hb2.mono HB1.out.size
    have hv2 := ex_box1 HV.out hb2
    have hrow2 := own_ex HRW.out hb2
    have hz2 := hb2.size
    have hz1 := HB1.out.size
    have bF2 := Lib.hid (ex_box1 bF1 hb2)
    have HBm := Lib.hid hbm
    have hc2 := hv2.cell
    cases hq : isTemp ⟨tk, te, tp, tn⟩
    · have HSM := HSN.out
      rw [hq, if_neg (by decide), List.append_nil] at HSM
      gi_wp2
      exact ⟨ex_from hb2 _, HBm.out, ⟨⟨v, hv2, by rw [HSM]; exact hrow2, trivial⟩, bF2.out⟩, HB1.out.trans HBm.out⟩
    · have HSM := HSN.out
      rw [hq, if_pos rfl] at HSM
      have HS2 := Lib.hid HSM
      clear HSM HSN hq HC
      obtain ⟨i0, hi, hzz0, hzz1, hzz2⟩ := info_parts HI.out
      have hm : (pickN (isTemp) pre).length + 1 ≤ maxLen := by unfold maxLen; omega
      gi_wp2_with (gi_at_builtin; refine wpListIn_append_own _ rfl _ _ 23 rfl w.heap.size 9 i0 (.string ⟨#[]⟩) 1 16 Tryz.underlying23 hi hzz0 hzz1 hzz2 rfl (by decide) _ _ _ rfl (hrow2.alloc _) ⟨W2.heap.size, 0, none⟩ 1 1 [.string x] rfl rfl (cell_one_new _ _ _) (by simp [Value.oneCell']) hm (by omega) (by simp; omega) ?_; intro v' w1 hown' hgrow _; obtain ⟨g', cap', rfl⟩ := ownsRow_succ hown'; obtain ⟨hv1, hv3, hr3, hk3, hb3⟩ := hv2.appended (by decide) hrow2 (Nat.le_trans hz1 hz2) (by omega) hown' hgrow; have hc1 := hv1.cell; have hf1 := hv1.frozen)
      exact ⟨((ex_keeps hb2).trans hk3).from _, HBm.out.trans hb3, ⟨⟨_, hv3, by rw [HS2.out, List.length_append, List.map_append]; exact hr3, trivial⟩, (((bF2.out.alloc _).kept hgrow (bF2.out.not_row (by decide) hrow2)).other (by simp) _)⟩, HB1.out.trans (HBm.out.trans hb3)⟩
  case done =>
    rintro D ys W hD rfl ⟨⟨⟨v, hv, hrow, _⟩, bF1⟩, hB1⟩ hK
    have hc := hv.cell
    gi_wp2
    have hpl : (pickN (isTemp) ys).length ≤ 1000000 := Nat.le_trans (pickN_len _ _) hz
    refine ⟨trivial, (callsIn_wide.2 (sort_rise hrow (HRI.out.pick _) hpl)).mono ?_⟩
    rintro e W3 ⟨rfl, hb3⟩
    have hc3 := hb3.cell hc
    have hK3 := (hb3.block D (Array.getElem?_eq_some_iff.1 hK).1).trans hK
    have hrow3 := own_ex hrow hb3
    gi_wp2
    refine ⟨trivial, (callsIn_wide.2 (compact_rise_calls hrow3 (HRI.out.pick _) hpl)).mono ?_⟩
    rintro e W4 ⟨rfl, hb4⟩
    have hK4 := (hb4.block D (Array.getElem?_eq_some_iff.1 hK3).1).trans hK3
    have hB4 := hB1.trans ((Ex.trans hb3 hb4).mono hB1.size)
    gi_wp2
    refine ⟨by simp, .inl ⟨_, _, rfl, run_takeDeferred hK4, ?_⟩⟩
    exact ⟨_, results_tmp rfl _ _ _, v, rfl, ownsRow_putObj (own_ex hrow3 hb4) _ hK4 rfl, hB4.trans (belowK_b (w := w) (Nat.le_refl _) W4 D _ _ (by omega) hK4 rfl rfl)⟩
  case stop =>
    rintro D c pre W _ _ h _
    exact h.elim
set_option maxRecDepth 100000 in
set_option maxHeartbeats 1000000 in
theorem told_calls (A : Option Addr) (c : Nat) (zs : List ByteArray) (hz : zs.length ≤ 1000000) (hsz : ∀ s ∈ zs, s.size ≤ 9223372036854775806) (hri : Rise zs) (ep : Int) (w : World) (hr : Row w 1 A zs.length (zs.map Value.string)) (hlow : ∀ a, A = some a → a.block < w.heap.size) :
    Calls Tryz.prog 67 #[.slice A zs.length c, .int .i64 ep] w fun e w' => ∃ v, e = .returned v ∧ w'.ownsRow w.heap.size 9 1 v (pickN (isOld ep) zs).length ((pickN (isOld ep) zs).map Value.string) ∧ Ex w w' := by
  have hX := ex_alloc (Ex.refl w) (.cells #[.int .i64 ep] 3)
  have hz0 := hX.size
  have HC := Lib.hid (pickOld_calls A c zs hz hsz hri w.heap.size ep (w.alloc (.cells #[.int .i64 ep] 3)) (hr.ex hX) (fun a ha => Nat.lt_of_lt_of_le (hlow a ha) hz0) (Blk.new w [.int .i64 ep] 3 |>.cell 0))
  have HX := Lib.hid hX
  clear hsz hri hr hlow hX
  go_enter Tryz.func67, Tryz.ntmps67
  go_wp2_with fail
  refine HC.out.mono ?_
  rintro e w1 ⟨v, rfl, ho, hb⟩
  go_wp2_with fail
  go_ret
  exact ⟨v, rfl, own_more ho hz0, HX.out.trans hb⟩
set_option maxRecDepth 100000 in
set_option maxHeartbeats 1000000 in
theorem ttemps_calls (A : Option Addr) (c : Nat) (zs : List ByteArray) (hz : zs.length ≤ 1000000) (hsz : ∀ s ∈ zs, s.size ≤ 9223372036854775806) (hri : Rise zs) (w : World) (hr : Row w 1 A zs.length (zs.map Value.string)) (hlow : ∀ a, A = some a → a.block < w.heap.size) :
    Calls Tryz.prog 68 #[.slice A zs.length c] w fun e w' => ∃ v, e = .returned v ∧ w'.ownsRow w.heap.size 9 1 v (pickN isTemp zs).length ((pickN isTemp zs).map Value.string) ∧ Ex w w' := by
  have HC := Lib.hid (pickTemps_calls A c zs hz hsz hri w hr hlow)
  clear hsz hri hr hlow
  go_enter Tryz.func68, Tryz.ntmps68
  go_wp2_with fail
  refine HC.out.mono ?_
  rintro e w1 ⟨v, rfl, ho, hb⟩
  go_wp2_with fail
  go_ret
  exact ⟨v, rfl, ho, hb⟩
end Go.Proofs.YtomfcgeibbicoaaGreat
