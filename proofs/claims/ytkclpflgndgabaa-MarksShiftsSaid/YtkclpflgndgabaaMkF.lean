/- Walk: slices.Delete of one mark out of a row of the call's own. -/
import Derived.Test.YtkclpflgndgabaaMkE
namespace Go.Proofs.Ytkclpflgndgabaa
open Go.RowKit
section
variable {P : Program}
/-- append within the room, the row known as a block. -/
theorem step_append_in {w : World} {ops : Array Oper} {op : Oper} {a : Act} {K : Act → World → Prop} {Q : Exit → Act → World → Prop} {E : Prop} (hgd : op.guard = none) (s x : Operand) (t : TypeId) (ho : op.op = .call { callee := .builtin .append, args := #[s, x], argTypes := #[t, t] })
    (e : TypeId) (i : TypeInfo) (k : Nat) (ht : P.underlying t = some (.slice e)) (hi : P.info? e = some i) (hsize : i.size = k) (g n cap : Nat) (cur : List Value) (hs : a.eval s = .slice (some ⟨g, 0, none⟩) n cap) (hg : Blk w g e cur)
    (sp : Option Addr) (m c : Nat) (news : List Value) (hx : a.eval x = .slice sp m c) (hl : news.length = m * k) (hsrc : 0 < news.length → ∃ b o', sp = some ⟨b, o', none⟩ ∧ ∀ j u, news[j]? = some u → w.cell? ⟨b, o' + j, none⟩ = some u) (h1 : ∀ u ∈ news, u.oneCell' = true)
    (hroom : n + m ≤ cap) (hfit : n * k + news.length ≤ cur.length)
    (hK : ∀ w', Blk w' g e (spl cur (n * k) news) → w.grownBy w' (some g) → K (a.put op.dst (.slice (some ⟨g, 0, none⟩) (n + m) cap)) w') : if Region.wanted op (yielded ops a.tmps) = true then Oper.wp P op a w K Q else E := by
  subst hsize
  refine step_val hgd (v := .slice (some ⟨g, 0, none⟩) (n + m) cap) (w' := w.setRow g (spl cur (n * i.size) news).toArray) ?_ (hK _ (blk_setRow hg) (grown_setRow w g _))
  rcases Nat.eq_zero_or_pos news.length with h0 | h0
  · have hn : news = [] := List.eq_nil_of_length_eq_zero h0
    subst hn
    have hm0 : m * i.size = 0 := by rw [← hl]; rfl
    have e1 : w.setRow g (spl cur (n * i.size) []).toArray = w := by
      rw [show spl cur (n * i.size) [] = cur from by simp [spl]]
      exact setRow_self w g cur.toArray e (0, 0) hg
    rw [e1]
    cases sp with
    | none => simp [execOp, ho, resolve, invoke, builtin, hs, hx, Builtin.append_, run_underlying ht, sizeOf, typeInfo, hi, Builtin.lenOf, hroom, Builtin.firstCells, storeCells, Result.andThen]
    | some ad =>
      have hf := run_firstCells_some (P := P) w i.size m ad m c [] (by rw [hm0]; rfl) (by simp)
      simp [execOp, ho, resolve, invoke, builtin, hs, hx, Builtin.append_, run_underlying ht, sizeOf, typeInfo, hi, Builtin.lenOf, hroom, hf, storeCells, Result.andThen]
  · obtain ⟨b, o', rfl, hc⟩ := hsrc h0
    have hrun := run_append_room (P := P) w t op.type e i ht hi g n cap cur.toArray hg ⟨b, o', none⟩ m c news hl (fun j u hu => by rw [add_lit0]; exact hc j u hu) h1 hroom (by simpa using hfit)
    simp [execOp, ho, resolve, invoke, builtin, hs, hx, hrun, Result.andThen, spl]
end
theorem del_cs {cur Z : List Value} {l : List Mk} {i n cap : Nat} (hct : cur.take (n * 2) = Mk.cs l) (hl : l.length = n) (hi : i < n) (hcl : cur.length = cap * 2) (hc : n ≤ cap) :
    (spl (spl cur (i * 2) (Mk.cs (l.drop (i + 1)))) ((n - 1) * 2) Z).take ((n - 1) * 2) = Mk.cs (l.eraseIdx i) := by
  have h2 : (Mk.cs (l.drop (i + 1))).length = (n - 1 - i) * 2 := by rw [Mk.cs_len, List.length_drop, hl]; omega
  have h0 := ins_pre hct (i := i) (by omega)
  have h1 : (Mk.cs (l.take i)).length = i * 2 := by rw [Mk.cs_len, List.length_take, hl]; omega
  have e1 : (spl cur (i * 2) (Mk.cs (l.drop (i + 1)))).take ((n - 1) * 2) = Mk.cs (l.take i) ++ Mk.cs (l.drop (i + 1)) := by
    rw [spl, h0, take_app (by simp only [List.length_append]; omega)]
  have e2 : (spl (spl cur (i * 2) (Mk.cs (l.drop (i + 1)))) ((n - 1) * 2) Z).take ((n - 1) * 2) = (spl cur (i * 2) (Mk.cs (l.drop (i + 1)))).take ((n - 1) * 2) := by
    rw [spl, List.append_assoc, take_app]
    rw [List.length_take, spl_len (by rw [h2, hcl]; omega), hcl]
    omega
  rw [e2, e1, ← Mk.cs_append, List.eraseIdx_eq_take_drop_succ]
set_option maxHeartbeats 800000 in
theorem delete_calls (base : Nat) (w0 w : World) (v : Value) (n : Nat) (l : List Mk) (i : Nat) (hown : w.ownsRow base 24 2 v n (Mk.cs l)) (hn : n ≤ 100000) (hi : i < n) (hbase : base ≤ w.heap.size) (hb : Below base w0 w) :
    Calls Try.prog 34 #[v, .int .i64 (i : Int), .int .i64 ((i : Int) + 1)] w fun e w' => ∃ v', e = .returned v' ∧ w'.ownsRow base 24 2 v' (n - 1) (Mk.cs (l.eraseIdx i)) ∧ Below base w0 w' := by
  have hlen : l.length = n := by have := hown.1; rw [Mk.cs_len] at this; omega
  rcases own_blk hown with ⟨rfl, rfl, hl⟩ | ⟨g, cap, cur, rfl, hg, hblk, hnc, hcm, hcl, hct⟩
  · omega
  · obtain ⟨i0, hi0, hz0, hz1, hz2⟩ := info_parts info_mk
    have Hb := Lib.hid hblk
    have Hl := Lib.hid hlen
    have Hcl := Lib.hid hcl
    have Hct := Lib.hid hct
    clear hblk hlen hcl hct
    unfold maxLen at hcm
    have e1 : ((i : Int) == (i : Int) + 1) = false := by rw [beq_eq_false_iff_ne]; omega
    have p1 : (i : Int) ≤ (i : Int) + 1 := by omega
    have p2 : (i : Int) + 1 ≤ (n : Int) := by omega
    have p3 : (n : Int) ≤ (cap : Int) := by omega
    have p4 : ((i : Int) + 1).toNat = i + 1 := by omega
    have p5 : 0 ≤ (i : Int) + 1 := by omega
    have p6 : i + 1 ≤ n := by omega
    have p7 : i ≤ n := by omega
    have p8 : (i : Int) ≤ (n : Int) := by omega
    have p10 : (i : Int) ≤ (cap : Int) := by omega
    have p11 : i ≤ cap := by omega
    have p9 : i + (n - (i + 1)) = n - 1 := by omega
    have P9 := Lib.hid p9
    clear p9
    have hsrc : Mk.cs (l.drop (i + 1)) = (cur.drop ((i + 1) * 2)).take ((n - (i + 1)) * 2) := (ins_src Hct.out).symm
    have hl2 : (Mk.cs (l.drop (i + 1))).length = (n - (i + 1)) * 2 := by rw [Mk.cs_len, List.length_drop, Hl.out]
    have f1 := Lib.hid (show 0 < (Mk.cs (l.drop (i + 1))).length → ∃ b o', (if cap = i + 1 then some (⟨g, 0, none⟩ : Addr) else some ⟨g, (i + 1) * 2, none⟩) = some ⟨b, o', none⟩ ∧ ∀ j u, (Mk.cs (l.drop (i + 1)))[j]? = some u → w.drew.cell? ⟨b, o' + j, none⟩ = some u from fun h => by
      rw [hl2] at h
      rw [if_neg (by omega)]
      refine ⟨g, (i + 1) * 2, rfl, fun j u hu => (Hb.out.cell _).trans ?_⟩
      rw [hsrc, List.getElem?_take] at hu
      split at hu
      · rwa [List.getElem?_drop] at hu
      · cases hu)
    have f2 := Lib.hid (show i * 2 + (Mk.cs (l.drop (i + 1))).length ≤ cur.length by rw [hl2, Hcl.out]; omega)
    have f3 := Lib.hid hl2
    have f4 := Lib.hid (show Blk w.drew g 24 cur from Hb.out)
    have f5 : i + (n - (i + 1)) ≤ cap := by omega
    clear hsrc hl2
    go_enter Try.func34, Try.ntmps34
    go_wp2
    go_region_law? (refine step_append_in rfl (.tmp 22) (.tmp 25) _ rfl 24 i0 2 Try.underlying22 hi0 hz1 g i cap cur ?hd1 f4.out (if cap = i + 1 then some ⟨g, 0, none⟩ else some ⟨g, (i + 1) * 2, none⟩) (n - (i + 1)) (cap - (i + 1)) (Mk.cs (l.drop (i + 1))) ?hs1 f3.out f1.out (Mk.one _) f5 f2.out ?hk1; (case hd1 => go_simp); (case hs1 => go_simp); intro wa hb1 hg1)
    have HB1 := Lib.hid hb1
    have hba : Below base w0 wa := (show Below base w0 w.drew from hb.drew).grown hg1 hbase (fun k hk => by injection hk with hk; omega)
    clear hb1
    rw [P9.out]
    have q1 : ((n - 1 : Nat) : Int) ≤ (n : Int) := by omega
    have q2 : n - 1 ≤ n := by omega
    have q3 : ¬ cap = n - 1 := by omega
    have f6 := Lib.hid (show (n - 1) * 2 + (n - (n - 1)) * 2 ≤ (spl cur (i * 2) (Mk.cs (l.drop (i + 1)))).length by rw [spl_len f2.out, Hcl.out]; omega)
    go_wp2_with (refine wpList_clear_k rfl (.tmp 31) _ rfl 24 (.agg #[.string ⟨#[]⟩, .int .i64 0]) 2 g ((n - 1) * 2) (n - (n - 1)) (cap - (n - 1)) (spl cur (i * 2) (Mk.cs (l.drop (i + 1)))) 24 Try.underlying22 ?hz2 rfl ?ho2 ?hd2 HB1.out f6.out ?hk2; (case hz2 => kernel_rfl); (case ho2 => intro v hv; simp only [Value.cells, List.mem_cons, List.not_mem_nil, or_false] at hv; rcases hv with rfl | rfl <;> rfl); (case hd2 => rfl); intro wb hb2 hg2)
    all_goals have f7 := Lib.hid (show (spl (spl cur (i * 2) (Mk.cs (l.drop (i + 1)))) ((n - 1) * 2) (Builtin.zeroCells (Value.agg #[Value.string ⟨#[]⟩, Value.int .i64 0]).cells (n - (n - 1))).toList).length = cap * 2 by rw [spl_len (by rw [zeroCells_len]; exact f6.out), spl_len f2.out, Hcl.out])
    all_goals go_ret
    all_goals refine ⟨_, rfl, own_of_blk hb2 hg (by omega) (by unfold maxLen; omega) ?_ (del_cs Hct.out Hl.out hi Hcl.out hnc), hba.grown hg2 (Nat.le_trans hbase (show w.drew.heap.size ≤ wa.heap.size from hg1.size)) (fun k hk => by injection hk with hk; omega)⟩
    all_goals (have h := f7.out; omega)
end Go.Proofs.Ytkclpflgndgabaa
