/- Walk: weld.split. -/
import Derived.Test.YtkckeogdijdohaaSpl
namespace Go.Proofs.Ytkckeogdijdohaa
open Go.RowKit
def SplP (cs : List ByteArray) (p : Int) (w : World) (e : Ending) (w' : World) : Prop := ∃ l r, e = .returned (.tuple #[l, r]) ∧ Tr w' l (ctL cs p) ∧ Tr w' r (ctR cs p) ∧ Ex w w'
/-- A tree that lies in none of a row's block. -/
def TrF (v : Value) (w : World) (u : Value) (cs : List ByteArray) : Prop := (u = .pointer none ∧ cs = []) ∨ ∃ h, Kn h w u cs ∧ Fp (fun b => v.ownBlock ≠ some b) h w u
theorem TrF.tr {v : Value} {w : World} {u : Value} {cs : List ByteArray} (x : TrF v w u cs) : Tr w u cs := x.imp id fun ⟨h, k, _⟩ => ⟨h, k⟩
theorem TrF.ex {v : Value} {w w' : World} {u : Value} {cs : List ByteArray} (x : TrF v w u cs) (hb : Ex w w') : TrF v w' u cs :=
  x.imp id fun ⟨h, k, f⟩ => ⟨h, Kn.keep k f fun _ _ _ _ hc => Ex.cell hb hc⟩
theorem TrF.app {v v' : Value} {w w' : World} {u : Value} {cs : List ByteArray} (x : TrF v w u cs) (hg : w.grownBy w' v.ownBlock) (ho : v'.ownBlock = v.ownBlock ∨ v'.ownBlock = some w.heap.size) : TrF v' w' u cs := by
  rcases x with x | ⟨h, h1, h2⟩
  · exact .inl x
  · have y : KF v' h w' [(u, cs)] := KF.app (v := v) (fun k hm => by rw [List.mem_singleton.1 hm]; exact ⟨h1, h2⟩) hg ho
    exact .inr ⟨h, y _ (List.mem_singleton.2 rfl)⟩
theorem TrF.of {v : Value} {w : World} {u : Value} {cs : List ByteArray} (x : Tr w u cs) (hv : v.ownBlock = none) : TrF v w u cs :=
  x.imp id fun ⟨h, k⟩ => ⟨h, k, Fp.all.mono fun b _ => by rw [hv]; intro e; cases e⟩
/-- An own row stands behind an append to another one. -/
theorem own_grown {w w' : World} {base sz n : Nat} {e : TypeId} {v v' : Value} {cs : List Value} (h : w.ownsRow base e sz v n cs) (hg : w.grownBy w' v'.ownBlock) (hd : ∀ b, v.ownBlock = some b → v'.ownBlock ≠ some b) : w'.ownsRow base e sz v n cs := by
  refine ⟨h.1, ?_⟩
  rcases h.2 with hn | ⟨g, cap, cur, r1, r2, r3, r4⟩
  · exact .inl hn
  · refine .inr ⟨g, cap, cur, r1, r2, ?_, r4⟩
    rw [← r3]
    exact hg.block g (Array.getElem?_eq_some_iff.1 r3).1 fun e => hd g (by rw [r1]; rfl) e.symm
theorem count_at {h : Nat} {v : Value} {cs : List ByteArray} (w : World) (x : Kn h w v cs) : Calls Try.prog 47 #[v] w fun e w' => e = .returned (.agg #[.int .i64 ((flat cs).size : Int), .int .i64 (tally (flat cs)).r, .int .i64 (tally (flat cs)).l]) ∧ Ex w w' := count_calls w x
theorem count_nil' (w : World) : Calls Try.prog 47 #[.pointer none] w fun e w' => e = .returned (.agg #[.int .i64 0, .int .i64 0, .int .i64 0]) ∧ Ex w w' := count_nil w
/-- What the loop over the kids keeps. -/
def SplJ (ks : Kids) (p : Int) (W0 : World) (k : Nat) (v1 v8 v9 v10 v11 : Value) (wr : World) (ls rs : Kids) (cl cr : List ByteArray) : Prop :=
  v1 = .int .i64 (p - (flat (Kids.cs (ks.take k))).size) ∧ wr.ownsRow W0.heap.size 23 1 v8 ls.length ls.vs ∧ wr.ownsRow W0.heap.size 23 1 v9 rs.length rs.vs ∧
    (∀ q ∈ ls, q ∈ ks) ∧ (∀ q ∈ rs, q ∈ ks) ∧ TrF v9 wr v10 cl ∧ TrF v9 wr v11 cr ∧ (∀ b, v8.ownBlock = some b → v9.ownBlock ≠ some b) ∧ ls.cs ++ cl = ctL (Kids.cs (ks.take k)) p ∧ cr ++ rs.cs = ctR (Kids.cs (ks.take k)) p ∧
    (0 < p - (flat (Kids.cs (ks.take k))).size → v9 = .slice none 0 0 ∧ v10 = .pointer none ∧ v11 = .pointer none ∧ cl = [] ∧ cr = [] ∧ rs = []) ∧ ls.length ≤ k ∧ rs.length ≤ k ∧ Ex W0 wr
def SplI (ks : Kids) (p : Int) (W0 : World) (k : Nat) (v1 v8 v9 v10 v11 : Value) (wr : World) : Prop := ∃ (ls rs : Kids) (cl cr : List ByteArray), SplJ ks p W0 k v1 v8 v9 v10 v11 wr ls rs cl cr
theorem SplJ.ex {ks : Kids} {p : Int} {W0 wr w' : World} {k : Nat} {v1 v8 v9 v10 v11 : Value} {ls rs : Kids} {cl cr : List ByteArray} (x : SplJ ks p W0 k v1 v8 v9 v10 v11 wr ls rs cl cr) (hb : Ex wr w') : SplJ ks p W0 k v1 v8 v9 v10 v11 w' ls rs cl cr := by
  obtain ⟨h1, h2, h3, h4, h5, h6, h7, h8, h9, h10, h11, h12, h13, h14⟩ := x
  exact ⟨h1, own_ex h2 hb, own_ex h3 hb, h4, h5, h6.ex hb, h7.ex hb, h8, h9, h10, h11, h12, h13, h14.trans hb⟩
theorem SplI.start (ks : Kids) (p : Int) (W0 : World) : SplI ks p W0 0 (.int .i64 p) (.slice none 0 0) (.slice none 0 0) (.pointer none) (.pointer none) W0 :=
  ⟨[], [], [], [], by show _ = Value.int .i64 (p - ((0 : Nat) : Int)); congr 1; omega, World.ownsRow_nil _ _ _ _, World.ownsRow_nil _ _ _ _, (fun _ h => by cases h), (fun _ h => by cases h), .inl ⟨rfl, rfl⟩, .inl ⟨rfl, rfl⟩, (fun _ h => by cases h), rfl, rfl, fun _ => ⟨rfl, rfl, rfl, rfl, rfl, rfl⟩, Nat.le_refl _, Nat.le_refl _, Ex.refl _⟩
theorem Fl.take {ks : Kids} {k : Nat} (hlt : k < ks.length) : (flat (Kids.cs (ks.take (k + 1)))).size = (flat (Kids.cs (ks.take k))).size + (flat ks[k].2).size := by
  rw [Kids.cs_take hlt, flat_size_app]
/-- A kid goes to the left. -/
theorem SplI.left {ks : Kids} {p : Int} {W0 wr w' : World} {k : Nat} {v8 v9 v10 v11 v8' : Value} {ls rs : Kids} {cl cr : List ByteArray} (hlt : k < ks.length) (hq : 1 ≤ (flat ks[k].2).size) (x : SplJ ks p W0 k (.int .i64 (p - (flat (Kids.cs (ks.take k))).size)) v8 v9 v10 v11 wr ls rs cl cr) (h : ((flat ks[k].2).size : Int) ≤ p - (flat (Kids.cs (ks.take k))).size)
    (hown : w'.ownsRow W0.heap.size 23 1 v8' (ls.length + 1) (ls.vs ++ [ks[k].1])) (hb : Ex W0 w') :
    SplI ks p W0 (k + 1) (.int .i64 (p - (flat (Kids.cs (ks.take k))).size - (flat ks[k].2).size)) v8' v9 v10 v11 w' := by
  obtain ⟨-, h2, h3, h4, h5, h6, h7, h8, h9, h10, h11, h12, h13, h14⟩ := x
  obtain ⟨rfl, rfl, rfl, rfl, rfl, rfl⟩ := h11 (by omega)
  have hA : ((flat (Kids.cs (ks.take k))).size : Int) ≤ p := by omega
  have c1 := ct_app (Kids.cs (ks.take k)) ks[k].2 p
  rw [if_pos hA, if_pos hA, (ct_ge h).1, (ct_ge h).2] at c1
  have c2 := ct_ge hA
  rw [c2.1, List.append_nil] at h9
  rw [c2.2] at h10
  refine ⟨ls ++ [ks[k]], [], [], [], ?_, ?_, World.ownsRow_nil _ _ _ _, fun q hm => ?_, (fun _ h => by cases h), .inl ⟨rfl, rfl⟩, .inl ⟨rfl, rfl⟩, (fun _ _ h => by cases h), ?_, ?_, fun _ => ⟨rfl, rfl, rfl, rfl, rfl, rfl⟩, by rw [List.length_append]; simpa using h12, by simp, hb⟩
  · rw [Fl.take hlt]; congr 1; omega
  · rw [List.length_append, Kids.vs_app]; exact hown
  · rcases List.mem_append.1 hm with hm | hm
    · exact h4 q hm
    · rw [List.mem_singleton.1 hm]; exact List.getElem_mem hlt
  · rw [Kids.cs_take hlt, c1.1, Kids.cs_app, h9]; simp [Kids.cs]
  · rw [Kids.cs_take hlt, c1.2]; rfl
/-- A kid goes to the right. -/
theorem SplI.right {ks : Kids} {p : Int} {W0 wr w' : World} {k : Nat} {v8 v9 v10 v11 v9' : Value} {ls rs : Kids} {cl cr : List ByteArray} (hlt : k < ks.length) (hf : ∀ y ∈ ks[k].2, fitsB y = true) (x : SplJ ks p W0 k (.int .i64 (p - (flat (Kids.cs (ks.take k))).size)) v8 v9 v10 v11 wr ls rs cl cr) (h : p - (flat (Kids.cs (ks.take k))).size ≤ 0)
    (hown : w'.ownsRow W0.heap.size 23 1 v9' (rs.length + 1) (rs.vs ++ [ks[k].1])) (hg : wr.grownBy w' v9.ownBlock) (ho : v9'.ownBlock = v9.ownBlock ∨ v9'.ownBlock = some wr.heap.size) (hb : Ex W0 w') :
    SplI ks p W0 (k + 1) (.int .i64 (p - (flat (Kids.cs (ks.take k))).size - (flat ks[k].2).size)) v8 v9' v10 v11 w' := by
  obtain ⟨-, h2, h3, h4, h5, h6, h7, h8, h9, h10, h11, h12, h13, h14⟩ := x
  have c1 := ct_app (Kids.cs (ks.take k)) ks[k].2 p
  have hl : ctL (Kids.cs (ks.take k) ++ ks[k].2) p = ctL (Kids.cs (ks.take k)) p ∧ ctR (Kids.cs (ks.take k) ++ ks[k].2) p = ctR (Kids.cs (ks.take k)) p ++ ks[k].2 := by
    by_cases hA : ((flat (Kids.cs (ks.take k))).size : Int) ≤ p
    · rw [if_pos hA, if_pos hA, (ct_le hf h).1, (ct_le hf h).2] at c1
      rw [c1.1, c1.2, (ct_ge hA).1, (ct_ge hA).2]
      simp
    · rwa [if_neg hA, if_neg hA] at c1
  refine ⟨ls, rs ++ [ks[k]], cl, cr, ?_, own_grown h2 hg h8, ?_, h4, fun q hm => ?_, h6.app hg ho, h7.app hg ho, fun b hb8 => ?_, ?_, ?_, fun h => absurd h ?_, by omega, by rw [List.length_append]; simpa using h13, hb⟩
  · rw [Fl.take hlt]; congr 1; omega
  · rw [List.length_append, Kids.vs_app]; exact hown
  · rcases List.mem_append.1 hm with hm | hm
    · exact h5 q hm
    · rw [List.mem_singleton.1 hm]; exact List.getElem_mem hlt
  · rcases ho with ho | ho
    · rw [ho]; exact h8 b hb8
    · rw [ho]; intro e; injection e with e; have := (h2.lt b hb8).2; omega
  · rw [Kids.cs_take hlt, hl.1, h9]
  · rw [Kids.cs_take hlt, hl.2, Kids.cs_app, ← h10, List.append_assoc]; simp [Kids.cs]
  · rw [Fl.take hlt]; omega
/-- A kid is cut. -/
theorem SplI.cut {ks : Kids} {p : Int} {W0 wr w' : World} {k : Nat} {v8 v9 v10 v11 l r : Value} {ls rs : Kids} {cl cr : List ByteArray} (hlt : k < ks.length) (x : SplJ ks p W0 k (.int .i64 (p - (flat (Kids.cs (ks.take k))).size)) v8 v9 v10 v11 wr ls rs cl cr) (h0 : 0 < p - (flat (Kids.cs (ks.take k))).size) (h1 : p - (flat (Kids.cs (ks.take k))).size < (flat ks[k].2).size)
    (tl : Tr w' l (ctL ks[k].2 (p - (flat (Kids.cs (ks.take k))).size))) (tr : Tr w' r (ctR ks[k].2 (p - (flat (Kids.cs (ks.take k))).size))) (hb : Ex wr w') :
    SplI ks p W0 (k + 1) (.int .i64 (p - (flat (Kids.cs (ks.take k))).size - (flat ks[k].2).size)) v8 v9 l r w' := by
  obtain ⟨-, h2, h3, h4, h5, h6, h7, h8, h9, h10, h11, h12, h13, h14⟩ := x
  obtain ⟨rfl, rfl, rfl, rfl, rfl, rfl⟩ := h11 h0
  have hA : ((flat (Kids.cs (ks.take k))).size : Int) ≤ p := by omega
  have c1 := ct_app (Kids.cs (ks.take k)) ks[k].2 p
  rw [if_pos hA, if_pos hA] at c1
  have c2 := ct_ge hA
  rw [c2.1, List.append_nil] at h9
  refine ⟨ls, [], _, _, ?_, own_ex h2 hb, World.ownsRow_nil _ _ _ _, h4, (fun _ h => by cases h), TrF.of tl rfl, TrF.of tr rfl, (fun _ _ h => by cases h), ?_, ?_, fun h => absurd h ?_, by omega, by simp, h14.trans hb⟩
  · rw [Fl.take hlt]; congr 1; omega
  · rw [Kids.cs_take hlt, c1.1, h9]
  · rw [Kids.cs_take hlt, c1.2]; simp [Kids.cs]
  · rw [Fl.take hlt]; omega
end Go.Proofs.Ytkckeogdijdohaa
