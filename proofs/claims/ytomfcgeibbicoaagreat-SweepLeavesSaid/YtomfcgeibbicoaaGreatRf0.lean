/- The document's tapes and folders: what they are in memory, and the walks of the plain functions over them. -/
import Derived.Test.YtomfcgeibbicoaaGreatTpA
import Derived.Test.YtomfcgeibbicoaaGreatPcF
import Derived.Test.YtomfcgeibbicoaaGreatFo0
import Derived.Test.YtomfcgeibbicoaaGreatDk0
namespace Go.Proofs.YtomfcgeibbicoaaGreat
open Go.RowKit
/-- A struct and a word as results. -/
theorem ret_agg2 {fn : Func} {p u : Tmp} {T : TypeId} {fs : Array Field} (h : fn.results = #[.cell p T, .tmp u]) (tmps : Array Value) (w : World) (g : Nat) (cs : List Value) (hp : tmps.getD p undef = .pointer (some ⟨g, 0, none⟩)) (hg : Blk w g T cs)
    (hu : Tryz.prog.underlying T = some (.struct fs)) (hi : (Tryz.prog.info? T).map (·.size) = some cs.length) :
    (results fn tmps).run Tryz.prog w = .ok (.tuple #[.agg cs.toArray, tmps.getD u undef]) w := by
  have hl := run_loadVar_row (P := Tryz.prog) w g T T cs.toArray (0, 0) _ hg hu rfl (by simpa using hi)
  rw [results_cell_tmp h, hp]
  simp only [asAddr, Sem.run_pure, Result.andThen, hl]
theorem ret_agg1 {fn : Func} {p : Tmp} {T : TypeId} {fs : Array Field} (h : fn.results = #[.cell p T]) (tmps : Array Value) (w : World) (g : Nat) (cs : List Value) (hp : tmps.getD p undef = .pointer (some ⟨g, 0, none⟩)) (hg : Blk w g T cs)
    (hu : Tryz.prog.underlying T = some (.struct fs)) (hi : (Tryz.prog.info? T).map (·.size) = some cs.length) :
    (results fn tmps).run Tryz.prog w = .ok (.agg cs.toArray) w :=
  results_cell_row h tmps w g T cs.toArray (0, 0) _ hp hg hu rfl (by simpa using hi)
section
variable {w w0 : World} {ops : Array Oper} {rest : List Oper} {o : Oper} {a : Act} {Q : Exit → Act → World → Prop}
theorem spl_all {old new : List Value} (h : old.length = new.length) : spl old 0 new = new := by
  unfold spl
  rw [List.take_zero, List.nil_append, Nat.zero_add, ← h, List.drop_length, List.append_nil]
/-- A struct is stored into a block of its own. -/
theorem st_agg (T : TypeId) (hgd : o.guard = none) (x y : Operand) (ho : o.op = .store T x y) (g : Nat) (old new : List Value) (hx : a.eval x = .pointer (some ⟨g, 0, none⟩)) (hy : a.eval y = .agg new.toArray) (hi : (Tryz.prog.info? T).map (·.size) = some new.length) (hl : old.length = new.length) (h1 : ∀ v ∈ new, v.oneCell' = true)
    (hg : Blk w g T old) (hb : Ex w0 w) (hB : w0.heap.size ≤ g) (K : ∀ w', Blk w' g T new → Ex w0 w' → w.grownBy w' (some g) → wpList Tryz.prog ops Q rest (a.put o.dst undef) w') : wpList Tryz.prog ops Q (o :: rest) a w :=
  wpList_store_k hgd T x y ho (.agg new.toArray) g 0 old T new hx hy (by simp [Value.cells]) hi hg (by omega) h1 fun w' k1 k2 => K w' (by rw [spl_all hl] at k1; exact k1) (below_store hb hB hb.size k2) k2
end
/-- A row that stands outside F, wherever it has elements. -/
structure RowF (F : Nat → Prop) (w : World) (sz : Nat) (A : Option Addr) (n : Nat) (cs : List Value) : Prop where
  row : Row w sz A n cs
  out : 0 < n → ∀ a, A = some a → ¬ F a.block
theorem RowF.ex {F : Nat → Prop} {w w' : World} {sz n : Nat} {A : Option Addr} {cs : List Value} (h : RowF F w sz A n cs) (hb : Ex w w') : RowF F w' sz A n cs := ⟨h.1.ex hb, h.2⟩
theorem RowF.fresh {F : Nat → Prop} {w w' : World} {sz n : Nat} {A : Option Addr} {cs : List Value} (h : RowF F w sz A n cs) (hz : 0 < sz) (hb : Off F w w') : RowF (Fresh F w w') w' sz A n cs := by
  refine ⟨⟨h.1.1, fun hn => ?_⟩, fun hn a ha hf => ?_⟩
  · obtain ⟨b, o, e, hc⟩ := h.1.2 hn
    exact ⟨b, o, e, fun j u hu => hb.cell (hc j u hu) (h.2 hn _ e)⟩
  · rcases hf with hf | hf
    · exact h.2 hn a ha hf
    · obtain ⟨b, o, e, hc⟩ := h.1.2 hn
      obtain rfl : (⟨b, o, none⟩ : Addr) = a := by rw [e] at ha; injection ha
      subst e
      have := Row.lt h.1 hn hz
      have := hf.1
      simp only at this
      omega
theorem RowF.own {F : Nat → Prop} {w : World} {base sz n c : Nat} {e : TypeId} {A : Option Addr} {cs : List Value} (h : w.ownsRow base e sz (.slice A n c) n cs) (hF : ∀ k, F k → k < base) : RowF F w sz A n cs := by
  refine ⟨Row.of_own h, fun hn a ha hf => ?_⟩
  rcases own_blk h with ⟨_, h0, _⟩ | ⟨g, cap, cur, hv, hb, _⟩
  · omega
  · injection hv with hA
    rw [hA] at ha
    injection ha with ha
    subst ha
    have := hF _ hf
    simp only at this
    omega
theorem RowF.lit {F : Nat → Prop} {w w' : World} {cs : List Value} {sz n : Nat} (hF : ∀ k, F k → k < w.heap.size) (h : Row w' sz (some ⟨w.heap.size, 0, none⟩) n cs) : RowF F w' sz (some ⟨w.heap.size, 0, none⟩) n cs :=
  ⟨h, fun _ a ha hf => by injection ha with ha; subst ha; exact absurd (hF _ hf) (Nat.lt_irrefl _)⟩
/-- A list of names and numbers of the document. -/
def LiV (F : Nat → Prop) (w : World) (v : Value) (l : List Mk) : Prop := ∃ A c, v = .slice A l.length c ∧ RowF F w 2 A l.length (Mk.cs l)
theorem LiV.mk {F : Nat → Prop} {w : World} {A : Option Addr} {c : Nat} {l : List Mk} (h : RowF F w 2 A l.length (Mk.cs l)) : LiV F w (.slice A l.length c) l := ⟨A, c, rfl, h⟩
theorem LiV.ex {F : Nat → Prop} {w w' : World} {v : Value} {l : List Mk} (h : LiV F w v l) (hb : Ex w w') : LiV F w' v l := by
  obtain ⟨A, c, e, h⟩ := h
  exact ⟨A, c, e, h.ex hb⟩
theorem LiV.fresh {F : Nat → Prop} {w w' : World} {v : Value} {l : List Mk} (h : LiV F w v l) (hb : Off F w w') : LiV (Fresh F w w') w' v l := by
  obtain ⟨A, c, e, h⟩ := h
  exact ⟨A, c, e, h.fresh (by decide) hb⟩
theorem LiV.own {F : Nat → Prop} {w : World} {base : Nat} {e : TypeId} {v : Value} {l : List Mk} (h : w.ownsRow base e 2 v l.length (Mk.cs l)) (hF : ∀ k, F k → k < base) : LiV F w v l := by
  obtain ⟨A, c, rfl, _⟩ := own_shape h
  exact ⟨A, c, rfl, RowF.own h hF⟩
/-- Lists of names, one behind the other. -/
def LsV (F : Nat → Prop) (w : World) (v : Value) (ls : List (List Mk)) : Prop :=
  ∃ (A : Option Addr) (c : Nat) (vs : List Value), v = .slice A ls.length c ∧ RowF F w 1 A ls.length vs ∧ ∀ (i : Nat) (u : Value) (l : List Mk), vs[i]? = some u → ls[i]? = some l → LiV F w u l
theorem LsV.ex {F : Nat → Prop} {w w' : World} {v : Value} {ls : List (List Mk)} (h : LsV F w v ls) (hb : Ex w w') : LsV F w' v ls := by
  obtain ⟨A, c, vs, e, h, k⟩ := h
  exact ⟨A, c, vs, e, h.ex hb, fun i u l a b => (k i u l a b).ex hb⟩
theorem LsV.fresh {F : Nat → Prop} {w w' : World} {v : Value} {ls : List (List Mk)} (h : LsV F w v ls) (hb : Off F w w') : LsV (Fresh F w w') w' v ls := by
  obtain ⟨A, c, vs, e, h, k⟩ := h
  exact ⟨A, c, vs, e, h.fresh (by decide) hb, fun i u l a b => (k i u l a b).fresh hb⟩
theorem RowF.offs {F G : Nat → Prop} {w w' : World} {sz n : Nat} {A : Option Addr} {cs : List Value} (h : RowF F w sz A n cs) (hb : Off G w w') (hG : ∀ k, G k → F k) : RowF F w' sz A n cs :=
  ⟨⟨h.row.1, fun hn => by
    obtain ⟨b, o, e, hc⟩ := h.row.2 hn
    exact ⟨b, o, e, fun j u hu => hb.cell (hc j u hu) fun hg => h.out hn _ e (hG _ hg)⟩⟩, h.out⟩
theorem RowF.less {F G : Nat → Prop} {w : World} {sz n : Nat} {A : Option Addr} {cs : List Value} (h : RowF G w sz A n cs) (hG : ∀ k, F k → G k) : RowF F w sz A n cs := ⟨h.row, fun hn a ha hf => h.out hn a ha (hG _ hf)⟩
theorem LiV.offs {F G : Nat → Prop} {w w' : World} {v : Value} {l : List Mk} (h : LiV F w v l) (hb : Off G w w') (hG : ∀ k, G k → F k) : LiV F w' v l := by
  obtain ⟨A, c, e, h⟩ := h
  exact ⟨A, c, e, h.offs hb hG⟩
theorem LiV.less {F G : Nat → Prop} {w : World} {v : Value} {l : List Mk} (h : LiV G w v l) (hG : ∀ k, F k → G k) : LiV F w v l := by
  obtain ⟨A, c, e, h⟩ := h
  exact ⟨A, c, e, h.less hG⟩
theorem LsV.offs {F G : Nat → Prop} {w w' : World} {v : Value} {ls : List (List Mk)} (h : LsV F w v ls) (hb : Off G w w') (hG : ∀ k, G k → F k) : LsV F w' v ls := by
  obtain ⟨A, c, vs, e, h, k⟩ := h
  exact ⟨A, c, vs, e, h.offs hb hG, fun i u l a b => (k i u l a b).offs hb hG⟩
theorem LsV.less {F G : Nat → Prop} {w : World} {v : Value} {ls : List (List Mk)} (h : LsV G w v ls) (hG : ∀ k, F k → G k) : LsV F w v ls := by
  obtain ⟨A, c, vs, e, h, k⟩ := h
  exact ⟨A, c, vs, e, h.less hG, fun i u l a b => (k i u l a b).less hG⟩
theorem LsV.shape {F : Nat → Prop} {w : World} {v : Value} {ls : List (List Mk)} (h : LsV F w v ls) : ∃ A n c, v = .slice A n c := by
  obtain ⟨A, c, vs, e, _⟩ := h
  exact ⟨_, _, _, e⟩
/-- F, and the blocks that came in between. -/
structure Grow (F : Nat → Prop) (w W : World) (G : Nat → Prop) : Prop where
  ex : Ex w W
  of : ∀ k, F k → G k
  new : ∀ k, w.heap.size ≤ k → k < W.heap.size → G k
  lt : ∀ k, G k → k < W.heap.size
theorem Grow.mk2 {F : Nat → Prop} {w W : World} (hX : Ex w W) (hF : ∀ k, F k → k < w.heap.size) : ∃ G, Grow F w W G ∧ G = Fresh F w W :=
  ⟨Fresh F w W, ⟨hX, fun _ h => .inl h, fun _ a b => .inr ⟨a, b⟩, fun k h => by
    rcases h with h | h
    · exact Nat.lt_of_lt_of_le (hF k h) hX.size
    · exact h.2⟩, rfl⟩
theorem Grow.row {F G : Nat → Prop} {w W : World} (g : Grow F w W G) (e : G = Fresh F w W) {sz n : Nat} {A : Option Addr} {cs : List Value} (h : RowF F w sz A n cs) (hz : 0 < sz) : RowF G W sz A n cs := by subst e; exact h.fresh hz (g.ex.off F)
theorem Grow.li {F G : Nat → Prop} {w W : World} (g : Grow F w W G) (e : G = Fresh F w W) {v : Value} {l : List Mk} (h : LiV F w v l) : LiV G W v l := by subst e; exact h.fresh (g.ex.off F)
theorem Grow.ls {F G : Nat → Prop} {w W : World} (g : Grow F w W G) (e : G = Fresh F w W) {v : Value} {ls : List (List Mk)} (h : LsV F w v ls) : LsV G W v ls := by subst e; exact h.fresh (g.ex.off F)
theorem Ex.set {w w' : World} (h : Ex w w') {b o : Nat} (hp : w.heap.size ≤ b) (v : Value) : Ex w (w'.setCell ⟨b, o, none⟩ v) := ((h.off fun _ => False).setCell (p := ⟨b, o, none⟩) (.inr hp) v).ex fun _ _ h => h
def TpV.agg (t : TpV) : Value := .agg #[.string t.kp, .string t.nw]
def TpV.rs (t : TpV) : List Value := [.string t.kp, .string t.nw]
theorem TpV.rs_one (t : TpV) : ∀ v ∈ t.rs, v.oneCell' = true := by
  intro v hv
  simp only [TpV.rs, List.mem_cons, List.not_mem_nil, or_false] at hv
  rcases hv with rfl | rfl <;> rfl
theorem info_rt : (Tryz.prog.info? 110).map (·.size) = some 2 := by kernel_rfl
theorem max_eq_swap (a b : Nat) : max a b = max b a := Nat.max_comm a b
theorem rtsectors_calls {w : World} (t : TpV) (h1 : t.kp.size ≤ 8000000) (h2 : t.nw.size ≤ 8000000) : Calls Tryz.prog 121 #[t.agg] w fun e w' => e = .returned (.int .i64 (cntS (max t.nw.size t.kp.size) : Int)) ∧ Ex w w' := by
  unfold TpV.agg
  rcases Nat.le_total t.kp.size t.nw.size with h | h
  · have m1 : max (t.kp.size : Int) (t.nw.size : Int) = (t.nw.size : Int) := by omega
    have HM := Lib.hid (show max t.nw.size t.kp.size = t.nw.size from Nat.max_eq_left h)
    go_enter Tryz.func121, Tryz.ntmps121
    go_wp2_with fail
    refine (rpcount_calls t.nw.size _ (by omega)).mono ?_
    rintro e w1 ⟨rfl, hb1⟩
    go_wp2_with fail
    go_ret
    exact ⟨by rw [HM.out]; rfl, ex_box (Ex.refl w) hb1⟩
  · have m1 : max (t.kp.size : Int) (t.nw.size : Int) = (t.kp.size : Int) := by omega
    have HM := Lib.hid (show max t.nw.size t.kp.size = t.kp.size from Nat.max_eq_right h)
    go_enter Tryz.func121, Tryz.ntmps121
    go_wp2_with fail
    refine (rpcount_calls t.kp.size _ (by omega)).mono ?_
    rintro e w1 ⟨rfl, hb1⟩
    go_wp2_with fail
    go_ret
    exact ⟨by rw [HM.out]; rfl, ex_box (Ex.refl w) hb1⟩
/-- What is left of a tape. -/
def TpV.left (t : TpV) (ch : ByteArray) : TpV := ⟨(mixS t.kp t.nw ch).1, (mixS t.kp t.nw ch).1⟩
end Go.Proofs.YtomfcgeibbicoaaGreat
namespace Go.Proofs.YtomfcgeibbicoaaGreat
open Go.RowKit
set_option maxHeartbeats 400000 in
theorem rffind_calls (A : Option Addr) (c : Nat) (l : List Mk) (s : ByteArray) (w : World) (hn : l.length ≤ 9223372036854775807) (hm : Row w 2 A l.length (Mk.cs l)) :
    Calls Tryz.prog 117 #[.slice A l.length c, .string s] w fun e w' => e = .returned (.tuple #[.int .i64 (findM s l).1, .bool (findM s l).2]) ∧ w' = w := by
  have Hm := Lib.hid hm
  clear hm
  go_enter Tryz.func117, Tryz.ntmps117
  go_wp2
  go_loop [6] (fun i => ∃ k : Nat, k ≤ l.length ∧ i = .int .i64 k ∧ (∀ j (hj : j < l.length), j < k → nmIs s l[j] = false)) (fun i => l.length - (intOf i).toNat)
  case atStart => exact ⟨0, Nat.zero_le _, rfl, fun _ _ h => absurd h (by omega)⟩
  case round =>
    obtain ⟨k, hk, rfl, hr⟩ := hrel
    have Hr := Lib.hid hr
    clear hr
    by_cases hlt : k < l.length
    · obtain ⟨b, o, rfl, c1, c2⟩ := Hm.out.mk hlt
      go_wp2
      · have hq : nmIs s l[k] = true := by unfold nmIs; assumption
        go_ret2
        exact ⟨by rw [findM_some hlt hq Hr.out]; rfl, rfl⟩
      · have hq : nmIs s l[k] = false := by unfold nmIs; assumption
        go_round
        case rel => exact ⟨k + 1, by omega, by go_num, fun j hj h => by by_cases e : j = k; (subst e; exact hq); exact Hr.out j hj (by omega)⟩
        case measure => simp [intOf]; omega
    · go_wp2
      go_ret2
      exact ⟨by rw [findM_none fun j hj => Hr.out j hj (by omega)]; rfl, rfl⟩
theorem info_e9 : (Tryz.prog.info? 129).map (fun i => (i.zero, i.size, i.bytes)) = some (some (.agg #[.string ⟨#[]⟩, .int .i64 0]), 2, 24) := by kernel_rfl
set_option maxHeartbeats 1000000 in
theorem rfwithout_calls (A : Option Addr) (c : Nat) (l : List Mk) (s : ByteArray) (w : World) (hn : l.length ≤ 1000000) (hm : Row w 2 A l.length (Mk.cs l)) :
    Calls Tryz.prog 183 #[.slice A l.length c, .string s] w fun e w' => ∃ v, e = .returned v ∧ w'.ownsRow w.heap.size 129 2 v (l.filter (nmNot s)).length (Mk.cs (l.filter (nmNot s))) ∧ Ex w w' := by
  have Hm := Lib.hid hm
  clear hm
  go_enter Tryz.func183, Tryz.ntmps183
  go_wp2
  go_loopw [5, 6] (fun v i wr => ∃ k : Nat, k ≤ l.length ∧ i = .int .i64 k ∧ wr.ownsRow w.heap.size 129 2 v ((l.take k).filter (nmNot s)).length (Mk.cs ((l.take k).filter (nmNot s))) ∧ Ex w wr) (fun _ i _ => l.length - (intOf i).toNat)
  case atStart => exact ⟨0, Nat.zero_le _, rfl, World.ownsRow_nil _ _ _ _, Ex.refl _⟩
  case round =>
    obtain ⟨k, hk, rfl, ho, hb⟩ := hrel
    have hle := filt_len (nmNot s) l k
    by_cases hlt : k < l.length
    · obtain ⟨b, o, rfl, c1, c2⟩ := (Hm.out.ex hb).mk hlt
      cases hq : nmIs s l[k]
      · have hp : nmNot s l[k] = true := by unfold nmNot; rw [hq]; rfl
        have Hfy := Lib.hid (filt_yes hlt hp)
        have hq' : (l[k].nm.toList == s.toList) = false := hq
        have hq2 : (l[k].nm.toList != s.toList) = true := by rw [bne, hq']; rfl
        clear hq hp
        go_wp2_with (at_builtin; refine app_mkT 127 129 Tryz.underlying127 info_e9 rfl (.tmp 20) (.tmp 25) rfl w.heap.size _ _ ((l.take k).filter (nmNot s)) rfl (ho.alloc _) (some ⟨wr.heap.size, 0, none⟩) 1 1 [l[k]] rfl (mku_row (T := 129) (heap_alloc_new wr _)) (by omega) (by have := hb.size; simp; omega) (ex_alloc hb _) ?_; intro v' w' ho' hb' hg _)
        exact ⟨⟨k + 1, by omega, by go_num, by rw [Hfy.out, List.length_append]; exact ho', hb'⟩, by simp [intOf]; omega⟩
      · have hp : nmNot s l[k] = false := by unfold nmNot; rw [hq]; rfl
        have Hfn := Lib.hid (filt_no hlt hp)
        have hq' : (l[k].nm.toList == s.toList) = true := hq
        have hq2 : (l[k].nm.toList != s.toList) = false := by rw [bne, hq']; rfl
        clear hq hp
        go_wp2
        go_roundw
        case rel => exact ⟨k + 1, by omega, by go_num, by rw [Hfn.out]; exact ho, hb⟩
        case measure => simp [intOf]; omega
    · go_wp2
      go_ret
      have e1 : l.take k = l := List.take_of_length_le (by omega)
      rw [e1] at ho
      exact ⟨_, rfl, ho, hb⟩
set_option maxRecDepth 100000 in
set_option maxHeartbeats 2000000 in
theorem rfwith_calls (A : Option Addr) (c : Nat) (L : List Mk) (m : Mk) (w : World) (hn : L.length ≤ 1000000) (hm : Row w 2 A L.length (Mk.cs L)) :
    Calls Tryz.prog 119 #[.slice A L.length c, .agg #[.string m.nm, .int .i64 m.pl]] w fun e w' => ∃ v, e = .returned v ∧ w'.ownsRow w.heap.size 129 2 v (endI m (foldI m L)).length (Mk.cs (endI m (foldI m L))) ∧ Ex w w' := by
  have g0 : (w.alloc (.cells #[.string m.nm, .int .i64 m.pl] 129)).cell? ⟨w.heap.size, 0, none⟩ = some (.string m.nm) := (show Blk _ _ 129 (Mk.enc m) from heap_alloc_new w _).cell 0
  have g1 : (w.alloc (.cells #[.string m.nm, .int .i64 m.pl] 129)).cell? ⟨w.heap.size, 1, none⟩ = some (.int .i64 m.pl) := (show Blk _ _ 129 (Mk.enc m) from heap_alloc_new w _).cell 1
  have hW := ex_alloc (Ex.refl w) (.cells #[.string m.nm, .int .i64 m.pl] 129)
  have HL := Lib.hid (hm.ex hW)
  have hWs := hW.size
  have HW := Lib.hid hW
  clear hm hW
  go_enter Tryz.func119, Tryz.ntmps119
  go_wp2_with fail
  generalize (w.alloc (.cells #[.string m.nm, .int .i64 m.pl] 129)) = W at *
  go_loopw [5, 6, 7] (fun v d i wr => ∃ k : Nat, k ≤ L.length ∧ i = .int .i64 k ∧ d = .bool (foldI m (L.take k)).2 ∧ wr.ownsRow W.heap.size 129 2 v (foldI m (L.take k)).1.length (Mk.cs (foldI m (L.take k)).1) ∧ Ex W wr) (fun _ _ i _ => L.length - (intOf i).toNat)
  case atStart => exact ⟨0, Nat.zero_le _, rfl, rfl, World.ownsRow_nil _ _ _ _, Ex.refl _⟩
  case round =>
    obtain ⟨k, hk, rfl, rfl, ho, hb⟩ := hrel
    have hfl := foldI_len m (L.take k)
    rw [List.length_take] at hfl
    have hfl2 : (foldI m (L.take k)).1.length ≤ k + 1 := by omega
    clear hfl
    have b0 := hb.cell g0
    have b1 := hb.cell g1
    by_cases hlt : k < L.length
    · obtain ⟨b, o, rfl, c1o, c2o⟩ := HL.out.mk hlt
      have c1 := hb.cell c1o
      have c2 := hb.cell c2o
      have w4 : (k : Int) < (L.length : Int) := by omega
      have Hs := Lib.hid (foldI_succ m hlt)
      cases hdn : (foldI m (L.take k)).2
      · go_wp2
        go_quiet (fail)
        have hqq : (!Op.bytesLess L[k].nm.toList m.nm.toList && !L[k].nm.toList == m.nm.toList) = upN m.nm L[k].nm := by unfold upN ltN; rw [Bool.not_or]
        rw [hqq]
        clear hqq
        have ho2 : (wr.drewN nq).ownsRow W.heap.size 129 2 _ (foldI m (L.take k)).1.length (Mk.cs (foldI m (L.take k)).1) := ho
        have hb2 : Ex W (wr.drewN nq) := hb.trans (Dr.ex ⟨nq, rfl⟩)
        have hz2 := hb.size
        cases hq : upN m.nm L[k].nm
        · have Hr := Lib.hid (show stepI m (foldI m (L.take k)) L[k] = ((foldI m (L.take k)).1 ++ [L[k]], false) from by unfold stepI; rw [hdn, hq]; rfl)
          clear hq hdn
          go_wp2_with (at_builtin; refine app_mkT 127 129 Tryz.underlying127 info_e9 rfl (.tmp 30) (.tmp 35) rfl W.heap.size _ _ (foldI m (L.take k)).1 rfl (ho2.alloc _) (some ⟨wr.heap.size, 0, none⟩) 1 1 [L[k]] rfl (mku_row (T := 129) (heap_alloc_new (wr.drewN nq) _)) (by omega) (by simp; omega) (ex_alloc hb2 _) ?_; intro v' w' ho' hb' hg _)
          exact ⟨⟨k + 1, by omega, by go_num, by rw [Hs.out, Hr.out], by rw [Hs.out, Hr.out, List.length_append]; exact ho', hb'⟩, by simp [intOf]; omega⟩
        · have Hr := Lib.hid (show stepI m (foldI m (L.take k)) L[k] = ((foldI m (L.take k)).1 ++ [m] ++ [L[k]], true) from by unfold stepI; rw [hdn, hq]; rfl)
          clear hq hdn
          go_wp2_with (first | (at_builtin; refine app_mkT 127 129 Tryz.underlying127 info_e9 rfl (.tmp 26) (.tmp 28) rfl W.heap.size _ _ (foldI m (L.take k)).1 rfl (ho2.alloc _) (some ⟨wr.heap.size, 0, none⟩) 1 1 [m] rfl (mku_row (T := 129) (heap_alloc_new (wr.drewN nq) _)) (by omega) (by simp; omega) (ex_alloc hb2 _) ?_; intro v1 w1 ho1 hb1' hg1 _; have hz1 := hb1'.size; have d1 := Ex.cell hb1' c1o; have d2 := Ex.cell hb1' c2o) | (at_builtin; refine app_mkT 127 129 Tryz.underlying127 info_e9 rfl (.tmp 30) (.tmp 35) rfl W.heap.size _ _ ((foldI m (L.take k)).1 ++ [m]) rfl (ho1.alloc _) (some ⟨w1.heap.size, 0, none⟩) 1 1 [L[k]] rfl (mku_row (T := 129) (heap_alloc_new w1 _)) (by simp; omega) (by simp; omega) (ex_alloc hb1' _) ?_; intro v' w' ho' hb' hg _))
          exact ⟨⟨k + 1, by omega, by go_num, by rw [Hs.out, Hr.out], by rw [Hs.out, Hr.out, List.length_append, List.length_append]; exact ho', hb'⟩, by simp [intOf]; omega⟩
      · go_wp2
        go_quiet (fail)
        have Hr := Lib.hid (show stepI m (foldI m (L.take k)) L[k] = ((foldI m (L.take k)).1 ++ [L[k]], true) from by unfold stepI; rw [hdn]; rfl)
        have ho2 : (wr.drewN nq).ownsRow W.heap.size 129 2 _ (foldI m (L.take k)).1.length (Mk.cs (foldI m (L.take k)).1) := ho
        have hb2 : Ex W (wr.drewN nq) := hb.trans (Dr.ex ⟨nq, rfl⟩)
        have hz2 := hb.size
        clear hdn
        go_wp2_with (at_builtin; refine app_mkT 127 129 Tryz.underlying127 info_e9 rfl (.tmp 30) (.tmp 35) rfl W.heap.size _ _ (foldI m (L.take k)).1 rfl (ho2.alloc _) (some ⟨wr.heap.size, 0, none⟩) 1 1 [L[k]] rfl (mku_row (T := 129) (heap_alloc_new (wr.drewN nq) _)) (by omega) (by simp; omega) (ex_alloc hb2 _) ?_; intro v' w' ho' hb' hg _)
        exact ⟨⟨k + 1, by omega, by go_num, by rw [Hs.out, Hr.out], by rw [Hs.out, Hr.out, List.length_append]; exact ho', hb'⟩, by simp [intOf]; omega⟩
    · have e1 : L.take k = L := List.take_of_length_le (by omega)
      rw [e1] at ho hfl2 ⊢
      have hz2 := hb.size
      cases hdn : (foldI m L).2
      · have Hr := Lib.hid (show endI m (foldI m L) = (foldI m L).1 ++ [m] from by unfold endI; rw [hdn]; rfl)
        clear hdn
        go_wp2_with (at_builtin; refine app_mkT 127 129 Tryz.underlying127 info_e9 rfl (.tmp 39) (.tmp 41) rfl W.heap.size _ _ (foldI m L).1 rfl (ho.alloc _) (some ⟨wr.heap.size, 0, none⟩) 1 1 [m] rfl (mku_row (T := 129) (heap_alloc_new wr _)) (by omega) (by simp; omega) (ex_alloc hb _) ?_; intro v' w' ho' hb' hg _)
        go_ret
        exact ⟨_, rfl, by rw [Hr.out, List.length_append]; exact own_more ho' hWs, HW.out.trans hb'⟩
      · have Hr := Lib.hid (show endI m (foldI m L) = (foldI m L).1 from by unfold endI; rw [hdn]; rfl)
        clear hdn
        go_wp2
        go_ret
        exact ⟨_, rfl, by rw [Hr.out]; exact own_more ho hWs, HW.out.trans hb⟩
end Go.Proofs.YtomfcgeibbicoaaGreat
namespace Go.Proofs.YtomfcgeibbicoaaGreat
open Go.RowKit
theorem scanC_app (c : Chg) : ∀ (ch : List Chg) (l : List Mk), scanC l (ch ++ [c]) = scanC l ch ++ [c.ap (ch.foldl (fun l c => c.ap l) l)]
  | [], l => rfl
  | d :: r, l => by
    show l :: scanC (d.ap l) (r ++ [c]) = l :: scanC (d.ap l) r ++ [_]
    rw [scanC_app c r]; rfl
theorem lists_do (q : FoV) (c : Chg) : (q.doC c).lists = q.lists ++ [c.ap q.now] := scanC_app c q.ch q.kept
theorem scanC_len : ∀ (ch : List Chg) (l : List Mk), (scanC l ch).length = ch.length + 1
  | [], _ => rfl
  | c :: r, l => by show (scanC (c.ap l) r).length + 1 = _; rw [scanC_len r]; rfl
theorem lists_len (q : FoV) : q.lists.length = q.ch.length + 1 := scanC_len _ _
theorem scanC_get : ∀ (ch : List Chg) (l : List Mk) (k : Nat), k ≤ ch.length → (scanC l ch)[k]? = some ((ch.take k).foldl (fun l c => c.ap l) l)
  | [], l, k, h => by
    have : k = 0 := by simpa using h
    subst this; rfl
  | c :: r, l, 0, _ => rfl
  | c :: r, l, k + 1, h => by
    show (scanC (c.ap l) r)[k]? = _
    rw [scanC_get r _ k (by simpa using h)]; rfl
theorem lists_get (q : FoV) {k : Nat} (h : k ≤ q.ch.length) : q.lists[k]? = some ((q.ch.take k).foldl (fun l c => c.ap l) q.kept) := scanC_get _ _ _ h
theorem lists_last (q : FoV) : q.lists[q.ch.length]? = some q.now := by rw [lists_get q (Nat.le_refl _), List.take_length]; rfl
theorem lists_settle (q : FoV) (k : Nat) : (q.settle k).lists = [(q.ch.take k).foldl (fun l c => c.ap l) q.kept] := rfl
theorem lists_sync (q : FoV) : q.sync.lists = [q.now] := by unfold FoV.sync; rw [lists_settle, List.take_length]; rfl
section
variable {P : Program} {w w0 : World} {ops : Array Oper} {rest : List Oper} {o : Oper} {a : Act} {Q : Exit → Act → World → Prop}
/-- append at an own row of any elements. -/
theorem app_own (T E : TypeId) (z : Value) (k bytes : Nat) (hT : P.underlying T = some (.slice E)) (hE : (P.info? E).map (fun i => (i.zero, i.size, i.bytes)) = some (some z, k, bytes)) (hz : z.cells.size = k) (hk : 0 < k) (hby : bytes ≤ 1000)
    (hgd : o.guard = none) (s x : Operand) (ho : o.op = .call { callee := .builtin .append, args := #[s, x], argTypes := #[T, T] }) (base : Nat) (v : Value) (n : Nat) (cs : List Value) (hs : a.eval s = v) (hown : w.ownsRow base E k v n cs)
    (A : Option Addr) (m c : Nat) (cs' : List Value) (hx : a.eval x = .slice A m c) (hr : Row w k A m cs') (h1 : ∀ u ∈ cs', u.oneCell' = true) (hsm : n + m ≤ 100000000) (hbase : base ≤ w.heap.size) (hb : Below base w0 w)
    (h : ∀ v' w', w'.ownsRow base E k v' (n + m) (cs ++ cs') → Below base w0 w' → wpList P ops Q rest (a.put o.dst v') w') : wpList P ops Q (o :: rest) a w := by
  obtain ⟨i0, hi0, hz0, hz1, hz2⟩ := info_parts hE
  refine wpList_append_row w hgd s x _ ho base _ i0 _ k bytes hT hi0 hz0 hz1 hz2 hz hk v n cs hs hown A m c cs' hx hr h1 (by unfold maxLen; omega) (Nat.le_trans (Nat.mul_le_mul hsm hby) (by decide)) hbase ?_
  intro v' w' k1 k2 _
  exact h v' w' k1 (below_append hb hown (Nat.le_refl _) hbase k2)
end
theorem info_ls : (Tryz.prog.info? 127).map (fun i => (i.zero, i.size, i.bytes)) = some (some (.slice none 0 0), 1, 24) := by kernel_rfl
theorem info_f9 : (Tryz.prog.info? 36).map (·.size) = some 1 := by kernel_rfl
theorem LsV.one {F : Nat → Prop} {w : World} {vs : List Value} {ls : List (List Mk)} (hl : vs.length = ls.length) (h : ∀ (i : Nat) (u : Value) (l : List Mk), vs[i]? = some u → ls[i]? = some l → LiV F w u l) : ∀ u ∈ vs, u.oneCell' = true := by
  intro u hu
  obtain ⟨i, hi, rfl⟩ := List.getElem_of_mem hu
  obtain ⟨A, c, e, _⟩ := h i vs[i] ls[i] (List.getElem?_eq_getElem hi) (List.getElem?_eq_getElem (by omega))
  rw [e]; rfl
theorem RowF.len {F : Nat → Prop} {w : World} {A : Option Addr} {n : Nat} {cs : List Value} (h : RowF F w 1 A n cs) : cs.length = n := by have := h.1.1; omega
theorem LsV.at {F : Nat → Prop} {w : World} {A : Option Addr} {vs : List Value} {ls : List (List Mk)} (h : RowF F w 1 A ls.length vs) (hk : ∀ (i : Nat) (u : Value) (l : List Mk), vs[i]? = some u → ls[i]? = some l → LiV F w u l) {k : Nat} {l : List Mk} (hl : ls[k]? = some l) :
    ∃ b o u, A = some ⟨b, o, none⟩ ∧ w.cell? ⟨b, o + k, none⟩ = some u ∧ LiV F w u l := by
  have hkl := (List.getElem?_eq_some_iff.1 hl).1
  obtain ⟨b, o, e, hc⟩ := h.1.2 (by omega)
  have hv : k < vs.length := by rw [h.len]; exact hkl
  exact ⟨b, o, vs[k], e, hc k _ (List.getElem?_eq_getElem hv), hk k _ l (List.getElem?_eq_getElem hv) hl⟩
set_option maxHeartbeats 1000000 in
theorem rfnow_calls {F : Nat → Prop} {w : World} {sl : Value} {q : FoV} (h : LsV F w sl q.lists) (hq : q.ch.length ≤ 1000000) : Calls Tryz.prog 65 #[.agg #[sl]] w fun e w' => ∃ u, e = .returned u ∧ LiV F w' u q.now ∧ Ex w w' := by
  obtain ⟨A, c, vs, rfl, hr, hk⟩ := h
  obtain ⟨b, o, u, rfl, hc, hu⟩ := LsV.at hr hk (lists_last q)
  have hX := ex_alloc (Ex.refl w) (.cells #[.slice (some ⟨b, o, none⟩) q.lists.length c] 36)
  have c1 := hX.cell hc
  have hn : q.lists.length = q.ch.length + 1 := lists_len q
  have HU := Lib.hid (hu.ex hX)
  have HX := Lib.hid hX
  generalize q.lists.length = n at *
  subst hn
  clear hr hk hu hX hc
  go_enter Tryz.func65, Tryz.ntmps65
  go_wp2_with fail
  go_ret
  exact ⟨u, rfl, HU.out, HX.out⟩
end Go.Proofs.YtomfcgeibbicoaaGreat
namespace Go.Proofs.YtomfcgeibbicoaaGreat
open Go.RowKit
theorem ls_app {F : Nat → Prop} {w : World} {vs : List Value} {ls : List (List Mk)} {u : Value} {l : List Mk} (hl : vs.length = ls.length) (h : ∀ (i : Nat) (u : Value) (l : List Mk), vs[i]? = some u → ls[i]? = some l → LiV F w u l) (hu : LiV F w u l) :
    ∀ (i : Nat) (u' : Value) (l' : List Mk), (vs ++ [u])[i]? = some u' → (ls ++ [l])[i]? = some l' → LiV F w u' l' := by
  intro i u' l' h1 h2
  rcases Nat.lt_or_ge i vs.length with hi | hi
  · rw [List.getElem?_append_left hi] at h1
    rw [List.getElem?_append_left (by omega)] at h2
    exact h i u' l' h1 h2
  · have hi2 : i = vs.length := by
      have := (List.getElem?_eq_some_iff.1 h1).1
      simp at this
      omega
    subst hi2
    simp at h1
    rw [hl] at h2
    simp at h2
    rw [← h1, ← h2]
    exact hu
theorem LsV.own {F : Nat → Prop} {w : World} {base : Nat} {e : TypeId} {v : Value} {vs : List Value} {ls : List (List Mk)} (h : w.ownsRow base e 1 v ls.length vs) (hF : ∀ k, F k → k < base) (hk : ∀ (i : Nat) (u : Value) (l : List Mk), vs[i]? = some u → ls[i]? = some l → LiV F w u l) : LsV F w v ls := by
  obtain ⟨A, c, rfl, _⟩ := own_shape h
  exact ⟨A, c, vs, rfl, RowF.own h hF, hk⟩
theorem row_u {w : World} {T : TypeId} {u : Value} : Row (w.alloc (.cells #[u] T)) 1 (some ⟨w.heap.size, 0, none⟩) 1 [u] := row_lit1 w [u] T
theorem own_one {w : World} {base n : Nat} {e : TypeId} {v : Value} {cs : List Value} (h : w.ownsRow base e 1 v n cs) : ∀ x ∈ [v], x.oneCell' = true := fun x hx => by
  obtain ⟨A, c, e, _⟩ := own_shape h
  rw [List.mem_singleton.1 hx, e]; rfl
theorem Below.ex2 {w W w2 : World} {m : Nat} (h : Ex w W) (hz : W.heap.size = m) (hb : Below m W w2) : Ex w w2 := by
  subst hz
  exact Ex.trans h hb
set_option maxRecDepth 100000 in
set_option maxHeartbeats 2000000 in
theorem rfthen_calls {F : Nat → Prop} {w : World} {sl u : Value} {ls : List (List Mk)} {l : List Mk} (h : LsV F w sl ls) (hu : LiV F w u l) (hn : ls.length ≤ 10000000) (hF : ∀ k, F k → k < w.heap.size) :
    Calls Tryz.prog 118 #[.agg #[sl], u] w fun e w' => ∃ sl', e = .returned (.agg #[sl']) ∧ LsV F w' sl' (ls ++ [l]) ∧ Ex w w' := by
  obtain ⟨A, c, vs, rfl, hr, hk⟩ := h
  obtain ⟨Au, cu, eu, hu2⟩ := hu
  have hu : LiV F w u l := ⟨Au, cu, eu, hu2⟩
  have hvl : vs.length = ls.length := hr.len
  have hone := LsV.one hvl hk
  have hX := ex_two w (.cells #[.slice A ls.length c] 36) (.cells #[.slice none 0 0] 36)
  have HK := Lib.hid (blk_two w (.cells #[.slice A ls.length c] 36) [.slice none 0 0] 36)
  have c0 : ((w.alloc (.cells #[.slice A ls.length c] 36)).alloc (.cells #[.slice none 0 0] 36)).cell? ⟨w.heap.size, 0, none⟩ = some (.slice A ls.length c) := (ex_alloc (Ex.refl _) _).cell ((Blk.new w [.slice A ls.length c] 36).cell 0)
  have hz : ((w.alloc (.cells #[.slice A ls.length c] 36)).alloc (.cells #[.slice none 0 0] 36)).heap.size = w.heap.size + 1 + 1 := by simp
  have hL := own_lit ((w.alloc (.cells #[.slice A ls.length c] 36)).alloc (.cells #[.slice none 0 0] 36)) 127 1
  rw [hz] at hL
  have hR := hr.1.ex (Ex.trans hX (ex_alloc (Ex.refl _) (.cells #[] 127)))
  have hB := ex_alloc (Ex.refl ((w.alloc (.cells #[.slice A ls.length c] 36)).alloc (.cells #[.slice none 0 0] 36))) (.cells #[] 127)
  unfold Ex at hB
  rw [hz] at hB
  have hB0 : w.heap.size + 1 + 1 ≤ (((w.alloc (.cells #[.slice A ls.length c] 36)).alloc (.cells #[.slice none 0 0] 36)).alloc (.cells #[] 127)).heap.size := by simp
  have HX := Lib.hid hX
  have HR := Lib.hid hR
  have HL := Lib.hid hL
  have HB := Lib.hid hB
  have HU := Lib.hid hu
  have HO := Lib.hid hone
  have HK2 := Lib.hid hk
  have hul : u.oneCell' = true := by rw [eu]; rfl
  have HU1 := Lib.hid (show ∀ x ∈ [u], x.oneCell' = true from fun x hx => by rw [List.mem_singleton.1 hx]; exact hul)
  have hsm : 0 + ls.length ≤ 100000000 := by omega
  have hsm2 : ls.length + 1 ≤ 100000000 := by omega
  have hWm : w.heap.size + 1 + 1 ≤ w.heap.size + 1 + 1 := Nat.le_refl _
  clear hr hu hone hk hX hul hL hR hB hu2
  subst eu
  generalize l.length = lu at *
  generalize hlen : ls.length = n at *
  go_enter Tryz.func118, Tryz.ntmps118
  go_wp2_with (first
    | (at_builtin; (refine app_own 34 127 (.slice none 0 0) 1 24 Tryz.underlying34 info_ls rfl (by decide) (by decide) rfl (.tmp 5) (.tmp 7) rfl (w.heap.size + 1 + 1) _ 0 [] rfl HL.out A n c vs rfl HR.out HO.out hsm hB0 HB.out ?_); intro v1 w1 o1 b1; rw [Nat.zero_add, List.nil_append] at o1; obtain ⟨A1, c1, rfl, _⟩ := own_shape o1; have O1 := Lib.hid o1; have B1 := Lib.hid b1; have z1 := Nat.le_trans (Nat.le_of_eq hz.symm) b1.size; clear o1 b1)
    | (at_builtin; refine app_own 34 127 (.slice none 0 0) 1 24 Tryz.underlying34 info_ls rfl (by decide) (by decide) rfl (.tmp 8) (.tmp 10) rfl (w.heap.size + 1 + 1) _ _ _ rfl (O1.out.alloc _) (some ⟨w1.heap.size, 0, none⟩) 1 1 [.slice Au lu cu] rfl row_u HU1.out hsm2 (Nat.le_trans z1 (ex_alloc (Ex.refl w1) _).size) (B1.out.alloc z1 _) ?_; intro v2 w2 o2 b2; obtain ⟨A2, c2, rfl, _⟩ := own_shape o2; have O2 := Lib.hid o2; have B2 := Lib.hid b2; clear o2 b2)
    | (refine st_agg 36 rfl (.tmp 4) (.tmp 12) rfl (w.heap.size + 1) [.slice none 0 0] [.slice A2 (n + 1) c2] rfl rfl info_f9 rfl (own_one O2.out) (HK.out.below B2.out (Nat.lt_succ_self _)) (Below.ex2 HX.out hz B2.out) (Nat.le_succ _) ?_; intro w3 k3 x3 g3))
  (try simp only [Exit.inBlock, Exit.then])
  refine bodyPost_ret (ret_agg1 rfl _ _ (w.heap.size + 1) [.slice A2 (n + 1) c2] rfl k3 Tryz.underlying36 info_f9) rfl ?_
  have hlen2 : (ls ++ [l]).length = n + 1 := by rw [List.length_append, hlen]; rfl
  refine ⟨_, rfl, ?_, x3⟩
  have o3 := O2.out
  rw [← hlen2] at o3 ⊢
  exact LsV.own (own_off o3 (off_grown g3) (fun k hk e => by have := own_ge o3 k hk; omega)) (fun k hk => by have := hF k hk; omega) (ls_app (by rw [hvl, hlen]) (fun i u' l' h1 h2 => (HK2.out i u' l' h1 h2).ex x3) (HU.out.ex x3))
/-- What is done to a folder of the document: its lists. -/
theorem rfnew_f_calls {F : Nat → Prop} (w : World) (hF : ∀ k, F k → k < w.heap.size) : Calls Tryz.prog 105 #[] w fun e w' => ∃ sl, e = .returned (.agg #[sl]) ∧ LsV F w' sl [[]] ∧ Ex w w' := by
  have hz : (w.alloc (.cells #[.slice none 0 0] 36)).heap.size = w.heap.size + 1 := by simp
  have HK := Lib.hid ((Blk.new w [.slice none 0 0] 36).ex (ex_alloc (Ex.refl _) (.cells #[.slice none 0 0] 127)))
  have HX := Lib.hid (ex_two w (.cells #[.slice none 0 0] 36) (.cells #[.slice none 0 0] 127))
  have HN := Lib.hid (blk_two w (.cells #[.slice none 0 0] 36) [.slice none 0 0] 127)
  have hle := Nat.le_refl w.heap.size
  have hone : ∀ x ∈ [Value.slice (some ⟨w.heap.size + 1, 0, none⟩) 1 1], x.oneCell' = true := fun x hx => by rw [List.mem_singleton.1 hx]; rfl
  go_enter Tryz.func105, Tryz.ntmps105
  go_wp2_with (refine st_agg 36 rfl (.tmp 0) (.tmp 2) rfl w.heap.size [.slice none 0 0] [.slice (some ⟨w.heap.size + 1, 0, none⟩) 1 1] rfl rfl info_f9 rfl hone HK.out HX.out hle ?_; intro w3 k3 x3 g3)
  (try simp only [Exit.inBlock, Exit.then])
  refine bodyPost_ret (ret_agg1 rfl _ _ w.heap.size [.slice (some ⟨w.heap.size + 1, 0, none⟩) 1 1] rfl k3 Tryz.underlying36 info_f9) rfl ?_
  have hN := HN.out.grown g3 (by intro e; injection e with e; omega)
  refine ⟨_, rfl, ⟨some ⟨w.heap.size + 1, 0, none⟩, 1, [.slice none 0 0], rfl, ⟨hN.row (k := 1) (n := 1) (by decide), fun _ a ha hf => ?_⟩, fun i u l h1 h2 => ?_⟩, x3⟩
  · injection ha with ha
    subst ha
    have := hF _ hf
    simp only at this
    omega
  · have hi : i = 0 := by have := (List.getElem?_eq_some_iff.1 h2).1; simpa using this
    subst hi
    injection h1 with h1
    injection h2 with h2
    subst h1; subst h2
    exact ⟨none, 0, rfl, Row.nil _ _ _, fun h => absurd h (by decide)⟩
end Go.Proofs.YtomfcgeibbicoaaGreat
namespace Go.Proofs.YtomfcgeibbicoaaGreat
open Go.RowKit
set_option maxRecDepth 100000 in
set_option maxHeartbeats 2000000 in
theorem rfput_calls {F : Nat → Prop} {w : World} {sl : Value} {q : FoV} (s : ByteArray) (i : Int) (h : LsV F w sl q.lists) {M : Nat} (ho : q.Ok M) (hM : M ≤ 1000000) (hF : ∀ k, F k → k < w.heap.size) :
    Calls Tryz.prog 51 #[.agg #[sl], .string s, .int .i64 i] w fun e w' => ∃ sl', e = .returned (.tuple #[.agg #[sl'], .bool (q.put s i).2]) ∧ LsV F w' sl' (q.put s i).1.lists ∧ Ex w w' := by
  have hq : q.ch.length ≤ 1000000 := by have := ho.kl; omega
  have hqn := Nat.le_trans ho.now_len hM
  have HQ9 := Lib.hid (show q.now.length ≤ 9223372036854775807 by omega)
  have hX := ex_two w (.cells #[sl] 36) (.cells #[.slice none 0 0] 36)
  have hK := blk_two w (.cells #[sl] 36) [.slice none 0 0] 36
  have hB := (Blk.new w [sl] 36).ex (ex_alloc (Ex.refl _) (.cells #[.slice none 0 0] 36))
  obtain ⟨G, hG, eG⟩ := Grow.mk2 hX hF
  have HF3 := Lib.hid (fun (w' : World) (hx : Ex ((w.alloc (.cells #[sl] 36)).alloc (.cells #[.slice none 0 0] 36)) w') (k : Nat) (hk : G k) => Nat.lt_of_lt_of_le (hG.lt k hk) hx.size)
  have HG := Lib.hid hG
  have HG1 := Lib.hid (hG.new (w.heap.size + 1) (Nat.le_succ _) (by simp))
  have HLn := Lib.hid (show q.lists.length ≤ 10000000 by rw [lists_len]; omega)
  have HH := Lib.hid (hG.ls eG h)
  have HK := Lib.hid hK
  have HB := Lib.hid hB
  have HX := Lib.hid hX
  clear h hX hK hB hG eG
  cases hf : (findM s q.now).2
  · have HE := Lib.hid (show q.put s i = (q.doC ⟨false, ⟨#[]⟩, true, s, i⟩, true) from by unfold FoV.put; rw [if_neg (by rw [hf]; simp)])
    have HN := Lib.hid (show endI ⟨s, i⟩ (foldI ⟨s, i⟩ q.now) = Chg.ap ⟨false, ⟨#[]⟩, true, s, i⟩ q.now from by rw [fold_ins0]; show insM ⟨s, i⟩ q.now = putM ⟨s, i⟩ q.now; unfold putM; rw [filt_none hf])
    have Hf := Lib.hid hf
    clear hf
    obtain ⟨sA, sn, sc, rfl⟩ : ∃ A n c, sl = .slice A n c := HH.out.shape
    go_enter Tryz.func51, Tryz.ntmps51
    go_wp2_with fail
    refine (rfnow_calls HH.out hq).mono ?_
    rintro e w1 ⟨u1, rfl, hu1, hb1⟩
    obtain ⟨A1, c1, rfl, hr1⟩ := hu1
    have HB1 := Lib.hid (HB.out.ex hb1)
    have HW1 := Lib.hid hb1
    have HH1 := Lib.hid (HH.out.ex hb1)
    have HK1 := Lib.hid (HK.out.ex hb1)
    go_wp2_with fail
    refine (rffind_calls A1 c1 q.now s _ (by omega) hr1.row).mono ?_
    rintro e w2 ⟨rfl, rfl⟩
    rw [Hf.out]
    have x0 : w2.cell? ⟨w.heap.size, 0, none⟩ = some (.slice sA sn sc) := HB1.out.cell 0
    have x1 : w2.cell? ⟨w.heap.size + 1, 0, none⟩ = some (.slice none 0 0) := HK1.out.cell 0
    have x2 : w2.frozen? ⟨w.heap.size + 1, 0, none⟩ = false := HK1.out.frozen 0
    go_wp2_with fail
    go_region_held3 (fun w' => w'.cell? ⟨w.heap.size, 0, none⟩ = some (.slice sA sn sc) ∧ w'.frozen? ⟨w.heap.size + 1, 0, none⟩ = false) (go_keep) (first
      | (go_at_call 65; ((with_reducible refine (rfnow_calls (F := G) (q := q) (HH1.out.ex (Ex.refl w2).drew) hq).mono ?_); rintro e w3 ⟨u3, rfl, hu3, hb3⟩; obtain ⟨A3, c3, rfl, hr3⟩ := hu3; have HR3 := Lib.hid hr3; have HX3 := Lib.hid (Ex.trans (Ex.refl w2).drew hb3); clear hr3 hb3; have y0 := HX3.out.cell x0; have y1 := HX3.out.cell x1; have y2 := (HK1.out.ex HX3.out).frozen 0))
      | (go_at_call 119; ((with_reducible refine (rfwith_calls A3 c3 q.now ⟨s, i⟩ w3 hqn HR3.out.row).mono ?_); rintro e w4 ⟨v4, rfl, ho4, hb4⟩; rw [HN.out] at ho4; have hu4 := LiV.own (F := G) ho4 (HF3.out w3 (HW1.out.trans HX3.out)); obtain ⟨A4, c4, rfl, hr4⟩ := hu4; have HR4 := Lib.hid hr4; have HX4 := Lib.hid (Ex.trans HX3.out hb4); clear hr4 hb4 ho4; have z0 := HX4.out.cell x0; have z1 := HX4.out.cell x1; have z2 := (HK1.out.ex HX4.out).frozen 0))
      | (go_at_call 118; ((with_reducible refine (rfthen_calls (F := G) (ls := q.lists) (l := Chg.ap ⟨false, ⟨#[]⟩, true, s, i⟩ q.now) (HH1.out.ex HX4.out) (LiV.mk HR4.out) HLn.out (HF3.out w4 (HW1.out.trans HX4.out))).mono ?_); rintro e w5 ⟨v5, rfl, hl5, hb5⟩; obtain ⟨A5, n5, c5, rfl⟩ := hl5.shape; have HL5 := Lib.hid hl5; have HX5 := Lib.hid (Ex.trans HX4.out hb5); clear hl5 hb5; have t0 := HX5.out.cell x0; have t1 := HX5.out.cell x1; have t2 := (HK1.out.ex HX5.out).frozen 0)))
    go_wp2_with fail
    (try simp only [Exit.inBlock, Exit.then])
    refine bodyPost_ret (ret_agg2 rfl _ _ (w.heap.size + 1) [.slice A5 n5 c5] rfl ((HK1.out.ex HX5.out).setCell (i := 0) _) Tryz.underlying36 info_f9) rfl ?_
    refine ⟨_, by rw [HE.out]; rfl, ?_, Ex.set (HX.out.trans (HW1.out.trans HX5.out)) (Nat.le_succ _) _⟩
    rw [HE.out]
    show LsV F _ _ (q.doC _).lists
    rw [lists_do]
    exact (HL5.out.offs (off_set w5 (w.heap.size + 1) 0 _) fun k hk => by rw [hk]; exact HG1.out).less HG.out.of
  · have HE := Lib.hid (show q.put s i = (q, false) from by unfold FoV.put; rw [hf]; rfl)
    have Hf := Lib.hid hf
    clear hf
    obtain ⟨sA, sn, sc, rfl⟩ : ∃ A n c, sl = .slice A n c := HH.out.shape
    go_enter Tryz.func51, Tryz.ntmps51
    go_wp2_with fail
    refine (rfnow_calls HH.out hq).mono ?_
    rintro e w1 ⟨u1, rfl, hu1, hb1⟩
    obtain ⟨A1, c1, rfl, hr1⟩ := hu1
    have HB1 := Lib.hid (HB.out.ex hb1)
    have HW1 := Lib.hid hb1
    have HH1 := Lib.hid (HH.out.ex hb1)
    have HK1 := Lib.hid (HK.out.ex hb1)
    go_wp2_with fail
    refine (rffind_calls A1 c1 q.now s _ HQ9.out hr1.row).mono ?_
    rintro e w2 ⟨rfl, rfl⟩
    rw [Hf.out]
    have x0 : w2.cell? ⟨w.heap.size, 0, none⟩ = some (.slice sA sn sc) := HB1.out.cell 0
    have x1 : w2.cell? ⟨w.heap.size + 1, 0, none⟩ = some (.slice none 0 0) := HK1.out.cell 0
    have x2 : w2.frozen? ⟨w.heap.size + 1, 0, none⟩ = false := HK1.out.frozen 0
    go_wp2_with fail
    (try simp only [Exit.inBlock, Exit.then])
    refine bodyPost_ret (ret_agg2 rfl _ _ (w.heap.size + 1) [.slice sA sn sc] rfl (HK1.out.setCell (i := 0) _) Tryz.underlying36 info_f9) rfl ?_
    refine ⟨_, by rw [HE.out]; rfl, ?_, Ex.set (HX.out.trans HW1.out) (Nat.le_succ _) _⟩
    rw [HE.out]
    exact (HH1.out.offs (off_set w2 (w.heap.size + 1) 0 _) fun k hk => by rw [hk]; exact HG1.out).less HG.out.of
-- printed by genRfC.py from here on
set_option maxRecDepth 100000 in
set_option maxHeartbeats 2000000 in
theorem rfdrop_calls {F : Nat → Prop} {w : World} {sl : Value} {q : FoV} (s : ByteArray) (h : LsV F w sl q.lists) {M : Nat} (ho : q.Ok M) (hM : M ≤ 1000000) (hF : ∀ k, F k → k < w.heap.size) :
    Calls Tryz.prog 131 #[.agg #[sl], .string s] w fun e w' => ∃ sl', e = .returned (.tuple #[.agg #[sl'], .bool (q.drop s).2]) ∧ LsV F w' sl' (q.drop s).1.lists ∧ Ex w w' := by
  have hq : q.ch.length ≤ 1000000 := by have := ho.kl; omega
  have hqn := Nat.le_trans ho.now_len hM
  have HQ9 := Lib.hid (show q.now.length ≤ 9223372036854775807 by omega)
  have hX := ex_two w (.cells #[sl] 36) (.cells #[.slice none 0 0] 36)
  have hK := blk_two w (.cells #[sl] 36) [.slice none 0 0] 36
  have hB := (Blk.new w [sl] 36).ex (ex_alloc (Ex.refl _) (.cells #[.slice none 0 0] 36))
  obtain ⟨G, hG, eG⟩ := Grow.mk2 hX hF
  have HF3 := Lib.hid (fun (w' : World) (hx : Ex ((w.alloc (.cells #[sl] 36)).alloc (.cells #[.slice none 0 0] 36)) w') (k : Nat) (hk : G k) => Nat.lt_of_lt_of_le (hG.lt k hk) hx.size)
  have HG := Lib.hid hG
  have HG1 := Lib.hid (hG.new (w.heap.size + 1) (Nat.le_succ _) (by simp))
  have HLn := Lib.hid (show q.lists.length ≤ 10000000 by rw [lists_len]; omega)
  have HH := Lib.hid (hG.ls eG h)
  have HK := Lib.hid hK
  have HB := Lib.hid hB
  have HX := Lib.hid hX
  clear h hX hK hB hG eG
  cases hf : (findM s q.now).2
  · have HE := Lib.hid (show q.drop s = (q, false) from by unfold FoV.drop; rw [hf]; rfl)
    have Hf := Lib.hid hf
    clear hf
    obtain ⟨sA, sn, sc, rfl⟩ : ∃ A n c, sl = .slice A n c := HH.out.shape
    go_enter Tryz.func131, Tryz.ntmps131
    go_wp2_with fail
    refine (rfnow_calls HH.out hq).mono ?_
    rintro e w1 ⟨u1, rfl, hu1, hb1⟩
    obtain ⟨A1, c1, rfl, hr1⟩ := hu1
    have HB1 := Lib.hid (HB.out.ex hb1)
    have HW1 := Lib.hid hb1
    have HH1 := Lib.hid (HH.out.ex hb1)
    have HK1 := Lib.hid (HK.out.ex hb1)
    go_wp2_with fail
    refine (rffind_calls A1 c1 q.now s _ HQ9.out hr1.row).mono ?_
    rintro e w2 ⟨rfl, rfl⟩
    rw [Hf.out]
    have x0 : w2.cell? ⟨w.heap.size, 0, none⟩ = some (.slice sA sn sc) := HB1.out.cell 0
    have x1 : w2.cell? ⟨w.heap.size + 1, 0, none⟩ = some (.slice none 0 0) := HK1.out.cell 0
    have x2 : w2.frozen? ⟨w.heap.size + 1, 0, none⟩ = false := HK1.out.frozen 0
    go_wp2_with fail
    (try simp only [Exit.inBlock, Exit.then])
    refine bodyPost_ret (ret_agg2 rfl _ _ (w.heap.size + 1) [.slice sA sn sc] rfl (HK1.out.setCell (i := 0) _) Tryz.underlying36 info_f9) rfl ?_
    refine ⟨_, by rw [HE.out]; rfl, ?_, Ex.set (HX.out.trans HW1.out) (Nat.le_succ _) _⟩
    rw [HE.out]
    exact (HH1.out.offs (off_set w2 (w.heap.size + 1) 0 _) fun k hk => by rw [hk]; exact HG1.out).less HG.out.of
  · have HE := Lib.hid (show q.drop s = (q.doC ⟨true, s, false, ⟨#[]⟩, 0⟩, true) from by unfold FoV.drop; rw [hf]; rfl)
    have Hf := Lib.hid hf
    clear hf
    obtain ⟨sA, sn, sc, rfl⟩ : ∃ A n c, sl = .slice A n c := HH.out.shape
    go_enter Tryz.func131, Tryz.ntmps131
    go_wp2_with fail
    refine (rfnow_calls HH.out hq).mono ?_
    rintro e w1 ⟨u1, rfl, hu1, hb1⟩
    obtain ⟨A1, c1, rfl, hr1⟩ := hu1
    have HB1 := Lib.hid (HB.out.ex hb1)
    have HW1 := Lib.hid hb1
    have HH1 := Lib.hid (HH.out.ex hb1)
    have HK1 := Lib.hid (HK.out.ex hb1)
    go_wp2_with fail
    refine (rffind_calls A1 c1 q.now s _ HQ9.out hr1.row).mono ?_
    rintro e w2 ⟨rfl, rfl⟩
    rw [Hf.out]
    have x0 : w2.cell? ⟨w.heap.size, 0, none⟩ = some (.slice sA sn sc) := HB1.out.cell 0
    have x1 : w2.cell? ⟨w.heap.size + 1, 0, none⟩ = some (.slice none 0 0) := HK1.out.cell 0
    have x2 : w2.frozen? ⟨w.heap.size + 1, 0, none⟩ = false := HK1.out.frozen 0
    go_wp2_with fail
    go_region_held3 (fun w' => w'.cell? ⟨w.heap.size, 0, none⟩ = some (.slice sA sn sc) ∧ w'.frozen? ⟨w.heap.size + 1, 0, none⟩ = false) (go_keep) (first
      | (go_at_call 65; ((with_reducible refine (rfnow_calls (F := G) (q := q) (HH1.out.ex (Ex.refl w2).drew) hq).mono ?_); rintro e w3 ⟨u3, rfl, hu3, hb3⟩; obtain ⟨A3, c3, rfl, hr3⟩ := hu3; have HR3 := Lib.hid hr3; have HX3 := Lib.hid (Ex.trans (Ex.refl w2).drew hb3); clear hr3 hb3; have y0 := HX3.out.cell x0; have y1 := HX3.out.cell x1; have y2 := (HK1.out.ex HX3.out).frozen 0))
      | (go_at_call 183; ((with_reducible refine (rfwithout_calls A3 c3 q.now s w3 hqn HR3.out.row).mono ?_); rintro e w4 ⟨v4, rfl, ho4, hb4⟩; have hu4 := LiV.own (F := G) ho4 (HF3.out w3 (HW1.out.trans HX3.out)); obtain ⟨A4, c4, rfl, hr4⟩ := hu4; have HR4 := Lib.hid hr4; have HX4 := Lib.hid (Ex.trans HX3.out hb4); clear hr4 hb4 ho4; have y0 := HX4.out.cell x0; have y1 := HX4.out.cell x1; have y2 := (HK1.out.ex HX4.out).frozen 0))
      | (go_at_call 118; ((with_reducible refine (rfthen_calls (F := G) (ls := q.lists) (l := q.now.filter (nmNot s)) (HH1.out.ex HX4.out) (LiV.mk HR4.out) HLn.out (HF3.out w4 (HW1.out.trans HX4.out))).mono ?_); rintro e w5 ⟨v5, rfl, hl5, hb5⟩; obtain ⟨A5, n5, c5, rfl⟩ := hl5.shape; have HL5 := Lib.hid hl5; have HX5 := Lib.hid (Ex.trans HX4.out hb5); clear hl5 hb5; have y0 := HX5.out.cell x0; have y1 := HX5.out.cell x1; have y2 := (HK1.out.ex HX5.out).frozen 0)))
    go_wp2_with fail
    (try simp only [Exit.inBlock, Exit.then])
    refine bodyPost_ret (ret_agg2 rfl _ _ (w.heap.size + 1) [.slice A5 n5 c5] rfl ((HK1.out.ex HX5.out).setCell (i := 0) _) Tryz.underlying36 info_f9) rfl ?_
    refine ⟨_, by rw [HE.out]; rfl, ?_, Ex.set (HX.out.trans (HW1.out.trans HX5.out)) (Nat.le_succ _) _⟩
    rw [HE.out]
    show LsV F _ _ (q.doC _).lists
    rw [lists_do]
    show LsV F _ _ (q.lists ++ [q.now.filter (nmNot s)])
    exact (HL5.out.offs (off_set w5 (w.heap.size + 1) 0 _) fun k hk => by rw [hk]; exact HG1.out).less HG.out.of
end Go.Proofs.YtomfcgeibbicoaaGreat
namespace Go.Proofs.YtomfcgeibbicoaaGreat
open Go.RowKit
theorem LsV.single {F : Nat → Prop} {w : World} {b : Nat} {u : Value} {l : List Mk} {T : TypeId} (h : Blk w b T [u]) (hb : ¬ F b) (hu : LiV F w u l) : LsV F w (.slice (some ⟨b, 0, none⟩) 1 1) [l] := by
  refine ⟨some ⟨b, 0, none⟩, 1, [u], rfl, ⟨h.row (k := 1) (n := 1) (show 1 * 1 ≤ 1 by decide), fun _ a ha hf => ?_⟩, fun i u' l' h1 h2 => ?_⟩
  · injection ha with ha
    subst ha
    exact hb hf
  · have hi : i = 0 := by have := (List.getElem?_eq_some_iff.1 h2).1; simpa using this
    subst hi
    injection h1 with h1
    injection h2 with h2
    subst h1; subst h2
    exact hu
set_option maxRecDepth 100000 in
set_option maxHeartbeats 2000000 in
theorem rfsync_calls {F : Nat → Prop} {w : World} {sl : Value} {q : FoV} (h : LsV F w sl q.lists) (hq : q.ch.length ≤ 1000000) (hF : ∀ k, F k → k < w.heap.size) :
    Calls Tryz.prog 53 #[.agg #[sl]] w fun e w' => ∃ sl', e = .returned (.agg #[sl']) ∧ LsV F w' sl' q.sync.lists ∧ Ex w w' := by
  have hX := ex_two w (.cells #[sl] 36) (.cells #[.slice none 0 0] 36)
  have hK := blk_two w (.cells #[sl] 36) [.slice none 0 0] 36
  obtain ⟨G, hG, eG⟩ := Grow.mk2 hX hF
  have HF3 := Lib.hid (fun (w' : World) (hx : Ex ((w.alloc (.cells #[sl] 36)).alloc (.cells #[.slice none 0 0] 36)) w') (k : Nat) (hk : G k) => Nat.lt_of_lt_of_le (hG.lt k hk) hx.size)
  have HG := Lib.hid hG
  have HG1 := Lib.hid (hG.new (w.heap.size + 1) (Nat.le_succ _) (by simp))
  have HH := Lib.hid (hG.ls eG h)
  have HK := Lib.hid hK
  have HX := Lib.hid hX
  have hz : w.heap.size + 1 + 1 ≤ ((w.alloc (.cells #[sl] 36)).alloc (.cells #[.slice none 0 0] 36)).heap.size := by simp
  clear h hX hK hG eG
  obtain ⟨sA, sn, sc, rfl⟩ : ∃ A n c, sl = .slice A n c := HH.out.shape
  go_enter Tryz.func53, Tryz.ntmps53
  go_wp2_with fail
  refine (rfnow_calls HH.out hq).mono ?_
  rintro e w1 ⟨u1, rfl, hu1, hb1⟩
  obtain ⟨A1, c1, rfl, hr1⟩ := hu1
  have HW1 := Lib.hid hb1
  have hz1 := Nat.le_trans hz hb1.size
  have HU := Lib.hid (LiV.mk (c := c1) hr1)
  have HB1 := Lib.hid (Blk.new w1 [.slice A1 q.now.length c1] 127)
  have HX1 := Lib.hid (ex_alloc (Ex.refl w1) (.cells #[.slice A1 q.now.length c1] 127))
  have HK1 := Lib.hid ((HK.out.ex hb1).ex HX1.out)
  have HX2 := Lib.hid (HX.out.trans (HW1.out.trans HX1.out))
  have hone : ∀ x ∈ [Value.slice (some ⟨w1.heap.size, 0, none⟩) 1 1], x.oneCell' = true := fun x hx => by rw [List.mem_singleton.1 hx]; rfl
  have hle := Nat.le_succ w.heap.size
  clear hb1 hr1 hz
  go_wp2_with (refine st_agg 36 rfl (.tmp 2) (.tmp 6) rfl (w.heap.size + 1) [.slice none 0 0] [.slice (some ⟨w1.heap.size, 0, none⟩) 1 1] rfl rfl info_f9 rfl hone HK1.out HX2.out hle ?_; intro w3 k3 x3 g3)
  (try simp only [Exit.inBlock, Exit.then])
  refine bodyPost_ret (ret_agg1 rfl _ _ (w.heap.size + 1) [.slice (some ⟨w1.heap.size, 0, none⟩) 1 1] rfl k3 Tryz.underlying36 info_f9) rfl ?_
  refine ⟨_, rfl, ?_, x3⟩
  rw [lists_sync]
  refine (LsV.single (T := 127) (HB1.out.grown g3 (by intro e; injection e with e; omega)) (fun hg => ?_) ((HU.out.ex HX1.out).offs (off_grown g3) fun k hk => by rw [hk]; exact HG1.out)).less HG.out.of
  have := HF3.out w1 HW1.out _ hg
  omega
/-- A rising list of numbers gone over. -/
def stepZ (n : Int) (r : List Int × Bool) (x : Int) : List Int × Bool := if (!r.2 && decide (n < x)) = true then (r.1 ++ [n] ++ [x], true) else (r.1 ++ [x], r.2)
def foldZ (n : Int) (l : List Int) : List Int × Bool := l.foldl (stepZ n) ([], false)
def endZ (n : Int) (r : List Int × Bool) : List Int := if r.2 = true then r.1 else r.1 ++ [n]
theorem foldZ_succ (n : Int) {l : List Int} {k : Nat} (hk : k < l.length) : foldZ n (l.take (k + 1)) = stepZ n (foldZ n (l.take k)) l[k] := by
  unfold foldZ
  rw [List.take_succ_eq_append_getElem hk, List.foldl_append]; rfl
theorem stepZ_len (n : Int) (r : List Int × Bool) (x : Int) : (stepZ n r x).1.length ≤ r.1.length + 2 ∧ ((stepZ n r x).2 = false → (stepZ n r x).1.length = r.1.length + 1 ∧ r.2 = false) ∧ (r.2 = true → (stepZ n r x).1.length = r.1.length + 1 ∧ (stepZ n r x).2 = true) := by
  unfold stepZ
  cases h : r.2 <;> cases h' : decide (n < x) <;> simp
theorem foldZ_len (n : Int) (l : List Int) : (foldZ n l).1.length ≤ l.length + 1 ∧ ((foldZ n l).2 = false → (foldZ n l).1.length = l.length) := by
  have : ∀ (l : List Int) (r : List Int × Bool), (l.foldl (stepZ n) r).1.length + (if (l.foldl (stepZ n) r).2 = true then 0 else 1) = r.1.length + (if r.2 = true then 0 else 1) + l.length := by
    intro l
    induction l with
    | nil => intro r; rfl
    | cons x l ih =>
      intro r
      rw [List.foldl_cons, ih, List.length_cons]
      unfold stepZ
      cases h : r.2 <;> cases h' : decide (n < x) <;> simp <;> omega
  have h := this l ([], false)
  unfold foldZ
  simp only [List.length_nil, Bool.false_eq_true, if_false] at h
  constructor
  · split at h <;> omega
  · intro hf
    rw [if_neg (by rw [hf]; decide)] at h
    omega
theorem foldZ_post (n : Int) (r : List Int) : ∀ l : List Int, endZ n (l.foldl (stepZ n) (r, true)) = r ++ l
  | [] => by simp [endZ]
  | x :: l => by
    rw [List.foldl_cons, show stepZ n (r, true) x = (r ++ [x], true) from rfl, foldZ_post n _ l]
    simp
theorem foldZ_ins (n : Int) (r : List Int) : ∀ l : List Int, endZ n (l.foldl (stepZ n) (r, false)) = r ++ insI n l
  | [] => by simp [endZ, insI]
  | x :: l => by
    rw [List.foldl_cons, insI]
    by_cases h : n < x
    · rw [show stepZ n (r, false) x = (r ++ [n] ++ [x], true) from by unfold stepZ; simp [h], foldZ_post, if_pos h]
      simp
    · rw [show stepZ n (r, false) x = (r ++ [x], false) from by unfold stepZ; simp [h], foldZ_ins n _ l, if_neg h]
      simp
theorem endZ_add {n : Int} {l : List Int} (h : n ∉ l) : endZ n (foldZ n l) = addI l n := by
  unfold foldZ addI
  rw [foldZ_ins, if_neg h]; rfl
/-- Numbers of the document. -/
def InV (F : Nat → Prop) (w : World) (v : Value) (l : List Int) : Prop := ∃ A c, v = .slice A l.length c ∧ RowF F w 1 A l.length (l.map (Value.int .i64))
theorem InV.ex {F : Nat → Prop} {w w' : World} {v : Value} {l : List Int} (h : InV F w v l) (hb : Ex w w') : InV F w' v l := by
  obtain ⟨A, c, e, h⟩ := h
  exact ⟨A, c, e, h.ex hb⟩
theorem InV.own {F : Nat → Prop} {w : World} {base n : Nat} {e : TypeId} {v : Value} {l : List Int} (h : w.ownsRow base e 1 v n (l.map (Value.int .i64))) (hF : ∀ k, F k → k < base) : InV F w v l := by
  have hn : n = l.length := by have := h.1; simpa using this.symm
  subst hn
  obtain ⟨A, c, rfl, _⟩ := own_shape h
  exact ⟨A, c, rfl, RowF.own h hF⟩
theorem InV.offs {F G : Nat → Prop} {w w' : World} {v : Value} {l : List Int} (h : InV F w v l) (hb : Off G w w') (hG : ∀ k, G k → F k) : InV F w' v l := by
  obtain ⟨A, c, e, h⟩ := h
  exact ⟨A, c, e, h.offs hb hG⟩
theorem InV.less {F G : Nat → Prop} {w : World} {v : Value} {l : List Int} (h : InV G w v l) (hG : ∀ k, F k → G k) : InV F w v l := by
  obtain ⟨A, c, e, h⟩ := h
  exact ⟨A, c, e, h.less hG⟩
theorem InV.shape {F : Nat → Prop} {w : World} {v : Value} {l : List Int} (h : InV F w v l) : ∃ A c, v = .slice A l.length c := by
  obtain ⟨A, c, e, _⟩ := h
  exact ⟨_, _, e⟩
theorem ints_one (l : List Int) : ∀ u ∈ l.map (Value.int .i64), u.oneCell' = true := by
  intro u hu
  obtain ⟨n, _, rfl⟩ := List.mem_map.1 hu
  rfl
theorem row_n {w : World} {T : TypeId} {n : Int} : Row (w.alloc (.cells #[.int .i64 n] T)) 1 (some ⟨w.heap.size, 0, none⟩) 1 ([n].map (Value.int .i64)) := row_lit1 w [.int .i64 n] T
set_option maxRecDepth 100000 in
set_option maxHeartbeats 2000000 in
theorem rfadd_calls {F : Nat → Prop} {w : World} {v : Value} {l : List Int} (n : Int) (h : InV F w v l) (hl : l.length ≤ 1000000) (hF : ∀ k, F k → k < w.heap.size) :
    Calls Tryz.prog 179 #[v, .int .i64 n] w fun e w' => ∃ v', e = .returned v' ∧ InV F w' v' (addI l n) ∧ Ex w w' := by
  obtain ⟨A, c, rfl, hr⟩ := h
  have HR := Lib.hid hr
  have hi1 : (Tryz.prog.info? 3).map (fun i => (i.zero, i.size, i.bytes)) = some (some (.int .i64 0), 1, 8) := info_i1
  have HI := Lib.hid hi1
  clear hr hi1
  go_enter Tryz.func179, Tryz.ntmps179
  go_wp2
  go_loopw [5, 6, 7] (fun v d i wr => ∃ k : Nat, k ≤ l.length ∧ i = .int .i64 (k : Int) ∧ d = .bool (foldZ n (l.take k)).2 ∧ (∀ j (hj : j < l.length), j < k → l[j] ≠ n) ∧ wr.ownsRow w.heap.size 3 1 v (foldZ n (l.take k)).1.length ((foldZ n (l.take k)).1.map (Value.int .i64)) ∧ Ex w wr) (fun _ _ i _ => l.length - (intOf i).toNat)
  case atStart => exact ⟨0, Nat.zero_le _, rfl, rfl, (fun _ _ h => absurd h (by omega)), World.ownsRow_nil _ _ _ _, Ex.refl _⟩
  case round =>
    obtain ⟨k, hk, rfl, rfl, hne, ho, hb⟩ := hrel
    have hfl := (foldZ_len n (l.take k)).1
    rw [List.length_take] at hfl
    have hfl2 : (foldZ n (l.take k)).1.length ≤ k + 1 := by omega
    have HNE := Lib.hid hne
    have HO := Lib.hid ho
    have HB := Lib.hid hb
    have hzb := hb.size
    clear hfl hne ho hb
    by_cases hlt : k < l.length
    · obtain ⟨b, o, rfl, c1⟩ := row_at (HR.out.row.ex HB.out) (k := k) (v := .int .i64 l[k]) (by rw [List.getElem?_map, List.getElem?_eq_getElem hlt]; rfl)
      have Hs := Lib.hid (foldZ_succ n hlt)
      have HNE1 := Lib.hid (fun (hx : l[k] ≠ n) j (hj : j < l.length) (hjk : j < k + 1) => show l[j] ≠ n from by
        rcases Nat.lt_or_ge j k with h3 | h3
        · exact HNE.out j hj h3
        · have : j = k := by omega
          subst this
          exact hx)
      have HMEM := Lib.hid (fun (hx : l[k] = n) => show addI l n = l from by unfold addI; rw [if_pos (by rw [← hx]; exact List.getElem_mem _)])
      have HCELLo := Lib.hid (show w.cell? ⟨b, o + k, none⟩ = some (.int .i64 l[k]) from by
        obtain ⟨b', o', e, hc⟩ := HR.out.row.2 (by omega)
        injection e with e
        injection e with e1 e2
        subst e1; subst e2
        exact hc k _ (by rw [List.getElem?_map, List.getElem?_eq_getElem hlt]; rfl))
      have HCELL := HCELLo
      clear HCELLo
      generalize hx : l[k] = x at *
      by_cases he : x = n
      · have d1 : decide (x = n) = true := decide_eq_true he
        have HM := Lib.hid (HMEM.out he)
        clear HMEM HNE1 hx
        go_wp2_with fail
        go_ret
        exact ⟨_, rfl, ⟨some ⟨b, o, none⟩, c, by rw [HM.out]; rfl, by rw [HM.out]; exact HR.out.ex HB.out⟩, HB.out⟩
      · have d1 : decide (x = n) = false := decide_eq_false he
        have HNE2 := Lib.hid (HNE1.out he)
        clear HMEM HNE1 hx
        obtain ⟨P, eP⟩ : ∃ P, P = (foldZ n (l.take k)).1 := ⟨_, rfl⟩
        rw [← eP] at hfl2
        have HO := Lib.hid (show wr.ownsRow w.heap.size 3 1 _ P.length (P.map (Value.int .i64)) from by rw [eP]; exact HO.out)
        cases hd : (foldZ n (l.take k)).2
        · by_cases hlx : n < x
          · have d2 : decide (n < x) = true := decide_eq_true hlx
            have Hr := Lib.hid (show stepZ n (foldZ n (l.take k)) x = (P ++ [n] ++ [x], true) from by rw [eP]; unfold stepZ; rw [hd, d2]; rfl)
            clear hd eP
            go_wp2_with (first | (at_builtin; refine app_own 149 3 (.int .i64 0) 1 8 Tryz.underlying149 HI.out rfl (by decide) (by decide) rfl (.tmp 31) (.tmp 33) rfl w.heap.size _ _ (P.map (Value.int .i64)) rfl (HO.out.alloc _) (some ⟨wr.heap.size, 0, none⟩) 1 1 ([n].map (Value.int .i64)) rfl row_n (ints_one _) (by omega) (Nat.le_trans hzb (ex_alloc (Ex.refl wr) _).size) (ex_alloc HB.out _) ?_; intro v1 w1 ho1 hb1; rw [← List.map_append] at ho1; have HO1 := Lib.hid ho1; have HB1 := Lib.hid hb1; have hz1 := hb1.size; have c2 := Ex.cell HB1.out HCELL.out; clear ho1 hb1) | (at_builtin; refine app_own 149 3 (.int .i64 0) 1 8 Tryz.underlying149 HI.out rfl (by decide) (by decide) rfl (.tmp 35) (.tmp 40) rfl w.heap.size _ _ ((P ++ [n]).map (Value.int .i64)) rfl (HO1.out.alloc _) (some ⟨w1.heap.size, 0, none⟩) 1 1 ([x].map (Value.int .i64)) rfl row_n (ints_one _) (by omega) (Nat.le_trans hz1 (ex_alloc (Ex.refl w1) _).size) (ex_alloc HB1.out _) ?_; intro v' w' ho' hb'))
            exact ⟨⟨k + 1, by omega, by go_num, by rw [Hs.out, Hr.out], HNE2.out, by rw [Hs.out, Hr.out, List.length_append, List.length_append, List.map_append]; exact ho', hb'⟩, by simp [intOf]; omega⟩
          · have d2 : decide (n < x) = false := decide_eq_false hlx
            have Hr := Lib.hid (show stepZ n (foldZ n (l.take k)) x = (P ++ [x], false) from by rw [eP]; unfold stepZ; rw [hd, d2]; rfl)
            clear hd eP
            go_wp2_with (at_builtin; refine app_own 149 3 (.int .i64 0) 1 8 Tryz.underlying149 HI.out rfl (by decide) (by decide) rfl (.tmp 35) (.tmp 40) rfl w.heap.size _ _ (P.map (Value.int .i64)) rfl (HO.out.alloc _) (some ⟨wr.heap.size, 0, none⟩) 1 1 ([x].map (Value.int .i64)) rfl row_n (ints_one _) (by omega) (Nat.le_trans hzb (ex_alloc (Ex.refl wr) _).size) (ex_alloc HB.out _) ?_; intro v' w' ho' hb')
            exact ⟨⟨k + 1, by omega, by go_num, by rw [Hs.out, Hr.out], HNE2.out, by rw [Hs.out, Hr.out, List.length_append, List.map_append]; exact ho', hb'⟩, by simp [intOf]; omega⟩
        · have Hr := Lib.hid (show stepZ n (foldZ n (l.take k)) x = (P ++ [x], true) from by rw [eP]; unfold stepZ; rw [hd]; rfl)
          clear hd eP
          go_wp2_with (at_builtin; refine app_own 149 3 (.int .i64 0) 1 8 Tryz.underlying149 HI.out rfl (by decide) (by decide) rfl (.tmp 35) (.tmp 40) rfl w.heap.size _ _ (P.map (Value.int .i64)) rfl (HO.out.alloc _) (some ⟨wr.heap.size, 0, none⟩) 1 1 ([x].map (Value.int .i64)) rfl row_n (ints_one _) (by omega) (Nat.le_trans hzb (ex_alloc (Ex.refl wr) _).size) (ex_alloc HB.out _) ?_; intro v' w' ho' hb')
          exact ⟨⟨k + 1, by omega, by go_num, by rw [Hs.out, Hr.out], HNE2.out, by rw [Hs.out, Hr.out, List.length_append, List.map_append]; exact ho', hb'⟩, by simp [intOf]; omega⟩
    · have hkl : k = l.length := by omega
      subst hkl
      have HA := Lib.hid (endZ_add (n := n) (l := l) fun hm => by
        obtain ⟨j, hj, e⟩ := List.getElem_of_mem hm
        exact HNE.out j hj hj e)
      have HT := Lib.hid (List.take_length (l := l))
      rw [HT.out] at hfl2 ⊢
      obtain ⟨P, eP⟩ : ∃ P, P = (foldZ n l).1 := ⟨_, rfl⟩
      rw [← eP] at hfl2
      have HO := Lib.hid (show wr.ownsRow w.heap.size 3 1 _ P.length (P.map (Value.int .i64)) from by rw [eP]; have := HO.out; rwa [HT.out] at this)
      cases hd : (foldZ n l).2
      · have Hr := Lib.hid (show addI l n = P ++ [n] from by rw [← HA.out, eP]; unfold endZ; rw [hd]; rfl)
        clear hd eP
        go_wp2_with (at_builtin; refine app_own 149 3 (.int .i64 0) 1 8 Tryz.underlying149 HI.out rfl (by decide) (by decide) rfl (.tmp 44) (.tmp 46) rfl w.heap.size _ _ (P.map (Value.int .i64)) rfl (HO.out.alloc _) (some ⟨wr.heap.size, 0, none⟩) 1 1 ([n].map (Value.int .i64)) rfl row_n (ints_one _) (by omega) (Nat.le_trans hzb (ex_alloc (Ex.refl wr) _).size) (ex_alloc HB.out _) ?_; intro v' w' ho' hb')
        go_ret
        exact ⟨_, rfl, by rw [Hr.out]; rw [← List.map_append] at ho'; exact InV.own ho' hF, hb'⟩
      · have Hr := Lib.hid (show addI l n = P from by rw [← HA.out, eP]; unfold endZ; rw [hd]; rfl)
        clear hd eP
        go_wp2_with fail
        go_ret
        exact ⟨_, rfl, by rw [Hr.out]; exact InV.own HO.out hF, HB.out⟩
theorem lists_lens {q : FoV} {M : Nat} (ho : q.Ok M) {k : Nat} {l : List Mk} (h : q.lists[k]? = some l) : l.length ≤ M := by
  have hk := (List.getElem?_eq_some_iff.1 h).1
  rw [lists_len] at hk
  rw [lists_get q (by omega)] at h
  injection h with h
  rw [← h]
  have h1 := foldl_ap_len (q.ch.take k) q.kept
  have h2 := ho.kl
  have h3 : (q.ch.take k).length ≤ q.ch.length := by rw [List.length_take]; omega
  omega
def plsOf (ls : List (List Mk)) : List Int := ls.flatMap fun l => l.map Mk.pl
/-- What is behind the first i lists, and k names of the next one. -/
def idsTo (ls : List (List Mk)) (i : Nat) (l : List Mk) (k : Nat) : List Int := setI (plsOf (ls.take i) ++ (l.take k).map Mk.pl)
theorem setI_snoc (xs : List Int) (x : Int) : setI (xs ++ [x]) = addI (setI xs) x := by unfold setI; rw [List.foldl_append]; rfl
theorem idsTo_succ (ls : List (List Mk)) (i : Nat) {l : List Mk} {k : Nat} (hk : k < l.length) : idsTo ls i l (k + 1) = addI (idsTo ls i l k) l[k].pl := by
  unfold idsTo
  rw [List.take_succ_eq_append_getElem hk, List.map_append, ← List.append_assoc]
  exact setI_snoc _ _
theorem idsTo_next {ls : List (List Mk)} {i : Nat} {l : List Mk} (h : ls[i]? = some l) (l2 : List Mk) : idsTo ls i l l.length = idsTo ls (i + 1) l2 0 := by
  obtain ⟨hi, e⟩ := List.getElem?_eq_some_iff.1 h
  unfold idsTo plsOf
  rw [List.take_length, List.take_succ_eq_append_getElem hi, e, List.flatMap_append]
  simp
theorem idsTo_len {q : FoV} {T : Nat} (hT : ∀ x ∈ q.ids, 1 ≤ x ∧ x ≤ (T : Int)) {i : Nat} {l : List Mk} (h : q.lists[i]? = some l) (k : Nat) : (idsTo q.lists i l k).length ≤ T := by
  have hsub : ∀ x ∈ idsTo q.lists i l k, x ∈ q.ids := by
    intro x hx
    unfold idsTo at hx
    rw [setI_mem, List.mem_append] at hx
    unfold FoV.ids
    rw [setI_mem, List.mem_flatMap]
    rcases hx with hx | hx
    · obtain ⟨L, hL, hx⟩ := List.mem_flatMap.1 hx
      exact ⟨L, List.mem_of_mem_take hL, hx⟩
    · obtain ⟨m, hm, e⟩ := List.mem_map.1 hx
      exact ⟨l, List.mem_of_getElem? h, List.mem_map.2 ⟨m, List.mem_of_mem_take hm, e⟩⟩
  exact up_len (setI_up _) (fun x hx => (hT x (hsub x hx)).1) (fun x hx => (hT x (hsub x hx)).2)
set_option maxRecDepth 100000 in
set_option maxHeartbeats 2000000 in
theorem rfids_calls {F : Nat → Prop} {w : World} {sl : Value} {q : FoV} {T M : Nat} (h : LsV F w sl q.lists) (ho : q.Ok M) (hM : M ≤ 1000000) (hT : ∀ x ∈ q.ids, 1 ≤ x ∧ x ≤ (T : Int)) (hT2 : T ≤ 1000000) (hF : ∀ k, F k → k < w.heap.size) :
    Calls Tryz.prog 120 #[.agg #[sl]] w fun e w' => ∃ v, e = .returned v ∧ InV F w' v q.ids ∧ Ex w w' := by
  have hX := ex_alloc (Ex.refl w) (.cells #[sl] 36)
  have hB := (Blk.new w [sl] 36)
  obtain ⟨G, hG, eG⟩ := Grow.mk2 hX hF
  have HF3 := Lib.hid (fun (w' : World) (hx : Ex (w.alloc (.cells #[sl] 36)) w') (k : Nat) (hk : G k) => Nat.lt_of_lt_of_le (hG.lt k hk) hx.size)
  have HG := Lib.hid hG
  have hH := hG.ls eG h
  have HX := Lib.hid hX
  obtain ⟨A, cc, vs, rfl, hr, hk⟩ := hH
  have HR := Lib.hid hr
  have HK := Lib.hid hk
  have HO := Lib.hid ho
  have HT := Lib.hid hT
  have hB0 := hB.cell 0
  have hn : q.lists.length = q.ch.length + 1 := lists_len q
  have hnl : q.lists.length ≤ 1000001 := by have := ho.kl; omega
  have HN := Lib.hid hn
  clear h hX hB hG eG hr hk ho hT hn
  go_enter Tryz.func120, Tryz.ntmps120
  go_wp2_with fail
  generalize (w.alloc (.cells #[.slice A q.lists.length cc] 36)) = W at *
  go_loopw [3, 4] (fun v i wr => ∃ k : Nat, k ≤ q.lists.length ∧ i = .int .i64 (k : Int) ∧ InV G wr v (idsTo q.lists k [] 0) ∧ Ex W wr) (fun _ i _ => q.lists.length - (intOf i).toNat)
  case atStart => exact ⟨0, Nat.zero_le _, rfl, ⟨none, 0, rfl, ⟨Row.nil _ _ _, fun h => absurd h (Nat.lt_irrefl 0)⟩⟩, Ex.refl _⟩
  case round =>
    obtain ⟨k, hk, rfl, hv, hb⟩ := hrel
    have HV := Lib.hid hv
    have HB := Lib.hid hb
    have b0 := hb.cell hB0
    clear hv hb
    by_cases hlt : k < q.lists.length
    · obtain ⟨l, hl⟩ : ∃ l, q.lists[k]? = some l := ⟨_, List.getElem?_eq_getElem hlt⟩
      obtain ⟨b, o, u, rfl, hcell, hu⟩ := LsV.at HR.out HK.out hl
      obtain ⟨Al, cl, rfl, hrl⟩ := hu
      have HRL := Lib.hid hrl.row
      have HL := Lib.hid hl
      have hll : l.length ≤ 1000000 := Nat.le_trans (lists_lens HO.out hl) hM
      have c0 := HB.out.cell hcell
      have e0 : idsTo q.lists k [] 0 = idsTo q.lists k l 0 := by unfold idsTo; simp
      rw [e0] at HV
      clear hl hrl e0
      go_wp2_with fail
      go_loopw [3, 5] (fun v j wq => ∃ m : Nat, m ≤ l.length ∧ j = .int .i64 (m : Int) ∧ InV G wq v (idsTo q.lists k l m) ∧ Ex W wq) (fun _ j _ => l.length - (intOf j).toNat)
      case atStart => exact ⟨0, Nat.zero_le _, rfl, HV.out, HB.out⟩
      case round =>
        obtain ⟨m, hm, rfl, hv, hb⟩ := hrel
        have HV2 := Lib.hid hv
        have HB2 := Lib.hid hb
        have d0 := hb.cell hB0
        have d1 := hb.cell hcell
        clear hv hb
        by_cases hlt2 : m < l.length
        · obtain ⟨b2, o2, rfl, f1, f2⟩ := (HRL.out.ex HB2.out).mk hlt2
          have HS := Lib.hid (idsTo_succ q.lists k hlt2)
          have HLen := Lib.hid (Nat.le_trans (idsTo_len HT.out HL.out m) hT2)
          generalize l[m] = x at *
          go_wp2_with fail
          refine (rfadd_calls x.pl HV2.out HLen.out (HF3.out _ HB2.out)).mono ?_
          rintro e w3 ⟨v3, rfl, hv3, hb3⟩
          have HV3 := Lib.hid hv3
          have HB3 := Lib.hid (HB2.out.trans hb3)
          clear hv3 hb3
          go_wp2_with fail
          exact ⟨⟨m + 1, by omega, by go_num, by rw [HS.out]; exact HV3.out, HB3.out⟩, by simp [intOf]; omega⟩
        · have hml : m = l.length := by omega
          subst hml
          have HS := Lib.hid (idsTo_next HL.out [])
          go_wp2_with fail
          exact ⟨⟨k + 1, by omega, by go_num, by rw [← HS.out]; exact HV2.out, HB2.out⟩, by simp [intOf]; omega⟩
    · have hkl : k = q.lists.length := by omega
      subst hkl
      have HS := Lib.hid (show idsTo q.lists q.lists.length [] 0 = q.ids from by unfold idsTo FoV.ids plsOf; rw [List.take_length]; simp)
      go_wp2_with fail
      go_ret
      exact ⟨_, rfl, by rw [← HS.out]; exact HV.out.less HG.out.of, HX.out.trans HB.out⟩
end Go.Proofs.YtomfcgeibbicoaaGreat
