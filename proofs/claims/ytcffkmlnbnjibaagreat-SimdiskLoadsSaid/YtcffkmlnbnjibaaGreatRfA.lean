/- The document's tapes and folders: what they are in memory, and the walks of the plain functions over them. -/
import Derived.Test.YtcffkmlnbnjibaaGreatTpA
import Derived.Test.YtcffkmlnbnjibaaGreatPcF
import Derived.Test.YtcffkmlnbnjibaaGreatFo0
namespace Go.Proofs.YtcffkmlnbnjibaaGreat
open Go.RowKit
/-- A struct and a word as results. -/
theorem ret_agg2 {fn : Func} {p u : Tmp} {T : TypeId} {fs : Array Field} (h : fn.results = #[.cell p T, .tmp u]) (tmps : Array Value) (w : World) (g : Nat) (cs : List Value) (hp : tmps.getD p undef = .pointer (some ⟨g, 0, none⟩)) (hg : Blk w g T cs)
    (hu : Tryz.prog.underlying T = some (.struct fs)) (hi : (Tryz.prog.info? T).map (·.size) = some cs.length) :
    (results fn tmps).run Tryz.prog w = .ok (.tuple #[.agg cs.toArray, tmps.getD u undef]) w := by
  have hl := run_loadVar_row (P := Tryz.prog) w g T T cs.toArray (0, 0) _ hg hu rfl (by simpa using hi)
  rw [results_cell_tmp h, hp]
  simp only [asAddr, Sem.run_pure, Result.andThen, hl]
theorem ret_agg1 {fn : Func} {p : Tmp} {T : TypeId} {fs : Array Field} (h : fn.results = #[.cell p T]) (tmps : Array Value) (w : World) (g : Nat) (cs : List Value) (hp : tmps.getD p undef = .pointer (some ⟨g, 0, none⟩)) (hg : Blk w g T cs)
    (hu : Tryz.prog.underlying T = some (.struct fs)) (hi : (Tryz.prog.info? T).map (·.size) = some cs.length) :
    (results fn tmps).run Tryz.prog w = .ok (.agg cs.toArray) w :=
  results_cell_row h tmps w g T cs.toArray (0, 0) _ hp hg hu rfl (by simpa using hi)
section
variable {w w0 : World} {ops : Array Oper} {rest : List Oper} {o : Oper} {a : Act} {Q : Exit → Act → World → Prop}
theorem spl_all {old new : List Value} (h : old.length = new.length) : spl old 0 new = new := by
  unfold spl
  rw [List.take_zero, List.nil_append, Nat.zero_add, ← h, List.drop_length, List.append_nil]
/-- A struct is stored into a block of its own. -/
theorem st_agg (T : TypeId) (hgd : o.guard = none) (x y : Operand) (ho : o.op = .store T x y) (g : Nat) (old new : List Value) (hx : a.eval x = .pointer (some ⟨g, 0, none⟩)) (hy : a.eval y = .agg new.toArray) (hi : (Tryz.prog.info? T).map (·.size) = some new.length) (hl : old.length = new.length) (h1 : ∀ v ∈ new, v.oneCell' = true)
    (hg : Blk w g T old) (hb : Ex w0 w) (hB : w0.heap.size ≤ g) (K : ∀ w', Blk w' g T new → Ex w0 w' → w.grownBy w' (some g) → wpList Tryz.prog ops Q rest (a.put o.dst undef) w') : wpList Tryz.prog ops Q (o :: rest) a w :=
  wpList_store_k hgd T x y ho (.agg new.toArray) g 0 old T new hx hy (by simp [Value.cells]) hi hg (by omega) h1 fun w' k1 k2 => K w' (by rw [spl_all hl] at k1; exact k1) (below_store hb hB hb.size k2) k2
end
/-- A row that stands outside F, wherever it has elements. -/
structure RowF (F : Nat → Prop) (w : World) (sz : Nat) (A : Option Addr) (n : Nat) (cs : List Value) : Prop where
  row : Row w sz A n cs
  out : 0 < n → ∀ a, A = some a → ¬ F a.block
theorem RowF.ex {F : Nat → Prop} {w w' : World} {sz n : Nat} {A : Option Addr} {cs : List Value} (h : RowF F w sz A n cs) (hb : Ex w w') : RowF F w' sz A n cs := ⟨h.1.ex hb, h.2⟩
theorem RowF.fresh {F : Nat → Prop} {w w' : World} {sz n : Nat} {A : Option Addr} {cs : List Value} (h : RowF F w sz A n cs) (hz : 0 < sz) (hb : Off F w w') : RowF (Fresh F w w') w' sz A n cs := by
  refine ⟨⟨h.1.1, fun hn => ?_⟩, fun hn a ha hf => ?_⟩
  · obtain ⟨b, o, e, hc⟩ := h.1.2 hn
    exact ⟨b, o, e, fun j u hu => hb.cell (hc j u hu) (h.2 hn _ e)⟩
  · rcases hf with hf | hf
    · exact h.2 hn a ha hf
    · obtain ⟨b, o, e, hc⟩ := h.1.2 hn
      obtain rfl : (⟨b, o, none⟩ : Addr) = a := by rw [e] at ha; injection ha
      subst e
      have := Row.lt h.1 hn hz
      have := hf.1
      simp only at this
      omega
theorem RowF.own {F : Nat → Prop} {w : World} {base sz n c : Nat} {e : TypeId} {A : Option Addr} {cs : List Value} (h : w.ownsRow base e sz (.slice A n c) n cs) (hF : ∀ k, F k → k < base) : RowF F w sz A n cs := by
  refine ⟨Row.of_own h, fun hn a ha hf => ?_⟩
  rcases own_blk h with ⟨_, h0, _⟩ | ⟨g, cap, cur, hv, hb, _⟩
  · omega
  · injection hv with hA
    rw [hA] at ha
    injection ha with ha
    subst ha
    have := hF _ hf
    simp only at this
    omega
theorem RowF.lit {F : Nat → Prop} {w w' : World} {cs : List Value} {sz n : Nat} (hF : ∀ k, F k → k < w.heap.size) (h : Row w' sz (some ⟨w.heap.size, 0, none⟩) n cs) : RowF F w' sz (some ⟨w.heap.size, 0, none⟩) n cs :=
  ⟨h, fun _ a ha hf => by injection ha with ha; subst ha; exact absurd (hF _ hf) (Nat.lt_irrefl _)⟩
/-- A list of names and numbers of the document. -/
def LiV (F : Nat → Prop) (w : World) (v : Value) (l : List Mk) : Prop := ∃ A c, v = .slice A l.length c ∧ RowF F w 2 A l.length (Mk.cs l)
theorem LiV.mk {F : Nat → Prop} {w : World} {A : Option Addr} {c : Nat} {l : List Mk} (h : RowF F w 2 A l.length (Mk.cs l)) : LiV F w (.slice A l.length c) l := ⟨A, c, rfl, h⟩
theorem LiV.ex {F : Nat → Prop} {w w' : World} {v : Value} {l : List Mk} (h : LiV F w v l) (hb : Ex w w') : LiV F w' v l := by
  obtain ⟨A, c, e, h⟩ := h
  exact ⟨A, c, e, h.ex hb⟩
theorem LiV.fresh {F : Nat → Prop} {w w' : World} {v : Value} {l : List Mk} (h : LiV F w v l) (hb : Off F w w') : LiV (Fresh F w w') w' v l := by
  obtain ⟨A, c, e, h⟩ := h
  exact ⟨A, c, e, h.fresh (by decide) hb⟩
theorem LiV.own {F : Nat → Prop} {w : World} {base : Nat} {e : TypeId} {v : Value} {l : List Mk} (h : w.ownsRow base e 2 v l.length (Mk.cs l)) (hF : ∀ k, F k → k < base) : LiV F w v l := by
  obtain ⟨A, c, rfl, _⟩ := own_shape h
  exact ⟨A, c, rfl, RowF.own h hF⟩
/-- Lists of names, one behind the other. -/
def LsV (F : Nat → Prop) (w : World) (v : Value) (ls : List (List Mk)) : Prop :=
  ∃ (A : Option Addr) (c : Nat) (vs : List Value), v = .slice A ls.length c ∧ RowF F w 1 A ls.length vs ∧ ∀ (i : Nat) (u : Value) (l : List Mk), vs[i]? = some u → ls[i]? = some l → LiV F w u l
theorem LsV.ex {F : Nat → Prop} {w w' : World} {v : Value} {ls : List (List Mk)} (h : LsV F w v ls) (hb : Ex w w') : LsV F w' v ls := by
  obtain ⟨A, c, vs, e, h, k⟩ := h
  exact ⟨A, c, vs, e, h.ex hb, fun i u l a b => (k i u l a b).ex hb⟩
theorem LsV.fresh {F : Nat → Prop} {w w' : World} {v : Value} {ls : List (List Mk)} (h : LsV F w v ls) (hb : Off F w w') : LsV (Fresh F w w') w' v ls := by
  obtain ⟨A, c, vs, e, h, k⟩ := h
  exact ⟨A, c, vs, e, h.fresh (by decide) hb, fun i u l a b => (k i u l a b).fresh hb⟩
theorem RowF.offs {F G : Nat → Prop} {w w' : World} {sz n : Nat} {A : Option Addr} {cs : List Value} (h : RowF F w sz A n cs) (hb : Off G w w') (hG : ∀ k, G k → F k) : RowF F w' sz A n cs :=
  ⟨⟨h.row.1, fun hn => by
    obtain ⟨b, o, e, hc⟩ := h.row.2 hn
    exact ⟨b, o, e, fun j u hu => hb.cell (hc j u hu) fun hg => h.out hn _ e (hG _ hg)⟩⟩, h.out⟩
theorem RowF.less {F G : Nat → Prop} {w : World} {sz n : Nat} {A : Option Addr} {cs : List Value} (h : RowF G w sz A n cs) (hG : ∀ k, F k → G k) : RowF F w sz A n cs := ⟨h.row, fun hn a ha hf => h.out hn a ha (hG _ hf)⟩
theorem LiV.offs {F G : Nat → Prop} {w w' : World} {v : Value} {l : List Mk} (h : LiV F w v l) (hb : Off G w w') (hG : ∀ k, G k → F k) : LiV F w' v l := by
  obtain ⟨A, c, e, h⟩ := h
  exact ⟨A, c, e, h.offs hb hG⟩
theorem LiV.less {F G : Nat → Prop} {w : World} {v : Value} {l : List Mk} (h : LiV G w v l) (hG : ∀ k, F k → G k) : LiV F w v l := by
  obtain ⟨A, c, e, h⟩ := h
  exact ⟨A, c, e, h.less hG⟩
theorem LsV.offs {F G : Nat → Prop} {w w' : World} {v : Value} {ls : List (List Mk)} (h : LsV F w v ls) (hb : Off G w w') (hG : ∀ k, G k → F k) : LsV F w' v ls := by
  obtain ⟨A, c, vs, e, h, k⟩ := h
  exact ⟨A, c, vs, e, h.offs hb hG, fun i u l a b => (k i u l a b).offs hb hG⟩
theorem LsV.less {F G : Nat → Prop} {w : World} {v : Value} {ls : List (List Mk)} (h : LsV G w v ls) (hG : ∀ k, F k → G k) : LsV F w v ls := by
  obtain ⟨A, c, vs, e, h, k⟩ := h
  exact ⟨A, c, vs, e, h.less hG, fun i u l a b => (k i u l a b).less hG⟩
theorem LsV.shape {F : Nat → Prop} {w : World} {v : Value} {ls : List (List Mk)} (h : LsV F w v ls) : ∃ A n c, v = .slice A n c := by
  obtain ⟨A, c, vs, e, _⟩ := h
  exact ⟨_, _, _, e⟩
/-- F, and the blocks that came in between. -/
structure Grow (F : Nat → Prop) (w W : World) (G : Nat → Prop) : Prop where
  ex : Ex w W
  of : ∀ k, F k → G k
  new : ∀ k, w.heap.size ≤ k → k < W.heap.size → G k
  lt : ∀ k, G k → k < W.heap.size
theorem Grow.mk2 {F : Nat → Prop} {w W : World} (hX : Ex w W) (hF : ∀ k, F k → k < w.heap.size) : ∃ G, Grow F w W G ∧ G = Fresh F w W :=
  ⟨Fresh F w W, ⟨hX, fun _ h => .inl h, fun _ a b => .inr ⟨a, b⟩, fun k h => by
    rcases h with h | h
    · exact Nat.lt_of_lt_of_le (hF k h) hX.size
    · exact h.2⟩, rfl⟩
theorem Grow.row {F G : Nat → Prop} {w W : World} (g : Grow F w W G) (e : G = Fresh F w W) {sz n : Nat} {A : Option Addr} {cs : List Value} (h : RowF F w sz A n cs) (hz : 0 < sz) : RowF G W sz A n cs := by subst e; exact h.fresh hz (g.ex.off F)
theorem Grow.li {F G : Nat → Prop} {w W : World} (g : Grow F w W G) (e : G = Fresh F w W) {v : Value} {l : List Mk} (h : LiV F w v l) : LiV G W v l := by subst e; exact h.fresh (g.ex.off F)
theorem Grow.ls {F G : Nat → Prop} {w W : World} (g : Grow F w W G) (e : G = Fresh F w W) {v : Value} {ls : List (List Mk)} (h : LsV F w v ls) : LsV G W v ls := by subst e; exact h.fresh (g.ex.off F)
theorem Ex.set {w w' : World} (h : Ex w w') {b o : Nat} (hp : w.heap.size ≤ b) (v : Value) : Ex w (w'.setCell ⟨b, o, none⟩ v) := ((h.off fun _ => False).setCell (p := ⟨b, o, none⟩) (.inr hp) v).ex fun _ _ h => h
def TpV.agg (t : TpV) : Value := .agg #[.string t.kp, .string t.nw]
def TpV.rs (t : TpV) : List Value := [.string t.kp, .string t.nw]
theorem TpV.rs_one (t : TpV) : ∀ v ∈ t.rs, v.oneCell' = true := by
  intro v hv
  simp only [TpV.rs, List.mem_cons, List.not_mem_nil, or_false] at hv
  rcases hv with rfl | rfl <;> rfl
theorem info_rt : (Tryz.prog.info? 124).map (·.size) = some 2 := by kernel_rfl
set_option maxHeartbeats 1000000 in
theorem rtcut_calls {w : World} (t : TpV) (n : Int) : Calls Tryz.prog 162 #[t.agg, .int .i64 n] w fun e w' => e = .returned (.tuple #[(t.cut n).agg, .bool (t.cutOk n)]) ∧ Ex w w' := by
  by_cases h1 : n < 0
  · obtain ⟨e1, e2⟩ := TpV.cut_no (t := t) (n := n) (.inl h1)
    have d1 : decide (n < 0) = true := decide_eq_true h1
    have HE := Lib.hid e1
    have HE2 := Lib.hid e2
    clear e1 e2
    unfold TpV.agg
    go_enter Tryz.func162, Tryz.ntmps162
    go_wp2_with fail
    (try simp only [Exit.inBlock, Exit.then])
    refine bodyPost_ret (ret_agg2 rfl _ _ (w.heap.size + 1) t.rs rfl (blk_two _ _ _ _) Tryz.underlying124 info_rt) rfl ?_
    exact ⟨by rw [HE.out, HE2.out]; rfl, ex_two _ _ _⟩
  · have d1 : decide (n < 0) = false := decide_eq_false h1
    by_cases h2 : (t.nw.size : Int) < n
    · obtain ⟨e1, e2⟩ := TpV.cut_no (t := t) (n := n) (.inr h2)
      have d2 : decide ((t.nw.size : Int) < n) = true := decide_eq_true h2
      have HE := Lib.hid e1
      have HE2 := Lib.hid e2
      clear e1 e2
      unfold TpV.agg
      go_enter Tryz.func162, Tryz.ntmps162
      go_wp2_with fail
      (try simp only [Exit.inBlock, Exit.then])
      refine bodyPost_ret (ret_agg2 rfl _ _ (w.heap.size + 1) t.rs rfl (blk_two _ _ _ _) Tryz.underlying124 info_rt) rfl ?_
      exact ⟨by rw [HE.out, HE2.out]; rfl, ex_two _ _ _⟩
    · obtain ⟨e1, e2⟩ := TpV.cut_yes (t := t) (n := n) (by omega) (by omega)
      have d2 : decide ((t.nw.size : Int) < n) = false := decide_eq_false h2
      have h3 : 0 ≤ n := by omega
      have h4 : n ≤ (t.nw.size : Int) := by omega
      have HE := Lib.hid e1
      have HE2 := Lib.hid e2
      clear e1 e2
      unfold TpV.agg
      rw [HE2.out]
      go_enter Tryz.func162, Tryz.ntmps162
      go_wp2_with fail
      (try simp only [Exit.inBlock, Exit.then])
      refine bodyPost_ret (ret_agg2 rfl _ _ (w.heap.size + 1) (TpV.rs ⟨t.kp, t.nw.extract 0 n.toNat⟩) rfl (blk_two _ _ _ _) Tryz.underlying124 info_rt) rfl ?_
      exact ⟨by rw [HE.out]; rfl, ex_two _ _ _⟩
theorem max_eq_swap (a b : Nat) : max a b = max b a := Nat.max_comm a b
theorem rtsectors_calls {w : World} (t : TpV) (h1 : t.kp.size ≤ 8000000) (h2 : t.nw.size ≤ 8000000) : Calls Tryz.prog 99 #[t.agg] w fun e w' => e = .returned (.int .i64 (cntS (max t.nw.size t.kp.size) : Int)) ∧ Ex w w' := by
  unfold TpV.agg
  rcases Nat.le_total t.kp.size t.nw.size with h | h
  · have m1 : max (t.kp.size : Int) (t.nw.size : Int) = (t.nw.size : Int) := by omega
    have HM := Lib.hid (show max t.nw.size t.kp.size = t.nw.size from Nat.max_eq_left h)
    go_enter Tryz.func99, Tryz.ntmps99
    go_wp2_with fail
    refine (rpcount_calls t.nw.size _ (by omega)).mono ?_
    rintro e w1 ⟨rfl, hb1⟩
    go_wp2_with fail
    go_ret
    exact ⟨by rw [HM.out]; rfl, ex_box (Ex.refl w) hb1⟩
  · have m1 : max (t.kp.size : Int) (t.nw.size : Int) = (t.kp.size : Int) := by omega
    have HM := Lib.hid (show max t.nw.size t.kp.size = t.kp.size from Nat.max_eq_right h)
    go_enter Tryz.func99, Tryz.ntmps99
    go_wp2_with fail
    refine (rpcount_calls t.kp.size _ (by omega)).mono ?_
    rintro e w1 ⟨rfl, hb1⟩
    go_wp2_with fail
    go_ret
    exact ⟨by rw [HM.out]; rfl, ex_box (Ex.refl w) hb1⟩
/-- What is left of a tape. -/
def TpV.left (t : TpV) (ch : ByteArray) : TpV := ⟨(mixS t.kp t.nw ch).1, (mixS t.kp t.nw ch).1⟩
theorem rtcrash_calls {w : World} (t : TpV) (ch : ByteArray) (h1 : t.kp.size ≤ 800000) (h2 : t.nw.size ≤ 800000) : Calls Tryz.prog 133 #[t.agg, .string ch] w fun e w' => e = .returned (.tuple #[(t.left ch).agg, .int .i64 ((mixS t.kp t.nw ch).2 : Int)]) ∧ Ex w w' := by
  unfold TpV.agg
  have HK0 := Lib.hid (blk_two w (.cells #[.string t.kp, .string t.nw] 124) [.string ⟨#[]⟩, .string ⟨#[]⟩] 124)
  have HX0 := Lib.hid (ex_two w (.cells #[.string t.kp, .string t.nw] 124) (.cells #[.string ⟨#[]⟩, .string ⟨#[]⟩] 124))
  go_enter Tryz.func133, Tryz.ntmps133
  go_wp2_with fail
  refine (rmix_calls t.kp t.nw ch _ h1 h2).mono ?_
  rintro e w1 ⟨rfl, hb1⟩
  have HK1 := Lib.hid (HK0.out.ex hb1)
  have HX1 := Lib.hid (HX0.out.trans hb1)
  clear hb1
  have hW : w.heap.size ≤ w.heap.size + 1 := by omega
  go_wp2_with (refine st_agg 124 rfl (.tmp 4) (.tmp 19) rfl (w.heap.size + 1) [.string ⟨#[]⟩, .string ⟨#[]⟩] (TpV.left t ch).rs rfl rfl info_rt rfl (TpV.rs_one _) HK1.out HX1.out hW ?_; intro w2 hK2 hX2 _)
  (try simp only [Exit.inBlock, Exit.then])
  refine bodyPost_ret (ret_agg2 rfl _ _ (w.heap.size + 1) (TpV.left t ch).rs rfl hK2 Tryz.underlying124 info_rt) rfl ?_
  exact ⟨rfl, hX2⟩
end Go.Proofs.YtcffkmlnbnjibaaGreat
namespace Go.Proofs.YtcffkmlnbnjibaaGreat
open Go.RowKit
set_option maxHeartbeats 400000 in
theorem rffind_calls (A : Option Addr) (c : Nat) (l : List Mk) (s : ByteArray) (w : World) (hn : l.length ≤ 9223372036854775807) (hm : Row w 2 A l.length (Mk.cs l)) :
    Calls Tryz.prog 126 #[.slice A l.length c, .string s] w fun e w' => e = .returned (.tuple #[.int .i64 (findM s l).1, .bool (findM s l).2]) ∧ w' = w := by
  have Hm := Lib.hid hm
  clear hm
  go_enter Tryz.func126, Tryz.ntmps126
  go_wp2
  go_loop [6] (fun i => ∃ k : Nat, k ≤ l.length ∧ i = .int .i64 k ∧ (∀ j (hj : j < l.length), j < k → nmIs s l[j] = false)) (fun i => l.length - (intOf i).toNat)
  case atStart => exact ⟨0, Nat.zero_le _, rfl, fun _ _ h => absurd h (by omega)⟩
  case round =>
    obtain ⟨k, hk, rfl, hr⟩ := hrel
    have Hr := Lib.hid hr
    clear hr
    by_cases hlt : k < l.length
    · obtain ⟨b, o, rfl, c1, c2⟩ := Hm.out.mk hlt
      go_wp2
      · have hq : nmIs s l[k] = true := by unfold nmIs; assumption
        go_ret2
        exact ⟨by rw [findM_some hlt hq Hr.out]; rfl, rfl⟩
      · have hq : nmIs s l[k] = false := by unfold nmIs; assumption
        go_round
        case rel => exact ⟨k + 1, by omega, by go_num, fun j hj h => by by_cases e : j = k; (subst e; exact hq); exact Hr.out j hj (by omega)⟩
        case measure => simp [intOf]; omega
    · go_wp2
      go_ret2
      exact ⟨by rw [findM_none fun j hj => Hr.out j hj (by omega)]; rfl, rfl⟩
theorem info_e9 : (Tryz.prog.info? 141).map (fun i => (i.zero, i.size, i.bytes)) = some (some (.agg #[.string ⟨#[]⟩, .int .i64 0]), 2, 24) := by kernel_rfl
set_option maxHeartbeats 1000000 in
theorem rfwithout_calls (A : Option Addr) (c : Nat) (l : List Mk) (s : ByteArray) (w : World) (hn : l.length ≤ 1000000) (hm : Row w 2 A l.length (Mk.cs l)) :
    Calls Tryz.prog 164 #[.slice A l.length c, .string s] w fun e w' => ∃ v, e = .returned v ∧ w'.ownsRow w.heap.size 141 2 v (l.filter (nmNot s)).length (Mk.cs (l.filter (nmNot s))) ∧ Ex w w' := by
  have Hm := Lib.hid hm
  clear hm
  go_enter Tryz.func164, Tryz.ntmps164
  go_wp2
  go_loopw [5, 6] (fun v i wr => ∃ k : Nat, k ≤ l.length ∧ i = .int .i64 k ∧ wr.ownsRow w.heap.size 141 2 v ((l.take k).filter (nmNot s)).length (Mk.cs ((l.take k).filter (nmNot s))) ∧ Ex w wr) (fun _ i _ => l.length - (intOf i).toNat)
  case atStart => exact ⟨0, Nat.zero_le _, rfl, World.ownsRow_nil _ _ _ _, Ex.refl _⟩
  case round =>
    obtain ⟨k, hk, rfl, ho, hb⟩ := hrel
    have hle := filt_len (nmNot s) l k
    by_cases hlt : k < l.length
    · obtain ⟨b, o, rfl, c1, c2⟩ := (Hm.out.ex hb).mk hlt
      cases hq : nmIs s l[k]
      · have hp : nmNot s l[k] = true := by unfold nmNot; rw [hq]; rfl
        have Hfy := Lib.hid (filt_yes hlt hp)
        have hq' : (l[k].nm.toList == s.toList) = false := hq
        have hq2 : (l[k].nm.toList != s.toList) = true := by rw [bne, hq']; rfl
        clear hq hp
        go_wp2_with (at_builtin; refine app_mkT 139 141 Tryz.underlying139 info_e9 rfl (.tmp 20) (.tmp 25) rfl w.heap.size _ _ ((l.take k).filter (nmNot s)) rfl (ho.alloc _) (some ⟨wr.heap.size, 0, none⟩) 1 1 [l[k]] rfl (mku_row (T := 141) (heap_alloc_new wr _)) (by omega) (by have := hb.size; simp; omega) (ex_alloc hb _) ?_; intro v' w' ho' hb' hg _)
        exact ⟨⟨k + 1, by omega, by go_num, by rw [Hfy.out, List.length_append]; exact ho', hb'⟩, by simp [intOf]; omega⟩
      · have hp : nmNot s l[k] = false := by unfold nmNot; rw [hq]; rfl
        have Hfn := Lib.hid (filt_no hlt hp)
        have hq' : (l[k].nm.toList == s.toList) = true := hq
        have hq2 : (l[k].nm.toList != s.toList) = false := by rw [bne, hq']; rfl
        clear hq hp
        go_wp2
        go_roundw
        case rel => exact ⟨k + 1, by omega, by go_num, by rw [Hfn.out]; exact ho, hb⟩
        case measure => simp [intOf]; omega
    · go_wp2
      go_ret
      have e1 : l.take k = l := List.take_of_length_le (by omega)
      rw [e1] at ho
      exact ⟨_, rfl, ho, hb⟩
set_option maxRecDepth 100000 in
set_option maxHeartbeats 2000000 in
theorem rfwith_calls (A : Option Addr) (c : Nat) (L : List Mk) (m : Mk) (w : World) (hn : L.length ≤ 1000000) (hm : Row w 2 A L.length (Mk.cs L)) :
    Calls Tryz.prog 128 #[.slice A L.length c, .agg #[.string m.nm, .int .i64 m.pl]] w fun e w' => ∃ v, e = .returned v ∧ w'.ownsRow w.heap.size 141 2 v (endI m (foldI m L)).length (Mk.cs (endI m (foldI m L))) ∧ Ex w w' := by
  have g0 : (w.alloc (.cells #[.string m.nm, .int .i64 m.pl] 141)).cell? ⟨w.heap.size, 0, none⟩ = some (.string m.nm) := (show Blk _ _ 141 (Mk.enc m) from heap_alloc_new w _).cell 0
  have g1 : (w.alloc (.cells #[.string m.nm, .int .i64 m.pl] 141)).cell? ⟨w.heap.size, 1, none⟩ = some (.int .i64 m.pl) := (show Blk _ _ 141 (Mk.enc m) from heap_alloc_new w _).cell 1
  have hW := ex_alloc (Ex.refl w) (.cells #[.string m.nm, .int .i64 m.pl] 141)
  have HL := Lib.hid (hm.ex hW)
  have hWs := hW.size
  have HW := Lib.hid hW
  clear hm hW
  go_enter Tryz.func128, Tryz.ntmps128
  go_wp2_with fail
  generalize (w.alloc (.cells #[.string m.nm, .int .i64 m.pl] 141)) = W at *
  go_loopw [5, 6, 7] (fun v d i wr => ∃ k : Nat, k ≤ L.length ∧ i = .int .i64 k ∧ d = .bool (foldI m (L.take k)).2 ∧ wr.ownsRow W.heap.size 141 2 v (foldI m (L.take k)).1.length (Mk.cs (foldI m (L.take k)).1) ∧ Ex W wr) (fun _ _ i _ => L.length - (intOf i).toNat)
  case atStart => exact ⟨0, Nat.zero_le _, rfl, rfl, World.ownsRow_nil _ _ _ _, Ex.refl _⟩
  case round =>
    obtain ⟨k, hk, rfl, rfl, ho, hb⟩ := hrel
    have hfl := foldI_len m (L.take k)
    rw [List.length_take] at hfl
    have hfl2 : (foldI m (L.take k)).1.length ≤ k + 1 := by omega
    clear hfl
    have b0 := hb.cell g0
    have b1 := hb.cell g1
    by_cases hlt : k < L.length
    · obtain ⟨b, o, rfl, c1o, c2o⟩ := HL.out.mk hlt
      have c1 := hb.cell c1o
      have c2 := hb.cell c2o
      have w4 : (k : Int) < (L.length : Int) := by omega
      have Hs := Lib.hid (foldI_succ m hlt)
      cases hdn : (foldI m (L.take k)).2
      · go_wp2
        go_quiet (fail)
        have hqq : (!Op.bytesLess L[k].nm.toList m.nm.toList && !L[k].nm.toList == m.nm.toList) = upN m.nm L[k].nm := by unfold upN ltN; rw [Bool.not_or]
        rw [hqq]
        clear hqq
        have ho2 : (wr.drewN nq).ownsRow W.heap.size 141 2 _ (foldI m (L.take k)).1.length (Mk.cs (foldI m (L.take k)).1) := ho
        have hb2 : Ex W (wr.drewN nq) := hb.trans (Dr.ex ⟨nq, rfl⟩)
        have hz2 := hb.size
        cases hq : upN m.nm L[k].nm
        · have Hr := Lib.hid (show stepI m (foldI m (L.take k)) L[k] = ((foldI m (L.take k)).1 ++ [L[k]], false) from by unfold stepI; rw [hdn, hq]; rfl)
          clear hq hdn
          go_wp2_with (at_builtin; refine app_mkT 139 141 Tryz.underlying139 info_e9 rfl (.tmp 30) (.tmp 35) rfl W.heap.size _ _ (foldI m (L.take k)).1 rfl (ho2.alloc _) (some ⟨wr.heap.size, 0, none⟩) 1 1 [L[k]] rfl (mku_row (T := 141) (heap_alloc_new (wr.drewN nq) _)) (by omega) (by simp; omega) (ex_alloc hb2 _) ?_; intro v' w' ho' hb' hg _)
          exact ⟨⟨k + 1, by omega, by go_num, by rw [Hs.out, Hr.out], by rw [Hs.out, Hr.out, List.length_append]; exact ho', hb'⟩, by simp [intOf]; omega⟩
        · have Hr := Lib.hid (show stepI m (foldI m (L.take k)) L[k] = ((foldI m (L.take k)).1 ++ [m] ++ [L[k]], true) from by unfold stepI; rw [hdn, hq]; rfl)
          clear hq hdn
          go_wp2_with (first | (at_builtin; refine app_mkT 139 141 Tryz.underlying139 info_e9 rfl (.tmp 26) (.tmp 28) rfl W.heap.size _ _ (foldI m (L.take k)).1 rfl (ho2.alloc _) (some ⟨wr.heap.size, 0, none⟩) 1 1 [m] rfl (mku_row (T := 141) (heap_alloc_new (wr.drewN nq) _)) (by omega) (by simp; omega) (ex_alloc hb2 _) ?_; intro v1 w1 ho1 hb1' hg1 _; have hz1 := hb1'.size; have d1 := Ex.cell hb1' c1o; have d2 := Ex.cell hb1' c2o) | (at_builtin; refine app_mkT 139 141 Tryz.underlying139 info_e9 rfl (.tmp 30) (.tmp 35) rfl W.heap.size _ _ ((foldI m (L.take k)).1 ++ [m]) rfl (ho1.alloc _) (some ⟨w1.heap.size, 0, none⟩) 1 1 [L[k]] rfl (mku_row (T := 141) (heap_alloc_new w1 _)) (by simp; omega) (by simp; omega) (ex_alloc hb1' _) ?_; intro v' w' ho' hb' hg _))
          exact ⟨⟨k + 1, by omega, by go_num, by rw [Hs.out, Hr.out], by rw [Hs.out, Hr.out, List.length_append, List.length_append]; exact ho', hb'⟩, by simp [intOf]; omega⟩
      · go_wp2
        go_quiet (fail)
        have Hr := Lib.hid (show stepI m (foldI m (L.take k)) L[k] = ((foldI m (L.take k)).1 ++ [L[k]], true) from by unfold stepI; rw [hdn]; rfl)
        have ho2 : (wr.drewN nq).ownsRow W.heap.size 141 2 _ (foldI m (L.take k)).1.length (Mk.cs (foldI m (L.take k)).1) := ho
        have hb2 : Ex W (wr.drewN nq) := hb.trans (Dr.ex ⟨nq, rfl⟩)
        have hz2 := hb.size
        clear hdn
        go_wp2_with (at_builtin; refine app_mkT 139 141 Tryz.underlying139 info_e9 rfl (.tmp 30) (.tmp 35) rfl W.heap.size _ _ (foldI m (L.take k)).1 rfl (ho2.alloc _) (some ⟨wr.heap.size, 0, none⟩) 1 1 [L[k]] rfl (mku_row (T := 141) (heap_alloc_new (wr.drewN nq) _)) (by omega) (by simp; omega) (ex_alloc hb2 _) ?_; intro v' w' ho' hb' hg _)
        exact ⟨⟨k + 1, by omega, by go_num, by rw [Hs.out, Hr.out], by rw [Hs.out, Hr.out, List.length_append]; exact ho', hb'⟩, by simp [intOf]; omega⟩
    · have e1 : L.take k = L := List.take_of_length_le (by omega)
      rw [e1] at ho hfl2 ⊢
      have hz2 := hb.size
      cases hdn : (foldI m L).2
      · have Hr := Lib.hid (show endI m (foldI m L) = (foldI m L).1 ++ [m] from by unfold endI; rw [hdn]; rfl)
        clear hdn
        go_wp2_with (at_builtin; refine app_mkT 139 141 Tryz.underlying139 info_e9 rfl (.tmp 39) (.tmp 41) rfl W.heap.size _ _ (foldI m L).1 rfl (ho.alloc _) (some ⟨wr.heap.size, 0, none⟩) 1 1 [m] rfl (mku_row (T := 141) (heap_alloc_new wr _)) (by omega) (by simp; omega) (ex_alloc hb _) ?_; intro v' w' ho' hb' hg _)
        go_ret
        exact ⟨_, rfl, by rw [Hr.out, List.length_append]; exact own_more ho' hWs, HW.out.trans hb'⟩
      · have Hr := Lib.hid (show endI m (foldI m L) = (foldI m L).1 from by unfold endI; rw [hdn]; rfl)
        clear hdn
        go_wp2
        go_ret
        exact ⟨_, rfl, by rw [Hr.out]; exact own_more ho hWs, HW.out.trans hb⟩
end Go.Proofs.YtcffkmlnbnjibaaGreat
namespace Go.Proofs.YtcffkmlnbnjibaaGreat
open Go.RowKit
theorem scanC_app (c : Chg) : ∀ (ch : List Chg) (l : List Mk), scanC l (ch ++ [c]) = scanC l ch ++ [c.ap (ch.foldl (fun l c => c.ap l) l)]
  | [], l => rfl
  | d :: r, l => by
    show l :: scanC (d.ap l) (r ++ [c]) = l :: scanC (d.ap l) r ++ [_]
    rw [scanC_app c r]; rfl
theorem lists_do (q : FoV) (c : Chg) : (q.doC c).lists = q.lists ++ [c.ap q.now] := scanC_app c q.ch q.kept
theorem scanC_len : ∀ (ch : List Chg) (l : List Mk), (scanC l ch).length = ch.length + 1
  | [], _ => rfl
  | c :: r, l => by show (scanC (c.ap l) r).length + 1 = _; rw [scanC_len r]; rfl
theorem lists_len (q : FoV) : q.lists.length = q.ch.length + 1 := scanC_len _ _
theorem scanC_get : ∀ (ch : List Chg) (l : List Mk) (k : Nat), k ≤ ch.length → (scanC l ch)[k]? = some ((ch.take k).foldl (fun l c => c.ap l) l)
  | [], l, k, h => by
    have : k = 0 := by simpa using h
    subst this; rfl
  | c :: r, l, 0, _ => rfl
  | c :: r, l, k + 1, h => by
    show (scanC (c.ap l) r)[k]? = _
    rw [scanC_get r _ k (by simpa using h)]; rfl
theorem lists_get (q : FoV) {k : Nat} (h : k ≤ q.ch.length) : q.lists[k]? = some ((q.ch.take k).foldl (fun l c => c.ap l) q.kept) := scanC_get _ _ _ h
theorem lists_last (q : FoV) : q.lists[q.ch.length]? = some q.now := by rw [lists_get q (Nat.le_refl _), List.take_length]; rfl
theorem lists_settle (q : FoV) (k : Nat) : (q.settle k).lists = [(q.ch.take k).foldl (fun l c => c.ap l) q.kept] := rfl
theorem lists_sync (q : FoV) : q.sync.lists = [q.now] := by unfold FoV.sync; rw [lists_settle, List.take_length]; rfl
section
variable {P : Program} {w w0 : World} {ops : Array Oper} {rest : List Oper} {o : Oper} {a : Act} {Q : Exit → Act → World → Prop}
/-- append at an own row of any elements. -/
theorem app_own (T E : TypeId) (z : Value) (k bytes : Nat) (hT : P.underlying T = some (.slice E)) (hE : (P.info? E).map (fun i => (i.zero, i.size, i.bytes)) = some (some z, k, bytes)) (hz : z.cells.size = k) (hk : 0 < k) (hby : bytes ≤ 1000)
    (hgd : o.guard = none) (s x : Operand) (ho : o.op = .call { callee := .builtin .append, args := #[s, x], argTypes := #[T, T] }) (base : Nat) (v : Value) (n : Nat) (cs : List Value) (hs : a.eval s = v) (hown : w.ownsRow base E k v n cs)
    (A : Option Addr) (m c : Nat) (cs' : List Value) (hx : a.eval x = .slice A m c) (hr : Row w k A m cs') (h1 : ∀ u ∈ cs', u.oneCell' = true) (hsm : n + m ≤ 100000000) (hbase : base ≤ w.heap.size) (hb : Below base w0 w)
    (h : ∀ v' w', w'.ownsRow base E k v' (n + m) (cs ++ cs') → Below base w0 w' → wpList P ops Q rest (a.put o.dst v') w') : wpList P ops Q (o :: rest) a w := by
  obtain ⟨i0, hi0, hz0, hz1, hz2⟩ := info_parts hE
  refine wpList_append_row w hgd s x _ ho base _ i0 _ k bytes hT hi0 hz0 hz1 hz2 hz hk v n cs hs hown A m c cs' hx hr h1 (by unfold maxLen; omega) (Nat.le_trans (Nat.mul_le_mul hsm hby) (by decide)) hbase ?_
  intro v' w' k1 k2 _
  exact h v' w' k1 (below_append hb hown (Nat.le_refl _) hbase k2)
end
theorem info_ls : (Tryz.prog.info? 139).map (fun i => (i.zero, i.size, i.bytes)) = some (some (.slice none 0 0), 1, 24) := by kernel_rfl
theorem info_f9 : (Tryz.prog.info? 55).map (·.size) = some 1 := by kernel_rfl
theorem LsV.one {F : Nat → Prop} {w : World} {vs : List Value} {ls : List (List Mk)} (hl : vs.length = ls.length) (h : ∀ (i : Nat) (u : Value) (l : List Mk), vs[i]? = some u → ls[i]? = some l → LiV F w u l) : ∀ u ∈ vs, u.oneCell' = true := by
  intro u hu
  obtain ⟨i, hi, rfl⟩ := List.getElem_of_mem hu
  obtain ⟨A, c, e, _⟩ := h i vs[i] ls[i] (List.getElem?_eq_getElem hi) (List.getElem?_eq_getElem (by omega))
  rw [e]; rfl
theorem RowF.len {F : Nat → Prop} {w : World} {A : Option Addr} {n : Nat} {cs : List Value} (h : RowF F w 1 A n cs) : cs.length = n := by have := h.1.1; omega
theorem LsV.at {F : Nat → Prop} {w : World} {A : Option Addr} {vs : List Value} {ls : List (List Mk)} (h : RowF F w 1 A ls.length vs) (hk : ∀ (i : Nat) (u : Value) (l : List Mk), vs[i]? = some u → ls[i]? = some l → LiV F w u l) {k : Nat} {l : List Mk} (hl : ls[k]? = some l) :
    ∃ b o u, A = some ⟨b, o, none⟩ ∧ w.cell? ⟨b, o + k, none⟩ = some u ∧ LiV F w u l := by
  have hkl := (List.getElem?_eq_some_iff.1 hl).1
  obtain ⟨b, o, e, hc⟩ := h.1.2 (by omega)
  have hv : k < vs.length := by rw [h.len]; exact hkl
  exact ⟨b, o, vs[k], e, hc k _ (List.getElem?_eq_getElem hv), hk k _ l (List.getElem?_eq_getElem hv) hl⟩
set_option maxHeartbeats 1000000 in
theorem rfnow_calls {F : Nat → Prop} {w : World} {sl : Value} {q : FoV} (h : LsV F w sl q.lists) (hq : q.ch.length ≤ 1000000) : Calls Tryz.prog 97 #[.agg #[sl]] w fun e w' => ∃ u, e = .returned u ∧ LiV F w' u q.now ∧ Ex w w' := by
  obtain ⟨A, c, vs, rfl, hr, hk⟩ := h
  obtain ⟨b, o, u, rfl, hc, hu⟩ := LsV.at hr hk (lists_last q)
  have hX := ex_alloc (Ex.refl w) (.cells #[.slice (some ⟨b, o, none⟩) q.lists.length c] 55)
  have c1 := hX.cell hc
  have hn : q.lists.length = q.ch.length + 1 := lists_len q
  have HU := Lib.hid (hu.ex hX)
  have HX := Lib.hid hX
  generalize q.lists.length = n at *
  subst hn
  clear hr hk hu hX hc
  go_enter Tryz.func97, Tryz.ntmps97
  go_wp2_with fail
  go_ret
  exact ⟨u, rfl, HU.out, HX.out⟩
end Go.Proofs.YtcffkmlnbnjibaaGreat
