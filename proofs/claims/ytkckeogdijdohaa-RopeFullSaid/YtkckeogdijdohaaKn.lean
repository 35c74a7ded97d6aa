/- Trees of chunks: what a node is, what a tree has, and walks over one node. -/
import Derived.Test.YtkckeogdijdohaaChl
import Derived.Test.YtkckeogdijdohaaTal
namespace Go.Proofs.Ytkckeogdijdohaa
open Go.RowKit
/-- All chunks, one behind the other. -/
def flat : List ByteArray → ByteArray
  | [] => ⟨#[]⟩
  | x :: l => x ++ flat l
theorem ba_nil_app (a : ByteArray) : (⟨#[]⟩ : ByteArray) ++ a = a := ByteArray.empty_append
theorem ba_app_nil (a : ByteArray) : a ++ (⟨#[]⟩ : ByteArray) = a := ByteArray.append_empty
theorem flat_app (a b : List ByteArray) : flat (a ++ b) = flat a ++ flat b := by
  induction a with
  | nil => exact (ba_nil_app _).symm
  | cons x a ih => rw [List.cons_append, flat, flat, ih, ByteArray.append_assoc]
theorem flat_one (a : ByteArray) : flat [a] = a := ba_app_nil a
theorem flat_size_app (a b : List ByteArray) : (flat (a ++ b)).size = (flat a).size + (flat b).size := by rw [flat_app, ByteArray.size_append]
/-- A node's cells. -/
structure Nd (w : World) (g h : Nat) (c : C3) (s : ByteArray) (A : Option Addr) (n cap : Nat) : Prop where
  c0 : w.cell? ⟨g, 0, none⟩ = some (.int .i64 (h : Int))
  c1 : w.cell? ⟨g, 1, none⟩ = some (.int .i64 c.b)
  c2 : w.cell? ⟨g, 2, none⟩ = some (.int .i64 c.r)
  c3 : w.cell? ⟨g, 3, none⟩ = some (.int .i64 c.l)
  c4 : w.cell? ⟨g, 4, none⟩ = some (.string s)
  c5 : w.cell? ⟨g, 5, none⟩ = some (.slice A n cap)
theorem Nd.ex {w w' : World} {g h : Nat} {c : C3} {s : ByteArray} {A : Option Addr} {n cap : Nat} (x : Nd w g h c s A n cap) (hb : Ex w w') : Nd w' g h c s A n cap :=
  ⟨hb.cell x.c0, hb.cell x.c1, hb.cell x.c2, hb.cell x.c3, hb.cell x.c4, hb.cell x.c5⟩
/-- Kids, each with its chunks. -/
abbrev Kids := List (Value × List ByteArray)
def Kids.vs (ks : Kids) : List Value := ks.map (·.1)
def Kids.cs (ks : Kids) : List ByteArray := ks.flatMap (·.2)
/-- v is a tree of height h with just these chunks. -/
def Kn : Nat → World → Value → List ByteArray → Prop
  | 0, w, v, cs => ∃ g s, v = .pointer (some ⟨g, 0, none⟩) ∧ cs = [s] ∧ fitsB s = true ∧ Nd w g 0 (tally (flat cs)) s none 0 0
  | h + 1, w, v, cs => ∃ (g : Nat) (A : Option Addr) (cap : Nat) (ks : Kids), v = .pointer (some ⟨g, 0, none⟩) ∧ 2 ≤ ks.length ∧ ks.length ≤ 8 ∧ cs = ks.cs ∧ Nd w g (h + 1) (tally (flat cs)) ⟨#[]⟩ A ks.length cap ∧ Row w 1 A ks.length ks.vs ∧ ∀ k ∈ ks, Kn h w k.1 k.2
theorem Kn.ex : ∀ {h : Nat} {w w' : World} {v : Value} {cs : List ByteArray}, Kn h w v cs → Ex w w' → Kn h w' v cs
  | 0, _, _, _, _, ⟨g, s, e, e1, hf, hn⟩, hb => ⟨g, s, e, e1, hf, hn.ex hb⟩
  | _ + 1, _, _, _, _, ⟨g, A, cap, ks, e, h2, h8, e1, hn, hr, hk⟩, hb => ⟨g, A, cap, ks, e, h2, h8, e1, hn.ex hb, hr.ex hb, fun k hm => (hk k hm).ex hb⟩
/-- What every node has. -/
theorem Kn.nd {h : Nat} {w : World} {v : Value} {cs : List ByteArray} (x : Kn h w v cs) : ∃ g s A n cap, v = .pointer (some ⟨g, 0, none⟩) ∧ Nd w g h (tally (flat cs)) s A n cap ∧ (h = 0 → n = 0 ∧ cs = [s] ∧ fitsB s = true) ∧ (h ≠ 0 → s = ⟨#[]⟩ ∧ 2 ≤ n ∧ n ≤ 8) := by
  cases h with
  | zero =>
    obtain ⟨g, s, e, e1, hf, hn⟩ := x
    exact ⟨g, s, _, _, _, e, hn, fun _ => ⟨rfl, e1, hf⟩, fun h => absurd rfl h⟩
  | succ h =>
    obtain ⟨g, A, cap, ks, e, h2, h8, e1, hn, hr, hk⟩ := x
    exact ⟨g, _, A, _, cap, e, hn, fun h => absurd h (by omega), fun _ => ⟨rfl, h2, h8⟩⟩
/-- A tree: none, or a node. -/
def Tr (w : World) (v : Value) (cs : List ByteArray) : Prop := (v = .pointer none ∧ cs = []) ∨ ∃ h, Kn h w v cs
theorem Tr.ex {w w' : World} {v : Value} {cs : List ByteArray} (h : Tr w v cs) (hb : Ex w w') : Tr w' v cs := h.imp id fun ⟨k, x⟩ => ⟨k, x.ex hb⟩
theorem Kids.cs_mem {ks : Kids} {k : Value × List ByteArray} (h : k ∈ ks) : (flat k.2).size ≤ (flat ks.cs).size := by
  induction ks with
  | nil => cases h
  | cons x ks ih =>
    have e : (flat (Kids.cs (x :: ks))).size = (flat x.2).size + (flat (Kids.cs ks)).size := by
      unfold Kids.cs; rw [List.flatMap_cons, flat_size_app]
    rcases List.mem_cons.1 h with rfl | h
    · omega
    · have := ih h; omega
theorem Kids.cs_len {ks : Kids} {m : Nat} (h : ∀ k ∈ ks, m ≤ k.2.length) : ks.length * m ≤ ks.cs.length := by
  induction ks with
  | nil => simp
  | cons x ks ih =>
    have e : (Kids.cs (x :: ks)).length = x.2.length + (Kids.cs ks).length := by
      unfold Kids.cs; rw [List.flatMap_cons, List.length_append]
    have h1 := h x (List.mem_cons_self ..)
    have h2 := ih fun k hk => h k (List.mem_cons_of_mem _ hk)
    rw [List.length_cons, Nat.add_mul, e]
    omega
/-- A tree of height h has at least 2^h chunks. -/
theorem Kn.pow : ∀ {h : Nat} {w : World} {v : Value} {cs : List ByteArray}, Kn h w v cs → 2 ^ h ≤ cs.length
  | 0, _, _, _, ⟨g, s, e, e1, hf, hn⟩ => by rw [e1]; simp
  | h + 1, _, _, _, ⟨g, A, cap, ks, e, h2, h8, e1, hn, hr, hk⟩ => by
    have h1 : ks.length * 2 ^ h ≤ ks.cs.length := Kids.cs_len fun k hm => (hk k hm).pow
    have h3 : 2 * 2 ^ h ≤ ks.length * 2 ^ h := Nat.mul_le_mul_right _ h2
    rw [e1, Nat.pow_succ]
    omega
theorem Kn.fit : ∀ {h : Nat} {w : World} {v : Value} {cs : List ByteArray}, Kn h w v cs → ∀ x ∈ cs, fitsB x = true
  | 0, _, _, _, ⟨g, s, e, e1, hf, hn⟩ => by rw [e1]; intro x hx; rw [List.mem_singleton.1 hx]; exact hf
  | h + 1, _, _, _, ⟨g, A, cap, ks, e, h2, h8, e1, hn, hr, hk⟩ => by
    rw [e1]
    intro x hx
    obtain ⟨k, hm, hx⟩ := List.mem_flatMap.1 hx
    exact (hk k hm).fit x hx
theorem flat_many {cs : List ByteArray} (h : ∀ x ∈ cs, fitsB x = true) : cs.length ≤ (flat cs).size := by
  induction cs with
  | nil => simp
  | cons x cs ih =>
    have h1 := (fitsB_iff.1 (h x (List.mem_cons_self ..))).1
    have h2 := ih fun y hy => h y (List.mem_cons_of_mem _ hy)
    rw [flat, ByteArray.size_append, List.length_cons]
    omega
theorem Kn.small {h : Nat} {w : World} {v : Value} {cs : List ByteArray} (x : Kn h w v cs) (hs : (flat cs).size ≤ 100000) : h ≤ 100000 := by
  have h1 := x.pow
  have h2 := flat_many x.fit
  have h3 : h < 2 ^ h := Nat.lt_two_pow_self
  omega
theorem Kn.pos {h : Nat} {w : World} {v : Value} {cs : List ByteArray} (x : Kn h w v cs) : 1 ≤ cs.length := by
  have h1 := x.pow
  have h3 : h < 2 ^ h := Nat.lt_two_pow_self
  omega
set_option maxHeartbeats 400000 in
theorem none_calls {h : Nat} {v : Value} {cs : List ByteArray} (w : World) (x : Kn h w v cs) : Calls Try.prog 69 #[v] w fun e w' => e = .returned (.bool false) ∧ w' = w := by
  obtain ⟨g, s, A, n, cap, rfl, ⟨c0, c1, c2, c3, c4, c5⟩, h0, h1⟩ := x.nd
  clear x
  by_cases hz : h = 0
  · obtain ⟨hn, -, hf⟩ := h0 hz
    have h16 := fitsB_iff.1 hf
    have hem := empty_iff (s := s)
    rw [decide_eq_false (by omega)] at hem
    clear h0 h1 h16 hf hz hn
    go_enter Try.func69, Try.ntmps69
    go_wp2_with fail
    go_ret
    exact ⟨rfl, rfl⟩
  · obtain ⟨rfl, hn, _⟩ := h1 hz
    have hn0 : ((n : Int) == 0) = false := by rw [beq_eq_false_iff_ne]; omega
    clear h0 h1 hz
    go_enter Try.func69, Try.ntmps69
    go_wp2_with fail
    go_ret
    exact ⟨rfl, rfl⟩
theorem none_nil (w : World) : Calls Try.prog 69 #[.pointer none] w fun e w' => e = .returned (.bool true) ∧ w' = w := by
  go_enter Try.func69, Try.ntmps69
  go_wp2_with fail
  go_ret
  exact ⟨rfl, rfl⟩
set_option maxHeartbeats 400000 in
theorem height_calls {h : Nat} {v : Value} {cs : List ByteArray} (w : World) (x : Kn h w v cs) : Calls Try.prog 41 #[v] w fun e w' => e = .returned (.int .i64 (h : Int)) ∧ w' = w := by
  obtain ⟨g, s, A, n, cap, rfl, ⟨c0, c1, c2, c3, c4, c5⟩, -, -⟩ := x.nd
  have X := Lib.hid x
  clear x
  go_enter Try.func41, Try.ntmps41
  go_wp2_with fail
  refine (none_calls _ X.out).mono ?_
  rintro e w1 ⟨rfl, rfl⟩
  go_wp2_with fail
  go_ret
  exact ⟨rfl, rfl⟩
theorem height_nil (w : World) : Calls Try.prog 41 #[.pointer none] w fun e w' => e = .returned (.int .i64 (-1)) ∧ w' = w := by
  go_enter Try.func41, Try.ntmps41
  go_wp2_with fail
  refine (none_nil _).mono ?_
  rintro e w1 ⟨rfl, rfl⟩
  go_wp2_with fail
  go_ret
  exact ⟨rfl, rfl⟩
set_option maxHeartbeats 400000 in
theorem count_calls {h : Nat} {v : Value} {cs : List ByteArray} (w : World) (x : Kn h w v cs) : Calls Try.prog 47 #[v] w fun e w' => e = .returned (tally (flat cs)).agg ∧ Ex w w' := by
  obtain ⟨g, s, A, n, cap, rfl, ⟨c0, c1, c2, c3, c4, c5⟩, -, -⟩ := x.nd
  have X := Lib.hid (x.ex (ex_alloc (Ex.refl w) (.cells C3.zero.cs.toArray 67)))
  have H0 := Lib.hid (Blk.new w C3.zero.cs 67)
  have hX := ex_alloc (Ex.refl w) (.cells C3.zero.cs.toArray 67)
  have c1 := hX.cell c1
  have c2 := hX.cell c2
  have c3 := hX.cell c3
  have HX := Lib.hid hX
  clear x c0 c4 c5 hX
  generalize tally (flat cs) = c at *
  go_enter Try.func47, Try.ntmps47
  go_wp2_with fail
  refine (none_calls _ X.out).mono ?_
  rintro e w1 ⟨rfl, rfl⟩
  go_wp2_with (refine st_c3 rfl (.tmp 2) (.tmp 10) rfl w.heap.size C3.zero c rfl rfl H0.out w.heap.size HX.out (Nat.le_refl _) (by simp) ?_; intro w3 hk3 hX3 _; have H3 := Lib.hid hk3; clear hk3)
  (try simp only [Exit.inBlock, Exit.then])
  refine bodyPost_ret (ret_c3 rfl _ _ w.heap.size c rfl H3.out) rfl ?_
  exact ⟨rfl, hX3⟩
theorem count_nil (w : World) : Calls Try.prog 47 #[.pointer none] w fun e w' => e = .returned C3.zero.agg ∧ Ex w w' := by
  have H0 := Lib.hid (Blk.new w C3.zero.cs 67)
  have HX := Lib.hid (ex_alloc (Ex.refl w) (.cells C3.zero.cs.toArray 67))
  go_enter Try.func47, Try.ntmps47
  go_wp2_with fail
  refine (none_nil _).mono ?_
  rintro e w1 ⟨rfl, rfl⟩
  go_wp2_with (refine st_c3 rfl (.tmp 2) (.tmp 5) rfl w.heap.size C3.zero C3.zero rfl rfl H0.out w.heap.size HX.out (Nat.le_refl _) (by simp) ?_; intro w3 hk3 hX3 _; have H3 := Lib.hid hk3; clear hk3)
  (try simp only [Exit.inBlock, Exit.then])
  refine bodyPost_ret (ret_c3 rfl _ _ w.heap.size C3.zero rfl H3.out) rfl ?_
  exact ⟨rfl, hX3⟩
end Go.Proofs.Ytkckeogdijdohaa
