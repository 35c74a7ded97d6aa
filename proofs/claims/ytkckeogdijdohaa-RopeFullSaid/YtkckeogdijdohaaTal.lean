/- Walks: tally.Of and tally.Add. -/
import Derived.Test.YtkckeogdijdohaaUtfI
import Derived.Test.YtkckeogdijdohaaSto
namespace Go.Proofs.Ytkckeogdijdohaa
open Go.RowKit
/-- How many bytes, runes and line ends. -/
structure C3 where
  b : Int
  r : Int
  l : Int
def C3.cs (c : C3) : List Value := [.int .i64 c.b, .int .i64 c.r, .int .i64 c.l]
def C3.agg (c : C3) : Value := .agg #[.int .i64 c.b, .int .i64 c.r, .int .i64 c.l]
def C3.add (c d : C3) : C3 := ⟨c.b + d.b, c.r + d.r, c.l + d.l⟩
def C3.ok (c : C3) : Prop := 0 ≤ c.b ∧ c.b ≤ 1000000000 ∧ 0 ≤ c.r ∧ c.r ≤ 1000000000 ∧ 0 ≤ c.l ∧ c.l ≤ 1000000000
def C3.ok2 (c : C3) : Prop := 0 ≤ c.b ∧ c.b ≤ 10000000000 ∧ 0 ≤ c.r ∧ c.r ≤ 10000000000 ∧ 0 ≤ c.l ∧ c.l ≤ 10000000000
def C3.zero : C3 := ⟨0, 0, 0⟩
def tally (s : ByteArray) : C3 := ⟨s.size, (runeN s : Nat), (lineN s : Nat)⟩
theorem cnt_le (p : Nat → Bool) (s : ByteArray) : cnt p s ≤ s.size := by
  rw [← cntTo_all]; exact cntTo_le p s _
theorem tally_ok {s : ByteArray} (h : s.size ≤ 100000) : (tally s).ok := by
  have h1 : runeN s ≤ s.size := cnt_le _ s
  have h2 : lineN s ≤ s.size := cnt_le _ s
  simp only [C3.ok, tally]
  omega
theorem info_c3 : (Try.prog.info? 67).map (·.size) = some 3 := by kernel_rfl
theorem C3.one (c : C3) : ∀ v ∈ c.cs, v.oneCell' = true := by
  intro v hv
  simp only [C3.cs, List.mem_cons, List.not_mem_nil, or_false] at hv
  rcases hv with rfl | rfl | rfl <;> rfl
theorem spl3 (c d : C3) : spl c.cs 0 d.cs = d.cs := rfl
section
variable {w w0 : World} {ops : Array Oper} {rest : List Oper} {o : Oper} {a : Act} {Q : Exit → Act → World → Prop}
/-- A count is stored into a block of its own. -/
theorem st_c3 (hgd : o.guard = none) (x y : Operand) (ho : o.op = .store 67 x y) (g : Nat) (c d : C3) (hx : a.eval x = .pointer (some ⟨g, 0, none⟩)) (hy : a.eval y = d.agg) (hg : Blk w g 67 c.cs) (B : Nat) (hb : Below B w0 w) (hB : B ≤ g) (hBw : B ≤ w.heap.size)
    (K : ∀ w', Blk w' g 67 d.cs → Below B w0 w' → w.grownBy w' (some g) → wpList Try.prog ops Q rest (a.put o.dst undef) w') : wpList Try.prog ops Q (o :: rest) a w :=
  wpList_store_k hgd 67 x y ho d.agg g 0 c.cs 67 d.cs hx hy rfl info_c3 hg (Nat.le_refl _) d.one fun w' h1 h2 => K w' h1 (below_store hb hB hBw h2) h2
end
/-- A count as a result. -/
theorem ret_c3 {fn : Func} {p : Tmp} (h : fn.results = #[.cell p 67]) (tmps : Array Value) (w : World) (g : Nat) (c : C3) (hp : tmps.getD p undef = .pointer (some ⟨g, 0, none⟩)) (hg : Blk w g 67 c.cs) :
    (results fn tmps).run Try.prog w = .ok c.agg w := results_cell_row h tmps w g 67 c.cs.toArray (0, 0) _ hp hg Try.underlying67 rfl info_c3
set_option maxRecDepth 100000 in
set_option maxHeartbeats 400000 in
theorem tallyOf_calls (s : ByteArray) (w : World) (hs : s.size ≤ 100000) : Calls Try.prog 59 #[.string s] w fun e w' => e = .returned (tally s).agg ∧ Ex w w' := by
  have H0 := Lib.hid (Blk.new w C3.zero.cs 67)
  go_enter Try.func59, Try.ntmps59
  go_wp2_with fail
  refine (runes_calls _ _ hs).mono ?_
  rintro e w1 ⟨rfl, hb1⟩
  have H1 := Lib.hid (H0.out.ex hb1)
  have hX := ex_box (Ex.refl w) hb1
  go_wp2_with fail
  refine (lines_calls _ _ hs).mono ?_
  rintro e w2 ⟨rfl, hb2⟩
  have H2 := Lib.hid (H1.out.ex hb2)
  have hX2 := hX.trans hb2
  have hsz := hX2.size
  go_wp2_with (refine st_c3 rfl (.tmp 2) (.tmp 9) rfl w.heap.size C3.zero (tally s) rfl rfl H2.out w.heap.size hX2 (Nat.le_refl _) hsz ?_; intro w3 hk3 hX3 _; have H3 := Lib.hid hk3; clear hk3)
  (try simp only [Exit.inBlock, Exit.then])
  refine bodyPost_ret (ret_c3 rfl _ _ w.heap.size (tally s) rfl H3.out) rfl ?_
  exact ⟨rfl, hX3⟩
set_option maxRecDepth 100000 in
set_option maxHeartbeats 400000 in
theorem plus_calls (c d : C3) (w : World) (hc : c.ok2) (hd : d.ok2) : Calls Try.prog 89 #[c.agg, d.agg] w fun e w' => e = .returned (c.add d).agg ∧ Ex w w' := by
  obtain ⟨c1, c2, c3⟩ := c
  obtain ⟨d1, d2, d3⟩ := d
  simp only [C3.ok2] at hc hd
  unfold C3.agg C3.add
  go_enter Try.func89, Try.ntmps89
  go_wp2
  (try simp only [Exit.inBlock, Exit.then])
  refine bodyPost_ret (ret_c3 rfl _ _ (w.heap.size + 1 + 1) ⟨c1 + d1, c2 + d2, c3 + d3⟩ rfl ?_) rfl ?_
  · have h := Blk.new ((w.alloc (Obj.cells #[Value.int IntKind.i64 (c1 + d1), Value.int IntKind.i64 (c2 + d2), Value.int IntKind.i64 (c3 + d3)] 67)).alloc (Obj.cells #[Value.int IntKind.i64 d1, Value.int IntKind.i64 d2, Value.int IntKind.i64 d3] 67)) (C3.cs ⟨c1 + d1, c2 + d2, c3 + d3⟩) 67
    rw [World.size_alloc, World.size_alloc] at h
    exact h
  · exact ⟨rfl, ex_alloc (ex_alloc (ex_alloc (Ex.refl _) _) _) _⟩
theorem eql_c3 (w : World) (a b c a' b' c' : Int) : (binOp .eql 67 (.agg #[.int .i64 a, .int .i64 b, .int .i64 c]) (.agg #[.int .i64 a', .int .i64 b', .int .i64 c'])).run Try.prog w = .ok (.bool (decide (a = a' ∧ b = b' ∧ c = c'))) w := by
  rw [run_eql_struct]
  by_cases h1 : a = a' <;> by_cases h2 : b = b' <;> by_cases h3 : c = c' <;> simp [go_sem, h1, h2, h3]
theorem neq_c3 (w : World) (a b c a' b' c' : Int) : (binOp .neq 67 (.agg #[.int .i64 a, .int .i64 b, .int .i64 c]) (.agg #[.int .i64 a', .int .i64 b', .int .i64 c'])).run Try.prog w = .ok (.bool (!decide (a = a' ∧ b = b' ∧ c = c'))) w := by
  rw [run_neq_struct]
  by_cases h1 : a = a' <;> by_cases h2 : b = b' <;> by_cases h3 : c = c' <;> simp [go_sem, h1, h2, h3]
/-- Counts, added up. -/
def C3.sum : List C3 → C3
  | [] => C3.zero
  | c :: l => c.add (C3.sum l)
theorem C3.add_zero (c : C3) : c.add C3.zero = c := by cases c; simp [C3.add, C3.zero]
theorem C3.zero_add (c : C3) : C3.zero.add c = c := by cases c; simp [C3.add, C3.zero]
theorem C3.add_assoc (a b c : C3) : (a.add b).add c = a.add (b.add c) := by simp [C3.add, Int.add_assoc]
theorem tally_append (a b : ByteArray) : tally (a ++ b) = (tally a).add (tally b) := by
  have h : (a ++ b).data.toList = a.data.toList ++ b.data.toList := by
    rw [ByteArray.data_append]; simp
  have hc : ∀ p, cnt p (a ++ b) = cnt p a + cnt p b := fun p => by unfold cnt; rw [h, List.countP_append]
  simp only [tally, C3.add, ByteArray.size_append]
  have h1 : runeN (a ++ b) = runeN a + runeN b := hc _
  have h2 : lineN (a ++ b) = lineN a + lineN b := hc _
  rw [h1, h2]
  congr 1 <;> omega
/-- Two counts behind one another, as cells. -/
def two (c d : C3) : List Value := c.cs ++ d.cs
set_option maxRecDepth 100000 in
set_option maxHeartbeats 400000 in
theorem add_calls (c d : C3) (A : Option Addr) (cap : Nat) (w : World) (hc : c.ok) (hd : d.ok) (hr : Row w 3 A 2 (two c d)) : Calls Try.prog 70 #[.slice A 2 cap] w fun e w' => e = .returned (c.add d).agg ∧ Ex w w' := by
  obtain ⟨b, o, rfl, hcell⟩ := hr.2 (by omega)
  have hel : ∀ k (h : k < [c, d].length), [c, d][k].ok ∧ w.cell? ⟨b, o + k * 3, none⟩ = some (.int .i64 [c, d][k].b) ∧ w.cell? ⟨b, o + k * 3 + 1, none⟩ = some (.int .i64 [c, d][k].r) ∧ w.cell? ⟨b, o + k * 3 + 2, none⟩ = some (.int .i64 [c, d][k].l) := by
    intro k h
    have hk : k = 0 ∨ k = 1 := by simp at h; omega
    rcases hk with rfl | rfl
    · exact ⟨hc, hcell 0 _ rfl, hcell 1 _ rfl, hcell 2 _ rfl⟩
    · exact ⟨hd, hcell 3 _ rfl, hcell 4 _ rfl, hcell 5 _ rfl⟩
  have HE := Lib.hid hel
  have HC := Lib.hid (show c.ok2 from by unfold C3.ok at hc; unfold C3.ok2; omega)
  have HD := Lib.hid (show (c.add d).ok2 from by unfold C3.ok at hc hd; unfold C3.ok2 C3.add; simp only []; omega)
  have hB0 : Blk ((w.alloc (.cells #[.int .i64 0, .int .i64 0, .int .i64 0] 67)).alloc (.cells #[.int .i64 0, .int .i64 0, .int .i64 0] 67)) (w.heap.size + 1) 67 C3.zero.cs := by
    have h := Blk.new (w.alloc (.cells #[.int .i64 0, .int .i64 0, .int .i64 0] 67)) C3.zero.cs 67
    rw [World.size_alloc] at h
    exact h
  have hB1 : Blk ((w.alloc (.cells #[.int .i64 0, .int .i64 0, .int .i64 0] 67)).alloc (.cells #[.int .i64 0, .int .i64 0, .int .i64 0] 67)) w.heap.size 67 C3.zero.cs :=
    (Blk.new w C3.zero.cs 67).ex (ex_alloc (Ex.refl _) _)
  have HB0 := Lib.hid hB0
  have HB1 := Lib.hid hB1
  clear hcell hel hr hc hd hB0 hB1
  go_enter Try.func70, Try.ntmps70
  go_wp2_with fail
  go_loopw [5, 8] (fun _ v8 wr => ∃ k : Nat, k ≤ [c, d].length ∧ v8 = .int .i64 (k : Int) ∧ (C3.sum ([c, d].take k)).ok2 ∧ Blk wr (w.heap.size + 1) 67 (C3.sum ([c, d].take k)).cs ∧ Blk wr w.heap.size 67 C3.zero.cs ∧ Ex w wr) (fun _ v8 _ => [c, d].length - (intOf v8).toNat)
  case atStart => exact ⟨0, by simp, rfl, by simp [C3.sum, C3.zero, C3.ok2], HB0.out, HB1.out, ex_alloc (ex_alloc (Ex.refl _) _) _⟩
  case round =>
    obtain ⟨k, hk, rfl, hok, hk1, hk0, hb⟩ := hrel
    have HK1 := Lib.hid hk1
    have HK0 := Lib.hid hk0
    have HO := Lib.hid hok
    have hlt0 := hk1.lt
    clear hk1 hk0 hok
    by_cases hlt : k < [c, d].length
    · obtain ⟨hok, p0, p1, p2⟩ := HE.out k hlt
      have hsum : Hid (C3.sum ([c, d].take (k + 1)) = (C3.sum ([c, d].take k)).add [c, d][k]) := Lib.hid (by
        have hk : k = 0 ∨ k = 1 := by simp at hlt; omega
        rcases hk with rfl | rfl
        · simp [C3.sum, C3.add_zero, C3.zero_add]
        · simp [C3.sum, C3.add_zero])
      have hs1 : Hid (C3.sum ([c, d].take (k + 1))).ok2 := Lib.hid (by
        have hk : k = 0 ∨ k = 1 := by simp at hlt; omega
        rcases hk with rfl | rfl
        · simpa [C3.sum, C3.add_zero] using HC.out
        · simpa [C3.sum, C3.add_zero] using HD.out)
      generalize [c, d][k] = e at hok p0 p1 p2 hsum
      have p0 := hb.cell p0
      have p1 := hb.cell p1
      have p2 := hb.cell p2
      obtain ⟨m, hm⟩ : ∃ m, m = C3.sum ([c, d].take k) := ⟨_, rfl⟩
      rw [← hm] at HK1 HO hsum
      have HS := Lib.hid hsum.out
      have hmo := HO.out
      have s0 : wr.cell? ⟨w.heap.size + 1, 0, none⟩ = some (.int .i64 m.b) := by rw [HK1.out.cell]; rfl
      have s1 : wr.cell? ⟨w.heap.size + 1, 1, none⟩ = some (.int .i64 m.r) := by rw [HK1.out.cell]; rfl
      have s2 : wr.cell? ⟨w.heap.size + 1, 2, none⟩ = some (.int .i64 m.l) := by rw [HK1.out.cell]; rfl
      have hlt2 : k < 2 := by simpa using hlt
      have heq := fun (w : World) (a b c a' b' c' : Int) => neq_c3 w a b c a' b' c'
      clear hm hsum
      by_cases hz : e.b = 0 ∧ e.r = 0 ∧ e.l = 0
      · have HZ := Lib.hid (show e = C3.zero from by cases e; simp only [C3.zero, C3.mk.injEq]; exact hz)
        have hz' : decide (e.b = 0 ∧ e.r = 0 ∧ e.l = 0) = true := decide_eq_true hz
        clear hz
        have HK2 := Lib.hid (HK1.out.ex (ex_alloc (Ex.refl wr) (.cells #[.int .i64 e.b, .int .i64 e.r, .int .i64 e.l] 67)))
        have HK3 := Lib.hid (HK0.out.ex (ex_alloc (Ex.refl wr) (.cells #[.int .i64 e.b, .int .i64 e.r, .int .i64 e.l] 67)))
        have HSZ := Lib.hid (show C3.sum ([c, d].take (k + 1)) = m from by rw [HS.out, HZ.out, C3.add_zero])
        go_wp2_with fail
        exact ⟨⟨k + 1, by omega, by go_num, hs1.out, by rw [HSZ.out]; exact HK2.out, HK3.out, ex_alloc hb _⟩, by simp [intOf]; omega⟩
      · have hz' : decide (e.b = 0 ∧ e.r = 0 ∧ e.l = 0) = false := decide_eq_false hz
        clear hz
        have he2 : e.ok2 := by unfold C3.ok at hok; unfold C3.ok2; omega
        go_wp2_with fail
        refine (plus_calls m e _ hmo he2).mono ?_
        rintro e' w2 ⟨rfl, hb2⟩
        have hX2 := ex_box hb hb2
        have hW := Ex.trans (ex_alloc (Ex.refl wr) _) hb2
        have HK2 := Lib.hid (HK1.out.ex hW)
        have HK3 := Lib.hid (HK0.out.ex hW)
        have hsz := hW.size
        clear hW
        go_wp2_with (refine st_c3 rfl (.tmp 3) (.tmp 17) rfl (w.heap.size + 1) m (m.add e) rfl rfl HK2.out w.heap.size hX2 (by omega) (by omega) ?_; intro w3 hk3 hX3 hg3; have H3 := Lib.hid hk3; have H4 := Lib.hid (HK3.out.grown hg3 (by simp)); clear hk3 hg3)
        exact ⟨⟨k + 1, by omega, by go_num, hs1.out, by rw [HS.out]; exact H3.out, H4.out, hX3⟩, by simp [intOf]; omega⟩
    · have hk' : k = 2 := by simp at hlt hk; omega
      subst hk'
      have hsum : C3.sum ([c, d].take 2) = c.add d := by simp [C3.sum, C3.add_zero]
      obtain ⟨m, hm⟩ : ∃ m, m = c.add d := ⟨_, rfl⟩
      have HM := Lib.hid hm
      rw [hsum, ← hm] at HK1
      have s0 : wr.cell? ⟨w.heap.size + 1, 0, none⟩ = some (.int .i64 m.b) := by rw [HK1.out.cell]; rfl
      have s1 : wr.cell? ⟨w.heap.size + 1, 1, none⟩ = some (.int .i64 m.r) := by rw [HK1.out.cell]; rfl
      have s2 : wr.cell? ⟨w.heap.size + 1, 2, none⟩ = some (.int .i64 m.l) := by rw [HK1.out.cell]; rfl
      clear hsum hm
      go_wp2_with (refine st_c3 rfl (.tmp 2) (.tmp 19) rfl w.heap.size C3.zero m rfl rfl HK0.out w.heap.size hb (Nat.le_refl _) (by omega) ?_; intro w3 hk3 hX3 _; have H3 := Lib.hid hk3; clear hk3)
      (try simp only [Exit.inBlock, Exit.then])
      refine bodyPost_ret (ret_c3 rfl _ _ w.heap.size m rfl H3.out) rfl ?_
      exact ⟨by rw [HM.out], hX3⟩
end Go.Proofs.Ytkckeogdijdohaa
