/- Walks through channels in one goroutine: the walk's predicate for frames that are no early ones; the law of a region that communicates. No program is named here. -/
import Derived.Conc.LoneCalls
import Derived.Conc.LoneSelectN
import Derived.Test.YtomfcgeibbicoaaGreatBase
import Derived.Conc.SmallLaws
import Derived.Test.YtomfcgeibbicoaaGreatRun
import Derived.Test.YtomfcgeibbicoaaGreatOff
import Derived.Test.YtomfcgeibbicoaaGreatPc0
import Derived.Test.YtomfcgeibbicoaaGreatProg
import Derived.RegionTactic
import Derived.ChangeAlike
import Derived.Laws.ResultCell
import Derived.Test.YtomfcgeibbicoaaGreatDkL
import Derived.Test.YtomfcgeibbicoaaGreatDkO
namespace Go.Proofs.YtomfcgeibbicoaaGreat
open Go.RowKit Go.Conc
/-- As the walk's own predicate, asked of a called function's frames alone. -/
def WpN (P : Program) (c : Code) (Q : Exit → Act → World → Prop) (a : Act) (w : World) : Prop :=
  ∀ b : Frame, b.kind = .normal → ∀ (k : List Item) (cs : List Frame), ∃ e a' w', Q e a' w' ∧ Arrives P (lone (b.at a (.code c :: k)) cs w) b k cs e a' w'
/-- The same within a region. -/
def RegN (P : Program) (ops : Array Oper) (l : List Nat) (Q : Exit → Act → World → Prop) (a : Act) (w : World) : Prop :=
  ∀ b : Frame, b.kind = .normal → ∀ (k : List Item) (cs : List Frame), ∃ e a' w', Q e a' w' ∧ Arrives P (lone (b.at a (.inRegion ops l :: k)) cs w) b k cs e a' w'
section
variable {P : Program} {Q : Exit → Act → World → Prop} {a : Act} {w : World} {c x y : Code} {ops : Array Oper}
theorem WpN.of (h : c.wp P Q a w) : WpN P c Q a w := fun b _ k cs => h b k cs
theorem RegN.of {l : List Nat} (h : wpOps P ops Q l a w) : RegN P ops l Q a w := fun b _ k cs => wp_ops l a w h b k cs
/-- What arrives at an exit other than the normal one passes a code that waits. -/
theorem pass_code {m : Machine} {b : Frame} {k : List Item} {cs : List Frame} {e : Exit} {a' : Act} {w' : World} {i : Item} (hi : i.plain = true) (he : e ≠ .normal) (h : Arrives P m b (i :: k) cs e a' w') : Arrives P m b k cs e a' w' :=
  .pass (x := i) hi (fun _ _ => .inl he) h
theorem WpN.seq (h : WpN P x (Exit.then (WpN P y Q) Q) a w) : WpN P (.seq x y) Q a w := by
  intro b hb k cs
  obtain ⟨e, a₁, w₁, hq, harr⟩ := h b hb (.code y :: k) cs
  by_cases he : e = .normal
  · subst he
    obtain ⟨e₂, a₂, w₂, hq₂, harr₂⟩ := hq b hb k cs
    exact ⟨e₂, a₂, w₂, hq₂, .of_steps (.head step_seq harr) harr₂⟩
  · refine ⟨e, a₁, w₁, ?_, .of_steps (.one step_seq) (pass_code (i := .code y) rfl he harr)⟩
    cases e <;> first | exact hq | exact absurd rfl he
theorem WpN.cond {t : Operand} {v : Bool} (hc : a.eval t = .bool v) (h : WpN P (if v then x else y) Q a w) : WpN P (.cond t x y) Q a w := fun b hb k cs => by
  obtain ⟨e, a', w', q, r⟩ := h b hb k cs
  exact ⟨e, a', w', q, .of_steps (.one (step_cond hc)) r⟩
theorem WpN.block {id : Nat} (h : WpN P c (Exit.inBlock id Q) a w) : WpN P (.block id c) Q a w := by
  intro b hb k cs
  obtain ⟨e, a₁, w₁, hq, harr⟩ := h b hb (.inBlock id :: k) cs
  cases e with
  | normal => exact ⟨.normal, a₁, w₁, hq, .head step_block (Steps.trans harr (.one step_inBlock))⟩
  | exit id' =>
    by_cases hid : id' = id
    · simp only [Exit.inBlock, hid, if_true] at hq
      exact ⟨.normal, a₁, w₁, hq, .head step_block (harr k (by simp [exitTo, hid]))⟩
    · simp only [Exit.inBlock, hid, if_false] at hq
      refine ⟨.exit id', a₁, w₁, hq, fun k' hk => .head step_block (harr k' ?_)⟩
      have hne : (id == id') = false := by simp; exact fun h => hid h.symm
      simp [exitTo, hne, hk]
  | goto l => exact ⟨_, a₁, w₁, hq, fun k' hk => .head step_block (harr k' (by simp [gotoIn, hk]))⟩
  | ret => exact ⟨_, a₁, w₁, hq, .of_steps (.one step_block) harr⟩
  | panic ch => exact ⟨_, a₁, w₁, hq, .of_steps (.one step_block) harr⟩
  | outgrown => exact ⟨_, a₁, w₁, hq, .of_steps (b := b) (k := k) (cs := cs) (e := .outgrown) (.one step_block) harr⟩
theorem WpN.loop (I : Act → World → Prop) (μ : Act → World → Nat) (h₀ : I a w) (round : ∀ a w, I a w → WpN P c (Exit.then (fun a' w' => I a' w' ∧ μ a' w' < μ a w) Q) a w) : WpN P (.loop c) Q a w := by
  intro b hb k cs
  have key : ∀ n a w, μ a w = n → I a w → ∃ e a' w', Q e a' w' ∧ Arrives P (lone (b.at a (.code c :: .inLoop c :: k)) cs w) b k cs e a' w' := by
    intro n
    induction n using Nat.strongRecOn with
    | _ n ih =>
      intro a w hn hI
      obtain ⟨e, a₁, w₁, hq, harr⟩ := round a w hI b hb (.inLoop c :: k) cs
      by_cases he : e = .normal
      · subst he
        obtain ⟨hI₁, hlt⟩ := hq
        obtain ⟨e₂, a₂, w₂, hq₂, harr₂⟩ := ih (μ a₁ w₁) (hn ▸ hlt) a₁ w₁ rfl hI₁
        exact ⟨e₂, a₂, w₂, hq₂, .of_steps (Steps.trans harr (.one step_inLoop)) harr₂⟩
      · refine ⟨e, a₁, w₁, ?_, pass_code (i := .inLoop c) rfl he harr⟩
        cases e <;> first | exact hq | exact absurd rfl he
  obtain ⟨e, a', w', hq, harr⟩ := key _ a w rfl h₀
  exact ⟨e, a', w', hq, .of_steps (.one step_loop) harr⟩
theorem WpN.region {id : Nat} (h : RegN P ops (List.range ops.size) Q a w) : WpN P (.region id ops false) Q a w := fun b hb k cs => by
  obtain ⟨e, a', w', q, r⟩ := h b hb k cs
  exact ⟨e, a', w', q, .of_steps (.one step_region) r⟩
theorem RegN.done (h : Q .normal a w) : RegN P ops [] Q a w := fun _ _ _ _ => ⟨.normal, a, w, h, .one step_region_end⟩
/-- An operation that gives a value. -/
theorem RegN.val {i : Nat} {rest : List Nat} {o : Oper} {v : Value} {w' : World} (ho : ops[i]? = some o) (hw : Region.wanted o (yielded ops a.tmps) = true) (hr : (execOp a.eval o).run P w = .ok (.value v) w') (h : RegN P ops rest Q (a.put o.dst v) w') : RegN P ops (i :: rest) Q a w := fun b hb k cs => by
  obtain ⟨e, a', w'', hq, harr⟩ := h b hb k cs
  have hfin : (b.at a (.inRegion ops (i :: rest) :: k)).finish v = b.at (a.put o.dst v) (.inRegion ops rest :: k) := by rw [Frame.finish_at, ho]; rfl
  refine ⟨e, a', w'', hq, .of_steps (.one (step_lone_go ?_)) harr⟩
  rw [stepG_op ho hw, ← hfin]
  simp [stepG.apply, hr]
/-- An operation that communicates; the step that the machine takes. -/
theorem RegN.comm {i : Nat} {rest : List Nat} {o : Oper} {v : Value} {w' : World} (ho : ops[i]? = some o) (hs : ∀ (b : Frame) (k : List Item) (cs : List Frame), b.kind = .normal → step P (solo (G (b.at a (.inRegion ops (i :: rest) :: k)) cs) w) = .next (solo (G ((b.at a (.inRegion ops (i :: rest) :: k)).finish v) cs) w')) (h : RegN P ops rest Q (a.put o.dst v) w') : RegN P ops (i :: rest) Q a w := fun b hb k cs => by
  obtain ⟨e, a', w'', hq, harr⟩ := h b hb k cs
  have hfin : (b.at a (.inRegion ops (i :: rest) :: k)).finish v = b.at (a.put o.dst v) (.inRegion ops rest :: k) := by rw [Frame.finish_at, ho]; rfl
  have h1 := hs b k cs hb
  rw [hfin] at h1
  exact ⟨e, a', w'', hq, .of_steps (.one h1) harr⟩
/-- A send into a buffer with room. -/
theorem RegN.send {i : Nat} {rest : List Nat} {o : Oper} {ch cap s r : Nat} {buf : Array Value} {tm : Bool} {v z : Value} (ho : ops[i]? = some o) (hw : Region.wanted o (yielded ops a.tmps) = true) (hr : (execOp a.eval o).run P w = .ok (.comm #[scase ch v z] true .send) w) (hc : w.heap[ch]? = some (.chan cap buf false s r tm)) (hroom : buf.size < cap)
    (h : RegN P ops rest Q (a.put o.dst undef) (w.setChan ch cap (buf.push v) false (s + 1) r tm)) : RegN P ops (i :: rest) Q a w :=
  RegN.comm ho (fun _ _ _ hb => step_lone_send_room (stepG_comm ho hw (by rw [hb]; decide) hr) hc hroom) h
/-- A select: case k, a receive whose buffer holds something; no other case can proceed. -/
theorem RegN.sel_recv {i : Nat} {rest : List Nat} {o : Oper} {cases : Array CommCase} {blocking : Bool} (k : Nat) {ch cap s r : Nat} {buf : Array Value} {closed tm : Bool} {z : Value} (ho : ops[i]? = some o) (hw : Region.wanted o (yielded ops a.tmps) = true) (hr : (execOp a.eval o).run P w = .ok (.comm cases blocking .select) w) (hk : cases[k]? = some (rcase ch z)) (hno : ∀ (m : Nat) (c' : CommCase), m ≠ k → cases[m]? = some c' → NoWay w c') (hc : w.heap[ch]? = some (.chan cap buf closed s r tm)) (hsome : 0 < buf.size)
    (h : RegN P ops rest Q (a.put o.dst (commResult cases .select k (buf.getD 0 undef) true)) (w.setChan ch cap (buf.extract 1 buf.size) closed s (r + 1) tm)) : RegN P ops (i :: rest) Q a w :=
  RegN.comm ho (fun _ _ _ hb => step_lone_sel_recv_buf (stepG_comm ho hw (by rw [hb]; decide) hr) hk hno hc hsome) h
/-- A select: case k, a receive from a closed, empty channel. -/
theorem RegN.sel_shut {i : Nat} {rest : List Nat} {o : Oper} {cases : Array CommCase} {blocking : Bool} (k : Nat) {ch cap s r : Nat} {tm : Bool} {z : Value} (ho : ops[i]? = some o) (hw : Region.wanted o (yielded ops a.tmps) = true) (hr : (execOp a.eval o).run P w = .ok (.comm cases blocking .select) w) (hk : cases[k]? = some (rcase ch z)) (hno : ∀ (m : Nat) (c' : CommCase), m ≠ k → cases[m]? = some c' → NoWay w c') (hc : w.heap[ch]? = some (.chan cap #[] true s r tm))
    (h : RegN P ops rest Q (a.put o.dst (commResult cases .select k z false)) w) : RegN P ops (i :: rest) Q a w :=
  RegN.comm ho (fun _ _ _ hb => step_lone_sel_recv_shut (stepG_comm ho hw (by rw [hb]; decide) hr) hk hno hc) h
/-- A select: case k, a send with room. -/
theorem RegN.sel_send {i : Nat} {rest : List Nat} {o : Oper} {cases : Array CommCase} {blocking : Bool} (k : Nat) {ch cap s r : Nat} {buf : Array Value} {tm : Bool} {v z : Value} (ho : ops[i]? = some o) (hw : Region.wanted o (yielded ops a.tmps) = true) (hr : (execOp a.eval o).run P w = .ok (.comm cases blocking .select) w) (hk : cases[k]? = some (scase ch v z)) (hno : ∀ (m : Nat) (c' : CommCase), m ≠ k → cases[m]? = some c' → NoWay w c') (hc : w.heap[ch]? = some (.chan cap buf false s r tm)) (hroom : buf.size < cap)
    (h : RegN P ops rest Q (a.put o.dst (commResult cases .select k undef false)) (w.setChan ch cap (buf.push v) false (s + 1) r tm)) : RegN P ops (i :: rest) Q a w :=
  RegN.comm ho (fun _ _ _ hb => step_lone_sel_send_room (stepG_comm ho hw (by rw [hb]; decide) hr) hk hno hc hroom) h
/-- A select of which no case can proceed: the default. -/
theorem RegN.sel_default {i : Nat} {rest : List Nat} {o : Oper} {cases : Array CommCase} (ho : ops[i]? = some o) (hw : Region.wanted o (yielded ops a.tmps) = true) (hr : (execOp a.eval o).run P w = .ok (.comm cases false .select) w) (hno : ∀ cc ∈ cases, NoWay w cc)
    (h : RegN P ops rest Q (a.put o.dst (commResult cases .select (-1) undef false)) w) : RegN P ops (i :: rest) Q a w :=
  RegN.comm ho (fun _ _ _ hb => step_lone_sel_default (stepG_comm ho hw (by rw [hb]; decide) hr) hno) h
/-- A function whose body was so walked. -/
theorem calls_of_wpN {f : FuncId} {fn : Func} {args : Array Value} {R : Ending → World → Prop} (hf : P.funcs[f]? = some fn) (hb : fn.body = some c)
    (h : WpN P c (bodyPost P fn R) { tmps := args ++ Array.replicate (fn.ntmps - args.size) undef, defers := [] } w) : Calls P f args w R := by
  intro cs
  have henter : Frame.enter P f args .normal = ({ (default : Frame) with fn := f, kind := .normal } : Frame).at { tmps := args ++ Array.replicate (fn.ntmps - args.size) undef, defers := [] } [.code c] := by
    simp [Frame.enter, Frame.at, hf, hb]
  obtain ⟨e, a', w', hq, harr⟩ := h { (default : Frame) with fn := f, kind := .normal } rfl [] cs
  rw [← henter] at harr
  cases e with
  | normal =>
    obtain ⟨hd, v, hr, hR⟩ := hq
    exact ⟨.returned v, w', _, hR, Steps.trans harr (.one step_end), rfl, rfl, hd, rfl, fn, hf, hr⟩
  | ret =>
    obtain ⟨hd, v, hr, hR⟩ := hq
    obtain ⟨todo, hs⟩ := harr
    exact ⟨.returned v, w', _, hR, hs, rfl, rfl, hd, rfl, fn, hf, hr⟩
  | panic chain =>
    obtain ⟨hd, hR⟩ := hq
    obtain ⟨todo, hs⟩ := harr
    exact ⟨.panicked chain, w', _, hR, hs, rfl, rfl, hd, fn, hf⟩
  | exit id => exact hq.elim
  | goto l => exact hq.elim
  | outgrown => exact ⟨.outgrown, w', { (default : Frame) with fn := f, kind := .normal }, hq, harr.resolve_left (by simp), rfl, trivial⟩
end
end Go.Proofs.YtomfcgeibbicoaaGreat
namespace Go.Proofs.YtomfcgeibbicoaaGreat
open Go.RowKit Go.Conc
theorem bytesS : ∃ i, Tryz.prog.info? 9 = some i ∧ i.bytes = 16 := by
  have h : (Tryz.prog.info? 9).map (·.bytes) = some 16 := by kernel_rfl
  obtain ⟨i, hi, hb⟩ := Option.map_eq_some_iff.1 h
  exact ⟨i, hi, hb⟩
theorem mkS (n : Nat) (hn : n ≤ 1000000) (w : World) : (Instr.makeChan 185 (.int .i64 (n : Int))).run Tryz.prog w = .ok (.chan (some w.heap.size)) (w.alloc (.chan n #[] false 0 0 false)) := by
  obtain ⟨i, hi, hb⟩ := bytesS
  exact run_makeChan (P := Tryz.prog) (w := w) Tryz.underlying185 hi .i64 n (by omega) (by rw [hb]; omega)
set_option maxHeartbeats 2000000 in
set_option maxRecDepth 100000 in
theorem queue_calls (A : Option Addr) (c : Nat) (l : List ByteArray) (w : World) (hr : Row w 1 A l.length (l.map Value.string)) (hl : l.length ≤ 1000000) :
    Calls Tryz.prog 57 #[.slice A l.length c] w fun e w' => ∃ b, e = .returned (.chan (some b)) ∧ w.heap.size ≤ b ∧ w'.heap[b]? = some (.chan l.length (l.map Value.string).toArray true l.length 0 false) ∧ Ex w w' := by
  have HR := Lib.hid hr
  have hmc := mkS l.length hl
  clear hr
  refine calls_of_wpN (fn := Tryz.f57) Tryz.func57 rfl ?_
  rw [Tryz.ntmps57, show (#[Value.slice A l.length c] ++ Array.replicate (20 - (#[Value.slice A l.length c] : Array Value).size) undef : Array Value) = #[.slice A l.length c, undef, undef, undef, undef, undef, undef, undef, undef, undef, undef, undef, undef, undef, undef, undef, undef, undef, undef, undef] from by rw [← Array.toList_inj]; simp [List.replicate]]
  (refine WpN.seq (WpN.of ?_); go_wp2)
  (refine WpN.seq (WpN.of ?_); go_wp2)
  refine WpN.seq ?_
  (refine WpN.seq (WpN.of ?_); go_wp2)
  have hX0 := ex_alloc (Ex.refl w) (.chan l.length #[] false 0 0 false)
  have hc0 : (w.alloc (.chan l.length #[] false 0 0 false)).heap[w.heap.size]? = some (.chan l.length ((l.take 0).map Value.string).toArray false 0 0 false) := heap_alloc_new w _
  have HX0 := Lib.hid hX0
  have HC0 := Lib.hid hc0
  clear hX0 hc0
  generalize w.alloc (.chan l.length #[] false 0 0 false) = W at *
  clear hmc
  refine WpN.block (WpN.loop (fun a wr => ∃ (k : Nat) (u5 u12 u13 u14 u15 u16 u17 : Value), k ≤ l.length ∧ a = ⟨#[.slice A l.length c, undef, .chan none, .chan (some w.heap.size), undef, u5, .slice A l.length c, .int .i64 (l.length : Int), .chan (some w.heap.size), .slice A l.length c, .int .i64 (l.length : Int), .int .i64 (k : Int), u12, u13, u14, u15, u16, u17, undef, undef], []⟩ ∧ wr.heap[w.heap.size]? = some (.chan l.length ((l.take k).map Value.string).toArray false k 0 false) ∧ Ex w wr) (fun a _ => l.length - (intOf (a.tmps.getD 11 undef)).toNat) ⟨0, _, _, _, _, _, _, _, Nat.zero_le _, rfl, HC0.out, HX0.out⟩ ?_)
  rintro a wr ⟨k, u5, u12, u13, u14, u15, u16, u17, hk, rfl, hch, hX⟩
  have HCH := Lib.hid hch
  have HX := Lib.hid hX
  clear hch hX HX0 HC0
  by_cases hlt : k < l.length
  · have hkI : (k : Int) < (l.length : Int) := by omega
    have d0 : decide ((k : Int) < (l.length : Int)) = true := decide_eq_true hkI
    have hk0 : (0 : Int) ≤ (k : Int) := by omega
    have hkn : ((k : Int)).toNat = k := by omega
    have hkw : IntKind.i64.wrap ((k : Int) + 1) = (k : Int) + 1 := IntWalk.i64_in _ (by omega)
    obtain ⟨ab, ao, rfl, c0⟩ := row_at (HR.out.ex HX.out) (k := k) (v := .string l[k]) (by rw [List.getElem?_map, List.getElem?_eq_getElem hlt]; rfl)
    have HTK := Lib.hid (List.take_succ_eq_append_getElem hlt)
    generalize l[k] = s at *
    (refine WpN.seq (WpN.of ?_); go_wp2)
    (refine WpN.seq (WpN.of ?_); go_wp2)
    refine WpN.seq (WpN.block ?_)
    (refine WpN.seq (WpN.of ?_); go_wp2)
    refine WpN.region ?_
    show RegN _ _ [0, 1, 2] _ _ _
    refine RegN.val rfl (by simp [Region.wanted]) (w' := wr) (v := .chan (some w.heap.size)) (by simp [execOp, Act.eval]) ?_
    refine RegN.val rfl (by simp [Region.wanted]) (w' := wr) (v := .string s) (by simp [execOp, Act.eval, Act.put]) ?_
    have hroom : ((l.take k).map Value.string).toArray.size < l.length := by simp; omega
    refine RegN.send rfl (by simp [Region.wanted]) (ch := w.heap.size) (v := .string s) (z := .tuple #[]) (by simp [execOp, scase, Act.eval, Act.put]) HCH.out hroom ?_
    refine RegN.done ?_
    simp only [Act.put]
    show WpN _ _ _ _ _
    refine WpN.of ?_
    have hX2 := below_setChan HX.out (Nat.le_refl w.heap.size) l.length (((l.take k).map Value.string).toArray.push (.string s)) false (k + 1) 0 false
    have hC2 := heap_setChan wr w.heap.size l.length (((l.take k).map Value.string).toArray.push (.string s)) false (k + 1) 0 false (by have := Array.getElem?_eq_some_iff.1 HCH.out; exact this.1)
    have HX2 := Lib.hid hX2
    have HC2 := Lib.hid hC2
    clear hX2 hC2
    generalize wr.setChan w.heap.size l.length (((l.take k).map Value.string).toArray.push (.string s)) false (k + 1) 0 false = W2 at *
    go_wp2
    refine ⟨⟨k + 1, _, _, _, _, _, _, _, by omega, by rw [show (((k + 1 : Nat)) : Int) = (k : Int) + 1 from Int.natCast_add _ _], ?_, HX2.out⟩, by simp [intOf]; omega⟩
    rw [HC2.out, HTK.out, List.map_append]
    simp
  · have hkl : k = l.length := by omega
    have d0 : decide ((k : Int) < (l.length : Int)) = false := decide_eq_false (by omega)
    have HTK := Lib.hid (show l.take k = l from by rw [hkl, List.take_length])
    have hch := HCH.out
    rw [HTK.out] at hch
    have HKL := Lib.hid hkl
    have hcl := fun ats ty => run_close_open (P := Tryz.prog) (w := wr) ats ty hch
    have hX2 := below_setChan HX.out (Nat.le_refl w.heap.size) l.length (l.map Value.string).toArray true k 0 false
    have hC2 := heap_setChan wr w.heap.size l.length (l.map Value.string).toArray true k 0 false (Array.getElem?_eq_some_iff.1 hch).1
    have HX2 := Lib.hid hX2
    have HC2 := Lib.hid hC2
    clear hkl hX2 hC2 hch
    (refine WpN.seq (WpN.of ?_); go_wp2)
    refine WpN.seq (WpN.of ?_)
    go_wp2
    refine WpN.of ?_
    go_wp2
    go_ret
    have hC := HC2.out
    rw [show Obj.chan l.length (l.map Value.string).toArray true k 0 false = Obj.chan l.length (l.map Value.string).toArray true l.length 0 false from by rw [HKL.out]] at hC
    exact ⟨_, rfl, Nat.le_refl _, hC, HX2.out⟩
end Go.Proofs.YtomfcgeibbicoaaGreat
namespace Go.Proofs.YtomfcgeibbicoaaGreat
open Go.RowKit Go.Conc Go.Maps
/-- Files go: how many went, the error. -/
def DkV.rems : DkV → List ByteArray → Nat → DkV × Nat × Int
  | Q, [], n => if n = 0 then (Q, 0, 0) else (Q.syncAll.1, n, Q.syncAll.2)
  | Q, s :: r, n => if (Q.remove s).2 = 0 then DkV.rems (Q.remove s).1 r (n + 1) else if (Q.remove s).2 = 8 then DkV.rems (Q.remove s).1 r n else ((Q.remove s).1, n, (Q.remove s).2)
set_option maxHeartbeats 2000000 in
set_option maxRecDepth 100000 in
theorem last_calls {w : World} {g : Nat} {F : Nat → Prop} {Q : DkV} (h : DkP w g F Q) {M : Nat} (ho : Q.Ok M) (hM : M ≤ 800000) (n : Nat) :
    Calls Tryz.prog 58 #[ptrV g, .int .i64 (n : Int)] w fun e w' => e = .returned (.int .i64 (if n = 0 then 0 else Q.syncAll.2)) ∧ DkP w' g (Fresh F w w') (if n = 0 then Q else Q.syncAll.1) ∧ Off F w w' := by
  have H := Lib.hid h
  have HO := Lib.hid ho
  clear h ho
  by_cases h0 : n = 0
  · subst h0
    rw [if_pos rfl, if_pos rfl]
    have HE := Lib.hid (H.out.more (G := Fresh F w w) Fresh.same)
    go_enter Tryz.func58, Tryz.ntmps58
    go_wp2_with fail
    go_ret
    exact ⟨rfl, HE.out, Off.refl _ _⟩
  · rw [if_neg h0, if_neg h0]
    have d0 : decide ((n : Int) = 0) = false := decide_eq_false (by omega)
    have e0 : ((n : Int) == 0) = false := beq_eq_false_iff_ne.2 (by omega)
    have hC := dsyncAll_calls H.out HO.out hM
    have HC := Lib.hid hC
    clear hC h0
    obtain ⟨Q', qe, hq⟩ : ∃ Q' qe, Q.syncAll = (Q', qe) := ⟨_, _, rfl⟩
    rw [hq] at HC ⊢
    clear hq
    go_enter Tryz.func58, Tryz.ntmps58
    go_wp2_with fail
    refine HC.out.mono ?_
    rintro e w1 ⟨rfl, hd, ho1⟩
    go_wp2_with fail
    go_ret
    exact ⟨rfl, hd, ho1⟩
/-- Files go, from some on. -/
structure Rmg (F : Nat → Prop) (w0 w1 w : World) (g b : Nat) (l : List ByteArray) (Q0 : DkV) (M k n : Nat) (Fk : Nat → Prop) (Q : DkV) : Prop where
  dk : DkP w g Fk Q
  ch : w.heap[b]? = some (.chan l.length ((l.drop k).map Value.string).toArray true l.length k false)
  eq : Q0.rems l 0 = Q.rems (l.drop k) n
  ok : Q.Ok (M + 2 * k)
  nk : n ≤ k
  kk : k ≤ l.length
  lt : ∀ j, Fk j → j < w.heap.size
  nb : ¬ Fk b
  new : ∀ j, Fk j → F j ∨ w0.heap.size ≤ j
  off : Off F w0 w
  sz : w1.heap.size ≤ w.heap.size
def chLeft (b : Nat) (w : World) : Nat := match w.heap[b]? with | some (.chan _ buf _ _ _ _) => buf.size | _ => 0
theorem chLeft_at {b : Nat} {w : World} {cap s r : Nat} {buf : Array Value} {cl tm : Bool} (h : w.heap[b]? = some (.chan cap buf cl s r tm)) : chLeft b w = buf.size := by unfold chLeft; rw [h]
theorem off_chan (w : World) (b cap : Nat) (buf : Array Value) (cl : Bool) (s r : Nat) (tm : Bool) : Off (· = b) w (w.setChan b cap buf cl s r tm) :=
  ⟨rfl, rfl, rfl, by simp [World.setChan], fun k _ hn => by
    have hn : ¬ k = b := hn
    simp only [World.setChan]
    rw [Array.getElem?_setIfInBounds_ne (by omega)]⟩
theorem Rmg.next {F : Nat → Prop} {w0 w1 w w2 w3 : World} {g b : Nat} {l : List ByteArray} {Q0 Q Q' : DkV} {M k n n' : Nat} {Fk : Nat → Prop} (h : Rmg F w0 w1 w g b l Q0 M k n Fk Q) (hlt : k < l.length) (hb : w0.heap.size ≤ b) (ho2 : Off (· = b) w w2)
    (hc2 : w2.heap[b]? = some (.chan l.length ((l.drop (k + 1)).map Value.string).toArray true l.length (k + 1) false)) (hd : DkP w3 g (Fresh Fk w2 w3) Q') (ho3 : Off Fk w2 w3) (heq : Q0.rems l 0 = Q'.rems (l.drop (k + 1)) n') (hok : Q'.Ok (M + 2 * (k + 1))) (hn : n' ≤ k + 1) :
    Rmg F w0 w1 w3 g b l Q0 M (k + 1) n' (Fresh Fk w2 w3) Q' := by
  have hz := h.off.size
  have hz2 := ho2.size
  have hz3 := ho3.size
  have hbl := (Array.getElem?_eq_some_iff.1 hc2).1
  have hsz := h.sz
  refine ⟨hd, (ho3.block b hbl h.nb).trans hc2, heq, hok, hn, hlt, fun j hj => ?_, fun hj => ?_, fun j hj => ?_, (h.off.then ho2 fun j hj (e : j = b) => by omega).then ho3 fun j hj hf => ?_, by omega⟩
  · rcases hj with hj | hj
    · have := h.lt j hj; omega
    · exact hj.2
  · rcases hj with hj | hj
    · exact h.nb hj
    · omega
  · rcases hj with hj | hj
    · exact h.new j hj
    · exact .inr (by omega)
  · rcases h.new j hf with h1 | h1
    · exact h1
    · omega
theorem Rmg.leave {F : Nat → Prop} {w0 w1 w w2 w3 : World} {g b : Nat} {l : List ByteArray} {Q0 Q Q' : DkV} {M k n : Nat} {Fk : Nat → Prop} (h : Rmg (fun j => F j ∧ j < w0.heap.size) w0 w1 w g b l Q0 M k n Fk Q) (hb : w0.heap.size ≤ b) (ho2 : Off (· = b) w w2) (hd : DkP w3 g (Fresh Fk w2 w3) Q') (ho3 : Off Fk w2 w3) : DkP w3 g (Fresh F w0 w3) Q' ∧ Off F w0 w3 := by
  have hz := h.off.size
  have hz2 := ho2.size
  have hz3 := ho3.size
  refine ⟨hd.more fun j hj => ?_, (((h.off.mono fun j _ hj => hj.1).then ho2 fun j hj (e : j = b) => by omega).then ho3 fun j hj hf => ?_)⟩
  · rcases hj with hj | hj
    · rcases h.new j hj with h1 | h1
      · exact .inl h1.1
      · exact .inr ⟨h1, by have := h.lt j hj; omega⟩
    · exact .inr ⟨by omega, hj.2⟩
  · rcases h.new j hf with h1 | h1
    · exact h1.1
    · omega
theorem drop_next {α : Type} {l : List α} {k : Nat} (hk : k < l.length) : l.drop k = l[k] :: l.drop (k + 1) := List.drop_eq_getElem_cons hk
theorem comm_recv1 (b : Nat) (z v : Value) (ok : Bool) : commResult #[rcase b z] .select ((0 : Nat) : Int) v ok = .tuple #[goInt 0, .bool ok, v] := by
  simp [commResult, rcase, List.zipIdx_cons]
theorem zero_string (w : World) : (zeroValue 9).run Tryz.prog w = .ok (.string ⟨#[]⟩) w := by kernel_rfl
set_option maxHeartbeats 4000000 in
set_option maxRecDepth 100000 in
theorem sremove_calls {w : World} {g : Nat} {F : Nat → Prop} {Q : DkV} (h : DkP w g F Q) {M : Nat} (ho : Q.Ok M) (A : Option Addr) (c : Nat) (l : List ByteArray) (hr : Row w 1 A l.length (l.map Value.string)) (hl : ∀ s ∈ l, s.size ≤ 9223372036854775807) (hM : M + 2 * l.length ≤ 800000) :
    Calls Tryz.prog 14 #[ptrV g, .slice A l.length c] w fun e w' => e = .returned (.tuple #[.int .i64 ((Q.rems l 0).2.1 : Int), .int .i64 (Q.rems l 0).2.2]) ∧ DkP w' g (Fresh F w w') (Q.rems l 0).1 ∧ Off F w w' := by
  have HP := Lib.hid (DkP.bound h)
  have HO := Lib.hid ho
  have HR := Lib.hid hr
  have HL := Lib.hid hl
  clear h ho hr hl
  refine calls_of_wpN (fn := Tryz.f14) Tryz.func14 rfl ?_
  rw [Tryz.ntmps14, show (#[ptrV g, Value.slice A l.length c] ++ Array.replicate (37 - (#[ptrV g, Value.slice A l.length c] : Array Value).size) undef : Array Value) = #[ptrV g, .slice A l.length c, undef, undef, undef, undef, undef, undef, undef, undef, undef, undef, undef, undef, undef, undef, undef, undef, undef, undef, undef, undef, undef, undef, undef, undef, undef, undef, undef, undef, undef, undef, undef, undef, undef, undef, undef] from by rw [← Array.toList_inj]; simp [List.replicate]]
  (refine WpN.seq (WpN.of ?_); go_wp2)
  (refine WpN.seq (WpN.of ?_); go_wp2)
  refine WpN.seq (WpN.of ?_)
  go_wp2_with fail
  refine (queue_calls A c l _ HR.out (by omega)).mono ?_
  rintro e w1 ⟨b, rfl, hb, hch, hX⟩
  have hb1 := (Array.getElem?_eq_some_iff.1 hch).1
  have HI := Lib.hid (show Rmg (fun j => F j ∧ j < w.heap.size) w w1 w1 g b l Q M 0 0 (fun j => F j ∧ j < w.heap.size) Q from
    ⟨HP.out.ex hX, by rw [List.drop_zero]; exact hch, by rw [List.drop_zero], HO.out, Nat.le_refl _, Nat.zero_le _, fun j hj => Nat.lt_of_lt_of_le hj.2 hX.size, fun hf => by have := hf.2; omega, fun j hj => .inl hj, hX.off _, Nat.le_refl _⟩)
  clear hch hX
  go_wp2
  refine WpN.block (WpN.loop (fun a wr => ∃ (k n : Nat) (Fk : Nat → Prop) (Qk : DkV) (u8 u9 u10 u13 u14 u15 u16 u17 u18 u19 u20 u21 u22 u23 u24 u25 u26 u27 u28 u29 u30 u31 u32 u33 u34 u35 u36 : Value), a = ⟨#[ptrV g, .slice A l.length c, undef, undef, .int .i64 0, .int .i64 0, .int .i64 (n : Int), .chan (some b), u8, u9, u10, .slice A l.length c, .chan (some b), u13, u14, u15, u16, u17, u18, u19, u20, u21, u22, u23, u24, u25, u26, u27, u28, u29, u30, u31, u32, u33, u34, u35, u36], []⟩ ∧ Rmg (fun j => F j ∧ j < w.heap.size) w w1 wr g b l Q M k n Fk Qk) (fun _ wr => chLeft b wr) ⟨0, 0, _, _, _, _, _, _, _, _, _, _, _, _, _, _, _, _, _, _, _, _, _, _, _, _, _, _, _, _, _, rfl, HI.out⟩ ?_)
  rintro a wr ⟨k, n, Fk, Qk, u8, u9, u10, u13, u14, u15, u16, u17, u18, u19, u20, u21, u22, u23, u24, u25, u26, u27, u28, u29, u30, u31, u32, u33, u34, u35, u36, rfl, hh⟩
  have H := Lib.hid hh
  have hkk := hh.kk
  have hbl := (Array.getElem?_eq_some_iff.1 hh.ch).1
  clear HI
  refine WpN.block ?_
  (refine WpN.seq (WpN.of ?_); go_wp2)
  refine WpN.seq (WpN.region ?_)
  show RegN _ _ [0, 1, 2] _ _ _
  have hz := zero_string wr
  by_cases hlt : k < l.length
  · have hch := hh.ch
    rw [drop_next hlt, List.map_cons] at hch
    have HE := Lib.hid (show Q.rems l 0 = Qk.rems (l[k] :: l.drop (k + 1)) n from by rw [hh.eq, drop_next hlt])
    have hsz := HL.out _ (List.getElem_mem hlt)
    generalize l[k] = s at *
    refine RegN.sel_recv 0 rfl (by simp [Region.wanted]) (cases := #[rcase b (.string ⟨#[]⟩)]) (blocking := true) (z := .string ⟨#[]⟩) (by simp [go_sem, execOp, rcase, Act.eval, hz]) rfl (fun m c' hm hc' => by
      rcases m with _ | m
      · exact absurd rfl hm
      · simp at hc') hch (by simp) ?_
    have hcr : commResult #[rcase b (.string ⟨#[]⟩)] .select ((0 : Nat) : Int) ((Value.string s :: (l.drop (k + 1)).map Value.string).toArray.getD 0 undef) true = .tuple #[.int .i64 0, .bool true, .string s] := by rw [comm_recv1]; simp [goInt]
    rw [hcr, show (Value.string s :: (l.drop (k + 1)).map Value.string).toArray.extract 1 (Value.string s :: (l.drop (k + 1)).map Value.string).toArray.size = ((l.drop (k + 1)).map Value.string).toArray from by apply Array.toList_inj.1; rw [Array.toList_extract]; simp [List.extract]; exact List.take_of_length_le (by simp)]
    have hC2 := heap_setChan wr b l.length ((l.drop (k + 1)).map Value.string).toArray true l.length (k + 1) false hbl
    have HO2 := Lib.hid (off_chan wr b l.length ((l.drop (k + 1)).map Value.string).toArray true l.length (k + 1) false)
    have HC2 := Lib.hid hC2
    have HL1 := Lib.hid (chLeft_at hh.ch)
    clear hcr hC2 hch hh
    generalize wr.setChan b l.length ((l.drop (k + 1)).map Value.string).toArray true l.length (k + 1) false = W2 at *
    refine RegN.val rfl (by simp [Region.wanted]) (w' := W2) (v := .int .i64 0) (by simp [go_sem, execOp, Act.eval, Act.put]) ?_
    refine RegN.val rfl (by simp [Region.wanted]) (w' := W2) (v := .bool true) (by simp [go_sem, execOp, Act.eval, Act.put]) ?_
    refine RegN.done ?_
    simp only [Act.put]
    show WpN _ _ _ _ _
    refine WpN.of ?_
    have hrem := remove_ok (s := s) H.out.ok hsz
    have hC := dremove_calls (H.out.dk.off HO2.out fun j _ hj e => H.out.nb (e ▸ hj)) H.out.ok (by omega) s hsz
    have hQ : Q.rems l 0 = if (Qk.remove s).2 = 0 then (Qk.remove s).1.rems (l.drop (k + 1)) (n + 1) else if (Qk.remove s).2 = 8 then (Qk.remove s).1.rems (l.drop (k + 1)) n else ((Qk.remove s).1, n, (Qk.remove s).2) := HE.out
    obtain ⟨Q', qe, hq⟩ : ∃ Q' qe, Qk.remove s = (Q', qe) := ⟨_, _, rfl⟩
    rw [hq] at hC hQ hrem
    have HC := Lib.hid hC
    have HQ := Lib.hid hQ
    have HRM := Lib.hid hrem
    clear hC hQ hrem hq HE
    go_wp2_with fail
    refine HC.out.mono ?_
    rintro e w3 ⟨rfl, hd3, ho3⟩
    have HD3 := Lib.hid hd3
    have HO3 := Lib.hid ho3
    have hnk := H.out.nk
    clear hd3 ho3 HC
    have HM := Lib.hid (fun (Qx : DkV) (hx : Rmg (fun j => F j ∧ j < w.heap.size) w w1 w3 g b l Q M (k + 1) 0 (Fresh Fk W2 w3) Qx ∨ True) => show chLeft b w3 < chLeft b wr from by
      have h1 := chLeft_at ((HO3.out.block b (Array.getElem?_eq_some_iff.1 HC2.out).1 H.out.nb).trans HC2.out)
      rw [h1, HL1.out]
      simp
      omega)
    by_cases hq0 : qe = 0
    · have HN := Lib.hid (H.out.next hlt hb HO2.out HC2.out HD3.out HO3.out (n' := n + 1) (by rw [HQ.out, if_pos hq0]) (HRM.out.up (by omega)) (by omega))
      subst hq0
      have hnw : IntKind.i64.wrap ((n : Int) + 1) = (n : Int) + 1 := IntWalk.i64_in _ (by omega)
      go_wp2
      exact ⟨⟨k + 1, n + 1, _, Q', _, _, _, _, _, _, _, _, _, _, _, _, _, _, _, _, _, _, _, _, _, _, _, _, _, _, _, by rw [show (((n + 1 : Nat)) : Int) = (n : Int) + 1 from Int.natCast_add _ _], HN.out⟩, HM.out Q' (.inr trivial)⟩
    · by_cases hq8 : qe = 8
      · have HN := Lib.hid (H.out.next hlt hb HO2.out HC2.out HD3.out HO3.out (n' := n) (by rw [HQ.out, if_neg hq0, if_pos hq8]) (HRM.out.up (by omega)) (by omega))
        subst hq8
        go_wp2
        exact ⟨⟨k + 1, n, _, Q', _, _, _, _, _, _, _, _, _, _, _, _, _, _, _, _, _, _, _, _, _, _, _, _, _, _, _, rfl, HN.out⟩, HM.out Q' (.inr trivial)⟩
      · have e0 : (qe == 0) = false := beq_eq_false_iff_ne.2 hq0
        have e8 : (qe == 8) = false := beq_eq_false_iff_ne.2 hq8
        have d0 : decide (qe = 0) = false := decide_eq_false hq0
        have d8 : decide (qe = 8) = false := decide_eq_false hq8
        have HQ2 := Lib.hid (show Q.rems l 0 = (Q', n, qe) from by rw [HQ.out, if_neg hq0, if_neg hq8])
        clear hq0 hq8
        go_wp2
        go_ret2
        rw [HQ2.out]
        exact ⟨rfl, H.out.leave hb HO2.out HD3.out HO3.out⟩
  · have hkl : k = l.length := by omega
    have hch := hh.ch
    rw [hkl, List.drop_length, List.map_nil] at hch
    have HQ := Lib.hid (show Q.rems l 0 = if n = 0 then (Qk, 0, 0) else (Qk.syncAll.1, n, Qk.syncAll.2) from by rw [hh.eq, hkl, List.drop_length]; rfl)
    have hcr : commResult #[rcase b (.string ⟨#[]⟩)] .select ((0 : Nat) : Int) (.string ⟨#[]⟩) false = .tuple #[.int .i64 0, .bool false, .string ⟨#[]⟩] := by rw [comm_recv1]; simp [goInt]
    refine RegN.sel_shut 0 rfl (by simp [Region.wanted]) (cases := #[rcase b (.string ⟨#[]⟩)]) (blocking := true) (z := .string ⟨#[]⟩) (by simp [go_sem, execOp, rcase, Act.eval, hz]) rfl (fun m c' hm hc' => by
      rcases m with _ | m
      · exact absurd rfl hm
      · simp at hc') hch ?_
    rw [hcr]
    clear hcr hch hh hkl
    refine RegN.val rfl (by simp [Region.wanted]) (w' := wr) (v := .int .i64 0) (by simp [go_sem, execOp, Act.eval, Act.put]) ?_
    refine RegN.val rfl (by simp [Region.wanted]) (w' := wr) (v := .bool true) (by simp [go_sem, execOp, Act.eval, Act.put]) ?_
    refine RegN.done ?_
    simp only [Act.put]
    show WpN _ _ _ _ _
    refine WpN.of ?_
    have hC := last_calls H.out.dk H.out.ok (by omega) n
    obtain ⟨ef, hef⟩ : ∃ x, (if n = 0 then (0 : Int) else Qk.syncAll.2) = x := ⟨_, rfl⟩
    obtain ⟨Qf, hQf⟩ : ∃ x, (if n = 0 then Qk else Qk.syncAll.1) = x := ⟨_, rfl⟩
    rw [hef, hQf] at hC
    have HC := Lib.hid hC
    have HQ2 := Lib.hid (show Q.rems l 0 = (Qf, n, ef) from by
      rw [HQ.out, ← hef, ← hQf]
      by_cases h0 : n = 0
      · subst h0; rfl
      · rw [if_neg h0, if_neg h0, if_neg h0])
    clear hC hef hQf HQ
    go_wp2_with fail
    refine HC.out.mono ?_
    rintro e w3 ⟨rfl, hd3, ho3⟩
    have HD3 := Lib.hid (H.out.leave hb (Off.refl _ wr) hd3 ho3)
    clear hd3 ho3
    go_wp2
    go_ret2
    rw [HQ2.out]
    exact ⟨rfl, HD3.out⟩
end Go.Proofs.YtomfcgeibbicoaaGreat
