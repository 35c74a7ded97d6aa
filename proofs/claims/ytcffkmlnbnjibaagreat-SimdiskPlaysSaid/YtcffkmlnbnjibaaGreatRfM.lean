/- The document's publish: the steps; behind each call each number has its tape. -/
import Derived.Test.YtcffkmlnbnjibaaGreatRfL
import Derived.Test.YtcffkmlnbnjibaaGreatPbB
namespace Go.Proofs.YtcffkmlnbnjibaaGreat
open Go.RowKit
theorem Idz.same {Q Q' : DkV} (h : Idz Q) (e1 : Q'.fo = Q.fo) (e2 : Q'.tapes.length = Q.tapes.length) : Idz Q' := fun x hx => by rw [e1] at hx; rw [e2]; exact h x hx
theorem ids_do (q : FoV) (c : Chg) (x : Int) : x ∈ (q.doC c).ids ↔ x ∈ q.ids ∨ (c.pu = true ∧ c.id = x) := by
  rw [FoV.ids_mem, FoV.ids_mem]
  show ((∃ m ∈ q.kept, m.pl = x) ∨ ∃ d ∈ q.ch ++ [c], d.pu = true ∧ d.id = x) ↔ _
  simp only [List.mem_append, List.mem_singleton]
  constructor
  · rintro (h | ⟨d, hd | rfl, h1, h2⟩)
    · exact .inl (.inl h)
    · exact .inl (.inr ⟨d, hd, h1, h2⟩)
    · exact .inr ⟨h1, h2⟩
  · rintro ((h | ⟨d, hd, h1, h2⟩) | ⟨h1, h2⟩)
    · exact .inl h
    · exact .inr ⟨d, .inl hd, h1, h2⟩
    · exact .inr ⟨c, .inr rfl, h1, h2⟩
theorem Idz.ask {Q : DkV} (h : Idz Q) (b : Bool) : Idz (Q.ask b).1 := h.same rfl rfl
theorem Idz.add {Q : DkV} (h : Idz Q) (s : ByteArray) (t : TpV) : Idz (Q.add s t) := fun x hx => by
  unfold DkV.add at hx ⊢
  rw [ids_do] at hx
  simp only [List.length_append, List.length_cons, List.length_nil]
  rcases hx with hx | ⟨_, e⟩
  · have := h x hx; omega
  · simp only at e; omega
theorem Idz.fo {Q : DkV} (h : Idz Q) (fo : FoV) (hf : ∀ x ∈ fo.ids, x ∈ Q.fo.ids) : Idz { Q with fo := fo } := fun x hx => h x (hf x hx)
theorem rdrop_ids (q : FoV) (s : ByteArray) : ∀ x ∈ (q.drop s).1.ids, x ∈ q.ids := by
  intro x hx
  unfold FoV.drop at hx
  split at hx
  · rcases (ids_do _ _ _).1 hx with h | ⟨h, _⟩
    · exact h
    · cases h
  · exact hx
theorem rmove_ids {q : FoV} (a b : ByteArray) : ∀ x ∈ (q.move a b).1.ids, x ∈ q.ids := by
  intro x hx
  unfold FoV.move at hx
  split at hx
  · rename_i hf
    split at hx
    · exact hx
    · rcases (ids_do _ _ _).1 hx with h | ⟨_, e⟩
      · exact h
      · rw [← e]
        obtain ⟨m, hm, hmi, _, e2⟩ := findM_mem (P := fun m => m.pl ∈ q.ids) (s := a) (l := q.now) (fun m hm => by
          have hL : q.now ∈ q.lists := List.mem_of_getElem? (lists_last q)
          unfold FoV.ids
          rw [setI_mem, List.mem_flatMap]
          exact ⟨_, hL, List.mem_map.2 ⟨m, hm, rfl⟩⟩) hf
        show (findM a q.now).1 ∈ q.ids
        rw [e2]
        exact hmi
  · exact hx
theorem Idz.create {Q : DkV} (h : Idz Q) (s : ByteArray) : Idz (Q.create s).1 := by
  unfold DkV.create
  repeat' split
  all_goals first | exact h | exact (h.ask _).add _ _ | exact h.ask _
theorem Idz.append {Q : DkV} (h : Idz Q) (s x : ByteArray) : Idz (Q.append s x).1 := by
  unfold DkV.append
  repeat' split
  all_goals first | exact h | exact (h.ask _).set _ _ | exact h.ask _
theorem Idz.syncT {Q : DkV} (h : Idz Q) (s : ByteArray) : Idz (Q.syncT s).1 := by
  unfold DkV.syncT
  repeat' split
  all_goals first | exact h | exact (h.ask _).set _ _ | exact h.ask _
theorem Idz.cutT {Q : DkV} (h : Idz Q) (s : ByteArray) (n : Int) : Idz (Q.cutT s n).1 := by
  unfold DkV.cutT
  repeat' split
  all_goals first | exact h | exact (h.ask _).set _ _ | exact h.ask _
theorem Idz.rename {Q : DkV} (h : Idz Q) (s b : ByteArray) : Idz (Q.rename s b).1 := by
  unfold DkV.rename
  repeat' split
  all_goals first | exact h | exact (h.ask _).fo _ (rmove_ids s b) | exact h.ask _
theorem Idz.remove {Q : DkV} (h : Idz Q) (s : ByteArray) : Idz (Q.remove s).1 := by
  unfold DkV.remove
  repeat' split
  all_goals first | exact h | exact (h.ask _).fo _ (rdrop_ids _ s) | exact h.ask _
theorem Idz.syncAll {Q : DkV} (h : Idz Q) : Idz Q.syncAll.1 := by
  unfold DkV.syncAll
  repeat' split
  all_goals first | exact h | exact (h.ask _).fo _ (fun x hx => settle_ids hx) | exact h.ask _
theorem Idz.fault {Q : DkV} (h : Idz Q) (k a : Int) : Idz (Q.fault k a).1 := by
  unfold DkV.fault
  repeat' split
  all_goals first | exact h | exact h.same rfl rfl
theorem Idz.fresh (n : Int) : Idz (DkV.fresh n) := fun x hx => by
  have := (FoV.ids_mem _ _).1 hx
  rcases this with ⟨m, hm, _⟩ | ⟨c, hc, _⟩
  · cases hm
  · cases hc
theorem Idz.step {Q : DkV} (h : Idz Q) (s b x : ByteArray) (k : Nat) : Idz (stepP s b x k Q).1 := by
  unfold stepP
  split
  · unfold DkV.anew
    split
    · split
      · exact (h.remove s).create s
      · exact h.remove s
    · exact h.create s
  · exact h.append _ _
  · exact h.syncT _
  · exact h.rename _ _
  · exact h.syncAll
theorem Idz.run {s b x : ByteArray} : ∀ (n k : Nat) {Q : DkV}, Idz Q → Idz (runP s b x n k Q).1
  | 0, _, _, h => h
  | n + 1, k, Q, h => by
    unfold runP
    split
    · exact Idz.run n (k + 1) (h.step s b x k)
    · exact h.step s b x k
theorem Idz.pub {Q : DkV} (h : Idz Q) (s b x : ByteArray) : Idz (Q.pub s b x).1 := by
  unfold DkV.pub
  split
  · exact (h.run 5 0).remove _
  · exact h.run 5 0
/-- A struct and two words as results. -/
theorem ret_agg3 {fn : Func} {p u v : Tmp} {T : TypeId} {fs : Array Field} (h : fn.results = #[.cell p T, .tmp u, .tmp v]) (tmps : Array Value) (w : World) (g : Nat) (cs : List Value) (hp : tmps.getD p undef = .pointer (some ⟨g, 0, none⟩)) (hg : Blk w g T cs)
    (hu : Tryz.prog.underlying T = some (.struct fs)) (hi : (Tryz.prog.info? T).map (·.size) = some cs.length) :
    (results fn tmps).run Tryz.prog w = .ok (.tuple #[.agg cs.toArray, tmps.getD u undef, tmps.getD v undef]) w := by
  have hl := run_loadVar_row (P := Tryz.prog) w g T T cs.toArray (0, 0) _ hg hu rfl (by simpa using hi)
  have hp2 : tmps[p]?.getD undef = .pointer (some ⟨g, 0, none⟩) := by simpa using hp
  simp only [results, h]
  simp [Result.andThen, hp2, asAddr, hl]
/-- What a writing of the document gives: the disk, how many steps, the error. -/
def Op3 (F : Nat → Prop) (w : World) (r : DkV × Nat × Int) (w' : World) (e : Ending) : Prop := ∃ tv sl, e = .returned (.tuple #[.agg (r.1.rcs tv sl).toArray, .int .i64 (r.2.1 : Int), .int .i64 r.2.2]) ∧ RdV F w' r.1 tv sl ∧ Ex w w'
theorem op3 {F G : Nat → Prop} {w wn wz : World} {g : Nat} {Q : DkV} {n : Nat} {c : Int} {tv sl : Value} {e : Ending} (he : e = .returned (.tuple #[.agg (Q.rcs tv sl).toArray, .int .i64 (n : Int), .int .i64 c])) (hR : RdV G wn Q tv sl) (hg : wn.grownBy wz (some g)) (h1 : G g) (hG : ∀ k, F k → G k) (hX : Ex w wz) : Op3 F w (Q, n, c) wz e :=
  ⟨tv, sl, he, (hR.offs (off_grown hg) fun k hk => by rw [hk]; exact h1).less hG, hX⟩
theorem rrunP_stop {s b x : ByteArray} {n k : Nat} {Q Q' : DkV} {e : Int} (h : stepP s b x k Q = (Q', e)) (he : ¬ e = 0) : runP s b x (n + 1) k Q = (Q', k, e) := by
  rw [runP, h, if_neg he]
theorem rrunP_go {s b x : ByteArray} {n k : Nat} {Q Q' : DkV} (h : stepP s b x k Q = (Q', 0)) : runP s b x (n + 1) k Q = runP s b x n (k + 1) Q' := by
  rw [runP, h, if_pos rfl]
theorem one_disk {F : Nat → Prop} {w : World} {Q : DkV} {tv sl : Value} (h : RdV F w Q tv sl) : ∀ x ∈ [Value.int .i64 Q.sec, tv, sl, .int .i64 Q.fu.p, .int .i64 Q.fu.s, .int .i64 Q.fu.d, .bool Q.fu.off, .int .i64 (Q.calls : Int)], x.oneCell' = true := rcs_one Q h
set_option maxHeartbeats 4000000 in
set_option maxRecDepth 100000 in
theorem rsteps_calls {F : Nat → Prop} {w : World} {Q : DkV} {tv sl : Value} {M : Nat} (s b x : ByteArray) (h : RdV F w Q tv sl) (ho : Q.Ok M) (hM : M ≤ 600000) (hi : Idz Q) (hs : s.size ≤ 9223372036854775807) (hb : b.size ≤ 9223372036854775807) (hx : x.size ≤ 1000000) (hF : ∀ k, F k → k < w.heap.size) :
    Calls Tryz.prog 95 #[.agg (Q.rcs tv sl).toArray, .string s, .string b, .string x] w fun e w' => Op3 F w (runP s b x 5 0 Q) w' e := by
  obtain ⟨tA, tc, sB, sn, sd, rfl, rfl⟩ := h.shape
  have hX := ex_two w (.cells (Q.rcs (.slice tA Q.tapes.length tc) (.slice sB sn sd)).toArray 59) (.cells zeroD.toArray 59)
  have hB := (Blk.new w (Q.rcs (.slice tA Q.tapes.length tc) (.slice sB sn sd)) 59).ex (ex_alloc (Ex.refl _) (.cells zeroD.toArray 59))
  have HK0 := Lib.hid (blk_two w (.cells (Q.rcs (.slice tA Q.tapes.length tc) (.slice sB sn sd)).toArray 59) zeroD 59)
  obtain ⟨G, hG, eG⟩ := Grow.mk2 hX hF
  have HG := Lib.hid hG
  have HG0 := Lib.hid (hG.new w.heap.size (Nat.le_refl _) (by simp; omega))
  have HG1 := Lib.hid (hG.new (w.heap.size + 1) (Nat.le_succ _) (by simp))
  have HR0 := Lib.hid (hG.rd eG h)
  have HB0 := Lib.hid hB
  have HX0 := Lib.hid hX
  have HF0 := Lib.hid hG.lt
  have HI := Lib.hid hi
  have HO := Lib.hid ho
  have hle := Nat.le_refl w.heap.size
  have hle1 := Nat.le_succ w.heap.size
  have hne1 : w.heap.size + 1 ≠ w.heap.size := by omega
  clear h ho hi hX hB hG eG hF
  generalize Q.tapes.length = tm at *
  unfold DkV.rcs
  go_enter Tryz.func95, Tryz.ntmps95
  go_wp2_with fail
  refine (rread_calls s HR0.out HO.out (by omega) HI.out).mono ?_
  rintro e w1 ⟨rfl, hb1⟩
  have HB1 := Lib.hid (HB0.out.ex hb1)
  have HK1 := Lib.hid (HK0.out.ex hb1)
  have HX1 := Lib.hid (HX0.out.trans hb1)
  have HR1 := Lib.hid (HR0.out.ex hb1)
  have HF1 := Lib.hid (fun k hk => Nat.lt_of_lt_of_le (HF0.out k hk) hb1.size)
  obtain ⟨x0, x1, x2, x3, x4, x5, x6, x7⟩ := rd_cells HB1.out
  clear hb1
  obtain ⟨rd, re, hre⟩ : ∃ d e, Q.read s = (d, e) := ⟨_, _, rfl⟩
  rw [hre]
  have HRE := Lib.hid hre
  clear hre
  by_cases hr0 : ¬ re = 0
  · have r1 : decide (re = 0) = false := decide_eq_false hr0
    have r2 : (re == 0) = false := beq_eq_false_iff_ne.2 hr0
    go_wp2_with fail
    obtain ⟨Q2, e2, h2⟩ : ∃ Q' e', Q.create s = (Q', e') := ⟨_, _, rfl⟩
    have hok2 : Q2.Ok (M + 2) := by have := create_ok HO.out (by omega) hs; rw [h2] at this; exact this
    have hiz2 : Idz Q2 := by have := Idz.create HI.out s; rw [h2] at this; exact this
    refine (rcreate_calls (F := G) s HR1.out HO.out (by omega) HI.out hs HF1.out).mono ?_
    rintro e w2 ho2
    clear x0 x1 x2 x3 x4 x5 x6 x7
    rw [h2] at ho2
    obtain ⟨tv2, sl2, rfl, hR2, hX2⟩ := ho2
    simp only at hR2
    have HH2 := Lib.hid h2
    obtain ⟨tA2, tc2, sB2, sn2, sd2, rfl, rfl⟩ := hR2.shape
    generalize Q2.tapes.length = tm2 at *
    have HOk2 := Lib.hid hok2
    have HIz2 := Lib.hid hiz2
    have HBo2 := Lib.hid (HB1.out.ex hX2)
    have HKo2 := Lib.hid (HK1.out.ex hX2)
    have HXo2 := Lib.hid (HX1.out.trans hX2)
    have HFo2 := Lib.hid (lt_more HF1.out hX2.size)
    have HRo2 := Lib.hid hR2
    clear h2 hok2 hiz2 hR2 hX2
    unfold DkV.rcs
    have HS0 := Lib.hid (show stepP s b x 0 Q = (Q2, e2) from by show Q.anew s = _; unfold DkV.anew; rw [if_neg (by rw [HRE.out]; exact hr0)]; rw [HH2.out])
    by_cases hq2 : ¬ e2 = 0
    · have q1 : decide (e2 = 0) = false := decide_eq_false hq2
      have q2 : (e2 == 0) = false := beq_eq_false_iff_ne.2 hq2
      have q3 : (e2 != 0) = true := by rw [bne, q2]; rfl
      go_wp2_with (first
        | (refine st_agg 59 rfl (.tmp 4) (.tmp 36) rfl w.heap.size [.int .i64 Q.sec, (.slice tA tm tc), (.slice sB sn sd), .int .i64 Q.fu.p, .int .i64 Q.fu.s, .int .i64 Q.fu.d, .bool Q.fu.off, .int .i64 (Q.calls : Int)] [.int .i64 Q2.sec, (.slice tA2 tm2 tc2), (.slice sB2 sn2 sd2), .int .i64 Q2.fu.p, .int .i64 Q2.fu.s, .int .i64 Q2.fu.d, .bool Q2.fu.off, .int .i64 (Q2.calls : Int)] rfl rfl info_d11 rfl (one_disk HRo2.out) HBo2.out HXo2.out hle ?_; intro w3 k3 X3 g3; have HB3 := Lib.hid k3; have HX3 := Lib.hid X3; have HK3 := Lib.hid (HKo2.out.grown g3 (ne_some hne1)); have HR3 := Lib.hid (HRo2.out.offs (off_grown g3) (same_blk HG0.out)); have HF3 := Lib.hid (lt_more HFo2.out g3.size); obtain ⟨x0, x1, x2, x3, x4, x5, x6, x7⟩ := rd_cells (Q := Q2) (tv := (.slice tA2 tm2 tc2)) (sl := (.slice sB2 sn2 sd2)) k3; clear k3 X3 g3)
        | (refine st_agg 59 rfl (.tmp 8) (.tmp 40) rfl (w.heap.size + 1) [.int .i64 0, .slice none 0 0, .slice none 0 0, .int .i64 0, .int .i64 0, .int .i64 0, .bool false, .int .i64 0] [.int .i64 Q2.sec, (.slice tA2 tm2 tc2), (.slice sB2 sn2 sd2), .int .i64 Q2.fu.p, .int .i64 Q2.fu.s, .int .i64 Q2.fu.d, .bool Q2.fu.off, .int .i64 (Q2.calls : Int)] rfl rfl info_d11 rfl (one_disk HR3.out) HK3.out HX3.out hle1 ?_; intro wz kz Xz gz))
      (try simp only [Exit.inBlock, Exit.then])
      refine bodyPost_ret (ret_agg3 rfl _ _ (w.heap.size + 1) [.int .i64 Q2.sec, (.slice tA2 tm2 tc2), (.slice sB2 sn2 sd2), .int .i64 Q2.fu.p, .int .i64 Q2.fu.s, .int .i64 Q2.fu.d, .bool Q2.fu.off, .int .i64 (Q2.calls : Int)] rfl kz Tryz.underlying59 info_d11) rfl ?_
      rw [rrunP_stop HS0.out hq2]
      exact op3 (Q := Q2) rfl HR3.out gz HG1.out HG.out.of Xz
    replace hq2 : e2 = 0 := Classical.byContradiction hq2
    subst hq2
    go_wp2_with (refine st_agg 59 rfl (.tmp 4) (.tmp 36) rfl w.heap.size [.int .i64 Q.sec, (.slice tA tm tc), (.slice sB sn sd), .int .i64 Q.fu.p, .int .i64 Q.fu.s, .int .i64 Q.fu.d, .bool Q.fu.off, .int .i64 (Q.calls : Int)] [.int .i64 Q2.sec, (.slice tA2 tm2 tc2), (.slice sB2 sn2 sd2), .int .i64 Q2.fu.p, .int .i64 Q2.fu.s, .int .i64 Q2.fu.d, .bool Q2.fu.off, .int .i64 (Q2.calls : Int)] rfl rfl info_d11 rfl (one_disk HRo2.out) HBo2.out HXo2.out hle ?_; intro w3 k3 X3 g3; have HB3 := Lib.hid k3; have HX3 := Lib.hid X3; have HK3 := Lib.hid (HKo2.out.grown g3 (ne_some hne1)); have HR3 := Lib.hid (HRo2.out.offs (off_grown g3) (same_blk HG0.out)); have HF3 := Lib.hid (lt_more HFo2.out g3.size); obtain ⟨x0, x1, x2, x3, x4, x5, x6, x7⟩ := rd_cells (Q := Q2) (tv := (.slice tA2 tm2 tc2)) (sl := (.slice sB2 sn2 sd2)) k3; clear k3 X3 g3)
    obtain ⟨Q4, e4, h4⟩ : ∃ Q' e', Q2.append s x = (Q', e') := ⟨_, _, rfl⟩
    have hok4 : Q4.Ok ((M + 2) + 1) := by have := append_ok (s := s) (x := x) HOk2.out; rw [h4] at this; exact this
    have hiz4 : Idz Q4 := by have := Idz.append HIz2.out s x; rw [h4] at this; exact this
    refine (rappend_calls (F := G) s x HR3.out HOk2.out (by omega) HIz2.out hx HF3.out).mono ?_
    rintro e w4 ho4
    clear x0 x1 x2 x3 x4 x5 x6 x7
    rw [h4] at ho4
    obtain ⟨tv4, sl4, rfl, hR4, hX4⟩ := ho4
    simp only at hR4
    have HH4 := Lib.hid h4
    obtain ⟨tA4, tc4, sB4, sn4, sd4, rfl, rfl⟩ := hR4.shape
    generalize Q4.tapes.length = tm4 at *
    have HOk4 := Lib.hid hok4
    have HIz4 := Lib.hid hiz4
    have HBo4 := Lib.hid (HB3.out.ex hX4)
    have HKo4 := Lib.hid (HK3.out.ex hX4)
    have HXo4 := Lib.hid (HX3.out.trans hX4)
    have HFo4 := Lib.hid (lt_more HF3.out hX4.size)
    have HRo4 := Lib.hid hR4
    clear h4 hok4 hiz4 hR4 hX4
    unfold DkV.rcs
    have HS1 := Lib.hid (show stepP s b x 1 Q2 = (Q4, e4) from HH4.out)
    by_cases hq4 : ¬ e4 = 0
    · have q1 : decide (e4 = 0) = false := decide_eq_false hq4
      have q2 : (e4 == 0) = false := beq_eq_false_iff_ne.2 hq4
      have q3 : (e4 != 0) = true := by rw [bne, q2]; rfl
      go_wp2_with (first
        | (refine st_agg 59 rfl (.tmp 4) (.tmp 47) rfl w.heap.size [.int .i64 Q2.sec, (.slice tA2 tm2 tc2), (.slice sB2 sn2 sd2), .int .i64 Q2.fu.p, .int .i64 Q2.fu.s, .int .i64 Q2.fu.d, .bool Q2.fu.off, .int .i64 (Q2.calls : Int)] [.int .i64 Q4.sec, (.slice tA4 tm4 tc4), (.slice sB4 sn4 sd4), .int .i64 Q4.fu.p, .int .i64 Q4.fu.s, .int .i64 Q4.fu.d, .bool Q4.fu.off, .int .i64 (Q4.calls : Int)] rfl rfl info_d11 rfl (one_disk HRo4.out) HBo4.out HXo4.out hle ?_; intro w5 k5 X5 g5; have HB5 := Lib.hid k5; have HX5 := Lib.hid X5; have HK5 := Lib.hid (HKo4.out.grown g5 (ne_some hne1)); have HR5 := Lib.hid (HRo4.out.offs (off_grown g5) (same_blk HG0.out)); have HF5 := Lib.hid (lt_more HFo4.out g5.size); obtain ⟨x0, x1, x2, x3, x4, x5, x6, x7⟩ := rd_cells (Q := Q4) (tv := (.slice tA4 tm4 tc4)) (sl := (.slice sB4 sn4 sd4)) k5; clear k5 X5 g5)
        | (refine st_agg 59 rfl (.tmp 8) (.tmp 51) rfl (w.heap.size + 1) [.int .i64 0, .slice none 0 0, .slice none 0 0, .int .i64 0, .int .i64 0, .int .i64 0, .bool false, .int .i64 0] [.int .i64 Q4.sec, (.slice tA4 tm4 tc4), (.slice sB4 sn4 sd4), .int .i64 Q4.fu.p, .int .i64 Q4.fu.s, .int .i64 Q4.fu.d, .bool Q4.fu.off, .int .i64 (Q4.calls : Int)] rfl rfl info_d11 rfl (one_disk HR5.out) HK5.out HX5.out hle1 ?_; intro wz kz Xz gz))
      (try simp only [Exit.inBlock, Exit.then])
      refine bodyPost_ret (ret_agg3 rfl _ _ (w.heap.size + 1) [.int .i64 Q4.sec, (.slice tA4 tm4 tc4), (.slice sB4 sn4 sd4), .int .i64 Q4.fu.p, .int .i64 Q4.fu.s, .int .i64 Q4.fu.d, .bool Q4.fu.off, .int .i64 (Q4.calls : Int)] rfl kz Tryz.underlying59 info_d11) rfl ?_
      rw [rrunP_go HS0.out, rrunP_stop HS1.out hq4]
      exact op3 (Q := Q4) rfl HR5.out gz HG1.out HG.out.of Xz
    replace hq4 : e4 = 0 := Classical.byContradiction hq4
    subst hq4
    go_wp2_with (refine st_agg 59 rfl (.tmp 4) (.tmp 47) rfl w.heap.size [.int .i64 Q2.sec, (.slice tA2 tm2 tc2), (.slice sB2 sn2 sd2), .int .i64 Q2.fu.p, .int .i64 Q2.fu.s, .int .i64 Q2.fu.d, .bool Q2.fu.off, .int .i64 (Q2.calls : Int)] [.int .i64 Q4.sec, (.slice tA4 tm4 tc4), (.slice sB4 sn4 sd4), .int .i64 Q4.fu.p, .int .i64 Q4.fu.s, .int .i64 Q4.fu.d, .bool Q4.fu.off, .int .i64 (Q4.calls : Int)] rfl rfl info_d11 rfl (one_disk HRo4.out) HBo4.out HXo4.out hle ?_; intro w5 k5 X5 g5; have HB5 := Lib.hid k5; have HX5 := Lib.hid X5; have HK5 := Lib.hid (HKo4.out.grown g5 (ne_some hne1)); have HR5 := Lib.hid (HRo4.out.offs (off_grown g5) (same_blk HG0.out)); have HF5 := Lib.hid (lt_more HFo4.out g5.size); obtain ⟨x0, x1, x2, x3, x4, x5, x6, x7⟩ := rd_cells (Q := Q4) (tv := (.slice tA4 tm4 tc4)) (sl := (.slice sB4 sn4 sd4)) k5; clear k5 X5 g5)
    obtain ⟨Q6, e6, h6⟩ : ∃ Q' e', Q4.syncT s = (Q', e') := ⟨_, _, rfl⟩
    have hok6 : Q6.Ok (((M + 2) + 1) + 1) := by have := syncT_ok (s := s) HOk4.out; rw [h6] at this; exact this
    have hiz6 : Idz Q6 := by have := Idz.syncT HIz4.out s; rw [h6] at this; exact this
    refine (rsyncT_calls (F := G) s HR5.out HOk4.out (by omega) HIz4.out HF5.out).mono ?_
    rintro e w6 ho6
    clear x0 x1 x2 x3 x4 x5 x6 x7
    rw [h6] at ho6
    obtain ⟨tv6, sl6, rfl, hR6, hX6⟩ := ho6
    simp only at hR6
    have HH6 := Lib.hid h6
    obtain ⟨tA6, tc6, sB6, sn6, sd6, rfl, rfl⟩ := hR6.shape
    generalize Q6.tapes.length = tm6 at *
    have HOk6 := Lib.hid hok6
    have HIz6 := Lib.hid hiz6
    have HBo6 := Lib.hid (HB5.out.ex hX6)
    have HKo6 := Lib.hid (HK5.out.ex hX6)
    have HXo6 := Lib.hid (HX5.out.trans hX6)
    have HFo6 := Lib.hid (lt_more HF5.out hX6.size)
    have HRo6 := Lib.hid hR6
    clear h6 hok6 hiz6 hR6 hX6
    unfold DkV.rcs
    have HS2 := Lib.hid (show stepP s b x 2 Q4 = (Q6, e6) from HH6.out)
    by_cases hq6 : ¬ e6 = 0
    · have q1 : decide (e6 = 0) = false := decide_eq_false hq6
      have q2 : (e6 == 0) = false := beq_eq_false_iff_ne.2 hq6
      have q3 : (e6 != 0) = true := by rw [bne, q2]; rfl
      go_wp2_with (first
        | (refine st_agg 59 rfl (.tmp 4) (.tmp 57) rfl w.heap.size [.int .i64 Q4.sec, (.slice tA4 tm4 tc4), (.slice sB4 sn4 sd4), .int .i64 Q4.fu.p, .int .i64 Q4.fu.s, .int .i64 Q4.fu.d, .bool Q4.fu.off, .int .i64 (Q4.calls : Int)] [.int .i64 Q6.sec, (.slice tA6 tm6 tc6), (.slice sB6 sn6 sd6), .int .i64 Q6.fu.p, .int .i64 Q6.fu.s, .int .i64 Q6.fu.d, .bool Q6.fu.off, .int .i64 (Q6.calls : Int)] rfl rfl info_d11 rfl (one_disk HRo6.out) HBo6.out HXo6.out hle ?_; intro w7 k7 X7 g7; have HB7 := Lib.hid k7; have HX7 := Lib.hid X7; have HK7 := Lib.hid (HKo6.out.grown g7 (ne_some hne1)); have HR7 := Lib.hid (HRo6.out.offs (off_grown g7) (same_blk HG0.out)); have HF7 := Lib.hid (lt_more HFo6.out g7.size); obtain ⟨x0, x1, x2, x3, x4, x5, x6, x7⟩ := rd_cells (Q := Q6) (tv := (.slice tA6 tm6 tc6)) (sl := (.slice sB6 sn6 sd6)) k7; clear k7 X7 g7)
        | (refine st_agg 59 rfl (.tmp 8) (.tmp 61) rfl (w.heap.size + 1) [.int .i64 0, .slice none 0 0, .slice none 0 0, .int .i64 0, .int .i64 0, .int .i64 0, .bool false, .int .i64 0] [.int .i64 Q6.sec, (.slice tA6 tm6 tc6), (.slice sB6 sn6 sd6), .int .i64 Q6.fu.p, .int .i64 Q6.fu.s, .int .i64 Q6.fu.d, .bool Q6.fu.off, .int .i64 (Q6.calls : Int)] rfl rfl info_d11 rfl (one_disk HR7.out) HK7.out HX7.out hle1 ?_; intro wz kz Xz gz))
      (try simp only [Exit.inBlock, Exit.then])
      refine bodyPost_ret (ret_agg3 rfl _ _ (w.heap.size + 1) [.int .i64 Q6.sec, (.slice tA6 tm6 tc6), (.slice sB6 sn6 sd6), .int .i64 Q6.fu.p, .int .i64 Q6.fu.s, .int .i64 Q6.fu.d, .bool Q6.fu.off, .int .i64 (Q6.calls : Int)] rfl kz Tryz.underlying59 info_d11) rfl ?_
      rw [rrunP_go HS0.out, rrunP_go HS1.out, rrunP_stop HS2.out hq6]
      exact op3 (Q := Q6) rfl HR7.out gz HG1.out HG.out.of Xz
    replace hq6 : e6 = 0 := Classical.byContradiction hq6
    subst hq6
    go_wp2_with (refine st_agg 59 rfl (.tmp 4) (.tmp 57) rfl w.heap.size [.int .i64 Q4.sec, (.slice tA4 tm4 tc4), (.slice sB4 sn4 sd4), .int .i64 Q4.fu.p, .int .i64 Q4.fu.s, .int .i64 Q4.fu.d, .bool Q4.fu.off, .int .i64 (Q4.calls : Int)] [.int .i64 Q6.sec, (.slice tA6 tm6 tc6), (.slice sB6 sn6 sd6), .int .i64 Q6.fu.p, .int .i64 Q6.fu.s, .int .i64 Q6.fu.d, .bool Q6.fu.off, .int .i64 (Q6.calls : Int)] rfl rfl info_d11 rfl (one_disk HRo6.out) HBo6.out HXo6.out hle ?_; intro w7 k7 X7 g7; have HB7 := Lib.hid k7; have HX7 := Lib.hid X7; have HK7 := Lib.hid (HKo6.out.grown g7 (ne_some hne1)); have HR7 := Lib.hid (HRo6.out.offs (off_grown g7) (same_blk HG0.out)); have HF7 := Lib.hid (lt_more HFo6.out g7.size); obtain ⟨x0, x1, x2, x3, x4, x5, x6, x7⟩ := rd_cells (Q := Q6) (tv := (.slice tA6 tm6 tc6)) (sl := (.slice sB6 sn6 sd6)) k7; clear k7 X7 g7)
    obtain ⟨Q8, e8, h8⟩ : ∃ Q' e', Q6.rename s b = (Q', e') := ⟨_, _, rfl⟩
    have hok8 : Q8.Ok ((((M + 2) + 1) + 1) + 2) := by have := rename_ok HOk6.out hs hb; rw [h8] at this; exact this
    have hiz8 : Idz Q8 := by have := Idz.rename HIz6.out s b; rw [h8] at this; exact this
    refine (rrename_calls (F := G) s b HR7.out HOk6.out (by omega) HIz6.out hb HF7.out).mono ?_
    rintro e w8 ho8
    clear x0 x1 x2 x3 x4 x5 x6 x7
    rw [h8] at ho8
    obtain ⟨tv8, sl8, rfl, hR8, hX8⟩ := ho8
    simp only at hR8
    have HH8 := Lib.hid h8
    obtain ⟨tA8, tc8, sB8, sn8, sd8, rfl, rfl⟩ := hR8.shape
    generalize Q8.tapes.length = tm8 at *
    have HOk8 := Lib.hid hok8
    have HIz8 := Lib.hid hiz8
    have HBo8 := Lib.hid (HB7.out.ex hX8)
    have HKo8 := Lib.hid (HK7.out.ex hX8)
    have HXo8 := Lib.hid (HX7.out.trans hX8)
    have HFo8 := Lib.hid (lt_more HF7.out hX8.size)
    have HRo8 := Lib.hid hR8
    clear h8 hok8 hiz8 hR8 hX8
    unfold DkV.rcs
    have HS3 := Lib.hid (show stepP s b x 3 Q6 = (Q8, e8) from HH8.out)
    by_cases hq8 : ¬ e8 = 0
    · have q1 : decide (e8 = 0) = false := decide_eq_false hq8
      have q2 : (e8 == 0) = false := beq_eq_false_iff_ne.2 hq8
      have q3 : (e8 != 0) = true := by rw [bne, q2]; rfl
      go_wp2_with (first
        | (refine st_agg 59 rfl (.tmp 4) (.tmp 68) rfl w.heap.size [.int .i64 Q6.sec, (.slice tA6 tm6 tc6), (.slice sB6 sn6 sd6), .int .i64 Q6.fu.p, .int .i64 Q6.fu.s, .int .i64 Q6.fu.d, .bool Q6.fu.off, .int .i64 (Q6.calls : Int)] [.int .i64 Q8.sec, (.slice tA8 tm8 tc8), (.slice sB8 sn8 sd8), .int .i64 Q8.fu.p, .int .i64 Q8.fu.s, .int .i64 Q8.fu.d, .bool Q8.fu.off, .int .i64 (Q8.calls : Int)] rfl rfl info_d11 rfl (one_disk HRo8.out) HBo8.out HXo8.out hle ?_; intro w9 k9 X9 g9; have HB9 := Lib.hid k9; have HX9 := Lib.hid X9; have HK9 := Lib.hid (HKo8.out.grown g9 (ne_some hne1)); have HR9 := Lib.hid (HRo8.out.offs (off_grown g9) (same_blk HG0.out)); have HF9 := Lib.hid (lt_more HFo8.out g9.size); obtain ⟨x0, x1, x2, x3, x4, x5, x6, x7⟩ := rd_cells (Q := Q8) (tv := (.slice tA8 tm8 tc8)) (sl := (.slice sB8 sn8 sd8)) k9; clear k9 X9 g9)
        | (refine st_agg 59 rfl (.tmp 8) (.tmp 72) rfl (w.heap.size + 1) [.int .i64 0, .slice none 0 0, .slice none 0 0, .int .i64 0, .int .i64 0, .int .i64 0, .bool false, .int .i64 0] [.int .i64 Q8.sec, (.slice tA8 tm8 tc8), (.slice sB8 sn8 sd8), .int .i64 Q8.fu.p, .int .i64 Q8.fu.s, .int .i64 Q8.fu.d, .bool Q8.fu.off, .int .i64 (Q8.calls : Int)] rfl rfl info_d11 rfl (one_disk HR9.out) HK9.out HX9.out hle1 ?_; intro wz kz Xz gz))
      (try simp only [Exit.inBlock, Exit.then])
      refine bodyPost_ret (ret_agg3 rfl _ _ (w.heap.size + 1) [.int .i64 Q8.sec, (.slice tA8 tm8 tc8), (.slice sB8 sn8 sd8), .int .i64 Q8.fu.p, .int .i64 Q8.fu.s, .int .i64 Q8.fu.d, .bool Q8.fu.off, .int .i64 (Q8.calls : Int)] rfl kz Tryz.underlying59 info_d11) rfl ?_
      rw [rrunP_go HS0.out, rrunP_go HS1.out, rrunP_go HS2.out, rrunP_stop HS3.out hq8]
      exact op3 (Q := Q8) rfl HR9.out gz HG1.out HG.out.of Xz
    replace hq8 : e8 = 0 := Classical.byContradiction hq8
    subst hq8
    go_wp2_with (refine st_agg 59 rfl (.tmp 4) (.tmp 68) rfl w.heap.size [.int .i64 Q6.sec, (.slice tA6 tm6 tc6), (.slice sB6 sn6 sd6), .int .i64 Q6.fu.p, .int .i64 Q6.fu.s, .int .i64 Q6.fu.d, .bool Q6.fu.off, .int .i64 (Q6.calls : Int)] [.int .i64 Q8.sec, (.slice tA8 tm8 tc8), (.slice sB8 sn8 sd8), .int .i64 Q8.fu.p, .int .i64 Q8.fu.s, .int .i64 Q8.fu.d, .bool Q8.fu.off, .int .i64 (Q8.calls : Int)] rfl rfl info_d11 rfl (one_disk HRo8.out) HBo8.out HXo8.out hle ?_; intro w9 k9 X9 g9; have HB9 := Lib.hid k9; have HX9 := Lib.hid X9; have HK9 := Lib.hid (HKo8.out.grown g9 (ne_some hne1)); have HR9 := Lib.hid (HRo8.out.offs (off_grown g9) (same_blk HG0.out)); have HF9 := Lib.hid (lt_more HFo8.out g9.size); obtain ⟨x0, x1, x2, x3, x4, x5, x6, x7⟩ := rd_cells (Q := Q8) (tv := (.slice tA8 tm8 tc8)) (sl := (.slice sB8 sn8 sd8)) k9; clear k9 X9 g9)
    obtain ⟨Q10, e10, h10⟩ : ∃ Q' e', Q8.syncAll = (Q', e') := ⟨_, _, rfl⟩
    have hok10 : Q10.Ok (((((M + 2) + 1) + 1) + 2) + 1) := by have := syncAll_ok HOk8.out; rw [h10] at this; exact this
    have hiz10 : Idz Q10 := by have := Idz.syncAll HIz8.out; rw [h10] at this; exact this
    refine (rsyncAll_calls (F := G) HR9.out HOk8.out (by omega) HIz8.out HF9.out).mono ?_
    rintro e w10 ho10
    clear x0 x1 x2 x3 x4 x5 x6 x7
    rw [h10] at ho10
    obtain ⟨tv10, sl10, rfl, hR10, hX10⟩ := ho10
    simp only at hR10
    have HH10 := Lib.hid h10
    obtain ⟨tA10, tc10, sB10, sn10, sd10, rfl, rfl⟩ := hR10.shape
    generalize Q10.tapes.length = tm10 at *
    have HOk10 := Lib.hid hok10
    have HIz10 := Lib.hid hiz10
    have HBo10 := Lib.hid (HB9.out.ex hX10)
    have HKo10 := Lib.hid (HK9.out.ex hX10)
    have HXo10 := Lib.hid (HX9.out.trans hX10)
    have HFo10 := Lib.hid (lt_more HF9.out hX10.size)
    have HRo10 := Lib.hid hR10
    clear h10 hok10 hiz10 hR10 hX10
    unfold DkV.rcs
    have HS4 := Lib.hid (show stepP s b x 4 Q8 = (Q10, e10) from HH10.out)
    by_cases hq10 : ¬ e10 = 0
    · have q1 : decide (e10 = 0) = false := decide_eq_false hq10
      have q2 : (e10 == 0) = false := beq_eq_false_iff_ne.2 hq10
      have q3 : (e10 != 0) = true := by rw [bne, q2]; rfl
      go_wp2_with (first
        | (refine st_agg 59 rfl (.tmp 4) (.tmp 77) rfl w.heap.size [.int .i64 Q8.sec, (.slice tA8 tm8 tc8), (.slice sB8 sn8 sd8), .int .i64 Q8.fu.p, .int .i64 Q8.fu.s, .int .i64 Q8.fu.d, .bool Q8.fu.off, .int .i64 (Q8.calls : Int)] [.int .i64 Q10.sec, (.slice tA10 tm10 tc10), (.slice sB10 sn10 sd10), .int .i64 Q10.fu.p, .int .i64 Q10.fu.s, .int .i64 Q10.fu.d, .bool Q10.fu.off, .int .i64 (Q10.calls : Int)] rfl rfl info_d11 rfl (one_disk HRo10.out) HBo10.out HXo10.out hle ?_; intro w11 k11 X11 g11; have HB11 := Lib.hid k11; have HX11 := Lib.hid X11; have HK11 := Lib.hid (HKo10.out.grown g11 (ne_some hne1)); have HR11 := Lib.hid (HRo10.out.offs (off_grown g11) (same_blk HG0.out)); have HF11 := Lib.hid (lt_more HFo10.out g11.size); obtain ⟨x0, x1, x2, x3, x4, x5, x6, x7⟩ := rd_cells (Q := Q10) (tv := (.slice tA10 tm10 tc10)) (sl := (.slice sB10 sn10 sd10)) k11; clear k11 X11 g11)
        | (refine st_agg 59 rfl (.tmp 8) (.tmp 81) rfl (w.heap.size + 1) [.int .i64 0, .slice none 0 0, .slice none 0 0, .int .i64 0, .int .i64 0, .int .i64 0, .bool false, .int .i64 0] [.int .i64 Q10.sec, (.slice tA10 tm10 tc10), (.slice sB10 sn10 sd10), .int .i64 Q10.fu.p, .int .i64 Q10.fu.s, .int .i64 Q10.fu.d, .bool Q10.fu.off, .int .i64 (Q10.calls : Int)] rfl rfl info_d11 rfl (one_disk HR11.out) HK11.out HX11.out hle1 ?_; intro wz kz Xz gz))
      (try simp only [Exit.inBlock, Exit.then])
      refine bodyPost_ret (ret_agg3 rfl _ _ (w.heap.size + 1) [.int .i64 Q10.sec, (.slice tA10 tm10 tc10), (.slice sB10 sn10 sd10), .int .i64 Q10.fu.p, .int .i64 Q10.fu.s, .int .i64 Q10.fu.d, .bool Q10.fu.off, .int .i64 (Q10.calls : Int)] rfl kz Tryz.underlying59 info_d11) rfl ?_
      rw [rrunP_go HS0.out, rrunP_go HS1.out, rrunP_go HS2.out, rrunP_go HS3.out, rrunP_stop HS4.out hq10]
      exact op3 (Q := Q10) rfl HR11.out gz HG1.out HG.out.of Xz
    replace hq10 : e10 = 0 := Classical.byContradiction hq10
    subst hq10
    go_wp2_with (first
      | (refine st_agg 59 rfl (.tmp 4) (.tmp 77) rfl w.heap.size [.int .i64 Q8.sec, (.slice tA8 tm8 tc8), (.slice sB8 sn8 sd8), .int .i64 Q8.fu.p, .int .i64 Q8.fu.s, .int .i64 Q8.fu.d, .bool Q8.fu.off, .int .i64 (Q8.calls : Int)] [.int .i64 Q10.sec, (.slice tA10 tm10 tc10), (.slice sB10 sn10 sd10), .int .i64 Q10.fu.p, .int .i64 Q10.fu.s, .int .i64 Q10.fu.d, .bool Q10.fu.off, .int .i64 (Q10.calls : Int)] rfl rfl info_d11 rfl (one_disk HRo10.out) HBo10.out HXo10.out hle ?_; intro w11 k11 X11 g11; have HB11 := Lib.hid k11; have HX11 := Lib.hid X11; have HK11 := Lib.hid (HKo10.out.grown g11 (ne_some hne1)); have HR11 := Lib.hid (HRo10.out.offs (off_grown g11) (same_blk HG0.out)); have HF11 := Lib.hid (lt_more HFo10.out g11.size); obtain ⟨x0, x1, x2, x3, x4, x5, x6, x7⟩ := rd_cells (Q := Q10) (tv := (.slice tA10 tm10 tc10)) (sl := (.slice sB10 sn10 sd10)) k11; clear k11 X11 g11)
      | (refine st_agg 59 rfl (.tmp 8) (.tmp 83) rfl (w.heap.size + 1) [.int .i64 0, .slice none 0 0, .slice none 0 0, .int .i64 0, .int .i64 0, .int .i64 0, .bool false, .int .i64 0] [.int .i64 Q10.sec, (.slice tA10 tm10 tc10), (.slice sB10 sn10 sd10), .int .i64 Q10.fu.p, .int .i64 Q10.fu.s, .int .i64 Q10.fu.d, .bool Q10.fu.off, .int .i64 (Q10.calls : Int)] rfl rfl info_d11 rfl (one_disk HR11.out) HK11.out HX11.out hle1 ?_; intro wz kz Xz gz))
    (try simp only [Exit.inBlock, Exit.then])
    refine bodyPost_ret (ret_agg3 rfl _ _ (w.heap.size + 1) [.int .i64 Q10.sec, (.slice tA10 tm10 tc10), (.slice sB10 sn10 sd10), .int .i64 Q10.fu.p, .int .i64 Q10.fu.s, .int .i64 Q10.fu.d, .bool Q10.fu.off, .int .i64 (Q10.calls : Int)] rfl kz Tryz.underlying59 info_d11) rfl ?_
    rw [rrunP_go HS0.out, rrunP_go HS1.out, rrunP_go HS2.out, rrunP_go HS3.out, rrunP_go HS4.out, runP]
    exact op3 (n := 5) (c := 0) (Q := Q10) rfl HR11.out gz HG1.out HG.out.of Xz
  replace hr0 : re = 0 := Classical.byContradiction hr0
  subst hr0
  go_wp2_with fail
  obtain ⟨Q2, e2, h2⟩ : ∃ Q' e', Q.remove s = (Q', e') := ⟨_, _, rfl⟩
  have hok2 : Q2.Ok (M + 2) := by have := remove_ok HO.out hs; rw [h2] at this; exact this
  have hiz2 : Idz Q2 := by have := Idz.remove HI.out s; rw [h2] at this; exact this
  refine (rremove_calls (F := G) s HR1.out HO.out (by omega) HI.out HF1.out).mono ?_
  rintro e w2 ho2
  clear x0 x1 x2 x3 x4 x5 x6 x7
  rw [h2] at ho2
  obtain ⟨tv2, sl2, rfl, hR2, hX2⟩ := ho2
  simp only at hR2
  have HH2 := Lib.hid h2
  obtain ⟨tA2, tc2, sB2, sn2, sd2, rfl, rfl⟩ := hR2.shape
  generalize Q2.tapes.length = tm2 at *
  have HOk2 := Lib.hid hok2
  have HIz2 := Lib.hid hiz2
  have HBo2 := Lib.hid (HB1.out.ex hX2)
  have HKo2 := Lib.hid (HK1.out.ex hX2)
  have HXo2 := Lib.hid (HX1.out.trans hX2)
  have HFo2 := Lib.hid (lt_more HF1.out hX2.size)
  have HRo2 := Lib.hid hR2
  clear h2 hok2 hiz2 hR2 hX2
  unfold DkV.rcs
  by_cases hq2 : ¬ e2 = 0
  · have q1 : decide (e2 = 0) = false := decide_eq_false hq2
    have q2 : (e2 == 0) = false := beq_eq_false_iff_ne.2 hq2
    have q3 : (e2 != 0) = true := by rw [bne, q2]; rfl
    have HS := Lib.hid (show stepP s b x 0 Q = (Q2, e2) from by show Q.anew s = _; unfold DkV.anew; rw [if_pos (by rw [HRE.out]), if_neg (by rw [HH2.out]; exact hq2), HH2.out])
    go_wp2_with (first
      | (refine st_agg 59 rfl (.tmp 4) (.tmp 26) rfl w.heap.size [.int .i64 Q.sec, (.slice tA tm tc), (.slice sB sn sd), .int .i64 Q.fu.p, .int .i64 Q.fu.s, .int .i64 Q.fu.d, .bool Q.fu.off, .int .i64 (Q.calls : Int)] [.int .i64 Q2.sec, (.slice tA2 tm2 tc2), (.slice sB2 sn2 sd2), .int .i64 Q2.fu.p, .int .i64 Q2.fu.s, .int .i64 Q2.fu.d, .bool Q2.fu.off, .int .i64 (Q2.calls : Int)] rfl rfl info_d11 rfl (one_disk HRo2.out) HBo2.out HXo2.out hle ?_; intro w3 k3 X3 g3; have HB3 := Lib.hid k3; have HX3 := Lib.hid X3; have HK3 := Lib.hid (HKo2.out.grown g3 (ne_some hne1)); have HR3 := Lib.hid (HRo2.out.offs (off_grown g3) (same_blk HG0.out)); have HF3 := Lib.hid (lt_more HFo2.out g3.size); obtain ⟨x0, x1, x2, x3, x4, x5, x6, x7⟩ := rd_cells (Q := Q2) (tv := (.slice tA2 tm2 tc2)) (sl := (.slice sB2 sn2 sd2)) k3; clear k3 X3 g3)
      | (refine st_agg 59 rfl (.tmp 8) (.tmp 30) rfl (w.heap.size + 1) [.int .i64 0, .slice none 0 0, .slice none 0 0, .int .i64 0, .int .i64 0, .int .i64 0, .bool false, .int .i64 0] [.int .i64 Q2.sec, (.slice tA2 tm2 tc2), (.slice sB2 sn2 sd2), .int .i64 Q2.fu.p, .int .i64 Q2.fu.s, .int .i64 Q2.fu.d, .bool Q2.fu.off, .int .i64 (Q2.calls : Int)] rfl rfl info_d11 rfl (one_disk HR3.out) HK3.out HX3.out hle1 ?_; intro wz kz Xz gz))
    (try simp only [Exit.inBlock, Exit.then])
    refine bodyPost_ret (ret_agg3 rfl _ _ (w.heap.size + 1) [.int .i64 Q2.sec, (.slice tA2 tm2 tc2), (.slice sB2 sn2 sd2), .int .i64 Q2.fu.p, .int .i64 Q2.fu.s, .int .i64 Q2.fu.d, .bool Q2.fu.off, .int .i64 (Q2.calls : Int)] rfl kz Tryz.underlying59 info_d11) rfl ?_
    rw [rrunP_stop HS.out hq2]
    exact op3 (Q := Q2) rfl HR3.out gz HG1.out HG.out.of Xz
  replace hq2 : e2 = 0 := Classical.byContradiction hq2
  subst hq2
  go_wp2_with (refine st_agg 59 rfl (.tmp 4) (.tmp 26) rfl w.heap.size [.int .i64 Q.sec, (.slice tA tm tc), (.slice sB sn sd), .int .i64 Q.fu.p, .int .i64 Q.fu.s, .int .i64 Q.fu.d, .bool Q.fu.off, .int .i64 (Q.calls : Int)] [.int .i64 Q2.sec, (.slice tA2 tm2 tc2), (.slice sB2 sn2 sd2), .int .i64 Q2.fu.p, .int .i64 Q2.fu.s, .int .i64 Q2.fu.d, .bool Q2.fu.off, .int .i64 (Q2.calls : Int)] rfl rfl info_d11 rfl (one_disk HRo2.out) HBo2.out HXo2.out hle ?_; intro w3 k3 X3 g3; have HB3 := Lib.hid k3; have HX3 := Lib.hid X3; have HK3 := Lib.hid (HKo2.out.grown g3 (ne_some hne1)); have HR3 := Lib.hid (HRo2.out.offs (off_grown g3) (same_blk HG0.out)); have HF3 := Lib.hid (lt_more HFo2.out g3.size); obtain ⟨x0, x1, x2, x3, x4, x5, x6, x7⟩ := rd_cells (Q := Q2) (tv := (.slice tA2 tm2 tc2)) (sl := (.slice sB2 sn2 sd2)) k3; clear k3 X3 g3)
  obtain ⟨Q4, e4, h4⟩ : ∃ Q' e', Q2.create s = (Q', e') := ⟨_, _, rfl⟩
  have hok4 : Q4.Ok ((M + 2) + 2) := by have := create_ok HOk2.out (by omega) hs; rw [h4] at this; exact this
  have hiz4 : Idz Q4 := by have := Idz.create HIz2.out s; rw [h4] at this; exact this
  refine (rcreate_calls (F := G) s HR3.out HOk2.out (by omega) HIz2.out hs HF3.out).mono ?_
  rintro e w4 ho4
  clear x0 x1 x2 x3 x4 x5 x6 x7
  rw [h4] at ho4
  obtain ⟨tv4, sl4, rfl, hR4, hX4⟩ := ho4
  simp only at hR4
  have HH4 := Lib.hid h4
  obtain ⟨tA4, tc4, sB4, sn4, sd4, rfl, rfl⟩ := hR4.shape
  generalize Q4.tapes.length = tm4 at *
  have HOk4 := Lib.hid hok4
  have HIz4 := Lib.hid hiz4
  have HBo4 := Lib.hid (HB3.out.ex hX4)
  have HKo4 := Lib.hid (HK3.out.ex hX4)
  have HXo4 := Lib.hid (HX3.out.trans hX4)
  have HFo4 := Lib.hid (lt_more HF3.out hX4.size)
  have HRo4 := Lib.hid hR4
  clear h4 hok4 hiz4 hR4 hX4
  unfold DkV.rcs
  have HS0 := Lib.hid (show stepP s b x 0 Q = (Q4, e4) from by show Q.anew s = _; unfold DkV.anew; rw [if_pos (by rw [HRE.out]), if_pos (by rw [HH2.out]), HH2.out]; rw [HH4.out])
  by_cases hq4 : ¬ e4 = 0
  · have q1 : decide (e4 = 0) = false := decide_eq_false hq4
    have q2 : (e4 == 0) = false := beq_eq_false_iff_ne.2 hq4
    have q3 : (e4 != 0) = true := by rw [bne, q2]; rfl
    go_wp2_with (first
      | (refine st_agg 59 rfl (.tmp 4) (.tmp 36) rfl w.heap.size [.int .i64 Q2.sec, (.slice tA2 tm2 tc2), (.slice sB2 sn2 sd2), .int .i64 Q2.fu.p, .int .i64 Q2.fu.s, .int .i64 Q2.fu.d, .bool Q2.fu.off, .int .i64 (Q2.calls : Int)] [.int .i64 Q4.sec, (.slice tA4 tm4 tc4), (.slice sB4 sn4 sd4), .int .i64 Q4.fu.p, .int .i64 Q4.fu.s, .int .i64 Q4.fu.d, .bool Q4.fu.off, .int .i64 (Q4.calls : Int)] rfl rfl info_d11 rfl (one_disk HRo4.out) HBo4.out HXo4.out hle ?_; intro w5 k5 X5 g5; have HB5 := Lib.hid k5; have HX5 := Lib.hid X5; have HK5 := Lib.hid (HKo4.out.grown g5 (ne_some hne1)); have HR5 := Lib.hid (HRo4.out.offs (off_grown g5) (same_blk HG0.out)); have HF5 := Lib.hid (lt_more HFo4.out g5.size); obtain ⟨x0, x1, x2, x3, x4, x5, x6, x7⟩ := rd_cells (Q := Q4) (tv := (.slice tA4 tm4 tc4)) (sl := (.slice sB4 sn4 sd4)) k5; clear k5 X5 g5)
      | (refine st_agg 59 rfl (.tmp 8) (.tmp 40) rfl (w.heap.size + 1) [.int .i64 0, .slice none 0 0, .slice none 0 0, .int .i64 0, .int .i64 0, .int .i64 0, .bool false, .int .i64 0] [.int .i64 Q4.sec, (.slice tA4 tm4 tc4), (.slice sB4 sn4 sd4), .int .i64 Q4.fu.p, .int .i64 Q4.fu.s, .int .i64 Q4.fu.d, .bool Q4.fu.off, .int .i64 (Q4.calls : Int)] rfl rfl info_d11 rfl (one_disk HR5.out) HK5.out HX5.out hle1 ?_; intro wz kz Xz gz))
    (try simp only [Exit.inBlock, Exit.then])
    refine bodyPost_ret (ret_agg3 rfl _ _ (w.heap.size + 1) [.int .i64 Q4.sec, (.slice tA4 tm4 tc4), (.slice sB4 sn4 sd4), .int .i64 Q4.fu.p, .int .i64 Q4.fu.s, .int .i64 Q4.fu.d, .bool Q4.fu.off, .int .i64 (Q4.calls : Int)] rfl kz Tryz.underlying59 info_d11) rfl ?_
    rw [rrunP_stop HS0.out hq4]
    exact op3 (Q := Q4) rfl HR5.out gz HG1.out HG.out.of Xz
  replace hq4 : e4 = 0 := Classical.byContradiction hq4
  subst hq4
  go_wp2_with (refine st_agg 59 rfl (.tmp 4) (.tmp 36) rfl w.heap.size [.int .i64 Q2.sec, (.slice tA2 tm2 tc2), (.slice sB2 sn2 sd2), .int .i64 Q2.fu.p, .int .i64 Q2.fu.s, .int .i64 Q2.fu.d, .bool Q2.fu.off, .int .i64 (Q2.calls : Int)] [.int .i64 Q4.sec, (.slice tA4 tm4 tc4), (.slice sB4 sn4 sd4), .int .i64 Q4.fu.p, .int .i64 Q4.fu.s, .int .i64 Q4.fu.d, .bool Q4.fu.off, .int .i64 (Q4.calls : Int)] rfl rfl info_d11 rfl (one_disk HRo4.out) HBo4.out HXo4.out hle ?_; intro w5 k5 X5 g5; have HB5 := Lib.hid k5; have HX5 := Lib.hid X5; have HK5 := Lib.hid (HKo4.out.grown g5 (ne_some hne1)); have HR5 := Lib.hid (HRo4.out.offs (off_grown g5) (same_blk HG0.out)); have HF5 := Lib.hid (lt_more HFo4.out g5.size); obtain ⟨x0, x1, x2, x3, x4, x5, x6, x7⟩ := rd_cells (Q := Q4) (tv := (.slice tA4 tm4 tc4)) (sl := (.slice sB4 sn4 sd4)) k5; clear k5 X5 g5)
  obtain ⟨Q6, e6, h6⟩ : ∃ Q' e', Q4.append s x = (Q', e') := ⟨_, _, rfl⟩
  have hok6 : Q6.Ok (((M + 2) + 2) + 1) := by have := append_ok (s := s) (x := x) HOk4.out; rw [h6] at this; exact this
  have hiz6 : Idz Q6 := by have := Idz.append HIz4.out s x; rw [h6] at this; exact this
  refine (rappend_calls (F := G) s x HR5.out HOk4.out (by omega) HIz4.out hx HF5.out).mono ?_
  rintro e w6 ho6
  clear x0 x1 x2 x3 x4 x5 x6 x7
  rw [h6] at ho6
  obtain ⟨tv6, sl6, rfl, hR6, hX6⟩ := ho6
  simp only at hR6
  have HH6 := Lib.hid h6
  obtain ⟨tA6, tc6, sB6, sn6, sd6, rfl, rfl⟩ := hR6.shape
  generalize Q6.tapes.length = tm6 at *
  have HOk6 := Lib.hid hok6
  have HIz6 := Lib.hid hiz6
  have HBo6 := Lib.hid (HB5.out.ex hX6)
  have HKo6 := Lib.hid (HK5.out.ex hX6)
  have HXo6 := Lib.hid (HX5.out.trans hX6)
  have HFo6 := Lib.hid (lt_more HF5.out hX6.size)
  have HRo6 := Lib.hid hR6
  clear h6 hok6 hiz6 hR6 hX6
  unfold DkV.rcs
  have HS1 := Lib.hid (show stepP s b x 1 Q4 = (Q6, e6) from HH6.out)
  by_cases hq6 : ¬ e6 = 0
  · have q1 : decide (e6 = 0) = false := decide_eq_false hq6
    have q2 : (e6 == 0) = false := beq_eq_false_iff_ne.2 hq6
    have q3 : (e6 != 0) = true := by rw [bne, q2]; rfl
    go_wp2_with (first
      | (refine st_agg 59 rfl (.tmp 4) (.tmp 47) rfl w.heap.size [.int .i64 Q4.sec, (.slice tA4 tm4 tc4), (.slice sB4 sn4 sd4), .int .i64 Q4.fu.p, .int .i64 Q4.fu.s, .int .i64 Q4.fu.d, .bool Q4.fu.off, .int .i64 (Q4.calls : Int)] [.int .i64 Q6.sec, (.slice tA6 tm6 tc6), (.slice sB6 sn6 sd6), .int .i64 Q6.fu.p, .int .i64 Q6.fu.s, .int .i64 Q6.fu.d, .bool Q6.fu.off, .int .i64 (Q6.calls : Int)] rfl rfl info_d11 rfl (one_disk HRo6.out) HBo6.out HXo6.out hle ?_; intro w7 k7 X7 g7; have HB7 := Lib.hid k7; have HX7 := Lib.hid X7; have HK7 := Lib.hid (HKo6.out.grown g7 (ne_some hne1)); have HR7 := Lib.hid (HRo6.out.offs (off_grown g7) (same_blk HG0.out)); have HF7 := Lib.hid (lt_more HFo6.out g7.size); obtain ⟨x0, x1, x2, x3, x4, x5, x6, x7⟩ := rd_cells (Q := Q6) (tv := (.slice tA6 tm6 tc6)) (sl := (.slice sB6 sn6 sd6)) k7; clear k7 X7 g7)
      | (refine st_agg 59 rfl (.tmp 8) (.tmp 51) rfl (w.heap.size + 1) [.int .i64 0, .slice none 0 0, .slice none 0 0, .int .i64 0, .int .i64 0, .int .i64 0, .bool false, .int .i64 0] [.int .i64 Q6.sec, (.slice tA6 tm6 tc6), (.slice sB6 sn6 sd6), .int .i64 Q6.fu.p, .int .i64 Q6.fu.s, .int .i64 Q6.fu.d, .bool Q6.fu.off, .int .i64 (Q6.calls : Int)] rfl rfl info_d11 rfl (one_disk HR7.out) HK7.out HX7.out hle1 ?_; intro wz kz Xz gz))
    (try simp only [Exit.inBlock, Exit.then])
    refine bodyPost_ret (ret_agg3 rfl _ _ (w.heap.size + 1) [.int .i64 Q6.sec, (.slice tA6 tm6 tc6), (.slice sB6 sn6 sd6), .int .i64 Q6.fu.p, .int .i64 Q6.fu.s, .int .i64 Q6.fu.d, .bool Q6.fu.off, .int .i64 (Q6.calls : Int)] rfl kz Tryz.underlying59 info_d11) rfl ?_
    rw [rrunP_go HS0.out, rrunP_stop HS1.out hq6]
    exact op3 (Q := Q6) rfl HR7.out gz HG1.out HG.out.of Xz
  replace hq6 : e6 = 0 := Classical.byContradiction hq6
  subst hq6
  go_wp2_with (refine st_agg 59 rfl (.tmp 4) (.tmp 47) rfl w.heap.size [.int .i64 Q4.sec, (.slice tA4 tm4 tc4), (.slice sB4 sn4 sd4), .int .i64 Q4.fu.p, .int .i64 Q4.fu.s, .int .i64 Q4.fu.d, .bool Q4.fu.off, .int .i64 (Q4.calls : Int)] [.int .i64 Q6.sec, (.slice tA6 tm6 tc6), (.slice sB6 sn6 sd6), .int .i64 Q6.fu.p, .int .i64 Q6.fu.s, .int .i64 Q6.fu.d, .bool Q6.fu.off, .int .i64 (Q6.calls : Int)] rfl rfl info_d11 rfl (one_disk HRo6.out) HBo6.out HXo6.out hle ?_; intro w7 k7 X7 g7; have HB7 := Lib.hid k7; have HX7 := Lib.hid X7; have HK7 := Lib.hid (HKo6.out.grown g7 (ne_some hne1)); have HR7 := Lib.hid (HRo6.out.offs (off_grown g7) (same_blk HG0.out)); have HF7 := Lib.hid (lt_more HFo6.out g7.size); obtain ⟨x0, x1, x2, x3, x4, x5, x6, x7⟩ := rd_cells (Q := Q6) (tv := (.slice tA6 tm6 tc6)) (sl := (.slice sB6 sn6 sd6)) k7; clear k7 X7 g7)
  obtain ⟨Q8, e8, h8⟩ : ∃ Q' e', Q6.syncT s = (Q', e') := ⟨_, _, rfl⟩
  have hok8 : Q8.Ok ((((M + 2) + 2) + 1) + 1) := by have := syncT_ok (s := s) HOk6.out; rw [h8] at this; exact this
  have hiz8 : Idz Q8 := by have := Idz.syncT HIz6.out s; rw [h8] at this; exact this
  refine (rsyncT_calls (F := G) s HR7.out HOk6.out (by omega) HIz6.out HF7.out).mono ?_
  rintro e w8 ho8
  clear x0 x1 x2 x3 x4 x5 x6 x7
  rw [h8] at ho8
  obtain ⟨tv8, sl8, rfl, hR8, hX8⟩ := ho8
  simp only at hR8
  have HH8 := Lib.hid h8
  obtain ⟨tA8, tc8, sB8, sn8, sd8, rfl, rfl⟩ := hR8.shape
  generalize Q8.tapes.length = tm8 at *
  have HOk8 := Lib.hid hok8
  have HIz8 := Lib.hid hiz8
  have HBo8 := Lib.hid (HB7.out.ex hX8)
  have HKo8 := Lib.hid (HK7.out.ex hX8)
  have HXo8 := Lib.hid (HX7.out.trans hX8)
  have HFo8 := Lib.hid (lt_more HF7.out hX8.size)
  have HRo8 := Lib.hid hR8
  clear h8 hok8 hiz8 hR8 hX8
  unfold DkV.rcs
  have HS2 := Lib.hid (show stepP s b x 2 Q6 = (Q8, e8) from HH8.out)
  by_cases hq8 : ¬ e8 = 0
  · have q1 : decide (e8 = 0) = false := decide_eq_false hq8
    have q2 : (e8 == 0) = false := beq_eq_false_iff_ne.2 hq8
    have q3 : (e8 != 0) = true := by rw [bne, q2]; rfl
    go_wp2_with (first
      | (refine st_agg 59 rfl (.tmp 4) (.tmp 57) rfl w.heap.size [.int .i64 Q6.sec, (.slice tA6 tm6 tc6), (.slice sB6 sn6 sd6), .int .i64 Q6.fu.p, .int .i64 Q6.fu.s, .int .i64 Q6.fu.d, .bool Q6.fu.off, .int .i64 (Q6.calls : Int)] [.int .i64 Q8.sec, (.slice tA8 tm8 tc8), (.slice sB8 sn8 sd8), .int .i64 Q8.fu.p, .int .i64 Q8.fu.s, .int .i64 Q8.fu.d, .bool Q8.fu.off, .int .i64 (Q8.calls : Int)] rfl rfl info_d11 rfl (one_disk HRo8.out) HBo8.out HXo8.out hle ?_; intro w9 k9 X9 g9; have HB9 := Lib.hid k9; have HX9 := Lib.hid X9; have HK9 := Lib.hid (HKo8.out.grown g9 (ne_some hne1)); have HR9 := Lib.hid (HRo8.out.offs (off_grown g9) (same_blk HG0.out)); have HF9 := Lib.hid (lt_more HFo8.out g9.size); obtain ⟨x0, x1, x2, x3, x4, x5, x6, x7⟩ := rd_cells (Q := Q8) (tv := (.slice tA8 tm8 tc8)) (sl := (.slice sB8 sn8 sd8)) k9; clear k9 X9 g9)
      | (refine st_agg 59 rfl (.tmp 8) (.tmp 61) rfl (w.heap.size + 1) [.int .i64 0, .slice none 0 0, .slice none 0 0, .int .i64 0, .int .i64 0, .int .i64 0, .bool false, .int .i64 0] [.int .i64 Q8.sec, (.slice tA8 tm8 tc8), (.slice sB8 sn8 sd8), .int .i64 Q8.fu.p, .int .i64 Q8.fu.s, .int .i64 Q8.fu.d, .bool Q8.fu.off, .int .i64 (Q8.calls : Int)] rfl rfl info_d11 rfl (one_disk HR9.out) HK9.out HX9.out hle1 ?_; intro wz kz Xz gz))
    (try simp only [Exit.inBlock, Exit.then])
    refine bodyPost_ret (ret_agg3 rfl _ _ (w.heap.size + 1) [.int .i64 Q8.sec, (.slice tA8 tm8 tc8), (.slice sB8 sn8 sd8), .int .i64 Q8.fu.p, .int .i64 Q8.fu.s, .int .i64 Q8.fu.d, .bool Q8.fu.off, .int .i64 (Q8.calls : Int)] rfl kz Tryz.underlying59 info_d11) rfl ?_
    rw [rrunP_go HS0.out, rrunP_go HS1.out, rrunP_stop HS2.out hq8]
    exact op3 (Q := Q8) rfl HR9.out gz HG1.out HG.out.of Xz
  replace hq8 : e8 = 0 := Classical.byContradiction hq8
  subst hq8
  go_wp2_with (refine st_agg 59 rfl (.tmp 4) (.tmp 57) rfl w.heap.size [.int .i64 Q6.sec, (.slice tA6 tm6 tc6), (.slice sB6 sn6 sd6), .int .i64 Q6.fu.p, .int .i64 Q6.fu.s, .int .i64 Q6.fu.d, .bool Q6.fu.off, .int .i64 (Q6.calls : Int)] [.int .i64 Q8.sec, (.slice tA8 tm8 tc8), (.slice sB8 sn8 sd8), .int .i64 Q8.fu.p, .int .i64 Q8.fu.s, .int .i64 Q8.fu.d, .bool Q8.fu.off, .int .i64 (Q8.calls : Int)] rfl rfl info_d11 rfl (one_disk HRo8.out) HBo8.out HXo8.out hle ?_; intro w9 k9 X9 g9; have HB9 := Lib.hid k9; have HX9 := Lib.hid X9; have HK9 := Lib.hid (HKo8.out.grown g9 (ne_some hne1)); have HR9 := Lib.hid (HRo8.out.offs (off_grown g9) (same_blk HG0.out)); have HF9 := Lib.hid (lt_more HFo8.out g9.size); obtain ⟨x0, x1, x2, x3, x4, x5, x6, x7⟩ := rd_cells (Q := Q8) (tv := (.slice tA8 tm8 tc8)) (sl := (.slice sB8 sn8 sd8)) k9; clear k9 X9 g9)
  obtain ⟨Q10, e10, h10⟩ : ∃ Q' e', Q8.rename s b = (Q', e') := ⟨_, _, rfl⟩
  have hok10 : Q10.Ok (((((M + 2) + 2) + 1) + 1) + 2) := by have := rename_ok HOk8.out hs hb; rw [h10] at this; exact this
  have hiz10 : Idz Q10 := by have := Idz.rename HIz8.out s b; rw [h10] at this; exact this
  refine (rrename_calls (F := G) s b HR9.out HOk8.out (by omega) HIz8.out hb HF9.out).mono ?_
  rintro e w10 ho10
  clear x0 x1 x2 x3 x4 x5 x6 x7
  rw [h10] at ho10
  obtain ⟨tv10, sl10, rfl, hR10, hX10⟩ := ho10
  simp only at hR10
  have HH10 := Lib.hid h10
  obtain ⟨tA10, tc10, sB10, sn10, sd10, rfl, rfl⟩ := hR10.shape
  generalize Q10.tapes.length = tm10 at *
  have HOk10 := Lib.hid hok10
  have HIz10 := Lib.hid hiz10
  have HBo10 := Lib.hid (HB9.out.ex hX10)
  have HKo10 := Lib.hid (HK9.out.ex hX10)
  have HXo10 := Lib.hid (HX9.out.trans hX10)
  have HFo10 := Lib.hid (lt_more HF9.out hX10.size)
  have HRo10 := Lib.hid hR10
  clear h10 hok10 hiz10 hR10 hX10
  unfold DkV.rcs
  have HS3 := Lib.hid (show stepP s b x 3 Q8 = (Q10, e10) from HH10.out)
  by_cases hq10 : ¬ e10 = 0
  · have q1 : decide (e10 = 0) = false := decide_eq_false hq10
    have q2 : (e10 == 0) = false := beq_eq_false_iff_ne.2 hq10
    have q3 : (e10 != 0) = true := by rw [bne, q2]; rfl
    go_wp2_with (first
      | (refine st_agg 59 rfl (.tmp 4) (.tmp 68) rfl w.heap.size [.int .i64 Q8.sec, (.slice tA8 tm8 tc8), (.slice sB8 sn8 sd8), .int .i64 Q8.fu.p, .int .i64 Q8.fu.s, .int .i64 Q8.fu.d, .bool Q8.fu.off, .int .i64 (Q8.calls : Int)] [.int .i64 Q10.sec, (.slice tA10 tm10 tc10), (.slice sB10 sn10 sd10), .int .i64 Q10.fu.p, .int .i64 Q10.fu.s, .int .i64 Q10.fu.d, .bool Q10.fu.off, .int .i64 (Q10.calls : Int)] rfl rfl info_d11 rfl (one_disk HRo10.out) HBo10.out HXo10.out hle ?_; intro w11 k11 X11 g11; have HB11 := Lib.hid k11; have HX11 := Lib.hid X11; have HK11 := Lib.hid (HKo10.out.grown g11 (ne_some hne1)); have HR11 := Lib.hid (HRo10.out.offs (off_grown g11) (same_blk HG0.out)); have HF11 := Lib.hid (lt_more HFo10.out g11.size); obtain ⟨x0, x1, x2, x3, x4, x5, x6, x7⟩ := rd_cells (Q := Q10) (tv := (.slice tA10 tm10 tc10)) (sl := (.slice sB10 sn10 sd10)) k11; clear k11 X11 g11)
      | (refine st_agg 59 rfl (.tmp 8) (.tmp 72) rfl (w.heap.size + 1) [.int .i64 0, .slice none 0 0, .slice none 0 0, .int .i64 0, .int .i64 0, .int .i64 0, .bool false, .int .i64 0] [.int .i64 Q10.sec, (.slice tA10 tm10 tc10), (.slice sB10 sn10 sd10), .int .i64 Q10.fu.p, .int .i64 Q10.fu.s, .int .i64 Q10.fu.d, .bool Q10.fu.off, .int .i64 (Q10.calls : Int)] rfl rfl info_d11 rfl (one_disk HR11.out) HK11.out HX11.out hle1 ?_; intro wz kz Xz gz))
    (try simp only [Exit.inBlock, Exit.then])
    refine bodyPost_ret (ret_agg3 rfl _ _ (w.heap.size + 1) [.int .i64 Q10.sec, (.slice tA10 tm10 tc10), (.slice sB10 sn10 sd10), .int .i64 Q10.fu.p, .int .i64 Q10.fu.s, .int .i64 Q10.fu.d, .bool Q10.fu.off, .int .i64 (Q10.calls : Int)] rfl kz Tryz.underlying59 info_d11) rfl ?_
    rw [rrunP_go HS0.out, rrunP_go HS1.out, rrunP_go HS2.out, rrunP_stop HS3.out hq10]
    exact op3 (Q := Q10) rfl HR11.out gz HG1.out HG.out.of Xz
  replace hq10 : e10 = 0 := Classical.byContradiction hq10
  subst hq10
  go_wp2_with (refine st_agg 59 rfl (.tmp 4) (.tmp 68) rfl w.heap.size [.int .i64 Q8.sec, (.slice tA8 tm8 tc8), (.slice sB8 sn8 sd8), .int .i64 Q8.fu.p, .int .i64 Q8.fu.s, .int .i64 Q8.fu.d, .bool Q8.fu.off, .int .i64 (Q8.calls : Int)] [.int .i64 Q10.sec, (.slice tA10 tm10 tc10), (.slice sB10 sn10 sd10), .int .i64 Q10.fu.p, .int .i64 Q10.fu.s, .int .i64 Q10.fu.d, .bool Q10.fu.off, .int .i64 (Q10.calls : Int)] rfl rfl info_d11 rfl (one_disk HRo10.out) HBo10.out HXo10.out hle ?_; intro w11 k11 X11 g11; have HB11 := Lib.hid k11; have HX11 := Lib.hid X11; have HK11 := Lib.hid (HKo10.out.grown g11 (ne_some hne1)); have HR11 := Lib.hid (HRo10.out.offs (off_grown g11) (same_blk HG0.out)); have HF11 := Lib.hid (lt_more HFo10.out g11.size); obtain ⟨x0, x1, x2, x3, x4, x5, x6, x7⟩ := rd_cells (Q := Q10) (tv := (.slice tA10 tm10 tc10)) (sl := (.slice sB10 sn10 sd10)) k11; clear k11 X11 g11)
  obtain ⟨Q12, e12, h12⟩ : ∃ Q' e', Q10.syncAll = (Q', e') := ⟨_, _, rfl⟩
  have hok12 : Q12.Ok ((((((M + 2) + 2) + 1) + 1) + 2) + 1) := by have := syncAll_ok HOk10.out; rw [h12] at this; exact this
  have hiz12 : Idz Q12 := by have := Idz.syncAll HIz10.out; rw [h12] at this; exact this
  refine (rsyncAll_calls (F := G) HR11.out HOk10.out (by omega) HIz10.out HF11.out).mono ?_
  rintro e w12 ho12
  clear x0 x1 x2 x3 x4 x5 x6 x7
  rw [h12] at ho12
  obtain ⟨tv12, sl12, rfl, hR12, hX12⟩ := ho12
  simp only at hR12
  have HH12 := Lib.hid h12
  obtain ⟨tA12, tc12, sB12, sn12, sd12, rfl, rfl⟩ := hR12.shape
  generalize Q12.tapes.length = tm12 at *
  have HOk12 := Lib.hid hok12
  have HIz12 := Lib.hid hiz12
  have HBo12 := Lib.hid (HB11.out.ex hX12)
  have HKo12 := Lib.hid (HK11.out.ex hX12)
  have HXo12 := Lib.hid (HX11.out.trans hX12)
  have HFo12 := Lib.hid (lt_more HF11.out hX12.size)
  have HRo12 := Lib.hid hR12
  clear h12 hok12 hiz12 hR12 hX12
  unfold DkV.rcs
  have HS4 := Lib.hid (show stepP s b x 4 Q10 = (Q12, e12) from HH12.out)
  by_cases hq12 : ¬ e12 = 0
  · have q1 : decide (e12 = 0) = false := decide_eq_false hq12
    have q2 : (e12 == 0) = false := beq_eq_false_iff_ne.2 hq12
    have q3 : (e12 != 0) = true := by rw [bne, q2]; rfl
    go_wp2_with (first
      | (refine st_agg 59 rfl (.tmp 4) (.tmp 77) rfl w.heap.size [.int .i64 Q10.sec, (.slice tA10 tm10 tc10), (.slice sB10 sn10 sd10), .int .i64 Q10.fu.p, .int .i64 Q10.fu.s, .int .i64 Q10.fu.d, .bool Q10.fu.off, .int .i64 (Q10.calls : Int)] [.int .i64 Q12.sec, (.slice tA12 tm12 tc12), (.slice sB12 sn12 sd12), .int .i64 Q12.fu.p, .int .i64 Q12.fu.s, .int .i64 Q12.fu.d, .bool Q12.fu.off, .int .i64 (Q12.calls : Int)] rfl rfl info_d11 rfl (one_disk HRo12.out) HBo12.out HXo12.out hle ?_; intro w13 k13 X13 g13; have HB13 := Lib.hid k13; have HX13 := Lib.hid X13; have HK13 := Lib.hid (HKo12.out.grown g13 (ne_some hne1)); have HR13 := Lib.hid (HRo12.out.offs (off_grown g13) (same_blk HG0.out)); have HF13 := Lib.hid (lt_more HFo12.out g13.size); obtain ⟨x0, x1, x2, x3, x4, x5, x6, x7⟩ := rd_cells (Q := Q12) (tv := (.slice tA12 tm12 tc12)) (sl := (.slice sB12 sn12 sd12)) k13; clear k13 X13 g13)
      | (refine st_agg 59 rfl (.tmp 8) (.tmp 81) rfl (w.heap.size + 1) [.int .i64 0, .slice none 0 0, .slice none 0 0, .int .i64 0, .int .i64 0, .int .i64 0, .bool false, .int .i64 0] [.int .i64 Q12.sec, (.slice tA12 tm12 tc12), (.slice sB12 sn12 sd12), .int .i64 Q12.fu.p, .int .i64 Q12.fu.s, .int .i64 Q12.fu.d, .bool Q12.fu.off, .int .i64 (Q12.calls : Int)] rfl rfl info_d11 rfl (one_disk HR13.out) HK13.out HX13.out hle1 ?_; intro wz kz Xz gz))
    (try simp only [Exit.inBlock, Exit.then])
    refine bodyPost_ret (ret_agg3 rfl _ _ (w.heap.size + 1) [.int .i64 Q12.sec, (.slice tA12 tm12 tc12), (.slice sB12 sn12 sd12), .int .i64 Q12.fu.p, .int .i64 Q12.fu.s, .int .i64 Q12.fu.d, .bool Q12.fu.off, .int .i64 (Q12.calls : Int)] rfl kz Tryz.underlying59 info_d11) rfl ?_
    rw [rrunP_go HS0.out, rrunP_go HS1.out, rrunP_go HS2.out, rrunP_go HS3.out, rrunP_stop HS4.out hq12]
    exact op3 (Q := Q12) rfl HR13.out gz HG1.out HG.out.of Xz
  replace hq12 : e12 = 0 := Classical.byContradiction hq12
  subst hq12
  go_wp2_with (first
    | (refine st_agg 59 rfl (.tmp 4) (.tmp 77) rfl w.heap.size [.int .i64 Q10.sec, (.slice tA10 tm10 tc10), (.slice sB10 sn10 sd10), .int .i64 Q10.fu.p, .int .i64 Q10.fu.s, .int .i64 Q10.fu.d, .bool Q10.fu.off, .int .i64 (Q10.calls : Int)] [.int .i64 Q12.sec, (.slice tA12 tm12 tc12), (.slice sB12 sn12 sd12), .int .i64 Q12.fu.p, .int .i64 Q12.fu.s, .int .i64 Q12.fu.d, .bool Q12.fu.off, .int .i64 (Q12.calls : Int)] rfl rfl info_d11 rfl (one_disk HRo12.out) HBo12.out HXo12.out hle ?_; intro w13 k13 X13 g13; have HB13 := Lib.hid k13; have HX13 := Lib.hid X13; have HK13 := Lib.hid (HKo12.out.grown g13 (ne_some hne1)); have HR13 := Lib.hid (HRo12.out.offs (off_grown g13) (same_blk HG0.out)); have HF13 := Lib.hid (lt_more HFo12.out g13.size); obtain ⟨x0, x1, x2, x3, x4, x5, x6, x7⟩ := rd_cells (Q := Q12) (tv := (.slice tA12 tm12 tc12)) (sl := (.slice sB12 sn12 sd12)) k13; clear k13 X13 g13)
    | (refine st_agg 59 rfl (.tmp 8) (.tmp 83) rfl (w.heap.size + 1) [.int .i64 0, .slice none 0 0, .slice none 0 0, .int .i64 0, .int .i64 0, .int .i64 0, .bool false, .int .i64 0] [.int .i64 Q12.sec, (.slice tA12 tm12 tc12), (.slice sB12 sn12 sd12), .int .i64 Q12.fu.p, .int .i64 Q12.fu.s, .int .i64 Q12.fu.d, .bool Q12.fu.off, .int .i64 (Q12.calls : Int)] rfl rfl info_d11 rfl (one_disk HR13.out) HK13.out HX13.out hle1 ?_; intro wz kz Xz gz))
  (try simp only [Exit.inBlock, Exit.then])
  refine bodyPost_ret (ret_agg3 rfl _ _ (w.heap.size + 1) [.int .i64 Q12.sec, (.slice tA12 tm12 tc12), (.slice sB12 sn12 sd12), .int .i64 Q12.fu.p, .int .i64 Q12.fu.s, .int .i64 Q12.fu.d, .bool Q12.fu.off, .int .i64 (Q12.calls : Int)] rfl kz Tryz.underlying59 info_d11) rfl ?_
  rw [rrunP_go HS0.out, rrunP_go HS1.out, rrunP_go HS2.out, rrunP_go HS3.out, rrunP_go HS4.out, runP]
  exact op3 (n := 5) (c := 0) (Q := Q12) rfl HR13.out gz HG1.out HG.out.of Xz
end Go.Proofs.YtcffkmlnbnjibaaGreat
