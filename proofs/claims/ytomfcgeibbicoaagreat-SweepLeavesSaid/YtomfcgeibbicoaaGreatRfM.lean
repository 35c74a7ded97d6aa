/- The document's publish: the steps; behind each call each number has its tape. -/
import Derived.Test.YtomfcgeibbicoaaGreatRfL
import Derived.Test.YtomfcgeibbicoaaGreatPbB
namespace Go.Proofs.YtomfcgeibbicoaaGreat
open Go.RowKit
theorem Idz.same {Q Q' : DkV} (h : Idz Q) (e1 : Q'.fo = Q.fo) (e2 : Q'.tapes.length = Q.tapes.length) : Idz Q' := fun x hx => by rw [e1] at hx; rw [e2]; exact h x hx
theorem ids_do (q : FoV) (c : Chg) (x : Int) : x ∈ (q.doC c).ids ↔ x ∈ q.ids ∨ (c.pu = true ∧ c.id = x) := by
  rw [FoV.ids_mem, FoV.ids_mem]
  show ((∃ m ∈ q.kept, m.pl = x) ∨ ∃ d ∈ q.ch ++ [c], d.pu = true ∧ d.id = x) ↔ _
  simp only [List.mem_append, List.mem_singleton]
  constructor
  · rintro (h | ⟨d, hd | rfl, h1, h2⟩)
    · exact .inl (.inl h)
    · exact .inl (.inr ⟨d, hd, h1, h2⟩)
    · exact .inr ⟨h1, h2⟩
  · rintro ((h | ⟨d, hd, h1, h2⟩) | ⟨h1, h2⟩)
    · exact .inl h
    · exact .inr ⟨d, .inl hd, h1, h2⟩
    · exact .inr ⟨c, .inr rfl, h1, h2⟩
theorem Idz.ask {Q : DkV} (h : Idz Q) (b : Bool) : Idz (Q.ask b).1 := h.same rfl rfl
theorem Idz.add {Q : DkV} (h : Idz Q) (s : ByteArray) (t : TpV) : Idz (Q.add s t) := fun x hx => by
  unfold DkV.add at hx ⊢
  rw [ids_do] at hx
  simp only [List.length_append, List.length_cons, List.length_nil]
  rcases hx with hx | ⟨_, e⟩
  · have := h x hx; omega
  · simp only at e; omega
theorem Idz.fo {Q : DkV} (h : Idz Q) (fo : FoV) (hf : ∀ x ∈ fo.ids, x ∈ Q.fo.ids) : Idz { Q with fo := fo } := fun x hx => h x (hf x hx)
theorem rdrop_ids (q : FoV) (s : ByteArray) : ∀ x ∈ (q.drop s).1.ids, x ∈ q.ids := by
  intro x hx
  unfold FoV.drop at hx
  split at hx
  · rcases (ids_do _ _ _).1 hx with h | ⟨h, _⟩
    · exact h
    · cases h
  · exact hx
theorem rmove_ids {q : FoV} (a b : ByteArray) : ∀ x ∈ (q.move a b).1.ids, x ∈ q.ids := by
  intro x hx
  unfold FoV.move at hx
  split at hx
  · rename_i hf
    split at hx
    · exact hx
    · rcases (ids_do _ _ _).1 hx with h | ⟨_, e⟩
      · exact h
      · rw [← e]
        obtain ⟨m, hm, hmi, _, e2⟩ := findM_mem (P := fun m => m.pl ∈ q.ids) (s := a) (l := q.now) (fun m hm => by
          have hL : q.now ∈ q.lists := List.mem_of_getElem? (lists_last q)
          unfold FoV.ids
          rw [setI_mem, List.mem_flatMap]
          exact ⟨_, hL, List.mem_map.2 ⟨m, hm, rfl⟩⟩) hf
        show (findM a q.now).1 ∈ q.ids
        rw [e2]
        exact hmi
  · exact hx
theorem Idz.create {Q : DkV} (h : Idz Q) (s : ByteArray) : Idz (Q.create s).1 := by
  unfold DkV.create
  repeat' split
  all_goals first | exact h | exact (h.ask _).add _ _ | exact h.ask _
theorem Idz.append {Q : DkV} (h : Idz Q) (s x : ByteArray) : Idz (Q.append s x).1 := by
  unfold DkV.append
  repeat' split
  all_goals first | exact h | exact (h.ask _).set _ _ | exact h.ask _
theorem Idz.syncT {Q : DkV} (h : Idz Q) (s : ByteArray) : Idz (Q.syncT s).1 := by
  unfold DkV.syncT
  repeat' split
  all_goals first | exact h | exact (h.ask _).set _ _ | exact h.ask _
theorem Idz.cutT {Q : DkV} (h : Idz Q) (s : ByteArray) (n : Int) : Idz (Q.cutT s n).1 := by
  unfold DkV.cutT
  repeat' split
  all_goals first | exact h | exact (h.ask _).set _ _ | exact h.ask _
theorem Idz.rename {Q : DkV} (h : Idz Q) (s b : ByteArray) : Idz (Q.rename s b).1 := by
  unfold DkV.rename
  repeat' split
  all_goals first | exact h | exact (h.ask _).fo _ (rmove_ids s b) | exact h.ask _
theorem Idz.remove {Q : DkV} (h : Idz Q) (s : ByteArray) : Idz (Q.remove s).1 := by
  unfold DkV.remove
  repeat' split
  all_goals first | exact h | exact (h.ask _).fo _ (rdrop_ids _ s) | exact h.ask _
theorem Idz.syncAll {Q : DkV} (h : Idz Q) : Idz Q.syncAll.1 := by
  unfold DkV.syncAll
  repeat' split
  all_goals first | exact h | exact (h.ask _).fo _ (fun x hx => settle_ids hx) | exact h.ask _
theorem Idz.fault {Q : DkV} (h : Idz Q) (k a : Int) : Idz (Q.fault k a).1 := by
  unfold DkV.fault
  repeat' split
  all_goals first | exact h | exact h.same rfl rfl
theorem Idz.fresh (n : Int) : Idz (DkV.fresh n) := fun x hx => by
  have := (FoV.ids_mem _ _).1 hx
  rcases this with ⟨m, hm, _⟩ | ⟨c, hc, _⟩
  · cases hm
  · cases hc
theorem Idz.step {Q : DkV} (h : Idz Q) (s b x : ByteArray) (k : Nat) : Idz (stepP s b x k Q).1 := by
  unfold stepP
  split
  · unfold DkV.anew
    split
    · split
      · exact (h.remove s).create s
      · exact h.remove s
    · exact h.create s
  · exact h.append _ _
  · exact h.syncT _
  · exact h.rename _ _
  · exact h.syncAll
theorem Idz.run {s b x : ByteArray} : ∀ (n k : Nat) {Q : DkV}, Idz Q → Idz (runP s b x n k Q).1
  | 0, _, _, h => h
  | n + 1, k, Q, h => by
    unfold runP
    split
    · exact Idz.run n (k + 1) (h.step s b x k)
    · exact h.step s b x k
theorem Idz.pub {Q : DkV} (h : Idz Q) (s b x : ByteArray) : Idz (Q.pub s b x).1 := by
  unfold DkV.pub
  split
  · exact (h.run 5 0).remove _
  · exact h.run 5 0
/-- A struct and two words as results. -/
theorem ret_agg3 {fn : Func} {p u v : Tmp} {T : TypeId} {fs : Array Field} (h : fn.results = #[.cell p T, .tmp u, .tmp v]) (tmps : Array Value) (w : World) (g : Nat) (cs : List Value) (hp : tmps.getD p undef = .pointer (some ⟨g, 0, none⟩)) (hg : Blk w g T cs)
    (hu : Tryz.prog.underlying T = some (.struct fs)) (hi : (Tryz.prog.info? T).map (·.size) = some cs.length) :
    (results fn tmps).run Tryz.prog w = .ok (.tuple #[.agg cs.toArray, tmps.getD u undef, tmps.getD v undef]) w := by
  have hl := run_loadVar_row (P := Tryz.prog) w g T T cs.toArray (0, 0) _ hg hu rfl (by simpa using hi)
  have hp2 : tmps[p]?.getD undef = .pointer (some ⟨g, 0, none⟩) := by simpa using hp
  simp only [results, h]
  simp [Result.andThen, hp2, asAddr, hl]
/-- What a writing of the document gives: the disk, how many steps, the error. -/
def Op3 (F : Nat → Prop) (w : World) (r : DkV × Nat × Int) (w' : World) (e : Ending) : Prop := ∃ tv sl, e = .returned (.tuple #[.agg (r.1.rcs tv sl).toArray, .int .i64 (r.2.1 : Int), .int .i64 r.2.2]) ∧ RdV F w' r.1 tv sl ∧ Ex w w'
theorem op3 {F G : Nat → Prop} {w wn wz : World} {g : Nat} {Q : DkV} {n : Nat} {c : Int} {tv sl : Value} {e : Ending} (he : e = .returned (.tuple #[.agg (Q.rcs tv sl).toArray, .int .i64 (n : Int), .int .i64 c])) (hR : RdV G wn Q tv sl) (hg : wn.grownBy wz (some g)) (h1 : G g) (hG : ∀ k, F k → G k) (hX : Ex w wz) : Op3 F w (Q, n, c) wz e :=
  ⟨tv, sl, he, (hR.offs (off_grown hg) fun k hk => by rw [hk]; exact h1).less hG, hX⟩
theorem rrunP_stop {s b x : ByteArray} {n k : Nat} {Q Q' : DkV} {e : Int} (h : stepP s b x k Q = (Q', e)) (he : ¬ e = 0) : runP s b x (n + 1) k Q = (Q', k, e) := by
  rw [runP, h, if_neg he]
theorem rrunP_go {s b x : ByteArray} {n k : Nat} {Q Q' : DkV} (h : stepP s b x k Q = (Q', 0)) : runP s b x (n + 1) k Q = runP s b x n (k + 1) Q' := by
  rw [runP, h, if_pos rfl]
theorem one_disk {F : Nat → Prop} {w : World} {Q : DkV} {tv sl : Value} (h : RdV F w Q tv sl) : ∀ x ∈ [Value.int .i64 Q.sec, tv, sl, .int .i64 Q.fu.p, .int .i64 Q.fu.s, .int .i64 Q.fu.d, .bool Q.fu.off, .int .i64 (Q.calls : Int)], x.oneCell' = true := rcs_one Q h
end Go.Proofs.YtomfcgeibbicoaaGreat
