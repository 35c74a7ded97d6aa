/- Walks: a disk: a file more; an empty disk. -/
import Derived.Test.YtcffkmlnbnjibaaGreatDkD
namespace Go.Proofs.YtcffkmlnbnjibaaGreat
open Go.RowKit Go.Maps
section
variable {w w' : World} {g : Nat} {F : Nat → Prop} {Q : DkV} {tm fg fz : Nat} {FF : Nat → Prop} {l : List (Lit × Value)} {tb : Int → Nat}
/-- The folder turns. -/
theorem DkR.fo_ {fo : FoV} (h : DkR w g F Q tm fg fz FF l tb) (hb : Off FF w w') (hF : FoP w' fg (Fresh FF w w') fo) (hi : ∀ id ∈ fo.ids, (inK id, ptrV (tb id)) ∈ l) : DkR w' g (Fresh F w w') { Q with fo := fo } tm fg fz (Fresh FF w w') l tb := by
  have h1 := h.blk.lt
  have h2 := h.fub.lt
  have h3 := h.tpb.lt
  have hn : ∀ k, k < w.heap.size → ¬ FF k → ¬ Fresh FF w w' k := fun k hk hf hk' => by
    rcases hk' with hk' | hk'
    · exact hf hk'
    · omega
  refine { h with blk := h.blk.off hb h.ffg, fob := hF, fub := h.fub.off hb h.ffz, tpb := h.tpb.off hb h.fft, co := hi, ffg := hn _ h1 h.ffg, ffz := hn _ h2 h.ffz, fft := hn _ h3 h.fft, fg_ := .inl h.fg_, fz_ := .inl h.fz_, ft_ := .inl h.ft_, sub := fun k hk => ?_, ffl := fun k hk => ?_, el := fun p hp => ?_ }
  · obtain ⟨id, e, ht⟩ := h.el p hp
    exact ⟨id, e, { ht.keep (hb.block _ ht.lt ht.ff) with f := .inl ht.f, ff := hn _ ht.lt ht.ff }⟩
  · rcases hk with hk | hk
    · exact .inl (h.sub k hk)
    · exact .inr hk
  · rcases hk with hk | hk
    · exact Nat.lt_of_lt_of_le (h.ffl k hk) hb.size
    · exact hk.2
/-- A tape more, which no name has yet. -/
theorem DkR.tape_ {Q' : DkV} {t : TpV} (h : DkR w g F Q tm fg fz FF l tb) (hb : Off (· = g) w w') (hB : Blk w' g 27 (Q'.cells tm fg fz)) (e1 : Q'.fo = Q.fo) (e2 : Q'.fu = Q.fu) (e3 : Q'.tapes = Q.tapes ++ [t]) : DkR w' g F Q' tm fg fz FF l tb := by
  refine { h with ffl := fun k hk => Nat.lt_of_lt_of_le (h.ffl k hk) hb.size, blk := hB, fob := by rw [e1]; exact h.fob.off hb (fun k _ hk e => h.ffg (e ▸ hk)), fub := by rw [e2]; exact h.fub.off hb (fun e => h.gz e.symm), tpb := h.tpb.off hb (fun e => h.gt e.symm), co := by rw [e1]; exact h.co, el := fun p hp => ?_ }
  obtain ⟨id, e, ht⟩ := h.el p hp
  rw [e3]
  have hk := ht.keep (hb.block _ ht.lt ht.ng)
  refine ⟨id, e, { hk with i2 := by have := ht.i2; simp; omega, tp := ?_ }⟩
  obtain ⟨t', h1, h2⟩ := hk.tp
  exact ⟨t', by rw [List.getElem?_append_left (List.getElem?_eq_some_iff.1 h1).1]; exact h1, h2⟩
/-- .. and its number leads to its block. -/
theorem DkR.sto_ {t : TpV} {ts : List TpV} {b : Nat} (h : DkR w g F Q tm fg fz FF l tb) (hts : Q.tapes = ts ++ [t]) (hg : w.grownBy w' (some tm)) (hM : MapB w' Tryz.prog 3 tm (stoL (inK ((ts.length : Int) + 1)) (ptrV b) l)) (hi : ∀ id ∈ Q.fo.ids, id ≤ (ts.length : Int))
    (hB : Blk w b 148 t.cs) (h1 : F b) (h2 : ¬ FF b) (h3 : b ≠ g) (h4 : b ≠ fz) (h5 : b ≠ tm) (hbl : ∀ id, (inK id, ptrV (tb id)) ∈ l → tb id ≠ b) :
    DkR w' g F Q tm fg fz FF (stoL (inK ((ts.length : Int) + 1)) (ptrV b) l) (fun i => if i = (ts.length : Int) + 1 then b else tb i) := by
  have hO : Off (· = tm) w w' := off_grown hg
  refine { h with blk := h.blk.off hO h.gt, fob := h.fob.off hO (fun k _ hk e => h.fft (e ▸ hk)), fub := h.fub.off hO h.zt, tpb := hM, ffl := fun k hk => Nat.lt_of_lt_of_le (h.ffl k hk) hg.size, co := fun id hid => ?_, el := fun p hp => ?_, inj := fun x y hx hy e => ?_ }
  · rcases (stoL_mem _ _ _ _).1 hp with rfl | ⟨hp, hk⟩
    · refine ⟨(ts.length : Int) + 1, by rw [if_pos rfl], ?_⟩
      rw [if_pos rfl]
      exact ⟨by omega, by rw [hts]; simp, ⟨t, by rw [hts]; simp, hB.off hO h5⟩, h1, h2, h3, h4, h5⟩
    · obtain ⟨id, rfl, ht⟩ := h.el p hp
      rw [sameI, decide_eq_false_iff_not] at hk
      refine ⟨id, by rw [if_neg hk], ?_⟩
      rw [if_neg hk]
      exact ht.keep (hO.block _ ht.lt ht.nm)
  · have hne : ¬ id = (ts.length : Int) + 1 := by have := hi id hid; omega
    rw [if_neg hne]
    exact (stoL_mem _ _ _ _).2 (.inr ⟨h.co id hid, by rw [sameI]; exact decide_eq_false hne⟩)
  · have hl : ∀ x, (inK x, ptrV (if x = (ts.length : Int) + 1 then b else tb x)) ∈ stoL (inK ((ts.length : Int) + 1)) (ptrV b) l → x = (ts.length : Int) + 1 ∨ (x ≠ (ts.length : Int) + 1 ∧ (inK x, ptrV (tb x)) ∈ l) := fun x hx => by
      by_cases ex : x = (ts.length : Int) + 1
      · exact .inl ex
      · rw [if_neg ex] at hx
        rcases (stoL_mem _ _ _ _).1 hx with e' | ⟨hx, _⟩
        · injection e' with e1 _
          injection e1 with _ e2
          exact absurd e2 ex
        · exact .inr ⟨ex, hx⟩
    rcases hl x hx with ex | ⟨ex, hx⟩
    · rcases hl y hy with ey | ⟨ey, hy⟩
      · rw [ex, ey]
      · rw [if_pos ex, if_neg ey] at e
        exact absurd e.symm (hbl y hy)
    · rcases hl y hy with ey | ⟨ey, hy⟩
      · rw [if_neg ex, if_pos ey] at e
        exact absurd e (hbl x hx)
      · rw [if_neg ex, if_neg ey] at e
        exact h.inj x y hx hy e
theorem put_ids {q : FoV} {s : ByteArray} {i x : Int} : x ∈ (q.doC ⟨false, ⟨#[]⟩, true, s, i⟩).ids ↔ x ∈ q.ids ∨ x = i := by
  rw [FoV.ids_mem, FoV.ids_mem]
  unfold FoV.doC
  constructor
  · rintro (h | ⟨c, hc, h1, h2⟩)
    · exact .inl (.inl h)
    · rcases List.mem_append.1 hc with hc | hc
      · exact .inl (.inr ⟨c, hc, h1, h2⟩)
      · rcases List.mem_cons.1 hc with rfl | hc
        · exact .inr h2.symm
        · cases hc
  · rintro ((h | ⟨c, hc, h1, h2⟩) | h)
    · exact .inl h
    · exact .inr ⟨c, by simp [hc], h1, h2⟩
    · exact .inr ⟨⟨false, ⟨#[]⟩, true, s, i⟩, by simp, rfl, h.symm⟩
end
/-- A disk with a file more. -/
def DkV.add (Q : DkV) (s : ByteArray) (t : TpV) : DkV := { Q with tapes := Q.tapes ++ [t], fo := Q.fo.doC ⟨false, ⟨#[]⟩, true, s, (Q.tapes.length : Int) + 1⟩ }
set_option maxHeartbeats 2000000 in
set_option maxRecDepth 100000 in
theorem dadd_calls {w : World} {g : Nat} {F : Nat → Prop} {Q : DkV} {tm fg fz : Nat} {FF : Nat → Prop} {l : List (Lit × Value)} {tb : Int → Nat} (h : DkR w g F Q tm fg fz FF l tb) {M : Nat} (ho : Q.Ok M) (hM : M ≤ 900000) (s : ByteArray) (hs : s.size ≤ 9223372036854775807) (hn : (findM s Q.fo.now).2 = false)
    (t : TpV) (b : Nat) (hB : Blk w b 148 t.cs) (h1 : F b) (h2 : ¬ FF b) (h3 : b ≠ g) (h4 : b ≠ fz) (h5 : b ≠ tm) (hbl : ∀ id, (inK id, ptrV (tb id)) ∈ l → tb id ≠ b) (hll : l.length ≤ 1000000) :
    Calls Tryz.prog 53 #[.pointer (some ⟨g, 0, none⟩), .string s, ptrV b] w fun e w' => e = .returned (.tuple #[]) ∧ (∃ FF' l' tb', DkR w' g (Fresh F w w') (Q.add s t) tm fg fz FF' l' tb' ∧ l'.length ≤ l.length + 1) ∧ Off F w w' := by
  have hid : ∀ id ∈ Q.fo.ids, id ≤ (Q.tapes.length : Int) := fun id hid => (h.tape hid).i2
  have htl : Q.tapes.length ≤ 1000000 := by have := ho.tl; omega
  have c1 : w.cell? ⟨g, 1, none⟩ = some (.int .i64 (Q.tapes.length : Int)) := by rw [h.blk.cell]; rfl
  have f1 := h.blk.frozen 1
  have hO1 := off_set w g 1 (.int .i64 ((Q.tapes.length : Int) + 1))
  have hB1 := h.blk.setCell (i := 1) (.int .i64 ((Q.tapes.length : Int) + 1))
  have hR1 := h.tape_ (Q' := { Q with tapes := Q.tapes ++ [t] }) (t := t) hO1 (by unfold DkV.cells at hB1 ⊢; simpa using hB1) rfl rfl rfl
  have hBb1 := hB.off hO1 h3
  have HFN := Lib.hid hn
  have HO := Lib.hid ho
  have HF0 := Lib.hid h.fg_
  have HOff1 := Lib.hid hO1
  clear hB1 hO1 h hn ho
  obtain ⟨W1, hW1⟩ : ∃ W1, W1 = w.setCell ⟨g, 1, none⟩ (.int .i64 ((Q.tapes.length : Int) + 1)) := ⟨_, rfl⟩
  rw [← hW1] at hR1 hBb1 HOff1
  obtain ⟨w2, hrun, hM2, hg2⟩ := MapB.store (hR1.ex (Ex.refl W1).drew).tpb intKey Tryz.underlying23 (by unfold maxLen; omega) (ptrV b) (key_int (x := (Q.tapes.length : Int) + 1) (by omega) (by omega))
  have hR2 := (hR1.ex (Ex.refl W1).drew).sto_ (t := t) (ts := Q.tapes) (b := b) rfl hg2 hM2 hid (hBb1.ex (Ex.refl W1).drew) h1 h2 h3 h4 h5 hbl
  have HR1 := Lib.hid hR1
  have HR2 := Lib.hid hR2
  have HG2 := Lib.hid hg2
  have a1 : W1.cell? ⟨g, 1, none⟩ = some (.int .i64 ((Q.tapes.length : Int) + 1)) := by rw [HR1.out.blk.cell]; simp [DkV.cells]
  have a3 : W1.cell? ⟨g, 3, none⟩ = some (.map (some tm)) := by rw [HR1.out.blk.cell]; rfl
  have b1 : w2.cell? ⟨g, 1, none⟩ = some (.int .i64 ((Q.tapes.length : Int) + 1)) := by rw [HR2.out.blk.cell]; simp [DkV.cells]
  have b3 : w2.cell? ⟨g, 3, none⟩ = some (.map (some tm)) := by rw [HR2.out.blk.cell]; rfl
  have b4 : w2.cell? ⟨g, 4, none⟩ = some (ptrV fg) := by rw [HR2.out.blk.cell]; rfl
  have HW1 := Lib.hid hW1
  clear hR1 hBb1 hM2 hg2 hR2 hW1
  go_enter Tryz.func53, Tryz.ntmps53
  go_wp2_with fail
  rw [← HW1.out]
  go_region_held3 (fun w' => w'.cell? ⟨g, 1, none⟩ = some (.int .i64 ((Q.tapes.length : Int) + 1)) ∧ w'.cell? ⟨g, 3, none⟩ = some (.map (some tm))) (go_keep) (fail)
  clear a1 a3 hrun
  go_wp2_with fail
  go_region_held3 (fun w' => w'.cell? ⟨g, 1, none⟩ = some (.int .i64 ((Q.tapes.length : Int) + 1)) ∧ w'.cell? ⟨g, 4, none⟩ = some (ptrV fg)) (go_keep) ((go_at_call 112; refine (foput_calls s ((Q.tapes.length : Int) + 1) hs (by omega) (by omega) HO.out.fo (by omega) (FoP.ex HR2.out.fob (Ex.refl w2).drew)).mono ?_; rintro e w3 ⟨rfl, hF3, hO3⟩; have HF3 := Lib.hid hF3; have HO3 := Lib.hid hO3; have d1 := (HO3.out.cell (show w2.drew.cell? ⟨g, 1, none⟩ = some (.int .i64 ((Q.tapes.length : Int) + 1)) from b1) HR2.out.ffg); have d4 := (HO3.out.cell (show w2.drew.cell? ⟨g, 4, none⟩ = some (ptrV fg) from b4) HR2.out.ffg); clear hF3 hO3))
  go_wp2_with fail
  go_end0
  have he : Q.fo.put s ((Q.tapes.length : Int) + 1) = (Q.fo.doC ⟨false, ⟨#[]⟩, true, s, (Q.tapes.length : Int) + 1⟩, true) := by unfold FoV.put; rw [HFN.out]; rfl
  have hF3 := HF3.out
  rw [he] at hF3
  have hR3 := (HR2.out.ex (Ex.refl w2).drew).fo_ HO3.out hF3 (fun id hid => by
    rcases put_ids.1 hid with h | h
    · exact HR2.out.co id h
    · subst h
      rw [if_pos rfl]
      exact (stoL_mem _ _ _ _).2 (.inl rfl))
  have z1 := HOff1.out.size
  have z2 := HG2.out.size
  have z3 := HO3.out.size
  refine ⟨rfl, ⟨_, _, _, hR3.more (fun k hk => ?_), stoL_len _ _ _⟩, ?_⟩
  · rcases hk with hk | hk
    · exact .inl hk
    · exact .inr ⟨Nat.le_trans z1 (Nat.le_trans z2 hk.1), hk.2⟩
  · have q1 : Off F w W1 := HOff1.out.mono fun k _ e => e ▸ HR2.out.fg_
    have q2 : Off F W1 w2 := (Ex.off (Ex.refl W1).drew F).trans ((off_grown HG2.out).mono fun k _ e => e ▸ HR2.out.ft_)
    have q3 : Off F w2 w3 := (Ex.off (Ex.refl w2).drew F).trans (HO3.out.mono fun k _ hk => HR2.out.sub k hk)
    exact (q1.trans q2).trans q3
/-- An empty disk. -/
def DkV.fresh (n : Int) : DkV := ⟨n, [], ⟨[], []⟩, FuV.calm, 0⟩
set_option maxHeartbeats 2000000 in
theorem dnew_calls (n : Int) (w : World) (h1 : 1 ≤ n) (h2 : n ≤ 4096) :
    Calls Tryz.prog 29 #[.int .i64 n] w fun e w' => (∃ g, e = .returned (.tuple #[ptrV g, .int .i64 0]) ∧ w.heap.size ≤ g ∧ DkP w' g (Fresh (fun _ => False) w w') (DkV.fresh n)) ∧ Ex w w' := by
  have hmm := @run_makeMap Tryz.prog
  have d1 : decide (n < 1) = false := decide_eq_false (by omega)
  have d2 : decide (4096 < n) = false := decide_eq_false (by omega)
  have hXB := ex_alloc (Ex.refl w) (.map #[] 0)
  have HXB := Lib.hid hXB
  have HB0 := Lib.hid (MapB.made w Tryz.prog 3)
  have hz1 : (w.alloc (.map #[] 0)).heap.size = w.heap.size + 1 := by simp
  have HZ1 := Lib.hid hz1
  clear hXB hz1
  go_enter Tryz.func29, Tryz.ntmps29
  go_wp2_with fail
  refine (fonew_calls _).mono ?_
  rintro e w1 ⟨fg, rfl, hfg, hF1, hb1⟩
  have HF1 := Lib.hid hF1
  have HX1 := Lib.hid hb1
  clear hF1 hb1
  go_wp2_with fail
  refine (fnew_calls _).mono ?_
  rintro e w2 ⟨fz, rfl, hfz, hZ2, hb2⟩
  have HZ2 := Lib.hid hZ2
  have HX2 := Lib.hid hb2
  clear hZ2 hb2
  go_wp2_with fail
  go_ret2
  rw [HZ1.out] at hfg
  have z1 := HX1.out.size
  rw [HZ1.out] at z1
  have z2 := HX2.out.size
  have hX3 := ex_alloc (Ex.refl w2) (.cells #[.int .i64 n, .int .i64 0, .int .i64 0, .map (some w.heap.size), .pointer (some ⟨fg, 0, none⟩), .pointer (some ⟨fz, 0, none⟩)] 27)
  have hz3 : (w2.alloc (.cells #[.int .i64 n, .int .i64 0, .int .i64 0, .map (some w.heap.size), .pointer (some ⟨fg, 0, none⟩), .pointer (some ⟨fz, 0, none⟩)] 27)).heap.size = w2.heap.size + 1 := by simp
  have l1 : fg < w1.heap.size := by
    rcases FoP.sub HF1.out with h | h
    · exact h.elim
    · exact h.2
  have l2 := HZ2.out.lt
  have ids0 : (⟨[], []⟩ : FoV).ids = [] := rfl
  refine ⟨⟨w2.heap.size, rfl, by omega, w.heap.size, fg, fz, Fresh (fun _ => False) (w.alloc (.map #[] 0)) w1, [], fun _ => 0, ?_⟩, ((HXB.out.trans HX1.out).trans HX2.out).trans hX3⟩
  have hFF : ∀ k, Fresh (fun _ => False) (w.alloc (.map #[] 0)) w1 k → w.heap.size + 1 ≤ k ∧ k < w1.heap.size := fun k hk => by
    rcases hk with hk | hk
    · exact hk.elim
    · rw [HZ1.out] at hk; exact hk
  have hG : ∀ k, w.heap.size ≤ k → k < w2.heap.size + 1 → Fresh (fun _ => False) w (w2.alloc (.cells #[.int .i64 n, .int .i64 0, .int .i64 0, .map (some w.heap.size), .pointer (some ⟨fg, 0, none⟩), .pointer (some ⟨fz, 0, none⟩)] 27)) k := fun k a b => .inr ⟨a, by rw [hz3]; exact b⟩
  exact { blk := Blk.new w2 _ _, fob := (HF1.out.ex HX2.out).ex hX3, fub := HZ2.out.ex hX3, tpb := ((HB0.out.ex HX1.out).ex HX2.out).ex hX3, el := (fun p hp => by cases hp), co := (fun id hid => by cases hid), inj := (fun a b ha => by cases ha), gz := by omega, gt := by omega, zt := by omega, ffg := (fun h => by have := hFF _ h; omega), ffz := (fun h => by have := hFF _ h; omega), fft := (fun h => by have := hFF _ h; omega), fg_ := hG _ (by omega) (by omega), fz_ := hG _ (by omega) (by omega), ft_ := hG _ (by omega) (by omega), sub := (fun k hk => by have := hFF _ hk; exact hG _ (by omega) (by omega)), ffl := (fun k hk => by have := hFF _ hk; rw [hz3]; omega) }
theorem dnew_no (n : Int) (w : World) (h : n < 1 ∨ 4096 < n) : Calls Tryz.prog 29 #[.int .i64 n] w fun e w' => e = .returned (.tuple #[.pointer none, .int .i64 2]) ∧ Ex w w' := by
  by_cases h1 : n < 1
  · have d1 : decide (n < 1) = true := decide_eq_true h1
    go_enter Tryz.func29, Tryz.ntmps29
    go_wp2_with fail
    go_ret2
    exact ⟨rfl, Ex.refl _⟩
  · have d1 : decide (n < 1) = false := decide_eq_false h1
    have d2 : decide (4096 < n) = true := decide_eq_true (by omega)
    go_enter Tryz.func29, Tryz.ntmps29
    go_wp2_with fail
    go_ret2
    exact ⟨rfl, Ex.refl _⟩
end Go.Proofs.YtcffkmlnbnjibaaGreat
