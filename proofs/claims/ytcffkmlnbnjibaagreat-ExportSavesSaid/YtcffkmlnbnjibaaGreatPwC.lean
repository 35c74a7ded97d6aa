/- Plain law: what writing a file leaves, and what is there behind a crash. -/
import Derived.Test.YtcffkmlnbnjibaaGreatPwB
namespace Go.Proofs.YtcffkmlnbnjibaaGreat
open Go.RowKit Go.Maps
/-- All that is there lasts. -/
structure Clean (Q : DkV) : Prop where
  ch : Q.fo.ch = []
  id : ∀ m ∈ Q.fo.kept, 1 ≤ m.pl ∧ m.pl ≤ (Q.tapes.length : Int) ∧ (Q.tapeAt m.pl).kp = (Q.tapeAt m.pl).nw
/-- The fuse has no fault but a loss of power. -/
structure Lit0 (Q : DkV) : Prop where
  p : Q.fu.p = -1
  s : Q.fu.s = -1
  off : Q.fu.off = false
/-- There is room for a file more. -/
structure Room (Q : DkV) (x : ByteArray) : Prop where
  ids : Q.fo.ids.length ≤ 63
  sec : (Q.taken : Int) + (cntS x.size : Int) ≤ Q.sec
/-- What a name has. -/
def DkV.cont (Q : DkV) (y : ByteArray) : Option ByteArray := if (findM y Q.fo.kept).2 = true then some (Q.tapeAt (findM y Q.fo.kept).1).nw else none
def putC (s : ByteArray) (N : Int) : Chg := ⟨false, ⟨#[]⟩, true, s, N⟩
def dropC (s : ByteArray) : Chg := ⟨true, s, false, ⟨#[]⟩, 0⟩
def moveC (s b : ByteArray) (N : Int) : Chg := ⟨true, s, true, b, N⟩
/-- What writing leaves: the power has gone on the way; or all is done. -/
def PubR (Q0 : DkV) (s b x : ByteArray) (r : DkV × Nat × Int) : Prop :=
  (r.2.2 = 14 ∧ r.2.1 ≤ 4 ∧ Q0.fu.d ≠ -1 ∧ ∃ ch ts, (∀ c ∈ ch, ChS s ((Q0.tapes.length : Int) + 1) c ∧ (c.pu = true → ts ≠ [])) ∧ ts.length ≤ 1 ∧ (∀ t ∈ ts, t.kp.size ≤ x.size ∧ t.nw.size ≤ x.size) ∧ Gone Q0 ⟨Q0.fo.kept, ch⟩ (Q0.tapes ++ ts) r.1) ∨
  (r.2.2 = 14 ∧ r.2.1 ≤ 4 ∧ Q0.fu.d ≠ -1 ∧ ∃ ch, (∀ c ∈ ch, ChS s ((Q0.tapes.length : Int) + 1) c) ∧ Gone Q0 ⟨Q0.fo.kept, ch ++ [moveC s b ((Q0.tapes.length : Int) + 1)]⟩ (Q0.tapes ++ [⟨x, x⟩]) r.1) ∨
  (r.2.2 = 0 ∧ r.2.1 = 5 ∧ ∃ ch, (∀ c ∈ ch, ChS s ((Q0.tapes.length : Int) + 1) c) ∧ Core Q0 ⟨(ch ++ [moveC s b ((Q0.tapes.length : Int) + 1)]).foldl (fun l c => c.ap l) Q0.fo.kept, []⟩ (Q0.tapes ++ [⟨x, x⟩]) r.1)
section
variable {Q0 : DkV} {s b x : ByteArray}
theorem chs_put (s : ByteArray) (N : Int) : ChS s N (putC s N) := ⟨(fun h => by cases h), fun _ => ⟨rfl, rfl⟩⟩
theorem chs_drop (s : ByteArray) (N : Int) : ChS s N (dropC s) := ⟨fun _ => rfl, (fun h => by cases h)⟩
theorem now_put (q : FoV) (s : ByteArray) (N : Int) : findM s (q.doC (putC s N)).now = (N, true) := by
  rw [FoV.now_do]
  show findM s (putM ⟨s, N⟩ q.now) = _
  exact fm_put_eq
theorem read_two (h : Lit0 Q0) (y : ByteArray) : (Q0.read y).2 = if (findM y Q0.fo.now).2 = true then 0 else 8 := by
  unfold DkV.read
  rw [if_neg (by rw [h.off]; decide)]
  cases (findM y Q0.fo.now).2 <;> rfl
/-- The first step. -/
theorem anew_law (hc : Clean Q0) (hl : Lit0 Q0) (hr : Room Q0 x) (hm : mayB s = true) :
    ((Q0.anew s).2 = 0 ∧ ∃ ch, (∀ c ∈ ch, ChS s ((Q0.tapes.length : Int) + 1) c) ∧ findM s (FoV.now ⟨Q0.fo.kept, ch⟩) = ((Q0.tapes.length : Int) + 1, true) ∧ Core Q0 ⟨Q0.fo.kept, ch⟩ (Q0.tapes ++ [⟨⟨#[]⟩, ⟨#[]⟩⟩]) (Q0.anew s).1) ∨
    ((Q0.anew s).2 = 14 ∧ ∃ ch, (∀ c ∈ ch, ChS s ((Q0.tapes.length : Int) + 1) c ∧ c.pu = false) ∧ Gone Q0 ⟨Q0.fo.kept, ch⟩ Q0.tapes (Q0.anew s).1) := by
  have hfo : Q0.fo = ⟨Q0.fo.kept, []⟩ := by have := hc.ch; cases h : Q0.fo; rw [h] at this; simp only at this; rw [this]
  have h0 : Core Q0 ⟨Q0.fo.kept, []⟩ Q0.tapes Q0 := ⟨hfo, rfl, rfl, hl.p, hl.s, hl.off, fun e => e⟩
  have hnow : Q0.fo.now = FoV.now ⟨Q0.fo.kept, []⟩ := by rw [← hfo]
  have hids : Q0.fo.ids = FoV.ids ⟨Q0.fo.kept, []⟩ := by rw [← hfo]
  unfold DkV.anew
  rw [read_two hl]
  cases hf : (findM s Q0.fo.now).2
  · rw [if_neg (by simp)]
    rcases step_create (s := s) h0 hm (by rw [← hnow]; exact hf) (by rw [← hids]; have := hr.ids; omega) with ⟨e, k⟩ | ⟨e, k⟩
    · left
      refine ⟨e, [putC s ((Q0.tapes.length : Int) + 1)], fun c hcm => ?_, now_put ⟨Q0.fo.kept, []⟩ s _, k⟩
      rcases List.mem_cons.1 hcm with rfl | hcm
      · exact chs_put _ _
      · cases hcm
    · right
      exact ⟨e, [], (fun c hcm => by cases hcm), k⟩
  · rw [if_pos (by simp)]
    rcases step_remove (s := s) h0 (by rw [← hnow]; exact hf) with ⟨e, k⟩ | ⟨e, k⟩
    · rw [if_pos e]
      have hn : (findM s (FoV.now (FoV.doC ⟨Q0.fo.kept, []⟩ (dropC s)))).2 = false := by
        rw [FoV.now_do]
        show (findM s (List.filter (nmNot s) _)).2 = false
        unfold findM
        rw [show (List.filter (nmNot s) (FoV.now ⟨Q0.fo.kept, []⟩)).find? (nmIs s) = none from by
          rw [List.find?_eq_none]
          intro m hmm
          have := (List.mem_filter.1 hmm).2
          unfold nmNot at this
          simpa using this]
      have hi : (FoV.doC ⟨Q0.fo.kept, []⟩ (dropC s)).ids.length < 64 := by
        have h1 : ∀ y ∈ (FoV.doC ⟨Q0.fo.kept, []⟩ (dropC s)).ids, y ∈ Q0.fo.ids := fun y hy => by
          rcases (FoV.ids_mem _ y).1 hy with ⟨m, hm, e⟩ | ⟨c, hcm, hp, _⟩
          · exact (FoV.ids_mem _ y).2 (.inl ⟨m, hm, e⟩)
          · rcases List.mem_cons.1 hcm with rfl | hcm
            · cases hp
            · cases hcm
        have h2 := sum_len (FoV.ids_up (FoV.doC ⟨Q0.fo.kept, []⟩ (dropC s))) Q0.fo.ids_up h1
        have := hr.ids
        omega
      rcases step_create (s := s) k hm hn hi with ⟨e2, k2⟩ | ⟨e2, k2⟩
      · left
        refine ⟨e2, [dropC s, putC s ((Q0.tapes.length : Int) + 1)], fun c hcm => ?_, now_put (FoV.doC ⟨Q0.fo.kept, []⟩ (dropC s)) s _, k2⟩
        rcases List.mem_cons.1 hcm with rfl | hcm
        · exact chs_drop _ _
        · rcases List.mem_cons.1 hcm with rfl | hcm
          · exact chs_put _ _
          · cases hcm
      · right
        refine ⟨e2, [dropC s], fun c hcm => ?_, k2⟩
        rcases List.mem_cons.1 hcm with rfl | hcm
        · exact ⟨chs_drop _ _, rfl⟩
        · cases hcm
    · rw [if_neg (by rw [e]; decide)]
      right
      exact ⟨e, [], (fun c hcm => by cases hcm), k⟩
theorem tape_app (hl : 1 ≤ (Q0.tapes.length : Int) + 1) {Q : DkV} {t : TpV} (h : Q.tapes = Q0.tapes ++ [t]) : Q.tapeAt ((Q0.tapes.length : Int) + 1) = t := by
  unfold DkV.tapeAt
  rw [h, show ((Q0.tapes.length : Int) + 1 - 1).toNat = Q0.tapes.length by omega, List.getD_eq_getElem?_getD, List.getElem?_append_right (Nat.le_refl _), Nat.sub_self]
  rfl
theorem tape_old {Q : DkV} {ts : List TpV} (h : Q.tapes = Q0.tapes ++ ts) {j : Int} (h1 : 1 ≤ j) (h2 : j ≤ (Q0.tapes.length : Int)) : Q.tapeAt j = Q0.tapeAt j := by
  unfold DkV.tapeAt
  rw [h, List.getD_eq_getElem?_getD, List.getD_eq_getElem?_getD, List.getElem?_append_left (by omega)]
theorem set_app (T : List TpV) (t u : TpV) : (T ++ [t]).set ((T.length : Int) + 1 - 1).toNat u = T ++ [u] := by
  rw [show ((T.length : Int) + 1 - 1).toNat = T.length by omega, List.set_append_right _ _ (Nat.le_refl _), Nat.sub_self]
  rfl
theorem kept_ids (hc : Clean Q0) : ∀ id ∈ Q0.fo.ids, 1 ≤ id ∧ id ≤ (Q0.tapes.length : Int) := fun id hid => by
  rcases (FoV.ids_mem _ id).1 hid with ⟨m, hm, e⟩ | ⟨c, hcm, _⟩
  · have := hc.id m hm; rw [← e]; exact ⟨this.1, this.2.1⟩
  · rw [hc.ch] at hcm; cases hcm
theorem room_after (hc : Clean Q0) (hr : Room Q0 x) {ch : List Chg} (hch : ∀ c ∈ ch, ChS s ((Q0.tapes.length : Int) + 1) c) (hf : findM s (FoV.now ⟨Q0.fo.kept, ch⟩) = ((Q0.tapes.length : Int) + 1, true)) {Q : DkV} (k : Core Q0 ⟨Q0.fo.kept, ch⟩ (Q0.tapes ++ [⟨⟨#[]⟩, ⟨#[]⟩⟩]) Q) : ¬ Q.sec < Q.after s x := by
  have hid : Q.idOf s = (Q0.tapes.length : Int) + 1 := by unfold DkV.idOf; rw [k.fo, hf]
  have ht := tape_app (Q0 := Q0) (by omega) k.tp
  have hup : Up (Q0.fo.ids ++ [(Q0.tapes.length : Int) + 1]) := List.pairwise_append.2 ⟨Q0.fo.ids_up, List.pairwise_singleton _ _, fun a ha c hcm => by
    have := (kept_ids hc a ha).2
    rcases List.mem_cons.1 hcm with rfl | hcm
    · omega
    · cases hcm⟩
  have h1 : sumT Q Q.fo.ids ≤ sumT Q (Q0.fo.ids ++ [(Q0.tapes.length : Int) + 1]) := sum_sub Q Q.fo.ids_up hup (fun y hy => by
    rw [k.fo] at hy
    rcases (FoV.ids_mem _ y).1 hy with ⟨m, hm, e⟩ | ⟨c, hcm, hp, e⟩
    · exact List.mem_append_left _ ((FoV.ids_mem _ y).2 (.inl ⟨m, hm, e⟩))
    · rw [((hch c hcm).2 hp).2] at e
      exact List.mem_append_right _ (by rw [e]; simp))
  have h2 : sumT Q (Q0.fo.ids ++ [(Q0.tapes.length : Int) + 1]) = Q0.taken := by
    unfold DkV.taken sumT
    rw [List.map_append, List.sum_append, List.map_cons, List.map_nil, ht]
    have : (Q0.fo.ids.map fun id => cntT (Q.tapeAt id)) = Q0.fo.ids.map fun id => cntT (Q0.tapeAt id) := List.map_congr_left fun y hy => by
      have := kept_ids hc y hy
      rw [tape_old k.tp this.1 this.2]
    rw [this]
    rfl
  have h3 := hr.sec
  unfold DkV.after
  rw [hid, ht, k.sec]
  have e2 : cntT (TpV.plus ⟨⟨#[]⟩, ⟨#[]⟩⟩ x) = cntS x.size := by
    unfold TpV.plus cntT
    show cntS (max (ByteArray.empty ++ x).size 0) = _
    rw [ByteArray.empty_append, Nat.max_eq_left (Nat.zero_le _)]
  have e3 : cntT ⟨⟨#[]⟩, ⟨#[]⟩⟩ = 0 := rfl
  rw [e2, e3]
  unfold DkV.taken at *
  omega
theorem runP_go' {n k : Nat} {Q : DkV} (h : (stepP s b x k Q).2 = 0) : runP s b x (n + 1) k Q = runP s b x n (k + 1) (stepP s b x k Q).1 := if_pos h
theorem runP_no' {n k : Nat} {Q : DkV} (h : (stepP s b x k Q).2 = 14) : runP s b x (n + 1) k Q = ((stepP s b x k Q).1, k, 14) := (if_neg (by rw [h]; decide)).trans (by rw [h])
theorem pub_gone {fo : FoV} {tp : List TpV} {k : Nat} {Q : DkV} (h : runP s b x 5 0 Q0 = (Q, k, 14)) (hg : Gone Q0 fo tp Q) : Q0.pub s b x = (Q, k, 14) := by
  unfold DkV.pub
  rw [h]
  split
  · show ((Q.remove s).1, k, 14) = _
    rw [hg.remove]
  · rfl
theorem one_t {t : TpV} {n : Nat} (h : t.kp.size ≤ n ∧ t.nw.size ≤ n) : ∀ u ∈ [t], u.kp.size ≤ n ∧ u.nw.size ≤ n := fun u hu => by
  rcases List.mem_cons.1 hu with rfl | hu
  · exact h
  · cases hu
theorem pub_law (hc : Clean Q0) (hl : Lit0 Q0) (hr : Room Q0 x) (hm : mayB s = true) (hb : mayB b = true) (hne : s.toList ≠ b.toList) : PubR Q0 s b x (Q0.pub s b x) := by
  unfold PubR
  rcases anew_law (s := s) hc hl hr hm with ⟨e1, ch, hch, hf, k1⟩ | ⟨e1, ch, hch, k1⟩
  · have r1 : runP s b x 5 0 Q0 = runP s b x 4 1 (Q0.anew s).1 := runP_go' e1
    generalize (Q0.anew s).1 = Q1 at *
    have ht1 := tape_app (Q0 := Q0) (by omega) k1.tp
    rcases step_append (s := s) (x := x) k1 hf (room_after hc hr hch hf k1) with ⟨e2, k2⟩ | ⟨e2, k2⟩
    · have r2 : runP s b x 5 0 Q0 = runP s b x 3 2 (Q1.append s x).1 := r1.trans (runP_go' (k := 1) e2)
      generalize (Q1.append s x).1 = Q2 at *
      rw [ht1, set_app] at k2
      have hpl : (TpV.plus ⟨⟨#[]⟩, ⟨#[]⟩⟩ x) = ⟨⟨#[]⟩, x⟩ := by unfold TpV.plus; exact congrArg (TpV.mk ⟨#[]⟩) (ByteArray.empty_append (b := x))
      rw [hpl] at k2
      have ht2 := tape_app (Q0 := Q0) (by omega) k2.tp
      rcases step_sync (s := s) k2 hf with ⟨e3, k3⟩ | ⟨e3, k3⟩
      · have r3 : runP s b x 5 0 Q0 = runP s b x 2 3 (Q2.syncT s).1 := r2.trans (runP_go' (k := 2) e3)
        generalize (Q2.syncT s).1 = Q3 at *
        rw [ht2, set_app] at k3
        have k3 : Core Q0 ⟨Q0.fo.kept, ch⟩ (Q0.tapes ++ [⟨x, x⟩]) Q3 := k3
        rcases step_rename (s := s) (b := b) k3 hf hb hne with ⟨e4, k4⟩ | ⟨e4, k4⟩
        · have r4 : runP s b x 5 0 Q0 = runP s b x 1 4 (Q3.rename s b).1 := r3.trans (runP_go' (k := 3) e4)
          generalize (Q3.rename s b).1 = Q4 at *
          rcases step_syncAll k4 with ⟨e5, k5⟩ | ⟨e5, k5⟩
          · right; right
            have r5 : runP s b x 5 0 Q0 = (Q4.syncAll.1, 5, 0) := r4.trans (runP_go' (k := 4) e5)
            have hp : Q0.pub s b x = (Q4.syncAll.1, 5, 0) := by unfold DkV.pub; rw [r5, if_neg (by show ¬ 5 < 4; decide)]
            rw [hp]
            refine ⟨rfl, rfl, ch, hch, ?_⟩
            have : (FoV.doC ⟨Q0.fo.kept, ch⟩ (moveC s b ((Q0.tapes.length : Int) + 1))).sync = ⟨(ch ++ [moveC s b ((Q0.tapes.length : Int) + 1)]).foldl (fun l c => c.ap l) Q0.fo.kept, []⟩ := by
              unfold FoV.sync FoV.settle FoV.doC
              simp only [List.take_length]
            rw [← this]
            exact k5
          · right; left
            rw [pub_gone (r4.trans (runP_no' (k := 4) e5)) k5]
            exact ⟨rfl, Nat.le_refl _, k5.d, ch, hch, k5⟩
        · left
          rw [pub_gone (r3.trans (runP_no' (k := 3) e4)) k4]
          exact ⟨rfl, by show 3 ≤ 4; omega, k4.d, ch, [⟨x, x⟩], fun c hcm => ⟨hch c hcm, fun _ => by simp⟩, Nat.le_refl _, one_t ⟨Nat.le_refl _, Nat.le_refl _⟩, k4⟩
      · left
        rw [pub_gone (r2.trans (runP_no' (k := 2) e3)) k3]
        exact ⟨rfl, by show 2 ≤ 4; omega, k3.d, ch, [⟨⟨#[]⟩, x⟩], fun c hcm => ⟨hch c hcm, fun _ => by simp⟩, Nat.le_refl _, one_t ⟨Nat.zero_le _, Nat.le_refl _⟩, k3⟩
    · left
      rw [pub_gone (r1.trans (runP_no' (k := 1) e2)) k2]
      exact ⟨rfl, by show 1 ≤ 4; omega, k2.d, ch, [⟨⟨#[]⟩, ⟨#[]⟩⟩], fun c hcm => ⟨hch c hcm, fun _ => by simp⟩, Nat.le_refl _, one_t ⟨Nat.zero_le _, Nat.zero_le _⟩, k2⟩
  · left
    rw [pub_gone (runP_no' (k := 0) e1) k1]
    exact ⟨rfl, Nat.zero_le _, k1.d, ch, [], fun c hcm => ⟨(hch c hcm).1, fun hp => by rw [(hch c hcm).2] at hp; cases hp⟩, Nat.zero_le _, (fun t ht => by cases ht), by rw [List.append_nil]; exact k1⟩
end
end Go.Proofs.YtcffkmlnbnjibaaGreat
