/- Plain law: what is there behind a crash, wherever writing a file was cut off. -/
import Derived.Test.YtcffkmlnbnjibaaGreatPwC
namespace Go.Proofs.YtcffkmlnbnjibaaGreat
open Go.RowKit Go.Maps
/-- No name stands twice. -/
def Uniq (l : List Mk) : Prop := l.Pairwise fun a b => a.nm.toList ≠ b.nm.toList
theorem uniq_ins {m : Mk} {l : List Mk} (h : Uniq l) (hm : ∀ x ∈ l, m.nm.toList ≠ x.nm.toList) : Uniq (insM m l) := by
  induction l with
  | nil => exact List.pairwise_singleton _ _
  | cons x r ih =>
    have h1 := List.pairwise_cons.1 h
    unfold insM
    split
    · exact List.pairwise_cons.2 ⟨hm, h⟩
    · refine List.pairwise_cons.2 ⟨fun y hy => ?_, ih h1.2 (fun y hy => hm y (by simp [hy]))⟩
      rcases (insM_mem _ _ _).1 hy with rfl | hy
      · exact fun e => hm x (by simp) e.symm
      · exact h1.1 y hy
theorem uniq_ap {c : Chg} {l : List Mk} (h : Uniq l) : Uniq (c.ap l) := by
  have hd : Uniq (c.d l) := by
    unfold Chg.d
    split
    · exact h.filter _
    · exact h
  unfold Chg.ap Chg.p
  split
  · refine uniq_ins (List.Pairwise.filter _ hd) (fun x hx e => ?_)
    have := (List.mem_filter.1 hx).2
    unfold nmNot at this
    rw [is_eq.2 e.symm] at this
    cases this
  · exact hd
theorem uniq_fold : ∀ {ch : List Chg} {l : List Mk}, Uniq l → Uniq (ch.foldl (fun l c => c.ap l) l)
  | [], _, h => h
  | _ :: r, _, h => uniq_fold (ch := r) (uniq_ap h)
theorem fold_mem {ch : List Chg} {l : List Mk} {m : Mk} (h : m ∈ ch.foldl (fun l c => c.ap l) l) : m ∈ l ∨ ∃ c ∈ ch, c.pu = true ∧ m = ⟨c.come, c.id⟩ :=
  fold_all (P := fun m => m ∈ l ∨ ∃ c ∈ ch, c.pu = true ∧ m = ⟨c.come, c.id⟩) (fun c hc hp => .inr ⟨c, hc, hp, rfl⟩) (fun _ hm => .inl hm) m h
theorem crashL_small (ch : ByteArray) (c : Nat) (j : Int) (hj : 1 ≤ j) : ∀ (ids : List Int) (st : DkV × Nat), (∀ id ∈ ids, 1 ≤ id) → (st.1.tapeAt j).kp.size ≤ 32 * c ∧ (st.1.tapeAt j).nw.size ≤ 32 * c → ((crashL ch ids st).1.tapeAt j).kp.size ≤ 32 * c ∧ ((crashL ch ids st).1.tapeAt j).nw.size ≤ 32 * c
  | [], _, _, h => h
  | id :: r, st, hi, h => by
    show ((crashL ch r _).1.tapeAt j).kp.size ≤ 32 * c ∧ ((crashL ch r _).1.tapeAt j).nw.size ≤ 32 * c
    refine crashL_small ch c j hj r _ (fun x hx => hi x (by simp [hx])) ?_
    have h1 := hi id (by simp)
    show ((st.1.setT id _).tapeAt j).kp.size ≤ 32 * c ∧ ((st.1.setT id _).tapeAt j).nw.size ≤ 32 * c
    by_cases e : id = j
    · subst e
      have hm : (mixS (st.1.tapeAt id).kp (st.1.tapeAt id).nw (restS ch st.2)).1.size ≤ 32 * c := by
        have := mixTo_size (st.1.tapeAt id).kp (st.1.tapeAt id).nw (restS ch st.2) (cntS (max (st.1.tapeAt id).kp.size (st.1.tapeAt id).nw.size))
        unfold mixS
        have h2 : cntS (max (st.1.tapeAt id).kp.size (st.1.tapeAt id).nw.size) ≤ c := by unfold cntS; omega
        omega
      generalize (mixS (st.1.tapeAt id).kp (st.1.tapeAt id).nw (restS ch st.2)).1 = z at *
      unfold DkV.setT DkV.tapeAt
      show ((st.1.tapes.set (id - 1).toNat _).getD (id - 1).toNat _).kp.size ≤ _ ∧ ((st.1.tapes.set (id - 1).toNat _).getD (id - 1).toNat _).nw.size ≤ _
      rw [List.getD_eq_getElem?_getD]
      by_cases hl : (id - 1).toNat < st.1.tapes.length
      · rw [List.getElem?_set_self hl]; exact ⟨hm, hm⟩
      · rw [List.getElem?_eq_none (by rw [List.length_set]; omega)]; exact ⟨Nat.zero_le _, Nat.zero_le _⟩
    · have : (st.1.setT id ⟨(mixS (st.1.tapeAt id).kp (st.1.tapeAt id).nw (restS ch st.2)).1, (mixS (st.1.tapeAt id).kp (st.1.tapeAt id).nw (restS ch st.2)).1⟩).tapeAt j = st.1.tapeAt j := by
        unfold DkV.setT DkV.tapeAt
        show (st.1.tapes.set (id - 1).toNat _).getD (j - 1).toNat _ = _
        rw [List.getD_eq_getElem?_getD, List.getElem?_set_ne (by omega)]
        rfl
      rw [this]
      exact h
/-- Behind a crash. -/
theorem crash_is {Q : DkV} (ch : ByteArray) (hi : ∀ id ∈ Q.fo.ids, 1 ≤ id) : ∃ k, (Q.crash ch).1.fo = ⟨(Q.fo.ch.take k).foldl (fun l c => c.ap l) Q.fo.kept, []⟩ ∧ (Q.crash ch).1.fu = FuV.calm ∧ (Q.crash ch).1.sec = Q.sec ∧ (Q.crash ch).1.tapes.length = Q.tapes.length ∧ (Q.crash ch).1.calls = Q.calls ∧
    (∀ j, 1 ≤ j → (Q.tapeAt j).kp = (Q.tapeAt j).nw → (Q.crash ch).1.tapeAt j = Q.tapeAt j) ∧ (∀ j ∈ Q.fo.ids, ((Q.crash ch).1.tapeAt j).kp = ((Q.crash ch).1.tapeAt j).nw) ∧
    (∀ j c, 1 ≤ j → (Q.tapeAt j).kp.size ≤ 32 * c ∧ (Q.tapeAt j).nw.size ≤ 32 * c → ((Q.crash ch).1.tapeAt j).kp.size ≤ 32 * c ∧ ((Q.crash ch).1.tapeAt j).nw.size ≤ 32 * c) := by
  obtain ⟨h1, h2, h3, h4, h5⟩ := crashL_rest ch Q.fo.ids (Q.crash1 ch, 1)
  exact ⟨_, h1, h2, h3, h4, h5, fun j hj h => crashL_at ch j hj Q.fo.ids (Q.crash1 ch, 1) hi h, fun j hj => crashL_eq ch j (hi j hj) Q.fo.ids (Q.crash1 ch, 1) hi hj, fun j c hj h => crashL_small ch c j hj Q.fo.ids (Q.crash1 ch, 1) hi h⟩
/-- What there is behind it. -/
structure After (Q0 : DkV) (s b x : ByteArray) (Q : DkV) : Prop where
  clean : Clean Q
  fu : Q.fu = FuV.calm
  sec : Q.sec = Q0.sec
  oth : ∀ y : ByteArray, y.toList ≠ s.toList → y.toList ≠ b.toList → Q.cont y = Q0.cont y
  all : ∀ m ∈ Q.fo.kept, (m ∈ Q0.fo.kept ∧ Q.tapeAt m.pl = Q0.tapeAt m.pl) ∨ ((m.nm = s ∨ m.nm = b) ∧ cntS (Q.tapeAt m.pl).nw.size ≤ cntS x.size ∧ cntS (Q.tapeAt m.pl).kp.size ≤ cntS x.size)
  uniq : Uniq Q0.fo.kept → Uniq Q.fo.kept
section
variable {Q0 : DkV} {s b x : ByteArray}
theorem Clean.now {Q : DkV} (h : Clean Q) : Q.fo.now = Q.fo.kept := by unfold FoV.now; rw [h.ch]; rfl
/-- All changes are of the temporary name, and perhaps the renaming. -/
theorem after_of (hc : Clean Q0) {Q : DkV} {ch : List Chg} {ts : List TpV} (cho : ByteArray) (hch : ∀ c ∈ ch, (ChS s ((Q0.tapes.length : Int) + 1) c ∨ c = moveC s b ((Q0.tapes.length : Int) + 1)) ∧ (c.pu = true → ts ≠ [])) (hl : ts.length ≤ 1)
    (hts : ∀ t ∈ ts, t.kp.size ≤ x.size ∧ t.nw.size ≤ x.size) (hfo : Q.fo = ⟨Q0.fo.kept, ch⟩) (htp : Q.tapes = Q0.tapes ++ ts) (hsec : Q.sec = Q0.sec) : After Q0 s b x (Q.crash cho).1 := by
  have hput : ∀ c ∈ ch, c.pu = true → c.id = (Q0.tapes.length : Int) + 1 ∧ (c.come = s ∨ c.come = b) := fun c hcm hp => by
    rcases (hch c hcm).1 with h | rfl
    · exact ⟨(h.2 hp).2, .inl (h.2 hp).1⟩
    · exact ⟨rfl, .inr rfl⟩
  have hi : ∀ id ∈ Q.fo.ids, 1 ≤ id ∧ id ≤ (Q.tapes.length : Int) := fun id hid => by
    rw [hfo] at hid
    rw [htp, List.length_append]
    rcases (FoV.ids_mem _ id).1 hid with ⟨m, hm, e⟩ | ⟨c, hcm, hp, e⟩
    · have := hc.id m hm; omega
    · have h1 := (hput c hcm hp).1
      have h2 : ts.length ≠ 0 := fun h0 => (hch c hcm).2 hp (List.eq_nil_of_length_eq_zero h0)
      have e : c.id = id := e
      omega
  obtain ⟨k, q1, q2, q3, q4, _, q5, q6, q7⟩ := crash_is (Q := Q) cho (fun id hid => (hi id hid).1)
  have hmem : ∀ m ∈ (Q.crash cho).1.fo.kept, m ∈ Q0.fo.kept ∨ ((m.nm = s ∨ m.nm = b) ∧ m.pl = (Q0.tapes.length : Int) + 1 ∧ ts ≠ []) := fun m hm => by
    rw [q1, hfo] at hm
    rcases fold_mem hm with hm | ⟨c, hcm, hp, rfl⟩
    · exact .inl hm
    · have hcm' := List.mem_of_mem_take hcm
      exact .inr ⟨(hput c hcm' hp).2, (hput c hcm' hp).1, (hch c hcm').2 hp⟩
  have hids : ∀ m ∈ (Q.crash cho).1.fo.kept, m.pl ∈ Q.fo.ids := fun m hm => by
    rw [q1] at hm
    rcases fold_mem hm with hm | ⟨c, hcm, hp, rfl⟩
    · exact (FoV.ids_mem _ _).2 (.inl ⟨m, hm, rfl⟩)
    · exact (FoV.ids_mem _ _).2 (.inr ⟨c, List.mem_of_mem_take hcm, hp, rfl⟩)
  have hold : ∀ m ∈ Q0.fo.kept, (Q.crash cho).1.tapeAt m.pl = Q0.tapeAt m.pl := fun m hm => by
    have h1 := hc.id m hm
    have h2 := tape_old (Q0 := Q0) htp h1.1 h1.2.1
    rw [q5 m.pl h1.1 (by rw [h2]; exact h1.2.2), h2]
  refine ⟨⟨by rw [q1], fun m hm => ?_⟩, q2, q3.trans hsec, fun y hys hyb => ?_, fun m hm => ?_, fun hu => ?_⟩
  · have h1 := hids m hm
    have h2 := hi _ h1
    exact ⟨h2.1, by rw [q4]; exact h2.2, q6 _ h1⟩
  · have hf : findM y (Q.crash cho).1.fo.kept = findM y Q0.fo.kept := by
      rw [q1, hfo]
      have : ∀ (chs : List Chg) (l : List Mk), (∀ c ∈ chs, c ∈ ch) → findM y (chs.foldl (fun l c => c.ap l) l) = findM y l := by
        intro chs
        induction chs with
        | nil => intro l _; rfl
        | cons c r ih =>
          intro l h
          rw [List.foldl_cons, ih _ (fun z hz => h z (by simp [hz]))]
          rcases (hch c (h c (by simp))).1 with h1 | h1
          · exact fm_ap_ne h1 hys
          · rw [h1]
            show findM y (putM ⟨b, _⟩ (l.filter (nmNot s))) = _
            rw [fm_put_ne hyb, fm_drop_ne hys]
      exact this _ _ (fun c hcm => List.mem_of_mem_take hcm)
    unfold DkV.cont
    rw [hf]
    split
    · rename_i hy
      obtain ⟨m, hm, _, _, e⟩ := findM_mem (P := fun m => m ∈ Q0.fo.kept) (fun _ h => h) hy
      rw [e, hold m hm]
    · rfl
  · rcases hmem m hm with h | ⟨h1, h2, h3⟩
    · exact .inl ⟨h, hold m h⟩
    · refine .inr ⟨h1, ?_⟩
      match ts, hl, h3 with
      | [t], _, _ =>
        have ht := tape_app (Q0 := Q0) (by omega) htp
        have h4 := hts t (by simp)
        have h5 := q7 m.pl (cntS x.size) (by omega) (by rw [h2, ht]; unfold cntS; omega)
        unfold cntS at h5 ⊢
        omega
  · rw [q1, hfo]
    exact uniq_fold hu
theorem cont_b_old (hc : Clean Q0) {Q : DkV} {ch : List Chg} {ts : List TpV} (cho : ByteArray) (hne : s.toList ≠ b.toList) (hch : ∀ c ∈ ch, ChS s ((Q0.tapes.length : Int) + 1) c) (hi : ∀ id ∈ Q.fo.ids, 1 ≤ id) {k : Nat}
    (h : (Q.crash cho).1.fo = ⟨(ch.take k).foldl (fun l c => c.ap l) Q0.fo.kept, []⟩) (htp : Q.tapes = Q0.tapes ++ ts) : (Q.crash cho).1.cont b = Q0.cont b := by
  obtain ⟨_, _, _, _, _, _, q5, _, _⟩ := crash_is (Q := Q) cho hi
  have hf : findM b (Q.crash cho).1.fo.kept = findM b Q0.fo.kept := by
    rw [h]
    exact fm_fold_ne (fun e => hne e.symm) (fun c hcm => hch c (List.mem_of_mem_take hcm))
  unfold DkV.cont
  rw [hf]
  split
  · rename_i hy
    obtain ⟨m, hm, _, _, e⟩ := findM_mem (P := fun m => m ∈ Q0.fo.kept) (fun _ h => h) hy
    have h1 := hc.id m hm
    have h2 := tape_old (Q0 := Q0) htp h1.1 h1.2.1
    rw [e, q5 m.pl h1.1 (by rw [h2]; exact h1.2.2), h2]
  · rfl
/-- The law: wherever it was cut off, and whatever lasts. -/
theorem pub_crash (hc : Clean Q0) (hl : Lit0 Q0) (hr : Room Q0 x) (hm : mayB s = true) (hb : mayB b = true) (hne : s.toList ≠ b.toList) (cho : ByteArray) :
    After Q0 s b x ((Q0.pub s b x).1.crash cho).1 ∧
    (((Q0.pub s b x).2.2 = 0 ∧ (Q0.pub s b x).2.1 = 5 ∧ ((Q0.pub s b x).1.crash cho).1.cont b = some x) ∨
     ((Q0.pub s b x).2.2 = 14 ∧ (Q0.pub s b x).2.1 ≤ 4 ∧ Q0.fu.d ≠ -1 ∧ (((Q0.pub s b x).1.crash cho).1.cont b = Q0.cont b ∨ ((Q0.pub s b x).1.crash cho).1.cont b = some x))) := by
  have hkid : ∀ m ∈ Q0.fo.kept, 1 ≤ m.pl := fun m h => (hc.id m h).1
  rcases pub_law (s := s) hc hl hr hm hb hne with ⟨e1, e2, e3, ch, ts, hch, hlen, hts, hg⟩ | ⟨e1, e2, e3, ch, hch, hg⟩ | ⟨e1, e2, ch, hch, hg⟩
  · have hA := after_of (b := b) hc cho (fun c hcm => ⟨.inl (hch c hcm).1, (hch c hcm).2⟩) hlen hts hg.fo hg.tp hg.sec
    have hi : ∀ id ∈ (Q0.pub s b x).1.fo.ids, 1 ≤ id := fun id hid => by
      rw [hg.fo] at hid
      rcases (FoV.ids_mem _ id).1 hid with ⟨m, hm, e⟩ | ⟨c, hcm, hp, e⟩
      · rw [← e]; exact hkid m hm
      · have e : c.id = id := e
        rw [((hch c hcm).1.2 hp).2] at e; omega
    obtain ⟨k, q1, _⟩ := crash_is (Q := (Q0.pub s b x).1) cho hi
    rw [hg.fo] at q1
    exact ⟨hA, .inr ⟨e1, e2, e3, .inl (cont_b_old hc cho hne (fun c hcm => (hch c hcm).1) hi q1 hg.tp)⟩⟩
  · have hA := after_of (b := b) (x := x) hc cho (ts := [⟨x, x⟩]) (fun c hcm => And.intro ((List.mem_append.1 hcm).elim (fun h => .inl (hch c h)) (fun h => .inr (List.mem_singleton.1 h))) (fun _ => List.cons_ne_nil _ _)) (Nat.le_refl _) (one_t ⟨Nat.le_refl _, Nat.le_refl _⟩) hg.fo hg.tp hg.sec
    have hi : ∀ id ∈ (Q0.pub s b x).1.fo.ids, 1 ≤ id := fun id hid => by
      rw [hg.fo] at hid
      rcases (FoV.ids_mem _ id).1 hid with ⟨m, hm, e⟩ | ⟨c, hcm, hp, e⟩
      · rw [← e]; exact hkid m hm
      · have e : c.id = id := e
        rcases List.mem_append.1 hcm with h | h
        · rw [((hch c h).2 hp).2] at e; omega
        · rcases List.mem_cons.1 h with rfl | h
          · have e : (Q0.tapes.length : Int) + 1 = id := e
            omega
          · cases h
    obtain ⟨k, q1, _, _, _, _, q5, _, _⟩ := crash_is (Q := (Q0.pub s b x).1) cho hi
    rw [hg.fo] at q1
    refine ⟨hA, .inr ⟨e1, e2, e3, ?_⟩⟩
    by_cases hk : k ≤ ch.length
    · left
      have q1' : ((Q0.pub s b x).1.crash cho).1.fo = ⟨(ch.take k).foldl (fun l c => c.ap l) Q0.fo.kept, []⟩ := by rw [q1]; show FoV.mk (List.foldl _ _ (List.take k (ch ++ _))) [] = _; rw [List.take_append_of_le_length hk]
      exact cont_b_old hc cho hne hch hi q1' hg.tp
    · right
      have q1' : ((Q0.pub s b x).1.crash cho).1.fo = ⟨(ch ++ [moveC s b ((Q0.tapes.length : Int) + 1)]).foldl (fun l c => c.ap l) Q0.fo.kept, []⟩ := by rw [q1]; show FoV.mk (List.foldl _ _ (List.take k (ch ++ _))) [] = _; rw [List.take_of_length_le (by rw [List.length_append]; show ch.length + 1 ≤ k; omega)]
      have ht := tape_app (Q0 := Q0) (by omega) hg.tp
      have hf : findM b ((Q0.pub s b x).1.crash cho).1.fo.kept = ((Q0.tapes.length : Int) + 1, true) := by
        rw [q1', List.foldl_append]
        exact fm_put_eq
      unfold DkV.cont
      rw [hf, if_pos rfl, q5 _ (by omega) (by rw [ht]), ht]
  · have hi : ∀ id ∈ (Q0.pub s b x).1.fo.ids, 1 ≤ id := fun id hid => by
      rw [hg.fo] at hid
      rcases (FoV.ids_mem _ id).1 hid with ⟨m, hm, e⟩ | ⟨c, hcm, _⟩
      · rcases fold_mem hm with hm | ⟨c, hcm, hp, rfl⟩
        · rw [← e]; exact hkid m hm
        · have e : c.id = id := e
          rcases List.mem_append.1 hcm with h | h
          · rw [((hch c h).2 hp).2] at e; omega
          · rcases List.mem_cons.1 h with rfl | h
            · have e : (Q0.tapes.length : Int) + 1 = id := e
              omega
            · cases h
      · cases hcm
    obtain ⟨k, q1, q2, q3, q4, _, q5, q6, q7⟩ := crash_is (Q := (Q0.pub s b x).1) cho hi
    rw [hg.fo] at q1
    have q1 : ((Q0.pub s b x).1.crash cho).1.fo = ⟨(ch ++ [moveC s b ((Q0.tapes.length : Int) + 1)]).foldl (fun l c => c.ap l) Q0.fo.kept, []⟩ := by rw [q1]; rw [List.take_nil]; rfl
    have ht := tape_app (Q0 := Q0) (by omega) hg.tp
    have hf : findM b ((Q0.pub s b x).1.crash cho).1.fo.kept = ((Q0.tapes.length : Int) + 1, true) := by
      rw [q1, List.foldl_append]
      exact fm_put_eq
    have hmem : ∀ m ∈ ((Q0.pub s b x).1.crash cho).1.fo.kept, m ∈ Q0.fo.kept ∨ ((m.nm = s ∨ m.nm = b) ∧ m.pl = (Q0.tapes.length : Int) + 1) := fun m hm => by
      rw [q1] at hm
      rcases fold_mem hm with hm | ⟨c, hcm, hp, rfl⟩
      · exact .inl hm
      · rcases List.mem_append.1 hcm with h | h
        · exact .inr ⟨.inl ((hch c h).2 hp).1, ((hch c h).2 hp).2⟩
        · rcases List.mem_cons.1 h with rfl | h
          · exact .inr ⟨.inr rfl, rfl⟩
          · cases h
    have hold : ∀ m ∈ Q0.fo.kept, ((Q0.pub s b x).1.crash cho).1.tapeAt m.pl = Q0.tapeAt m.pl := fun m hm => by
      have h1 := hc.id m hm
      have h2 := tape_old (Q0 := Q0) hg.tp h1.1 h1.2.1
      rw [q5 m.pl h1.1 (by rw [h2]; exact h1.2.2), h2]
    have hnew : ((Q0.pub s b x).1.crash cho).1.tapeAt ((Q0.tapes.length : Int) + 1) = ⟨x, x⟩ := by rw [q5 _ (by omega) (by rw [ht]), ht]
    refine ⟨⟨⟨by rw [q1], fun m hm => ?_⟩, q2, q3.trans hg.sec, fun y hys hyb => ?_, fun m hm => ?_, fun hu => ?_⟩, .inl ⟨e1, e2, ?_⟩⟩
    · rw [q4, hg.tp, List.length_append]
      rcases hmem m hm with h | ⟨_, h2⟩
      · have h1 := hc.id m h
        exact ⟨h1.1, by omega, by rw [hold m h]; exact h1.2.2⟩
      · exact ⟨by omega, by rw [h2]; show _ ≤ ((Q0.tapes.length + 1 : Nat) : Int); omega, by rw [h2, hnew]⟩
    · have hf2 : findM y ((Q0.pub s b x).1.crash cho).1.fo.kept = findM y Q0.fo.kept := by
        rw [q1, List.foldl_append]
        show findM y (putM ⟨b, _⟩ (List.filter (nmNot s) _)) = _
        rw [fm_put_ne hyb, fm_drop_ne hys, fm_fold_ne hys hch]
      unfold DkV.cont
      rw [hf2]
      split
      · rename_i hy
        obtain ⟨m, hm, _, _, e⟩ := findM_mem (P := fun m => m ∈ Q0.fo.kept) (fun _ h => h) hy
        rw [e, hold m hm]
      · rfl
    · rcases hmem m hm with h | ⟨h1, h2⟩
      · exact .inl ⟨h, hold m h⟩
      · exact .inr ⟨h1, by rw [h2, hnew]; exact ⟨Nat.le_refl _, Nat.le_refl _⟩⟩
    · rw [q1]
      exact uniq_fold hu
    · unfold DkV.cont
      rw [hf, if_pos rfl, hnew]
end
end Go.Proofs.YtcffkmlnbnjibaaGreat
