/- Plain law: a file is written wholly or not at all, wherever the power goes. -/
import Derived.Test.YtcffkmlnbnjibaaGreatKeA
import Derived.Test.YtcffkmlnbnjibaaGreatPbB
namespace Go.Proofs.YtcffkmlnbnjibaaGreat
open Go.RowKit Go.Maps
/- Names in lists. -/
theorem fm_find {s : ByteArray} {l l' : List Mk} (h : l.find? (nmIs s) = l'.find? (nmIs s)) : findM s l = findM s l' := by unfold findM; rw [h]
theorem fm_drop_ne {s g : ByteArray} {l : List Mk} (h : s.toList ≠ g.toList) : findM s (l.filter (nmNot g)) = findM s l := by
  refine fm_find ?_
  rw [List.find?_filter]
  congr 1
  funext m
  cases hq : nmIs s m
  · simp
  · have h1 := is_eq.1 hq
    have h2 : nmIs g m = false := by
      cases h3 : nmIs g m
      · rfl
      · exact absurd (h1.symm.trans (is_eq.1 h3)) h
    unfold nmNot
    rw [h2]; rfl
theorem find_ins {s : ByteArray} {m : Mk} (h : nmIs s m = false) : ∀ l : List Mk, (insM m l).find? (nmIs s) = l.find? (nmIs s)
  | [] => by unfold insM; rw [List.find?_cons_of_neg (by rw [h]; decide)]
  | x :: r => by
    unfold insM
    split
    · rw [List.find?_cons_of_neg (by rw [h]; decide)]
    · rw [List.find?_cons, List.find?_cons, find_ins h r]
theorem find_ins_same {s : ByteArray} {m : Mk} (h : nmIs s m = true) : ∀ l : List Mk, (∀ x ∈ l, nmIs s x = false) → (insM m l).find? (nmIs s) = some m
  | [], _ => by unfold insM; rw [List.find?_cons_of_pos h]
  | x :: r, hl => by
    unfold insM
    split
    · rw [List.find?_cons_of_pos h]
    · rw [List.find?_cons_of_neg (by rw [hl x (by simp)]; decide), find_ins_same h r (fun y hy => hl y (by simp [hy]))]
theorem fm_put_ne {s b : ByteArray} {i : Int} {l : List Mk} (h : s.toList ≠ b.toList) : findM s (putM ⟨b, i⟩ l) = findM s l := by
  have h1 : nmIs s ⟨b, i⟩ = false := by
    cases hq : nmIs s ⟨b, i⟩
    · rfl
    · exact absurd (is_eq.1 hq).symm h
  unfold putM
  rw [fm_find (find_ins h1 _), fm_drop_ne h]
theorem fm_put_eq {b : ByteArray} {i : Int} {l : List Mk} : findM b (putM ⟨b, i⟩ l) = (i, true) := by
  unfold putM findM
  rw [find_ins_same (s := b) (m := ⟨b, i⟩) (is_eq.2 rfl) _ (fun x hx => by
    have := (List.mem_filter.1 hx).2
    unfold nmNot at this
    simpa using this)]
/-- A change that is of one name alone. -/
def ChS (s : ByteArray) (N : Int) (c : Chg) : Prop := (c.dr = true → c.gone = s) ∧ (c.pu = true → c.come = s ∧ c.id = N)
theorem fm_ap_ne {s y : ByteArray} {N : Int} {c : Chg} {l : List Mk} (h : ChS s N c) (hy : y.toList ≠ s.toList) : findM y (c.ap l) = findM y l := by
  have hd : findM y (c.d l) = findM y l := by
    unfold Chg.d
    split
    · rename_i hq; rw [h.1 hq]; exact fm_drop_ne hy
    · rfl
  unfold Chg.ap Chg.p
  split
  · rename_i hq; rw [(h.2 hq).1, fm_put_ne hy, hd]
  · exact hd
theorem fm_fold_ne {s y : ByteArray} {N : Int} (hy : y.toList ≠ s.toList) : ∀ {ch : List Chg} {l : List Mk}, (∀ c ∈ ch, ChS s N c) → findM y (ch.foldl (fun l c => c.ap l) l) = findM y l
  | [], _, _ => rfl
  | c :: r, l, h => by
    rw [List.foldl_cons, fm_fold_ne hy (fun x hx => h x (by simp [hx])), fm_ap_ne (h c (by simp)) hy]
/- Sectors of a text that lasts. -/
theorem mix_same_to (a ch : ByteArray) : ∀ k, k ≤ cntS a.size → (mixTo a a ch k).1 = a.extract 0 (32 * k)
  | 0, _ => by rw [show 32 * 0 = 0 from rfl, ByteArray.extract_same]; rfl
  | k + 1, hk => by
    have ih := mix_same_to a ch k (by omega)
    have hu : unS a a k = false := by unfold unS; simp
    have hz : (a.extract 0 (32 * k)).size = 32 * k := by rw [ByteArray.size_extract]; unfold cntS at hk; omega
    have h2 : (secS a k).size ≠ 0 := by unfold secS; rw [ByteArray.size_extract]; unfold cntS at hk; omega
    rw [mixTo_succ]
    unfold mixStep
    rw [hu, if_neg (by simp), ih]
    show layS _ k _ = _
    unfold layS
    rw [if_neg h2, hz, Nat.sub_self, show zeroS 0 = ByteArray.empty from rfl, ByteArray.append_empty]
    exact ByteArray.extract_append_extract.trans (by rw [Nat.min_eq_left (by omega), Nat.max_eq_right (by omega)]; rfl)
theorem mix_same (a ch : ByteArray) : (mixS a a ch).1 = a := by
  unfold mixS
  rw [Nat.max_self, mix_same_to a ch _ (Nat.le_refl _)]
  apply ba_data
  rw [ByteArray.data_extract, Array.extract_eq_self_of_le (by show a.size ≤ _; unfold cntS; omega)]
/-- A tape that lasts stays as it is; a tape that is looked at lasts then. -/
theorem crashL_at (ch : ByteArray) (j : Int) (hj : 1 ≤ j) : ∀ (ids : List Int) (st : DkV × Nat), (∀ id ∈ ids, 1 ≤ id) → (st.1.tapeAt j).kp = (st.1.tapeAt j).nw → (crashL ch ids st).1.tapeAt j = st.1.tapeAt j
  | [], _, _, _ => rfl
  | id :: r, st, hi, h => by
    have hset : ∀ t, (st.1.setT id t).tapeAt j = st.1.tapeAt j ∨ ((st.1.setT id t).tapeAt j = t ∧ id = j) := fun t => by
      unfold DkV.setT DkV.tapeAt
      have h1 := hi id (by simp)
      show (st.1.tapes.set (id - 1).toNat t).getD (j - 1).toNat _ = _ ∨ _
      rw [List.getD_eq_getElem?_getD, List.getD_eq_getElem?_getD]
      by_cases e : id = j
      · subst e
        by_cases hl : (id - 1).toNat < st.1.tapes.length
        · right
          show ((st.1.tapes.set (id - 1).toNat t).getD (id - 1).toNat _ = t) ∧ _
          rw [List.getD_eq_getElem?_getD, List.getElem?_set_self hl]
          exact ⟨rfl, rfl⟩
        · left
          rw [List.getElem?_eq_none (by rw [List.length_set]; omega), List.getElem?_eq_none (by omega)]
      · left
        rw [List.getElem?_set_ne (by omega)]
    have key : (st.1.setT id ⟨(mixS (st.1.tapeAt id).kp (st.1.tapeAt id).nw (restS ch st.2)).1, (mixS (st.1.tapeAt id).kp (st.1.tapeAt id).nw (restS ch st.2)).1⟩).tapeAt j = st.1.tapeAt j := by
      rcases hset ⟨(mixS (st.1.tapeAt id).kp (st.1.tapeAt id).nw (restS ch st.2)).1, (mixS (st.1.tapeAt id).kp (st.1.tapeAt id).nw (restS ch st.2)).1⟩ with h1 | ⟨h1, rfl⟩
      · exact h1
      · rw [h1, ← h, mix_same]
        generalize st.1.tapeAt id = t at h
        obtain ⟨kp, nw⟩ := t
        simp only at h
        subst h
        rfl
    show (crashL ch r _).1.tapeAt j = _
    rw [crashL_at ch j hj r _ (fun x hx => hi x (by simp [hx])) (by show ((st.1.setT id _).tapeAt j).kp = ((st.1.setT id _).tapeAt j).nw; rw [key]; exact h)]
    exact key
theorem crashL_eq (ch : ByteArray) (j : Int) (hj : 1 ≤ j) : ∀ (ids : List Int) (st : DkV × Nat), (∀ id ∈ ids, 1 ≤ id) → j ∈ ids → ((crashL ch ids st).1.tapeAt j).kp = ((crashL ch ids st).1.tapeAt j).nw
  | [], _, _, h => by cases h
  | id :: r, st, hi, h => by
    show ((crashL ch r _).1.tapeAt j).kp = ((crashL ch r _).1.tapeAt j).nw
    rcases List.mem_cons.1 h with rfl | h
    · have key : ∀ x, ((st.1.setT j ⟨x, x⟩).tapeAt j).kp = ((st.1.setT j ⟨x, x⟩).tapeAt j).nw := fun x => by
        unfold DkV.setT DkV.tapeAt
        show ((st.1.tapes.set (j - 1).toNat _).getD (j - 1).toNat _).kp = ((st.1.tapes.set (j - 1).toNat _).getD (j - 1).toNat _).nw
        rw [List.getD_eq_getElem?_getD]
        by_cases hl : (j - 1).toNat < st.1.tapes.length
        · rw [List.getElem?_set_self hl]; rfl
        · rw [List.getElem?_eq_none (by rw [List.length_set]; omega)]; rfl
      rw [crashL_at ch j hj r _ (fun x hx => hi x (by simp [hx])) (key _)]
      exact key _
    · exact crashL_eq ch j hj r _ (fun x hx => hi x (by simp [hx])) h
theorem crashL_rest (ch : ByteArray) : ∀ (ids : List Int) (st : DkV × Nat), (crashL ch ids st).1.fo = st.1.fo ∧ (crashL ch ids st).1.fu = st.1.fu ∧ (crashL ch ids st).1.sec = st.1.sec ∧ (crashL ch ids st).1.tapes.length = st.1.tapes.length ∧ (crashL ch ids st).1.calls = st.1.calls
  | [], _ => ⟨rfl, rfl, rfl, rfl, rfl⟩
  | id :: r, st => by
    obtain ⟨h1, h2, h3, h4, h5⟩ := crashL_rest ch r (st.1.setT id ⟨(mixS (st.1.tapeAt id).kp (st.1.tapeAt id).nw (restS ch st.2)).1, (mixS (st.1.tapeAt id).kp (st.1.tapeAt id).nw (restS ch st.2)).1⟩, st.2 + (mixS (st.1.tapeAt id).kp (st.1.tapeAt id).nw (restS ch st.2)).2)
    exact ⟨h1, h2, h3, h4.trans (by unfold DkV.setT; simp), h5⟩
end Go.Proofs.YtcffkmlnbnjibaaGreat
