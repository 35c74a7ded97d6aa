/- A disk that was loaded: a crash leaves it as it is; lists of files. -/
import Derived.Test.YtomfcgeibbicoaaGreatPxA
import Derived.Test.YtomfcgeibbicoaaGreatDkF
namespace Go.Proofs.YtomfcgeibbicoaaGreat
open Go.RowKit Go.Maps
theorem mix_eq_to (a ch : ByteArray) : ∀ k, k ≤ cntS a.size → (mixTo a a ch k).1 = a.extract 0 (32 * k)
  | 0, _ => by rw [show 32 * 0 = 0 from rfl, ByteArray.extract_same]; rfl
  | k + 1, hk => by
    have ih := mix_eq_to a ch k (by omega)
    have hu : unS a a k = false := by unfold unS; simp
    have hz : (a.extract 0 (32 * k)).size = 32 * k := by rw [ByteArray.size_extract]; unfold cntS at hk; omega
    have h2 : (secS a k).size ≠ 0 := by unfold secS; rw [ByteArray.size_extract]; unfold cntS at hk; omega
    rw [mixTo_succ]
    unfold mixStep
    rw [hu, if_neg (by simp), ih]
    show layS _ k _ = _
    unfold layS
    rw [if_neg h2, hz, Nat.sub_self, show zeroS 0 = ByteArray.empty from rfl, ByteArray.append_empty]
    exact ByteArray.extract_append_extract.trans (by rw [Nat.min_eq_left (by omega), Nat.max_eq_right (by omega)]; rfl)
theorem mix_eq (a ch : ByteArray) : (mixS a a ch).1 = a := by
  unfold mixS
  rw [Nat.max_self, mix_eq_to a ch _ (Nat.le_refl _)]
  apply ba_data
  rw [ByteArray.data_extract, Array.extract_eq_self_of_le (by show a.size ≤ _; unfold cntS; omega)]
/-- All lasts. -/
structure Lasts (Q : DkV) : Prop where
  tp : ∀ t ∈ Q.tapes, t.kp = t.nw
  ch : Q.fo.ch = []
  fu : Q.fu = FuV.calm
theorem Lasts.at {Q : DkV} (h : Lasts Q) (id : Int) : (Q.tapeAt id).kp = (Q.tapeAt id).nw := by
  unfold DkV.tapeAt
  rw [List.getD_eq_getElem?_getD]
  cases hq : Q.tapes[(id - 1).toNat]? with
  | none => rfl
  | some t => exact h.tp t (List.mem_of_getElem? hq)
theorem setT_same {Q : DkV} {id : Int} : Q.setT id (Q.tapeAt id) = Q := by
  unfold DkV.setT DkV.tapeAt
  rw [List.getD_eq_getElem?_getD]
  cases hq : Q.tapes[(id - 1).toNat]? with
  | none => rw [List.set_eq_of_length_le (List.getElem?_eq_none_iff.1 hq)]
  | some t =>
    obtain ⟨h1, h2⟩ := List.getElem?_eq_some_iff.1 hq
    show { Q with tapes := Q.tapes.set _ t } = Q
    rw [← h2, List.set_getElem_self]
theorem Lasts.crashL {Q : DkV} (h : Lasts Q) (ch : ByteArray) : ∀ (ids : List Int) (k : Nat), (Go.Proofs.YtomfcgeibbicoaaGreat.crashL ch ids (Q, k)).1 = Q
  | [], _ => rfl
  | id :: r, k => by
    unfold Go.Proofs.YtomfcgeibbicoaaGreat.crashL
    have e : (⟨(mixS (Q.tapeAt id).kp (Q.tapeAt id).nw (restS ch k)).1, (mixS (Q.tapeAt id).kp (Q.tapeAt id).nw (restS ch k)).1⟩ : TpV) = Q.tapeAt id := by
      have h1 := h.at id
      have h2 : (mixS (Q.tapeAt id).kp (Q.tapeAt id).nw (restS ch k)).1 = (Q.tapeAt id).nw := by rw [h1, mix_eq]
      rw [h2]
      cases hq : Q.tapeAt id with
      | mk a b => rw [hq] at h1; simp only at h1; rw [h1]
    show (Go.Proofs.YtomfcgeibbicoaaGreat.crashL ch r (Q.setT id _, _)).1 = Q
    rw [e, setT_same]
    exact Lasts.crashL h ch r _
theorem Lasts.crash {Q : DkV} (h : Lasts Q) (ch : ByteArray) : (Q.crash ch).1 = Q := by
  have h1 : Q.crash1 ch = Q := by
    obtain ⟨sec, tapes, ⟨kept, chs⟩, fu, calls⟩ := Q
    have h2 : chs = [] := h.ch
    have h3 : fu = FuV.calm := h.fu
    subst h2; subst h3
    unfold DkV.crash1 FoV.crash FoV.settle
    simp only [List.take_nil, List.foldl_nil]
  unfold DkV.crash
  rw [h1]
  exact h.crashL ch _ _
theorem loadL_lasts : ∀ {l : List FlV} {Q : DkV}, (∀ t ∈ Q.tapes, t.kp = t.nw) → Q.fu = FuV.calm → (∀ t ∈ (Q.loadL l).1.tapes, t.kp = t.nw) ∧ (Q.loadL l).1.fu = FuV.calm
  | [], _, h1, h2 => ⟨h1, h2⟩
  | f :: r, Q, h1, h2 => by
    unfold DkV.loadL
    split
    · exact ⟨h1, h2⟩
    · split
      · exact ⟨h1, h2⟩
      · refine loadL_lasts (l := r) (fun t ht => ?_) h2
        rcases List.mem_append.1 ht with ht | ht
        · exact h1 t ht
        · rw [List.mem_singleton.1 ht]
theorem load_lasts {n : Int} {l : List FlV} {Q : DkV} {c : Int} (h : DkV.load n l = (some Q, c)) : Lasts Q := by
  unfold DkV.load at h
  split at h
  · cases h
  · split at h
    · cases h
    · split at h
      · cases h
      · split at h <;> cases h
        have h0 := loadL_lasts (l := l) (Q := DkV.fresh n) (fun t ht => (by cases ht)) rfl
        exact ⟨h0.1, rfl, h0.2⟩
theorem load_none {n : Int} {l : List FlV} {c : Int} (h : DkV.load n l = (none, c)) : c ≠ 0 := by
  unfold DkV.load at h
  split at h
  · cases h; decide
  · split at h
    · cases h; decide
    · split at h
      · rename_i hq
        injection h with _ h
        rw [← h]
        exact hq
      · split at h <;> cases h
        decide
end Go.Proofs.YtomfcgeibbicoaaGreat
namespace Go.Proofs.YtomfcgeibbicoaaGreat
open Go.RowKit Go.Maps
end Go.Proofs.YtomfcgeibbicoaaGreat
