/- A disk that was loaded: a crash leaves it as it is; lists of files. -/
import Derived.Test.YtcffkmlnbnjibaaGreatPxA
import Derived.Test.YtcffkmlnbnjibaaGreatDkM
namespace Go.Proofs.YtcffkmlnbnjibaaGreat
open Go.RowKit Go.Maps
theorem mix_eq_to (a ch : ByteArray) : ∀ k, k ≤ cntS a.size → (mixTo a a ch k).1 = a.extract 0 (32 * k)
  | 0, _ => by rw [show 32 * 0 = 0 from rfl, ByteArray.extract_same]; rfl
  | k + 1, hk => by
    have ih := mix_eq_to a ch k (by omega)
    have hu : unS a a k = false := by unfold unS; simp
    have hz : (a.extract 0 (32 * k)).size = 32 * k := by rw [ByteArray.size_extract]; unfold cntS at hk; omega
    have h2 : (secS a k).size ≠ 0 := by unfold secS; rw [ByteArray.size_extract]; unfold cntS at hk; omega
    rw [mixTo_succ]
    unfold mixStep
    rw [hu, if_neg (by simp), ih]
    show layS _ k _ = _
    unfold layS
    rw [if_neg h2, hz, Nat.sub_self, show zeroS 0 = ByteArray.empty from rfl, ByteArray.append_empty]
    exact ByteArray.extract_append_extract.trans (by rw [Nat.min_eq_left (by omega), Nat.max_eq_right (by omega)]; rfl)
theorem mix_eq (a ch : ByteArray) : (mixS a a ch).1 = a := by
  unfold mixS
  rw [Nat.max_self, mix_eq_to a ch _ (Nat.le_refl _)]
  apply ba_data
  rw [ByteArray.data_extract, Array.extract_eq_self_of_le (by show a.size ≤ _; unfold cntS; omega)]
/-- All lasts. -/
structure Lasts (Q : DkV) : Prop where
  tp : ∀ t ∈ Q.tapes, t.kp = t.nw
  ch : Q.fo.ch = []
  fu : Q.fu = FuV.calm
theorem Lasts.at {Q : DkV} (h : Lasts Q) (id : Int) : (Q.tapeAt id).kp = (Q.tapeAt id).nw := by
  unfold DkV.tapeAt
  rw [List.getD_eq_getElem?_getD]
  cases hq : Q.tapes[(id - 1).toNat]? with
  | none => rfl
  | some t => exact h.tp t (List.mem_of_getElem? hq)
theorem setT_same {Q : DkV} {id : Int} : Q.setT id (Q.tapeAt id) = Q := by
  unfold DkV.setT DkV.tapeAt
  rw [List.getD_eq_getElem?_getD]
  cases hq : Q.tapes[(id - 1).toNat]? with
  | none => rw [List.set_eq_of_length_le (List.getElem?_eq_none_iff.1 hq)]
  | some t =>
    obtain ⟨h1, h2⟩ := List.getElem?_eq_some_iff.1 hq
    show { Q with tapes := Q.tapes.set _ t } = Q
    rw [← h2, List.set_getElem_self]
theorem Lasts.crashL {Q : DkV} (h : Lasts Q) (ch : ByteArray) : ∀ (ids : List Int) (k : Nat), (Go.Proofs.YtcffkmlnbnjibaaGreat.crashL ch ids (Q, k)).1 = Q
  | [], _ => rfl
  | id :: r, k => by
    unfold Go.Proofs.YtcffkmlnbnjibaaGreat.crashL
    have e : (⟨(mixS (Q.tapeAt id).kp (Q.tapeAt id).nw (restS ch k)).1, (mixS (Q.tapeAt id).kp (Q.tapeAt id).nw (restS ch k)).1⟩ : TpV) = Q.tapeAt id := by
      have h1 := h.at id
      have h2 : (mixS (Q.tapeAt id).kp (Q.tapeAt id).nw (restS ch k)).1 = (Q.tapeAt id).nw := by rw [h1, mix_eq]
      rw [h2]
      cases hq : Q.tapeAt id with
      | mk a b => rw [hq] at h1; simp only at h1; rw [h1]
    show (Go.Proofs.YtcffkmlnbnjibaaGreat.crashL ch r (Q.setT id _, _)).1 = Q
    rw [e, setT_same]
    exact Lasts.crashL h ch r _
theorem Lasts.crash {Q : DkV} (h : Lasts Q) (ch : ByteArray) : (Q.crash ch).1 = Q := by
  have h1 : Q.crash1 ch = Q := by
    obtain ⟨sec, tapes, ⟨kept, chs⟩, fu, calls⟩ := Q
    have h2 : chs = [] := h.ch
    have h3 : fu = FuV.calm := h.fu
    subst h2; subst h3
    unfold DkV.crash1 FoV.crash FoV.settle
    simp only [List.take_nil, List.foldl_nil]
  unfold DkV.crash
  rw [h1]
  exact h.crashL ch _ _
theorem loadL_lasts : ∀ {l : List FlV} {Q : DkV}, (∀ t ∈ Q.tapes, t.kp = t.nw) → Q.fu = FuV.calm → (∀ t ∈ (Q.loadL l).1.tapes, t.kp = t.nw) ∧ (Q.loadL l).1.fu = FuV.calm
  | [], _, h1, h2 => ⟨h1, h2⟩
  | f :: r, Q, h1, h2 => by
    unfold DkV.loadL
    split
    · exact ⟨h1, h2⟩
    · split
      · exact ⟨h1, h2⟩
      · refine loadL_lasts (l := r) (fun t ht => ?_) h2
        rcases List.mem_append.1 ht with ht | ht
        · exact h1 t ht
        · rw [List.mem_singleton.1 ht]
theorem load_lasts {n : Int} {l : List FlV} {Q : DkV} {c : Int} (h : DkV.load n l = (some Q, c)) : Lasts Q := by
  unfold DkV.load at h
  split at h
  · cases h
  · split at h
    · cases h
    · split at h
      · cases h
      · split at h <;> cases h
        have h0 := loadL_lasts (l := l) (Q := DkV.fresh n) (fun t ht => (by cases ht)) rfl
        exact ⟨h0.1, rfl, h0.2⟩
theorem load_none {n : Int} {l : List FlV} {c : Int} (h : DkV.load n l = (none, c)) : c ≠ 0 := by
  unfold DkV.load at h
  split at h
  · cases h; decide
  · split at h
    · cases h; decide
    · split at h
      · rename_i hq
        injection h with _ h
        rw [← h]
        exact hq
      · split at h <;> cases h
        decide
set_option maxHeartbeats 2000000 in
set_option maxRecDepth 100000 in
theorem files11_calls {A B : Option Addr} {c d : Nat} {l : List FlV} {w : World} (hr : Row w 2 A l.length (l.flatMap FlV.cs)) (hs : Row w 2 B l.length (l.flatMap FlV.cs)) (hlm0 : l.length ≤ 1000000000) :
    Calls Tryz.prog 81 #[.slice A l.length c, .slice B l.length d] w fun e w' => e = .returned (.bool true) ∧ Ex w w' := by
  have HR := Lib.hid hr
  have HS := Lib.hid hs
  clear hr hs
  go_enter Tryz.func81, Tryz.ntmps81
  go_wp2_with fail
  go_loopw [5] (fun v wr => Ex w wr ∧ ∃ k : Nat, k ≤ l.length ∧ v = .int .i64 (k : Int)) (fun v _ => l.length - (intOf v).toNat)
  case atStart => exact ⟨Ex.refl w, 0, Nat.zero_le _, rfl⟩
  case round =>
    obtain ⟨hbr, k, hk, rfl⟩ := hrel
    have HBr := Lib.hid hbr
    by_cases hlt : k < l.length
    · obtain ⟨fb, fo, rfl, c1, c2⟩ := HR.out.fl hlt
      obtain ⟨gb, go, rfl, c3, c4⟩ := HS.out.fl hlt
      have x1 := hbr.cell c1
      have x2 := hbr.cell c2
      have x3 := hbr.cell c3
      have x4 := hbr.cell c4
      have hkI : (k : Int) < (l.length : Int) := by omega
      have hk0 : (0 : Int) ≤ (k : Int) := by omega
      have hkn : ((k : Int)).toNat = k := by omega
      have hlm : l.length ≤ 1000000000 := hlm0
      have hkw : IntKind.i64.wrap ((k : Int) + 1) = (k : Int) + 1 := IntWalk.i64_in _ (by omega)
      clear c1 c2 c3 c4 hbr
      generalize l[k] = f at *
      obtain ⟨nm, dt⟩ := f
      simp only at x1 x2 x3 x4
      go_wp2_with fail
      go_region_held3 (fun w' => w'.cell? ⟨fb, fo + k * 2, none⟩ = some (.string nm) ∧ w'.cell? ⟨fb, fo + k * 2 + 1, none⟩ = some (.string dt) ∧ w'.cell? ⟨gb, go + k * 2, none⟩ = some (.string nm) ∧ w'.cell? ⟨gb, go + k * 2 + 1, none⟩ = some (.string dt)) (go_keep) (fail)
      all_goals go_wp2_with fail
      all_goals exact ⟨⟨HBr.out.drew, k + 1, by omega, by go_num⟩, by simp [intOf]; omega⟩
    · have hkl : k = l.length := by omega
      subst hkl
      go_wp2_with fail
      go_ret
      exact ⟨rfl, HBr.out⟩
end Go.Proofs.YtcffkmlnbnjibaaGreat
