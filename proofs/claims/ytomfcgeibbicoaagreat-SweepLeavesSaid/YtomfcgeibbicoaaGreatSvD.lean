/- Plain law: what the sweep leaves. -/
import Derived.Test.YtomfcgeibbicoaaGreatSvA
import Derived.Test.YtomfcgeibbicoaaGreatPyA
namespace Go.Proofs.YtomfcgeibbicoaaGreat
open Go.RowKit Go.Maps
theorem nmIs_iff {s : ByteArray} {m : Mk} : nmIs s m = true ↔ m.nm = s := by
  unfold nmIs
  exact lb_eqb m.nm s
theorem found_of {s : ByteArray} {l : List Mk} (h : ∃ m ∈ l, m.nm = s) : (findM s l).2 = true := by
  obtain ⟨m, hm, e⟩ := h
  unfold findM
  cases hf : l.find? (nmIs s) with
  | none => rw [List.find?_eq_none] at hf; exact absurd (nmIs_iff.2 e) (hf m hm)
  | some x => rfl
theorem calm_ask {Q : DkV} (h : Q.fu = FuV.calm) (b : Bool) : (Q.ask b).2 = 0 ∧ (Q.ask b).1.fu = FuV.calm ∧ (Q.ask b).1.tapes = Q.tapes ∧ (Q.ask b).1.fo = Q.fo := by
  unfold DkV.ask
  rw [h]
  cases b <;> exact ⟨rfl, rfl, rfl, rfl⟩
/-- Files go from a disk that does not fail. -/
structure RmL (Q0 Q : DkV) (l : List ByteArray) : Prop where
  fu : Q.fu = FuV.calm
  tp : Q.tapes = Q0.tapes
  now : Q.fo.now = Q0.fo.now.filter fun m => !l.any fun s => nmIs s m
theorem rems_law : ∀ (l : List ByteArray) (Q : DkV) (n : Nat), Q.fu = FuV.calm → l.Nodup → (∀ s ∈ l, ∃ m ∈ Q.fo.now, m.nm = s) → (Q.rems l n).2.2 = 0 ∧ RmL Q (Q.rems l n).1 l ∧ ((l = [] → n = 0 → Q.fo.ch = []) → (Q.rems l n).1.fo.ch = [])
  | [], Q, n, hf, _, _ => by
    have hF : (Q.fo.now.filter fun m => !([] : List ByteArray).any fun s => nmIs s m) = Q.fo.now := by simp
    unfold DkV.rems
    by_cases h0 : n = 0
    · rw [if_pos h0]
      exact ⟨rfl, ⟨hf, rfl, hF.symm⟩, fun h => h rfl h0⟩
    · rw [if_neg h0]
      obtain ⟨a1, a2, a3, a4⟩ := calm_ask hf true
      have hs : Q.syncAll = ({ (Q.ask true).1 with fo := Q.fo.sync }, 0) := by
        unfold DkV.syncAll
        rw [if_neg (by rw [hf]; decide), if_pos a1]
      rw [hs]
      exact ⟨rfl, ⟨a2, a3, by rw [hF]; exact sync_now Q.fo⟩, fun _ => rfl⟩
  | s :: r, Q, n, hf, hn, hm => by
    obtain ⟨a1, a2, a3, a4⟩ := calm_ask hf false
    have hfd := found_of (hm s (by simp))
    have hr : Q.remove s = ({ (Q.ask false).1 with fo := Q.fo.doC ⟨true, s, false, ⟨#[]⟩, 0⟩ }, 0) := by
      unfold DkV.remove
      rw [if_neg (by rw [hf]; decide), if_neg (by rw [hfd]; decide), if_pos a1]
      unfold FoV.drop
      rw [if_pos hfd]
    have hnow : ({ (Q.ask false).1 with fo := Q.fo.doC ⟨true, s, false, ⟨#[]⟩, 0⟩ } : DkV).fo.now = Q.fo.now.filter (nmNot s) := by
      show (Q.fo.doC _).now = _
      rw [FoV.now_do]; rfl
    have hstep : Q.rems (s :: r) n = ({ (Q.ask false).1 with fo := Q.fo.doC ⟨true, s, false, ⟨#[]⟩, 0⟩ } : DkV).rems r (n + 1) := by
      rw [DkV.rems, hr, if_pos rfl]
    obtain ⟨b1, b2, b3⟩ := rems_law r ({ (Q.ask false).1 with fo := Q.fo.doC ⟨true, s, false, ⟨#[]⟩, 0⟩ } : DkV) (n + 1) a2 (List.nodup_cons.1 hn).2 (fun x hx => by
      obtain ⟨m, h1, h2⟩ := hm x (by simp [hx])
      refine ⟨m, ?_, h2⟩
      rw [hnow, List.mem_filter]
      refine ⟨h1, ?_⟩
      unfold nmNot
      cases hq : nmIs s m
      · rfl
      · have := nmIs_iff.1 hq
        exact absurd (by rw [← this, h2]; exact hx) (List.nodup_cons.1 hn).1)
    rw [hstep]
    refine ⟨b1, ⟨b2.fu, b2.tp.trans a3, ?_⟩, fun _ => b3 (fun _ h => absurd h (Nat.succ_ne_zero n))⟩
    rw [b2.now, hnow, List.filter_filter]
    congr 1
    funext m
    unfold nmNot
    rw [List.any_cons, Bool.not_or, Bool.and_comm]
/-- What stays. -/
def stayN (ep : Int) (s : ByteArray) : Bool := !isOld ep (titR s) && !isTemp (titR s)
theorem old_temp {ep : Int} {t : TitV} (h : isOld ep t = true) : isTemp t = false := by
  unfold isOld at h
  unfold isTemp
  simp only [Bool.and_eq_true, Bool.or_eq_true, decide_eq_true_eq] at h
  refine decide_eq_false ?_
  omega
theorem rise_nodup {l : List ByteArray} (h : Rise l) : l.Nodup := h.imp fun {a b} hb e => by
  subst e
  exact Std.lt_irrefl (up_lt.1 hb)
theorem pick_nodup {ep : Int} {l : List ByteArray} (h : Rise l) : (pickN (isOld ep) l ++ pickN isTemp l).Nodup := by
  rw [List.nodup_append]
  refine ⟨rise_nodup (List.Pairwise.filter _ h), rise_nodup (List.Pairwise.filter _ h), fun a ha b hb e => ?_⟩
  subst e
  have h1 := (List.mem_filter.1 ha).2
  have h2 := (List.mem_filter.1 hb).2
  rw [old_temp h1] at h2
  cases h2
theorem pick_any {ep : Int} {Q : DkV} {m : Mk} (hm : m ∈ Q.fo.now) : (!(pickN (isOld ep) Q.nms ++ pickN isTemp Q.nms).any fun s => nmIs s m) = stayN ep m.nm := by
  have hn : m.nm ∈ Q.nms := List.mem_map.2 ⟨m, hm, rfl⟩
  have key : ((pickN (isOld ep) Q.nms ++ pickN isTemp Q.nms).any fun s => nmIs s m) = (isOld ep (titR m.nm) || isTemp (titR m.nm)) := by
    rw [Bool.eq_iff_iff, List.any_eq_true, Bool.or_eq_true]
    constructor
    · rintro ⟨s, hs, e⟩
      have e := nmIs_iff.1 e
      subst e
      rcases List.mem_append.1 hs with hs | hs
      · exact .inl (List.mem_filter.1 hs).2
      · exact .inr (List.mem_filter.1 hs).2
    · rintro (h | h)
      · exact ⟨m.nm, List.mem_append.2 (.inl (List.mem_filter.2 ⟨hn, h⟩)), nmIs_iff.2 rfl⟩
      · exact ⟨m.nm, List.mem_append.2 (.inr (List.mem_filter.2 ⟨hn, h⟩)), nmIs_iff.2 rfl⟩
  rw [key]
  unfold stayN
  rw [Bool.not_or]
/-- Behind the sweep, and a crash, of a disk on which all lasts: just what stays. -/
theorem sold_law {Q : DkV} (h : Lasts Q) (hr : Rise Q.nms) (ep : Int) : (Q.sold ep).2.2 = 0 ∧ Lasts (Q.sold ep).1 ∧ (Q.sold ep).1.files = Q.files.filter fun f => stayN ep f.nm := by
  have hs : Q.sold ep = Q.rems (pickN (isOld ep) Q.nms ++ pickN isTemp Q.nms) 0 := by
    unfold DkV.sold
    rw [if_neg (by rw [h.fu]; decide)]
  rw [hs]
  obtain ⟨h1, h2, h3⟩ := rems_law _ Q 0 h.fu (pick_nodup (ep := ep) hr) (fun s hs => by
    have hn : s ∈ Q.nms := by
      rcases List.mem_append.1 hs with hs | hs <;> exact (List.mem_filter.1 hs).1
    obtain ⟨m, hm, e⟩ := List.mem_map.1 hn
    exact ⟨m, hm, e⟩)
  refine ⟨h1, ⟨fun t ht => h.tp t (by rw [← h2.tp]; exact ht), h3 (fun _ _ => h.ch), h2.fu⟩, ?_⟩
  have hat : ∀ id, (Q.rems (pickN (isOld ep) Q.nms ++ pickN isTemp Q.nms) 0).1.tapeAt id = Q.tapeAt id := fun id => by unfold DkV.tapeAt; rw [h2.tp]
  unfold DkV.files
  rw [h2.now, List.filter_map]
  have e1 : (fun m : Mk => (⟨m.nm, ((Q.rems (pickN (isOld ep) Q.nms ++ pickN isTemp Q.nms) 0).1.tapeAt m.pl).nw⟩ : FlV)) = fun m => ⟨m.nm, (Q.tapeAt m.pl).nw⟩ := by funext m; rw [hat]
  rw [e1]
  congr 1
  exact List.filter_congr fun m hm => pick_any hm
theorem files_nms (Q : DkV) : Q.files.map FlV.nm = Q.nms := by
  unfold DkV.files DkV.nms
  rw [List.map_map]; rfl
/-- None of what stays is old, or was being written. -/
theorem stay_none {Q : DkV} {Q0 : DkV} {ep : Int} (h : Q.files = Q0.files.filter fun f => stayN ep f.nm) : pickN (isOld ep) Q.nms = [] ∧ pickN isTemp Q.nms = [] := by
  have key : ∀ s ∈ Q.nms, stayN ep s = true := fun s hs => by
    rw [← files_nms, h] at hs
    obtain ⟨f, hf, rfl⟩ := List.mem_map.1 hs
    exact (List.mem_filter.1 hf).2
  constructor <;>
  · rw [List.eq_nil_iff_forall_not_mem]
    intro s hs
    obtain ⟨h1, h2⟩ := List.mem_filter.1 hs
    have h3 := key s h1
    unfold stayN at h3
    simp only [h2, Bool.not_true, Bool.false_and, Bool.and_false] at h3
    cases h3
theorem filter_at {α : Type} (p : α → Bool) : ∀ (l : List α) (i : Nat) (hi : i < l.length), p l[i] = true → (l.filter p)[((l.take i).filter p).length]? = some l[i]
  | a :: r, 0, _, h => by
    rw [List.take_zero, List.filter_nil, List.length_nil]
    rw [List.filter_cons_of_pos (by exact h)]
    rfl
  | a :: r, i + 1, hi, h => by
    rw [List.length_cons] at hi
    have ih := filter_at p r i (by omega) h
    rw [List.take_succ_cons]
    by_cases ha : p a = true
    · rw [List.filter_cons_of_pos ha, List.filter_cons_of_pos ha, List.length_cons, List.getElem?_cons_succ]
      exact ih
    · rw [List.filter_cons_of_neg ha, List.filter_cons_of_neg ha]
      exact ih
end Go.Proofs.YtomfcgeibbicoaaGreat
