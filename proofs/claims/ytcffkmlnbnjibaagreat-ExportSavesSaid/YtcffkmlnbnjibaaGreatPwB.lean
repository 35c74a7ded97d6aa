/- Plain law: the steps of writing a file, on a disk whose power may go. -/
import Derived.Test.YtcffkmlnbnjibaaGreatPwA
namespace Go.Proofs.YtcffkmlnbnjibaaGreat
open Go.RowKit Go.Maps
/-- The disk's folder and tapes; the power is on. -/
structure Core (Q0 : DkV) (fo : FoV) (tp : List TpV) (Q : DkV) : Prop where
  fo : Q.fo = fo
  tp : Q.tapes = tp
  sec : Q.sec = Q0.sec
  p : Q.fu.p = -1
  s : Q.fu.s = -1
  off : Q.fu.off = false
  d : Q0.fu.d = -1 → Q.fu.d = -1
/-- The same; the power has gone. -/
structure Gone (Q0 : DkV) (fo : FoV) (tp : List TpV) (Q : DkV) : Prop where
  fo : Q.fo = fo
  tp : Q.tapes = tp
  sec : Q.sec = Q0.sec
  off : Q.fu.off = true
  d : Q0.fu.d ≠ -1
/-- A call is done, or the power goes. -/
def Stp (Q0 : DkV) (fo : FoV) (tp : List TpV) (fo' : FoV) (tp' : List TpV) (r : DkV × Int) : Prop := (r.2 = 0 ∧ Core Q0 fo' tp' r.1) ∨ (r.2 = 14 ∧ Gone Q0 fo tp r.1)
section
variable {Q0 Q : DkV} {fo : FoV} {tp : List TpV} {s b x : ByteArray}
theorem Core.ask (h : Core Q0 fo tp Q) (y : Bool) : ((Q.ask y).2 = 0 ∧ Core Q0 fo tp (Q.ask y).1) ∨ ((Q.ask y).2 = 14 ∧ Gone Q0 fo tp (Q.ask y).1) := by
  have hc : (Q.fu.d = 0 ∧ Q.fu.call y = ({ Q.fu with d := -1, off := true }, 14)) ∨ (Q.fu.d ≠ 0 ∧ ∃ f, Q.fu.call y = (f, 0) ∧ f.p = -1 ∧ f.s = -1 ∧ f.off = false ∧ f.d = tick Q.fu.d) := by
    unfold FuV.call
    rw [if_neg (by rw [h.off]; decide)]
    by_cases hd : Q.fu.d = 0
    · left; exact ⟨hd, by rw [if_pos hd]⟩
    · right
      refine ⟨hd, ?_⟩
      rw [if_neg hd]
      cases y
      · rw [if_neg (by decide), if_neg (by rw [h.p]; decide)]
        exact ⟨_, rfl, by show tick Q.fu.p = -1; rw [h.p]; rfl, h.s, h.off, rfl⟩
      · rw [if_pos rfl, if_neg (by rw [h.s]; decide)]
        exact ⟨_, rfl, h.p, by show tick Q.fu.s = -1; rw [h.s]; rfl, h.off, rfl⟩
  unfold DkV.ask
  rcases hc with ⟨h0, hc⟩ | ⟨h0, f, hc, e1, e2, e3, e4⟩
  · right
    rw [hc]
    exact ⟨rfl, h.fo, h.tp, h.sec, rfl, fun e => by have := h.d e; omega⟩
  · left
    rw [hc]
    exact ⟨rfl, h.fo, h.tp, h.sec, e1, e2, e3, fun e => by rw [e4, h.d e]; rfl⟩
theorem step_remove (h : Core Q0 fo tp Q) (hf : (findM s fo.now).2 = true) : Stp Q0 fo tp (fo.doC ⟨true, s, false, ⟨#[]⟩, 0⟩) tp (Q.remove s) := by
  unfold DkV.remove Stp
  rw [if_neg (by rw [h.off]; decide), if_neg (by rw [h.fo, hf]; decide)]
  rcases h.ask false with ⟨e, k⟩ | ⟨e, k⟩
  · left
    rw [if_pos e]
    refine ⟨rfl, ?_, k.tp, k.sec, k.p, k.s, k.off, k.d⟩
    show (Q.fo.drop s).1 = _
    unfold FoV.drop
    rw [h.fo, if_pos hf]
  · right
    rw [if_neg (by rw [e]; decide)]
    exact ⟨e, k⟩
theorem step_create (h : Core Q0 fo tp Q) (hm : mayB s = true) (hf : (findM s fo.now).2 = false) (h64 : fo.ids.length < 64) :
    Stp Q0 fo tp (fo.doC ⟨false, ⟨#[]⟩, true, s, (tp.length : Int) + 1⟩) (tp ++ [⟨⟨#[]⟩, ⟨#[]⟩⟩]) (Q.create s) := by
  unfold DkV.create Stp
  rw [if_neg (by rw [h.off]; decide), if_neg (by rw [hm]; decide), if_neg (by rw [h.fo, hf]; decide), if_neg (by rw [h.fo]; omega)]
  rcases h.ask false with ⟨e, k⟩ | ⟨e, k⟩
  · left
    rw [if_pos e]
    refine ⟨rfl, ?_, ?_, k.sec, k.p, k.s, k.off, k.d⟩
    · show (Q.ask false).1.fo.doC ⟨false, ⟨#[]⟩, true, s, ((Q.ask false).1.tapes.length : Int) + 1⟩ = _
      rw [k.fo, k.tp]
    · show (Q.ask false).1.tapes ++ _ = _
      rw [k.tp]
  · right
    rw [if_neg (by rw [e]; decide)]
    exact ⟨e, k⟩
theorem Core.set (h : Core Q0 fo tp Q) (id : Int) (t : TpV) : Core Q0 fo (tp.set (id - 1).toNat t) (Q.setT id t) := ⟨h.fo, by unfold DkV.setT; show Q.tapes.set _ _ = _; rw [h.tp], h.sec, h.p, h.s, h.off, h.d⟩
theorem step_append {id : Int} (h : Core Q0 fo tp Q) (hf : findM s fo.now = (id, true)) (hr : ¬ Q.sec < Q.after s x) : Stp Q0 fo tp fo (tp.set (id - 1).toNat ((Q.tapeAt id).plus x)) (Q.append s x) := by
  have hid : Q.idOf s = id := by unfold DkV.idOf; rw [h.fo, hf]
  unfold DkV.append Stp
  rw [if_neg (by rw [h.off]; decide), if_neg (by rw [h.fo, hf]; simp), if_neg hr]
  rcases h.ask false with ⟨e, k⟩ | ⟨e, k⟩
  · left
    rw [if_pos e, hid]
    exact ⟨rfl, k.set id _⟩
  · right
    rw [if_neg (by rw [e]; decide)]
    exact ⟨e, k⟩
theorem step_sync {id : Int} (h : Core Q0 fo tp Q) (hf : findM s fo.now = (id, true)) : Stp Q0 fo tp fo (tp.set (id - 1).toNat ⟨(Q.tapeAt id).nw, (Q.tapeAt id).nw⟩) (Q.syncT s) := by
  have hid : Q.idOf s = id := by unfold DkV.idOf; rw [h.fo, hf]
  unfold DkV.syncT Stp
  rw [if_neg (by rw [h.off]; decide), if_neg (by rw [h.fo, hf]; simp)]
  rcases h.ask true with ⟨e, k⟩ | ⟨e, k⟩
  · left
    rw [if_pos e, hid]
    exact ⟨rfl, k.set id _⟩
  · right
    rw [if_neg (by rw [e]; decide)]
    exact ⟨e, k⟩
theorem step_rename {id : Int} (h : Core Q0 fo tp Q) (hf : findM s fo.now = (id, true)) (hm : mayB b = true) (hne : s.toList ≠ b.toList) : Stp Q0 fo tp (fo.doC ⟨true, s, true, b, id⟩) tp (Q.rename s b) := by
  unfold DkV.rename Stp
  rw [if_neg (by rw [h.off]; decide), if_neg (by rw [h.fo, hf]; simp), if_neg (by rw [hm]; decide)]
  rcases h.ask false with ⟨e, k⟩ | ⟨e, k⟩
  · left
    rw [if_pos e]
    refine ⟨rfl, ?_, k.tp, k.sec, k.p, k.s, k.off, k.d⟩
    show (Q.fo.move s b).1 = _
    unfold FoV.move
    rw [h.fo, hf, if_pos rfl, if_neg (by simpa using hne)]
  · right
    rw [if_neg (by rw [e]; decide)]
    exact ⟨e, k⟩
theorem step_syncAll (h : Core Q0 fo tp Q) : Stp Q0 fo tp fo.sync tp Q.syncAll := by
  unfold DkV.syncAll Stp
  rw [if_neg (by rw [h.off]; decide)]
  rcases h.ask true with ⟨e, k⟩ | ⟨e, k⟩
  · left
    rw [if_pos e]
    exact ⟨rfl, by show Q.fo.sync = _; rw [h.fo], k.tp, k.sec, k.p, k.s, k.off, k.d⟩
  · right
    rw [if_neg (by rw [e]; decide)]
    exact ⟨e, k⟩
theorem Gone.remove (h : Gone Q0 fo tp Q) : (Q.remove s).1 = Q := by unfold DkV.remove; rw [if_pos h.off]
theorem sum_sub (Q : DkV) : ∀ {l' l : List Int}, Up l → Up l' → (∀ x ∈ l, x ∈ l') → sumT Q l ≤ sumT Q l'
  | [], [], _, _, _ => Nat.le_refl _
  | [], x :: r, _, _, h => by cases h x (by simp)
  | y :: r', [], _, _, _ => by unfold sumT; simp
  | y :: r', x :: r, hl, hl', h => by
    have h1 := (List.pairwise_cons.1 hl).1
    have h2 := (List.pairwise_cons.1 hl).2
    have h3 := (List.pairwise_cons.1 hl').1
    have h4 := (List.pairwise_cons.1 hl').2
    rcases List.mem_cons.1 (h x (by simp)) with rfl | hx
    · have := sum_sub Q (l' := r') (l := r) h2 h4 (fun z hz => by
        rcases List.mem_cons.1 (h z (by simp [hz])) with rfl | h5
        · have := h1 z hz; omega
        · exact h5)
      unfold sumT at this ⊢
      rw [List.map_cons, List.sum_cons, List.map_cons, List.sum_cons]
      omega
    · have := sum_sub Q (l' := r') (l := x :: r) hl h4 (fun z hz => by
        rcases List.mem_cons.1 (h z hz) with rfl | h5
        · have h6 := h3 x hx
          rcases List.mem_cons.1 hz with rfl | h7
          · omega
          · have := h1 z h7; omega
        · exact h5)
      unfold sumT at this ⊢
      rw [List.map_cons, List.sum_cons] at this ⊢
      rw [List.map_cons, List.sum_cons]
      omega
theorem sum_len : ∀ {l' l : List Int}, Up l → Up l' → (∀ x ∈ l, x ∈ l') → l.length ≤ l'.length
  | [], [], _, _, _ => Nat.le_refl _
  | [], x :: r, _, _, h => by cases h x (by simp)
  | y :: r', [], _, _, _ => by simp
  | y :: r', x :: r, hl, hl', h => by
    have h1 := (List.pairwise_cons.1 hl).1
    have h2 := (List.pairwise_cons.1 hl).2
    have h3 := (List.pairwise_cons.1 hl').1
    have h4 := (List.pairwise_cons.1 hl').2
    have hall : ∀ z ∈ r, z ∈ r' := fun z hz => by
      rcases List.mem_cons.1 (h z (by simp [hz])) with rfl | h5
      · rcases List.mem_cons.1 (h x (by simp)) with rfl | h6
        · have := h1 x hz; omega
        · have h7 := h1 z hz
          have h8 := h3 x h6
          omega
      · exact h5
    have := sum_len (l' := r') (l := r) h2 h4 hall
    rw [List.length_cons, List.length_cons]
    omega
end
end Go.Proofs.YtcffkmlnbnjibaaGreat
