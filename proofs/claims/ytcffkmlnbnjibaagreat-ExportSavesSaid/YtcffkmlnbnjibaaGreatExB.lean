/- Plain law: texts saved under one name, one behind the other. -/
import Derived.Test.YtcffkmlnbnjibaaGreatPwD
import Derived.Test.YtcffkmlnbnjibaaGreatExA
namespace Go.Proofs.YtcffkmlnbnjibaaGreat
open Go.RowKit Go.Maps
/-- The name of the file that is saved. -/
def xa : ByteArray := frExp ++ sA
theorem xa_ne : tmpS.toList ≠ xa.toList := by rw [show tmpS.toList = [116, 109, 112, 45, 115, 97, 118, 101] from by kernel_rfl, show xa.toList = [120, 45, 97] from by kernel_rfl]; decide
theorem sA_user : userB sA = true := by kernel_rfl
theorem tmp_may : mayB tmpS = true := by kernel_rfl
theorem xa_may : mayB xa = true := by kernel_rfl
/-- A disk on which only these two files are. -/
structure Sm (Q : DkV) : Prop where
  clean : Clean Q
  fu : Q.fu = FuV.calm
  sec : Q.sec = 500
  nms : ∀ m ∈ Q.fo.kept, (m.nm = tmpS ∨ m.nm = xa) ∧ cntS (Q.tapeAt m.pl).nw.size ≤ 16
  uniq : Uniq Q.fo.kept
theorem two_names {l : List Mk} (hu : Uniq l) {a b : ByteArray} (h : ∀ m ∈ l, m.nm = a ∨ m.nm = b) : l.length ≤ 2 := by
  match l, hu, h with
  | [], _, _ => exact Nat.zero_le _
  | [_], _, _ => show 1 ≤ 2; omega
  | [_, _], _, _ => exact Nat.le_refl _
  | x :: y :: z :: r, hu, h =>
    exfalso
    have h1 := List.pairwise_cons.1 hu
    have h2 := List.pairwise_cons.1 h1.2
    have a1 := h1.1 y (by simp)
    have a2 := h1.1 z (by simp)
    have a3 := h2.1 z (by simp)
    rcases h x (by simp) with e1 | e1 <;> rcases h y (by simp) with e2 | e2 <;> rcases h z (by simp) with e3 | e3 <;> simp [e1, e2, e3] at a1 a2 a3
theorem setI_len (xs : List Int) : (setI xs).length ≤ xs.length := by
  have : ∀ (xs l : List Int), (xs.foldl addI l).length ≤ l.length + xs.length := fun xs => by
    induction xs with
    | nil => intro l; simp
    | cons x r ih =>
      intro l
      have h1 := ih (addI l x)
      have h2 := addI_len l x
      rw [List.foldl_cons, List.length_cons]
      omega
  have := this xs []
  unfold setI
  simpa using this
theorem sum_small {Q : DkV} : ∀ {ids : List Int}, (∀ id ∈ ids, cntT (Q.tapeAt id) ≤ 16) → sumT Q ids ≤ 16 * ids.length
  | [], _ => Nat.le_refl _
  | x :: r, h => by
    have h1 := h x (by simp)
    have h2 := sum_small (ids := r) (fun y hy => h y (by simp [hy]))
    unfold sumT at h2 ⊢
    rw [List.map_cons, List.sum_cons, List.length_cons]
    omega
section
variable {Q : DkV}
theorem Sm.room (h : Sm Q) {x : ByteArray} (hx : x.size ≤ 500) : Room Q x := by
  have h2 := two_names h.uniq (fun m hm => (h.nms m hm).1)
  have hi : Q.fo.ids.length ≤ 2 := by
    have h3 := setI_len (Q.fo.lists.flatMap fun l => l.map Mk.pl)
    have h4 : (Q.fo.lists.flatMap fun l => l.map Mk.pl) = Q.fo.kept.map Mk.pl := by
      unfold FoV.lists
      rw [h.clean.ch]
      show [Q.fo.kept].flatMap _ = _
      simp
    rw [h4, List.length_map] at h3
    unfold FoV.ids
    rw [h4]
    omega
  have hs : Q.taken ≤ 16 * Q.fo.ids.length := sum_small fun id hid => by
    rcases (FoV.ids_mem _ id).1 hid with ⟨m, hm, e⟩ | ⟨c, hcm, _⟩
    · have h5 := (h.nms m hm).2
      have h6 := (h.clean.id m hm).2.2
      rw [← e]
      unfold cntT
      rw [h6, Nat.max_self]
      exact h5
    · rw [h.clean.ch] at hcm; cases hcm
  refine ⟨by omega, ?_⟩
  rw [h.sec]
  unfold cntS
  omega
theorem Sm.arm (h : Sm Q) (n : Int) : Clean { Q with fu := (⟨-1, -1, n, false⟩ : FuV) } ∧ Lit0 { Q with fu := (⟨-1, -1, n, false⟩ : FuV) } ∧ (∀ x : ByteArray, x.size ≤ 500 → Room { Q with fu := (⟨-1, -1, n, false⟩ : FuV) } x) := by
  refine ⟨⟨h.clean.ch, h.clean.id⟩, ⟨rfl, rfl, rfl⟩, fun x hx => ⟨(h.room hx).ids, (h.room hx).sec⟩⟩
/-- The disk when it is saved on. -/
def armE (Q : DkV) (n : Int) : DkV := if n < 0 then Q else { Q with fu := (⟨-1, -1, n, false⟩ : FuV) }
theorem fault_armE (h : Q.fu = FuV.calm) {n : Int} (hn : ¬ n < 0) : Q.fault 3 n = (armE Q n, 0) := by
  unfold DkV.fault armE
  rw [h, if_neg (by decide), if_neg hn]
  have h2 : FuV.calm.arm 3 n = (⟨-1, -1, n, false⟩, true) := by
    unfold FuV.arm
    rw [if_neg (by omega), if_neg (by decide), if_neg (by decide), if_neg (by decide)]
    rfl
  rw [h2]
  rfl
theorem armE_ok {M : Nat} {n : Int} (h : Q.Ok M) (hn : n ≤ 9223372036854775807) : (armE Q n).Ok M := by
  unfold armE
  split
  · exact h
  · rename_i h0
    exact ⟨h.fo, ⟨by unfold inF; show (-1 : Int) ≤ -1 ∧ (-1 : Int) ≤ _; omega, by unfold inF; show (-1 : Int) ≤ -1 ∧ (-1 : Int) ≤ _; omega, by unfold inF; show (-1 : Int) ≤ n ∧ n ≤ _; omega⟩, h.s1, h.s2, h.tl, h.cl, h.tz⟩
/-- One save, and a crash: what is read then. -/
def readC (c : Option ByteArray) : ByteArray × Int := match c with | some y => (y, 0) | none => (⟨#[]⟩, 8)
theorem save_law (h : Sm Q) {n : Int} {x cho : ByteArray} (hx : x.size ≤ 500) {r : DkV × Nat × Int} (hr : (armE Q n).save sA x = r) : Sm (r.1.crash cho).1 ∧ (r.1.crash cho).1.rexp sA = readC ((r.1.crash cho).1.cont xa) ∧
    ((r.2.2 = 0 ∧ r.2.1 = 5 ∧ (r.1.crash cho).1.cont xa = some x) ∨ (r.2.2 = 14 ∧ r.2.1 ≤ 4 ∧ ((r.1.crash cho).1.cont xa = Q.cont xa ∨ (r.1.crash cho).1.cont xa = some x))) := by
  have hA : Clean (armE Q n) ∧ Lit0 (armE Q n) ∧ Room (armE Q n) x ∧ (armE Q n).cont xa = Q.cont xa ∧ (armE Q n).fo = Q.fo ∧ (armE Q n).sec = Q.sec ∧ (armE Q n).tapes = Q.tapes := by
    unfold armE
    split
    · exact ⟨h.clean, ⟨by rw [h.fu]; rfl, by rw [h.fu]; rfl, by rw [h.fu]; rfl⟩, h.room hx, rfl, rfl, rfl, rfl⟩
    · obtain ⟨a1, a2, a3⟩ := h.arm n
      exact ⟨a1, a2, a3 x hx, rfl, rfl, rfl, rfl⟩
  obtain ⟨a1, a2, a3, a4, a5, a6, a7⟩ := hA
  have hs : (armE Q n).save sA x = (armE Q n).pub tmpS xa x := by
    unfold DkV.save
    rw [if_neg (by rw [sA_user]; decide), if_neg (by omega)]
    rfl
  rw [hs] at hr
  obtain ⟨hB, hC⟩ := pub_crash a1 a2 a3 tmp_may xa_may xa_ne cho
  rw [hr] at hB hC
  refine ⟨⟨hB.clean, hB.fu, hB.sec.trans (a6.trans h.sec), fun m hm => ?_, hB.uniq (by rw [a5]; exact h.uniq)⟩, ?_, ?_⟩
  · rcases hB.all m hm with ⟨h1, h2⟩ | ⟨h1, h2, _⟩
    · rw [a5] at h1
      have h3 := h.nms m h1
      refine ⟨h3.1, ?_⟩
      rw [h2]
      unfold DkV.tapeAt
      rw [a7]
      exact h3.2
    · refine ⟨h1, Nat.le_trans h2 ?_⟩
      unfold cntS; omega
  · unfold DkV.rexp DkV.read DkV.cont DkV.idOf
    rw [if_neg (by rw [sA_user]; decide), hB.fu, if_neg (by decide), hB.clean.now]
    show (if (findM xa _).2 = false then _ else _) = _
    cases (findM xa (r.1.crash cho).1.fo.kept).2 <;> rfl
  · rcases hC with ⟨b1, b2, b3⟩ | ⟨b1, b2, _, b4⟩
    · exact .inl ⟨b1, b2, b3⟩
    · rw [a4] at b4
      exact .inr ⟨b1, b2, b4⟩
theorem sm_fresh : Sm (DkV.fresh 500) := ⟨⟨rfl, (fun m hm => by cases hm)⟩, rfl, rfl, (fun m hm => by cases hm), List.Pairwise.nil⟩
end
end Go.Proofs.YtcffkmlnbnjibaaGreat
