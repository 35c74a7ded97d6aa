/- Walks: a disk: sectors that are taken; files that can be there no more are forgotten; a file more. -/
import Derived.Test.YtcffkmlnbnjibaaGreatDkB
namespace Go.Proofs.YtcffkmlnbnjibaaGreat
open Go.RowKit Go.Maps
def cntT (t : TpV) : Nat := cntS (max t.nw.size t.kp.size)
def DkV.tapeAt (Q : DkV) (id : Int) : TpV := Q.tapes.getD (id - 1).toNat ⟨⟨#[]⟩, ⟨#[]⟩⟩
def sumT (Q : DkV) (ids : List Int) : Nat := (ids.map fun id => cntT (Q.tapeAt id)).sum
def DkV.taken (Q : DkV) : Nat := sumT Q Q.fo.ids
theorem up_ge : ∀ {l : List Int} {a : Int}, Up l → (∀ x ∈ l, a ≤ x) → ∀ x ∈ l, ∀ b, (∀ y ∈ l, y ≤ b) → a + l.length ≤ b + 1
  | [], _, _, _, x, hx, _, _ => by cases hx
  | y :: r, a, h, ha, x, _, b, hb => by
    obtain ⟨h1, h2⟩ := List.pairwise_cons.1 h
    have h3 := ha y (by simp)
    cases r with
    | nil => have := hb y (by simp); simp; omega
    | cons z s =>
      have := up_ge (l := z :: s) (a := y + 1) h2 (fun x hx => by have := h1 x hx; omega) z (by simp) b (fun x hx => hb x (by simp [hx]))
      rw [List.length_cons]
      simp only [Int.natCast_add] at this ⊢
      omega
theorem up_len {l : List Int} (h : Up l) {n : Nat} (h1 : ∀ x ∈ l, 1 ≤ x) (h2 : ∀ x ∈ l, x ≤ (n : Int)) : l.length ≤ n := by
  cases l with
  | nil => simp
  | cons x r =>
    have := up_ge h h1 x (by simp) n h2
    omega
theorem cntT_le {t : TpV} (h : t.kp.size ≤ 131072 ∧ t.nw.size ≤ 131072) : cntT t ≤ 4096 := by unfold cntT cntS; omega
section
variable {w : World} {g : Nat} {F : Nat → Prop} {Q : DkV} {tm fg fz : Nat} {FF : Nat → Prop} {l : List (Lit × Value)} {tb : Int → Nat}
theorem DkR.ids_len (h : DkR w g F Q tm fg fz FF l tb) : Q.fo.ids.length ≤ Q.tapes.length := up_len Q.fo.ids_up (fun _ hx => (h.tape hx).i1) (fun _ hx => (h.tape hx).i2)
theorem TbOk.at {w : World} {Q : DkV} {F FF : Nat → Prop} {g fz tm b : Nat} {id : Int} (h : TbOk w Q.tapes F FF g fz tm b id) : Blk w b 148 (Q.tapeAt id).cs ∧ Q.tapeAt id ∈ Q.tapes := by
  obtain ⟨t, h1, h2⟩ := h.tp
  have : Q.tapeAt id = t := by unfold DkV.tapeAt; rw [List.getD_eq_getElem?_getD, h1]; rfl
  rw [this]
  exact ⟨h2, List.mem_of_getElem? h1⟩
theorem sumT_le {Q : DkV} {M : Nat} (ho : Q.Ok M) (ids : List Int) : sumT Q ids ≤ 4096 * ids.length := by
  induction ids with
  | nil => simp [sumT]
  | cons x r ih =>
    have hx : cntT (Q.tapeAt x) ≤ 4096 := by
      unfold DkV.tapeAt
      rw [List.getD_eq_getElem?_getD]
      cases hq : Q.tapes[(x - 1).toNat]? with
      | none => exact cntT_le (t := ⟨⟨#[]⟩, ⟨#[]⟩⟩) ⟨Nat.zero_le _, Nat.zero_le _⟩
      | some t => exact cntT_le (ho.tz t (List.mem_of_getElem? hq))
    unfold sumT at ih ⊢
    rw [List.map_cons, List.sum_cons, List.length_cons]
    omega
theorem sumT_succ (Q : DkV) {ids : List Int} {k : Nat} (hk : k < ids.length) : sumT Q (ids.take (k + 1)) = sumT Q (ids.take k) + cntT (Q.tapeAt ids[k]) := by
  unfold sumT
  rw [List.take_succ_eq_append_getElem hk, List.map_append, List.sum_append]
  simp
set_option maxHeartbeats 1000000 in
theorem dtaken_calls (h : DkR w g F Q tm fg fz FF l tb) {M : Nat} (ho : Q.Ok M) (hM : M ≤ 1000000) :
    Calls Tryz.prog 57 #[.pointer (some ⟨g, 0, none⟩)] w fun e w' => e = .returned (.int .i64 (Q.taken : Int)) ∧ Ex w w' := by
  have H := Lib.hid h
  have HO := Lib.hid ho
  have c4 : w.cell? ⟨g, 4, none⟩ = some (ptrV fg) := by rw [h.blk.cell]; rfl
  have hil : Q.fo.ids.length ≤ 1000000 := by have := h.ids_len; have := ho.tl; omega
  clear h ho
  go_enter Tryz.func57, Tryz.ntmps57
  go_wp2_with fail
  refine (foids_calls HO.out.fo hM H.out.fob).mono ?_
  rintro e w1 ⟨iv, rfl, ho1, hb1⟩
  obtain ⟨iA, ic, rfl, _⟩ := own_shape ho1
  have HIR := Lib.hid (Row.of_own ho1)
  have HX1 := Lib.hid hb1
  clear ho1 hb1 c4
  go_wp2_with fail
  go_loopw [3, 12] (fun v i wr => ∃ k : Nat, k ≤ Q.fo.ids.length ∧ i = .int .i64 (k : Int) ∧ v = .int .i64 (sumT Q (Q.fo.ids.take k) : Int) ∧ Ex w1 wr) (fun _ i _ => Q.fo.ids.length - (intOf i).toNat)
  case atStart => exact ⟨0, Nat.zero_le _, rfl, rfl, Ex.refl _⟩
  case round =>
    obtain ⟨k, hk, rfl, rfl, hb⟩ := hrel
    have HB := Lib.hid hb
    have HR := Lib.hid (H.out.ex (HX1.out.trans hb))
    clear hb
    by_cases hlt : k < Q.fo.ids.length
    · obtain ⟨b', o', hA, hc'⟩ := HIR.out.2 (by omega)
      subst hA
      have c0 : wr.cell? ⟨b', o' + k, none⟩ = some (.int .i64 Q.fo.ids[k]) := HB.out.cell (hc' k _ (by rw [List.getElem?_map, List.getElem?_eq_getElem hlt]; rfl))
      have hmem : Q.fo.ids[k] ∈ Q.fo.ids := List.getElem_mem _
      have hlk := HR.out.look hmem HO.out hM
      have ht := (HR.out.tape hmem).at
      have HT := Lib.hid ht.1
      have htz := HO.out.tz _ ht.2
      have HS := Lib.hid (sumT_succ Q hlt)
      have c3 : wr.cell? ⟨g, 3, none⟩ = some (.map (some tm)) := by rw [HR.out.blk.cell]; rfl
      have hs1 := sumT_le HO.out (Q.fo.ids.take k)
      have hs2 : (Q.fo.ids.take k).length ≤ 1000000 := by rw [List.length_take]; omega
      have hs3 := cntT_le htz
      obtain ⟨h1, h2⟩ := htz
      clear hc' hmem ht
      generalize Q.fo.ids[k] = id at *
      generalize sumT Q (Q.fo.ids.take k) = s at *
      have hadd : IntKind.i64.wrap ((s : Int) + (cntT (Q.tapeAt id) : Int)) = (s : Int) + (cntT (Q.tapeAt id) : Int) := IntWalk.i64_in _ (by omega)
      go_wp2_with fail
      refine (tsectors_calls HT.out (by omega) (by omega)).mono ?_
      rintro e w2 ⟨rfl, hb2⟩
      have HB2 := Lib.hid hb2
      clear hb2
      rw [show cntS (max (Q.tapeAt id).nw.size (Q.tapeAt id).kp.size) = cntT (Q.tapeAt id) from rfl]
      go_wp2_with fail
      exact ⟨⟨k + 1, by omega, by go_num, by rw [HS.out]; go_num, HB.out.trans HB2.out⟩, by simp [intOf]; omega⟩
    · have hkl : k = Q.fo.ids.length := by omega
      have HE : Hid (sumT Q (Q.fo.ids.take k) = Q.taken) := by rw [hkl, List.take_length]; exact rfl
      go_wp2_with fail
      go_ret
      exact ⟨by rw [HE.out]; rfl, HX1.out.trans HB.out⟩
end
end Go.Proofs.YtcffkmlnbnjibaaGreat
