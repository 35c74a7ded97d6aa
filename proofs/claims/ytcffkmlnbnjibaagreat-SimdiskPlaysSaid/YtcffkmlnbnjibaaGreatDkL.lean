/- A disk's sizes behind each call. -/
import Derived.Test.YtcffkmlnbnjibaaGreatDkK
namespace Go.Proofs.YtcffkmlnbnjibaaGreat
open Go.RowKit Go.Maps
theorem DkV.Ok.up {Q : DkV} {M N : Nat} (h : Q.Ok M) (hN : M ≤ N) : Q.Ok N := ⟨h.fo.up hN, h.fu, h.s1, h.s2, Nat.le_trans h.tl hN, Nat.le_trans h.cl hN, h.tz⟩
theorem fo_ok2 {Q : DkV} {M : Nat} {fo : FoV} (h : Q.Ok M) (hf : fo.Ok (M + 1)) : ({ Q with fo := fo } : DkV).Ok (M + 1) := ⟨hf, h.fu, h.s1, h.s2, Nat.le_succ_of_le h.tl, Nat.le_succ_of_le h.cl, h.tz⟩
theorem drop_ok {q : FoV} {M : Nat} {s : ByteArray} (h : q.Ok M) (hs : s.size ≤ 9223372036854775807) : (q.drop s).1.Ok (M + 1) := by
  unfold FoV.drop
  split
  · exact h.do (chg_drop hs)
  · exact h.up (Nat.le_succ M)
theorem move_ok {q : FoV} {M : Nat} {a b : ByteArray} (h : q.Ok M) (ha : a.size ≤ 9223372036854775807) (hb : b.size ≤ 9223372036854775807) : (q.move a b).1.Ok (M + 1) := by
  unfold FoV.move
  split
  · split
    · exact h.up (Nat.le_succ M)
    · have := findM_in h a
      exact h.do ⟨ha, hb, this.1, this.2⟩
  · exact h.up (Nat.le_succ M)
theorem add_ok {Q : DkV} {M : Nat} {s : ByteArray} {t : TpV} (h : Q.Ok M) (hM : M ≤ 1000000) (hs : s.size ≤ 9223372036854775807) (ht : t.kp.size ≤ 131072 ∧ t.nw.size ≤ 131072) : (Q.add s t).Ok (M + 1) := by
  have htl := h.tl
  refine ⟨h.fo.do (chg_put hs (by omega) (by omega)), h.fu, h.s1, h.s2, ?_, Nat.le_succ_of_le h.cl, fun x hx => ?_⟩
  · unfold DkV.add; rw [List.length_append]; simp only [List.length_cons, List.length_nil]; omega
  · rcases List.mem_append.1 hx with hx | hx
    · exact h.tz x hx
    · rcases List.mem_cons.1 hx with rfl | hx
      · exact ht
      · cases hx
theorem create_ok {Q : DkV} {M : Nat} {s : ByteArray} (h : Q.Ok M) (hM : M ≤ 900000) (hs : s.size ≤ 9223372036854775807) : (Q.create s).1.Ok (M + 2) := by
  unfold DkV.create
  split
  · exact h.up (by omega)
  · split
    · exact h.up (by omega)
    · split
      · exact h.up (by omega)
      · split
        · exact h.up (by omega)
        · split
          · exact add_ok (ask_ok h false) (by omega) hs ⟨Nat.zero_le _, Nat.zero_le _⟩
          · exact (ask_ok h false).up (by omega)
theorem syncT_ok {Q : DkV} {M : Nat} {s : ByteArray} (h : Q.Ok M) : (Q.syncT s).1.Ok (M + 1) := by
  have hz := tapeAt_ok h (Q.idOf s)
  unfold DkV.syncT
  split
  · exact h.up (by omega)
  · split
    · exact h.up (by omega)
    · split
      · exact setT_ok (ask_ok h true) ⟨hz.2, hz.2⟩
      · exact ask_ok h true
theorem cutT_ok {Q : DkV} {M : Nat} {s : ByteArray} {n : Int} (h : Q.Ok M) : (Q.cutT s n).1.Ok (M + 1) := by
  have hz := tapeAt_ok h (Q.idOf s)
  have h2 : ((Q.tapeAt (Q.idOf s)).cut n).kp.size ≤ 131072 ∧ ((Q.tapeAt (Q.idOf s)).cut n).nw.size ≤ 131072 := by
    unfold TpV.cut
    split
    · refine ⟨hz.1, ?_⟩
      show (ByteArray.extract _ 0 _).size ≤ _
      rw [ByteArray.size_extract]
      have := hz.2
      omega
    · exact hz
  unfold DkV.cutT
  split
  · exact h.up (by omega)
  · split
    · exact h.up (by omega)
    · split
      · exact h.up (by omega)
      · split
        · exact setT_ok (ask_ok h false) h2
        · exact ask_ok h false
theorem rename_ok {Q : DkV} {M : Nat} {s b : ByteArray} (h : Q.Ok M) (hs : s.size ≤ 9223372036854775807) (hb : b.size ≤ 9223372036854775807) : (Q.rename s b).1.Ok (M + 2) := by
  unfold DkV.rename
  split
  · exact h.up (by omega)
  · split
    · exact h.up (by omega)
    · split
      · exact h.up (by omega)
      · split
        · exact fo_ok2 (ask_ok h false) ((move_ok h.fo hs hb).up (by omega))
        · exact (ask_ok h false).up (by omega)
theorem remove_ok {Q : DkV} {M : Nat} {s : ByteArray} (h : Q.Ok M) (hs : s.size ≤ 9223372036854775807) : (Q.remove s).1.Ok (M + 2) := by
  unfold DkV.remove
  split
  · exact h.up (by omega)
  · split
    · exact h.up (by omega)
    · split
      · exact fo_ok2 (ask_ok h false) ((drop_ok h.fo hs).up (by omega))
      · exact (ask_ok h false).up (by omega)
theorem syncAll_ok {Q : DkV} {M : Nat} (h : Q.Ok M) : Q.syncAll.1.Ok (M + 1) := by
  unfold DkV.syncAll
  split
  · exact h.up (by omega)
  · split
    · exact fo_ok (ask_ok h true) ((FoV.Ok.settle h.fo (Nat.le_refl _)).up (Nat.le_succ M))
    · exact ask_ok h true
theorem fault_ok {Q : DkV} {M : Nat} {k a : Int} (h : Q.Ok M) (ha : a ≤ 9223372036854775807) : (Q.fault k a).1.Ok M := by
  unfold DkV.fault
  split
  · exact h
  · split
    · exact ⟨h.fo, FuV.arm_ok h.fu ha, h.s1, h.s2, h.tl, h.cl, h.tz⟩
    · exact h
theorem sumT_mem {Q : DkV} : ∀ {ids : List Int} {id : Int}, id ∈ ids → cntT (Q.tapeAt id) ≤ sumT Q ids
  | x :: r, id, h => by
    unfold sumT
    rw [List.map_cons, List.sum_cons]
    rcases List.mem_cons.1 h with rfl | h
    · omega
    · have := sumT_mem (Q := Q) h
      unfold sumT at this
      omega
theorem append_ok {Q : DkV} {M : Nat} {s x : ByteArray} (h : Q.Ok M) : (Q.append s x).1.Ok (M + 1) := by
  have hz := tapeAt_ok h (Q.idOf s)
  unfold DkV.append
  split
  · exact h.up (by omega)
  · split
    · exact h.up (by omega)
    · rename_i hn
      split
      · exact h.up (by omega)
      · rename_i hq
        split
        · refine setT_ok (ask_ok h false) ⟨hz.1, ?_⟩
          have hn' : (findM s Q.fo.now).2 = true := by cases hb : (findM s Q.fo.now).2; exact absurd hb hn; rfl
          have h1 := sumT_mem (Q := Q) (FoV.found_ids hn')
          have h2 := h.s2
          unfold DkV.after DkV.taken at hq
          have h3 : cntT ((Q.tapeAt (Q.idOf s)).plus x) ≤ 4096 := by
            have : cntT (Q.tapeAt (Q.idOf s)) ≤ sumT Q Q.fo.ids := h1
            omega
          unfold cntT cntS at h3
          omega
        · exact ask_ok h false
theorem fresh_ok {n : Int} (h1 : 1 ≤ n) (h2 : n ≤ 4096) : (DkV.fresh n).Ok 0 := ⟨⟨Nat.le_refl _, (fun m hm => by cases hm), (fun c hc => by cases hc)⟩, calm_ok, h1, h2, Nat.le_refl _, Nat.le_refl _, (fun t ht => by cases ht)⟩
end Go.Proofs.YtcffkmlnbnjibaaGreat
