/- Walk: a disk's List. -/
import Derived.Test.YtcffkmlnbnjibaaGreatDkF
namespace Go.Proofs.YtcffkmlnbnjibaaGreat
open Go.RowKit Go.Maps
/-- The names that are seen. -/
def DkV.names (Q : DkV) : List Value := Q.fo.now.map fun m => .string m.nm
theorem strs_one' {l : List Mk} : ∀ u ∈ l.map (fun m => Value.string m.nm), u.oneCell' = true := by
  intro u hu
  obtain ⟨n, _, rfl⟩ := List.mem_map.1 hu
  rfl
/-- What List gives. -/
def ListP (w : World) (Q : DkV) (w' : World) (e : Ending) : Prop := (∃ v, e = .returned (.tuple #[v, .int .i64 (if Q.fu.off = true then 14 else 0)]) ∧ (Q.fu.off = true → v = .slice none 0 0) ∧ (Q.fu.off = false → w'.ownsRow w.heap.size 9 1 v Q.names.length Q.names)) ∧ Ex w w'
theorem ListP.no {w w' : World} {Q : DkV} (h : Q.fu.off = true) (hX : Ex w w') : ListP w Q w' (.returned (.tuple #[.slice none 0 0, .int .i64 14])) := by
  unfold ListP
  rw [if_pos h]
  exact ⟨⟨_, rfl, fun _ => rfl, fun h2 => by rw [h] at h2; cases h2⟩, hX⟩
theorem ListP.yes {w w' : World} {Q : DkV} {v : Value} (h : Q.fu.off = false) (ho : w'.ownsRow w.heap.size 9 1 v Q.names.length Q.names) (hX : Ex w w') : ListP w Q w' (.returned (.tuple #[v, .int .i64 0])) := by
  unfold ListP
  rw [if_neg (by rw [h]; decide)]
  exact ⟨⟨v, rfl, (fun h2 => by rw [h] at h2; cases h2), fun _ => ho⟩, hX⟩
set_option maxHeartbeats 2000000 in
set_option maxRecDepth 100000 in
theorem dlist_calls {w : World} {g : Nat} {F : Nat → Prop} {Q : DkV} (h : DkP w g F Q) {M : Nat} (ho : Q.Ok M) (hM : M ≤ 800000) :
    Calls Tryz.prog 10 #[ptrV g] w fun e w' => ListP w Q w' e := by
  have H := Lib.hid h
  have HO := Lib.hid ho
  have hnl : Q.fo.now.length ≤ 1000000 := by have := ho.fo.now_len; omega
  have HI := Lib.hid (show (Tryz.prog.info? 9).map (fun i => (i.zero, i.size, i.bytes)) = some (some (.string ⟨#[]⟩), 1, 16) from by kernel_rfl)
  clear h ho
  have HCR := Lib.hid (dready_calls H.out)
  by_cases hoff : Q.fu.off = true
  case pos =>
    rw [if_pos hoff] at HCR
    have HOF := Lib.hid hoff
    clear hoff
    go_enter Tryz.func10, Tryz.ntmps10
    go_wp2_with fail
    refine HCR.out.mono ?_
    rintro e w1 ⟨rfl, hb1⟩
    go_wp2_with fail
    go_ret2
    exact ListP.no HOF.out hb1
  case neg =>
    rw [if_neg hoff] at HCR
    have HOF := Lib.hid (Bool.eq_false_iff.2 hoff)
    clear hoff
    go_enter Tryz.func10, Tryz.ntmps10
    go_wp2_with fail
    refine HCR.out.mono ?_
    rintro e w1 ⟨rfl, hb1⟩
    obtain ⟨tm, fg, fz, FF, l, tb, hr⟩ := H.out.ex hb1
    have c4 : w1.cell? ⟨g, 4, none⟩ = some (ptrV fg) := by rw [hr.blk.cell]; rfl
    have HR := Lib.hid hr
    have HX1 := Lib.hid hb1
    clear hr hb1 HCR
    go_wp2_with fail
    refine (fonow_calls HO.out.fo (by omega) HR.out.fob).mono ?_
    rintro e w2 ⟨v2, rfl, ho2, hb2⟩
    obtain ⟨A2, c2, rfl, _⟩ := own_shape ho2
    have HM2 := Lib.hid (Row.of_own ho2)
    have HX2 := Lib.hid (HX1.out.trans hb2)
    have hz2 := HX2.out.size
    clear ho2 hb2 c4
    obtain ⟨L, hL⟩ : ∃ L, Q.fo.now = L := ⟨_, rfl⟩
    have HFS := Lib.hid (show Q.names = L.map fun m => Value.string m.nm from by unfold DkV.names; rw [hL])
    rw [hL] at HM2 hnl ⊢
    clear hL
    go_wp2_with fail
    go_loopw [5, 19] (fun v i wr => ∃ k : Nat, k ≤ L.length ∧ i = .int .i64 (k : Int) ∧ wr.ownsRow w2.heap.size 9 1 v k ((L.take k).map fun m => Value.string m.nm) ∧ Ex w2 wr) (fun _ i _ => L.length - (intOf i).toNat)
    case atStart => exact ⟨0, Nat.zero_le _, rfl, World.ownsRow_nil _ _ _ _, Ex.refl _⟩
    case round =>
      obtain ⟨k, hk, rfl, hor, hbr⟩ := hrel
      have HO2 := Lib.hid hor
      have HB2 := Lib.hid hbr
      have hzb := hbr.size
      clear hor hbr
      by_cases hlt : k < L.length
      · obtain ⟨m, hm⟩ : ∃ m, L[k]? = some m := ⟨_, List.getElem?_eq_getElem hlt⟩
        obtain ⟨b, o, rfl, f1o, f2o⟩ := HM2.out.mk' hm
        have HTK := Lib.hid (show L.take (k + 1) = L.take k ++ [m] from by rw [List.take_add_one, hm]; rfl)
        have hkI : (k : Int) < (L.length : Int) := by omega
        have hk0 : (0 : Int) ≤ (k : Int) := by omega
        have hkn : ((k : Int)).toNat = k := by omega
        have f1 := HB2.out.cell f1o
        have f2 := HB2.out.cell f2o
        obtain ⟨mn, mp⟩ := m
        simp only at f1 f2 f1o f2o
        clear hm
        have hbA := ex_two wr (.cells #[.string mn, .int .i64 mp] 103) (.cells #[.string mn] 9)
        have HBA := Lib.hid (HB2.out.trans hbA)
        have HOA := Lib.hid (own_ex HO2.out hbA)
        have hzA : w2.heap.size ≤ ((wr.alloc (.cells #[.string mn, .int .i64 mp] 103)).alloc (.cells #[.string mn] 9)).heap.size := Nat.le_trans hzb hbA.size
        have hrw := row_lit1 (wr.alloc (.cells #[.string mn, .int .i64 mp] 103)) [.string mn] 9
        rw [show (wr.alloc (.cells #[.string mn, .int .i64 mp] 103)).heap.size = wr.heap.size + 1 from by simp] at hrw
        have HRW := Lib.hid hrw
        clear hrw
        clear hbA
        go_wp2_with (at_builtin; refine app_own 31 9 (.string ⟨#[]⟩) 1 16 Tryz.underlying31 HI.out rfl (by decide) (by decide) rfl (.tmp 23) (.tmp 26) rfl w2.heap.size _ k _ rfl HOA.out (some ⟨wr.heap.size + 1, 0, none⟩) 1 1 [.string mn] rfl HRW.out ?h1 ?h2 hzA HBA.out ?K; (case h1 => exact fun u hu => by rw [List.mem_singleton.1 hu]; rfl); (case h2 => omega); intro v' w' ho' hb')
        exact ⟨⟨k + 1, by omega, by go_num, by rw [HTK.out, List.map_append]; exact ho', hb'⟩, by simp [intOf]; omega⟩
      · have hkl : k = L.length := by omega
        subst hkl
        have HTK := Lib.hid (List.take_length (l := L))
        go_wp2_with fail
        go_ret2
        refine ListP.yes HOF.out ?_ (HX2.out.trans HB2.out)
        have ho3 := own_more HO2.out hz2
        rw [HTK.out] at ho3
        rw [HFS.out, List.length_map]
        exact ho3
end Go.Proofs.YtcffkmlnbnjibaaGreat
