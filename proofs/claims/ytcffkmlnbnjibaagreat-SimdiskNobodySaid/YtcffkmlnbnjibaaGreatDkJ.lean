/- Walks: a disk: the power goes and comes. -/
import Derived.Test.YtcffkmlnbnjibaaGreatDkI
namespace Go.Proofs.YtcffkmlnbnjibaaGreat
open Go.RowKit Go.Maps
/-- The choices that are left. -/
def restS (ch : ByteArray) (u : Nat) : ByteArray := ch.extract (min u ch.size) ch.size
theorem rest_calls {w : World} {cb ub : Nat} {ch : ByteArray} {u : Nat} (hu : u ≤ 4611686018427387904) (hs : ch.size ≤ 4611686018427387904) (hc : w.cell? ⟨cb, 0, none⟩ = some (.string ch)) (hb : w.cell? ⟨ub, 0, none⟩ = some (.int .i64 (u : Int))) :
    Calls Tryz.prog 120 #[.pointer (some ⟨cb, 0, none⟩), .pointer (some ⟨ub, 0, none⟩)] w fun e w' => e = .returned (.string (restS ch u)) ∧ Ex w w' := by
  go_enter Tryz.func120, Tryz.ntmps120
  go_wp2_with fail
  go_ret
  exact ⟨congrArg (fun v => Ending.returned (Value.string v)) (show ch.extract (min (u : Int) (ch.size : Int)).toNat ch.size = restS ch u by unfold restS; rw [show (min (u : Int) (ch.size : Int)).toNat = min u ch.size by omega]), Ex.refl _⟩
theorem use_calls {w : World} {ub : Nat} {u n : Nat} (hu : u + n ≤ 4611686018427387904) (hb : Blk w ub 3 [.int .i64 (u : Int)]) :
    Calls Tryz.prog 121 #[.int .i64 (n : Int), .pointer (some ⟨ub, 0, none⟩)] w fun e w' => e = .returned (.int .i64 ((u + n : Nat) : Int)) ∧ Blk w' ub 3 [.int .i64 ((u + n : Nat) : Int)] ∧ Off (· = ub) w w' := by
  have hc : w.cell? ⟨ub, 0, none⟩ = some (.int .i64 (u : Int)) := by rw [hb.cell]; rfl
  have hf := hb.frozen 0
  have HR := Lib.hid (hb.setCell (i := 0) (.int .i64 ((u : Int) + (n : Int))))
  have HO := Lib.hid (off_set w ub 0 (.int .i64 ((u : Int) + (n : Int))))
  clear hb
  go_enter Tryz.func121, Tryz.ntmps121
  go_wp2_with fail
  go_ret
  refine ⟨by show Ending.returned (.int .i64 ((u : Int) + (n : Int))) = _; rw [Int.natCast_add], ?_, HO.out⟩
  rw [Int.natCast_add]
  exact HR.out
theorem chooser_calls (ch : ByteArray) (w : World) : Calls Tryz.prog 70 #[.string ch] w fun e w' => ∃ cb ub, e = .returned (.tuple #[.func (.func 120) #[] #[.pointer (some ⟨cb, 0, none⟩), .pointer (some ⟨ub, 0, none⟩)], .func (.func 121) #[] #[.pointer (some ⟨ub, 0, none⟩)]]) ∧
    w.heap.size ≤ cb ∧ w.heap.size ≤ ub ∧ cb ≠ ub ∧ Blk w' cb 9 [.string ch] ∧ Blk w' ub 3 [.int .i64 ((0 : Nat) : Int)] ∧ Ex w w' := by
  have k1 := (Blk.new w [.string ch] 9).ex (ex_alloc (Ex.refl _) (.cells #[.int .i64 0] 3))
  have k2 := blk_two w (.cells #[.string ch] 9) [.int .i64 0] 3
  have HK1 := Lib.hid k1
  have HK2 := Lib.hid k2
  clear k1 k2
  go_enter Tryz.func70, Tryz.ntmps70
  go_wp2_with fail
  go_ret2
  exact ⟨w.heap.size, w.heap.size + 1, rfl, Nat.le_refl _, by omega, by omega, HK1.out, HK2.out, ex_two w _ _⟩
/-- What the tapes of these numbers come to, and how many choices are used. -/
def crashL (ch : ByteArray) : List Int → DkV × Nat → DkV × Nat
  | [], s => s
  | id :: r, s => crashL ch r (s.1.setT id ⟨(mixS (s.1.tapeAt id).kp (s.1.tapeAt id).nw (restS ch s.2)).1, (mixS (s.1.tapeAt id).kp (s.1.tapeAt id).nw (restS ch s.2)).1⟩, s.2 + (mixS (s.1.tapeAt id).kp (s.1.tapeAt id).nw (restS ch s.2)).2)
theorem crashL_succ (ch : ByteArray) : ∀ (ids : List Int) (s : DkV × Nat) (id : Int), crashL ch (ids ++ [id]) s = crashL ch [id] (crashL ch ids s)
  | [], _, _ => rfl
  | x :: r, s, id => by
    show crashL ch (r ++ [id]) _ = crashL ch [id] (crashL ch r _)
    exact crashL_succ ch r _ id
def DkV.crash1 (Q : DkV) (ch : ByteArray) : DkV := { Q with fu := FuV.calm, fo := Q.fo.crash (byteAt ch 0 : Int) }
def DkV.crash (Q : DkV) (ch : ByteArray) : DkV × Nat := crashL ch Q.fo.ids (Q.crash1 ch, 1)
theorem mix_sz {old now ch : ByteArray} (h1 : old.size ≤ 131072) (h2 : now.size ≤ 131072) : (mixS old now ch).1.size ≤ 131072 ∧ (mixS old now ch).2 ≤ 4096 := by
  have h3 : cntS (max old.size now.size) ≤ 4096 := by unfold cntS; omega
  have h4 := mixTo_size old now ch (cntS (max old.size now.size))
  have h5 := mixTo_used old now ch (cntS (max old.size now.size))
  have h6 := List.length_filter_le (unS old now) (List.range (cntS (max old.size now.size)))
  rw [List.length_range] at h6
  unfold mixS
  exact ⟨by omega, by omega⟩
theorem setT_ok {Q : DkV} {M : Nat} {id : Int} {t : TpV} (h : Q.Ok M) (ht : t.kp.size ≤ 131072 ∧ t.nw.size ≤ 131072) : (Q.setT id t).Ok M :=
  ⟨h.fo, h.fu, h.s1, h.s2, by unfold DkV.setT; simpa using h.tl, h.cl, fun x hx => by
    rcases List.mem_or_eq_of_mem_set hx with hx | rfl
    · exact h.tz x hx
    · exact ht⟩
theorem tapeAt_ok {Q : DkV} {M : Nat} (h : Q.Ok M) (id : Int) : (Q.tapeAt id).kp.size ≤ 131072 ∧ (Q.tapeAt id).nw.size ≤ 131072 := by
  unfold DkV.tapeAt
  rw [List.getD_eq_getElem?_getD]
  cases hq : Q.tapes[(id - 1).toNat]? with
  | none => exact ⟨Nat.zero_le _, Nat.zero_le _⟩
  | some t => exact h.tz t (List.mem_of_getElem? hq)
theorem crashL_ok {ch : ByteArray} {M : Nat} : ∀ (ids : List Int) (s : DkV × Nat), s.1.Ok M → (crashL ch ids s).1.Ok M ∧ (crashL ch ids s).2 ≤ s.2 + 4096 * ids.length
  | [], s, h => ⟨h, by show s.2 ≤ s.2 + 4096 * 0; omega⟩
  | id :: r, s, h => by
    have hz := tapeAt_ok h id
    have hm := mix_sz (ch := restS ch s.2) hz.1 hz.2
    have := crashL_ok (ch := ch) r (s.1.setT id ⟨(mixS (s.1.tapeAt id).kp (s.1.tapeAt id).nw (restS ch s.2)).1, (mixS (s.1.tapeAt id).kp (s.1.tapeAt id).nw (restS ch s.2)).1⟩, s.2 + (mixS (s.1.tapeAt id).kp (s.1.tapeAt id).nw (restS ch s.2)).2) (setT_ok h ⟨hm.1, hm.1⟩)
    refine ⟨this.1, ?_⟩
    have h2 := this.2
    simp only at h2
    rw [List.length_cons]
    show (crashL ch r _).2 ≤ _
    omega
theorem calm_ok : FuV.calm.Ok := ⟨by unfold inF; show (-1 : Int) ≤ -1 ∧ (-1 : Int) ≤ _; omega, by unfold inF; show (-1 : Int) ≤ -1 ∧ (-1 : Int) ≤ _; omega, by unfold inF; show (-1 : Int) ≤ -1 ∧ (-1 : Int) ≤ _; omega⟩
theorem crash1_ok {Q : DkV} {M : Nat} (h : Q.Ok M) (ch : ByteArray) : (Q.crash1 ch).Ok M :=
  ⟨FoV.Ok.settle h.fo (FoV.pick_le _ _), calm_ok, h.s1, h.s2, h.tl, h.cl, h.tz⟩
theorem crash_ok {Q : DkV} {M : Nat} (h : Q.Ok M) (ch : ByteArray) : (Q.crash ch).1.Ok M := (crashL_ok _ _ (crash1_ok h ch)).1
end Go.Proofs.YtcffkmlnbnjibaaGreat
