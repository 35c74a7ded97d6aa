/- Walks: a folder's names, its changes. -/
import Derived.Test.YtcffkmlnbnjibaaGreatMapN
import Derived.Test.YtcffkmlnbnjibaaGreatReg
import Derived.Test.YtcffkmlnbnjibaaGreatProg
import Derived.Laws.EntriesVeiled
import Derived.StringKeys
namespace Go.Proofs.YtcffkmlnbnjibaaGreat
open Go.RowKit Go.Maps Go.WideMaps
/-- A change: a name goes, a name comes. -/
structure Chg where
  dr : Bool
  gone : ByteArray
  pu : Bool
  come : ByteArray
  id : Int
def Chg.cs (c : Chg) : List Value := [.bool c.dr, .string c.gone, .bool c.pu, .string c.come, .int .i64 c.id]
def Chg.val (c : Chg) : Value := .agg #[.bool c.dr, .string c.gone, .bool c.pu, .string c.come, .int .i64 c.id]
def Chg.d (c : Chg) (l : List Mk) : List Mk := if c.dr = true then l.filter (nmNot c.gone) else l
def Chg.p (c : Chg) (l : List Mk) : List Mk := if c.pu = true then putM ⟨c.come, c.id⟩ l else l
def Chg.ap (c : Chg) (l : List Mk) : List Mk := c.p (c.d l)
theorem Chg.d_len (c : Chg) (l : List Mk) : (c.d l).length ≤ l.length := by
  unfold d
  split
  · exact List.length_filter_le _ _
  · exact Nat.le_refl _
theorem Chg.ap_len (c : Chg) (l : List Mk) : (c.ap l).length ≤ l.length + 1 := by
  have := c.d_len l
  unfold ap p
  split
  · have := putM_len ⟨c.come, c.id⟩ (c.d l); omega
  · omega
/-- The names that it speaks of are names. -/
def Chg.Ok (c : Chg) : Prop := c.gone.size ≤ 9223372036854775807 ∧ c.come.size ≤ 9223372036854775807 ∧ -9223372036854775808 ≤ c.id ∧ c.id ≤ 9223372036854775807
abbrev strKey : Keyed Tryz.prog 9 := string_keyed Tryz.underlying9
def MapN (w : World) (b : Nat) (l : List Mk) : Prop := MapB w Tryz.prog 9 b (enL l)
theorem enL_len (l : List Mk) : (enL l).length = l.length := by unfold enL; rw [List.length_map]
theorem key_nm {s : ByteArray} (h : s.size ≤ 9223372036854775807) : keyOf Tryz.prog 9 (.string s) = some (nmK s) := keyOf_string_mk Tryz.underlying9 (by unfold maxLen; exact h)
theorem zero_int (w : World) : (zeroValue 3).run Tryz.prog w = .ok (.int .i64 0) w := by kernel_rfl
theorem MapN.drop {w : World} {b : Nat} {l : List Mk} (h : MapN w b l) {s : ByteArray} (hs : s.size ≤ 9223372036854775807) (ty : TypeId) :
    ∃ w', (Builtin.delete_ #[150, 9] ty #[.map (some b), .string s]).run Tryz.prog w = .ok (.tuple #[]) w' ∧ MapN w' b (l.filter (nmNot s)) ∧ w.grownBy w' (some b) := by
  obtain ⟨w', h1, h2, h3⟩ := MapB.drop h strKey Tryz.underlying150 (key_nm hs) ty
  exact ⟨w', h1, by rw [enL_del] at h2; exact h2, h3⟩
theorem MapN.store {w : World} {b : Nat} {l : List Mk} (h : MapN w b l) (hl : l.length ≤ 1000000000) {s : ByteArray} (hs : s.size ≤ 9223372036854775807) (i : Int) :
    ∃ w', (Instr.mapUpdate 150 (.map (some b)) (.string s) (.int .i64 i)).run Tryz.prog w = .ok () w' ∧ MapN w' b (putM ⟨s, i⟩ l) ∧ w.grownBy w' (some b) := by
  obtain ⟨w', h1, h2, h3⟩ := MapB.store h strKey Tryz.underlying150 (by rw [enL_len]; unfold maxLen; omega) (.int .i64 i) (key_nm hs)
  refine ⟨w', h1, ?_, h3⟩
  have := enL_put ⟨s, i⟩ l
  rw [this] at h2
  exact h2
theorem MapN.look_ok {w : World} {b : Nat} {l : List Mk} (h : MapN w b l) {s : ByteArray} (hs : s.size ≤ 9223372036854775807) :
    (Instr.lookup 150 (.map (some b)) (.string s) true).run Tryz.prog w = .ok (.tuple #[.int .i64 (findM s l).1, .bool (findM s l).2]) w := by
  have := MapB.look_ok h strKey Tryz.underlying150 (zero_int w) (key_nm hs)
  rw [enL_has, enL_get] at this
  exact this
theorem MapN.look {w : World} {b : Nat} {l : List Mk} (h : MapN w b l) {s : ByteArray} (hs : s.size ≤ 9223372036854775807) :
    (Instr.lookup 150 (.map (some b)) (.string s) false).run Tryz.prog w = .ok (.int .i64 (findM s l).1) w := by
  have := MapB.look h strKey Tryz.underlying150 (zero_int w) (key_nm hs)
  rw [enL_get] at this
  exact this
theorem MapN.ex {w w' : World} {b : Nat} {l : List Mk} (h : MapN w b l) (hb : Ex w w') : MapN w' b l := MapB.ex h hb
theorem MapN.off {F : Nat → Prop} {w w' : World} {b : Nat} {l : List Mk} (h : MapN w b l) (hb : Off F w w') (hF : ¬ F b) : MapN w' b l := MapB.off h hb hF
theorem MapN.lt {w : World} {b : Nat} {l : List Mk} (h : MapN w b l) : b < w.heap.size := MapB.lt h
theorem off_grown {w w' : World} {b : Nat} (h : w.grownBy w' (some b)) : Off (· = b) w w' := (Off.refl _ w).grown h fun k hk => .inl (by injection hk with e; exact e.symm)
set_option maxHeartbeats 1000000 in
theorem apply_calls {w : World} {b : Nat} {l : List Mk} (c : Chg) (hM : MapN w b l) (hl : l.length ≤ 1000000000) (hc : c.Ok) :
    Calls Tryz.prog 154 #[.map (some b), c.val] w fun e w' => e = .returned (.tuple #[]) ∧ MapN w' b (c.ap l) ∧ Off (· = b) w w' := by
  obtain ⟨dr, gone, pu, come, id⟩ := c
  obtain ⟨h1, h2, _, _⟩ := hc
  simp only at h1 h2
  have HM0 := hM.ex (ex_alloc (Ex.refl w) (.cells #[.bool dr, .string gone, .bool pu, .string come, .int .i64 id] 157))
  have HX0 := Lib.hid ((ex_alloc (Ex.refl w) (.cells #[.bool dr, .string gone, .bool pu, .string come, .int .i64 id] 157)).off (· = b))
  unfold Chg.val
  have hK : Blk (w.alloc (.cells #[.bool dr, .string gone, .bool pu, .string come, .int .i64 id] 157)) w.heap.size 157 [.bool dr, .string gone, .bool pu, .string come, .int .i64 id] := Blk.new w _ _
  cases dr
  · cases pu
    · have HE := Lib.hid (show Chg.ap ⟨false, gone, false, come, id⟩ l = l from rfl)
      have HM := Lib.hid HM0
      clear HM0 hM
      go_enter Tryz.func154, Tryz.ntmps154
      go_wp2_with fail
      go_end0
      exact ⟨rfl, by rw [HE.out]; exact HM.out, HX0.out⟩
    · have HE := Lib.hid (show Chg.ap ⟨false, gone, true, come, id⟩ l = putM ⟨come, id⟩ l from rfl)
      obtain ⟨w1, hrun, hM1, hg⟩ := HM0.store hl h2 id
      have HM := Lib.hid hM1
      have HX := Lib.hid (HX0.out.trans (off_grown hg))
      clear HM0 hM hM1 hg
      go_enter Tryz.func154, Tryz.ntmps154
      go_wp2_with fail
      go_end0
      exact ⟨rfl, by rw [HE.out]; exact HM.out, HX.out⟩
  · obtain ⟨w1, hrun1, hM1, hg⟩ := HM0.drop h1 0
    have HK1 := hK.grown hg (by intro e; injection e with e; have := hM.lt; omega)
    have c2 : w1.cell? ⟨w.heap.size, 2, none⟩ = some (.bool pu) := by rw [HK1.cell]; rfl
    have c3 : w1.cell? ⟨w.heap.size, 3, none⟩ = some (.string come) := by rw [HK1.cell]; rfl
    have c4 : w1.cell? ⟨w.heap.size, 4, none⟩ = some (.int .i64 id) := by rw [HK1.cell]; rfl
    have HX1 := Lib.hid (HX0.out.trans (off_grown hg))
    have HR1 := Lib.hid hrun1
    clear HM0 HX0 hrun1 hg hK HK1
    cases pu
    · have HE := Lib.hid (show Chg.ap ⟨true, gone, false, come, id⟩ l = l.filter (nmNot gone) from rfl)
      have HM := Lib.hid hM1
      clear hM1 hM
      go_enter Tryz.func154, Tryz.ntmps154
      go_wp2_with (at_delete; refine wpList_delete_run rfl _ _ _ _ rfl _ _ rfl rfl HR1.out ?_)
      go_end0
      exact ⟨rfl, by rw [HE.out]; exact HM.out, HX1.out⟩
    · have HE := Lib.hid (show Chg.ap ⟨true, gone, true, come, id⟩ l = putM ⟨come, id⟩ (l.filter (nmNot gone)) from rfl)
      have hl2 : (l.filter (nmNot gone)).length ≤ 1000000000 := Nat.le_trans (List.length_filter_le _ _) hl
      obtain ⟨w2, hrun2, hM2, hg2⟩ := hM1.store hl2 h2 id
      have HM := Lib.hid hM2
      have HX := Lib.hid (HX1.out.trans (off_grown hg2))
      clear hM1 hM hM2 hg2 hl2
      go_enter Tryz.func154, Tryz.ntmps154
      go_wp2_with (at_delete; refine wpList_delete_run rfl _ _ _ _ rfl _ _ rfl rfl HR1.out ?_)
      go_end0
      exact ⟨rfl, by rw [HE.out]; exact HM.out, HX.out⟩
end Go.Proofs.YtcffkmlnbnjibaaGreat
