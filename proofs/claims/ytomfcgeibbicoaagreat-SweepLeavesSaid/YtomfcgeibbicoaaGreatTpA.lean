/- Walks: a file's bytes (tape). -/
import Derived.Test.YtomfcgeibbicoaaGreatPc0
import Derived.Laws.EntriesVeiled
import Derived.Test.YtomfcgeibbicoaaGreatReg
namespace Go.Proofs.YtomfcgeibbicoaaGreat
open Go.RowKit
/-- A tape: what lasts, what is seen. -/
structure TpV where
  kp : ByteArray
  nw : ByteArray
def TpV.cs (t : TpV) : List Value := [.string t.kp, .string t.nw, .bool true]
theorem tnew_calls (w : World) : Calls Tryz.prog 193 #[] w fun e w' => ∃ g, e = .returned (.pointer (some ⟨g, 0, none⟩)) ∧ w.heap.size ≤ g ∧ Blk w' g 174 (TpV.cs ⟨⟨#[]⟩, ⟨#[]⟩⟩) ∧ Ex w w' := by
  have HK := Lib.hid (Blk.new w (TpV.cs ⟨⟨#[]⟩, ⟨#[]⟩⟩) 174)
  have HX := Lib.hid (ex_alloc (Ex.refl w) (.cells (TpV.cs ⟨⟨#[]⟩, ⟨#[]⟩⟩).toArray 174))
  go_enter Tryz.func193, Tryz.ntmps193
  go_wp2_with fail
  go_ret
  exact ⟨_, rfl, Nat.le_refl _, HK.out, HX.out⟩
theorem tload_calls (k n : ByteArray) (w : World) : Calls Tryz.prog 47 #[.string k, .string n] w fun e w' => ∃ g, e = .returned (.pointer (some ⟨g, 0, none⟩)) ∧ w.heap.size ≤ g ∧ Blk w' g 174 (TpV.cs ⟨k, n⟩) ∧ Ex w w' := by
  have HK := Lib.hid (Blk.new w (TpV.cs ⟨k, n⟩) 174)
  have HX := Lib.hid (ex_alloc (Ex.refl w) (.cells (TpV.cs ⟨k, n⟩).toArray 174))
  go_enter Tryz.func47, Tryz.ntmps47
  go_wp2_with fail
  go_ret
  exact ⟨_, rfl, Nat.le_refl _, HK.out, HX.out⟩
theorem tnone_calls {w : World} {g : Nat} {t : TpV} (hB : Blk w g 174 t.cs) : Calls Tryz.prog 133 #[.pointer (some ⟨g, 0, none⟩)] w fun e w' => e = .returned (.bool false) ∧ Ex w w' := by
  have hc : w.cell? ⟨g, 2, none⟩ = some (.bool true) := by rw [hB.cell]; rfl
  clear hB
  go_enter Tryz.func133, Tryz.ntmps133
  go_wp2_with fail
  go_ret
  exact ⟨rfl, Ex.refl _⟩
theorem tnow_calls {w : World} {g : Nat} {t : TpV} (hB : Blk w g 174 t.cs) : Calls Tryz.prog 64 #[.pointer (some ⟨g, 0, none⟩)] w fun e w' => e = .returned (.string t.nw) ∧ Ex w w' := by
  have HB := Lib.hid hB
  clear hB
  go_enter Tryz.func64, Tryz.ntmps64
  go_wp2_with fail
  refine (tnone_calls HB.out).mono ?_
  rintro e w1 ⟨rfl, hb1⟩
  have hc : w1.cell? ⟨g, 1, none⟩ = some (.string t.nw) := by rw [(HB.out.ex hb1).cell]; rfl
  go_wp2_with fail
  go_ret
  exact ⟨rfl, hb1⟩
theorem tkept_calls {w : World} {g : Nat} {t : TpV} (hB : Blk w g 174 t.cs) : Calls Tryz.prog 176 #[.pointer (some ⟨g, 0, none⟩)] w fun e w' => e = .returned (.string t.kp) ∧ Ex w w' := by
  have HB := Lib.hid hB
  clear hB
  go_enter Tryz.func176, Tryz.ntmps176
  go_wp2_with fail
  refine (tnone_calls HB.out).mono ?_
  rintro e w1 ⟨rfl, hb1⟩
  have hc : w1.cell? ⟨g, 0, none⟩ = some (.string t.kp) := by rw [(HB.out.ex hb1).cell]; rfl
  go_wp2_with fail
  go_ret
  exact ⟨rfl, hb1⟩
theorem tappend_calls {w : World} {g : Nat} {t : TpV} (s : ByteArray) (hB : Blk w g 174 t.cs) (h1 : t.nw.size ≤ 8000000) (h2 : s.size ≤ 8000000) :
    Calls Tryz.prog 194 #[.pointer (some ⟨g, 0, none⟩), .string s] w fun e w' => e = .returned (.tuple #[]) ∧ Blk w' g 174 (TpV.cs ⟨t.kp, t.nw ++ s⟩) ∧ Off (· = g) w w' := by
  have HB := Lib.hid hB
  clear hB
  go_enter Tryz.func194, Tryz.ntmps194
  go_wp2_with fail
  refine (tnone_calls HB.out).mono ?_
  rintro e w1 ⟨rfl, hb1⟩
  have HB1 := Lib.hid (HB.out.ex hb1)
  have hc : w1.cell? ⟨g, 1, none⟩ = some (.string t.nw) := by rw [HB1.out.cell]; rfl
  have hf := HB1.out.frozen 1
  have HR := Lib.hid (HB1.out.setCell (i := 1) (.string (t.nw ++ s)))
  have HO := Lib.hid ((hb1.off (· = g)).trans (off_set w1 g 1 (.string (t.nw ++ s))))
  clear hb1
  go_wp2_with fail
  go_end0
  exact ⟨rfl, HR.out, HO.out⟩
theorem tboth_calls {w : World} {g : Nat} {t : TpV} (s : ByteArray) (hB : Blk w g 174 t.cs) :
    Calls Tryz.prog 164 #[.pointer (some ⟨g, 0, none⟩), .string s] w fun e w' => e = .returned (.tuple #[]) ∧ Blk w' g 174 (TpV.cs ⟨s, s⟩) ∧ Off (· = g) w w' := by
  have hc0 : w.cell? ⟨g, 0, none⟩ = some (.string t.kp) := by rw [hB.cell]; rfl
  have hf0 := hB.frozen 0
  have hc1 : w.cell? ⟨g, 1, none⟩ = some (.string t.nw) := by rw [hB.cell]; rfl
  have hf1 := hB.frozen 1
  have HR := Lib.hid ((hB.setCell (i := 0) (.string s)).setCell (i := 1) (.string s))
  have HO := Lib.hid ((off_set w g 0 (.string s)).trans (off_set _ g 1 (.string s)))
  clear hB
  go_enter Tryz.func164, Tryz.ntmps164
  go_wp2_with fail
  go_end0
  exact ⟨rfl, HR.out, HO.out⟩
theorem tsync_calls {w : World} {g : Nat} {t : TpV} (hB : Blk w g 174 t.cs) :
    Calls Tryz.prog 153 #[.pointer (some ⟨g, 0, none⟩)] w fun e w' => e = .returned (.tuple #[]) ∧ Blk w' g 174 (TpV.cs ⟨t.nw, t.nw⟩) ∧ Off (· = g) w w' := by
  have HB := Lib.hid hB
  clear hB
  go_enter Tryz.func153, Tryz.ntmps153
  go_wp2_with fail
  refine (tnone_calls HB.out).mono ?_
  rintro e w1 ⟨rfl, hb1⟩
  have HB1 := Lib.hid (HB.out.ex hb1)
  have hc : w1.cell? ⟨g, 1, none⟩ = some (.string t.nw) := by rw [HB1.out.cell]; rfl
  go_wp2_with fail
  refine (tboth_calls t.nw HB1.out).mono ?_
  rintro e w2 ⟨rfl, hB2, ho2⟩
  go_wp2_with fail
  go_end0
  exact ⟨rfl, hB2, (hb1.off _).trans ho2⟩
/-- The first n bytes alone. -/
def TpV.cutOk (t : TpV) (n : Int) : Bool := decide (0 ≤ n ∧ n ≤ (t.nw.size : Int))
def TpV.cut (t : TpV) (n : Int) : TpV := if 0 ≤ n ∧ n ≤ (t.nw.size : Int) then ⟨t.kp, t.nw.extract 0 n.toNat⟩ else t
theorem TpV.cut_no {t : TpV} {n : Int} (h : n < 0 ∨ (t.nw.size : Int) < n) : t.cutOk n = false ∧ t.cut n = t := by
  unfold cutOk cut
  exact ⟨decide_eq_false (by omega), if_neg (by omega)⟩
theorem TpV.cut_yes {t : TpV} {n : Int} (h : 0 ≤ n) (h' : n ≤ (t.nw.size : Int)) : t.cutOk n = true ∧ t.cut n = ⟨t.kp, t.nw.extract 0 n.toNat⟩ := by
  unfold cutOk cut
  exact ⟨decide_eq_true ⟨h, h'⟩, if_pos ⟨h, h'⟩⟩
theorem max_calls_eq (a b : Nat) : ((max a b : Nat) : Int) = max (a : Int) (b : Int) := by omega
theorem tsectors_calls {w : World} {g : Nat} {t : TpV} (hB : Blk w g 174 t.cs) (h1 : t.kp.size ≤ 8000000) (h2 : t.nw.size ≤ 8000000) :
    Calls Tryz.prog 114 #[.pointer (some ⟨g, 0, none⟩)] w fun e w' => e = .returned (.int .i64 (cntS (max t.nw.size t.kp.size) : Int)) ∧ Ex w w' := by
  have HB := Lib.hid hB
  clear hB
  rcases Nat.lt_or_ge t.nw.size t.kp.size with h | h
  · have c1 : (t.nw.size : Int) < (t.kp.size : Int) := by omega
    have HM : Hid (max t.nw.size t.kp.size = t.kp.size) := by unfold Hid; omega
    go_enter Tryz.func114, Tryz.ntmps114
    go_wp2_with fail
    refine (tnow_calls HB.out).mono ?_
    rintro e w1 ⟨rfl, hb1⟩
    go_wp2_with fail
    refine (tkept_calls (HB.out.ex hb1)).mono ?_
    rintro e w2 ⟨rfl, hb2⟩
    go_wp2_with fail
    refine (pcount_calls t.kp.size _ (by omega)).mono ?_
    rintro e w3 ⟨rfl, hb3⟩
    go_wp2_with fail
    go_ret
    exact ⟨by rw [HM.out]; rfl, (hb1.trans hb2).trans hb3⟩
  · have c1 : ¬ (t.nw.size : Int) < (t.kp.size : Int) := by omega
    have HM : Hid (max t.nw.size t.kp.size = t.nw.size) := by unfold Hid; omega
    go_enter Tryz.func114, Tryz.ntmps114
    go_wp2_with fail
    refine (tnow_calls HB.out).mono ?_
    rintro e w1 ⟨rfl, hb1⟩
    go_wp2_with fail
    refine (tkept_calls (HB.out.ex hb1)).mono ?_
    rintro e w2 ⟨rfl, hb2⟩
    go_wp2_with fail
    refine (pcount_calls t.nw.size _ (by omega)).mono ?_
    rintro e w3 ⟨rfl, hb3⟩
    go_wp2_with fail
    go_ret
    exact ⟨by rw [HM.out]; rfl, (hb1.trans hb2).trans hb3⟩
theorem tcrash_calls {w : World} {g : Nat} {t : TpV} (ch : ByteArray) (hB : Blk w g 174 t.cs) (h1 : t.kp.size ≤ 800000) (h2 : t.nw.size ≤ 800000) :
    Calls Tryz.prog 101 #[.pointer (some ⟨g, 0, none⟩), .string ch] w fun e w' => e = .returned (.int .i64 ((mixS t.kp t.nw ch).2 : Int)) ∧ Blk w' g 174 (TpV.cs ⟨(mixS t.kp t.nw ch).1, (mixS t.kp t.nw ch).1⟩) ∧ Off (· = g) w w' := by
  have HB := Lib.hid hB
  clear hB
  go_enter Tryz.func101, Tryz.ntmps101
  go_wp2_with fail
  refine (tnone_calls HB.out).mono ?_
  rintro e w1 ⟨rfl, hb1⟩
  have HB1 := Lib.hid (HB.out.ex hb1)
  have q0 := Wd.cell (show w1.cell? ⟨g, 0, none⟩ = some (.string t.kp) by rw [HB1.out.cell]; rfl)
  have q1 := Wd.cell (show w1.cell? ⟨g, 1, none⟩ = some (.string t.nw) by rw [HB1.out.cell]; rfl)
  go_wp2_with fail
  refine wp_region_calm (by kernel_rfl) (by kernel_rfl) ?_
  repeat (go_big_quiet_step ((go_at_call 163; exact calm_of (pmix_calls _ _ _ _ h1 h2))))
  refine wpQuiet_nil ?_
  intro w2 hX
  replace hX := calm_world hX
  go_wp2_with fail
  refine (tboth_calls _ (HB1.out.ex hX)).mono ?_
  rintro e w3 ⟨rfl, hB3, ho3⟩
  go_wp2_with fail
  go_ret
  exact ⟨rfl, hB3, ((hb1.trans hX).off _).trans ho3⟩
end Go.Proofs.YtomfcgeibbicoaaGreat
