/- Walks: the fuse. -/
import Derived.Test.YtomfcgeibbicoaaGreatOff
import Derived.Test.YtomfcgeibbicoaaGreatProg
import Derived.RegionTactic
import Derived.ChangeAlike
import Derived.Laws.ResultCell
namespace Go.Proofs.YtomfcgeibbicoaaGreat
open Go.RowKit
/-- A fuse, as the document has it. -/
structure FuV where
  p : Int
  s : Int
  d : Int
  off : Bool
def FuV.calm : FuV := ⟨-1, -1, -1, false⟩
def FuV.cs (f : FuV) : List Value := [.int .i64 (-1), .int .i64 f.p, .int .i64 f.s, .int .i64 f.d, .bool (!f.off), .bool true]
def inF (n : Int) : Prop := -1 ≤ n ∧ n ≤ 9223372036854775807
def FuV.Ok (f : FuV) : Prop := inF f.p ∧ inF f.s ∧ inF f.d
def tick (n : Int) : Int := if n = 0 then -1 else max (n - 1) (-1)
theorem tick_ok {n : Int} (h : inF n) : inF (tick n) := by unfold tick inF at *; split <;> omega
def FuV.call (f : FuV) (sync : Bool) : FuV × Int :=
  if f.off = true then (f, 14)
  else if f.d = 0 then ({ f with d := -1, off := true }, 14)
  else if sync = true then ({ f with d := tick f.d, s := tick f.s }, if f.s = 0 then 13 else 0)
  else ({ f with d := tick f.d, p := tick f.p }, if f.p = 0 then 13 else 0)
theorem FuV.call_ok {f : FuV} (h : f.Ok) (b : Bool) : (f.call b).1.Ok := by
  obtain ⟨h1, h2, h3⟩ := h
  have h4 : inF (-1) := by unfold inF; omega
  unfold FuV.call
  split
  · exact ⟨h1, h2, h3⟩
  · split
    · exact ⟨h1, h2, h4⟩
    · split
      · exact ⟨h1, tick_ok h2, tick_ok h3⟩
      · exact ⟨tick_ok h1, h2, tick_ok h3⟩
theorem set_same {cs : List Value} {k : Nat} {v : Value} (h : cs[k]? = some v) : cs.set k v = cs := by
  obtain ⟨hk, rfl⟩ := List.getElem?_eq_some_iff.1 h
  exact List.set_getElem_self hk
theorem comes_calls {w : World} {g k : Nat} {cs : List Value} {n : Int} (hB : Blk w g 184 cs) (hk : k < 4) (hn : cs[k]? = some (.int .i64 n)) (ho : inF n) :
    Calls Tryz.prog 231 #[.pointer (some ⟨g, 0, none⟩), .int .i64 (k : Int)] w fun e w' => e = .returned (.bool (decide (n = 0))) ∧ Blk w' g 184 (cs.set k (.int .i64 (tick n))) ∧ Off (· = g) w w' := by
  have hc : w.cell? ⟨g, k, none⟩ = some (.int .i64 n) := by rw [hB.cell]; exact hn
  have hf := hB.frozen k
  obtain ⟨ho1, ho2⟩ := ho
  have HB := Lib.hid hB
  have HN := Lib.hid hn
  clear hB hn
  have hk' : ((k : Int) < 4) := by omega
  by_cases h1 : n = -1
  · subst h1
    go_enter Tryz.func231, Tryz.ntmps231
    go_wp2_with fail
    go_ret
    refine ⟨rfl, ?_, Off.refl _ _⟩
    rw [show cs.set k (.int .i64 (tick (-1))) = cs from set_same HN.out]
    exact HB.out
  · have d1 : decide (n = -1) = false := decide_eq_false h1
    by_cases h2 : 0 < n
    · have d2 : decide (0 < n) = true := decide_eq_true h2
      have hw : IntKind.i64.wrap (n - 1) = n - 1 := IntWalk.i64_in _ (by omega)
      have ht : tick n = n - 1 := by unfold tick; rw [if_neg (by omega)]; omega
      have d3 : decide (n = 0) = false := decide_eq_false (by omega)
      go_enter Tryz.func231, Tryz.ntmps231
      try go_wp2_with fail
      go_region
      go_wp2_with fail
      go_ret
      refine ⟨by rw [d3]; rfl, ?_, (off_set _ _ _ _).drew⟩
      rw [ht]
      exact (HB.out.setCell (i := k) (.int .i64 (n - 1)) : Blk (w.setCell ⟨g, k, none⟩ (.int .i64 (n - 1))) g _ _)
    · have h0 : n = 0 := by omega
      subst h0
      go_enter Tryz.func231, Tryz.ntmps231
      go_wp2_with fail
      go_ret
      exact ⟨rfl, HB.out.setCell (i := k) (.int .i64 (-1)), off_set _ _ _ _⟩
theorem lacks_calls {w : World} {g : Nat} {f : FuV} (hB : Blk w g 184 f.cs) : Calls Tryz.prog 123 #[.pointer (some ⟨g, 0, none⟩)] w fun e w' => e = .returned (.bool false) ∧ Ex w w' := by
  have hc : w.cell? ⟨g, 5, none⟩ = some (.bool true) := by rw [hB.cell]; rfl
  clear hB
  go_enter Tryz.func123, Tryz.ntmps123
  go_wp2_with fail
  go_ret
  exact ⟨rfl, Ex.refl _⟩
theorem lacks_nil (w : World) : Calls Tryz.prog 123 #[.pointer none] w fun e w' => e = .returned (.bool true) ∧ Ex w w' := by
  go_enter Tryz.func123, Tryz.ntmps123
  go_wp2_with fail
  go_ret
  exact ⟨rfl, Ex.refl _⟩
theorem fup_calls {w : World} {g : Nat} {f : FuV} (hB : Blk w g 184 f.cs) : Calls Tryz.prog 122 #[.pointer (some ⟨g, 0, none⟩)] w fun e w' => e = .returned (.bool (!f.off)) ∧ Ex w w' := by
  have HB := Lib.hid hB
  clear hB
  go_enter Tryz.func122, Tryz.ntmps122
  go_wp2_with fail
  refine (lacks_calls HB.out).mono ?_
  rintro e w1 ⟨rfl, hb1⟩
  have hc : w1.cell? ⟨g, 4, none⟩ = some (.bool (!f.off)) := by rw [(HB.out.ex hb1).cell]; rfl
  go_wp2_with fail
  go_ret
  exact ⟨rfl, hb1⟩
theorem fcall_cs (f : FuV) (b : Bool) : (f.call b).1.cs = if f.off = true then f.cs else if f.d = 0 then ((f.cs.set 3 (.int .i64 (tick f.d))).set 4 (.bool false)) else ((f.cs.set 3 (.int .i64 (tick f.d))).set (if b = true then 2 else 1) (.int .i64 (tick (if b = true then f.s else f.p)))) := by
  unfold FuV.call
  split
  · rfl
  · split
    · rename_i h; rw [h]; rfl
    · cases b <;> rfl
set_option maxHeartbeats 400000 in
theorem fcall_calls {w : World} {g : Nat} {f : FuV} (b : Bool) (hB : Blk w g 184 f.cs) (ho : f.Ok) :
    Calls Tryz.prog 216 #[.pointer (some ⟨g, 0, none⟩), .int .i64 ((if b = true then 2 else 1 : Nat) : Int)] w fun e w' => e = .returned (.int .i64 (f.call b).2) ∧ Blk w' g 184 (f.call b).1.cs ∧ Off (· = g) w w' := by
  obtain ⟨o1, o2, o3⟩ := ho
  have HB := Lib.hid hB
  clear hB
  cases hoff : f.off
  · have hoff' : ¬ f.off = true := by rw [hoff]; decide
    generalize hk : (if b = true then 2 else 1 : Nat) = k
    go_enter Tryz.func216, Tryz.ntmps216
    go_wp2_with fail
    refine (lacks_calls HB.out).mono ?_
    rintro e w1 ⟨rfl, hb1⟩
    have HB1 := Lib.hid (HB.out.ex hb1)
    have hc1 : w1.cell? ⟨g, 4, none⟩ = some (.bool true) := by rw [HB1.out.cell]; unfold FuV.cs; rw [hoff]; rfl
    go_wp2_with fail
    refine (comes_calls (k := 3) (n := f.d) HB1.out (by decide) rfl o3).mono ?_
    rintro e w2 ⟨rfl, hB2, hb2⟩
    have HB2 := Lib.hid hB2
    have HO2 := Lib.hid ((hb1.off _).trans hb2)
    clear hB2 hb1 hb2 hc1
    by_cases hd : f.d = 0
    · have d1 : decide (f.d = 0) = true := decide_eq_true hd
      have hfr := HB2.out.frozen 4
      have hc2 : w2.cell? ⟨g, 4, none⟩ = some (.bool true) := by rw [HB2.out.cell]; unfold FuV.cs; rw [hoff]; rfl
      have HB3 := Lib.hid (HB2.out.setCell (i := 4) (.bool false))
      have HE : Hid ((f.call b).2 = 14) := by unfold FuV.call; rw [if_neg hoff', if_pos hd]; exact rfl
      have HC : Hid ((f.call b).1.cs = ((f.cs.set 3 (.int .i64 (tick f.d))).set 4 (.bool false))) := by rw [fcall_cs, if_neg hoff', if_pos hd]; exact rfl
      clear hd
      go_wp2_with fail
      go_ret
      exact ⟨by rw [HE.out]; rfl, by rw [HC.out]; exact HB3.out, HO2.out.trans (off_set _ _ _ _)⟩
    · have d1 : decide (f.d = 0) = false := decide_eq_false hd
      obtain ⟨n, hn⟩ : ∃ n, n = (if b = true then f.s else f.p) := ⟨_, rfl⟩
      have hno : inF n := by rw [hn]; cases b <;> assumption
      have HE : Hid ((f.call b).2 = if n = 0 then 13 else 0) := by
        unfold FuV.call; rw [if_neg hoff', if_neg hd, hn]; cases b <;> exact rfl
      have HC : Hid ((f.call b).1.cs = ((f.cs.set 3 (.int .i64 (tick f.d))).set k (.int .i64 (tick n)))) := by rw [fcall_cs, if_neg hoff', if_neg hd, ← hk, ← hn]; exact rfl
      have HN : Hid ((f.cs.set 3 (.int .i64 (tick f.d)))[k]? = some (.int .i64 n)) := by rw [← hk, hn]; cases b <;> exact rfl
      have hk4 : k < 4 := by rw [← hk]; split <;> decide
      clear hd hk
      go_wp2_with fail
      refine (comes_calls (n := n) HB2.out hk4 HN.out hno).mono ?_
      rintro e w3 ⟨rfl, hB3, hb3⟩
      have HB3 := Lib.hid hB3
      have HO3 := Lib.hid (HO2.out.trans hb3)
      clear hB3 hb3 hn
      by_cases hn0 : n = 0
      · have d2 : decide (n = 0) = true := decide_eq_true hn0
        have HE' : Hid ((f.call b).2 = 13) := by rw [HE.out, if_pos hn0]; exact rfl
        go_wp2_with fail
        go_ret
        exact ⟨by rw [HE'.out]; rfl, by rw [HC.out]; exact HB3.out, HO3.out⟩
      · have d2 : decide (n = 0) = false := decide_eq_false hn0
        have HE' : Hid ((f.call b).2 = 0) := by rw [HE.out, if_neg hn0]; exact rfl
        go_wp2_with fail
        go_ret
        exact ⟨by rw [HE'.out]; rfl, by rw [HC.out]; exact HB3.out, HO3.out⟩
  · have HE : Hid ((f.call b) = (f, 14)) := by unfold FuV.call; rw [if_pos hoff]; exact rfl
    generalize hk : (if b = true then 2 else 1 : Nat) = k
    go_enter Tryz.func216, Tryz.ntmps216
    go_wp2_with fail
    refine (lacks_calls HB.out).mono ?_
    rintro e w1 ⟨rfl, hb1⟩
    have HB1 := Lib.hid (HB.out.ex hb1)
    have hc1 : w1.cell? ⟨g, 4, none⟩ = some (.bool false) := by rw [HB1.out.cell]; unfold FuV.cs; rw [hoff]; rfl
    go_wp2_with fail
    go_ret
    exact ⟨by rw [HE.out]; rfl, by rw [HE.out]; exact HB1.out, hb1.off _⟩
theorem fput_calls {w : World} {g : Nat} {f : FuV} (hB : Blk w g 184 f.cs) (ho : f.Ok) :
    Calls Tryz.prog 181 #[.pointer (some ⟨g, 0, none⟩)] w fun e w' => e = .returned (.int .i64 (f.call false).2) ∧ Blk w' g 184 (f.call false).1.cs ∧ Off (· = g) w w' := by
  have HB := Lib.hid hB
  clear hB
  go_enter Tryz.func181, Tryz.ntmps181
  go_wp2_with fail
  refine (fcall_calls false HB.out ho).mono ?_
  rintro e w1 ⟨rfl, hB1, hb1⟩
  go_wp2_with fail
  go_ret
  exact ⟨rfl, hB1, hb1⟩
theorem fsync_calls {w : World} {g : Nat} {f : FuV} (hB : Blk w g 184 f.cs) (ho : f.Ok) :
    Calls Tryz.prog 197 #[.pointer (some ⟨g, 0, none⟩)] w fun e w' => e = .returned (.int .i64 (f.call true).2) ∧ Blk w' g 184 (f.call true).1.cs ∧ Off (· = g) w w' := by
  have HB := Lib.hid hB
  clear hB
  go_enter Tryz.func197, Tryz.ntmps197
  go_wp2_with fail
  refine (fcall_calls true HB.out ho).mono ?_
  rintro e w1 ⟨rfl, hB1, hb1⟩
  go_wp2_with fail
  go_ret
  exact ⟨rfl, hB1, hb1⟩
theorem info_a4 : (Tryz.prog.info? 181).map (·.size) = some 4 := by kernel_rfl
theorem calm_calls (w : World) : Calls Tryz.prog 124 #[] w fun e w' => e = .returned (.agg #[.int .i64 (-1), .int .i64 (-1), .int .i64 (-1), .int .i64 (-1)]) ∧ Ex w w' := by
  go_enter Tryz.func124, Tryz.ntmps124
  go_wp2_with fail
  go_loopw [3] (fun v3 wr => ∃ (k : Nat) (cs : List Value), k ≤ 4 ∧ v3 = .int .i64 (k : Int) ∧ Blk wr (w.heap.size + 1) 181 cs ∧ cs.length = 4 ∧ (∀ i, i < k → cs[i]? = some (.int .i64 (-1))) ∧ Blk wr w.heap.size 181 [.int .i64 0, .int .i64 0, .int .i64 0, .int .i64 0] ∧ Ex w wr) (fun v3 _ => 4 - (intOf v3).toNat)
  case atStart => exact ⟨0, [.int .i64 0, .int .i64 0, .int .i64 0, .int .i64 0], by omega, rfl, by have := Blk.new (w.alloc (.cells #[.int .i64 0, .int .i64 0, .int .i64 0, .int .i64 0] 181)) [.int .i64 0, .int .i64 0, .int .i64 0, .int .i64 0] 181; simpa using this, rfl, fun i hi => by omega, (Blk.new w [.int .i64 0, .int .i64 0, .int .i64 0, .int .i64 0] _).ex (ex_alloc (Ex.refl _) _), ex_alloc (ex_alloc (Ex.refl _) _) _⟩
  case round =>
    obtain ⟨k, cs, hk, rfl, hB, hl, hv, hB0, hb⟩ := hrel
    have HB := Lib.hid hB
    have HB0 := Lib.hid hB0
    have HV := Lib.hid hv
    by_cases hlt : k < 4
    · have hc : wr.cell? ⟨w.heap.size + 1, k, none⟩ = some (cs[k]'(by omega)) := by rw [hB.cell, List.getElem?_eq_getElem]
      have hf := hB.frozen k
      have HB1 := Lib.hid (hB.setCell (i := k) (.int .i64 (-1)))
      have HB2 := Lib.hid (hB0.off (off_set wr (w.heap.size + 1) k (.int .i64 (-1))) (by omega))
      have HX1 := Lib.hid (show Ex w (wr.setCell ⟨w.heap.size + 1, k, none⟩ (.int .i64 (-1))) from Below.setCell hb (p := ⟨w.heap.size + 1, k, none⟩) (by show w.heap.size ≤ w.heap.size + 1; omega) (.int .i64 (-1)))
      generalize (cs[k]'(by omega)) = u at hc
      have HL := Lib.hid hl
      have HV1 := Lib.hid (show ∀ i, i < k + 1 → (cs.set k (.int .i64 (-1)))[i]? = some (Value.int .i64 (-1)) from fun i hi => by
        rw [List.getElem?_set]
        split
        · rw [if_pos (by omega)]
        · exact hv i (by omega))
      clear hB hB0 hv hl HV
      go_wp2_with fail
      exact ⟨⟨k + 1, cs.set k (.int .i64 (-1)), by omega, by go_num, HB1.out, by rw [List.length_set]; exact HL.out, HV1.out, HB2.out, HX1.out⟩, by simp [intOf]; omega⟩
    · have hk4 : k = 4 := by omega
      subst hk4
      have hcs : cs = [.int .i64 (-1), .int .i64 (-1), .int .i64 (-1), .int .i64 (-1)] := by
        apply List.ext_getElem?
        intro i
        by_cases hi : i < 4
        · rw [hv i hi]
          match i, hi with
          | 0, _ => rfl
          | 1, _ => rfl
          | 2, _ => rfl
          | 3, _ => rfl
        · rw [List.getElem?_eq_none (by omega), List.getElem?_eq_none (by show 4 ≤ i; omega)]
      subst hcs
      have m0 : wr.cell? ⟨w.heap.size + 1, 0, none⟩ = some (.int .i64 (-1)) := by rw [hB.cell]; rfl
      have m1 : wr.cell? ⟨w.heap.size + 1, 1, none⟩ = some (.int .i64 (-1)) := by rw [hB.cell]; rfl
      have m2 : wr.cell? ⟨w.heap.size + 1, 2, none⟩ = some (.int .i64 (-1)) := by rw [hB.cell]; rfl
      have m3 : wr.cell? ⟨w.heap.size + 1, 3, none⟩ = some (.int .i64 (-1)) := by rw [hB.cell]; rfl
      have z0 : wr.cell? ⟨w.heap.size, 0, none⟩ = some (.int .i64 0) := by rw [hB0.cell]; rfl
      have z1 : wr.cell? ⟨w.heap.size, 1, none⟩ = some (.int .i64 0) := by rw [hB0.cell]; rfl
      have z2 : wr.cell? ⟨w.heap.size, 2, none⟩ = some (.int .i64 0) := by rw [hB0.cell]; rfl
      have z3 : wr.cell? ⟨w.heap.size, 3, none⟩ = some (.int .i64 0) := by rw [hB0.cell]; rfl
      have f0 := hB0.frozen 0
      have f1 := hB0.frozen 1
      have f2 := hB0.frozen 2
      have f3 := hB0.frozen 3
      have HX := Lib.hid hb
      have HR := Lib.hid ((((hB0.setCell (i := 0) (.int .i64 (-1))).setCell (i := 1) (.int .i64 (-1))).setCell (i := 2) (.int .i64 (-1))).setCell (i := 3) (.int .i64 (-1)))
      clear hB hB0 hb hv hl HV HB HB0
      go_wp2_with fail
      (try simp only [Exit.inBlock, Exit.then])
      refine bodyPost_ret (results_cell_row rfl _ _ w.heap.size 181 _ (0, 0) _ rfl HR.out Tryz.underlying181 rfl info_a4) rfl ?_
      refine ⟨rfl, ?_⟩
      exact Below.setCell (Below.setCell (Below.setCell (Below.setCell HX.out (p := ⟨w.heap.size, 0, none⟩) (Nat.le_refl _) _) (p := ⟨w.heap.size, 1, none⟩) (Nat.le_refl _) _) (p := ⟨w.heap.size, 2, none⟩) (Nat.le_refl _) _) (p := ⟨w.heap.size, 3, none⟩) (Nat.le_refl _) _
theorem fnew_calls (w : World) : Calls Tryz.prog 91 #[] w fun e w' => ∃ g, e = .returned (.pointer (some ⟨g, 0, none⟩)) ∧ w.heap.size ≤ g ∧ Blk w' g 184 FuV.calm.cs ∧ Ex w w' := by
  go_enter Tryz.func91, Tryz.ntmps91
  go_wp2_with fail
  refine (calm_calls w).mono ?_
  rintro e w1 ⟨rfl, hb1⟩
  have HX := Lib.hid hb1
  have HK := Lib.hid (Blk.new w1 FuV.calm.cs 184)
  have HX1 := Lib.hid (ex_alloc hb1 (.cells FuV.calm.cs.toArray 184))
  have hsz := hb1.size
  clear hb1
  go_wp2_with fail
  go_ret
  exact ⟨_, rfl, hsz, HK.out, HX1.out⟩
theorem freset_calls {w : World} {g : Nat} {f : FuV} (hB : Blk w g 184 f.cs) :
    Calls Tryz.prog 97 #[.pointer (some ⟨g, 0, none⟩)] w fun e w' => e = .returned (.tuple #[]) ∧ Blk w' g 184 FuV.calm.cs ∧ Off (· = g) w w' := by
  have HB := Lib.hid hB
  clear hB
  go_enter Tryz.func97, Tryz.ntmps97
  go_wp2_with fail
  refine (lacks_calls HB.out).mono ?_
  rintro e w1 ⟨rfl, hb1⟩
  have HB1 := Lib.hid (HB.out.ex hb1)
  have HO1 := Lib.hid (hb1.off (· = g))
  clear hb1
  go_wp2_with fail
  refine (calm_calls w1).mono ?_
  rintro e w2 ⟨rfl, hb2⟩
  have HO2 := Lib.hid (HO1.out.trans (hb2.off _))
  have HB2 := Lib.hid (HB1.out.ex hb2)
  have m0 : w2.cell? ⟨g, 0, none⟩ = some (.int .i64 (-1)) := by rw [HB2.out.cell]; rfl
  have m1 : w2.cell? ⟨g, 1, none⟩ = some (.int .i64 f.p) := by rw [HB2.out.cell]; rfl
  have m2 : w2.cell? ⟨g, 2, none⟩ = some (.int .i64 f.s) := by rw [HB2.out.cell]; rfl
  have m3 : w2.cell? ⟨g, 3, none⟩ = some (.int .i64 f.d) := by rw [HB2.out.cell]; rfl
  have m4 : w2.cell? ⟨g, 4, none⟩ = some (.bool (!f.off)) := by rw [HB2.out.cell]; rfl
  have f0 := HB2.out.frozen 0
  have f1 := HB2.out.frozen 1
  have f2 := HB2.out.frozen 2
  have f3 := HB2.out.frozen 3
  have f4 := HB2.out.frozen 4
  have HR := Lib.hid (((((HB2.out.setCell (i := 0) (.int .i64 (-1))).setCell (i := 1) (.int .i64 (-1))).setCell (i := 2) (.int .i64 (-1))).setCell (i := 3) (.int .i64 (-1))).setCell (i := 4) (.bool true))
  have HF := Lib.hid (((((off_set w2 g 0 (.int .i64 (-1))).trans (off_set _ g 1 (.int .i64 (-1)))).trans (off_set _ g 2 (.int .i64 (-1)))).trans (off_set _ g 3 (.int .i64 (-1)))).trans (off_set _ g 4 (.bool true)))
  clear hb2
  go_wp2_with fail
  go_end0
  exact ⟨rfl, HR.out, HO2.out.trans HF.out⟩
def FuV.arm (f : FuV) (kind at' : Int) : FuV × Bool :=
  if kind < 0 ∨ 4 ≤ kind ∨ at' < 0 then (f, false)
  else if kind = 0 then ({ FuV.calm with off := f.off }, true)
  else if kind = 1 then ({ f with p := at' }, true)
  else if kind = 2 then ({ f with s := at' }, true)
  else ({ f with d := at' }, true)
theorem FuV.arm_ok {f : FuV} {k a : Int} (h : f.Ok) (ha : a ≤ 9223372036854775807) : (f.arm k a).1.Ok := by
  obtain ⟨h1, h2, h3⟩ := h
  have h4 : inF (-1) := by unfold inF; omega
  unfold FuV.arm
  split
  · exact ⟨h1, h2, h3⟩
  · rename_i hc
    have h5 : inF a := by unfold inF; omega
    split
    · exact ⟨h4, h4, h4⟩
    · split
      · exact ⟨h5, h2, h3⟩
      · split
        · exact ⟨h1, h5, h3⟩
        · exact ⟨h1, h2, h5⟩
theorem arm_cs {f : FuV} {k : Nat} {a : Int} (h0 : 0 < k) (h4 : k < 4) (ha : 0 ≤ a) : (f.arm k a).1.cs = f.cs.set k (.int .i64 a) ∧ (f.arm k a).2 = true := by
  unfold FuV.arm
  rw [if_neg (by omega), if_neg (by omega)]
  match k, h0, h4 with
  | 1, _, _ => exact ⟨rfl, rfl⟩
  | 2, _, _ => exact ⟨rfl, rfl⟩
  | 3, _, _ => exact ⟨rfl, rfl⟩
set_option maxHeartbeats 400000 in
theorem farm_calls {w : World} {g : Nat} {f : FuV} (k a : Int) (hB : Blk w g 184 f.cs) :
    Calls Tryz.prog 55 #[.pointer (some ⟨g, 0, none⟩), .agg #[.int .i64 k, .int .i64 a]] w fun e w' => e = .returned (.bool (f.arm k a).2) ∧ Blk w' g 184 (f.arm k a).1.cs ∧ Off (· = g) w w' := by
  have hX0 := ex_alloc (Ex.refl w) (.cells #[.int .i64 k, .int .i64 a] 45)
  have hK := Blk.new w [.int .i64 k, .int .i64 a] 45
  have HB := Lib.hid (hB.ex hX0)
  have hgl := hB.lt
  have HX0 := Lib.hid hX0
  have HK := Lib.hid hK
  clear hX0 hB hK
  by_cases hbad : k < 0 ∨ 4 ≤ k ∨ a < 0
  · have HA : Hid (f.arm k a = (f, false)) := by unfold FuV.arm; rw [if_pos hbad]; exact rfl
    go_enter Tryz.func55, Tryz.ntmps55
    go_wp2_with fail
    refine (lacks_calls HB.out).mono ?_
    rintro e w1 ⟨rfl, hb1⟩
    have m0 : w1.cell? ⟨w.heap.size, 0, none⟩ = some (.int .i64 k) := by rw [(HK.out.ex hb1).cell]; rfl
    have m1 : w1.cell? ⟨w.heap.size, 1, none⟩ = some (.int .i64 a) := by rw [(HK.out.ex hb1).cell]; rfl
    have HB1 := Lib.hid (HB.out.ex hb1)
    have HO1 := Lib.hid ((HX0.out.off (· = g)).trans (hb1.off _))
    clear hb1
    by_cases h1 : k < 0
    · have d1 : decide (k < 0) = true := decide_eq_true h1
      go_wp2_with fail
      go_ret
      exact ⟨by rw [HA.out]; rfl, by rw [HA.out]; exact HB1.out, HO1.out⟩
    · have d1 : decide (k < 0) = false := decide_eq_false h1
      by_cases h2 : 4 ≤ k
      · have d2 : decide (4 ≤ k) = true := decide_eq_true h2
        go_wp2_with fail
        go_ret
        exact ⟨by rw [HA.out]; rfl, by rw [HA.out]; exact HB1.out, HO1.out⟩
      · have d2 : decide (4 ≤ k) = false := decide_eq_false h2
        have d3 : decide (a < 0) = true := decide_eq_true (by omega)
        go_wp2_with fail
        go_ret
        exact ⟨by rw [HA.out]; rfl, by rw [HA.out]; exact HB1.out, HO1.out⟩
  · have d1 : decide (k < 0) = false := decide_eq_false (by omega)
    have d2 : decide (4 ≤ k) = false := decide_eq_false (by omega)
    have d3 : decide (a < 0) = false := decide_eq_false (by omega)
    have ha : 0 ≤ a := by omega
    by_cases h0 : k = 0
    · have HA : Hid (f.arm k a = ({ FuV.calm with off := f.off }, true)) := by unfold FuV.arm; rw [if_neg hbad, if_pos h0]; exact rfl
      subst h0
      go_enter Tryz.func55, Tryz.ntmps55
      go_wp2_with fail
      refine (lacks_calls HB.out).mono ?_
      rintro e w1 ⟨rfl, hb1⟩
      have m0 : w1.cell? ⟨w.heap.size, 0, none⟩ = some (.int .i64 0) := by rw [(HK.out.ex hb1).cell]; rfl
      have m1 : w1.cell? ⟨w.heap.size, 1, none⟩ = some (.int .i64 a) := by rw [(HK.out.ex hb1).cell]; rfl
      have HB1 := Lib.hid (HB.out.ex hb1)
      have HO1 := Lib.hid ((HX0.out.off (· = g)).trans (hb1.off _))
      clear hb1
      go_wp2_with fail
      refine (calm_calls w1).mono ?_
      rintro e w2 ⟨rfl, hb2⟩
      have HO2 := Lib.hid (HO1.out.trans (hb2.off _))
      have HB2 := Lib.hid (HB1.out.ex hb2)
      clear m0 m1
      have m0 : w2.cell? ⟨g, 0, none⟩ = some (.int .i64 (-1)) := by rw [HB2.out.cell]; rfl
      have m1 : w2.cell? ⟨g, 1, none⟩ = some (.int .i64 f.p) := by rw [HB2.out.cell]; rfl
      have m2 : w2.cell? ⟨g, 2, none⟩ = some (.int .i64 f.s) := by rw [HB2.out.cell]; rfl
      have m3 : w2.cell? ⟨g, 3, none⟩ = some (.int .i64 f.d) := by rw [HB2.out.cell]; rfl
      have f0 := HB2.out.frozen 0
      have f1 := HB2.out.frozen 1
      have f2 := HB2.out.frozen 2
      have f3 := HB2.out.frozen 3
      have HR := Lib.hid ((((HB2.out.setCell (i := 0) (.int .i64 (-1))).setCell (i := 1) (.int .i64 (-1))).setCell (i := 2) (.int .i64 (-1))).setCell (i := 3) (.int .i64 (-1)))
      have HF := Lib.hid ((((off_set w2 g 0 (.int .i64 (-1))).trans (off_set _ g 1 (.int .i64 (-1)))).trans (off_set _ g 2 (.int .i64 (-1)))).trans (off_set _ g 3 (.int .i64 (-1))))
      clear hb2
      go_wp2_with fail
      go_ret
      exact ⟨by rw [HA.out]; rfl, by rw [HA.out]; exact HR.out, HO2.out.trans HF.out⟩
    · have d4 : decide (k = 0) = false := decide_eq_false h0
      obtain ⟨n, rfl⟩ := Int.eq_ofNat_of_zero_le (show 0 ≤ k by omega)
      have hn0 : 0 < n := by omega
      have hn4 : n < 4 := by omega
      have hn4' : ((n : Int) < 4) := by omega
      obtain ⟨h5, h6⟩ := arm_cs (f := f) hn0 hn4 ha
      have H5 := Lib.hid h5
      have H6 := Lib.hid h6
      clear h5 h6
      obtain ⟨old, hold⟩ : ∃ v, f.cs[n]? = some v := ⟨_, List.getElem?_eq_getElem (show n < 6 by omega)⟩
      have HOLD := Lib.hid hold
      clear hold
      go_enter Tryz.func55, Tryz.ntmps55
      go_wp2_with fail
      refine (lacks_calls HB.out).mono ?_
      rintro e w1 ⟨rfl, hb1⟩
      have m0 : w1.cell? ⟨w.heap.size, 0, none⟩ = some (.int .i64 (n : Int)) := by rw [(HK.out.ex hb1).cell]; rfl
      have m1 : w1.cell? ⟨w.heap.size, 1, none⟩ = some (.int .i64 a) := by rw [(HK.out.ex hb1).cell]; rfl
      have HB1 := Lib.hid (HB.out.ex hb1)
      have HO1 := Lib.hid ((HX0.out.off (· = g)).trans (hb1.off _))
      have mk : w1.cell? ⟨g, n, none⟩ = some old := by rw [HB1.out.cell]; exact HOLD.out
      have fk := HB1.out.frozen n
      clear hb1
      try go_wp2_with fail
      go_region
      go_wp2_with fail
      go_ret
      refine ⟨by rw [H6.out]; rfl, ?_, (HO1.out.trans (off_set _ _ _ _)).drew⟩
      rw [H5.out]
      exact (HB1.out.setCell (i := n) (.int .i64 a) : Blk (w1.setCell ⟨g, n, none⟩ (.int .i64 a)) g _ _)
end Go.Proofs.YtomfcgeibbicoaaGreat
namespace Go.Proofs.YtomfcgeibbicoaaGreat
open Go.RowKit
def FuV.rs (f : FuV) : List Value := [.int .i64 f.p, .int .i64 f.s, .int .i64 f.d, .bool f.off]
def FuV.agg (f : FuV) : Value := .agg #[.int .i64 f.p, .int .i64 f.s, .int .i64 f.d, .bool f.off]
theorem info_rf : (Tryz.prog.info? 38).map (·.size) = some 4 := by kernel_rfl
theorem rfnew_calls (w : World) : Calls Tryz.prog 106 #[] w fun e w' => e = .returned FuV.calm.agg ∧ Ex w w' := by
  have HK := Lib.hid (Blk.new w FuV.calm.rs 38)
  have HX := Lib.hid (ex_alloc (Ex.refl w) (.cells FuV.calm.rs.toArray 38))
  go_enter Tryz.func106, Tryz.ntmps106
  go_wp2_with fail
  (try simp only [Exit.inBlock, Exit.then])
  refine bodyPost_ret (results_cell_row rfl _ _ w.heap.size 38 _ (0, 0) _ rfl HK.out Tryz.underlying38 rfl info_rf) rfl ?_
  exact ⟨rfl, HX.out⟩
/-- A fuse and a word as results. -/
theorem ret_rf2 {fn : Func} {p u : Tmp} (h : fn.results = #[.cell p 38, .tmp u]) (tmps : Array Value) (w : World) (g : Nat) (f : FuV) (hp : tmps.getD p undef = .pointer (some ⟨g, 0, none⟩)) (hg : Blk w g 38 f.rs) :
    (results fn tmps).run Tryz.prog w = .ok (.tuple #[f.agg, tmps.getD u undef]) w := by
  have hl := run_loadVar_row (P := Tryz.prog) w g 38 38 f.rs.toArray (0, 0) _ hg Tryz.underlying38 rfl info_rf
  rw [results_cell_tmp h, hp]
  simp only [asAddr, Sem.run_pure, Result.andThen, hl]
  rfl
theorem blk_two (w : World) (A : Obj) (cs : List Value) (t : TypeId) : Blk ((w.alloc A).alloc (.cells cs.toArray t)) (w.heap.size + 1) t cs := by
  have := Blk.new (w.alloc A) cs t
  simpa using this
theorem ex_two (w : World) (A B : Obj) : Ex w ((w.alloc A).alloc B) := ex_alloc (ex_alloc (Ex.refl w) A) B
theorem tick0 {n : Int} (h : n = 0) : tick n = -1 := by unfold tick; rw [if_pos h]
theorem tickm {n : Int} (h : n = -1) : tick n = -1 := by unfold tick; rw [if_neg (by omega)]; omega
theorem tickp {n : Int} (h : 0 < n) : tick n = n - 1 := by unfold tick; rw [if_neg (by omega)]; omega
set_option maxHeartbeats 4000000 in
theorem rfcall_calls {w : World} (f : FuV) (b : Bool) (ho : f.Ok) : Calls Tryz.prog 182 #[f.agg, .bool b] w fun e w' => e = .returned (.tuple #[(f.call b).1.agg, .int .i64 (f.call b).2]) ∧ Ex w w' := by
  obtain ⟨p, s, d, off⟩ := f
  obtain ⟨⟨o1, o2⟩, ⟨o3, o4⟩, ⟨o5, o6⟩⟩ := ho
  simp only at o1 o2 o3 o4 o5 o6
  have w1 : IntKind.i64.wrap (p - 1) = p - 1 := IntWalk.i64_in _ (by omega)
  have w2 : IntKind.i64.wrap (s - 1) = s - 1 := IntWalk.i64_in _ (by omega)
  have w3 : IntKind.i64.wrap (d - 1) = d - 1 := IntWalk.i64_in _ (by omega)
  cases off
  · rcases (show d = 0 ∨ d = -1 ∨ 0 < d by omega) with hd | hd | hd
    · have d1 : decide (d = 0) = true := decide_eq_true hd
      have HE : Hid ((FuV.call ⟨p, s, d, false⟩ b) = (⟨p, s, -1, true⟩, 14)) := by unfold FuV.call; rw [if_neg Bool.false_ne_true, if_pos hd]; exact rfl
      unfold FuV.agg
      rw [HE.out]
      go_enter Tryz.func182, Tryz.ntmps182
      go_wp2_with fail
      (try simp only [Exit.inBlock, Exit.then])
      refine bodyPost_ret (ret_rf2 rfl _ _ (w.heap.size + 1) ⟨p, s, -1, true⟩ rfl (blk_two _ _ _ _)) rfl ?_
      exact ⟨rfl, ex_two _ _ _⟩
    · have d1 : decide (d = 0) = false := decide_eq_false (by omega)
      have hd0 : ¬ d = 0 := by omega
      have c1 : decide (d - 1 < -1) = true := decide_eq_true (by omega)
      have c1' : d - 1 < -1 := by omega
      cases b
      · rcases (show p = 0 ∨ p = -1 ∨ 0 < p by omega) with hx | hx | hx
        · have d2 : decide (p = 0) = true := decide_eq_true (by omega)
          have HE : Hid ((FuV.call ⟨p, s, d, false⟩ false) = (⟨-1, s, -1, false⟩, 13)) := by unfold FuV.call; rw [if_neg Bool.false_ne_true, if_neg hd0, if_neg Bool.false_ne_true, if_pos hx]; show ((⟨tick p, s, tick d, false⟩ : FuV), (13 : Int)) = _; rw [tick0 hx, tickm hd]
          unfold FuV.agg
          rw [HE.out]
          go_enter Tryz.func182, Tryz.ntmps182
          go_wp2_with fail
          (try simp only [Exit.inBlock, Exit.then])
          refine bodyPost_ret (ret_rf2 rfl _ _ (w.heap.size + 1) ⟨-1, s, -1, false⟩ rfl (blk_two _ _ _ _)) rfl ?_
          exact ⟨rfl, ex_two _ _ _⟩
        · have d2 : decide (p = 0) = false := decide_eq_false (by omega)
          have hx0 : ¬ p = 0 := by omega
          have c2' : p - 1 < -1 := by omega
          have HE : Hid ((FuV.call ⟨p, s, d, false⟩ false) = (⟨-1, s, -1, false⟩, 0)) := by unfold FuV.call; rw [if_neg Bool.false_ne_true, if_neg hd0, if_neg Bool.false_ne_true, if_neg hx0]; show ((⟨tick p, s, tick d, false⟩ : FuV), (0 : Int)) = _; rw [tickm hx, tickm hd]
          unfold FuV.agg
          rw [HE.out]
          go_enter Tryz.func182, Tryz.ntmps182
          go_wp2_with fail
          (try simp only [Exit.inBlock, Exit.then])
          refine bodyPost_ret (ret_rf2 rfl _ _ (w.heap.size + 1) ⟨-1, s, -1, false⟩ rfl (blk_two _ _ _ _)) rfl ?_
          exact ⟨rfl, ex_two _ _ _⟩
        · have d2 : decide (p = 0) = false := decide_eq_false (by omega)
          have hx0 : ¬ p = 0 := by omega
          have c2' : ¬ (p - 1 < -1) := by omega
          have HE : Hid ((FuV.call ⟨p, s, d, false⟩ false) = (⟨p - 1, s, -1, false⟩, 0)) := by unfold FuV.call; rw [if_neg Bool.false_ne_true, if_neg hd0, if_neg Bool.false_ne_true, if_neg hx0]; show ((⟨tick p, s, tick d, false⟩ : FuV), (0 : Int)) = _; rw [tickp hx, tickm hd]
          unfold FuV.agg
          rw [HE.out]
          go_enter Tryz.func182, Tryz.ntmps182
          go_wp2_with fail
          (try simp only [Exit.inBlock, Exit.then])
          refine bodyPost_ret (ret_rf2 rfl _ _ (w.heap.size + 1) ⟨p - 1, s, -1, false⟩ rfl (blk_two _ _ _ _)) rfl ?_
          exact ⟨rfl, ex_two _ _ _⟩
      · rcases (show s = 0 ∨ s = -1 ∨ 0 < s by omega) with hx | hx | hx
        · have d2 : decide (s = 0) = true := decide_eq_true (by omega)
          have HE : Hid ((FuV.call ⟨p, s, d, false⟩ true) = (⟨p, -1, -1, false⟩, 13)) := by unfold FuV.call; rw [if_neg Bool.false_ne_true, if_neg hd0, if_pos rfl, if_pos hx]; show ((⟨p, tick s, tick d, false⟩ : FuV), (13 : Int)) = _; rw [tick0 hx, tickm hd]
          unfold FuV.agg
          rw [HE.out]
          go_enter Tryz.func182, Tryz.ntmps182
          go_wp2_with fail
          (try simp only [Exit.inBlock, Exit.then])
          refine bodyPost_ret (ret_rf2 rfl _ _ (w.heap.size + 1) ⟨p, -1, -1, false⟩ rfl (blk_two _ _ _ _)) rfl ?_
          exact ⟨rfl, ex_two _ _ _⟩
        · have d2 : decide (s = 0) = false := decide_eq_false (by omega)
          have hx0 : ¬ s = 0 := by omega
          have c2' : s - 1 < -1 := by omega
          have HE : Hid ((FuV.call ⟨p, s, d, false⟩ true) = (⟨p, -1, -1, false⟩, 0)) := by unfold FuV.call; rw [if_neg Bool.false_ne_true, if_neg hd0, if_pos rfl, if_neg hx0]; show ((⟨p, tick s, tick d, false⟩ : FuV), (0 : Int)) = _; rw [tickm hx, tickm hd]
          unfold FuV.agg
          rw [HE.out]
          go_enter Tryz.func182, Tryz.ntmps182
          go_wp2_with fail
          (try simp only [Exit.inBlock, Exit.then])
          refine bodyPost_ret (ret_rf2 rfl _ _ (w.heap.size + 1) ⟨p, -1, -1, false⟩ rfl (blk_two _ _ _ _)) rfl ?_
          exact ⟨rfl, ex_two _ _ _⟩
        · have d2 : decide (s = 0) = false := decide_eq_false (by omega)
          have hx0 : ¬ s = 0 := by omega
          have c2' : ¬ (s - 1 < -1) := by omega
          have HE : Hid ((FuV.call ⟨p, s, d, false⟩ true) = (⟨p, s - 1, -1, false⟩, 0)) := by unfold FuV.call; rw [if_neg Bool.false_ne_true, if_neg hd0, if_pos rfl, if_neg hx0]; show ((⟨p, tick s, tick d, false⟩ : FuV), (0 : Int)) = _; rw [tickp hx, tickm hd]
          unfold FuV.agg
          rw [HE.out]
          go_enter Tryz.func182, Tryz.ntmps182
          go_wp2_with fail
          (try simp only [Exit.inBlock, Exit.then])
          refine bodyPost_ret (ret_rf2 rfl _ _ (w.heap.size + 1) ⟨p, s - 1, -1, false⟩ rfl (blk_two _ _ _ _)) rfl ?_
          exact ⟨rfl, ex_two _ _ _⟩
    · have d1 : decide (d = 0) = false := decide_eq_false (by omega)
      have hd0 : ¬ d = 0 := by omega
      have c1 : decide (d - 1 < -1) = false := decide_eq_false (by omega)
      have c1' : ¬ (d - 1 < -1) := by omega
      cases b
      · rcases (show p = 0 ∨ p = -1 ∨ 0 < p by omega) with hx | hx | hx
        · have d2 : decide (p = 0) = true := decide_eq_true (by omega)
          have HE : Hid ((FuV.call ⟨p, s, d, false⟩ false) = (⟨-1, s, d - 1, false⟩, 13)) := by unfold FuV.call; rw [if_neg Bool.false_ne_true, if_neg hd0, if_neg Bool.false_ne_true, if_pos hx]; show ((⟨tick p, s, tick d, false⟩ : FuV), (13 : Int)) = _; rw [tick0 hx, tickp hd]
          unfold FuV.agg
          rw [HE.out]
          go_enter Tryz.func182, Tryz.ntmps182
          go_wp2_with fail
          (try simp only [Exit.inBlock, Exit.then])
          refine bodyPost_ret (ret_rf2 rfl _ _ (w.heap.size + 1) ⟨-1, s, d - 1, false⟩ rfl (blk_two _ _ _ _)) rfl ?_
          exact ⟨rfl, ex_two _ _ _⟩
        · have d2 : decide (p = 0) = false := decide_eq_false (by omega)
          have hx0 : ¬ p = 0 := by omega
          have c2' : p - 1 < -1 := by omega
          have HE : Hid ((FuV.call ⟨p, s, d, false⟩ false) = (⟨-1, s, d - 1, false⟩, 0)) := by unfold FuV.call; rw [if_neg Bool.false_ne_true, if_neg hd0, if_neg Bool.false_ne_true, if_neg hx0]; show ((⟨tick p, s, tick d, false⟩ : FuV), (0 : Int)) = _; rw [tickm hx, tickp hd]
          unfold FuV.agg
          rw [HE.out]
          go_enter Tryz.func182, Tryz.ntmps182
          go_wp2_with fail
          (try simp only [Exit.inBlock, Exit.then])
          refine bodyPost_ret (ret_rf2 rfl _ _ (w.heap.size + 1) ⟨-1, s, d - 1, false⟩ rfl (blk_two _ _ _ _)) rfl ?_
          exact ⟨rfl, ex_two _ _ _⟩
        · have d2 : decide (p = 0) = false := decide_eq_false (by omega)
          have hx0 : ¬ p = 0 := by omega
          have c2' : ¬ (p - 1 < -1) := by omega
          have HE : Hid ((FuV.call ⟨p, s, d, false⟩ false) = (⟨p - 1, s, d - 1, false⟩, 0)) := by unfold FuV.call; rw [if_neg Bool.false_ne_true, if_neg hd0, if_neg Bool.false_ne_true, if_neg hx0]; show ((⟨tick p, s, tick d, false⟩ : FuV), (0 : Int)) = _; rw [tickp hx, tickp hd]
          unfold FuV.agg
          rw [HE.out]
          go_enter Tryz.func182, Tryz.ntmps182
          go_wp2_with fail
          (try simp only [Exit.inBlock, Exit.then])
          refine bodyPost_ret (ret_rf2 rfl _ _ (w.heap.size + 1) ⟨p - 1, s, d - 1, false⟩ rfl (blk_two _ _ _ _)) rfl ?_
          exact ⟨rfl, ex_two _ _ _⟩
      · rcases (show s = 0 ∨ s = -1 ∨ 0 < s by omega) with hx | hx | hx
        · have d2 : decide (s = 0) = true := decide_eq_true (by omega)
          have HE : Hid ((FuV.call ⟨p, s, d, false⟩ true) = (⟨p, -1, d - 1, false⟩, 13)) := by unfold FuV.call; rw [if_neg Bool.false_ne_true, if_neg hd0, if_pos rfl, if_pos hx]; show ((⟨p, tick s, tick d, false⟩ : FuV), (13 : Int)) = _; rw [tick0 hx, tickp hd]
          unfold FuV.agg
          rw [HE.out]
          go_enter Tryz.func182, Tryz.ntmps182
          go_wp2_with fail
          (try simp only [Exit.inBlock, Exit.then])
          refine bodyPost_ret (ret_rf2 rfl _ _ (w.heap.size + 1) ⟨p, -1, d - 1, false⟩ rfl (blk_two _ _ _ _)) rfl ?_
          exact ⟨rfl, ex_two _ _ _⟩
        · have d2 : decide (s = 0) = false := decide_eq_false (by omega)
          have hx0 : ¬ s = 0 := by omega
          have c2' : s - 1 < -1 := by omega
          have HE : Hid ((FuV.call ⟨p, s, d, false⟩ true) = (⟨p, -1, d - 1, false⟩, 0)) := by unfold FuV.call; rw [if_neg Bool.false_ne_true, if_neg hd0, if_pos rfl, if_neg hx0]; show ((⟨p, tick s, tick d, false⟩ : FuV), (0 : Int)) = _; rw [tickm hx, tickp hd]
          unfold FuV.agg
          rw [HE.out]
          go_enter Tryz.func182, Tryz.ntmps182
          go_wp2_with fail
          (try simp only [Exit.inBlock, Exit.then])
          refine bodyPost_ret (ret_rf2 rfl _ _ (w.heap.size + 1) ⟨p, -1, d - 1, false⟩ rfl (blk_two _ _ _ _)) rfl ?_
          exact ⟨rfl, ex_two _ _ _⟩
        · have d2 : decide (s = 0) = false := decide_eq_false (by omega)
          have hx0 : ¬ s = 0 := by omega
          have c2' : ¬ (s - 1 < -1) := by omega
          have HE : Hid ((FuV.call ⟨p, s, d, false⟩ true) = (⟨p, s - 1, d - 1, false⟩, 0)) := by unfold FuV.call; rw [if_neg Bool.false_ne_true, if_neg hd0, if_pos rfl, if_neg hx0]; show ((⟨p, tick s, tick d, false⟩ : FuV), (0 : Int)) = _; rw [tickp hx, tickp hd]
          unfold FuV.agg
          rw [HE.out]
          go_enter Tryz.func182, Tryz.ntmps182
          go_wp2_with fail
          (try simp only [Exit.inBlock, Exit.then])
          refine bodyPost_ret (ret_rf2 rfl _ _ (w.heap.size + 1) ⟨p, s - 1, d - 1, false⟩ rfl (blk_two _ _ _ _)) rfl ?_
          exact ⟨rfl, ex_two _ _ _⟩
  · have hz : True := trivial
    have HE : Hid ((FuV.call ⟨p, s, d, true⟩ b) = (⟨p, s, d, true⟩, 14)) := by unfold FuV.call; rw [if_pos rfl]; exact rfl
    unfold FuV.agg
    rw [HE.out]
    go_enter Tryz.func182, Tryz.ntmps182
    go_wp2_with fail
    (try simp only [Exit.inBlock, Exit.then])
    refine bodyPost_ret (ret_rf2 rfl _ _ (w.heap.size + 1) ⟨p, s, d, true⟩ rfl (blk_two _ _ _ _)) rfl ?_
    exact ⟨rfl, ex_two _ _ _⟩
end Go.Proofs.YtomfcgeibbicoaaGreat
namespace Go.Proofs.YtomfcgeibbicoaaGreat
open Go.RowKit
theorem blk_three (w : World) (A B : Obj) (cs : List Value) (t : TypeId) : Blk (((w.alloc A).alloc B).alloc (.cells cs.toArray t)) (w.heap.size + 1 + 1) t cs := by
  have := Blk.new ((w.alloc A).alloc B) cs t
  simpa using this
theorem ex_three (w : World) (A B C : Obj) : Ex w (((w.alloc A).alloc B).alloc C) := ex_alloc (ex_two w A B) C
set_option maxHeartbeats 4000000 in
theorem rfarm_calls {w : World} (f : FuV) (k a : Int) : Calls Tryz.prog 56 #[f.agg, .agg #[.int .i64 k, .int .i64 a]] w fun e w' => e = .returned (.tuple #[(f.arm k a).1.agg, .bool (f.arm k a).2]) ∧ Ex w w' := by
  obtain ⟨p, s, d, off⟩ := f
  by_cases ha : a < 0
  · have d0 : decide (a < 0) = true := decide_eq_true ha
    have HE : Hid ((FuV.arm ⟨p, s, d, off⟩ k a) = (⟨p, s, d, off⟩, false)) := by unfold FuV.arm; rw [if_pos (.inr (.inr ha))]; exact rfl
    unfold FuV.agg
    rw [HE.out]
    go_enter Tryz.func56, Tryz.ntmps56
    go_wp2_with fail
    (try simp only [Exit.inBlock, Exit.then])
    refine bodyPost_ret (ret_rf2 rfl _ _ (w.heap.size + 1 + 1) ⟨p, s, d, off⟩ rfl (blk_three _ _ _ _ _)) rfl ?_
    exact ⟨rfl, ex_three _ _ _ _⟩
  · have d0 : decide (a < 0) = false := decide_eq_false ha
    rcases (show k = 0 ∨ k = 1 ∨ k = 2 ∨ k = 3 ∨ (k < 0 ∨ 4 ≤ k) by omega) with rfl | rfl | rfl | rfl | hk
    · have hz : True := trivial
      have HE : Hid ((FuV.arm ⟨p, s, d, off⟩ 0 a) = (⟨-1, -1, -1, off⟩, true)) := by unfold FuV.arm; rw [if_neg (by omega), if_pos rfl]; exact rfl
      unfold FuV.agg
      rw [HE.out]
      go_enter Tryz.func56, Tryz.ntmps56
      go_wp2_with fail
      (try simp only [Exit.inBlock, Exit.then])
      refine bodyPost_ret (ret_rf2 rfl _ _ (w.heap.size + 1 + 1) ⟨-1, -1, -1, off⟩ rfl (blk_three _ _ _ _ _)) rfl ?_
      exact ⟨rfl, ex_three _ _ _ _⟩
    · have hz : True := trivial
      have HE : Hid ((FuV.arm ⟨p, s, d, off⟩ 1 a) = (⟨a, s, d, off⟩, true)) := by unfold FuV.arm; rw [if_neg (by omega), if_neg (by decide), if_pos rfl]; exact rfl
      unfold FuV.agg
      rw [HE.out]
      go_enter Tryz.func56, Tryz.ntmps56
      go_wp2_with fail
      (try simp only [Exit.inBlock, Exit.then])
      refine bodyPost_ret (ret_rf2 rfl _ _ (w.heap.size + 1 + 1) ⟨a, s, d, off⟩ rfl (blk_three _ _ _ _ _)) rfl ?_
      exact ⟨rfl, ex_three _ _ _ _⟩
    · have hz : True := trivial
      have HE : Hid ((FuV.arm ⟨p, s, d, off⟩ 2 a) = (⟨p, a, d, off⟩, true)) := by unfold FuV.arm; rw [if_neg (by omega), if_neg (by decide), if_neg (by decide), if_pos rfl]; exact rfl
      unfold FuV.agg
      rw [HE.out]
      go_enter Tryz.func56, Tryz.ntmps56
      go_wp2_with fail
      (try simp only [Exit.inBlock, Exit.then])
      refine bodyPost_ret (ret_rf2 rfl _ _ (w.heap.size + 1 + 1) ⟨p, a, d, off⟩ rfl (blk_three _ _ _ _ _)) rfl ?_
      exact ⟨rfl, ex_three _ _ _ _⟩
    · have hz : True := trivial
      have HE : Hid ((FuV.arm ⟨p, s, d, off⟩ 3 a) = (⟨p, s, a, off⟩, true)) := by unfold FuV.arm; rw [if_neg (by omega), if_neg (by decide), if_neg (by decide), if_neg (by decide)]; exact rfl
      unfold FuV.agg
      rw [HE.out]
      go_enter Tryz.func56, Tryz.ntmps56
      go_wp2_with fail
      (try simp only [Exit.inBlock, Exit.then])
      refine bodyPost_ret (ret_rf2 rfl _ _ (w.heap.size + 1 + 1) ⟨p, s, a, off⟩ rfl (blk_three _ _ _ _ _)) rfl ?_
      exact ⟨rfl, ex_three _ _ _ _⟩
    · have d1 : decide (k = 0) = false := decide_eq_false (by omega)
      have d2 : decide (k = 1) = false := decide_eq_false (by omega)
      have d3 : decide (k = 2) = false := decide_eq_false (by omega)
      have d4 : decide (k = 3) = false := decide_eq_false (by omega)
      have HE : Hid ((FuV.arm ⟨p, s, d, off⟩ k a) = (⟨p, s, d, off⟩, false)) := by unfold FuV.arm; rw [if_pos (by omega)]; exact rfl
      unfold FuV.agg
      rw [HE.out]
      go_enter Tryz.func56, Tryz.ntmps56
      go_wp2_with fail
      (try simp only [Exit.inBlock, Exit.then])
      refine bodyPost_ret (ret_rf2 rfl _ _ (w.heap.size + 1 + 1) ⟨p, s, d, off⟩ rfl (blk_three _ _ _ _ _)) rfl ?_
      exact ⟨rfl, ex_three _ _ _ _⟩
end Go.Proofs.YtomfcgeibbicoaaGreat
