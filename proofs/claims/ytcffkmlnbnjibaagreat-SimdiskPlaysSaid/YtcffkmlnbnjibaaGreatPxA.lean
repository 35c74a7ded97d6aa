/- Loaded disks, and lists of files. -/
import Derived.Test.YtcffkmlnbnjibaaGreatRfO
import Derived.Test.YtcffkmlnbnjibaaGreatLxA
namespace Go.Proofs.YtcffkmlnbnjibaaGreat
open Go.RowKit Go.Maps
/-- Few files, none of them long. -/
def fewB (n d : Nat) (l : List FlV) : Bool := decide (l.length ≤ n) && l.all fun f => decide (f.dt.size ≤ d)
theorem fewB_len {n d : Nat} {l : List FlV} (h : fewB n d l = true) : l.length ≤ n := of_decide_eq_true (Bool.and_eq_true_iff.1 h).1
theorem fewB_dt {n d : Nat} {l : List FlV} (h : fewB n d l = true) {f : FlV} (hf : f ∈ l) : f.dt.size ≤ d := of_decide_eq_true (List.all_eq_true.1 (Bool.and_eq_true_iff.1 h).2 f hf)
theorem load_some {n : Int} {l : List FlV} {Q : DkV} {c : Int} (h : DkV.load n l = (some Q, c)) : c = 0 := by
  unfold DkV.load at h
  split at h
  · cases h
  · split at h
    · cases h
    · split at h
      · cases h
      · split at h <;> cases h
        rfl
theorem load_ok {n : Int} {l : List FlV} {Q : DkV} {c : Int} (hl : ∀ f ∈ l, f.nm.size ≤ 9223372036854775807 ∧ f.dt.size ≤ 131072) (h : DkV.load n l = (some Q, c)) : Q.Ok l.length := by
  unfold DkV.load at h
  split at h
  · cases h
  · rename_i hn
    split at h
    · cases h
    · rename_i h64
      split at h
      · cases h
      · split at h <;> cases h
        have h0 := loadL_ok hl (fresh_ok (n := n) (by omega) (by omega)) (by omega)
        rw [Nat.zero_add] at h0
        exact ⟨FoV.Ok.settle h0.fo (Nat.le_refl _), h0.fu, h0.s1, h0.s2, h0.tl, h0.cl, h0.tz⟩
set_option maxHeartbeats 2000000 in
set_option maxRecDepth 100000 in
theorem few35_calls (A : Option Addr) (c : Nat) (l : List FlV) (w : World) (hr : Row w 2 A l.length (l.flatMap FlV.cs)) :
    Calls Tryz.prog 32 #[.slice A l.length c] w fun e w' => e = .returned (.bool (fewB 20 300 l)) ∧ Ex w w' := by
  have HR := Lib.hid hr
  clear hr
  by_cases h20 : 20 < l.length
  · have d20 : decide ((20 : Int) < (l.length : Int)) = true := decide_eq_true (by omega)
    have hE : fewB 20 300 l = false := by unfold fewB; rw [decide_eq_false (by omega)]; rfl
    rw [hE]
    clear hE
    go_enter Tryz.func32, Tryz.ntmps32
    go_wp2_with fail
    go_ret
    exact ⟨rfl, Ex.refl w⟩
  have d20 : decide ((20 : Int) < (l.length : Int)) = false := decide_eq_false (by omega)
  obtain ⟨r, hr⟩ : ∃ r, fewB 20 300 l = r := ⟨_, rfl⟩
  have HRR := Lib.hid hr
  rw [hr]
  clear hr
  go_enter Tryz.func32, Tryz.ntmps32
  go_wp2_with fail
  go_loopw [3] (fun v wr => wr = w ∧ ∃ k : Nat, k ≤ l.length ∧ v = .int .i64 (k : Int) ∧ ∀ f ∈ l.take k, f.dt.size ≤ 300) (fun v _ => l.length - (intOf v).toNat)
  case atStart => exact ⟨rfl, 0, Nat.zero_le _, rfl, fun f hf => by rw [List.take_zero] at hf; cases hf⟩
  case round =>
    obtain ⟨rfl, k, hk, rfl, hall⟩ := hrel
    have HALL := Lib.hid hall
    clear hall
    by_cases hlt : k < l.length
    · obtain ⟨fb, fo, rfl, c1, c2⟩ := HR.out.fl hlt
      obtain ⟨f, hf⟩ : ∃ f, l[k] = f := ⟨_, rfl⟩
      have hfg : l[k]? = some f := by rw [← hf]; exact List.getElem?_eq_getElem hlt
      have HFG := Lib.hid hfg
      rw [hf] at c1 c2
      clear hf hfg
      have hkI : (k : Int) < (l.length : Int) := by omega
      have hk0 : (0 : Int) ≤ (k : Int) := by omega
      have hkn : ((k : Int)).toNat = k := by omega
      obtain ⟨nm, dt⟩ := f
      simp only at c1 c2
      by_cases h3 : 300 < dt.size
      · have d3 : decide ((300 : Int) < (dt.size : Int)) = true := decide_eq_true (by omega)
        go_wp2_with fail
        go_ret
        refine ⟨?_, Ex.refl _⟩
        rw [← HRR.out, show fewB 20 300 l = false from by
          unfold fewB
          rw [Bool.and_eq_false_iff]
          refine .inr (Bool.eq_false_iff.2 fun h => ?_)
          have := List.all_eq_true.1 h _ (List.mem_of_getElem? HFG.out)
          simp only [decide_eq_true_eq] at this
          omega]
        rfl
      · have d3 : decide ((300 : Int) < (dt.size : Int)) = false := decide_eq_false (by omega)
        go_wp2_with fail
        exact ⟨⟨(by first | rfl | trivial), k + 1, by omega, by go_num, fun f hf => by
          rw [List.take_add_one, HFG.out] at hf
          rcases List.mem_append.1 hf with hf | hf
          · exact HALL.out f hf
          · rw [Option.toList_some, List.mem_singleton] at hf
            subst hf
            exact Nat.le_of_not_lt h3⟩, by simp [intOf]; omega⟩
    · have hkl : k = l.length := by omega
      subst hkl
      go_wp2_with fail
      go_ret
      refine ⟨?_, Ex.refl _⟩
      rw [← HRR.out, show fewB 20 300 l = true from by
        unfold fewB
        rw [decide_eq_true (by omega : l.length ≤ 20), Bool.true_and]
        refine List.all_eq_true.2 fun f hf => decide_eq_true ?_
        have := HALL.out f (by rw [List.take_length]; exact hf)
        exact this]
      rfl
set_option maxHeartbeats 2000000 in
set_option maxRecDepth 100000 in
theorem files35_calls {A B : Option Addr} {c d : Nat} {l : List FlV} {w : World} (hr : Row w 2 A l.length (l.flatMap FlV.cs)) (hs : Row w 2 B l.length (l.flatMap FlV.cs)) (hlm0 : l.length ≤ 1000000000) :
    Calls Tryz.prog 37 #[.slice A l.length c, .slice B l.length d] w fun e w' => e = .returned (.bool true) ∧ Ex w w' := by
  have HR := Lib.hid hr
  have HS := Lib.hid hs
  clear hr hs
  go_enter Tryz.func37, Tryz.ntmps37
  go_wp2_with fail
  go_loopw [5] (fun v wr => Ex w wr ∧ ∃ k : Nat, k ≤ l.length ∧ v = .int .i64 (k : Int)) (fun v _ => l.length - (intOf v).toNat)
  case atStart => exact ⟨Ex.refl w, 0, Nat.zero_le _, rfl⟩
  case round =>
    obtain ⟨hbr, k, hk, rfl⟩ := hrel
    have HBr := Lib.hid hbr
    by_cases hlt : k < l.length
    · obtain ⟨fb, fo, rfl, c1, c2⟩ := HR.out.fl hlt
      obtain ⟨gb, go, rfl, c3, c4⟩ := HS.out.fl hlt
      have x1 := hbr.cell c1
      have x2 := hbr.cell c2
      have x3 := hbr.cell c3
      have x4 := hbr.cell c4
      have hkI : (k : Int) < (l.length : Int) := by omega
      have hk0 : (0 : Int) ≤ (k : Int) := by omega
      have hkn : ((k : Int)).toNat = k := by omega
      have hlm : l.length ≤ 1000000000 := hlm0
      have hkw : IntKind.i64.wrap ((k : Int) + 1) = (k : Int) + 1 := IntWalk.i64_in _ (by omega)
      clear c1 c2 c3 c4 hbr
      generalize l[k] = f at *
      obtain ⟨nm, dt⟩ := f
      simp only at x1 x2 x3 x4
      go_wp2_with fail
      go_region_held3 (fun w' => w'.cell? ⟨fb, fo + k * 2, none⟩ = some (.string nm) ∧ w'.cell? ⟨fb, fo + k * 2 + 1, none⟩ = some (.string dt) ∧ w'.cell? ⟨gb, go + k * 2, none⟩ = some (.string nm) ∧ w'.cell? ⟨gb, go + k * 2 + 1, none⟩ = some (.string dt)) (go_keep) (fail)
      all_goals go_wp2_with fail
      all_goals exact ⟨⟨HBr.out.drew, k + 1, by omega, by go_num⟩, by simp [intOf]; omega⟩
    · have hkl : k = l.length := by omega
      subst hkl
      go_wp2_with fail
      go_ret
      exact ⟨rfl, HBr.out⟩
end Go.Proofs.YtcffkmlnbnjibaaGreat
