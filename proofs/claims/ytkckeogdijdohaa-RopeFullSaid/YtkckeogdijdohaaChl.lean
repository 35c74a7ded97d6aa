/- Walks: chunk.Tight and the document's. -/
import Derived.Test.YtkckeogdijdohaaChk
import Derived.Test.YtkckeogdijdohaaLib
import Derived.Test.YtkckeogdijdohaaReg
namespace Go.Proofs.Ytkckeogdijdohaa
open Go.RowKit
/-- No two chunks behind one another are one. -/
def Tt (l : List ByteArray) : Prop := ∀ (i : Nat) (a b : ByteArray), l[i]? = some a → l[i + 1]? = some b → 16 < a.size + b.size
/-- A list of chunks as it must be. -/
def GoodL (l : List ByteArray) : Prop := (∀ x ∈ l, fitsB x = true) ∧ Tt l
theorem strs_get {l : List ByteArray} {k : Nat} (h : k < l.length) : (strs l)[k]'(by rw [strs_len]; exact h) = .string l[k] := by simp [strs]
/-- A row of texts: its k-th. -/
theorem Row.str {w : World} {A : Option Addr} {n : Nat} {l : List ByteArray} (h : Row w 1 A n (strs l)) {k : Nat} (hk : k < l.length) : ∃ b o, A = some ⟨b, o, none⟩ ∧ w.cell? ⟨b, o + k, none⟩ = some (.string l[k]) := by
  have hn := h.len1
  rw [strs_len] at hn
  obtain ⟨b, o, e, hc⟩ := h.at1 (k := k) (by omega)
  exact ⟨b, o, e, by rw [hc, strs_get hk]⟩
theorem repeat_calls (w : World) : Calls Try.prog 90 #[.string ⟨#[32]⟩, .int .i64 16] w fun e w' => (∃ s : ByteArray, s.size = 16 ∧ e = .returned (.string s)) ∧ Ex w w' := by
  refine (Any.strings_Repeat Try.lays105 Try.Builder_Extra_105 ⟨#[32]⟩ 16 w (by decide) (by decide)).mono ?_
  rintro e w' ⟨rfl, hb⟩
  exact ⟨⟨_, by decide, rfl⟩, hb⟩
set_option maxHeartbeats 400000 in
theorem tight_calls (A : Option Addr) (n c : Nat) (l : List ByteArray) (w : World) (hr : Row w 1 A n (strs l)) (hn : n ≤ 100000) (hg : GoodL l) : Calls Try.prog 71 #[.slice A n c] w fun e w' => e = .returned (.bool true) ∧ Ex w w' := by
  have hl := hr.len1
  rw [strs_len] at hl
  subst hl
  have HR := Lib.hid hr
  have HG := Lib.hid hg
  clear hr hg
  go_enter Try.func71, Try.ntmps71
  go_wp2_with fail
  refine (repeat_calls _).mono ?_
  rintro e w1 ⟨⟨s0, hs0, rfl⟩, hb1⟩
  go_wp2_with fail
  go_loopw [3, 5, 9] (fun v3 _ v9 wr => ∃ (k : Nat) (s : ByteArray), k ≤ l.length ∧ v9 = .int .i64 (k : Int) ∧ v3 = .string s ∧ s.size ≤ 16 ∧ (∀ x, l[k]? = some x → 16 < s.size + x.size) ∧ Ex w wr) (fun _ _ v9 _ => l.length - (intOf v9).toNat)
  case atStart =>
    refine ⟨0, s0, by omega, rfl, rfl, by omega, fun x hx => ?_, hb1⟩
    have := (fitsB_iff.1 (HG.out.1 x (List.mem_of_getElem? hx))).1
    omega
  case round =>
    obtain ⟨k, s, hk, rfl, rfl, hs, hnx, hb⟩ := hrel
    by_cases hlt : k < l.length
    · obtain ⟨b, o, rfl, hc⟩ := (HR.out.ex hb).str hlt
      have hx : l[k]? = some l[k] := List.getElem?_eq_getElem hlt
      have hbig := hnx _ hx
      have hfit := HG.out.1 l[k] (List.getElem_mem hlt)
      have h16 := fitsB_iff.1 hfit
      have HT := Lib.hid (show ∀ x, l[k + 1]? = some x → 16 < l[k].size + x.size from fun x h => HG.out.2 k _ _ hx h)
      have HF := Lib.hid hfit
      have hdec : decide (s.size + l[k].size ≤ 16) = false := decide_eq_false (by omega)
      clear hnx hfit hx
      generalize l[k] = x at hc hbig h16 HT HF hdec
      obtain ⟨g1, g2, _⟩ := h16
      go_wp2_with fail
      refine (fits_calls _ _ (by omega)).mono ?_
      rintro e w2 ⟨rfl, hb2⟩
      rw [HF.out]
      go_wp2_with fail
      refine (one_calls _ _ _ (by omega) (by omega)).mono ?_
      rintro e w3 ⟨rfl, rfl⟩
      rw [hdec]
      go_wp2_with fail
      go_roundw
      case rel => exact ⟨k + 1, x, by omega, by go_num, rfl, by omega, HT.out, hb.trans hb2⟩
      case measure => simp [intOf]; omega
    · go_wp2_with fail
      go_ret
      exact ⟨rfl, hb⟩
theorem refFits_true (s : ByteArray) (w : World) (hs : s.size ≤ 9223372036854775000) (h : fitsB s = true) : Calls Try.prog 72 #[.string s] w fun e w' => e = .returned (.bool true) ∧ Ex w w' := by
  rw [← h]; exact refFits_calls s w hs
set_option maxRecDepth 100000 in
set_option maxHeartbeats 1000000 in
theorem refTight_calls (A : Option Addr) (n c : Nat) (l : List ByteArray) (w : World) (hr : Row w 1 A n (strs l)) (hn : n ≤ 100000) (hg : GoodL l) : Calls Try.prog 40 #[.slice A n c] w fun e w' => e = .returned (.bool true) ∧ Ex w w' := by
  have hl := hr.len1
  rw [strs_len] at hl
  subst hl
  have HR := Lib.hid hr
  have HG := Lib.hid hg
  clear hr hg
  go_enter Try.func40, Try.ntmps40
  go_wp2_with fail
  go_loopw [3] (fun v3 wr => ∃ k : Nat, k ≤ l.length ∧ v3 = .int .i64 (k : Int) ∧ Ex w wr) (fun v3 _ => l.length - (intOf v3).toNat)
  case atStart => exact ⟨0, by omega, rfl, Ex.refl _⟩
  case round =>
    obtain ⟨k, hk, rfl, hb⟩ := hrel
    by_cases hlt : k < l.length
    · obtain ⟨b, o, rfl, hc⟩ := (HR.out.ex hb).str hlt
      have hfit := HG.out.1 l[k] (List.getElem_mem hlt)
      have h16 := fitsB_iff.1 hfit
      have HF := Lib.hid hfit
      by_cases h0 : k = 0
      · have w1' : decide (0 < (k : Int)) = false := decide_eq_false (by omega)
        have w0' : decide (0 < k) = false := decide_eq_false (by omega)
        have w2' : (0 : Int) ≤ (k : Int) := by omega
        have w3' : (k : Int) < (l.length : Int) := by omega
        clear hfit h0
        generalize l[k] = x at hc h16 HF
        obtain ⟨g1, g2, _⟩ := h16
        have q1 := Wd.cell hc
        go_wp2_with fail
        refine wp_region_calm (by kernel_rfl) (by kernel_rfl) ?_
        repeat (go_big_quiet_step ((go_at_call 72; exact calm_of (refFits_true _ _ (by omega) HF.out))))
        refine wpQuiet_nil ?_
        intro w2 hX
        replace hX := calm_world hX
        go_wp2_with fail
        go_roundw
        case rel => exact ⟨k + 1, by omega, by go_num, hb.trans hX⟩
        case measure => simp [intOf]; omega
      · obtain ⟨b', o', he, hc'⟩ := (HR.out.ex hb).str (k := k - 1) (by omega)
        injection he with he
        injection he with he1 he2
        subst he1; subst he2
        have hj : k - 1 < l.length := by omega
        have hbig := HG.out.2 (k - 1) _ _ (List.getElem?_eq_getElem hj) (by rw [show k - 1 + 1 = k by omega]; exact List.getElem?_eq_getElem hlt)
        have hj16 := fitsB_iff.1 (HG.out.1 l[k - 1] (List.getElem_mem hj))
        clear hfit
        generalize l[k] = x at hc h16 HF hbig
        generalize l[k - 1] = y at hc' hj16 hbig
        obtain ⟨g1, g2, _⟩ := h16
        obtain ⟨q1, q2, _⟩ := hj16
        have wa' : 1 ≤ k := by omega
        have wb' : (1 : Int) ≤ (k : Int) := by omega
        have wc' : k - 1 < l.length := by omega
        have wd' : 0 < k := by omega
        have w1' : decide (0 < (k : Int)) = true := decide_eq_true (by omega)
        have w0' : decide (0 < k) = true := decide_eq_true (by omega)
        have w2' : (0 : Int) ≤ (k : Int) := by omega
        have w3' : (k : Int) < (l.length : Int) := by omega
        have w4' : IntKind.i64.wrap ((k : Int) - 1) = (k : Int) - 1 := IntWalk.i64_in _ (by omega)
        have w5' : (0 : Int) ≤ (k : Int) - 1 := by omega
        have w6' : (k : Int) - 1 < (l.length : Int) := by omega
        have w7' : ((k : Int) - 1).toNat = k - 1 := by omega
        have w8' : IntKind.i64.wrap ((y.size : Int) + (x.size : Int)) = (y.size : Int) + (x.size : Int) := IntWalk.i64_in _ (by omega)
        have w9' : decide ((y.size : Int) + (x.size : Int) ≤ 16) = false := decide_eq_false (by omega)
        have q1 := Wd.cell hc
        have q2 := Wd.cell hc'
        clear h0
        go_wp2_with fail
        refine wp_region_calm (by kernel_rfl) (by kernel_rfl) ?_
        repeat (go_big_quiet_step ((go_at_call 72; exact calm_of (refFits_true _ _ (by omega) HF.out))))
        refine wpQuiet_nil ?_
        intro w2 hX
        replace hX := calm_world hX
        go_wp2_with fail
        go_roundw
        case rel => exact ⟨k + 1, by omega, by go_num, hb.trans hX⟩
        case measure => simp [intOf]; omega
    · go_wp2_with fail
      go_ret
      exact ⟨rfl, hb⟩
end Go.Proofs.Ytkckeogdijdohaa
