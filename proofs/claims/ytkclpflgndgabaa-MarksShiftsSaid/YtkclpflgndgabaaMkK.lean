/- Walk: the page's example, which each statement over marks ends in. -/
import Derived.Test.YtkclpflgndgabaaMkJ
import Derived.KernelRfl
namespace Go.Proofs.Ytkclpflgndgabaa
open Go.RowKit
def mA : Mk := ⟨⟨#[97]⟩, 1⟩
def mB : Mk := ⟨⟨#[98]⟩, 3⟩
def mC : Mk := ⟨⟨#[99]⟩, 2⟩
theorem set_lives : setM [mA, mC] mB = ([mA, mB, mC], 0) := by kernel_rfl
set_option maxHeartbeats 400000 in
theorem lives_calls (w : World) : Calls Try.prog 9 #[] w fun e w' => e = .returned (.bool true) ∧ Ex w w' := by
  have hr : Row (w.alloc (.cells #[.string ⟨#[97]⟩, .int .i64 1, .string ⟨#[99]⟩, .int .i64 2] 24)) 2 (some ⟨w.heap.size, 0, none⟩) 2 (Mk.cs [mA, mC]) :=
    (show Blk _ _ 24 (Mk.cs [mA, mC]) from heap_alloc_new w _).row (k := 2) (n := 2) (Nat.le_refl _)
  have Hr := Lib.hid hr
  clear hr
  go_enter Try.func9, Try.ntmps9
  go_wp2_with fail
  refine (set_calls (some ⟨w.heap.size, 0, none⟩) 2 2 [mA, mC] mB _ (by omega) (by decide) Hr.out (by simp)).mono ?_
  rintro e w1 ⟨v, rfl, ho, hb⟩
  rw [set_lives] at ho ⊢
  have hX : Ex w w1 := (ex_alloc (Ex.refl w) _).trans hb
  obtain ⟨A, c, rfl, _⟩ := own_shape ho
  have hrow := Row.of_own ho
  obtain ⟨b, o, rfl, c1, _⟩ := hrow.mk (i := 1) (by decide)
  obtain ⟨b', o', e, c2, _⟩ := hrow.mk (i := 2) (by decide)
  injection e with e
  injection e with e1 e2 _
  subst e1; subst e2
  have d1 : w1.cell? ⟨b, o + 2, none⟩ = some (.string ⟨#[98]⟩) := c1
  have d2 : w1.cell? ⟨b, o + 4, none⟩ = some (.string ⟨#[99]⟩) := c2
  have e1 : ((⟨#[98]⟩ : ByteArray).toList == [98]) = true := by kernel_rfl
  have e2 : ((⟨#[99]⟩ : ByteArray).toList == [99]) = true := by kernel_rfl
  clear c1 c2
  go_wp2
  go_ret
  exact ⟨rfl, hX⟩
end Go.Proofs.Ytkclpflgndgabaa
