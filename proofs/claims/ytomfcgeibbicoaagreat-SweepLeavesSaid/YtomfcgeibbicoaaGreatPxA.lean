/- Loaded disks, and lists of files. -/
import Derived.Test.YtomfcgeibbicoaaGreatRfO
import Derived.Test.YtomfcgeibbicoaaGreatLxA
namespace Go.Proofs.YtomfcgeibbicoaaGreat
open Go.RowKit Go.Maps
/-- Few files, none of them long. -/
def fewB (n d : Nat) (l : List FlV) : Bool := decide (l.length ≤ n) && l.all fun f => decide (f.dt.size ≤ d)
theorem fewB_len {n d : Nat} {l : List FlV} (h : fewB n d l = true) : l.length ≤ n := of_decide_eq_true (Bool.and_eq_true_iff.1 h).1
theorem fewB_dt {n d : Nat} {l : List FlV} (h : fewB n d l = true) {f : FlV} (hf : f ∈ l) : f.dt.size ≤ d := of_decide_eq_true (List.all_eq_true.1 (Bool.and_eq_true_iff.1 h).2 f hf)
theorem load_some {n : Int} {l : List FlV} {Q : DkV} {c : Int} (h : DkV.load n l = (some Q, c)) : c = 0 := by
  unfold DkV.load at h
  split at h
  · cases h
  · split at h
    · cases h
    · split at h
      · cases h
      · split at h <;> cases h
        rfl
theorem load_ok {n : Int} {l : List FlV} {Q : DkV} {c : Int} (hl : ∀ f ∈ l, f.nm.size ≤ 9223372036854775807 ∧ f.dt.size ≤ 131072) (h : DkV.load n l = (some Q, c)) : Q.Ok l.length := by
  unfold DkV.load at h
  split at h
  · cases h
  · rename_i hn
    split at h
    · cases h
    · rename_i h64
      split at h
      · cases h
      · split at h <;> cases h
        have h0 := loadL_ok hl (fresh_ok (n := n) (by omega) (by omega)) (by omega)
        rw [Nat.zero_add] at h0
        exact ⟨FoV.Ok.settle h0.fo (Nat.le_refl _), h0.fu, h0.s1, h0.s2, h0.tl, h0.cl, h0.tz⟩
end Go.Proofs.YtomfcgeibbicoaaGreat
