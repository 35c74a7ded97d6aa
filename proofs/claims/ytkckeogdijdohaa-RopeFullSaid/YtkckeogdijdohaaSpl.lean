/- Lists of chunks, cut at a place. Plain Lean. -/
import Derived.Test.YtkckeogdijdohaaWdB
namespace Go.Proofs.Ytkckeogdijdohaa
open Go.RowKit
def ctL : List ByteArray → Int → List ByteArray
  | [], _ => []
  | c :: cs, p => if (c.size : Int) ≤ p then c :: ctL cs (p - c.size) else if p ≤ 0 then [] else [c.extract 0 p.toNat]
def ctR : List ByteArray → Int → List ByteArray
  | [], _ => []
  | c :: cs, p => if (c.size : Int) ≤ p then ctR cs (p - c.size) else if p ≤ 0 then c :: cs else c.extract p.toNat c.size :: cs
/-- The place is an edge of the chunk in which it lies. -/
def okAt : List ByteArray → Int → Prop
  | [], _ => True
  | c :: cs, p => if (c.size : Int) ≤ p then okAt cs (p - c.size) else p ≤ 0 ∨ edge c p = true
theorem ct_neg {cs : List ByteArray} {p : Int} (h : p < 0) : ctL cs p = [] ∧ ctR cs p = cs := by
  cases cs with
  | nil => exact ⟨rfl, rfl⟩
  | cons c cs => simp only [ctL, ctR]; rw [if_neg (by omega), if_pos (by omega), if_neg (by omega), if_pos (by omega)]; exact ⟨rfl, rfl⟩
theorem flat_size_cons (c : ByteArray) (cs : List ByteArray) : (flat (c :: cs)).size = c.size + (flat cs).size := by rw [flat, ByteArray.size_append]
theorem ct_app : ∀ (a b : List ByteArray) (p : Int), ctL (a ++ b) p = (if ((flat a).size : Int) ≤ p then a ++ ctL b (p - (flat a).size) else ctL a p) ∧ ctR (a ++ b) p = (if ((flat a).size : Int) ≤ p then ctR b (p - (flat a).size) else ctR a p ++ b)
  | [], b, p => by
    have e : ((flat []).size : Int) = 0 := rfl
    rw [e]
    by_cases h : 0 ≤ p
    · rw [if_pos h, if_pos h]
      simp
    · rw [if_neg h, if_neg h]
      have := ct_neg (cs := b) (p := p) (by omega)
      simp [ctL, ctR, this]
  | c :: a, b, p => by
    have ih := ct_app a b (p - c.size)
    have hs := flat_size_cons c a
    simp only [List.cons_append, ctL, ctR]
    by_cases hc : (c.size : Int) ≤ p
    · simp only [if_pos hc, ih.1, ih.2]
      by_cases h : ((flat (c :: a)).size : Int) ≤ p
      · have h' : ((flat a).size : Int) ≤ p - c.size := by omega
        have e : p - (c.size : Int) - ((flat a).size : Int) = p - ((flat (c :: a)).size : Int) := by omega
        simp only [if_pos h, if_pos h', e, and_self]
      · have h' : ¬ ((flat a).size : Int) ≤ p - c.size := by omega
        simp only [if_neg h, if_neg h', and_self]
    · have h : ¬ ((flat (c :: a)).size : Int) ≤ p := by omega
      simp only [if_neg hc, if_neg h]
      by_cases h0 : p ≤ 0
      · simp only [if_pos h0, List.cons_append, and_self]
      · simp only [if_neg h0, List.cons_append, and_self]
theorem ct_ge {cs : List ByteArray} {p : Int} (h : ((flat cs).size : Int) ≤ p) : ctL cs p = cs ∧ ctR cs p = [] := by
  have := ct_app cs [] p
  rw [if_pos h, if_pos h] at this
  simpa [ctL, ctR] using this
theorem ct_le {cs : List ByteArray} {p : Int} (hf : ∀ x ∈ cs, fitsB x = true) (h : p ≤ 0) : ctL cs p = [] ∧ ctR cs p = cs := by
  cases cs with
  | nil => exact ⟨rfl, rfl⟩
  | cons c cs =>
    have := (fitsB_iff.1 (hf c (List.mem_cons_self ..))).1
    simp only [ctL, ctR]; rw [if_neg (by omega), if_pos h, if_neg (by omega), if_pos h]; exact ⟨rfl, rfl⟩
theorem okAt_app : ∀ {a b : List ByteArray} {p : Int}, okAt (a ++ b) p → (((flat a).size : Int) ≤ p → okAt b (p - (flat a).size)) ∧ (p < (flat a).size → okAt a p)
  | [], b, p, h => ⟨fun _ => by
      have e : p - ((flat []).size : Int) = p := by show p - ((0 : Nat) : Int) = p; omega
      rw [e]; exact h, fun _ => trivial⟩
  | c :: a, b, p, h => by
    have hs := flat_size_cons c a
    simp only [List.cons_append, okAt] at h ⊢
    by_cases hc : (c.size : Int) ≤ p
    · rw [if_pos hc] at h
      rw [if_pos hc]
      have ih := okAt_app h
      refine ⟨fun h1 => ?_, fun h1 => ih.2 (by omega)⟩
      have := ih.1 (by omega)
      have e : p - (c.size : Int) - ((flat a).size : Int) = p - ((flat (c :: a)).size : Int) := by omega
      rwa [e] at this
    · rw [if_neg hc] at h
      rw [if_neg hc]
      exact ⟨fun h1 => absurd h1 (by omega), fun _ => h⟩
/-- Both sides are the text. -/
theorem ct_flat : ∀ (cs : List ByteArray) (p : Int), flat (ctL cs p) ++ flat (ctR cs p) = flat cs
  | [], _ => ba_nil_app _
  | c :: cs, p => by
    simp only [ctL, ctR]
    by_cases hc : (c.size : Int) ≤ p
    · rw [if_pos hc, if_pos hc, flat, ByteArray.append_assoc, ct_flat cs, flat]
    · rw [if_neg hc, if_neg hc]
      by_cases h0 : p ≤ 0
      · rw [if_pos h0, if_pos h0]; exact ba_nil_app _
      · rw [if_neg h0, if_neg h0, flat_one, flat, flat, ← ByteArray.append_assoc, ba_cut]
theorem ct_size : ∀ (cs : List ByteArray) (p : Nat), p ≤ (flat cs).size → (flat (ctL cs (p : Int))).size = p
  | [], p, h => by
    have h' : p ≤ 0 := h
    have : p = 0 := by omega
    subst this; rfl
  | c :: cs, p, h => by
    rw [flat_size_cons] at h
    simp only [ctL]
    by_cases hc : (c.size : Int) ≤ (p : Int)
    · rw [if_pos hc, flat_size_cons]
      have e : (p : Int) - (c.size : Int) = ((p - c.size : Nat) : Int) := by omega
      rw [e, ct_size cs (p - c.size) (by omega)]
      omega
    · rw [if_neg hc]
      by_cases h0 : (p : Int) ≤ 0
      · rw [if_pos h0]
        have : p = 0 := by omega
        subst this; rfl
      · rw [if_neg h0, flat_one, Int.toNat_natCast, ByteArray.size_extract]
        omega
theorem ct_fit : ∀ {cs : List ByteArray} {p : Int}, (∀ x ∈ cs, fitsB x = true) → okAt cs p → (∀ x ∈ ctL cs p, fitsB x = true) ∧ ∀ x ∈ ctR cs p, fitsB x = true
  | [], _, _, _ => ⟨(fun _ h => by cases h), fun _ h => by cases h⟩
  | c :: cs, p, hf, ho => by
    have hfc := hf c (List.mem_cons_self ..)
    have hft := fun x hx => hf x (List.mem_cons_of_mem _ hx)
    have h16 := fitsB_iff.1 hfc
    simp only [ctL, ctR]
    simp only [okAt] at ho
    by_cases hc : (c.size : Int) ≤ p
    · rw [if_pos hc] at ho
      rw [if_pos hc, if_pos hc]
      have ih := ct_fit hft ho
      refine ⟨fun x hx => ?_, ih.2⟩
      rcases List.mem_cons.1 hx with rfl | hx
      · exact hfc
      · exact ih.1 x hx
    · rw [if_neg hc] at ho
      rw [if_neg hc, if_neg hc]
      by_cases h0 : p ≤ 0
      · rw [if_pos h0, if_pos h0]
        exact ⟨(fun _ h => by cases h), hf⟩
      · rw [if_neg h0, if_neg h0]
        have he : edge c (p.toNat : Nat) = true := by
          rw [show ((p.toNat : Nat) : Int) = p by omega]
          exact ho.resolve_left h0
        have hv := valid_cut h16.2.2 (p := p.toNat) (by omega) he
        refine ⟨fun x hx => ?_, fun x hx => ?_⟩
        · rw [List.mem_singleton.1 hx]
          exact fitsB_iff.2 ⟨by rw [ByteArray.size_extract]; omega, by rw [ByteArray.size_extract]; omega, hv.1⟩
        · rcases List.mem_cons.1 hx with rfl | hx
          · exact fitsB_iff.2 ⟨by rw [ByteArray.size_extract]; omega, by rw [ByteArray.size_extract]; omega, hv.2⟩
          · exact hft x hx
end Go.Proofs.Ytkckeogdijdohaa
