/- Plain: what is left of a text, sector by sector. -/
import Derived.Test.YtcffkmlnbnjibaaGreatPcC
namespace Go.Proofs.YtcffkmlnbnjibaaGreat
open Go.RowKit
/-- What is laid where a sector is unlike. -/
def pickS (old now ch : ByteArray) (u k : Nat) : ByteArray := if chS ch u = 1 then secS now k else if chS ch u = 2 then zeroS (secS now k).size else secS old k
def mixStep (old now ch : ByteArray) (st : ByteArray × Nat) (k : Nat) : ByteArray × Nat :=
  if unS old now k = true then (layS st.1 k (pickS old now ch st.2 k), st.2 + 1) else (layS st.1 k (secS old k), st.2)
def mixTo (old now ch : ByteArray) (k : Nat) : ByteArray × Nat := (List.range k).foldl (mixStep old now ch) (⟨#[]⟩, 0)
/-- What is left when the power goes, and how many sectors were unlike. -/
def mixS (old now ch : ByteArray) : ByteArray × Nat := mixTo old now ch (cntS (max old.size now.size))
theorem mixTo_succ (old now ch : ByteArray) (k : Nat) : mixTo old now ch (k + 1) = mixStep old now ch (mixTo old now ch k) k := by
  unfold mixTo
  rw [List.range_succ, List.foldl_append]
  rfl
theorem sec_size (s : ByteArray) (k : Nat) : (secS s k).size ≤ 32 := by unfold secS; rw [ByteArray.size_extract]; omega
theorem pick_size (old now ch : ByteArray) (u k : Nat) : (pickS old now ch u k).size ≤ 32 := by
  unfold pickS
  split
  · exact sec_size _ _
  · split
    · rw [zeroS_size]; exact sec_size _ _
    · exact sec_size _ _
theorem lay_size {o s : ByteArray} {k : Nat} (h : o.size ≤ 32 * k) (hs : s.size ≤ 32) : (layS o k s).size ≤ 32 * (k + 1) := by
  unfold layS
  split
  · omega
  · rw [ByteArray.size_append, ByteArray.size_append, zeroS_size]; omega
theorem mixTo_size (old now ch : ByteArray) (k : Nat) : (mixTo old now ch k).1.size ≤ 32 * k := by
  induction k with
  | zero => exact Nat.le_refl _
  | succ k ih =>
    rw [mixTo_succ]
    unfold mixStep
    split
    · exact lay_size ih (pick_size _ _ _ _ _)
    · exact lay_size ih (sec_size _ _)
theorem mixTo_used (old now ch : ByteArray) (k : Nat) : (mixTo old now ch k).2 = ((List.range k).filter (unS old now)).length := by
  induction k with
  | zero => rfl
  | succ k ih =>
    rw [mixTo_succ, List.range_succ, List.filter_append, List.length_append, ← ih]
    unfold mixStep
    split
    · rename_i h; rw [List.filter_cons_of_pos h]; rfl
    · rename_i h; rw [List.filter_cons_of_neg h]; rfl
theorem un_split (p : Nat → Bool) {k N : Nat} (h : k < N) : ((List.range N).filter p)[((List.range k).filter p).length]? = (((List.range (N - k)).map (k + ·)).filter p)[0]? := by
  rw [show List.range N = List.range k ++ (List.range (N - k)).map (k + ·) by rw [← List.range_add]; congr 1; omega, List.filter_append, List.getElem?_append_right (Nat.le_refl _), Nat.sub_self]
theorem un_pos {p : Nat → Bool} {k N : Nat} (h : k < N) (hp : p k = true) : ((List.range N).filter p)[((List.range k).filter p).length]? = some k := by
  rw [un_split p h]
  obtain ⟨j, hj⟩ : ∃ j, N - k = j + 1 := ⟨N - k - 1, by omega⟩
  rw [hj, List.range_succ_eq_map, List.map_cons, Nat.add_zero, List.filter_cons_of_pos hp]
  rfl
theorem un_neg {p : Nat → Bool} {k N m : Nat} (h : k < N) (hp : p k = false) (hm : ((List.range N).filter p)[((List.range k).filter p).length]? = some m) : m ≠ k := by
  rintro rfl
  have := List.mem_of_getElem? hm
  rw [List.mem_filter] at this
  rw [hp] at this
  cases this.2
end Go.Proofs.YtcffkmlnbnjibaaGreat
