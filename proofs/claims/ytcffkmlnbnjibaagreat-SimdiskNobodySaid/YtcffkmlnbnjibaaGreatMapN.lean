/- Maps from names to numbers: as lists of marks whose names rise. No program is named here. -/
import Derived.Test.YtcffkmlnbnjibaaGreatMap
import Derived.Test.YtcffkmlnbnjibaaGreatMkR
namespace Go.Proofs.YtcffkmlnbnjibaaGreat
open Go.RowKit Go.Maps
theorem before_lt : ∀ a b : List UInt8, bytesBefore a b = true ↔ a < b
  | [], [] => by simp [bytesBefore]
  | [], b :: s => by simp [bytesBefore]
  | a :: r, [] => by simp [bytesBefore]
  | a :: r, b :: s => by
    have := before_lt r s
    simp only [bytesBefore, Bool.or_eq_true, Bool.and_eq_true, decide_eq_true_eq, beq_iff_eq, List.cons_lt_cons_iff, this]
theorem before_up (a b : ByteArray) : bytesBefore a.data.toList b.data.toList = upN a b := by
  rw [Bool.eq_iff_iff, before_lt, up_iff, ByteArray.toList_eq, ByteArray.toList_eq]
/-- A name as a key. -/
def nmK (s : ByteArray) : Lit := .string s.data.toList
def enM (m : Mk) : Lit × Value := (nmK m.nm, .int .i64 m.pl)
def enL (l : List Mk) : List (Lit × Value) := l.map enM
theorem same_nm (s : ByteArray) (m : Mk) : (enM m).1.sameKey (nmK s) = nmIs s m := by
  show (m.nm.data.toList == s.data.toList) = (m.nm.toList == s.toList)
  rw [ByteArray.toList_eq, ByteArray.toList_eq]
theorem enL_has (s : ByteArray) (l : List Mk) : hasL (enL l) (nmK s) = (findM s l).2 := by
  unfold hasL enL findM
  rw [List.any_map]
  have : ((fun p : Lit × Value => p.1.sameKey (nmK s)) ∘ enM) = nmIs s := funext fun m => same_nm s m
  rw [this]
  cases h : l.find? (nmIs s) with
  | none =>
    rw [List.find?_eq_none] at h
    rw [List.any_eq_false]
    exact h
  | some m =>
    rw [List.any_eq_true]
    exact ⟨m, List.mem_of_find?_eq_some h, List.find?_some h⟩
theorem enL_get (s : ByteArray) (l : List Mk) : getL (enL l) (nmK s) (.int .i64 0) = .int .i64 (findM s l).1 := by
  unfold getL enL findM
  rw [List.find?_map]
  have : ((fun p : Lit × Value => p.1.sameKey (nmK s)) ∘ enM) = nmIs s := funext fun m => same_nm s m
  rw [this]
  cases h : l.find? (nmIs s) with
  | none => rfl
  | some m => rfl
theorem enL_del (s : ByteArray) (l : List Mk) : delL (nmK s) (enL l) = enL (l.filter (nmNot s)) := by
  unfold delL enL
  rw [List.filter_map]
  congr 1
  apply List.filter_congr
  intro m _
  show (!(enM m).1.sameKey (nmK s)) = !nmIs s m
  rw [same_nm]
/-- A mark more, in its place. -/
def insM (m : Mk) : List Mk → List Mk
  | [] => [m]
  | x :: r => if upN m.nm x.nm = true then m :: x :: r else x :: insM m r
theorem enL_ins (m : Mk) : ∀ l : List Mk, insL (enM m) (enL l) = enL (insM m l)
  | [] => rfl
  | x :: r => by
    have hb : (enM m).1.before (enM x).1 = upN m.nm x.nm := before_up m.nm x.nm
    show (if (enM m).1.before (enM x).1 = true then enM m :: enM x :: enL r else enM x :: insL (enM m) (enL r)) = enL (if upN m.nm x.nm = true then m :: x :: r else x :: insM m r)
    rw [hb]
    split
    · rfl
    · rw [enL_ins m r]; rfl
theorem fold_ins (m : Mk) (r : List Mk) : ∀ l : List Mk, endI m (l.foldl (stepI m) (r, false)) = r ++ insM m l
  | [] => by simp [endI, insM]
  | x :: t => by
    rw [List.foldl_cons, insM]
    cases h : upN m.nm x.nm
    · rw [show stepI m (r, false) x = (r ++ [x], false) from by unfold stepI; rw [h]; rfl, fold_ins m (r ++ [x]) t]
      simp
    · rw [show stepI m (r, false) x = (r ++ [m] ++ [x], true) from by unfold stepI; rw [h]; rfl, fold_post]
      simp [endI]
theorem fold_ins0 (m : Mk) (l : List Mk) : endI m (foldI m l) = insM m l := by
  unfold foldI
  rw [fold_ins]; rfl
/-- A mark more, or elsewhere. -/
def putM (m : Mk) (l : List Mk) : List Mk := insM m (l.filter (nmNot m.nm))
theorem enL_put (m : Mk) (l : List Mk) : stoL (nmK m.nm) (.int .i64 m.pl) (enL l) = enL (putM m l) := by
  unfold stoL putM
  rw [enL_del, ← enL_ins]; rfl
theorem insM_len (m : Mk) : ∀ l : List Mk, (insM m l).length = l.length + 1
  | [] => rfl
  | x :: r => by
    unfold insM
    split
    · rfl
    · simp [insM_len m r]
theorem insM_mem (m x : Mk) : ∀ l : List Mk, x ∈ insM m l ↔ x = m ∨ x ∈ l
  | [] => by simp [insM]
  | y :: r => by
    unfold insM
    split
    · simp
    · rw [List.mem_cons, insM_mem m x r, List.mem_cons]
      constructor
      · rintro (h | h | h)
        · exact .inr (.inl h)
        · exact .inl h
        · exact .inr (.inr h)
      · rintro (h | h | h)
        · exact .inr (.inl h)
        · exact .inl h
        · exact .inr (.inr h)
theorem putM_len (m : Mk) (l : List Mk) : (putM m l).length ≤ l.length + 1 := by
  unfold putM
  rw [insM_len]
  have := List.length_filter_le (nmNot m.nm) l
  omega
theorem filt_none {s : ByteArray} {l : List Mk} (h : (findM s l).2 = false) : l.filter (nmNot s) = l := by
  rw [List.filter_eq_self]
  intro m hm
  unfold nmNot
  cases hq : nmIs s m
  · rfl
  · exfalso
    unfold findM at h
    cases hf : l.find? (nmIs s) with
    | none => rw [List.find?_eq_none] at hf; exact hf m hm hq
    | some x => rw [hf] at h; cases h
end Go.Proofs.YtcffkmlnbnjibaaGreat
