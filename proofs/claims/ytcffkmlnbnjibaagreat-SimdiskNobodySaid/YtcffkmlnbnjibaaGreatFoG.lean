/- Walks: a folder's numbers. -/
import Derived.Test.YtcffkmlnbnjibaaGreatFoF
import Derived.Test.YtcffkmlnbnjibaaGreatIds
namespace Go.Proofs.YtcffkmlnbnjibaaGreat
open Go.RowKit Go.Maps Go.Sort Go.Shelf
/-- All lists of names: what lasts, then what it is behind each change that waits. -/
def scanC : List Mk → List Chg → List (List Mk)
  | l, [] => [l]
  | l, c :: r => l :: scanC (c.ap l) r
def FoV.lists (q : FoV) : List (List Mk) := scanC q.kept q.ch
/-- All numbers that can be there still. -/
def FoV.ids (q : FoV) : List Int := setI (q.lists.flatMap fun l => l.map Mk.pl)
theorem scan_mem (x : Int) : ∀ (ch : List Chg) (l : List Mk), (∃ L ∈ scanC l ch, ∃ m ∈ L, m.pl = x) ↔ (∃ m ∈ l, m.pl = x) ∨ ∃ c ∈ ch, c.pu = true ∧ c.id = x
  | [], l => by simp [scanC]
  | c :: r, l => by
    unfold scanC
    constructor
    · rintro ⟨L, hL, m, hm, hx⟩
      rcases List.mem_cons.1 hL with rfl | hL
      · exact .inl ⟨m, hm, hx⟩
      · rcases (scan_mem x r (c.ap l)).1 ⟨L, hL, m, hm, hx⟩ with ⟨m', hm', hx'⟩ | ⟨c', hc', h1, h2⟩
        · have := ap_all (P := fun m => (m ∈ l) ∨ (c.pu = true ∧ m.pl = c.id)) (c := c) (fun hp => .inr ⟨hp, rfl⟩) (l := l) (fun m h => .inl h) m' hm'
          rcases this with h | ⟨h1, h2⟩
          · exact .inl ⟨m', h, hx'⟩
          · exact .inr ⟨c, by simp, h1, by rw [← h2]; exact hx'⟩
        · exact .inr ⟨c', by simp [hc'], h1, h2⟩
    · rintro (⟨m, hm, hx⟩ | ⟨c', hc', h1, h2⟩)
      · exact ⟨l, by simp, m, hm, hx⟩
      · rcases List.mem_cons.1 hc' with rfl | hc'
        · have hin : (⟨c'.come, c'.id⟩ : Mk) ∈ c'.ap l := by
            unfold Chg.ap Chg.p
            rw [if_pos h1]
            exact (insM_mem _ _ _).2 (.inl rfl)
          obtain ⟨L, hL, m, hm, hx⟩ := (scan_mem x r (c'.ap l)).2 (.inl ⟨_, hin, h2⟩)
          exact ⟨L, by simp [hL], m, hm, hx⟩
        · obtain ⟨L, hL, m, hm, hx⟩ := (scan_mem x r (c.ap l)).2 (.inr ⟨c', hc', h1, h2⟩)
          exact ⟨L, by simp [hL], m, hm, hx⟩
theorem FoV.ids_mem (q : FoV) (x : Int) : x ∈ q.ids ↔ (∃ m ∈ q.kept, m.pl = x) ∨ ∃ c ∈ q.ch, c.pu = true ∧ c.id = x := by
  unfold ids
  rw [setI_mem, List.mem_flatMap, ← scan_mem x q.ch q.kept]
  constructor
  · rintro ⟨L, hL, hx⟩
    obtain ⟨m, hm, e⟩ := List.mem_map.1 hx
    exact ⟨L, hL, m, hm, e⟩
  · rintro ⟨L, hL, m, hm, e⟩
    exact ⟨L, hL, List.mem_map.2 ⟨m, hm, e⟩⟩
theorem FoV.ids_up (q : FoV) : Up q.ids := setI_up _
abbrev intKey : Keyed Tryz.prog 3 := int_keyed Tryz.underlying3
theorem key_int {x : Int} (h1 : -9223372036854775808 ≤ x) (h2 : x ≤ 9223372036854775807) : keyOf Tryz.prog 3 (.int .i64 x) = some (inK x) := keyOf_int_mk Tryz.underlying3 (WalkArith.wf_i64 (by omega))
theorem sortedI_calls {w : World} {b : Nat} {l : List (Lit × Value)} {S : Int → Prop} (h : MapB w Tryz.prog 3 b l) (hv : SetV l S) (hl : l.length ≤ 1000000) {L : List Int} (hL : Up L) (hS : ∀ x, x ∈ L ↔ S x) :
    Calls Tryz.prog 109 #[.func (.func 152) #[] #[.pointer (some ⟨w.heap.size, 0, none⟩)]] (w.alloc (.cells #[.map (some b)] 155)) fun e w' => ∃ v, e = .returned v ∧ w'.ownsRow w.heap.size 3 1 v L.length (L.map (Value.int .i64)) ∧ Ex w w' := by
  have hbl := h.lt
  have hsz : Maps.size (asD l) = l.length := asD_size l
  have hup := hv.up (h.rises intKey)
  have hseq : SeqGives Fence.wide 2 Tryz.prog 152 #[.pointer (some ⟨w.heap.size, 0, none⟩)] encZ (fun ss => ss.Perm (intKeys (asD l))) (Maps.size (asD l)) (w.alloc (.cells #[.map (some b)] 155)) :=
    AnyZI.keys_gives (ρ := Tryz.keysI_ren) { Tryz.keysI with } Fence.wide _ trivial rfl (by omega) w.heap.size b l.length (asD l) (R := heldV) _ (by simp) (by simp) (h.ex (ex_alloc (Ex.refl w) _))
  have cS := AnyZI.sorted_in Tryz.sortedI Fence.wide 5 trivial trivial trivial trivial rfl (by omega) (Tryz.sortsI _) (enters_of Tryz.func151 (by kernel_rfl) rfl) 152 #[.pointer (some ⟨w.heap.size, 0, none⟩)] trivial (enters_of (Tryz.func152) (by kernel_rfl) rfl) _ _ (by rw [hsz]; unfold maxLen; omega) (by rw [hsz]; omega) _ hseq
  refine (callsIn_wide.1 cS).mono ?_
  rintro e w' ⟨v, ss, rfl, hp, hrow, _, hb⟩
  refine ⟨v, rfl, ?_, (ex_alloc (Ex.refl w) _).trans hb⟩
  rw [intKeys_asD] at hp
  have hLk : l.map (fun p => Go.intOf p.1) = L := up_ext hup hL fun x => (hv.keys x).trans (hS x).symm
  rw [hLk] at hp
  have e1 : ss.mergeSort (fun x y => decide (x ≤ y)) = L := by
    have h1 := mergeSort_of_perm_i hp
    have h2 : L.mergeSort leI = L := by
      apply List.mergeSort_of_pairwise
      refine hL.imp fun {a b} h => ?_
      simp only [leI, decide_eq_true_eq]
      omega
    exact h1.trans h2
  rw [e1, hp.length_eq] at hrow
  exact own_more hrow (by simp)
end Go.Proofs.YtcffkmlnbnjibaaGreat
