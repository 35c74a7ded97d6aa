/- append(v, make([]T, m)...) at a row of the call's own, one cell an element. No program is named here. -/
import Derived.Test.YtcffkmlnbnjibaaGreatOff
namespace Go.Proofs.YtcffkmlnbnjibaaGreat
open Go.RowKit
section
variable {P : Program}
theorem zc_one (z : Value) (hz : z.cells = #[z]) (m : Nat) : (Builtin.zeroCells z.cells m).toList = List.replicate m z := by
  apply List.ext_getElem?
  intro i
  rw [hz]
  by_cases h : i < m <;> simp [Builtin.zeroCells, h, Nat.mod_one]
theorem run_append_zeros_own (w : World) (base : Nat) (t ti ty e : TypeId) (i : TypeInfo) (z : Value) (bytes : Nat) (kk : IntKind) (ht : P.underlying t = some (.slice e)) (hti : P.underlying ti = some (.int kk)) (hi : P.info? e = some i) (hz : i.zero = some z)
    (hsize : i.size = 1) (hby : i.bytes = bytes) (hzc : z.cells = #[z]) (hz1 : z.oneCell' = true) (v : Value) (n : Nat) (xs : List Value) (hown : w.ownsRow base e 1 v n xs) (m : Nat) (hm : 0 < m)
    (h63 : n + m ≤ 1000000) (hb : bytes ≤ 1000000) (hbase : base ≤ w.heap.size) :
    ∃ v' w', (Builtin.append_ #[t, ti] ty #[v, .int .i64 (m : Int)]).run P w = .ok v' w' ∧ w'.ownsRow base e 1 v' (n + m) (xs ++ List.replicate m z) ∧ w.grownBy w' v.ownBlock ∧ (v'.ownBlock = v.ownBlock ∨ v'.ownBlock = some w.heap.size) := by
  subst hby
  have hlen : (xs ++ List.replicate m z).length = (n + m) * 1 := by rw [List.length_append, hown.1, List.length_replicate]; omega
  have hw : (IntKind.i64).wrap (m : Int) = m := IntWalk.i64_in _ (by omega)
  have ha : (asInt (.int .i64 (m : Int))).run P w = .ok (m : Int) w := rfl
  have h0' : ¬ ((m : Int) < 0) := by omega
  have hbm : m * i.bytes ≤ 1000000 * 1000000 := Nat.mul_le_mul (by omega) hb
  have h48' : ¬ ((281474976710656 : Int) < (m : Int) * (i.bytes : Int)) := by
    have : (m : Int) * (i.bytes : Int) = ((m * i.bytes : Nat) : Int) := by simp
    rw [this]; omega
  have h63' : ¬ ((9223372036854775807 : Int) < (n : Int) + (m : Int)) := by omega
  have hm0 : ¬ (m = 0) := by omega
  have hzcl := zc_one z hzc m
  have hzca : Builtin.zeroCells z.cells m = (List.replicate m z).toArray := by rw [← hzcl]
  have grown : ∀ (old : Nat), old < n + m → ∀ (row : Option Nat),
      (w.drew.alloc (.cells (xs ++ List.replicate m z ++ (Builtin.zeroCells z.cells (grownCap w (n + m) old e - (n + m))).toList).toArray e)).ownsRow base e 1
        (.slice (some ⟨w.heap.size, 0, none⟩) (n + m) (grownCap w (n + m) old e)) (n + m) (xs ++ List.replicate m z) ∧
      w.grownBy (w.drew.alloc (.cells (xs ++ List.replicate m z ++ (Builtin.zeroCells z.cells (grownCap w (n + m) old e - (n + m))).toList).toArray e)) row := by
    intro old ho row
    have hge := grownCap_ge w (n + m) old e
    have hcm : grownCap w (n + m) old e ≤ maxLen := grownCap_le_maxLen w (n + m) old e (by simp only [maxLen]; omega)
    have hzl := zeroCells_len z.cells (grownCap w (n + m) old e - (n + m))
    rw [hzc] at hzl
    simp only [List.size_toArray, List.length_cons, List.length_nil] at hzl
    refine ⟨own_of_blk (heap_alloc_new w.drew _) hbase hge hcm ?_ ?_, ⟨rfl, rfl, rfl, by simp, fun k hk _ => (World.grownBy_alloc w.drew _ none).block k hk (by simp)⟩⟩
    · rw [List.length_append, hlen, hzc, hzl]; omega
    · rw [← hlen]; exact List.take_left
  have hcapf : ∀ old, old < n + m → ¬ (281474976710656 < Builtin.nextslicecap (n + m) old * i.bytes) := by
    intro old ho
    have := growslice_fits (bytes := i.bytes) ho (by have := Nat.mul_le_mul h63 hb; omega)
    omega
  rcases hown.2 with ⟨rfl, rfl⟩ | ⟨g, cap, cur, rfl, hbg, hg, hnc, hcm, hcs, htake⟩
  · have hx : xs = [] := List.eq_nil_of_length_eq_zero (by simpa using hown.1)
    subst hx
    have hgr := grown 0 (by omega) (Value.ownBlock (.slice none 0 0))
    refine ⟨_, _, ?_, hgr.1, hgr.2, .inr rfl⟩
    have hc0 := hcapf 0 (by omega)
    have h64 : ¬ ((9223372036854775807 : Int) < (m : Int)) := by omega
    simp only [Nat.zero_add] at hc0 h63' ⊢
    simp [Builtin.append_, run_underlying ht, run_underlying hti, sizeOf, typeInfo, hi, hz, hsize, ha, hw, h0', h48', h64, hc0, Question.forced, Builtin.firstCells, zeroValue, newRow, grownCap, hm0, hzca, Result.andThen]
    congr 2
    apply Array.ext'
    simp
  · by_cases hroom : n + m ≤ cap
    · have hfit : n + (List.replicate m z).length ≤ cur.toList.length := by rw [List.length_replicate, Array.length_toList, hcs]; omega
      have hg' : Blk w g e cur.toList := by simpa [Blk] using hg
      have hst := run_storeCells_at P g n e (List.replicate m z) 0 cur w hg (by simpa using hfit) (fun u hu => by rw [List.eq_of_mem_replicate hu]; exact hz1)
      simp only [Nat.add_zero] at hst
      refine ⟨.slice (some ⟨g, 0, none⟩) (n + m) cap, w.setRow g (spl cur.toList n (List.replicate m z)).toArray, ?_, own_of_blk (blk_setRow hg') hbg hroom hcm ?_ ?_, grown_setRow w g _, .inl rfl⟩
      · simp [Builtin.append_, run_underlying ht, run_underlying hti, sizeOf, typeInfo, hi, hz, hsize, ha, hw, h0', h48', hroom, zeroValue, hm0, hzca, Result.andThen, add_lit0, hst, spl]
      · rw [spl_len hfit, Array.length_toList, hcs]
      · rw [Nat.mul_one]
        have h1 : (cur.toList.take n) = xs := by simpa using htake
        unfold spl
        rw [h1]
        have h2 : (xs ++ List.replicate m z).length = n + m := by rw [hlen]; omega
        rw [← h2]
        exact List.take_left
    · have holds : ∀ j u, xs[j]? = some u → w.cell? ((⟨g, 0, none⟩ : Addr).add j) = some u := hown.cells (g := g) rfl
      have hfo := run_firstCells_some (P := P) w.drew 1 n ⟨g, 0, none⟩ n cap xs hown.1 (by simpa using holds)
      have hgr := grown cap (by omega) (Value.ownBlock (.slice (some ⟨g, 0, none⟩) n cap))
      refine ⟨_, _, ?_, hgr.1, hgr.2, .inr rfl⟩
      have hc0 := hcapf cap (by omega)
      simp [Builtin.append_, run_underlying ht, run_underlying hti, sizeOf, typeInfo, hi, hz, hsize, ha, hw, h0', h48', h63', hroom, hc0, Question.forced, hfo, zeroValue, newRow, grownCap, hm0, hzca, Result.andThen]
      congr 2
      apply Array.ext'
      simp
end
end Go.Proofs.YtcffkmlnbnjibaaGreat
