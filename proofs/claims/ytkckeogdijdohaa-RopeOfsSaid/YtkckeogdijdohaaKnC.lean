/- Walks: Leaf, even, group, Join. -/
import Derived.Test.YtkckeogdijdohaaKnB
namespace Go.Proofs.Ytkckeogdijdohaa
open Go.RowKit
def kc (h : Int) (c : C3) (s : ByteArray) (A : Option Addr) (n cap : Nat) : List Value := [.int .i64 h, .int .i64 c.b, .int .i64 c.r, .int .i64 c.l, .string s, .slice A n cap]
theorem Nd.of_blk {w : World} {g h : Nat} {c : C3} {s : ByteArray} {A : Option Addr} {n cap : Nat} {t : TypeId} (x : Blk w g t (kc (h : Int) c s A n cap)) : Nd w g h c s A n cap :=
  ⟨by rw [x.cell]; rfl, by rw [x.cell]; rfl, by rw [x.cell]; rfl, by rw [x.cell]; rfl, by rw [x.cell]; rfl, by rw [x.cell]; rfl⟩
/-- What Leaf and Join hand back. -/
def NodeP (h : Nat) (cs : List ByteArray) (w : World) (e : Ending) (w' : World) : Prop := ∃ v, e = .returned v ∧ Kn h w' v cs ∧ Ex w w'
/-- What Leaf hands back, and where it lies. -/
def LeafP (cs : List ByteArray) (w : World) (e : Ending) (w' : World) : Prop := ∃ g, e = .returned (.pointer (some ⟨g, 0, none⟩)) ∧ w.heap.size ≤ g ∧ Kn 0 w' (.pointer (some ⟨g, 0, none⟩)) cs ∧ Ex w w'
set_option maxHeartbeats 400000 in
theorem leaf_calls (s : ByteArray) (w : World) (hf : fitsB s = true) : Calls Try.prog 34 #[.string s] w (LeafP [s] w) := by
  have h16 := fitsB_iff.1 hf
  obtain ⟨h1, h2, -⟩ := h16
  have HF := Lib.hid hf
  have hz : s.size ≤ 100000 := by omega
  clear hf
  go_enter Try.func34, Try.ntmps34
  go_wp2_with fail
  refine (fits_calls _ _ (by omega)).mono ?_
  rintro e w1 ⟨rfl, hb1⟩
  rw [HF.out]
  go_wp2_with fail
  refine (tallyOf_calls _ _ hz).mono ?_
  rintro e w2 ⟨rfl, hb2⟩
  have HT := Lib.hid (show tally (flat [s]) = tally s from by rw [flat_one])
  generalize tally s = c at HT
  unfold C3.agg
  go_wp2_with fail
  go_ret
  refine ⟨w2.heap.size, rfl, (hb1.trans hb2).size, ⟨_, s, rfl, rfl, HF.out, ?_⟩, ex_alloc (hb1.trans hb2) _⟩
  rw [HT.out]
  exact Nd.of_blk (t := 81) (Blk.new w2 (kc 0 c s none 0 0) 81)
theorem leaf_not (s : ByteArray) (w : World) (hs : s.size ≤ 9223372036854775000) (hf : fitsB s = false) : Calls Try.prog 34 #[.string s] w fun e w' => e = .returned (.pointer none) ∧ Ex w w' := by
  go_enter Try.func34, Try.ntmps34
  go_wp2_with fail
  refine (fits_calls _ _ hs).mono ?_
  rintro e w1 ⟨rfl, hb1⟩
  rw [hf]
  go_wp2_with fail
  go_ret
  exact ⟨rfl, hb1⟩
set_option maxRecDepth 100000 in
set_option maxHeartbeats 1000000 in
theorem even_calls {h : Nat} (ks : Kids) (A : Option Addr) (cap : Nat) (w : World) (hn : ks.length ≤ 100000) (hr : Row w 1 A ks.length ks.vs) (hk : ∀ k ∈ ks, Kn h w k.1 k.2) : Calls Try.prog 64 #[.slice A ks.length cap] w fun e w' => e = .returned (.bool true) ∧ Ex w w' := by
  have HR := Lib.hid hr
  have HK := Lib.hid hk
  clear hr hk
  go_enter Try.func64, Try.ntmps64
  go_wp2_with fail
  go_loopw [4, 7] (fun _ v7 wr => ∃ k : Nat, k ≤ ks.length ∧ v7 = .int .i64 (k : Int) ∧ Ex w wr) (fun _ v7 _ => ks.length - (intOf v7).toNat)
  case atStart => exact ⟨0, by omega, rfl, Ex.refl _⟩
  case round =>
    obtain ⟨k, hk, rfl, hb⟩ := hrel
    by_cases hlt : k < ks.length
    · obtain ⟨b, o, rfl, hc⟩ := (HR.out.ex hb).kid hlt
      obtain ⟨b', o', he, hc'⟩ := (HR.out.ex hb).kid (k := 0) (by omega)
      injection he with he
      injection he with he1 he2
      subst he1; subst he2
      rw [Nat.add_zero] at hc'
      have h0 := (HK.out ks[k] (List.getElem_mem hlt)).ex hb
      have h1 := (HK.out ks[0] (List.getElem_mem (by omega))).ex hb
      generalize ks[k] = q at hc h0
      generalize ks[0] = q' at hc' h1
      obtain ⟨qv, qc⟩ := q
      obtain ⟨qv', qc'⟩ := q'
      have H0 := Lib.hid h0
      obtain ⟨g, s, A1, n1, cap1, e1, hn1, -, -⟩ := h0.nd
      obtain ⟨g', s', A2, n2, cap2, e2, hn2, -, -⟩ := h1.nd
      simp only [] at e1 e2
      subst e1; subst e2
      have q1 := Wd.cell hn1.c0
      have q2 := Wd.cell hn2.c0
      have q3 := Wd.cell hc
      have q4 := Wd.cell hc'
      have hl0 : (0 : Int) < (ks.length : Int) := by omega
      clear h0 h1 hn1 hn2
      have hc : wr.cell? ⟨b, o + k, none⟩ = some (.pointer (some ⟨g, 0, none⟩)) := hc
      have q4 : ∀ x : Wd wr, x.v.cell? ⟨b, o, none⟩ = some (.pointer (some ⟨g', 0, none⟩)) := q4
      clear q3 hc'
      go_wp2_with fail
      refine wp_region_calm (by kernel_rfl) (by kernel_rfl) ?_
      repeat (go_big_quiet_step ((go_at_call 69; exact calm_same (none_calls _ (H0.out.ex (Wd.ex _))))))
      refine wpQuiet_nil ?_
      intro w2 hX
      replace hX := calm_world hX
      go_wp2_with fail
      go_roundw
      case rel => exact ⟨k + 1, by omega, by go_num, hb.trans hX⟩
      case measure => simp [intOf]; omega
    · go_wp2_with fail
      go_ret
      exact ⟨rfl, hb⟩
end Go.Proofs.Ytkckeogdijdohaa
