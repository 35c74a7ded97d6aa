/- Walks: ropes: Of, Root, Text, Count, Len, Height, Right. -/
import Derived.Test.YtkckeogdijdohaaLwA
namespace Go.Proofs.Ytkckeogdijdohaa
open Go.RowKit
/-- The rope at v has the tree u. -/
def Ru (w : World) (v u : Value) : Prop := (v = .pointer none ∧ u = .pointer none) ∨ ∃ g, v = .pointer (some ⟨g, 0, none⟩) ∧ w.cell? ⟨g, 0, none⟩ = some u
theorem Ru.ex {w w' : World} {v u : Value} (x : Ru w v u) (hb : Ex w w') : Ru w' v u := x.imp id fun ⟨g, e, hc⟩ => ⟨g, e, hb.cell hc⟩
/-- v is a rope of just this text. -/
def Rp (w : World) (v : Value) (s : ByteArray) : Prop := ∃ u cs, Ru w v u ∧ Tr w u cs ∧ GoodL cs ∧ flat cs = s
theorem Rp.ex {w w' : World} {v : Value} {s : ByteArray} (x : Rp w v s) (hb : Ex w w') : Rp w' v s := by
  obtain ⟨u, cs, h1, h2, h3, h4⟩ := x
  exact ⟨u, cs, h1.ex hb, h2.ex hb, h3, h4⟩
theorem Rp.valid {w : World} {v : Value} {s : ByteArray} (x : Rp w v s) : validU s = true := by
  obtain ⟨u, cs, h1, h2, h3, h4⟩ := x
  rw [← h4]; exact flat_valid h3.1
theorem Rp.nil (w : World) : Rp w (.pointer none) ⟨#[]⟩ := ⟨.pointer none, [], .inl ⟨rfl, rfl⟩, .inl ⟨rfl, rfl⟩, ⟨(fun _ h => by cases h), tt_nil⟩, rfl⟩
theorem root_calls {v u : Value} (w : World) (x : Ru w v u) : Calls Try.prog 32 #[v] w fun e w' => e = .returned u ∧ w' = w := by
  rcases x with ⟨rfl, rfl⟩ | ⟨g, rfl, hc⟩
  · go_enter Try.func32, Try.ntmps32
    go_wp2_with fail
    go_ret
    exact ⟨rfl, rfl⟩
  · go_enter Try.func32, Try.ntmps32
    go_wp2_with fail
    go_ret
    exact ⟨rfl, rfl⟩
theorem rtext_calls {v : Value} (s : ByteArray) (w : World) (x : Rp w v s) (hs : s.size ≤ 100000) : Calls Try.prog 30 #[v] w fun e w' => e = .returned (.string s) ∧ Ex w w' := by
  obtain ⟨u, cs, h1, h2, h3, h4⟩ := x
  have H1 := Lib.hid h1
  have H2 := Lib.hid h2
  have H4 := Lib.hid h4
  clear h1 h2 h3 h4
  go_enter Try.func30, Try.ntmps30
  go_wp2_with fail
  refine (root_calls _ H1.out).mono ?_
  rintro e w1 ⟨rfl, rfl⟩
  go_wp2_with fail
  refine (text_at s _ H2.out H4.out hs).mono ?_
  rintro e w2 ⟨rfl, hb2⟩
  go_wp2_with fail
  go_ret
  exact ⟨rfl, hb2⟩
theorem count_tr {v : Value} {cs : List ByteArray} (s : ByteArray) (w : World) (x : Tr w v cs) (he : flat cs = s) : Calls Try.prog 47 #[v] w fun e w' => e = .returned (tally s).agg ∧ Ex w w' := by
  subst he
  rcases x with ⟨rfl, rfl⟩ | ⟨h, x⟩
  · exact count_nil w
  · exact count_calls w x
set_option maxHeartbeats 400000 in
theorem rcount_calls {v : Value} (s : ByteArray) (w : World) (x : Rp w v s) : Calls Try.prog 52 #[v] w fun e w' => e = .returned (tally s).agg ∧ Ex w w' := by
  have hX := ex_alloc (Ex.refl w) (.cells C3.zero.cs.toArray 67)
  obtain ⟨u, cs, h1, h2, h3, h4⟩ := x
  have H1 := Lib.hid (h1.ex hX)
  have H2 := Lib.hid (h2.ex hX)
  have H4 := Lib.hid h4
  have HX := Lib.hid hX
  have H0 := Lib.hid (Blk.new w C3.zero.cs 67)
  clear h1 h2 h3 h4 hX
  go_enter Try.func52, Try.ntmps52
  go_wp2_with fail
  refine (root_calls _ H1.out).mono ?_
  rintro e w1 ⟨rfl, rfl⟩
  go_wp2_with fail
  refine (count_tr s _ H2.out H4.out).mono ?_
  rintro e w2 ⟨rfl, hb2⟩
  have HB2 := Lib.hid (HX.out.trans hb2)
  have HK2 := Lib.hid (H0.out.ex hb2)
  have hsz := HB2.out.size
  clear hb2
  obtain ⟨c, hc⟩ : ∃ c, tally s = c := ⟨_, rfl⟩
  have HC := Lib.hid hc
  rw [hc]
  clear hc
  go_wp2_with (refine st_c3 rfl (.tmp 2) (.tmp 5) rfl w.heap.size C3.zero c rfl rfl HK2.out w.heap.size HB2.out (Nat.le_refl _) hsz ?_; intro w3 hk3 hX3 _; have H3 := Lib.hid hk3; clear hk3)
  (try simp only [Exit.inBlock, Exit.then])
  refine bodyPost_ret (ret_c3 rfl _ _ w.heap.size c rfl H3.out) rfl ?_
  exact ⟨by rw [HC.out], hX3⟩
theorem rcount_at {v : Value} (s : ByteArray) (w : World) (x : Rp w v s) : Calls Try.prog 52 #[v] w fun e w' => e = .returned (.agg #[.int .i64 (s.size : Int), .int .i64 (tally s).r, .int .i64 (tally s).l]) ∧ Ex w w' := rcount_calls s w x
theorem rlen_calls {v : Value} (s : ByteArray) (w : World) (x : Rp w v s) : Calls Try.prog 26 #[v] w fun e w' => e = .returned (.int .i64 (s.size : Int)) ∧ Ex w w' := by
  have X := Lib.hid x
  have hfd := fun (a b c : Int) (w : World) => field_b a b c w
  clear x
  go_enter Try.func26, Try.ntmps26
  go_wp2_with fail
  refine (rcount_at s _ X.out).mono ?_
  rintro e w1 ⟨rfl, hb1⟩
  go_wp2_with fail
  go_ret
  exact ⟨rfl, hb1⟩
theorem bitsF_pow {h n m : Nat} (h1 : 2 ^ h ≤ n) (h2 : n ≤ m) : h < bitsF m :=
  (Nat.pow_lt_pow_iff_right (by decide : 1 < 2)).1 (Nat.lt_of_le_of_lt (Nat.le_trans h1 h2) (bitsF_gt m))
/-- A rope's root, and its height: -1 of none. -/
theorem Rp.root {w : World} {v : Value} {s : ByteArray} (x : Rp w v s) : ∃ u cs, ∃ h : Int, Ru w v u ∧ Tr w u cs ∧ GoodL cs ∧ flat cs = s ∧ -1 ≤ h ∧ h ≤ (bitsF s.size : Nat) ∧ ∀ w', Ex w w' → Calls Try.prog 41 #[u] w' fun e w'' => e = .returned (.int .i64 h) ∧ w'' = w' := by
  obtain ⟨u, cs, h1, h2, h3, h4⟩ := x
  rcases id h2 with ⟨rfl, rfl⟩ | ⟨h, k⟩
  · exact ⟨_, _, -1, h1, h2, h3, h4, by omega, by omega, fun w' _ => height_nil w'⟩
  · have h5 := bitsF_pow k.pow (flat_many k.fit)
    rw [h4] at h5
    exact ⟨u, cs, h, h1, h2, h3, h4, by omega, by omega, fun w' hb => height_calls w' (k.ex hb)⟩
theorem rheight_at {v u : Value} {h : Int} (w : World) (x : Ru w v u) (hh : Calls Try.prog 41 #[u] w fun e w'' => e = .returned (.int .i64 h) ∧ w'' = w) : Calls Try.prog 31 #[v] w fun e w' => e = .returned (.int .i64 h) ∧ w' = w := by
  have X := Lib.hid x
  have H := Lib.hid hh
  clear x hh
  go_enter Try.func31, Try.ntmps31
  go_wp2_with fail
  refine (root_calls _ X.out).mono ?_
  rintro e w1 ⟨rfl, rfl⟩
  go_wp2_with fail
  refine H.out.mono ?_
  rintro e w1 ⟨rfl, rfl⟩
  go_wp2_with fail
  go_ret
  exact ⟨rfl, rfl⟩
set_option maxRecDepth 100000 in
set_option maxHeartbeats 400000 in
theorem rright_calls {v : Value} (s : ByteArray) (w : World) (x : Rp w v s) (hs : s.size ≤ 100000) : Calls Try.prog 27 #[v] w fun e w' => e = .returned (.bool true) ∧ Ex w w' := by
  have HV := Lib.hid x.valid
  obtain ⟨u, cs, h1, h2, h3, h4⟩ := x
  have H1 := Lib.hid h1
  have H2 := Lib.hid h2
  have H3 := Lib.hid h3
  have H4 := Lib.hid h4
  have HS := Lib.hid (show (flat cs).size ≤ 100000 from by rw [h4]; exact hs)
  obtain ⟨c, hc⟩ : ∃ c, tally s = c := ⟨_, rfl⟩
  have HC := Lib.hid hc
  have HCT := Lib.hid (fun w (y : Tr w u cs) => by have := count_tr s w y h4; rw [hc] at this; exact this)
  have heq := fun (w : World) (a b c a' b' c' : Int) => eql_c3 w a b c a' b' c'
  clear h1 h2 h3 h4 hc
  go_enter Try.func27, Try.ntmps27
  go_wp2_with fail
  refine (root_calls _ H1.out).mono ?_
  rintro e w1 ⟨rfl, rfl⟩
  go_wp2_with fail
  refine (right_tr _ H2.out HS.out).mono ?_
  rintro e w2 ⟨rfl, hb2⟩
  have HB2 := Lib.hid hb2
  clear hb2
  go_wp2_with fail
  refine (wtight_calls _ (H2.out.ex HB2.out) HS.out H3.out).mono ?_
  rintro e w3 ⟨rfl, hb3⟩
  have HB3 := Lib.hid (HB2.out.trans hb3)
  clear hb3
  go_wp2_with fail
  refine (HCT.out _ (H2.out.ex HB3.out)).mono ?_
  rintro e w4 ⟨rfl, hb4⟩
  unfold C3.agg
  have HB4 := Lib.hid (HB3.out.trans hb4)
  clear hb4
  go_wp2_with fail
  refine (text_at s _ (H2.out.ex HB4.out) H4.out hs).mono ?_
  rintro e w5 ⟨rfl, hb5⟩
  have HB5 := Lib.hid (HB4.out.trans hb5)
  clear hb5
  go_wp2_with fail
  refine (tallyOf_at s c _ hs HC.out).mono ?_
  rintro e w6 ⟨rfl, hb6⟩
  have HB6 := Lib.hid (HB5.out.trans hb6)
  clear hb6
  go_wp2_with fail
  refine (text_at s _ (H2.out.ex HB6.out) H4.out hs).mono ?_
  rintro e w7 ⟨rfl, hb7⟩
  have HB7 := Lib.hid (HB6.out.trans hb7)
  clear hb7
  go_wp2_with fail
  refine (valid_calls s _ (by omega)).mono ?_
  rintro e w8 ⟨rfl, hb8⟩
  rw [HV.out]
  go_wp2_with fail
  go_ret
  exact ⟨rfl, HB7.out.trans hb8⟩
/-- A rope, made. -/
def MkP (s : ByteArray) (n : Int) (w : World) (e : Ending) (w' : World) : Prop := ∃ g, e = .returned (.tuple #[.pointer (some ⟨g, 0, none⟩), .int .i64 n]) ∧ Rp w' (.pointer (some ⟨g, 0, none⟩)) s ∧ Ex w w'
theorem box_rope {w : World} {u : Value} {cs : List ByteArray} {s : ByteArray} (ht : Tr w u cs) (hg : GoodL cs) (hf : flat cs = s) (t : TypeId) : Rp (w.alloc (.cells #[u] t)) (.pointer (some ⟨w.heap.size, 0, none⟩)) s :=
  ⟨u, cs, .inr ⟨_, rfl, by have := (Blk.new w [u] t).cell 0; exact this⟩, ht.ex (ex_alloc (Ex.refl w) _), hg, hf⟩
theorem Tr.ptr {w : World} {u : Value} {cs : List ByteArray} (x : Tr w u cs) : ∃ p, u = .pointer p := by
  rcases x with ⟨e, _⟩ | ⟨h, x⟩
  · exact ⟨_, e⟩
  · exact x.ptr
set_option maxHeartbeats 400000 in
theorem rof_calls (s : ByteArray) (w : World) (hs : s.size ≤ 4096) (hv : validU s = true) : Calls Try.prog 20 #[.string s] w (MkP s 0 w) := by
  have HV := Lib.hid hv
  have d1 : decide ((4096 : Int) < (s.size : Int)) = false := decide_eq_false (by omega)
  clear hv
  go_enter Try.func20, Try.ntmps20
  go_wp2_with fail
  refine (valid_calls s _ (by omega)).mono ?_
  rintro e w1 ⟨rfl, hb1⟩
  rw [HV.out]
  go_wp2_with fail
  refine (of_calls s _ (by omega) HV.out).mono ?_
  rintro e w2 ⟨cs, hg, hf, v, rfl, ht, hb2⟩
  obtain ⟨p, rfl⟩ := ht.ptr
  have HG := Lib.hid hg
  have HF := Lib.hid hf
  have HT := Lib.hid ht
  clear hg hf ht
  go_wp2_with fail
  go_ret2
  exact ⟨_, rfl, box_rope HT.out HG.out HF.out _, ex_alloc (hb1.trans hb2) _⟩
theorem rof_form (s : ByteArray) (w : World) (hs : s.size ≤ 9223372036854775000) (hv : validU s = false) : Calls Try.prog 20 #[.string s] w fun e w' => e = .returned (.tuple #[.pointer none, .int .i64 5]) ∧ Ex w w' := by
  go_enter Try.func20, Try.ntmps20
  go_wp2_with fail
  refine (valid_calls s _ hs).mono ?_
  rintro e w1 ⟨rfl, hb1⟩
  rw [hv]
  go_wp2_with fail
  go_ret2
  exact ⟨rfl, hb1⟩
theorem rof_long (s : ByteArray) (w : World) (hs : s.size ≤ 9223372036854775000) (hl : 4096 < s.size) (hv : validU s = true) : Calls Try.prog 20 #[.string s] w fun e w' => e = .returned (.tuple #[.pointer none, .int .i64 6]) ∧ Ex w w' := by
  have d1 : decide ((4096 : Int) < (s.size : Int)) = true := decide_eq_true (by omega)
  go_enter Try.func20, Try.ntmps20
  go_wp2_with fail
  refine (valid_calls s _ hs).mono ?_
  rintro e w1 ⟨rfl, hb1⟩
  rw [hv]
  go_wp2_with fail
  go_ret2
  exact ⟨rfl, hb1⟩
end Go.Proofs.Ytkckeogdijdohaa
