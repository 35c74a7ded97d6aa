/- Walks: ropes: Insert, Delete; the document's. -/
import Derived.Test.YtkckeogdijdohaaRpB
namespace Go.Proofs.Ytkckeogdijdohaa
open Go.RowKit
def insT (s : ByteArray) (p : Int) (x : ByteArray) : Int × ByteArray :=
  if inB s p 0 = false then (3, ⟨#[]⟩) else if edge s p = false then (4, ⟨#[]⟩) else if validU x = false then (5, ⟨#[]⟩) else if 4096 < s.size + x.size then (6, ⟨#[]⟩) else (0, s.extract 0 p.toNat ++ x ++ s.extract p.toNat s.size)
def delT (s : ByteArray) (p n : Int) : Int × ByteArray :=
  if inB s p n = false then (3, ⟨#[]⟩) else if edge s p = false then (4, ⟨#[]⟩) else if edge s (p + n) = false then (4, ⟨#[]⟩) else (0, s.extract 0 p.toNat ++ s.extract (p + n).toNat s.size)
/-- What Insert and Delete hand back: no rope, or one of the text. -/
def ResP (r : Int × ByteArray) (w : World) (e : Ending) (w' : World) : Prop :=
  (r.1 ≠ 0 ∧ e = .returned (.tuple #[.pointer none, .int .i64 r.1]) ∧ Ex w w') ∨ (r.1 = 0 ∧ MkP r.2 0 w e w')
theorem backU_at {s : ByteArray} {n : Nat} (h : n ≤ s.size) (he : edge s (n : Int) = true) : backU s (n : Int) = n := by
  unfold backU
  split
  · omega
  · rw [Int.toNat_natCast, backF_at he]
theorem inB_iff {s : ByteArray} {p n : Int} : inB s p n = true ↔ 0 ≤ p ∧ 0 ≤ n ∧ p ≤ s.size ∧ n ≤ s.size - p := by
  unfold inB; rw [decide_eq_true_iff]
set_option maxRecDepth 100000 in
set_option maxHeartbeats 1000000 in
theorem insert_calls {v : Value} (s x : ByteArray) (p : Int) (w : World) (hr : Rp w v s) (hs : s.size ≤ 4096) (hx : x.size ≤ 100000) : Calls Try.prog 24 #[v, .int .i64 p, .string x] w (ResP (insT s p x) w) := by
  have X := Lib.hid hr
  clear hr
  cases h1 : inB s p 0
  · have H1 := Lib.hid h1
    have HI := Lib.hid (show insT s p x = (3, ⟨#[]⟩) from by unfold insT; rw [if_pos h1])
    clear h1
    go_enter Try.func24, Try.ntmps24
    go_wp2_with fail
    refine (within_calls s p 0 _ X.out (by omega)).mono ?_
    rintro e w1 ⟨rfl, hb1⟩
    rw [H1.out]
    go_wp2_with fail
    go_ret2
    exact .inl ⟨by rw [HI.out]; decide, by rw [HI.out]; rfl, hb1⟩
  · have H1 := Lib.hid h1
    cases h2 : edge s p
    · have H2 := Lib.hid h2
      have HI := Lib.hid (show insT s p x = (4, ⟨#[]⟩) from by unfold insT; rw [if_neg (by rw [h1]; decide), if_pos h2])
      clear h1 h2
      go_enter Try.func24, Try.ntmps24
      go_wp2_with fail
      refine (within_calls s p 0 _ X.out (by omega)).mono ?_
      rintro e w1 ⟨rfl, hb1⟩
      rw [H1.out]
      go_wp2_with fail
      refine (redge_calls s p _ (X.out.ex hb1) (by omega)).mono ?_
      rintro e w2 ⟨rfl, hb2⟩
      rw [H2.out]
      go_wp2_with fail
      go_ret2
      exact .inl ⟨by rw [HI.out]; decide, by rw [HI.out]; rfl, hb1.trans hb2⟩
    · have H2 := Lib.hid h2
      cases h3 : validU x
      · have H3 := Lib.hid h3
        have HI := Lib.hid (show insT s p x = (5, ⟨#[]⟩) from by unfold insT; rw [if_neg (by rw [h1]; decide), if_neg (by rw [h2]; decide), if_pos h3])
        clear h1 h2 h3
        go_enter Try.func24, Try.ntmps24
        go_wp2_with fail
        refine (within_calls s p 0 _ X.out (by omega)).mono ?_
        rintro e w1 ⟨rfl, hb1⟩
        rw [H1.out]
        go_wp2_with fail
        refine (redge_calls s p _ (X.out.ex hb1) (by omega)).mono ?_
        rintro e w2 ⟨rfl, hb2⟩
        rw [H2.out]
        go_wp2_with fail
        refine (valid_calls x _ (by omega)).mono ?_
        rintro e w3 ⟨rfl, hb3⟩
        rw [H3.out]
        go_wp2_with fail
        go_ret2
        exact .inl ⟨by rw [HI.out]; decide, by rw [HI.out]; rfl, (hb1.trans hb2).trans hb3⟩
      · have H3 := Lib.hid h3
        by_cases h4 : 4096 < s.size + x.size
        · have HI := Lib.hid (show insT s p x = (6, ⟨#[]⟩) from by unfold insT; rw [if_neg (by rw [h1]; decide), if_neg (by rw [h2]; decide), if_neg (by rw [h3]; decide), if_pos h4])
          have d1 : decide ((4096 : Int) - (s.size : Int) < (x.size : Int)) = true := decide_eq_true (by omega)
          clear h1 h2 h3 h4
          go_enter Try.func24, Try.ntmps24
          go_wp2_with fail
          refine (within_calls s p 0 _ X.out (by omega)).mono ?_
          rintro e w1 ⟨rfl, hb1⟩
          rw [H1.out]
          go_wp2_with fail
          refine (redge_calls s p _ (X.out.ex hb1) (by omega)).mono ?_
          rintro e w2 ⟨rfl, hb2⟩
          rw [H2.out]
          go_wp2_with fail
          refine (valid_calls x _ (by omega)).mono ?_
          rintro e w3 ⟨rfl, hb3⟩
          rw [H3.out]
          have HB3 := Lib.hid ((hb1.trans hb2).trans hb3)
          clear hb1 hb2 hb3
          go_wp2_with fail
          refine (rlen_calls s _ (X.out.ex HB3.out)).mono ?_
          rintro e w4 ⟨rfl, hb4⟩
          go_wp2_with fail
          go_ret2
          exact .inl ⟨by rw [HI.out]; decide, by rw [HI.out]; rfl, HB3.out.trans hb4⟩
        · have HI := Lib.hid (show insT s p x = (0, s.extract 0 p.toNat ++ x ++ s.extract p.toNat s.size) from by unfold insT; rw [if_neg (by rw [h1]; decide), if_neg (by rw [h2]; decide), if_neg (by rw [h3]; decide), if_neg h4])
          have d1 : decide ((4096 : Int) - (s.size : Int) < (x.size : Int)) = false := decide_eq_false (by omega)
          obtain ⟨g1, -, g3, -⟩ := inB_iff.1 h1
          obtain ⟨n, rfl⟩ := Int.eq_ofNat_of_zero_le g1
          have HBU := Lib.hid (backU_at (s := s) (n := n) (by omega) h2)
          rw [Int.toNat_natCast] at HI
          have hn : n ≤ s.size := by omega
          have HSZ := Lib.hid (show (s.extract 0 n).size + x.size + (s.extract n s.size).size ≤ 100000 from by rw [ByteArray.size_extract, ByteArray.size_extract]; omega)
          clear h1 h2 h3 h4
          go_enter Try.func24, Try.ntmps24
          go_wp2_with fail
          refine (within_calls s n 0 _ X.out (by omega)).mono ?_
          rintro e w1 ⟨rfl, hb1⟩
          rw [H1.out]
          go_wp2_with fail
          refine (redge_calls s n _ (X.out.ex hb1) (by omega)).mono ?_
          rintro e w2 ⟨rfl, hb2⟩
          rw [H2.out]
          go_wp2_with fail
          refine (valid_calls x _ (by omega)).mono ?_
          rintro e w3 ⟨rfl, hb3⟩
          rw [H3.out]
          have HB3 := Lib.hid ((hb1.trans hb2).trans hb3)
          clear hb1 hb2 hb3
          go_wp2_with fail
          refine (rlen_calls s _ (X.out.ex HB3.out)).mono ?_
          rintro e w4 ⟨rfl, hb4⟩
          have HB4 := Lib.hid (HB3.out.trans hb4)
          clear hb4
          go_wp2_with fail
          refine (rcut_calls s n _ (X.out.ex HB4.out) (by omega) (by omega)).mono ?_
          rw [HBU.out]
          rintro e w5 ⟨l, r, cl, cr, rfl, hl, hrr, hgl, hgr, hfl, hfr, hb5⟩
          have HL := Lib.hid hl
          have HR := Lib.hid hrr
          have HGL := Lib.hid hgl
          have HGR := Lib.hid hgr
          have HFL := Lib.hid hfl
          have HFR := Lib.hid hfr
          have HB5 := Lib.hid (HB4.out.trans hb5)
          clear hl hrr hgl hgr hfl hfr hb5
          go_wp2_with fail
          refine (of_calls x _ hx H3.out).mono ?_
          rintro e w6 ⟨cx, hgx, hfx, vx, rfl, htx, hb6⟩
          have HGX := Lib.hid hgx
          have HFX := Lib.hid hfx
          have HTX := Lib.hid htx
          have HB6 := Lib.hid hb6
          have HG1 := Lib.hid (conc_good HGL.out hgx)
          clear hgx hfx htx hb6
          go_wp2_with fail
          refine (concat_calls _ (HL.out.ex HB6.out) HTX.out (by rw [HFL.out, HFX.out]; have := HSZ.out; omega)).mono ?_
          rintro e w7 ⟨v7, rfl, ht7, hb7⟩
          have HT7 := Lib.hid ht7
          have HB7 := Lib.hid (HB6.out.trans hb7)
          have HG2 := Lib.hid (conc_good HG1.out.1 HGR.out)
          clear ht7 hb7
          go_wp2_with fail
          refine (concat_calls _ HT7.out (HR.out.ex HB7.out) (by rw [HG1.out.2, HFL.out, HFX.out, HFR.out, ByteArray.size_append]; exact HSZ.out)).mono ?_
          rintro e w8 ⟨v8, rfl, ht8, hb8⟩
          obtain ⟨p8, rfl⟩ := ht8.ptr
          have HT8 := Lib.hid ht8
          have HB8 := Lib.hid ((HB5.out.trans HB7.out).trans hb8)
          clear ht8 hb8
          go_wp2_with fail
          go_ret2
          refine .inr ⟨by rw [HI.out], _, rfl, ?_, ex_alloc HB8.out _⟩
          rw [HI.out]
          exact box_rope HT8.out HG2.out.1 (by rw [HG2.out.2, HG1.out.2, HFL.out, HFX.out, HFR.out]) _
set_option maxRecDepth 100000 in
set_option maxHeartbeats 1000000 in
theorem delete_calls' {v : Value} (s : ByteArray) (p n : Int) (w : World) (hr : Rp w v s) (hs : s.size ≤ 4096) : Calls Try.prog 25 #[v, .int .i64 p, .int .i64 n] w (ResP (delT s p n) w) := by
  have X := Lib.hid hr
  clear hr
  cases h1 : inB s p n
  · have H1 := Lib.hid h1
    have HI := Lib.hid (show delT s p n = (3, ⟨#[]⟩) from by unfold delT; rw [if_pos h1])
    clear h1
    go_enter Try.func25, Try.ntmps25
    go_wp2_with fail
    refine (within_calls s p n _ X.out (by omega)).mono ?_
    rintro e w1 ⟨rfl, hb1⟩
    rw [H1.out]
    go_wp2_with fail
    go_ret2
    exact .inl ⟨by rw [HI.out]; decide, by rw [HI.out]; rfl, hb1⟩
  · have H1 := Lib.hid h1
    obtain ⟨g1, g2, g3, g4⟩ := inB_iff.1 h1
    cases h2 : edge s p
    · have H2 := Lib.hid h2
      have HI := Lib.hid (show delT s p n = (4, ⟨#[]⟩) from by unfold delT; rw [if_neg (by rw [h1]; decide), if_pos h2])
      clear h1 h2
      go_enter Try.func25, Try.ntmps25
      go_wp2_with fail
      refine (within_calls s p n _ X.out (by omega)).mono ?_
      rintro e w1 ⟨rfl, hb1⟩
      rw [H1.out]
      go_wp2_with fail
      refine (redge_calls s p _ (X.out.ex hb1) (by omega)).mono ?_
      rintro e w2 ⟨rfl, hb2⟩
      rw [H2.out]
      go_wp2_with fail
      go_ret2
      exact .inl ⟨by rw [HI.out]; decide, by rw [HI.out]; rfl, hb1.trans hb2⟩
    · have H2 := Lib.hid h2
      cases h3 : edge s (p + n)
      · have H3 := Lib.hid h3
        have HI := Lib.hid (show delT s p n = (4, ⟨#[]⟩) from by unfold delT; rw [if_neg (by rw [h1]; decide), if_neg (by rw [h2]; decide), if_pos h3])
        clear h1 h2 h3
        go_enter Try.func25, Try.ntmps25
        go_wp2_with fail
        refine (within_calls s p n _ X.out (by omega)).mono ?_
        rintro e w1 ⟨rfl, hb1⟩
        rw [H1.out]
        go_wp2_with fail
        refine (redge_calls s p _ (X.out.ex hb1) (by omega)).mono ?_
        rintro e w2 ⟨rfl, hb2⟩
        rw [H2.out]
        go_wp2_with fail
        refine (redge_calls s (p + n) _ ((X.out.ex hb1).ex hb2) (by omega)).mono ?_
        rintro e w3 ⟨rfl, hb3⟩
        rw [H3.out]
        go_wp2_with fail
        go_ret2
        exact .inl ⟨by rw [HI.out]; decide, by rw [HI.out]; rfl, (hb1.trans hb2).trans hb3⟩
      · have H3 := Lib.hid h3
        have HI := Lib.hid (show delT s p n = (0, s.extract 0 p.toNat ++ s.extract (p + n).toNat s.size) from by unfold delT; rw [if_neg (by rw [h1]; decide), if_neg (by rw [h2]; decide), if_neg (by rw [h3]; decide)])
        have HBU := Lib.hid (show backU s p = p.toNat from by
          have := backU_at (s := s) (n := p.toNat) (by omega) (by rw [show ((p.toNat : Nat) : Int) = p by omega]; exact h2)
          rwa [show ((p.toNat : Nat) : Int) = p by omega] at this)
        have HBV := Lib.hid (show backU s (p + n) = (p + n).toNat from by
          have := backU_at (s := s) (n := (p + n).toNat) (by omega) (by rw [show (((p + n).toNat : Nat) : Int) = p + n by omega]; exact h3)
          rwa [show (((p + n).toNat : Nat) : Int) = p + n by omega] at this)
        have HSZ := Lib.hid (show (s.extract 0 p.toNat).size + (s.extract (p + n).toNat s.size).size ≤ 100000 from by rw [ByteArray.size_extract, ByteArray.size_extract]; omega)
        clear h1 h2 h3
        go_enter Try.func25, Try.ntmps25
        go_wp2_with fail
        refine (within_calls s p n _ X.out (by omega)).mono ?_
        rintro e w1 ⟨rfl, hb1⟩
        rw [H1.out]
        go_wp2_with fail
        refine (redge_calls s p _ (X.out.ex hb1) (by omega)).mono ?_
        rintro e w2 ⟨rfl, hb2⟩
        rw [H2.out]
        go_wp2_with fail
        refine (redge_calls s (p + n) _ ((X.out.ex hb1).ex hb2) (by omega)).mono ?_
        rintro e w3 ⟨rfl, hb3⟩
        rw [H3.out]
        have HB3 := Lib.hid ((hb1.trans hb2).trans hb3)
        clear hb1 hb2 hb3
        go_wp2_with fail
        refine (rcut_calls s p _ (X.out.ex HB3.out) (by omega) (by omega)).mono ?_
        rw [HBU.out]
        rintro e w5 ⟨l, r, cl, cr, rfl, hl, -, hgl, -, hfl, -, hb5⟩
        have HL := Lib.hid hl
        have HGL := Lib.hid hgl
        have HFL := Lib.hid hfl
        have HB5 := Lib.hid (HB3.out.trans hb5)
        clear hl hgl hfl hb5
        go_wp2_with fail
        refine (rcut_calls s (p + n) _ (X.out.ex HB5.out) (by omega) (by omega)).mono ?_
        rw [HBV.out]
        rintro e w6 ⟨l2, r2, cl2, cr, rfl, -, hrr, -, hgr, -, hfr, hb6⟩
        have HR := Lib.hid hrr
        have HGR := Lib.hid hgr
        have HFR := Lib.hid hfr
        have HB6 := Lib.hid hb6
        clear hrr hgr hfr hb6
        have HG1 := Lib.hid (conc_good HGL.out HGR.out)
        go_wp2_with fail
        refine (concat_calls _ (HL.out.ex HB6.out) HR.out (by rw [HFL.out, HFR.out]; exact HSZ.out)).mono ?_
        rintro e w8 ⟨v8, rfl, ht8, hb8⟩
        obtain ⟨p8, rfl⟩ := ht8.ptr
        have HT8 := Lib.hid ht8
        have HB8 := Lib.hid ((HB5.out.trans HB6.out).trans hb8)
        clear ht8 hb8
        go_wp2_with fail
        go_ret2
        refine .inr ⟨by rw [HI.out], _, rfl, ?_, ex_alloc HB8.out _⟩
        rw [HI.out]
        exact box_rope HT8.out HG1.out.1 (by rw [HG1.out.2, HFL.out, HFR.out]) _
theorem ResP.ok {r : Int × ByteArray} {t : ByteArray} {w : World} {e : Ending} {w' : World} (h : ResP r w e w') (hr : r = (0, t)) : MkP t 0 w e w' := by
  subst hr
  rcases h with ⟨h, _⟩ | ⟨_, h⟩
  · exact absurd rfl h
  · exact h
theorem ResP.no {r : Int × ByteArray} {n : Int} {w : World} {e : Ending} {w' : World} (h : ResP r w e w') (hr : r.1 = n) (hn : n ≠ 0) : e = .returned (.tuple #[.pointer none, .int .i64 n]) ∧ Ex w w' := by
  subst hr
  rcases h with ⟨_, h⟩ | ⟨h, _⟩
  · exact h
  · exact absurd h hn
/-- Whatever Delete hands back. -/
theorem delete_any {v : Value} (s : ByteArray) (p n : Int) (w : World) (hr : Rp w v s) (hs : s.size ≤ 4096) : Calls Try.prog 25 #[v, .int .i64 p, .int .i64 n] w fun e w' => ∃ (u : Option Addr) (i : Int), e = .returned (.tuple #[.pointer u, .int .i64 i]) ∧ Ex w w' :=
  (delete_calls' s p n w hr hs).mono fun _ _ r => by
    rcases r with ⟨_, h, hb⟩ | ⟨_, g, h, _, hb⟩
    · exact ⟨_, _, h, hb⟩
    · exact ⟨_, _, h, hb⟩
theorem insert_ok {v : Value} {s x t : ByteArray} {p : Int} (w : World) (hr : Rp w v s) (hs : s.size ≤ 4096) (hx : x.size ≤ 100000) (h : insT s p x = (0, t)) : Calls Try.prog 24 #[v, .int .i64 p, .string x] w (MkP t 0 w) :=
  (insert_calls s x p w hr hs hx).mono fun _ _ r => r.ok h
theorem insert_no {v : Value} {s x : ByteArray} {p n : Int} (w : World) (hr : Rp w v s) (hs : s.size ≤ 4096) (hx : x.size ≤ 100000) (h : (insT s p x).1 = n) (hn : n ≠ 0) : Calls Try.prog 24 #[v, .int .i64 p, .string x] w fun e w' => e = .returned (.tuple #[.pointer none, .int .i64 n]) ∧ Ex w w' :=
  (insert_calls s x p w hr hs hx).mono fun _ _ r => r.no h hn
theorem delete_ok {v : Value} {s t : ByteArray} {p n : Int} (w : World) (hr : Rp w v s) (hs : s.size ≤ 4096) (h : delT s p n = (0, t)) : Calls Try.prog 25 #[v, .int .i64 p, .int .i64 n] w (MkP t 0 w) :=
  (delete_calls' s p n w hr hs).mono fun _ _ r => r.ok h
theorem delete_no {v : Value} {s : ByteArray} {p n m : Int} (w : World) (hr : Rp w v s) (hs : s.size ≤ 4096) (h : (delT s p n).1 = m) (hn : m ≠ 0) : Calls Try.prog 25 #[v, .int .i64 p, .int .i64 n] w fun e w' => e = .returned (.tuple #[.pointer none, .int .i64 m]) ∧ Ex w w' :=
  (delete_calls' s p n w hr hs).mono fun _ _ r => r.no h hn
end Go.Proofs.Ytkckeogdijdohaa
