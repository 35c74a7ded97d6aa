/- Walks: a folder's Put, Drop, Move. -/
import Derived.Test.YtcffkmlnbnjibaaGreatFoB
namespace Go.Proofs.YtcffkmlnbnjibaaGreat
open Go.RowKit Go.Maps
def FoV.put (q : FoV) (s : ByteArray) (i : Int) : FoV × Bool := if (findM s q.now).2 = true then (q, false) else (q.doC ⟨false, ⟨#[]⟩, true, s, i⟩, true)
def FoV.drop (q : FoV) (s : ByteArray) : FoV × Bool := if (findM s q.now).2 = true then (q.doC ⟨true, s, false, ⟨#[]⟩, 0⟩, true) else (q, false)
def FoV.move (q : FoV) (a b : ByteArray) : FoV × Bool := if (findM a q.now).2 = true then (if (a.toList == b.toList) = true then (q, true) else (q.doC ⟨true, a, true, b, (findM a q.now).1⟩, true)) else (q, false)
theorem chg_put {s : ByteArray} {i : Int} (hs : s.size ≤ 9223372036854775807) (h1 : -9223372036854775808 ≤ i) (h2 : i ≤ 9223372036854775807) : Chg.Ok ⟨false, ⟨#[]⟩, true, s, i⟩ := ⟨Nat.zero_le _, hs, h1, h2⟩
theorem chg_drop {s : ByteArray} (hs : s.size ≤ 9223372036854775807) : Chg.Ok ⟨true, s, false, ⟨#[]⟩, 0⟩ := ⟨hs, Nat.zero_le _, by show (-9223372036854775808 : Int) ≤ 0; omega, by show (0 : Int) ≤ 9223372036854775807; omega⟩
theorem Fresh.sub {F : Nat → Prop} {w w1 w2 : World} (h : w.heap.size ≤ w1.heap.size) : ∀ k, Fresh F w1 w2 k → Fresh F w w2 k := fun k hk => by
  rcases hk with hk | hk
  · exact .inl hk
  · exact .inr ⟨by omega, hk.2⟩
theorem Fresh.up {F : Nat → Prop} {w w1 w2 : World} (h : w1.heap.size ≤ w2.heap.size) : ∀ k, Fresh F w w1 k → Fresh F w w2 k := fun k hk => by
  rcases hk with hk | hk
  · exact .inl hk
  · exact .inr ⟨hk.1, by omega⟩
theorem Fresh.same {F : Nat → Prop} {w w1 : World} : ∀ k, F k → Fresh F w w1 k := fun _ hk => .inl hk
set_option maxHeartbeats 1000000 in
theorem foput_calls {w : World} {g : Nat} {F : Nat → Prop} {q : FoV} (s : ByteArray) (i : Int) (hs : s.size ≤ 9223372036854775807) (h1 : -9223372036854775808 ≤ i) (h2 : i ≤ 9223372036854775807) {M : Nat} (ho : q.Ok M) (hM : M ≤ 1000000) (h : FoP w g F q) :
    Calls Tryz.prog 112 #[.pointer (some ⟨g, 0, none⟩), .string s, .int .i64 i] w fun e w' => e = .returned (.bool (q.put s i).2) ∧ FoP w' g (Fresh F w w') (q.put s i).1 ∧ Off F w w' := by
  have H := Lib.hid h
  have HO := Lib.hid ho
  clear h ho
  cases hf : (findM s q.now).2
  · have HF := Lib.hid hf
    have HE := Lib.hid (show q.put s i = (q.doC ⟨false, ⟨#[]⟩, true, s, i⟩, true) from by unfold FoV.put; rw [hf]; rfl)
    clear hf
    go_enter Tryz.func112, Tryz.ntmps112
    go_wp2_with fail
    refine (fofind_calls s hs H.out).mono ?_
    rintro e w1 ⟨rfl, hb1⟩
    rw [HF.out]
    go_wp2_with fail
    refine (fonone_calls (H.out.ex hb1)).mono ?_
    rintro e w2 ⟨rfl, hb2⟩
    go_wp2_with fail
    refine (fodo_calls ⟨false, ⟨#[]⟩, true, s, i⟩ (chg_put hs h1 h2) HO.out hM (H.out.ex (hb1.trans hb2))).mono ?_
    rintro e w3 ⟨rfl, hp, hoff⟩
    go_wp2_with fail
    go_ret
    exact ⟨by rw [HE.out]; rfl, by rw [HE.out]; exact hp.more (Fresh.sub (hb1.trans hb2).size), ((hb1.trans hb2).off F).trans hoff⟩
  · have HF := Lib.hid hf
    have HE := Lib.hid (show q.put s i = (q, false) from by unfold FoV.put; rw [hf]; rfl)
    clear hf
    go_enter Tryz.func112, Tryz.ntmps112
    go_wp2_with fail
    refine (fofind_calls s hs H.out).mono ?_
    rintro e w1 ⟨rfl, hb1⟩
    rw [HF.out]
    go_wp2_with fail
    go_ret
    exact ⟨by rw [HE.out]; rfl, by rw [HE.out]; exact (H.out.ex hb1).more Fresh.same, hb1.off F⟩
set_option maxHeartbeats 1000000 in
theorem fodrop_calls {w : World} {g : Nat} {F : Nat → Prop} {q : FoV} (s : ByteArray) (hs : s.size ≤ 9223372036854775807) {M : Nat} (ho : q.Ok M) (hM : M ≤ 1000000) (h : FoP w g F q) :
    Calls Tryz.prog 64 #[.pointer (some ⟨g, 0, none⟩), .string s] w fun e w' => e = .returned (.bool (q.drop s).2) ∧ FoP w' g (Fresh F w w') (q.drop s).1 ∧ Off F w w' := by
  have H := Lib.hid h
  have HO := Lib.hid ho
  clear h ho
  cases hf : (findM s q.now).2
  · have HF := Lib.hid hf
    have HE := Lib.hid (show q.drop s = (q, false) from by unfold FoV.drop; rw [hf]; rfl)
    clear hf
    go_enter Tryz.func64, Tryz.ntmps64
    go_wp2_with fail
    refine (fofind_calls s hs H.out).mono ?_
    rintro e w1 ⟨rfl, hb1⟩
    rw [HF.out]
    go_wp2_with fail
    go_ret
    exact ⟨by rw [HE.out]; rfl, by rw [HE.out]; exact (H.out.ex hb1).more Fresh.same, hb1.off F⟩
  · have HF := Lib.hid hf
    have HE := Lib.hid (show q.drop s = (q.doC ⟨true, s, false, ⟨#[]⟩, 0⟩, true) from by unfold FoV.drop; rw [hf]; rfl)
    clear hf
    go_enter Tryz.func64, Tryz.ntmps64
    go_wp2_with fail
    refine (fofind_calls s hs H.out).mono ?_
    rintro e w1 ⟨rfl, hb1⟩
    rw [HF.out]
    go_wp2_with fail
    refine (fodo_calls ⟨true, s, false, ⟨#[]⟩, 0⟩ (chg_drop hs) HO.out hM (H.out.ex hb1)).mono ?_
    rintro e w3 ⟨rfl, hp, hoff⟩
    go_wp2_with fail
    go_ret
    exact ⟨by rw [HE.out]; rfl, by rw [HE.out]; exact hp.more (Fresh.sub hb1.size), (hb1.off F).trans hoff⟩
set_option maxHeartbeats 1000000 in
theorem fomove_calls {w : World} {g : Nat} {F : Nat → Prop} {q : FoV} (a b : ByteArray) (ha : a.size ≤ 9223372036854775807) (hb : b.size ≤ 9223372036854775807) {M : Nat} (ho : q.Ok M) (hM : M ≤ 1000000) (h : FoP w g F q) :
    Calls Tryz.prog 63 #[.pointer (some ⟨g, 0, none⟩), .string a, .string b] w fun e w' => e = .returned (.bool (q.move a b).2) ∧ FoP w' g (Fresh F w w') (q.move a b).1 ∧ Off F w w' := by
  have hi := findM_in ho a
  have H := Lib.hid h
  have HO := Lib.hid ho
  clear h ho
  cases hf : (findM a q.now).2
  · have HF := Lib.hid hf
    have HE := Lib.hid (show q.move a b = (q, false) from by unfold FoV.move; rw [hf]; rfl)
    clear hf
    go_enter Tryz.func63, Tryz.ntmps63
    go_wp2_with fail
    refine (fofind_calls a ha H.out).mono ?_
    rintro e w1 ⟨rfl, hb1⟩
    rw [HF.out]
    go_wp2_with fail
    go_ret
    exact ⟨by rw [HE.out]; rfl, by rw [HE.out]; exact (H.out.ex hb1).more Fresh.same, hb1.off F⟩
  · have HF := Lib.hid hf
    cases hq : a.toList == b.toList
    · have HE := Lib.hid (show q.move a b = (q.doC ⟨true, a, true, b, (findM a q.now).1⟩, true) from by unfold FoV.move; rw [hf, hq]; rfl)
      have hq2 : (a.toList != b.toList) = true := by rw [bne, hq]; rfl
      have HI := Lib.hid (show Chg.Ok ⟨true, a, true, b, (findM a q.now).1⟩ from ⟨ha, hb, hi.1, hi.2⟩)
      clear hf hi
      go_enter Tryz.func63, Tryz.ntmps63
      go_wp2_with fail
      refine (fofind_calls a ha H.out).mono ?_
      rintro e w1 ⟨rfl, hb1⟩
      rw [HF.out]
      go_wp2_with fail
      refine (fodo_calls ⟨true, a, true, b, (findM a q.now).1⟩ HI.out HO.out hM (H.out.ex hb1)).mono ?_
      rintro e w3 ⟨rfl, hp, hoff⟩
      go_wp2_with fail
      go_ret
      exact ⟨by rw [HE.out]; rfl, by rw [HE.out]; exact hp.more (Fresh.sub hb1.size), (hb1.off F).trans hoff⟩
    · have HE := Lib.hid (show q.move a b = (q, true) from by unfold FoV.move; rw [hf, hq]; rfl)
      have hq2 : (a.toList != b.toList) = false := by rw [bne, hq]; rfl
      clear hf hi
      go_enter Tryz.func63, Tryz.ntmps63
      go_wp2_with fail
      refine (fofind_calls a ha H.out).mono ?_
      rintro e w1 ⟨rfl, hb1⟩
      rw [HF.out]
      go_wp2_with fail
      go_ret
      exact ⟨by rw [HE.out]; rfl, by rw [HE.out]; exact (H.out.ex hb1).more Fresh.same, hb1.off F⟩
end Go.Proofs.YtcffkmlnbnjibaaGreat
