/- Texts of one letter; walk: the statement RopeFull. -/
import Derived.Test.YtkckeogdijdohaaRpE
import Derived.Laws.MakeOwn
import Derived.Laws.BytesString
namespace Go.Proofs.Ytkckeogdijdohaa
open Go.RowKit
/-- n times 'a'. -/
def aS (n : Nat) : ByteArray := ⟨(List.replicate n (97 : UInt8)).toArray⟩
theorem aS_size (n : Nat) : (aS n).size = n := by show (List.replicate n (97 : UInt8)).toArray.size = n; simp
theorem aS_ext {s : ByteArray} {n : Nat} (h : s.data.toList = List.replicate n 97) : s = aS n := by
  cases s with
  | mk d =>
    show (⟨d⟩ : ByteArray) = ⟨_⟩
    congr 1
    have h' : d.toList = List.replicate n 97 := h
    rw [← h']
theorem aS_app (i j : Nat) : aS i ++ aS j = aS (i + j) := by
  apply aS_ext
  rw [ByteArray.data_append]
  simp [aS]
theorem aS_cut (n i j : Nat) : (aS n).extract i j = aS (min j n - i) := by
  apply aS_ext
  rw [ByteArray.data_extract]
  simp [aS]
theorem aS_byte {n i : Nat} (h : i < n) : byteAt (aS n) i = 97 := by
  unfold byteAt
  rw [dif_pos (by rw [aS_size]; exact h)]
  show ((List.replicate n (97 : UInt8)).toArray[i]'(by simpa using h)).toNat = 97
  simp
theorem aS_valid (n : Nat) : validU (aS n) = true := by
  rw [valid_iff]
  have key : ∀ d a, a + d = n → Ch (aS n) a := by
    intro d
    induction d with
    | zero =>
      intro a ha
      have := Ch.done (s := aS n)
      rw [aS_size] at this
      rwa [show a = n by omega]
    | succ d ih =>
      intro a ha
      refine .step a 1 ?_ (by decide) (ih (a + 1) (by omega))
      unfold takeU takeB
      rw [aS_size, aS_byte (by omega), if_neg (by omega), if_pos (by decide)]
  exact key n 0 (by omega)
theorem aS_edge {n k : Nat} (h : k ≤ n) : edge (aS n) (k : Int) = true := by
  rcases Nat.eq_zero_or_pos k with rfl | h0
  · exact edge_end (.inl rfl)
  · rcases Nat.lt_or_ge k n with hlt | hge
    · rw [edge_mid h0 (by rw [aS_size]; exact hlt), aS_byte hlt]; decide
    · exact edge_end (.inr (by rw [aS_size]; omega))
theorem aS_ins {n m k : Nat} (hk : k ≤ n) (h : n + m ≤ 4096) : insT (aS n) (k : Int) (aS m) = (0, aS (n + m)) := by
  have hi : inB (aS n) (k : Int) 0 = true := inB_iff.2 (by rw [aS_size]; omega)
  unfold insT
  rw [if_neg (by rw [hi]; decide), if_neg (by rw [aS_edge hk]; decide), if_neg (by rw [aS_valid]; decide), if_neg (by rw [aS_size, aS_size]; omega), Int.toNat_natCast, aS_cut, aS_cut, aS_size, aS_app, aS_app]
  congr 2
  omega
theorem aS_one : (⟨#[97]⟩ : ByteArray) = aS 1 := rfl
theorem aS_no {k : Nat} (hk : k ≤ 4096) : insT (aS 4096) (k : Int) ⟨#[97]⟩ = (6, ⟨#[]⟩) := by
  have hi : inB (aS 4096) (k : Int) 0 = true := inB_iff.2 (by rw [aS_size]; omega)
  rw [aS_one]
  unfold insT
  rw [if_neg (by rw [hi]; decide), if_neg (by rw [aS_edge hk]; decide), if_neg (by rw [aS_valid]; decide), if_pos (by rw [aS_size, aS_size]; omega)]
theorem aS_del {k : Nat} (hk : k ≤ 4095) : delT (aS 4096) (k : Int) 1 = (0, aS 4095) := by
  have hi : inB (aS 4096) (k : Int) 1 = true := inB_iff.2 (by rw [aS_size]; omega)
  have he : edge (aS 4096) ((k : Int) + 1) = true := aS_edge (k := k + 1) (by omega)
  unfold delT
  rw [if_neg (by rw [hi]; decide), if_neg (by rw [aS_edge (by omega)]; decide), if_neg (by rw [he]; decide), show ((k : Int) + 1).toNat = k + 1 by omega, Int.toNat_natCast, aS_cut, aS_cut, aS_size, aS_app]
  exact congrArg (fun n => ((0 : Int), aS n)) (by omega)
theorem aS_push (s : ByteArray) : s.push (UInt8.ofNat (Int.toNat 97)) = s ++ aS 1 := by
  have h : (s.push (UInt8.ofNat (Int.toNat 97))).data = (s ++ aS 1).data := by
    rw [ByteArray.data_append]
    show s.data.push 97 = s.data ++ #[97]
    simp
  cases hs : s.push (UInt8.ofNat (Int.toNat 97)) with
  | mk d =>
    rw [hs] at h
    cases hr : s ++ aS 1 with
    | mk d' =>
      rw [hr] at h
      rw [show d = d' from h]
theorem info_u8 : (Try.prog.info? 5).map (fun i => (i.zero, i.size, i.bytes)) = some (some (.int .u8 0), 1, 1) := by kernel_rfl
set_option maxRecDepth 100000 in
/-- Bytes, as a text. -/
theorem conv_as {w : World} {g m cap : Nat} {cur : List Value} {t : TypeId} (hb : Blk w g t cur) (hm : cur.take m = List.replicate m (.int .u8 97)) : (convert 42 9 (.slice (some ⟨g, 0, none⟩) m cap)).run Try.prog w = .ok (.string (aS m)) w := by
  refine (run_convert_bytes_string (P := Try.prog) w 42 9 5 (some ⟨g, 0, none⟩) m cap Try.underlying42 Try.underlying5 Try.underlying9).trans ?_
  have hc : ∀ j v, (List.replicate m (Value.int .u8 97))[j]? = some v → w.cell? ((⟨g, 0, none⟩ : Addr).add j) = some v := by
    intro j v hj
    rw [add_lit0, Nat.zero_add, hb.cell]
    rw [← hm, List.getElem?_take] at hj
    split at hj
    · exact hj
    · cases hj
  have hl := run_loadCells_list (P := Try.prog) w ⟨g, 0, none⟩ _ hc
  rw [List.length_replicate] at hl
  have hmap : (List.replicate m (97 : Int)).map (Value.int .u8) = List.replicate m (Value.int .u8 97) := List.map_replicate
  refine (run_bytesToString w ⟨g, 0, none⟩ m cap (List.replicate m 97) (by rw [hmap]; exact hl)).trans ?_
  congr 2
  have key : ∀ (m : Nat) (s : ByteArray), (List.replicate m (97 : Int)).foldl (fun r n => r.push (UInt8.ofNat n.toNat)) s = s ++ aS m := by
    intro m
    induction m with
    | zero => intro s; exact (ba_app_nil s).symm
    | succ m ih =>
      intro s
      rw [List.replicate_succ, List.foldl_cons, ih, Nat.add_comm m 1, ← aS_app, ← ByteArray.append_assoc]
      congr 1
      exact aS_push s
  rw [key]
  exact ba_nil_app _
set_option maxRecDepth 100000 in
set_option maxHeartbeats 2000000 in
theorem ropeFull_calls (n p : Int) (w : World) (hp : -9223372036854775808 ≤ p ∧ p ≤ 9223372036854775807) : Calls Try.prog 8 #[.int .i64 n, .int .i64 p] w fun e w' => e = .returned (.bool true) ∧ Ex w w' := by
  by_cases h1 : n < 4090
  · have d1 : decide (n < 4090) = true := decide_eq_true h1
    go_enter Try.func8, Try.ntmps8
    go_wp2_with fail
    refine (lives18_calls _).mono ?_
    rintro e w3 ⟨rfl, hb3⟩
    go_wp2_with fail
    go_ret
    exact ⟨rfl, hb3⟩
  · have d1 : decide (n < 4090) = false := decide_eq_false h1
    by_cases h2 : 4100 < n
    · have d2 : decide (4100 < n) = true := decide_eq_true h2
      go_enter Try.func8, Try.ntmps8
      go_wp2_with fail
      refine (lives18_calls _).mono ?_
      rintro e w3 ⟨rfl, hb3⟩
      go_wp2_with fail
      go_ret
      exact ⟨rfl, hb3⟩
    · have d2 : decide (4100 < n) = false := decide_eq_false h2
      obtain ⟨m, rfl⟩ := Int.eq_ofNat_of_zero_le (show 0 ≤ n by omega)
      obtain ⟨i0, hi0, hz0, hz1, hz2⟩ := info_parts info_u8
      have hm1 : 4090 ≤ m := by omega
      have hm2 : m ≤ 4100 := by omega
      obtain ⟨z, hzz⟩ : ∃ z : List Value, z = (madeCells (Value.int .u8 0).cells m).toList := ⟨_, rfl⟩
      have hzl : z.length = m := by rw [hzz, Array.length_toList, size_madeCells]
      have HZL := Lib.hid hzl
      have hmk : ∀ w : World, (Instr.makeSlice 42 (.int .i64 (m : Int)) (.int .i64 (m : Int))).run Try.prog w = .ok (.slice (some ⟨w.heap.size, 0, none⟩) m m) (w.alloc (.cells z.toArray 5)) := by
        intro w
        have := run_make (P := Try.prog) w 42 5 i0 (.int .u8 0) Try.underlying42 hi0 hz0 .i64 .i64 (m : Int) (m : Int) (by omega) (Int.le_refl _) (by rw [hz2]; omega) (by omega)
        rw [Int.toNat_natCast, hz1, Nat.mul_one] at this
        rw [this, hzz]
      have HK0 := Lib.hid (Blk.new w z 5)
      have HX0 := Lib.hid (ex_alloc (Ex.refl w) (.cells z.toArray 5))
      have hsz0 : w.heap.size < (w.alloc (.cells z.toArray 5)).heap.size := by simp
      clear hzl hzz hz0 hz1 hz2 hi0
      go_enter Try.func8, Try.ntmps8
      go_wp2_with fail
      clear hmk
      go_loopw [6] (fun v6 wr => ∃ (k : Nat) (cur : List Value), k ≤ m ∧ v6 = .int .i64 (k : Int) ∧ Blk wr w.heap.size 5 cur ∧ cur.length = m ∧ cur.take k = List.replicate k (.int .u8 97) ∧ Ex w wr) (fun v6 _ => m - (intOf v6).toNat)
      case atStart => exact ⟨0, z, by omega, rfl, HK0.out, HZL.out, rfl, HX0.out⟩
      case round =>
        obtain ⟨k, cur, hk, rfl, hB, hl, ht, hb⟩ := hrel
        have HB := Lib.hid hB
        have HL := Lib.hid hl
        have HT := Lib.hid ht
        by_cases hlt : k < m
        · have hcell : wr.cell? ⟨w.heap.size, k, none⟩ = some (cur[k]'(by omega)) := by rw [hB.cell, List.getElem?_eq_getElem]
          have hfr := hB.frozen k
          have HB1 := Lib.hid (hB.setCell (i := k) (.int .u8 97))
          have HL1 := Lib.hid (show (cur.set k (Value.int .u8 97)).length = m from by rw [List.length_set]; exact hl)
          have HT1 := Lib.hid (show (cur.set k (Value.int .u8 97)).take (k + 1) = List.replicate (k + 1) (.int .u8 97) from by
            rw [List.take_succ_eq_append_getElem (by rw [List.length_set]; omega), List.getElem_set_self, List.take_set_of_le (Nat.le_refl _), ht, List.replicate_succ'])
          have HX1 := Lib.hid (show Ex w (wr.setCell ⟨w.heap.size, k, none⟩ (.int .u8 97)) from Below.setCell hb (p := ⟨w.heap.size, k, none⟩) (Nat.le_refl _) (.int .u8 97))
          generalize (cur[k]'(by omega)) = u at hcell
          clear hB hl ht
          go_wp2_with fail
          exact ⟨⟨k + 1, cur.set k (.int .u8 97), by omega, by go_num, HB1.out, HL1.out, HT1.out, HX1.out⟩, by simp [intOf]; omega⟩
        · have hkm : k = m := by omega
          subst hkm
          have hcv := conv_as (m := k) (cap := k) hB ht
          have HX := Lib.hid hb
          have HBk := Lib.hid hB
          have HTk := Lib.hid ht
          clear hB hl ht hb HB HL HT
          have HA := Lib.hid (aS_valid k)
          by_cases hbig : k ≤ 4096
          · have d3 : decide (4096 < (k : Int)) = false := decide_eq_false (by omega)
            obtain ⟨q, hq, hqk, hqe⟩ : ∃ q : Nat, q ≤ k ∧ min (max p 0) (k : Int) = (q : Int) ∧ min (q : Int) 4095 = ((min q 4095 : Nat) : Int) := ⟨(min (max p 0) (k : Int)).toNat, by omega, by omega, by omega⟩
            have e1 : (4096 : Int) - (k : Int) = ((4096 - k : Nat) : Int) := by omega
            go_wp2_with fail
            refine (rof_calls (aS k) _ (by rw [aS_size]; exact hbig) HA.out).mono ?_
            rintro e w1 ⟨g1, rfl, hr1, hb1⟩
            have HR1 := Lib.hid hr1
            have HX1 := Lib.hid (HX.out.trans hb1)
            have hB1 := HBk.out.ex hb1
            have hcv1 := conv_as (m := 4096 - k) (cap := k) hB1 (by rw [show cur.take (4096 - k) = (cur.take k).take (4096 - k) by rw [List.take_take]; congr 1; omega, HTk.out, List.take_replicate]; congr 1; omega)
            clear hr1 hb1 hcv
            have hin : insT (aS k) (q : Int) (aS (4096 - k)) = (0, aS 4096) := (aS_ins (n := k) (m := 4096 - k) (k := q) hq (by omega)).trans (congrArg (fun n => ((0 : Int), aS n)) (by omega))
            clear hB1
            go_wp2_with fail
            refine (insert_ok _ HR1.out (by rw [aS_size]; omega) (by rw [aS_size]; omega) hin).mono ?_
            rintro e w2 ⟨g2, rfl, hr2, hb2⟩
            have HR2 := Lib.hid hr2
            have HX2 := Lib.hid (HX1.out.trans hb2)
            clear hr2 hb2 hcv1
            go_wp2_with fail
            refine (insert_no _ HR2.out (by rw [aS_size]; omega) (by decide) (congrArg Prod.fst (aS_no (k := q) (by omega))) (by decide)).mono ?_
            rintro e w3 ⟨rfl, hb3⟩
            have HR3 := Lib.hid (HR2.out.ex hb3)
            have HX3 := Lib.hid (HX2.out.trans hb3)
            clear hb3
            go_wp2_with fail
            refine (delete_ok _ HR3.out (by rw [aS_size]; omega) (aS_del (k := min q 4095) (by omega))).mono ?_
            rintro e w4 ⟨g4, rfl, hr4, hb4⟩
            have HR4 := Lib.hid hr4
            have HX4 := Lib.hid (HX3.out.trans hb4)
            have HS4 := Lib.hid (HR3.out.ex hb4)
            clear hr4 hb4
            go_wp2_with fail
            refine (rlen_calls (aS 4096) _ HS4.out).mono ?_
            rintro e w5 ⟨rfl, hb5⟩
            rw [aS_size]
            have HX5 := Lib.hid (HX4.out.trans hb5)
            have HR5 := Lib.hid (HR4.out.ex hb5)
            clear hb5
            go_wp2_with fail
            refine (rlen_calls (aS 4095) _ HR5.out).mono ?_
            rintro e w6 ⟨rfl, hb6⟩
            rw [aS_size]
            have HX6 := Lib.hid (HX5.out.trans hb6)
            have HR6 := Lib.hid (HR5.out.ex hb6)
            clear hb6
            go_wp2_with fail
            refine (rright_calls (aS 4095) _ HR6.out (by rw [aS_size]; omega)).mono ?_
            rintro e w7 ⟨rfl, hb7⟩
            have HX7 := Lib.hid (HX6.out.trans hb7)
            clear hb7
            go_wp2_with fail
            refine (lives18_calls _).mono ?_
            rintro e w8 ⟨rfl, hb8⟩
            go_wp2_with fail
            go_ret
            exact ⟨rfl, HX7.out.trans hb8⟩
          · have d3 : decide (4096 < (k : Int)) = true := decide_eq_true (by omega)
            go_wp2_with fail
            refine (rof_long (aS k) _ (by rw [aS_size]; omega) (by rw [aS_size]; omega) HA.out).mono ?_
            rintro e w1 ⟨rfl, hb1⟩
            go_wp2_with fail
            refine (lives18_calls _).mono ?_
            rintro e w3 ⟨rfl, hb3⟩
            go_wp2_with fail
            go_ret
            exact ⟨rfl, (HX.out.trans hb1).trans hb3⟩
end Go.Proofs.Ytkckeogdijdohaa
