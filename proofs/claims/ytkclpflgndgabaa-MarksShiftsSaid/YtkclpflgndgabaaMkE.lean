/- Walk: slices.Insert of one mark into a row of the call's own. -/
import Derived.Test.YtkclpflgndgabaaMkD
namespace Go.Proofs.Ytkclpflgndgabaa
open Go.RowKit
theorem mk_nil {l : List Mk} (h : Mk.cs l = []) : l = [] := by
  cases l with
  | nil => rfl
  | cons x l => simp [Mk.cs, Mk.enc] at h
theorem mk_one (x : Mk) : Mk.cs [x] = Mk.enc x := by simp [Mk.cs]
theorem row_one {w : World} {bx : Nat} {x : Mk} (h : Blk w bx 24 (Mk.enc x)) : Row w 2 (some ⟨bx, 0, none⟩) 1 (Mk.cs [x]) := by
  have := h.row (k := 2) (n := 1) (by simp [Mk.enc])
  rw [mk_one]
  simpa [Mk.enc] using this
theorem ins_src {cur : List Value} {l : List Mk} {i n : Nat} (hct : cur.take (n * 2) = Mk.cs l) : (cur.drop (i * 2)).take ((n - i) * 2) = Mk.cs (l.drop i) := by
  rw [Mk.cs, ← flat_drop Mk.enc 2 (fun _ => rfl), ← Mk.cs, ← hct, List.drop_take, Nat.sub_mul]
theorem ins_pre {cur : List Value} {l : List Mk} {i n : Nat} (hct : cur.take (n * 2) = Mk.cs l) (hi : i ≤ n) : cur.take (i * 2) = Mk.cs (l.take i) := by
  rw [Mk.cs, ← flat_take Mk.enc 2 (fun _ => rfl), ← Mk.cs, ← hct, List.take_take, Nat.min_eq_left (Nat.mul_le_mul_right _ hi)]
theorem ins_cs (l : List Mk) (i : Nat) (x : Mk) : Mk.cs (l.take i ++ x :: l.drop i) = Mk.cs (l.take i) ++ (Mk.enc x ++ Mk.cs (l.drop i)) := by
  rw [Mk.cs_append]; rfl
theorem ins_room {cur : List Value} {l : List Mk} {i n cap : Nat} (x : Mk) (hct : cur.take (n * 2) = Mk.cs l) (hl : l.length = n) (hi : i < n) (hcap : n + 1 ≤ cap) (hcl : cur.length = cap * 2) :
    (spl (spl cur ((i + 1) * 2) ((cur.drop (i * 2)).take ((n - i) * 2))) (i * 2) (Mk.enc x)).take ((n + 1) * 2) = Mk.cs (l.take i ++ x :: l.drop i) := by
  rw [ins_src hct, ins_cs, ← ins_pre hct (by omega)]
  have h2 : (Mk.cs (l.drop i)).length = (n - i) * 2 := by rw [Mk.cs_len, List.length_drop, hl]
  have h3 : (cur.take ((i + 1) * 2)).length = (i + 1) * 2 := by rw [List.length_take]; omega
  have h5 : (Mk.enc x).length = 2 := rfl
  have e1 : (spl cur ((i + 1) * 2) (Mk.cs (l.drop i))).take (i * 2) = cur.take (i * 2) := by
    rw [spl, List.append_assoc, List.take_append_of_le_length (by omega), List.take_take, Nat.min_eq_left (by omega)]
  have e2 : (spl cur ((i + 1) * 2) (Mk.cs (l.drop i))).drop (i * 2 + 2) = Mk.cs (l.drop i) ++ cur.drop ((i + 1) * 2 + (Mk.cs (l.drop i)).length) := by
    rw [spl, List.append_assoc, drop_app (by omega)]
  rw [spl, h5, e1, e2, ← List.append_assoc, take_app (by simp only [List.length_append, List.length_take, h2, h5]; omega), List.append_assoc]
theorem ins_grow {cur Z R : List Value} {l : List Mk} {i n : Nat} (x : Mk) (hct : cur.take (n * 2) = Mk.cs l) (hl : l.length = n) (hi : i < n) (_hZ : Z.length = (n + 1 - i) * 2) :
    (spl (spl (cur.take (i * 2) ++ Z ++ R) (i * 2) (Mk.enc x)) ((i + 1) * 2) ((cur.drop (i * 2)).take ((n - i) * 2))).take ((n + 1) * 2) = Mk.cs (l.take i ++ x :: l.drop i) := by
  rw [ins_src hct, ins_cs, ins_pre hct (by omega)]
  have h1 : (Mk.cs (l.take i)).length = i * 2 := by rw [Mk.cs_len, List.length_take, hl]; omega
  have h2 : (Mk.cs (l.drop i)).length = (n - i) * 2 := by rw [Mk.cs_len, List.length_drop, hl]
  have h5 : (Mk.enc x).length = 2 := rfl
  have e1 : (spl (Mk.cs (l.take i) ++ Z ++ R) (i * 2) (Mk.enc x)).take ((i + 1) * 2) = Mk.cs (l.take i) ++ Mk.enc x := by
    rw [spl, List.append_assoc (Mk.cs (l.take i)) Z R, take_app (a := Mk.cs (l.take i)) (by omega), take_app (by simp only [List.length_append]; omega)]
  rw [spl, e1, take_app (by simp only [List.length_append]; omega), List.append_assoc]
set_option maxHeartbeats 400000 in
set_option maxRecDepth 100000 in
theorem insert_calls (base : Nat) (w0 w : World) (v : Value) (n : Nat) (l : List Mk) (i : Nat) (x : Mk) (bx : Nat) (hown : w.ownsRow base 24 2 v n (Mk.cs l)) (hn : n ≤ 1000) (hi : i ≤ n)
    (hx : Blk w bx 24 (Mk.enc x)) (hne : v.ownBlock ≠ some bx) (hbase : base ≤ w.heap.size) (hb : Below base w0 w) :
    Calls Try.prog 32 #[v, .int .i64 (i : Int), .slice (some ⟨bx, 0, none⟩) 1 1] w fun e w' => ∃ v', e = .returned v' ∧ w'.ownsRow base 24 2 v' (n + 1) (Mk.cs (l.take i ++ x :: l.drop i)) ∧ Below base w0 w' := by
  have hlen : l.length = n := by have := hown.1; rw [Mk.cs_len] at this; omega
  have Hx := Lib.hid hx
  clear hx
  rcases own_blk hown with ⟨rfl, rfl, hl⟩ | ⟨g, cap, cur, rfl, hg, hblk, hnc, hcm, hcl, hct⟩
  · obtain rfl := mk_nil hl
    obtain rfl : i = 0 := by omega
    clear hl hlen hi
    go_enter Try.func32, Try.ntmps32
    go_wp2_with (first | (at_builtin; refine app_mk rfl (.tmp 23) (.tmp 24) rfl base (.slice none 0 0) 0 [] rfl hown (some ⟨bx, 0, none⟩) 1 1 [x] rfl (row_one Hx.out) (by omega) hbase hb ?_; intro v' w' ho hb' hg _))
    go_ret
    exact ⟨v', rfl, by simpa using ho, hb'⟩
  · have Hb := Lib.hid hblk
    clear hblk
    by_cases hin : i = n
    · subst hin
      have Hl := Lib.hid hlen
      clear hlen
      have hci : i ≤ cap := hnc
      unfold maxLen at hcm
      go_enter Try.func32, Try.ntmps32
      go_wp2_with (first | (at_builtin; refine app_mk rfl (.tmp 23) (.tmp 24) rfl base (.slice (some ⟨g, 0, none⟩) i cap) i l rfl hown (some ⟨bx, 0, none⟩) 1 1 [x] rfl (row_one Hx.out) (by omega) hbase hb ?_; intro v' w' ho hb' hg _))
      all_goals go_ret
      all_goals refine ⟨v', rfl, ?_, hb'⟩
      all_goals rw [List.take_of_length_le (by have := Hl.out; omega), List.drop_eq_nil_of_le (by have := Hl.out; omega)]
      all_goals exact ho
    · have hilt : i < n := by omega
      have e1 : ((i : Int) == (n : Int)) = false := by rw [beq_eq_false_iff_ne]; omega
      clear hin
      unfold maxLen at hcm
      have Hl := Lib.hid hlen
      have Hcl := Lib.hid hcl
      have Hct := Lib.hid hct
      clear hlen hcl hct
      have hlc : ∀ (cs : List Mk), (Mk.enc x).length = 2 := fun _ => rfl
      have hsz : (Try.prog.info? 24).map (·.size) = some 2 := by kernel_rfl
      have hpos : ∀ u ∈ Mk.enc x, u.oneCell' = true := by have := Mk.one [x]; rwa [mk_one] at this
      have hsrc : Mk.cs (l.drop i) = (cur.drop (i * 2)).take ((n - i) * 2) := (ins_src Hct.out).symm
      have hone : ∀ u ∈ (cur.drop (i * 2)).take ((n - i) * 2), u.oneCell' = true := by rw [← hsrc]; exact Mk.one _
      have hlen2 : ((cur.drop (i * 2)).take ((n - i) * 2)).length = (n - i) * 2 := by rw [← hsrc, Mk.cs_len, List.length_drop, Hl.out]
      have Hone := Lib.hid hone
      have Hlen2 := Lib.hid hlen2
      have Hpos := Lib.hid hpos
      clear hone hlen2 hsrc hpos hlc
      have hgc : ∀ j u, ((cur.drop (i * 2)).take ((n - i) * 2))[j]? = some u → cur[i * 2 + j]? = some u := by
        intro j u hu
        rw [List.getElem?_take] at hu
        split at hu
        · rwa [List.getElem?_drop] at hu
        · cases hu
      have Hgc := Lib.hid hgc
      clear hgc
      by_cases hroom : cap < n + 1
      · have Hz := Lib.hid (zeroCells_len #[Value.string ⟨#[]⟩, Value.int .i64 0] (n + 1 - i))
        obtain ⟨i0, hi0, hz0, hz1, hz2⟩ := info_parts info_mk
        have Hr0 := Lib.hid (Hb.out.row (k := 2) (n := i) (by rw [Hcl.out]; omega))
        have Hc0 : (cur.take (i * 2)).length = i * 2 := by rw [List.length_take, Hcl.out]; omega
        have HC0 := Lib.hid Hc0
        clear Hc0
        go_enter Try.func32, Try.ntmps32
        go_wp2_with (at_builtin; (refine wpList_append_zeros rfl (.tmp 34) (.tmp 39) _ _ rfl 24 i0 _ 2 24 Try.underlying22 .i64 Try.underlying3 hi0 hz0 hz1 hz2 rfl (some ⟨g, 0, none⟩) i cap (n + 1 - i) (cur.take (i * 2)) ((n : Int) + 1 - (i : Int)) ?hs3 Hr0.out ?ha3 ?hx3 ?hm3 ?hr3 ?hq3 ?hb3 ?hk3))
        case hs3 => rfl
        case hx3 => rfl
        case hm3 => omega
        case hr3 => omega
        case hq3 => omega
        case ha3 => simp
        case hb3 => omega
        intro wa cap2 hbk hcap2 hcm2 hga
        rw [show i + (n + 1 - i) = n + 1 from by omega] at hcap2 hbk ⊢
        have hZl : (Builtin.zeroCells #[Value.string ⟨#[]⟩, Value.int .i64 0] (n + 1 - i)).toList.length = (n + 1 - i) * 2 := Hz.out
        have hRl := zeroCells_len #[Value.string ⟨#[]⟩, Value.int .i64 0] (cap2 - (n + 1))
        rw [← List.append_assoc] at hbk
        obtain ⟨Z, hZ⟩ : ∃ Z, Z = (Builtin.zeroCells #[Value.string ⟨#[]⟩, Value.int .i64 0] (n + 1 - i)).toList := ⟨_, rfl⟩
        obtain ⟨R, hR⟩ : ∃ R, R = (Builtin.zeroCells #[Value.string ⟨#[]⟩, Value.int .i64 0] (cap2 - (n + 1))).toList := ⟨_, rfl⟩
        rw [← hZ] at hbk hZl
        rw [← hR] at hbk hRl
        have hl2 : (cur.take (i * 2) ++ Z ++ R).length = cap2 * 2 := by
          rw [List.length_append, List.length_append, HC0.out, hZl, hRl]
          simp only [List.size_toArray, List.length_cons, List.length_nil]
          omega
        obtain ⟨C, hC⟩ : ∃ C, C = cur.take (i * 2) ++ Z ++ R := ⟨_, rfl⟩
        rw [← hC] at hbk hl2
        have HC := Lib.hid hC
        clear hC
        have HL2 := Lib.hid hl2
        have HBK := Lib.hid hbk
        have HZL := Lib.hid hZl
        have HBX := Lib.hid (Hx.out.grown hga (by simp))
        have HBG := Lib.hid (Hb.out.grown hga (by simp))
        have hba : Below base w0 wa := hb.grown hga hbase (fun k hk => by cases hk)
        obtain ⟨g2, hg2⟩ : ∃ g2, g2 = w.heap.size := ⟨_, rfl⟩
        have hg2b : base ≤ g2 := by omega
        have hg2g : g2 ≠ g := by have := Hb.out.lt; omega
        have hg2x : g2 ≠ bx := by have := Hx.out.lt; omega
        rw [← hg2] at HBK ⊢
        have HG2 := Lib.hid hg2
        clear hZ hR hZl hRl hl2 hbk hg2
        unfold maxLen at hcm2
        have p1 : ¬ cap2 = i := by omega
        have p2 : ¬ cap2 = i + 1 := by omega
        have p3 : ¬ cap = i := by omega
        have p4 : (i : Int) ≤ (n : Int) + 1 := by omega
        have p5 : IntKind.i64.wrap ((i : Int) + 1) = (i : Int) + 1 := IntWalk.i64_in _ (by omega)
        have p6 : 0 ≤ (i : Int) + 1 := by omega
        have p7 : ((i : Int) + 1).toNat = i + 1 := by omega
        have p8 : i + 1 ≤ n + 1 := by omega
        have p9 : i ≤ n + 1 := by omega
        have q1 := Lib.hid (show i * 2 + (Mk.enc x).length ≤ C.length by rw [HL2.out]; simp only [Mk.enc, List.length_cons, List.length_nil]; omega)
        have q2 := Lib.hid (show (Mk.enc x).length = Nat.min 1 (n + 1 - i) * 2 by rw [show Nat.min 1 (n + 1 - i) = 1 from Nat.min_eq_left (by omega)]; rfl)
        have q3 := Lib.hid (show 0 < (Mk.enc x).length → ∃ b o', some (⟨bx, 0, none⟩ : Addr) = some ⟨b, o', none⟩ ∧ ∀ j u, (Mk.enc x)[j]? = some u → wa.cell? ⟨b, o' + j, none⟩ = some u from fun _ => ⟨bx, 0, rfl, fun j u hu => by rw [Nat.zero_add]; exact (HBX.out.cell _).trans hu⟩)
        go_wp2_with (refine wpList_copy_k rfl (.tmp 43) (.tmp 44) _ _ rfl 24 2 g2 (i * 2) (n + 1 - i) (cap2 - i) (some ⟨bx, 0, none⟩) 1 1 C 24 (Mk.enc x) Try.underlying22 hsz ?hd4 ?hs4 HBK.out q2.out q3.out q1.out Hpos.out ?hk4)
        case hd4 => rfl
        case hs4 => rfl
        intro wb hb2 hgb
        have hbb : Below base w0 wb := hba.grown hgb (Nat.le_trans hbase hga.size) (fun k hk => by injection hk with hk; omega)
        have HB2 := Lib.hid hb2
        have HBG2 := Lib.hid (HBG.out.grown hgb (fun e => by injection e with e; omega))
        clear hb2
        have r1 := Lib.hid (show (i + 1) * 2 + ((cur.drop (i * 2)).take ((n - i) * 2)).length ≤ (spl C (i * 2) (Mk.enc x)).length by rw [spl_len q1.out, Hlen2.out, HL2.out]; omega)
        have r2 := Lib.hid (show ((cur.drop (i * 2)).take ((n - i) * 2)).length = Nat.min (n - i) (n - i) * 2 by rw [Hlen2.out]; congr 1; exact (Nat.min_eq_left (Nat.le_refl _)).symm)
        have r3 := Lib.hid (show 0 < ((cur.drop (i * 2)).take ((n - i) * 2)).length → ∃ b o', some (⟨g, i * 2, none⟩ : Addr) = some ⟨b, o', none⟩ ∧ ∀ j u, ((cur.drop (i * 2)).take ((n - i) * 2))[j]? = some u → wb.drew.cell? ⟨b, o' + j, none⟩ = some u from fun _ => ⟨g, i * 2, rfl, fun j u hu => (HBG2.out.cell _).trans (Hgc.out j u hu)⟩)
        have r4 := Lib.hid (show Blk wb.drew g2 24 (spl C (i * 2) (Mk.enc x)) from HB2.out)
        go_wp2
        go_region_law (refine step_copy_k rfl (.tmp 50) (.tmp 53) _ _ rfl 24 2 g2 ((i + 1) * 2) (n - i) (cap2 - (i + 1)) (some ⟨g, i * 2, none⟩) (n - i) (cap - i) (spl C (i * 2) (Mk.enc x)) 24 ((cur.drop (i * 2)).take ((n - i) * 2)) Try.underlying22 hsz ?hd5 ?hs5 r4.out r2.out r3.out r1.out Hone.out ?hk5; (case hd5 => go_simp); (case hs5 => go_simp); intro wc hb3 hgc3)
        have hbc : Below base w0 wc := (show Below base w0 wb.drew from hbb.drew).grown hgc3 (Nat.le_trans hbase (Nat.le_trans hga.size hgb.size)) (fun k hk => by injection hk with hk; omega)
        have HB3 := Lib.hid hb3
        clear hb3
        go_wp2
        go_ret
        refine ⟨_, rfl, own_of_blk HB3.out hg2b hcap2 (by unfold maxLen; omega) ?_ (by rw [HC.out]; exact ins_grow x Hct.out Hl.out hilt HZL.out), hbc⟩
        rw [spl_len r1.out, spl_len q1.out, HL2.out]
      · have hov : ∀ lb cb, (callFunc 46 #[.slice (some ⟨bx, 0, none⟩) 1 1, .slice (some ⟨g, (i + 1) * 2, none⟩) lb cb]).run Try.prog w = .ok (.value (.bool false)) w := fun lb cb => by
          have hbg : bx ≠ g := fun e => hne (by rw [e]; rfl)
          have hs1 : w.shape? bx = some (24, 2) := by have := Hx.out; unfold Blk at this; simp [World.shape?, this, Mk.enc]
          have hs2 : w.shape? g = some (24, cap * 2) := by have := Hb.out; unfold Blk at this; simp [World.shape?, this, Hcl.out]
          rw [run_callFunc_extern Try.func46 (by kernel_rfl) (by kernel_rfl) (by kernel_rfl) (e := Extern.SlicesOverlaps.overlaps #[22, 22] #[4]) (by kernel_rfl),
            Lib.run_overlaps_apart w 22 4 24 Try.underlying22 2 (fun _ => by kernel_rfl) ⟨bx, 0, none⟩ ⟨g, (i + 1) * 2, none⟩ 1 1 lb cb hbg 24 24 2 (cap * 2) hs1 hs2 (by omega) (Hx.out.frozen 0) (Hx.out.frozen 2)]
          rfl
        go_enter Try.func32, Try.ntmps32
        go_wp2_with fail
        have w1 : IntKind.i64.wrap ((i : Int) + 1) = (i : Int) + 1 := IntWalk.i64_in _ (by omega)
        have w2 : 0 ≤ (i : Int) + 1 := by omega
        have w3 : ((i : Int) + 1).toNat = i + 1 := by omega
        have w4 : i + 1 ≤ n + 1 := by omega
        have w5 : i ≤ n + 1 := by omega
        have w6 : n + 1 ≤ cap := by omega
        have w7 : (i : Int) ≤ (n : Int) + 1 := by omega
        have w8 : ¬ cap = i + 1 := by omega
        have f1 := Lib.hid (show (i + 1) * 2 + ((cur.drop (i * 2)).take ((n - i) * 2)).length ≤ cur.length by rw [Hlen2.out, Hcl.out]; omega)
        have f2 := Lib.hid (show ((cur.drop (i * 2)).take ((n - i) * 2)).length = Nat.min (n + 1 - i) (n - i) * 2 by rw [Hlen2.out]; congr 1; exact (Nat.min_eq_right (by omega)).symm)
        have f3 := Lib.hid (show 0 < ((cur.drop (i * 2)).take ((n - i) * 2)).length → ∃ b o', some (⟨g, i * 2, none⟩ : Addr) = some ⟨b, o', none⟩ ∧ ∀ j u, ((cur.drop (i * 2)).take ((n - i) * 2))[j]? = some u → w.drew.cell? ⟨b, o' + j, none⟩ = some u from fun _ => ⟨g, i * 2, rfl, fun j u hu => (Hb.out.cell _).trans (Hgc.out j u hu)⟩)
        have f4 := Lib.hid (show Blk w.drew g 24 cur from Hb.out)
        go_region_law (refine step_copy_k rfl (.tmp 73) (.tmp 76) _ _ rfl 24 2 g ((i + 1) * 2) (n - i) (cap - (i + 1)) (some ⟨g, i * 2, none⟩) (n + 1 - i) (cap - i) cur 24 ((cur.drop (i * 2)).take ((n - i) * 2)) Try.underlying22 hsz ?hd ?hs f4.out f2.out f3.out f1.out Hone.out ?hk; (case hd => go_simp); (case hs => go_simp); intro wa hb1 hg1)
        have k1 := Lib.hid hb1
        have k2 : Blk wa bx 24 (Mk.enc x) := (show Blk w.drew bx 24 (Mk.enc x) from Hx.out).grown hg1 (fun e => hne (by injection e with e; rw [e]; rfl))
        have K2 := Lib.hid k2
        have hba : Below base w0 wa := (show Below base w0 w.drew from hb.drew).grown hg1 hbase (fun k hk => by injection hk with hk; omega)
        clear hb1 k2
        have f5 := Lib.hid (show i * 2 + (Mk.enc x).length ≤ (spl cur ((i + 1) * 2) ((cur.drop (i * 2)).take ((n - i) * 2))).length by rw [spl_len f1.out, Hcl.out]; simp only [Mk.enc, List.length_cons, List.length_nil]; omega)
        have f6 := Lib.hid (show (Mk.enc x).length = Nat.min 1 (n + 1 - i) * 2 by rw [show Nat.min 1 (n + 1 - i) = 1 from Nat.min_eq_left (by omega)]; rfl)
        have f7 := Lib.hid (show 0 < (Mk.enc x).length → ∃ b o', some (⟨bx, 0, none⟩ : Addr) = some ⟨b, o', none⟩ ∧ ∀ j u, (Mk.enc x)[j]? = some u → wa.cell? ⟨b, o' + j, none⟩ = some u from fun _ => ⟨bx, 0, rfl, fun j u hu => by rw [Nat.zero_add]; exact (K2.out.cell _).trans hu⟩)
        go_wp2_with (refine wpList_copy_k rfl (.tmp 80) (.tmp 81) _ _ rfl 24 2 g (i * 2) (n + 1 - i) (cap - i) (some ⟨bx, 0, none⟩) 1 1 (spl cur ((i + 1) * 2) ((cur.drop (i * 2)).take ((n - i) * 2))) 24 (Mk.enc x) Try.underlying22 hsz ?hd2 ?hs2 k1.out f6.out f7.out f5.out Hpos.out ?hk2)
        case hd2 => rfl
        case hs2 => rfl
        intro wb hb2 hg2
        go_wp2
        go_ret
        refine ⟨_, rfl, own_of_blk hb2 hg (by omega) (by unfold maxLen; omega) ?_ (ins_room x Hct.out Hl.out hilt (by omega) Hcl.out), hba.grown hg2 (Nat.le_trans hbase (show w.drew.heap.size ≤ wa.heap.size from hg1.size)) (fun k hk => by injection hk with hk; omega)⟩
        rw [spl_len f5.out, spl_len f1.out, Hcl.out]
end Go.Proofs.Ytkclpflgndgabaa
