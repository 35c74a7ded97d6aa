/- Law 37: what its walks stand on. -/
import Derived.Test.YtomfcgeibbicoaaGreatRoF
import Derived.Test.YtomfcgeibbicoaaGreatPxA
namespace Go.Proofs.YtomfcgeibbicoaaGreat
open Go.RowKit Go.Maps
/-- All names that are seen are short. -/
def NmS (Q : DkV) : Prop := ∀ m ∈ Q.fo.now, m.nm.size ≤ 24
theorem NmS.nms {Q : DkV} (h : NmS Q) : ∀ s ∈ Q.nms, s.size ≤ 9223372036854775806 := by
  intro s hs
  obtain ⟨m, hm, rfl⟩ := List.mem_map.1 hs
  exact Nat.le_trans (h m hm) (by decide)
theorem NmS.fo {Q Q' : DkV} (h : NmS Q) (e : ∀ m ∈ Q'.fo.now, m ∈ Q.fo.now) : NmS Q' := fun m hm => h m (e m hm)
theorem put_mem {m x : Mk} {l : List Mk} (h : x ∈ putM m l) : x = m ∨ x ∈ l := by
  unfold putM at h
  rcases (insM_mem m x _).1 h with h | h
  · exact .inl h
  · exact .inr (List.mem_filter.1 h).1
theorem may_size24 {s : ByteArray} (h : mayB s = true) : s.size ≤ 24 := by
  unfold mayB at h
  simp only [Bool.and_eq_true, decide_eq_true_eq] at h
  omega
theorem add_nms {Q : DkV} {s : ByteArray} {t : TpV} (h : NmS Q) (hs : s.size ≤ 24) : NmS (Q.add s t) := by
  intro m hm
  unfold DkV.add at hm
  rw [FoV.now_do] at hm
  rcases put_mem (show m ∈ putM ⟨s, (Q.tapes.length : Int) + 1⟩ Q.fo.now from hm) with rfl | hm
  · exact hs
  · exact h m hm
theorem sync_now (q : FoV) : q.sync.now = q.now := by
  unfold FoV.sync FoV.settle FoV.now
  rw [List.take_length]; rfl
theorem loadL_nms : ∀ {l : List FlV} {Q : DkV}, NmS Q → NmS (Q.loadL l).1
  | [], _, h => h
  | f :: r, Q, h => by
    unfold DkV.loadL
    split
    · exact h
    · rename_i hm
      split
      · exact h
      · refine loadL_nms (add_nms h (may_size24 ?_))
        cases hq : mayB f.nm
        · exact absurd hq hm
        · rfl
theorem load_nms {n : Int} {l : List FlV} {Q : DkV} {c : Int} (h : DkV.load n l = (some Q, c)) : NmS Q := by
  unfold DkV.load at h
  split at h
  · cases h
  · split at h
    · cases h
    · split at h
      · cases h
      · split at h <;> cases h
        have h1 := loadL_nms (l := l) (Q := DkV.fresh n) (fun m hm => by cases hm)
        intro m hm
        exact h1 m (by rw [← sync_now]; exact hm)
theorem fault_fo (Q : DkV) (k a : Int) : (Q.fault k a).1.fo = Q.fo := by
  unfold DkV.fault
  split
  · rfl
  · split <;> rfl
theorem faults_nms : ∀ {l : List FtV} {Q : DkV}, NmS Q → NmS (Q.faults l)
  | [], _, h => h
  | f :: r, Q, h => by
    show NmS ((Q.fault f.k f.a).1.faults r)
    exact faults_nms (h.fo fun m hm => by rw [fault_fo] at hm; exact hm)
theorem ask_fo (Q : DkV) (b : Bool) : (Q.ask b).1.fo = Q.fo := rfl
theorem remove_now {Q : DkV} {s : ByteArray} : ∀ m ∈ (Q.remove s).1.fo.now, m ∈ Q.fo.now := by
  intro m hm
  unfold DkV.remove at hm
  split at hm
  · exact hm
  · split at hm
    · exact hm
    · split at hm
      · change m ∈ (Q.fo.drop s).1.now at hm
        unfold FoV.drop at hm
        split at hm
        · rw [FoV.now_do] at hm
          exact (List.mem_filter.1 (show m ∈ Q.fo.now.filter (nmNot s) from hm)).1
        · exact hm
      · exact hm
theorem syncAll_now {Q : DkV} : Q.syncAll.1.fo.now = Q.fo.now := by
  unfold DkV.syncAll
  split
  · rfl
  · split
    · exact sync_now Q.fo
    · rfl
theorem rems_now : ∀ {l : List ByteArray} {Q : DkV} {n : Nat}, ∀ m ∈ (Q.rems l n).1.fo.now, m ∈ Q.fo.now
  | [], Q, n, m, hm => by
    unfold DkV.rems at hm
    split at hm
    · exact hm
    · rw [← syncAll_now]; exact hm
  | s :: r, Q, n, m, hm => by
    unfold DkV.rems at hm
    split at hm
    · exact remove_now m (rems_now m hm)
    · split at hm
      · exact remove_now m (rems_now m hm)
      · exact remove_now m hm
theorem rems_ok : ∀ {l : List ByteArray} {Q : DkV} {M n : Nat}, Q.Ok M → (∀ s ∈ l, s.size ≤ 9223372036854775807) → (Q.rems l n).1.Ok (M + 2 * l.length + 1)
  | [], Q, M, n, h, _ => by
    unfold DkV.rems
    split
    · exact h.up (by omega)
    · exact (syncAll_ok h).up (by simp)
  | s :: r, Q, M, n, h, hl => by
    have h1 := remove_ok h (hl s (by simp))
    have h2 := fun n => rems_ok (l := r) (n := n) h1 fun x hx => hl x (by simp [hx])
    unfold DkV.rems
    rw [List.length_cons]
    split
    · exact (h2 _).up (by omega)
    · split
      · exact (h2 _).up (by omega)
      · exact h1.up (by omega)
theorem Idz.rems : ∀ {l : List ByteArray} {Q : DkV} {n : Nat}, Idz Q → Idz (Q.rems l n).1
  | [], Q, n, h => by
    unfold DkV.rems
    split
    · exact h
    · exact h.syncAll
  | s :: r, Q, n, h => by
    unfold DkV.rems
    split
    · exact Idz.rems (h.remove s)
    · split
      · exact Idz.rems (h.remove s)
      · exact h.remove s
theorem sold_ok {Q : DkV} {M : Nat} (h : Q.Ok M) (hs : NmS Q) (ep : Int) : (Q.sold ep).1.Ok (5 * M + 1) := by
  unfold DkV.sold
  split
  · exact h.up (by omega)
  · have h1 := pickN_len (isOld ep) Q.nms
    have h2 := pickN_len isTemp Q.nms
    have h3 := h.fo.now_len
    have h4 := nms_len Q
    exact (rems_ok h (pick_sz hs.nms)).up (by rw [List.length_append]; omega)
theorem Idz.sold {Q : DkV} (h : Idz Q) (ep : Int) : Idz (Q.sold ep).1 := by
  unfold DkV.sold
  split
  · exact h
  · exact h.rems
theorem sold_nms {Q : DkV} (hs : NmS Q) (ep : Int) : NmS (Q.sold ep).1 := by
  unfold DkV.sold
  split
  · exact hs
  · exact hs.fo rems_now
set_option maxHeartbeats 2000000 in
set_option maxRecDepth 100000 in
theorem few37_calls (A : Option Addr) (c : Nat) (l : List FlV) (w : World) (hr : Row w 2 A l.length (l.flatMap FlV.cs)) :
    Calls Tryz.prog 8 #[.slice A l.length c] w fun e w' => e = .returned (.bool (fewB 20 100 l)) ∧ Ex w w' := by
  have HR := Lib.hid hr
  clear hr
  by_cases h20 : 20 < l.length
  · have d20 : decide ((20 : Int) < (l.length : Int)) = true := decide_eq_true (by omega)
    have hE : fewB 20 100 l = false := by unfold fewB; rw [decide_eq_false (by omega)]; rfl
    rw [hE]
    clear hE
    go_enter Tryz.func8, Tryz.ntmps8
    go_wp2_with fail
    go_ret
    exact ⟨rfl, Ex.refl w⟩
  have d20 : decide ((20 : Int) < (l.length : Int)) = false := decide_eq_false (by omega)
  obtain ⟨r, hr⟩ : ∃ r, fewB 20 100 l = r := ⟨_, rfl⟩
  have HRR := Lib.hid hr
  rw [hr]
  clear hr
  go_enter Tryz.func8, Tryz.ntmps8
  go_wp2_with fail
  go_loopw [3] (fun v wr => wr = w ∧ ∃ k : Nat, k ≤ l.length ∧ v = .int .i64 (k : Int) ∧ ∀ f ∈ l.take k, f.dt.size ≤ 100) (fun v _ => l.length - (intOf v).toNat)
  case atStart => exact ⟨rfl, 0, Nat.zero_le _, rfl, fun f hf => by rw [List.take_zero] at hf; cases hf⟩
  case round =>
    obtain ⟨rfl, k, hk, rfl, hall⟩ := hrel
    have HALL := Lib.hid hall
    clear hall
    by_cases hlt : k < l.length
    · obtain ⟨fb, fo, rfl, c1, c2⟩ := HR.out.fl hlt
      obtain ⟨f, hf⟩ : ∃ f, l[k] = f := ⟨_, rfl⟩
      have hfg : l[k]? = some f := by rw [← hf]; exact List.getElem?_eq_getElem hlt
      have HFG := Lib.hid hfg
      rw [hf] at c1 c2
      clear hf hfg
      have hkI : (k : Int) < (l.length : Int) := by omega
      have hk0 : (0 : Int) ≤ (k : Int) := by omega
      have hkn : ((k : Int)).toNat = k := by omega
      obtain ⟨nm, dt⟩ := f
      simp only at c1 c2
      by_cases h3 : 100 < dt.size
      · have d3 : decide ((100 : Int) < (dt.size : Int)) = true := decide_eq_true (by omega)
        go_wp2_with fail
        go_ret
        refine ⟨?_, Ex.refl _⟩
        rw [← HRR.out, show fewB 20 100 l = false from by
          unfold fewB
          rw [Bool.and_eq_false_iff]
          refine .inr (Bool.eq_false_iff.2 fun h => ?_)
          have := List.all_eq_true.1 h _ (List.mem_of_getElem? HFG.out)
          simp only [decide_eq_true_eq] at this
          omega]
        rfl
      · have d3 : decide ((100 : Int) < (dt.size : Int)) = false := decide_eq_false (by omega)
        go_wp2_with fail
        exact ⟨⟨(by first | rfl | trivial), k + 1, by omega, by go_num, fun f hf => by
          rw [List.take_add_one, HFG.out] at hf
          rcases List.mem_append.1 hf with hf | hf
          · exact HALL.out f hf
          · rw [Option.toList_some, List.mem_singleton] at hf
            subst hf
            exact Nat.le_of_not_lt h3⟩, by simp [intOf]; omega⟩
    · have hkl : k = l.length := by omega
      subst hkl
      go_wp2_with fail
      go_ret
      refine ⟨?_, Ex.refl _⟩
      rw [← HRR.out, show fewB 20 100 l = true from by
        unfold fewB
        rw [decide_eq_true (by omega : l.length ≤ 20), Bool.true_and]
        refine List.all_eq_true.2 fun f hf => decide_eq_true ?_
        have := HALL.out f (by rw [List.take_length]; exact hf)
        exact this]
      rfl
set_option maxHeartbeats 2000000 in
set_option maxRecDepth 100000 in
theorem files37_calls {A B : Option Addr} {c d : Nat} {l : List FlV} {w : World} (hr : Row w 2 A l.length (l.flatMap FlV.cs)) (hs : Row w 2 B l.length (l.flatMap FlV.cs)) (hlm0 : l.length ≤ 1000000000) :
    Calls Tryz.prog 16 #[.slice A l.length c, .slice B l.length d] w fun e w' => e = .returned (.bool true) ∧ Ex w w' := by
  have HR := Lib.hid hr
  have HS := Lib.hid hs
  clear hr hs
  go_enter Tryz.func16, Tryz.ntmps16
  go_wp2_with fail
  go_loopw [5] (fun v wr => Ex w wr ∧ ∃ k : Nat, k ≤ l.length ∧ v = .int .i64 (k : Int)) (fun v _ => l.length - (intOf v).toNat)
  case atStart => exact ⟨Ex.refl w, 0, Nat.zero_le _, rfl⟩
  case round =>
    obtain ⟨hbr, k, hk, rfl⟩ := hrel
    have HBr := Lib.hid hbr
    by_cases hlt : k < l.length
    · obtain ⟨fb, fo, rfl, c1, c2⟩ := HR.out.fl hlt
      obtain ⟨gb, go, rfl, c3, c4⟩ := HS.out.fl hlt
      have x1 := hbr.cell c1
      have x2 := hbr.cell c2
      have x3 := hbr.cell c3
      have x4 := hbr.cell c4
      have hkI : (k : Int) < (l.length : Int) := by omega
      have hk0 : (0 : Int) ≤ (k : Int) := by omega
      have hkn : ((k : Int)).toNat = k := by omega
      have hlm : l.length ≤ 1000000000 := hlm0
      have hkw : IntKind.i64.wrap ((k : Int) + 1) = (k : Int) + 1 := IntWalk.i64_in _ (by omega)
      clear c1 c2 c3 c4 hbr
      generalize l[k] = f at *
      obtain ⟨nm, dt⟩ := f
      simp only at x1 x2 x3 x4
      go_wp2_with fail
      go_region_held3 (fun w' => w'.cell? ⟨fb, fo + k * 2, none⟩ = some (.string nm) ∧ w'.cell? ⟨fb, fo + k * 2 + 1, none⟩ = some (.string dt) ∧ w'.cell? ⟨gb, go + k * 2, none⟩ = some (.string nm) ∧ w'.cell? ⟨gb, go + k * 2 + 1, none⟩ = some (.string dt)) (go_keep) (fail)
      all_goals go_wp2_with fail
      all_goals exact ⟨⟨HBr.out.drew, k + 1, by omega, by go_num⟩, by simp [intOf]; omega⟩
    · have hkl : k = l.length := by omega
      subst hkl
      go_wp2_with fail
      go_ret
      exact ⟨rfl, HBr.out⟩
end Go.Proofs.YtomfcgeibbicoaaGreat
namespace Go.Proofs.YtomfcgeibbicoaaGreat
open Go.RowKit Go.Maps
def sTa : ByteArray := ⟨#[116, 109, 112, 45, 97]⟩
def sXa : ByteArray := ⟨#[120, 45, 97]⟩
def l37 : List FlV := [⟨sTa, ⟨#[]⟩⟩, ⟨sXa, ⟨#[97]⟩⟩]
def q37 : DkV := ⟨9, [⟨⟨#[]⟩, ⟨#[]⟩⟩, ⟨⟨#[97]⟩, ⟨#[97]⟩⟩], ⟨[⟨sTa, 1⟩, ⟨sXa, 2⟩], []⟩, FuV.calm, 0⟩
def q37b : DkV := ⟨9, [⟨⟨#[]⟩, ⟨#[]⟩⟩, ⟨⟨#[97]⟩, ⟨#[97]⟩⟩], ⟨[⟨sXa, 2⟩], []⟩, FuV.calm, 2⟩
set_option maxRecDepth 100000 in
theorem load37 : DkV.load 9 l37 = (some q37, 0) := by kernel_rfl
set_option maxRecDepth 100000 in
theorem old37 : q37.sold 0 = (q37b, 1, 0) := by kernel_rfl
set_option maxRecDepth 100000 in
theorem old37b : q37b.sold 0 = (q37b, 0, 0) := by kernel_rfl
set_option maxRecDepth 100000 in
theorem files37_len : q37b.files.length = 1 := by kernel_rfl
set_option maxHeartbeats 1000000 in
set_option maxRecDepth 100000 in
theorem lv37_calls (w : World) : Calls Tryz.prog 9 #[] w fun e w' => e = .returned (.bool true) ∧ Ex w w' := by
  have hX0 := ex_alloc (Ex.refl w) (.cells #[.string sTa, .string ⟨#[]⟩, .string sXa, .string ⟨#[97]⟩] 80)
  have HR0 := Lib.hid (show Row (w.alloc (.cells #[.string sTa, .string ⟨#[]⟩, .string sXa, .string ⟨#[97]⟩] 80)) 2 (some ⟨w.heap.size, 0, none⟩) 2 (l37.flatMap FlV.cs) from (Blk.new w (l37.flatMap FlV.cs) 80).row (n := 2) (Nat.le_refl 4))
  have HX0 := Lib.hid hX0
  have HZ0 := Lib.hid hX0.size
  have HL := Lib.hid (show ∀ f ∈ l37, f.nm.size ≤ 9223372036854775807 ∧ f.dt.size ≤ 131072 from by decide)
  have HLD := Lib.hid load37
  have HO1 := Lib.hid old37
  have HO2 := Lib.hid old37b
  have HFL := Lib.hid files37_len
  have HOK := Lib.hid (load_ok HL.out load37)
  have HNS := Lib.hid (load_nms load37)
  clear hX0
  unfold sTa sXa at HR0 HX0 HZ0
  go_enter Tryz.func9, Tryz.ntmps9
  go_wp2_with fail
  refine (dload_calls 9 _ _ l37 _ HR0.out HL.out (by decide) (by decide)).mono ?_
  rintro e w2 ⟨⟨v, rfl, hno, hyes⟩, hX2⟩
  rw [HLD.out] at hyes ⊢
  obtain ⟨g, rfl, hg, hP⟩ := hyes q37 rfl
  have HX2 := Lib.hid (HX0.out.trans hX2)
  have HP := Lib.hid (hP.more (G := NewB w) fun k hk => Nat.le_trans HZ0.out hk)
  clear hno hyes hP hX2
  go_wp2_with fail
  refine (sold_calls HP.out HOK.out (by decide) HNS.out.nms 0).mono ?_
  rintro e w3 ⟨rfl, hP3, hO3⟩
  have hok3 := sold_ok HOK.out HNS.out 0
  have hns3 := sold_nms HNS.out 0
  rw [HO1.out] at hP3 hok3 hns3 ⊢
  have HS3 := Lib.hid (DkP.step HX2.out hP3 hO3)
  have HOK3 := Lib.hid hok3
  have HNS3 := Lib.hid hns3
  clear hP3 hO3 hok3 hns3
  go_wp2_with fail
  refine (sold_calls HS3.out.1 HOK3.out (by decide) HNS3.out.nms 0).mono ?_
  rintro e w4 ⟨rfl, hP4, hO4⟩
  rw [HO2.out] at hP4 ⊢
  have HS4 := Lib.hid (DkP.step HS3.out.2 hP4 hO4)
  clear hP4 hO4
  go_wp2_with fail
  refine (dfiles_calls HS4.out.1 HOK3.out (by decide)).mono ?_
  rintro e w5 ⟨v5, rfl, ho5, hb5⟩
  obtain ⟨A5, c5, rfl, _⟩ := own_shape ho5
  rw [HFL.out]
  go_wp2_with fail
  go_ret
  exact ⟨rfl, HS4.out.2.trans hb5⟩
end Go.Proofs.YtomfcgeibbicoaaGreat
