/- Walks: a file is written in five steps (publish). -/
import Derived.Test.YtcffkmlnbnjibaaGreatDkO
import Derived.Defers
import Derived.Laws.ResultCell
namespace Go.Proofs.YtcffkmlnbnjibaaGreat
open Go.RowKit Go.Maps
namespace DkV
/-- The first step: a new file of that name. -/
def anew (Q : DkV) (s : ByteArray) : DkV × Int :=
  if (Q.read s).2 = 0 then (if (Q.remove s).2 = 0 then (Q.remove s).1.create s else Q.remove s) else Q.create s
end DkV
theorem anew_ok {Q : DkV} {M : Nat} {s : ByteArray} (h : Q.Ok M) (hM : M ≤ 800000) (hs : s.size ≤ 9223372036854775807) : (Q.anew s).1.Ok (M + 4) := by
  unfold DkV.anew
  split
  · split
    · exact create_ok (remove_ok h hs) (by omega) hs
    · exact (remove_ok h hs).up (by omega)
  · exact (create_ok h (by omega) hs).up (by omega)
/-- A disk between calls: wi is the world, Fi its blocks; all began at w, F. -/
structure Mid (w : World) (F : Nat → Prop) (wi : World) (Fi : Nat → Prop) (g : Nat) (Q : DkV) : Prop where
  dk : DkP wi g Fi Q
  sub : ∀ k, Fi k → Fresh F w wi k
  off : Off F w wi
section
variable {w wi wj : World} {F Fi : Nat → Prop} {g : Nat} {Q Q' : DkV}
theorem Mid.start (h : DkP w g F Q) : Mid w F w F g Q := ⟨h, fun _ hk => .inl hk, Off.refl F w⟩
theorem Mid.step (h : Mid w F wi Fi g Q) (hP : DkP wj g (Fresh Fi wi wj) Q') (hO : Off Fi wi wj) : Mid w F wj (Fresh Fi wi wj) g Q' := by
  have h1 := h.off.size
  have h2 := hO.size
  refine ⟨hP, fun k hk => ?_, h.off.then hO (fun k hk hf => ?_)⟩
  · rcases hk with hk | hk
    · rcases h.sub k hk with h3 | h3
      · exact .inl h3
      · exact .inr ⟨h3.1, by omega⟩
    · exact .inr ⟨by omega, hk.2⟩
  · rcases h.sub k hf with h3 | h3
    · exact h3
    · omega
theorem Mid.ex (h : Mid w F wi Fi g Q) (hX : Ex wi wj) : Mid w F wj Fi g Q := by
  have h1 := hX.size
  refine ⟨h.dk.ex hX, fun k hk => ?_, h.off.trans (Ex.off hX F)⟩
  rcases h.sub k hk with h3 | h3
  · exact .inl h3
  · exact .inr ⟨h3.1, by omega⟩
theorem Mid.fin (h : Mid w F wi Fi g Q) : DkP wi g (Fresh F w wi) Q ∧ Off F w wi := ⟨h.dk.more h.sub, h.off⟩
/-- A block of one's own beside the disk's. -/
theorem out_fresh {b : Nat} {e : TypeId} {cs : List Value} (hB : Blk wi b e cs) (hF : ¬ Fi b) (hO : Off Fi wi wj) : Blk wj b e cs ∧ ¬ Fresh Fi wi wj b := by
  refine ⟨hB.off hO hF, fun hk => ?_⟩
  rcases hk with hk | hk
  · exact hF hk
  · have := hB.lt; omega
end
section
variable {w : World} {g : Nat} {F : Nat → Prop} {Q : DkV} {M pd pt pn px : Nat} {s x b : ByteArray}
set_option maxHeartbeats 1000000 in
theorem pstep1_calls (h : DkP w g F Q) (ho : Q.Ok M) (hM : M ≤ 700000) (hs : s.size ≤ 9223372036854775807) (hd : Blk w pd 22 [ptrV g]) (ht : Blk w pt 9 [.string s]) (fd : ¬ F pd) (ft : ¬ F pt) :
    Calls Tryz.prog 138 #[ptrV pd, ptrV pt] w fun e w' => e = .returned (.int .i64 (Q.anew s).2) ∧ DkP w' g (Fresh F w w') (Q.anew s).1 ∧ Off F w w' := by
  have c1 : w.cell? ⟨pd, 0, none⟩ = some (ptrV g) := by rw [hd.cell]; rfl
  have c2 : w.cell? ⟨pt, 0, none⟩ = some (.string s) := by rw [ht.cell]; rfl
  have HP := Lib.hid h
  have HO := Lib.hid ho
  have HD := Lib.hid hd
  have HT := Lib.hid ht
  clear h ho hd ht
  go_enter Tryz.func138, Tryz.ntmps138
  go_wp2_with fail
  refine (dread_calls HP.out HO.out (by omega) s hs).mono ?_
  rintro e w1 ⟨rfl, hb1⟩
  have c1 := hb1.cell c1
  have c2 := hb1.cell c2
  have HM1 := Lib.hid ((Mid.start HP.out).ex hb1)
  have HD1 := Lib.hid (HD.out.ex hb1)
  have HT1 := Lib.hid (HT.out.ex hb1)
  by_cases hr : (Q.read s).2 = 0
  · have HR := Lib.hid hr
    have hr2 : ((Q.read s).2 == 0) = true := by simpa using hr
    rw [hr]
    clear hr hr2 hb1
    go_wp2_with fail
    refine (dremove_calls HM1.out.dk HO.out (by omega) s hs).mono ?_
    rintro e w2 ⟨rfl, hP, hO⟩
    have HM2 := Lib.hid (HM1.out.step hP hO)
    have HO2 := Lib.hid (remove_ok (s := s) HO.out hs)
    have HD2 := Lib.hid (out_fresh HD1.out fd hO)
    have HT2 := Lib.hid (out_fresh HT1.out ft hO)
    have c1 : w2.cell? ⟨pd, 0, none⟩ = some (ptrV g) := by rw [HD2.out.1.cell]; rfl
    have c2 : w2.cell? ⟨pt, 0, none⟩ = some (.string s) := by rw [HT2.out.1.cell]; rfl
    clear hP hO
    by_cases he : (Q.remove s).2 = 0
    · have HE := Lib.hid he
      rw [he]
      clear he
      go_wp2_with fail
      refine (dcreate_calls HM2.out.dk HO2.out (by omega) s hs).mono ?_
      rintro e w3 ⟨rfl, hP, hO⟩
      have HM3 := Lib.hid (HM2.out.step hP hO)
      clear hP hO
      go_wp2_with fail
      go_ret
      have hq : Q.anew s = (Q.remove s).1.create s := by unfold DkV.anew; rw [if_pos HR.out, if_pos HE.out]
      rw [hq]
      exact ⟨rfl, HM3.out.fin.1, HM3.out.fin.2⟩
    · have HE := Lib.hid he
      have he2 : ((Q.remove s).2 == 0) = false := by simpa using he
      have hq : Q.anew s = Q.remove s := by unfold DkV.anew; rw [if_pos HR.out, if_neg HE.out]
      have HM2' := Lib.hid HM2.out.fin
      generalize Q.remove s = R at *
      obtain ⟨R1, R2⟩ := R
      simp only at he he2 HM2' HM2 ⊢
      have HQ := Lib.hid hq
      clear hq he
      go_wp2_with fail
      go_ret
      rw [HQ.out]
      exact ⟨rfl, HM2'.out.1, HM2'.out.2⟩
  · have HR := Lib.hid hr
    have hr2 : ((Q.read s).2 == 0) = false := by simpa using hr
    have HQ := Lib.hid (show Q.anew s = Q.create s by unfold DkV.anew; rw [if_neg HR.out])
    generalize Q.read s = R at *
    obtain ⟨R1, R2⟩ := R
    simp only at hr hr2 ⊢
    go_wp2_with fail
    refine (dcreate_calls HM1.out.dk HO.out (by omega) s hs).mono ?_
    rintro e w3 ⟨rfl, hP, hO⟩
    have HM3 := Lib.hid (HM1.out.step hP hO)
    clear hP hO
    go_wp2_with fail
    go_ret
    rw [HQ.out]
    exact ⟨rfl, HM3.out.fin.1, HM3.out.fin.2⟩
theorem pstep2_calls (h : DkP w g F Q) (ho : Q.Ok M) (hM : M ≤ 700000) (hs : s.size ≤ 9223372036854775807) (hx : x.size ≤ 1000000) (hd : Blk w pd 22 [ptrV g]) (ht : Blk w pt 9 [.string s]) (hpx : Blk w px 9 [.string x]) :
    Calls Tryz.prog 139 #[ptrV pd, ptrV pt, ptrV px] w fun e w' => e = .returned (.int .i64 (Q.append s x).2) ∧ DkP w' g (Fresh F w w') (Q.append s x).1 ∧ Off F w w' := by
  have c1 : w.cell? ⟨pd, 0, none⟩ = some (ptrV g) := by rw [hd.cell]; rfl
  have c2 : w.cell? ⟨pt, 0, none⟩ = some (.string s) := by rw [ht.cell]; rfl
  have c3 : w.cell? ⟨px, 0, none⟩ = some (.string x) := by rw [hpx.cell]; rfl
  have HP := Lib.hid h
  have HO := Lib.hid ho
  clear h ho hd ht hpx
  go_enter Tryz.func139, Tryz.ntmps139
  go_wp2_with fail
  refine (dappend_calls HP.out HO.out (by omega) s x hs hx).mono ?_
  rintro e w1 ⟨rfl, hP, hO⟩
  have HF := Lib.hid (And.intro hP hO)
  clear hP hO
  go_wp2_with fail
  go_ret
  exact ⟨rfl, HF.out.1, HF.out.2⟩
theorem pstep3_calls (h : DkP w g F Q) (ho : Q.Ok M) (hM : M ≤ 700000) (hs : s.size ≤ 9223372036854775807) (hd : Blk w pd 22 [ptrV g]) (ht : Blk w pt 9 [.string s]) :
    Calls Tryz.prog 140 #[ptrV pd, ptrV pt] w fun e w' => e = .returned (.int .i64 (Q.syncT s).2) ∧ DkP w' g (Fresh F w w') (Q.syncT s).1 ∧ Off F w w' := by
  have c1 : w.cell? ⟨pd, 0, none⟩ = some (ptrV g) := by rw [hd.cell]; rfl
  have c2 : w.cell? ⟨pt, 0, none⟩ = some (.string s) := by rw [ht.cell]; rfl
  have HP := Lib.hid h
  have HO := Lib.hid ho
  clear h ho hd ht
  go_enter Tryz.func140, Tryz.ntmps140
  go_wp2_with fail
  refine (dsync_calls HP.out HO.out (by omega) s hs).mono ?_
  rintro e w1 ⟨rfl, hP, hO⟩
  have HF := Lib.hid (And.intro hP hO)
  clear hP hO
  go_wp2_with fail
  go_ret
  exact ⟨rfl, HF.out.1, HF.out.2⟩
theorem pstep4_calls (h : DkP w g F Q) (ho : Q.Ok M) (hM : M ≤ 700000) (hs : s.size ≤ 9223372036854775807) (hb : b.size ≤ 9223372036854775807) (hd : Blk w pd 22 [ptrV g]) (ht : Blk w pt 9 [.string s]) (hpn : Blk w pn 9 [.string b]) :
    Calls Tryz.prog 141 #[ptrV pd, ptrV pt, ptrV pn] w fun e w' => e = .returned (.int .i64 (Q.rename s b).2) ∧ DkP w' g (Fresh F w w') (Q.rename s b).1 ∧ Off F w w' := by
  have c1 : w.cell? ⟨pd, 0, none⟩ = some (ptrV g) := by rw [hd.cell]; rfl
  have c2 : w.cell? ⟨pt, 0, none⟩ = some (.string s) := by rw [ht.cell]; rfl
  have c3 : w.cell? ⟨pn, 0, none⟩ = some (.string b) := by rw [hpn.cell]; rfl
  have HP := Lib.hid h
  have HO := Lib.hid ho
  clear h ho hd ht hpn
  go_enter Tryz.func141, Tryz.ntmps141
  go_wp2_with fail
  refine (drename_calls HP.out HO.out (by omega) s b hs hb).mono ?_
  rintro e w1 ⟨rfl, hP, hO⟩
  have HF := Lib.hid (And.intro hP hO)
  clear hP hO
  go_wp2_with fail
  go_ret
  exact ⟨rfl, HF.out.1, HF.out.2⟩
theorem pstep5_calls (h : DkP w g F Q) (ho : Q.Ok M) (hM : M ≤ 700000) (hd : Blk w pd 22 [ptrV g]) :
    Calls Tryz.prog 142 #[ptrV pd] w fun e w' => e = .returned (.int .i64 Q.syncAll.2) ∧ DkP w' g (Fresh F w w') Q.syncAll.1 ∧ Off F w w' := by
  have c1 : w.cell? ⟨pd, 0, none⟩ = some (ptrV g) := by rw [hd.cell]; rfl
  have HP := Lib.hid h
  have HO := Lib.hid ho
  clear h ho hd
  go_enter Tryz.func142, Tryz.ntmps142
  go_wp2_with fail
  refine (dsyncAll_calls HP.out HO.out (by omega)).mono ?_
  rintro e w1 ⟨rfl, hP, hO⟩
  have HF := Lib.hid (And.intro hP hO)
  clear hP hO
  go_wp2_with fail
  go_ret
  exact ⟨rfl, HF.out.1, HF.out.2⟩
end
/-- The five steps, as values. -/
def planV (pd pt pn px : Nat) : Value := .agg #[.func (.func 138) #[] #[ptrV pd, ptrV pt], .func (.func 139) #[] #[ptrV pd, ptrV pt, ptrV px], .func (.func 140) #[] #[ptrV pd, ptrV pt], .func (.func 141) #[] #[ptrV pd, ptrV pt, ptrV pn], .func (.func 142) #[] #[ptrV pd]]
def planCs (pd pt pn px : Nat) : List Value := [.func (.func 138) #[] #[ptrV pd, ptrV pt], .func (.func 139) #[] #[ptrV pd, ptrV pt, ptrV px], .func (.func 140) #[] #[ptrV pd, ptrV pt], .func (.func 141) #[] #[ptrV pd, ptrV pt, ptrV pn], .func (.func 142) #[] #[ptrV pd]]
theorem info_p5 : (Tryz.prog.info? 137).map (·.size) = some 5 := by kernel_rfl
theorem plan_calls (g : Nat) (s b x : ByteArray) (w : World) :
    Calls Tryz.prog 94 #[ptrV g, .string s, .string b, .string x] w fun e w' => ∃ pd pt pn px, e = .returned (planV pd pt pn px) ∧ w.heap.size ≤ pd ∧ w.heap.size ≤ pt ∧ w.heap.size ≤ pn ∧ w.heap.size ≤ px ∧
      Blk w' pd 22 [ptrV g] ∧ Blk w' pt 9 [.string s] ∧ Blk w' pn 9 [.string b] ∧ Blk w' px 9 [.string x] ∧ Ex w w' := by
  have hmf : ∀ (fn : Fn) (first cap : Array Value) (w : World), (Instr.makeFunc fn first cap).run Tryz.prog w = .ok (.func fn first cap) w := fun _ _ _ _ => rfl
  go_enter Tryz.func94, Tryz.ntmps94
  have b1 := blk_two w (.cells #[ptrV g] 22) [.string s] 9
  have b2 := blk_two (w.alloc (.cells #[ptrV g] 22)) (.cells #[.string s] 9) [.string b] 9
  have b3 := blk_two ((w.alloc (.cells #[ptrV g] 22)).alloc (.cells #[.string s] 9)) (.cells #[.string b] 9) [.string x] 9
  have b4 := blk_two (((w.alloc (.cells #[ptrV g] 22)).alloc (.cells #[.string s] 9)).alloc (.cells #[.string b] 9)) (.cells #[.string x] 9) (planCs w.heap.size (w.heap.size + 1) (w.heap.size + 1 + 1) (w.heap.size + 1 + 1 + 1)) 137
  have hx := ex_alloc (ex_two ((w.alloc (.cells #[ptrV g] 22)).alloc (.cells #[.string s] 9)) (.cells #[.string b] 9) (.cells #[.string x] 9)) (.cells (planCs w.heap.size (w.heap.size + 1) (w.heap.size + 1 + 1) (w.heap.size + 1 + 1 + 1)).toArray 137)
  have b0 := Blk.new w [ptrV g] 22
  simp only [World.size_alloc] at b2 b3 b4
  have HB := Lib.hid (And.intro b0 (And.intro b1 (And.intro b2 (And.intro b3 (And.intro b4 hx)))))
  clear b0 b1 b2 b3 b4 hx
  go_wp2_with fail
  refine bodyPost_ret (results_cell_row rfl _ _ (w.heap.size + 1 + 1 + 1 + 1) 137 _ (0, 0) _ rfl HB.out.2.2.2.2.1 Tryz.underlying137 rfl info_p5) rfl ?_
  obtain ⟨b0, b1, b2, b3, b4, hx⟩ := HB.out
  refine ⟨w.heap.size, w.heap.size + 1, w.heap.size + 1 + 1, w.heap.size + 1 + 1 + 1, rfl, by omega, by omega, by omega, by omega, ?_, ?_, ?_, ?_, ?_⟩
  · exact (((b0.ex (ex_alloc (Ex.refl _) _)).ex (ex_alloc (Ex.refl _) _)).ex (ex_alloc (Ex.refl _) _)).ex (ex_alloc (Ex.refl _) _)
  · exact ((b1.ex (ex_alloc (Ex.refl _) _)).ex (ex_alloc (Ex.refl _) _)).ex (ex_alloc (Ex.refl _) _)
  · exact (b2.ex (ex_alloc (Ex.refl _) _)).ex (ex_alloc (Ex.refl _) _)
  · exact b3.ex (ex_alloc (Ex.refl _) _)
  · exact (ex_two w _ _).trans hx
end Go.Proofs.YtcffkmlnbnjibaaGreat
