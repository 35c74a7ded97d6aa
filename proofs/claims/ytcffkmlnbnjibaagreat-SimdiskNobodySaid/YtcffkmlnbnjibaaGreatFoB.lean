/- Walks: a folder: what it is, one more change. -/
import Derived.Test.YtcffkmlnbnjibaaGreatFoA
import Derived.Test.YtcffkmlnbnjibaaGreatFuC
import Derived.Deep.RegionHeld3
import Derived.Deep.RegionLaw
namespace Go.Proofs.YtcffkmlnbnjibaaGreat
open Go.RowKit Go.Maps
/-- A folder: what lasts, and the changes that wait. -/
structure FoV where
  kept : List Mk
  ch : List Chg
namespace FoV
def now (q : FoV) : List Mk := q.ch.foldl (fun l c => c.ap l) q.kept
def doC (q : FoV) (c : Chg) : FoV := ⟨q.kept, q.ch ++ [c]⟩
theorem now_do (q : FoV) (c : Chg) : (q.doC c).now = c.ap q.now := by
  unfold now doC
  rw [List.foldl_append]; rfl
/-- The first k changes last; the others never were. -/
def settle (q : FoV) (k : Nat) : FoV := ⟨(q.ch.take k).foldl (fun l c => c.ap l) q.kept, []⟩
end FoV
/-- A name and its number. -/
def MkOk (m : Mk) : Prop := m.nm.size ≤ 9223372036854775807 ∧ -9223372036854775808 ≤ m.pl ∧ m.pl ≤ 9223372036854775807
theorem ap_all {P : Mk → Prop} {c : Chg} (hc : c.pu = true → P ⟨c.come, c.id⟩) {l : List Mk} (h : ∀ m ∈ l, P m) : ∀ m ∈ c.ap l, P m := by
  have hd : ∀ m ∈ c.d l, P m := by
    unfold Chg.d
    split
    · exact fun m hm => h m (List.mem_filter.1 hm).1
    · exact h
  unfold Chg.ap Chg.p
  split
  · rename_i hp
    intro m hm
    rcases (insM_mem _ _ _).1 hm with rfl | hm
    · exact hc hp
    · exact hd m (List.mem_filter.1 hm).1
  · exact hd
theorem fold_all {P : Mk → Prop} : ∀ {ch : List Chg}, (∀ c ∈ ch, c.pu = true → P ⟨c.come, c.id⟩) → ∀ {l : List Mk}, (∀ m ∈ l, P m) → ∀ m ∈ ch.foldl (fun l c => c.ap l) l, P m
  | [], _, _, h => h
  | c :: r, hc, _, h => fold_all (ch := r) (fun x hx => hc x (by simp [hx])) (ap_all (hc c (by simp)) h)
namespace FoV
/-- All is of some size. -/
structure Ok (q : FoV) (M : Nat) : Prop where
  kl : q.kept.length + q.ch.length ≤ M
  ks : ∀ m ∈ q.kept, MkOk m
  cs : ∀ c ∈ q.ch, c.Ok
end FoV
theorem foldl_ap_len : ∀ (ch : List Chg) (l : List Mk), (ch.foldl (fun l c => c.ap l) l).length ≤ l.length + ch.length
  | [], l => by simp
  | c :: r, l => by
    have := foldl_ap_len r (c.ap l)
    have := c.ap_len l
    rw [List.foldl_cons, List.length_cons]
    omega
theorem FoV.Ok.now_len {q : FoV} {M : Nat} (h : q.Ok M) : q.now.length ≤ M := Nat.le_trans (foldl_ap_len q.ch q.kept) h.kl
theorem Chg.Ok.mk {c : Chg} (h : c.Ok) : MkOk ⟨c.come, c.id⟩ := ⟨h.2.1, h.2.2.1, h.2.2.2⟩
theorem FoV.Ok.now_all {q : FoV} {M : Nat} (h : q.Ok M) : ∀ m ∈ q.now, MkOk m := fold_all (fun c hc _ => (h.cs c hc).mk) h.ks
theorem findM_mem {P : Mk → Prop} {s : ByteArray} {l : List Mk} (h : ∀ m ∈ l, P m) (hf : (findM s l).2 = true) : ∃ m ∈ l, P m ∧ nmIs s m = true ∧ (findM s l).1 = m.pl := by
  unfold findM at hf ⊢
  cases hq : l.find? (nmIs s) with
  | none => rw [hq] at hf; cases hf
  | some m => exact ⟨m, List.mem_of_find?_eq_some hq, h m (List.mem_of_find?_eq_some hq), List.find?_some hq, rfl⟩
theorem findM_in {q : FoV} {M : Nat} (h : q.Ok M) (s : ByteArray) : -9223372036854775808 ≤ (findM s q.now).1 ∧ (findM s q.now).1 ≤ 9223372036854775807 := by
  cases hf : (findM s q.now).2
  · have : (findM s q.now).1 = 0 := by
      unfold findM at hf ⊢
      cases hq : q.now.find? (nmIs s) with
      | none => rfl
      | some m => rw [hq] at hf; cases hf
    rw [this]; omega
  · obtain ⟨m, _, ho, _, e⟩ := findM_mem h.now_all hf
    rw [e]; exact ho.2
theorem FoV.Ok.do {q : FoV} {M : Nat} {c : Chg} (h : q.Ok M) (hc : c.Ok) : (q.doC c).Ok (M + 1) :=
  ⟨by have := h.kl; unfold FoV.doC; simp only [List.length_append, List.length_cons, List.length_nil]; omega, h.ks, fun x hx => by
    rcases List.mem_append.1 hx with hx | hx
    · exact h.cs x hx
    · rcases List.mem_cons.1 hx with rfl | hx
      · exact hc
      · cases hx⟩
/-- The blocks of F, and new ones. -/
def Fresh (F : Nat → Prop) (w w' : World) : Nat → Prop := fun k => F k ∨ (w.heap.size ≤ k ∧ k < w'.heap.size)
/-- A folder's blocks. -/
structure FoR (w : World) (g : Nat) (F : Nat → Prop) (q : FoV) (kb nb : Nat) (v : Value) : Prop where
  blk : Blk w g 153 [.map (some kb), .map (some nb), v, .bool true]
  kept : MapN w kb q.kept
  now : MapN w nb q.now
  own : w.ownsRow 0 157 5 v q.ch.length (q.ch.flatMap Chg.cs)
  kn : kb ≠ nb
  gk : g ≠ kb
  gn : g ≠ nb
  vs : ∀ k, v.ownBlock = some k → k ≠ g ∧ k ≠ kb ∧ k ≠ nb ∧ F k
  fg : F g
  fk : F kb
  fn : F nb
def FoP (w : World) (g : Nat) (F : Nat → Prop) (q : FoV) : Prop := ∃ kb nb v, FoR w g F q kb nb v
theorem FoR.ex {w w' : World} {g : Nat} {F : Nat → Prop} {q : FoV} {kb nb : Nat} {v : Value} (h : FoR w g F q kb nb v) (hb : Ex w w') : FoR w' g F q kb nb v :=
  { h with blk := h.blk.ex hb, kept := h.kept.ex hb, now := h.now.ex hb, own := own_ex h.own hb }
theorem FoR.more {w : World} {g : Nat} {F G : Nat → Prop} {q : FoV} {kb nb : Nat} {v : Value} (h : FoR w g F q kb nb v) (hF : ∀ k, F k → G k) : FoR w g G q kb nb v :=
  { h with vs := fun k hk => by obtain ⟨a, b, c, d⟩ := h.vs k hk; exact ⟨a, b, c, hF k d⟩, fg := hF _ h.fg, fk := hF _ h.fk, fn := hF _ h.fn }
theorem own_off {G : Nat → Prop} {w w' : World} {base sz n : Nat} {e : TypeId} {v : Value} {cs : List Value} (h : w.ownsRow base e sz v n cs) (hb : Off G w w') (hG : ∀ k, v.ownBlock = some k → ¬ G k) : w'.ownsRow base e sz v n cs := by
  refine ⟨h.1, ?_⟩
  rcases h.2 with hn | ⟨g, cap, cur, r1, r2, r3, r4⟩
  · exact .inl hn
  · exact .inr ⟨g, cap, cur, r1, r2, (hb.block g (Array.getElem?_eq_some_iff.1 r3).1 (hG g (by rw [r1]; rfl))).trans r3, r4⟩
theorem own_lt {w : World} {base sz n : Nat} {e : TypeId} {v : Value} {cs : List Value} (h : w.ownsRow base e sz v n cs) {k : Nat} (hk : v.ownBlock = some k) : k < w.heap.size := (h.lt k hk).2
theorem FoP.ex {w w' : World} {g : Nat} {F : Nat → Prop} {q : FoV} (h : FoP w g F q) (hb : Ex w w') : FoP w' g F q := by
  obtain ⟨kb, nb, v, h⟩ := h
  exact ⟨kb, nb, v, h.ex hb⟩
theorem FoP.more {w : World} {g : Nat} {F G : Nat → Prop} {q : FoV} (h : FoP w g F q) (hF : ∀ k, F k → G k) : FoP w g G q := by
  obtain ⟨kb, nb, v, h⟩ := h
  exact ⟨kb, nb, v, h.more hF⟩
theorem FoP.off {w w' : World} {g : Nat} {F G : Nat → Prop} {q : FoV} (h : FoP w g F q) (hb : Off G w w') (hG : ∀ k, k < w.heap.size → F k → ¬ G k) : FoP w' g F q := by
  obtain ⟨kb, nb, v, h⟩ := h
  exact ⟨kb, nb, v, { h with blk := h.blk.off hb (hG _ h.blk.lt h.fg), kept := h.kept.off hb (hG _ h.kept.lt h.fk), now := h.now.off hb (hG _ h.now.lt h.fn), own := own_off h.own hb fun k hk => hG k (own_lt h.own hk) (h.vs k hk).2.2.2 }⟩
theorem fonone_calls {w : World} {g : Nat} {F : Nat → Prop} {q : FoV} (h : FoP w g F q) : Calls Tryz.prog 106 #[.pointer (some ⟨g, 0, none⟩)] w fun e w' => e = .returned (.bool false) ∧ Ex w w' := by
  obtain ⟨kb, nb, v, h⟩ := h
  have hc : w.cell? ⟨g, 3, none⟩ = some (.bool true) := by rw [h.blk.cell]; rfl
  clear h
  go_enter Tryz.func106, Tryz.ntmps106
  go_wp2_with fail
  go_ret
  exact ⟨rfl, Ex.refl _⟩
theorem fonone_nil (w : World) : Calls Tryz.prog 106 #[.pointer none] w fun e w' => e = .returned (.bool true) ∧ Ex w w' := by
  go_enter Tryz.func106, Tryz.ntmps106
  go_wp2_with fail
  go_ret
  exact ⟨rfl, Ex.refl _⟩
theorem fofind_calls {w : World} {g : Nat} {F : Nat → Prop} {q : FoV} (s : ByteArray) (hs : s.size ≤ 9223372036854775807) (h : FoP w g F q) :
    Calls Tryz.prog 50 #[.pointer (some ⟨g, 0, none⟩), .string s] w fun e w' => e = .returned (.tuple #[.int .i64 (findM s q.now).1, .bool (findM s q.now).2]) ∧ Ex w w' := by
  have H := Lib.hid h
  clear h
  go_enter Tryz.func50, Tryz.ntmps50
  go_wp2_with fail
  refine (fonone_calls H.out).mono ?_
  rintro e w1 ⟨rfl, hb1⟩
  obtain ⟨kb, nb, v, h⟩ := H.out.ex hb1
  have hc : w1.cell? ⟨g, 1, none⟩ = some (.map (some nb)) := by rw [h.blk.cell]; rfl
  have hl := h.now.look_ok hs
  clear h
  go_wp2_with fail
  go_ret2
  exact ⟨rfl, hb1⟩
set_option maxHeartbeats 1000000 in
theorem fonew_calls (w : World) : Calls Tryz.prog 82 #[] w fun e w' => ∃ g, e = .returned (.pointer (some ⟨g, 0, none⟩)) ∧ w.heap.size ≤ g ∧ FoP w' g (Fresh (fun _ => False) w w') ⟨[], []⟩ ∧ Ex w w' := by
  have hmm := @run_makeMap Tryz.prog
  go_enter Tryz.func82, Tryz.ntmps82
  go_wp2_with fail
  go_ret
  have hb1 := ex_alloc (Ex.refl (w.alloc (.map #[] 0))) (.map #[] 0)
  have hb2 := ex_alloc (Ex.refl ((w.alloc (.map #[] 0)).alloc (.map #[] 0))) (.cells #[.map (some w.heap.size), .map (some (w.heap.size + 1)), .slice none 0 0, .bool true] 153)
  have m1 : MapN (w.alloc (.map #[] 0)) w.heap.size [] := MapB.made w _ _
  have m2 : MapN ((w.alloc (.map #[] 0)).alloc (.map #[] 0)) (w.alloc (.map #[] 0)).heap.size [] := MapB.made (w.alloc (.map #[] 0)) _ _
  have e2 : (w.alloc (.map #[] 0)).heap.size = w.heap.size + 1 := by simp
  have e3 : ((w.alloc (.map #[] 0)).alloc (.map #[] 0)).heap.size = w.heap.size + 1 + 1 := by simp
  have e4 : (((w.alloc (.map #[] 0)).alloc (.map #[] 0)).alloc (.cells #[.map (some w.heap.size), .map (some (w.heap.size + 1)), .slice none 0 0, .bool true] 153)).heap.size = w.heap.size + 1 + 1 + 1 := by simp
  have hk := Blk.new ((w.alloc (.map #[] 0)).alloc (.map #[] 0)) [.map (some w.heap.size), .map (some (w.heap.size + 1)), .slice none 0 0, .bool true] 153
  rw [e3] at hk
  rw [e2] at m2
  refine ⟨w.heap.size + 1 + 1, rfl, by omega, ⟨w.heap.size, w.heap.size + 1, .slice none 0 0, ?_⟩, ex_three _ _ _ _⟩
  have hf : ∀ k, w.heap.size ≤ k → k < w.heap.size + 1 + 1 + 1 → Fresh (fun _ => False) w (((w.alloc (.map #[] 0)).alloc (.map #[] 0)).alloc (.cells #[.map (some w.heap.size), .map (some (w.heap.size + 1)), .slice none 0 0, .bool true] 153)) k := fun k h1 h2 => .inr ⟨h1, by rw [e4]; exact h2⟩
  exact ⟨hk, (m1.ex hb1).ex hb2, m2.ex hb2, World.ownsRow_nil _ _ _ _, by omega, by omega, by omega, (fun k hk => by cases hk), hf _ (by omega) (by omega), hf _ (by omega) (by omega), hf _ (by omega) (by omega)⟩
theorem info_ch : (Tryz.prog.info? 157).map (fun i => (i.zero, i.size, i.bytes)) = some (some (.agg #[.bool false, .string ⟨#[]⟩, .bool false, .string ⟨#[]⟩, .int .i64 0]), 5, 56) := by kernel_rfl
theorem Chg.one (l : List Chg) : ∀ u ∈ l.flatMap Chg.cs, u.oneCell' = true := by
  intro u hu
  obtain ⟨m, _, hm⟩ := List.mem_flatMap.1 hu
  simp only [Chg.cs, List.mem_cons, List.not_mem_nil, or_false] at hm
  rcases hm with rfl | rfl | rfl | rfl | rfl <;> rfl
theorem row_ch {w : World} {b : Nat} {c : Chg} (h : Blk w b 157 c.cs) : Row w 5 (some ⟨b, 0, none⟩) 1 c.cs := by
  have := h.row (k := 5) (n := 1) (by simp [Chg.cs])
  simpa [Chg.cs] using this
theorem Chg.one1 (c : Chg) : ∀ u ∈ c.cs, u.oneCell' = true := by
  have := Chg.one [c]
  simpa using this
theorem MapN.grown {w w' : World} {b : Nat} {l : List Mk} {row : Option Nat} (h : MapN w b l) (hg : w.grownBy w' row) (hr : some b ≠ row) : MapN w' b l := MapB.keep h (hg.block b h.lt hr)
theorem fodo_fin {w W w2 wa w3 w4 : World} {g kb nb : Nat} {F : Nat → Prop} {q : FoV} {v v' : Value} {c : Chg} (HR : FoR w g F q kb nb v) (hX : Ex w W) (hO : Off (· = nb) W w2) (hM : MapN w2 nb (c.ap q.now)) (hE : Ex w2 wa)
    (hg : wa.grownBy w3 v.ownBlock) (hv : v'.ownBlock = v.ownBlock ∨ v'.ownBlock = some wa.heap.size) (ho : w3.ownsRow 0 157 5 v' (q.ch.length + 1) (q.ch.flatMap Chg.cs ++ c.cs))
    (hB : Blk w3 g 153 [.map (some kb), .map (some nb), v, .bool true]) (h4 : Ex (w3.setCell ⟨g, 2, none⟩ v') w4) : FoP w4 g (Fresh F w w4) (q.doC c) ∧ Off F w w4 := by
  have z1 := hX.size
  have z2 := hO.size
  have z3 := hE.size
  have z4 := hg.size
  have z5 := h4.size
  have z6 : (w3.setCell ⟨g, 2, none⟩ v').heap.size = w3.heap.size := by simp [World.setCell]
  have l1 := HR.blk.lt
  have l2 := HR.kept.lt
  have l3 := HR.now.lt
  have hos := off_set w3 g 2 v'
  have hvk : ∀ k, v'.ownBlock = some k → v.ownBlock = some k ∨ k = wa.heap.size := fun k hk => by
    rcases hv with h | h
    · exact .inl (h ▸ hk)
    · rw [hk] at h; injection h with h; exact .inr h
  have hvw : ∀ b, (b = g ∨ b = kb ∨ b = nb) → some b ≠ v.ownBlock := fun b hb e => by
    obtain ⟨a1, a2, a3, _⟩ := HR.vs b e.symm
    rcases hb with h | h | h
    · exact a1 h
    · exact a2 h
    · exact a3 h
  refine ⟨⟨kb, nb, v', ?_⟩, ?_⟩
  · refine ⟨?_, ?_, ?_, ?_, HR.kn, HR.gk, HR.gn, fun k hk => ?_, .inl HR.fg, .inl HR.fk, .inl HR.fn⟩
    · exact (hB.setCell (i := 2) v').ex h4
    · exact ((((((HR.kept.ex hX).off hO HR.kn).ex hE).grown hg (hvw kb (.inr (.inl rfl)))).off hos (fun e => HR.gk e.symm))).ex h4
    · rw [FoV.now_do]
      exact ((((hM.ex hE).grown hg (hvw nb (.inr (.inr rfl)))).off hos (fun e => HR.gn e.symm))).ex h4
    · have e1 : (q.doC c).ch.length = q.ch.length + 1 := by unfold FoV.doC; simp
      have e2 : (q.doC c).ch.flatMap Chg.cs = q.ch.flatMap Chg.cs ++ c.cs := by unfold FoV.doC; simp
      rw [e1, e2]
      refine own_ex (own_off ho hos fun k hk e => ?_) h4
      rcases hvk k hk with h | h
      · exact (HR.vs k h).1 e
      · omega
    · have hk3 := own_lt ho hk
      rcases hvk k hk with h | h
      · obtain ⟨a1, a2, a3, a4⟩ := HR.vs k h
        exact ⟨a1, a2, a3, .inl a4⟩
      · exact ⟨by omega, by omega, by omega, .inr ⟨by omega, by omega⟩⟩
  · have s1 : Off F w w2 := (hX.off F).then (hO.mono (G := F) fun k _ e => e ▸ HR.fn) fun _ _ h => h
    have s2 : Off F w w3 := ((s1.trans (hE.off F)).grown hg fun k hk => .inl (HR.vs k hk).2.2.2)
    have s3 : Off F w (w3.setCell ⟨g, 2, none⟩ v') := s2.setCell (p := ⟨g, 2, none⟩) (.inl HR.fg) v'
    exact s3.trans (h4.off F)
set_option maxHeartbeats 1000000 in
set_option maxRecDepth 100000 in
theorem fodo_calls {w : World} {g : Nat} {F : Nat → Prop} {q : FoV} (c : Chg) (hc : c.Ok) {M : Nat} (ho : q.Ok M) (hM : M ≤ 1000000) (h : FoP w g F q) :
    Calls Tryz.prog 116 #[.pointer (some ⟨g, 0, none⟩), c.val] w fun e w' => e = .returned (.tuple #[]) ∧ FoP w' g (Fresh F w w') (q.doC c) ∧ Off F w w' := by
  obtain ⟨kb, nb, v, h⟩ := h
  obtain ⟨dr, gone, pu, come, id⟩ := c
  have hX0 := ex_alloc (Ex.refl w) (.cells #[.bool dr, .string gone, .bool pu, .string come, .int .i64 id] 157)
  have hK : Blk (w.alloc (.cells #[.bool dr, .string gone, .bool pu, .string come, .int .i64 id] 157)) w.heap.size 157 [.bool dr, .string gone, .bool pu, .string come, .int .i64 id] := Blk.new w _ _
  have c1 : (w.alloc (.cells #[.bool dr, .string gone, .bool pu, .string come, .int .i64 id] 157)).cell? ⟨g, 1, none⟩ = some (.map (some nb)) := hX0.cell (by rw [h.blk.cell]; rfl)
  have k0 : (w.alloc (.cells #[.bool dr, .string gone, .bool pu, .string come, .int .i64 id] 157)).cell? ⟨w.heap.size, 0, none⟩ = some (.bool dr) := by rw [hK.cell]; rfl
  have k1 : (w.alloc (.cells #[.bool dr, .string gone, .bool pu, .string come, .int .i64 id] 157)).cell? ⟨w.heap.size, 1, none⟩ = some (.string gone) := by rw [hK.cell]; rfl
  have k2 : (w.alloc (.cells #[.bool dr, .string gone, .bool pu, .string come, .int .i64 id] 157)).cell? ⟨w.heap.size, 2, none⟩ = some (.bool pu) := by rw [hK.cell]; rfl
  have k3 : (w.alloc (.cells #[.bool dr, .string gone, .bool pu, .string come, .int .i64 id] 157)).cell? ⟨w.heap.size, 3, none⟩ = some (.string come) := by rw [hK.cell]; rfl
  have k4 : (w.alloc (.cells #[.bool dr, .string gone, .bool pu, .string come, .int .i64 id] 157)).cell? ⟨w.heap.size, 4, none⟩ = some (.int .i64 id) := by rw [hK.cell]; rfl
  have HX0 := Lib.hid hX0
  have HK := Lib.hid hK
  have HR := Lib.hid h
  have HL := Lib.hid ho.now_len
  clear hX0 hK h
  unfold Chg.val
  go_enter Tryz.func116, Tryz.ntmps116
  go_wp2_with fail
  have hz0 : (w.alloc (.cells #[.bool dr, .string gone, .bool pu, .string come, .int .i64 id] 157)).heap.size = w.heap.size + 1 := by simp
  have HZ0 := Lib.hid hz0
  clear hz0
  generalize (w.alloc (.cells #[.bool dr, .string gone, .bool pu, .string come, .int .i64 id] 157)) = W at *
  have HN := Lib.hid (HR.out.ex HX0.out).now
  have hnw : ¬ w.heap.size = nb := by have := HR.out.now.lt; omega
  go_region_held3 (fun w' => w'.cell? ⟨g, 1, none⟩ = some (.map (some nb)) ∧ w'.cell? ⟨w.heap.size, 0, none⟩ = some (.bool dr) ∧ w'.cell? ⟨w.heap.size, 1, none⟩ = some (.string gone) ∧ w'.cell? ⟨w.heap.size, 2, none⟩ = some (.bool pu) ∧ w'.cell? ⟨w.heap.size, 3, none⟩ = some (.string come) ∧ w'.cell? ⟨w.heap.size, 4, none⟩ = some (.int .i64 id)) (go_keep) ((go_at_call 154; refine (apply_calls ⟨dr, gone, pu, come, id⟩ (MapN.ex HN.out (Ex.refl W).drew) (by have := HL.out; omega) hc).mono ?_; rintro e w2 ⟨rfl, hM2, hO2⟩; have HM2 := Lib.hid hM2; have HO2 := Lib.hid ((Ex.off (Ex.refl W).drew (· = nb)).trans hO2); clear hM2 hO2; have d1 := HO2.out.cell c1 HR.out.gn; have e0 := HO2.out.cell k0 hnw; have e1 := HO2.out.cell k1 hnw; have e2 := HO2.out.cell k2 hnw; have e3 := HO2.out.cell k3 hnw; have e4 := HO2.out.cell k4 hnw))
  have HR2 := Lib.hid (HR.out.ex HX0.out)
  have c2 : w2.cell? ⟨g, 2, none⟩ = some v := HO2.out.cell (by rw [HR2.out.blk.cell]; rfl) HR.out.gn
  have f2 : w2.frozen? ⟨g, 2, none⟩ = false := (HR2.out.blk.off HO2.out HR.out.gn).frozen 2
  have HW := Lib.hid (own_off HR2.out.own HO2.out (fun k hk => fun e => (HR.out.vs k hk).2.2.1 e))
  have HBg := Lib.hid (HR2.out.blk.off HO2.out HR.out.gn)
  obtain ⟨i0, hi0, hz0, hz1, hz2⟩ := info_parts info_ch
  have hvg : some g ≠ v.ownBlock := fun e => (HR.out.vs g e.symm).1 rfl
  have hlen : q.ch.length ≤ 1000000 := by have := ho.kl; omega
  have hca : (w2.alloc (.cells #[.bool dr, .string gone, .bool pu, .string come, .int .i64 id] 157)).cell? ⟨g, 2, none⟩ = some v := (ex_alloc (Ex.refl w2) _).cell c2
  clear d1 c1 k0 k1 k2 k3 k4 hnw
  go_wp2_with fail
  go_region_law (refine step_append_row _ rfl (.tmp 14) (.tmp 16) 151 rfl 0 157 i0 _ 5 56 Tryz.underlying151 hi0 hz0 hz1 hz2 rfl (by decide) v q.ch.length (q.ch.flatMap Chg.cs) ?hs1 (own_ex (w := w2) HW.out ?hb1) (some ⟨w2.heap.size, 0, none⟩) 1 1 (Chg.cs ⟨dr, gone, pu, come, id⟩) ?hx1 ?hr1 (Chg.one1 _) (by unfold maxLen; omega) (by omega) (Nat.zero_le _) ?_; (case hs1 => go_simp); (case hx1 => go_simp); (case hb1 => first | exact (ex_alloc (Ex.refl w2) _).drew | exact ex_alloc (Ex.refl w2).drew _); (case hr1 => exact row_ch (heap_alloc_new w2 _)); intro v' w3 ho3 hg3 hv3; obtain ⟨A3, n3, rfl, _⟩ := own_shape ho3; have HB3 : Blk w3 g 153 [.map (some kb), .map (some nb), v, .bool true] := (by refine Blk.grown ?_ hg3 hvg; first | exact HBg.out.ex (ex_alloc (Ex.refl w2) _).drew | exact HBg.out.ex (ex_alloc (Ex.refl w2).drew _)); have c3 : w3.cell? ⟨g, 2, none⟩ = some v := (by rw [HB3.cell]; rfl); have f3 := HB3.frozen 2; have HB3' := Lib.hid HB3; have HO3 := Lib.hid ho3; clear HB3 ho3)
  all_goals go_wp2_with fail
  all_goals go_end0
  all_goals refine ⟨rfl, ?_⟩
  all_goals refine fodo_fin (c := ⟨dr, gone, pu, come, id⟩) (wa := _) HR.out HX0.out HO2.out HM2.out ?_ hg3 hv3 HO3.out HB3'.out ?_
  all_goals first | exact Ex.refl _ | exact ex_alloc (Ex.refl w2).drew _ | exact (ex_alloc (Ex.refl w2) _).drew
end Go.Proofs.YtcffkmlnbnjibaaGreat
