/- Walks: a folder's names, its changes. -/
import Derived.Test.YtomfcgeibbicoaaGreatMap0
import Derived.Test.YtomfcgeibbicoaaGreatReg
import Derived.Test.YtomfcgeibbicoaaGreatProg
import Derived.Laws.EntriesVeiled
import Derived.StringKeys
import Derived.Test.YtomfcgeibbicoaaGreatFu0
import Derived.Deep.RegionHeld3
import Derived.Deep.RegionLaw
import Derived.Shelf.SlMaps.Clone
import Derived.Shelf.SlIter.Nil
import Derived.Shelf.SlIterI.Nil
import Derived.Shelf.SortM.Plain
import Derived.Shelf.SortM.SortNone
namespace Go.Proofs.YtomfcgeibbicoaaGreat
open Go.RowKit Go.Maps Go.WideMaps
/-- A change: a name goes, a name comes. -/
structure Chg where
  dr : Bool
  gone : ByteArray
  pu : Bool
  come : ByteArray
  id : Int
def Chg.cs (c : Chg) : List Value := [.bool c.dr, .string c.gone, .bool c.pu, .string c.come, .int .i64 c.id]
def Chg.val (c : Chg) : Value := .agg #[.bool c.dr, .string c.gone, .bool c.pu, .string c.come, .int .i64 c.id]
def Chg.d (c : Chg) (l : List Mk) : List Mk := if c.dr = true then l.filter (nmNot c.gone) else l
def Chg.p (c : Chg) (l : List Mk) : List Mk := if c.pu = true then putM ⟨c.come, c.id⟩ l else l
def Chg.ap (c : Chg) (l : List Mk) : List Mk := c.p (c.d l)
theorem Chg.d_len (c : Chg) (l : List Mk) : (c.d l).length ≤ l.length := by
  unfold d
  split
  · exact List.length_filter_le _ _
  · exact Nat.le_refl _
theorem Chg.ap_len (c : Chg) (l : List Mk) : (c.ap l).length ≤ l.length + 1 := by
  have := c.d_len l
  unfold ap p
  split
  · have := putM_len ⟨c.come, c.id⟩ (c.d l); omega
  · omega
/-- The names that it speaks of are names. -/
def Chg.Ok (c : Chg) : Prop := c.gone.size ≤ 9223372036854775807 ∧ c.come.size ≤ 9223372036854775807 ∧ -9223372036854775808 ≤ c.id ∧ c.id ≤ 9223372036854775807
abbrev strKey : Keyed Tryz.prog 9 := string_keyed Tryz.underlying9
def MapN (w : World) (b : Nat) (l : List Mk) : Prop := MapB w Tryz.prog 9 b (enL l)
theorem enL_len (l : List Mk) : (enL l).length = l.length := by unfold enL; rw [List.length_map]
theorem key_nm {s : ByteArray} (h : s.size ≤ 9223372036854775807) : keyOf Tryz.prog 9 (.string s) = some (nmK s) := keyOf_string_mk Tryz.underlying9 (by unfold maxLen; exact h)
theorem zero_int (w : World) : (zeroValue 3).run Tryz.prog w = .ok (.int .i64 0) w := by kernel_rfl
theorem MapN.drop {w : World} {b : Nat} {l : List Mk} (h : MapN w b l) {s : ByteArray} (hs : s.size ≤ 9223372036854775807) (ty : TypeId) :
    ∃ w', (Builtin.delete_ #[167, 9] ty #[.map (some b), .string s]).run Tryz.prog w = .ok (.tuple #[]) w' ∧ MapN w' b (l.filter (nmNot s)) ∧ w.grownBy w' (some b) := by
  obtain ⟨w', h1, h2, h3⟩ := MapB.drop h strKey Tryz.underlying167 (key_nm hs) ty
  exact ⟨w', h1, by rw [enL_del] at h2; exact h2, h3⟩
theorem MapN.store {w : World} {b : Nat} {l : List Mk} (h : MapN w b l) (hl : l.length ≤ 1000000000) {s : ByteArray} (hs : s.size ≤ 9223372036854775807) (i : Int) :
    ∃ w', (Instr.mapUpdate 167 (.map (some b)) (.string s) (.int .i64 i)).run Tryz.prog w = .ok () w' ∧ MapN w' b (putM ⟨s, i⟩ l) ∧ w.grownBy w' (some b) := by
  obtain ⟨w', h1, h2, h3⟩ := MapB.store h strKey Tryz.underlying167 (by rw [enL_len]; unfold maxLen; omega) (.int .i64 i) (key_nm hs)
  refine ⟨w', h1, ?_, h3⟩
  have := enL_put ⟨s, i⟩ l
  rw [this] at h2
  exact h2
theorem MapN.look_ok {w : World} {b : Nat} {l : List Mk} (h : MapN w b l) {s : ByteArray} (hs : s.size ≤ 9223372036854775807) :
    (Instr.lookup 167 (.map (some b)) (.string s) true).run Tryz.prog w = .ok (.tuple #[.int .i64 (findM s l).1, .bool (findM s l).2]) w := by
  have := MapB.look_ok h strKey Tryz.underlying167 (zero_int w) (key_nm hs)
  rw [enL_has, enL_get] at this
  exact this
theorem MapN.look {w : World} {b : Nat} {l : List Mk} (h : MapN w b l) {s : ByteArray} (hs : s.size ≤ 9223372036854775807) :
    (Instr.lookup 167 (.map (some b)) (.string s) false).run Tryz.prog w = .ok (.int .i64 (findM s l).1) w := by
  have := MapB.look h strKey Tryz.underlying167 (zero_int w) (key_nm hs)
  rw [enL_get] at this
  exact this
theorem MapN.ex {w w' : World} {b : Nat} {l : List Mk} (h : MapN w b l) (hb : Ex w w') : MapN w' b l := MapB.ex h hb
theorem MapN.off {F : Nat → Prop} {w w' : World} {b : Nat} {l : List Mk} (h : MapN w b l) (hb : Off F w w') (hF : ¬ F b) : MapN w' b l := MapB.off h hb hF
theorem MapN.lt {w : World} {b : Nat} {l : List Mk} (h : MapN w b l) : b < w.heap.size := MapB.lt h
theorem off_grown {w w' : World} {b : Nat} (h : w.grownBy w' (some b)) : Off (· = b) w w' := (Off.refl _ w).grown h fun k hk => .inl (by injection hk with e; exact e.symm)
set_option maxHeartbeats 1000000 in
theorem apply_calls {w : World} {b : Nat} {l : List Mk} (c : Chg) (hM : MapN w b l) (hl : l.length ≤ 1000000000) (hc : c.Ok) :
    Calls Tryz.prog 177 #[.map (some b), c.val] w fun e w' => e = .returned (.tuple #[]) ∧ MapN w' b (c.ap l) ∧ Off (· = b) w w' := by
  obtain ⟨dr, gone, pu, come, id⟩ := c
  obtain ⟨h1, h2, _, _⟩ := hc
  simp only at h1 h2
  have HM0 := hM.ex (ex_alloc (Ex.refl w) (.cells #[.bool dr, .string gone, .bool pu, .string come, .int .i64 id] 220))
  have HX0 := Lib.hid ((ex_alloc (Ex.refl w) (.cells #[.bool dr, .string gone, .bool pu, .string come, .int .i64 id] 220)).off (· = b))
  unfold Chg.val
  have hK : Blk (w.alloc (.cells #[.bool dr, .string gone, .bool pu, .string come, .int .i64 id] 220)) w.heap.size 220 [.bool dr, .string gone, .bool pu, .string come, .int .i64 id] := Blk.new w _ _
  cases dr
  · cases pu
    · have HE := Lib.hid (show Chg.ap ⟨false, gone, false, come, id⟩ l = l from rfl)
      have HM := Lib.hid HM0
      clear HM0 hM
      go_enter Tryz.func177, Tryz.ntmps177
      go_wp2_with fail
      go_end0
      exact ⟨rfl, by rw [HE.out]; exact HM.out, HX0.out⟩
    · have HE := Lib.hid (show Chg.ap ⟨false, gone, true, come, id⟩ l = putM ⟨come, id⟩ l from rfl)
      obtain ⟨w1, hrun, hM1, hg⟩ := HM0.store hl h2 id
      have HM := Lib.hid hM1
      have HX := Lib.hid (HX0.out.trans (off_grown hg))
      clear HM0 hM hM1 hg
      go_enter Tryz.func177, Tryz.ntmps177
      go_wp2_with fail
      go_end0
      exact ⟨rfl, by rw [HE.out]; exact HM.out, HX.out⟩
  · obtain ⟨w1, hrun1, hM1, hg⟩ := HM0.drop h1 0
    have HK1 := hK.grown hg (by intro e; injection e with e; have := hM.lt; omega)
    have c2 : w1.cell? ⟨w.heap.size, 2, none⟩ = some (.bool pu) := by rw [HK1.cell]; rfl
    have c3 : w1.cell? ⟨w.heap.size, 3, none⟩ = some (.string come) := by rw [HK1.cell]; rfl
    have c4 : w1.cell? ⟨w.heap.size, 4, none⟩ = some (.int .i64 id) := by rw [HK1.cell]; rfl
    have HX1 := Lib.hid (HX0.out.trans (off_grown hg))
    have HR1 := Lib.hid hrun1
    clear HM0 HX0 hrun1 hg hK HK1
    cases pu
    · have HE := Lib.hid (show Chg.ap ⟨true, gone, false, come, id⟩ l = l.filter (nmNot gone) from rfl)
      have HM := Lib.hid hM1
      clear hM1 hM
      go_enter Tryz.func177, Tryz.ntmps177
      go_wp2_with (at_delete; refine wpList_delete_run rfl _ _ _ _ rfl _ _ rfl rfl HR1.out ?_)
      go_end0
      exact ⟨rfl, by rw [HE.out]; exact HM.out, HX1.out⟩
    · have HE := Lib.hid (show Chg.ap ⟨true, gone, true, come, id⟩ l = putM ⟨come, id⟩ (l.filter (nmNot gone)) from rfl)
      have hl2 : (l.filter (nmNot gone)).length ≤ 1000000000 := Nat.le_trans (List.length_filter_le _ _) hl
      obtain ⟨w2, hrun2, hM2, hg2⟩ := hM1.store hl2 h2 id
      have HM := Lib.hid hM2
      have HX := Lib.hid (HX1.out.trans (off_grown hg2))
      clear hM1 hM hM2 hg2 hl2
      go_enter Tryz.func177, Tryz.ntmps177
      go_wp2_with (at_delete; refine wpList_delete_run rfl _ _ _ _ rfl _ _ rfl rfl HR1.out ?_)
      go_end0
      exact ⟨rfl, by rw [HE.out]; exact HM.out, HX.out⟩
end Go.Proofs.YtomfcgeibbicoaaGreat
namespace Go.Proofs.YtomfcgeibbicoaaGreat
open Go.RowKit Go.Maps
/-- A folder: what lasts, and the changes that wait. -/
structure FoV where
  kept : List Mk
  ch : List Chg
namespace FoV
def now (q : FoV) : List Mk := q.ch.foldl (fun l c => c.ap l) q.kept
def doC (q : FoV) (c : Chg) : FoV := ⟨q.kept, q.ch ++ [c]⟩
theorem now_do (q : FoV) (c : Chg) : (q.doC c).now = c.ap q.now := by
  unfold now doC
  rw [List.foldl_append]; rfl
/-- The first k changes last; the others never were. -/
def settle (q : FoV) (k : Nat) : FoV := ⟨(q.ch.take k).foldl (fun l c => c.ap l) q.kept, []⟩
end FoV
/-- A name and its number. -/
def MkOk (m : Mk) : Prop := m.nm.size ≤ 9223372036854775807 ∧ -9223372036854775808 ≤ m.pl ∧ m.pl ≤ 9223372036854775807
theorem ap_all {P : Mk → Prop} {c : Chg} (hc : c.pu = true → P ⟨c.come, c.id⟩) {l : List Mk} (h : ∀ m ∈ l, P m) : ∀ m ∈ c.ap l, P m := by
  have hd : ∀ m ∈ c.d l, P m := by
    unfold Chg.d
    split
    · exact fun m hm => h m (List.mem_filter.1 hm).1
    · exact h
  unfold Chg.ap Chg.p
  split
  · rename_i hp
    intro m hm
    rcases (insM_mem _ _ _).1 hm with rfl | hm
    · exact hc hp
    · exact hd m (List.mem_filter.1 hm).1
  · exact hd
theorem fold_all {P : Mk → Prop} : ∀ {ch : List Chg}, (∀ c ∈ ch, c.pu = true → P ⟨c.come, c.id⟩) → ∀ {l : List Mk}, (∀ m ∈ l, P m) → ∀ m ∈ ch.foldl (fun l c => c.ap l) l, P m
  | [], _, _, h => h
  | c :: r, hc, _, h => fold_all (ch := r) (fun x hx => hc x (by simp [hx])) (ap_all (hc c (by simp)) h)
namespace FoV
/-- All is of some size. -/
structure Ok (q : FoV) (M : Nat) : Prop where
  kl : q.kept.length + q.ch.length ≤ M
  ks : ∀ m ∈ q.kept, MkOk m
  cs : ∀ c ∈ q.ch, c.Ok
end FoV
theorem foldl_ap_len : ∀ (ch : List Chg) (l : List Mk), (ch.foldl (fun l c => c.ap l) l).length ≤ l.length + ch.length
  | [], l => by simp
  | c :: r, l => by
    have := foldl_ap_len r (c.ap l)
    have := c.ap_len l
    rw [List.foldl_cons, List.length_cons]
    omega
theorem FoV.Ok.now_len {q : FoV} {M : Nat} (h : q.Ok M) : q.now.length ≤ M := Nat.le_trans (foldl_ap_len q.ch q.kept) h.kl
theorem Chg.Ok.mk {c : Chg} (h : c.Ok) : MkOk ⟨c.come, c.id⟩ := ⟨h.2.1, h.2.2.1, h.2.2.2⟩
theorem FoV.Ok.now_all {q : FoV} {M : Nat} (h : q.Ok M) : ∀ m ∈ q.now, MkOk m := fold_all (fun c hc _ => (h.cs c hc).mk) h.ks
theorem findM_mem {P : Mk → Prop} {s : ByteArray} {l : List Mk} (h : ∀ m ∈ l, P m) (hf : (findM s l).2 = true) : ∃ m ∈ l, P m ∧ nmIs s m = true ∧ (findM s l).1 = m.pl := by
  unfold findM at hf ⊢
  cases hq : l.find? (nmIs s) with
  | none => rw [hq] at hf; cases hf
  | some m => exact ⟨m, List.mem_of_find?_eq_some hq, h m (List.mem_of_find?_eq_some hq), List.find?_some hq, rfl⟩
theorem findM_in {q : FoV} {M : Nat} (h : q.Ok M) (s : ByteArray) : -9223372036854775808 ≤ (findM s q.now).1 ∧ (findM s q.now).1 ≤ 9223372036854775807 := by
  cases hf : (findM s q.now).2
  · have : (findM s q.now).1 = 0 := by
      unfold findM at hf ⊢
      cases hq : q.now.find? (nmIs s) with
      | none => rfl
      | some m => rw [hq] at hf; cases hf
    rw [this]; omega
  · obtain ⟨m, _, ho, _, e⟩ := findM_mem h.now_all hf
    rw [e]; exact ho.2
theorem FoV.Ok.do {q : FoV} {M : Nat} {c : Chg} (h : q.Ok M) (hc : c.Ok) : (q.doC c).Ok (M + 1) :=
  ⟨by have := h.kl; unfold FoV.doC; simp only [List.length_append, List.length_cons, List.length_nil]; omega, h.ks, fun x hx => by
    rcases List.mem_append.1 hx with hx | hx
    · exact h.cs x hx
    · rcases List.mem_cons.1 hx with rfl | hx
      · exact hc
      · cases hx⟩
/-- The blocks of F, and new ones. -/
def Fresh (F : Nat → Prop) (w w' : World) : Nat → Prop := fun k => F k ∨ (w.heap.size ≤ k ∧ k < w'.heap.size)
/-- A folder's blocks. -/
structure FoR (w : World) (g : Nat) (F : Nat → Prop) (q : FoV) (kb nb : Nat) (v : Value) : Prop where
  blk : Blk w g 170 [.map (some kb), .map (some nb), v, .bool true]
  kept : MapN w kb q.kept
  now : MapN w nb q.now
  own : w.ownsRow 0 220 5 v q.ch.length (q.ch.flatMap Chg.cs)
  kn : kb ≠ nb
  gk : g ≠ kb
  gn : g ≠ nb
  vs : ∀ k, v.ownBlock = some k → k ≠ g ∧ k ≠ kb ∧ k ≠ nb ∧ F k
  fg : F g
  fk : F kb
  fn : F nb
def FoP (w : World) (g : Nat) (F : Nat → Prop) (q : FoV) : Prop := ∃ kb nb v, FoR w g F q kb nb v
theorem FoR.ex {w w' : World} {g : Nat} {F : Nat → Prop} {q : FoV} {kb nb : Nat} {v : Value} (h : FoR w g F q kb nb v) (hb : Ex w w') : FoR w' g F q kb nb v :=
  { h with blk := h.blk.ex hb, kept := h.kept.ex hb, now := h.now.ex hb, own := own_ex h.own hb }
theorem FoR.more {w : World} {g : Nat} {F G : Nat → Prop} {q : FoV} {kb nb : Nat} {v : Value} (h : FoR w g F q kb nb v) (hF : ∀ k, F k → G k) : FoR w g G q kb nb v :=
  { h with vs := fun k hk => by obtain ⟨a, b, c, d⟩ := h.vs k hk; exact ⟨a, b, c, hF k d⟩, fg := hF _ h.fg, fk := hF _ h.fk, fn := hF _ h.fn }
theorem own_off {G : Nat → Prop} {w w' : World} {base sz n : Nat} {e : TypeId} {v : Value} {cs : List Value} (h : w.ownsRow base e sz v n cs) (hb : Off G w w') (hG : ∀ k, v.ownBlock = some k → ¬ G k) : w'.ownsRow base e sz v n cs := by
  refine ⟨h.1, ?_⟩
  rcases h.2 with hn | ⟨g, cap, cur, r1, r2, r3, r4⟩
  · exact .inl hn
  · exact .inr ⟨g, cap, cur, r1, r2, (hb.block g (Array.getElem?_eq_some_iff.1 r3).1 (hG g (by rw [r1]; rfl))).trans r3, r4⟩
theorem own_lt {w : World} {base sz n : Nat} {e : TypeId} {v : Value} {cs : List Value} (h : w.ownsRow base e sz v n cs) {k : Nat} (hk : v.ownBlock = some k) : k < w.heap.size := (h.lt k hk).2
theorem FoP.ex {w w' : World} {g : Nat} {F : Nat → Prop} {q : FoV} (h : FoP w g F q) (hb : Ex w w') : FoP w' g F q := by
  obtain ⟨kb, nb, v, h⟩ := h
  exact ⟨kb, nb, v, h.ex hb⟩
theorem FoP.more {w : World} {g : Nat} {F G : Nat → Prop} {q : FoV} (h : FoP w g F q) (hF : ∀ k, F k → G k) : FoP w g G q := by
  obtain ⟨kb, nb, v, h⟩ := h
  exact ⟨kb, nb, v, h.more hF⟩
theorem FoP.off {w w' : World} {g : Nat} {F G : Nat → Prop} {q : FoV} (h : FoP w g F q) (hb : Off G w w') (hG : ∀ k, k < w.heap.size → F k → ¬ G k) : FoP w' g F q := by
  obtain ⟨kb, nb, v, h⟩ := h
  exact ⟨kb, nb, v, { h with blk := h.blk.off hb (hG _ h.blk.lt h.fg), kept := h.kept.off hb (hG _ h.kept.lt h.fk), now := h.now.off hb (hG _ h.now.lt h.fn), own := own_off h.own hb fun k hk => hG k (own_lt h.own hk) (h.vs k hk).2.2.2 }⟩
theorem fonone_calls {w : World} {g : Nat} {F : Nat → Prop} {q : FoV} (h : FoP w g F q) : Calls Tryz.prog 112 #[.pointer (some ⟨g, 0, none⟩)] w fun e w' => e = .returned (.bool false) ∧ Ex w w' := by
  obtain ⟨kb, nb, v, h⟩ := h
  have hc : w.cell? ⟨g, 3, none⟩ = some (.bool true) := by rw [h.blk.cell]; rfl
  clear h
  go_enter Tryz.func112, Tryz.ntmps112
  go_wp2_with fail
  go_ret
  exact ⟨rfl, Ex.refl _⟩
theorem fonone_nil (w : World) : Calls Tryz.prog 112 #[.pointer none] w fun e w' => e = .returned (.bool true) ∧ Ex w w' := by
  go_enter Tryz.func112, Tryz.ntmps112
  go_wp2_with fail
  go_ret
  exact ⟨rfl, Ex.refl _⟩
theorem fofind_calls {w : World} {g : Nat} {F : Nat → Prop} {q : FoV} (s : ByteArray) (hs : s.size ≤ 9223372036854775807) (h : FoP w g F q) :
    Calls Tryz.prog 45 #[.pointer (some ⟨g, 0, none⟩), .string s] w fun e w' => e = .returned (.tuple #[.int .i64 (findM s q.now).1, .bool (findM s q.now).2]) ∧ Ex w w' := by
  have H := Lib.hid h
  clear h
  go_enter Tryz.func45, Tryz.ntmps45
  go_wp2_with fail
  refine (fonone_calls H.out).mono ?_
  rintro e w1 ⟨rfl, hb1⟩
  obtain ⟨kb, nb, v, h⟩ := H.out.ex hb1
  have hc : w1.cell? ⟨g, 1, none⟩ = some (.map (some nb)) := by rw [h.blk.cell]; rfl
  have hl := h.now.look_ok hs
  clear h
  go_wp2_with fail
  go_ret2
  exact ⟨rfl, hb1⟩
set_option maxHeartbeats 1000000 in
theorem fonew_calls (w : World) : Calls Tryz.prog 90 #[] w fun e w' => ∃ g, e = .returned (.pointer (some ⟨g, 0, none⟩)) ∧ w.heap.size ≤ g ∧ FoP w' g (Fresh (fun _ => False) w w') ⟨[], []⟩ ∧ Ex w w' := by
  have hmm := @run_makeMap Tryz.prog
  go_enter Tryz.func90, Tryz.ntmps90
  go_wp2_with fail
  go_ret
  have hb1 := ex_alloc (Ex.refl (w.alloc (.map #[] 0))) (.map #[] 0)
  have hb2 := ex_alloc (Ex.refl ((w.alloc (.map #[] 0)).alloc (.map #[] 0))) (.cells #[.map (some w.heap.size), .map (some (w.heap.size + 1)), .slice none 0 0, .bool true] 170)
  have m1 : MapN (w.alloc (.map #[] 0)) w.heap.size [] := MapB.made w _ _
  have m2 : MapN ((w.alloc (.map #[] 0)).alloc (.map #[] 0)) (w.alloc (.map #[] 0)).heap.size [] := MapB.made (w.alloc (.map #[] 0)) _ _
  have e2 : (w.alloc (.map #[] 0)).heap.size = w.heap.size + 1 := by simp
  have e3 : ((w.alloc (.map #[] 0)).alloc (.map #[] 0)).heap.size = w.heap.size + 1 + 1 := by simp
  have e4 : (((w.alloc (.map #[] 0)).alloc (.map #[] 0)).alloc (.cells #[.map (some w.heap.size), .map (some (w.heap.size + 1)), .slice none 0 0, .bool true] 170)).heap.size = w.heap.size + 1 + 1 + 1 := by simp
  have hk := Blk.new ((w.alloc (.map #[] 0)).alloc (.map #[] 0)) [.map (some w.heap.size), .map (some (w.heap.size + 1)), .slice none 0 0, .bool true] 170
  rw [e3] at hk
  rw [e2] at m2
  refine ⟨w.heap.size + 1 + 1, rfl, by omega, ⟨w.heap.size, w.heap.size + 1, .slice none 0 0, ?_⟩, ex_three _ _ _ _⟩
  have hf : ∀ k, w.heap.size ≤ k → k < w.heap.size + 1 + 1 + 1 → Fresh (fun _ => False) w (((w.alloc (.map #[] 0)).alloc (.map #[] 0)).alloc (.cells #[.map (some w.heap.size), .map (some (w.heap.size + 1)), .slice none 0 0, .bool true] 170)) k := fun k h1 h2 => .inr ⟨h1, by rw [e4]; exact h2⟩
  exact ⟨hk, (m1.ex hb1).ex hb2, m2.ex hb2, World.ownsRow_nil _ _ _ _, by omega, by omega, by omega, (fun k hk => by cases hk), hf _ (by omega) (by omega), hf _ (by omega) (by omega), hf _ (by omega) (by omega)⟩
theorem info_ch : (Tryz.prog.info? 220).map (fun i => (i.zero, i.size, i.bytes)) = some (some (.agg #[.bool false, .string ⟨#[]⟩, .bool false, .string ⟨#[]⟩, .int .i64 0]), 5, 56) := by kernel_rfl
theorem Chg.one (l : List Chg) : ∀ u ∈ l.flatMap Chg.cs, u.oneCell' = true := by
  intro u hu
  obtain ⟨m, _, hm⟩ := List.mem_flatMap.1 hu
  simp only [Chg.cs, List.mem_cons, List.not_mem_nil, or_false] at hm
  rcases hm with rfl | rfl | rfl | rfl | rfl <;> rfl
theorem row_ch {w : World} {b : Nat} {c : Chg} (h : Blk w b 220 c.cs) : Row w 5 (some ⟨b, 0, none⟩) 1 c.cs := by
  have := h.row (k := 5) (n := 1) (by simp [Chg.cs])
  simpa [Chg.cs] using this
theorem Chg.one1 (c : Chg) : ∀ u ∈ c.cs, u.oneCell' = true := by
  have := Chg.one [c]
  simpa using this
theorem MapN.grown {w w' : World} {b : Nat} {l : List Mk} {row : Option Nat} (h : MapN w b l) (hg : w.grownBy w' row) (hr : some b ≠ row) : MapN w' b l := MapB.keep h (hg.block b h.lt hr)
theorem fodo_fin {w W w2 wa w3 w4 : World} {g kb nb : Nat} {F : Nat → Prop} {q : FoV} {v v' : Value} {c : Chg} (HR : FoR w g F q kb nb v) (hX : Ex w W) (hO : Off (· = nb) W w2) (hM : MapN w2 nb (c.ap q.now)) (hE : Ex w2 wa)
    (hg : wa.grownBy w3 v.ownBlock) (hv : v'.ownBlock = v.ownBlock ∨ v'.ownBlock = some wa.heap.size) (ho : w3.ownsRow 0 220 5 v' (q.ch.length + 1) (q.ch.flatMap Chg.cs ++ c.cs))
    (hB : Blk w3 g 170 [.map (some kb), .map (some nb), v, .bool true]) (h4 : Ex (w3.setCell ⟨g, 2, none⟩ v') w4) : FoP w4 g (Fresh F w w4) (q.doC c) ∧ Off F w w4 := by
  have z1 := hX.size
  have z2 := hO.size
  have z3 := hE.size
  have z4 := hg.size
  have z5 := h4.size
  have z6 : (w3.setCell ⟨g, 2, none⟩ v').heap.size = w3.heap.size := by simp [World.setCell]
  have l1 := HR.blk.lt
  have l2 := HR.kept.lt
  have l3 := HR.now.lt
  have hos := off_set w3 g 2 v'
  have hvk : ∀ k, v'.ownBlock = some k → v.ownBlock = some k ∨ k = wa.heap.size := fun k hk => by
    rcases hv with h | h
    · exact .inl (h ▸ hk)
    · rw [hk] at h; injection h with h; exact .inr h
  have hvw : ∀ b, (b = g ∨ b = kb ∨ b = nb) → some b ≠ v.ownBlock := fun b hb e => by
    obtain ⟨a1, a2, a3, _⟩ := HR.vs b e.symm
    rcases hb with h | h | h
    · exact a1 h
    · exact a2 h
    · exact a3 h
  refine ⟨⟨kb, nb, v', ?_⟩, ?_⟩
  · refine ⟨?_, ?_, ?_, ?_, HR.kn, HR.gk, HR.gn, fun k hk => ?_, .inl HR.fg, .inl HR.fk, .inl HR.fn⟩
    · exact (hB.setCell (i := 2) v').ex h4
    · exact ((((((HR.kept.ex hX).off hO HR.kn).ex hE).grown hg (hvw kb (.inr (.inl rfl)))).off hos (fun e => HR.gk e.symm))).ex h4
    · rw [FoV.now_do]
      exact ((((hM.ex hE).grown hg (hvw nb (.inr (.inr rfl)))).off hos (fun e => HR.gn e.symm))).ex h4
    · have e1 : (q.doC c).ch.length = q.ch.length + 1 := by unfold FoV.doC; simp
      have e2 : (q.doC c).ch.flatMap Chg.cs = q.ch.flatMap Chg.cs ++ c.cs := by unfold FoV.doC; simp
      rw [e1, e2]
      refine own_ex (own_off ho hos fun k hk e => ?_) h4
      rcases hvk k hk with h | h
      · exact (HR.vs k h).1 e
      · omega
    · have hk3 := own_lt ho hk
      rcases hvk k hk with h | h
      · obtain ⟨a1, a2, a3, a4⟩ := HR.vs k h
        exact ⟨a1, a2, a3, .inl a4⟩
      · exact ⟨by omega, by omega, by omega, .inr ⟨by omega, by omega⟩⟩
  · have s1 : Off F w w2 := (hX.off F).then (hO.mono (G := F) fun k _ e => e ▸ HR.fn) fun _ _ h => h
    have s2 : Off F w w3 := ((s1.trans (hE.off F)).grown hg fun k hk => .inl (HR.vs k hk).2.2.2)
    have s3 : Off F w (w3.setCell ⟨g, 2, none⟩ v') := s2.setCell (p := ⟨g, 2, none⟩) (.inl HR.fg) v'
    exact s3.trans (h4.off F)
set_option maxHeartbeats 1000000 in
set_option maxRecDepth 100000 in
theorem fodo_calls {w : World} {g : Nat} {F : Nat → Prop} {q : FoV} (c : Chg) (hc : c.Ok) {M : Nat} (ho : q.Ok M) (hM : M ≤ 1000000) (h : FoP w g F q) :
    Calls Tryz.prog 174 #[.pointer (some ⟨g, 0, none⟩), c.val] w fun e w' => e = .returned (.tuple #[]) ∧ FoP w' g (Fresh F w w') (q.doC c) ∧ Off F w w' := by
  obtain ⟨kb, nb, v, h⟩ := h
  obtain ⟨dr, gone, pu, come, id⟩ := c
  have hX0 := ex_alloc (Ex.refl w) (.cells #[.bool dr, .string gone, .bool pu, .string come, .int .i64 id] 220)
  have hK : Blk (w.alloc (.cells #[.bool dr, .string gone, .bool pu, .string come, .int .i64 id] 220)) w.heap.size 220 [.bool dr, .string gone, .bool pu, .string come, .int .i64 id] := Blk.new w _ _
  have c1 : (w.alloc (.cells #[.bool dr, .string gone, .bool pu, .string come, .int .i64 id] 220)).cell? ⟨g, 1, none⟩ = some (.map (some nb)) := hX0.cell (by rw [h.blk.cell]; rfl)
  have k0 : (w.alloc (.cells #[.bool dr, .string gone, .bool pu, .string come, .int .i64 id] 220)).cell? ⟨w.heap.size, 0, none⟩ = some (.bool dr) := by rw [hK.cell]; rfl
  have k1 : (w.alloc (.cells #[.bool dr, .string gone, .bool pu, .string come, .int .i64 id] 220)).cell? ⟨w.heap.size, 1, none⟩ = some (.string gone) := by rw [hK.cell]; rfl
  have k2 : (w.alloc (.cells #[.bool dr, .string gone, .bool pu, .string come, .int .i64 id] 220)).cell? ⟨w.heap.size, 2, none⟩ = some (.bool pu) := by rw [hK.cell]; rfl
  have k3 : (w.alloc (.cells #[.bool dr, .string gone, .bool pu, .string come, .int .i64 id] 220)).cell? ⟨w.heap.size, 3, none⟩ = some (.string come) := by rw [hK.cell]; rfl
  have k4 : (w.alloc (.cells #[.bool dr, .string gone, .bool pu, .string come, .int .i64 id] 220)).cell? ⟨w.heap.size, 4, none⟩ = some (.int .i64 id) := by rw [hK.cell]; rfl
  have HX0 := Lib.hid hX0
  have HK := Lib.hid hK
  have HR := Lib.hid h
  have HL := Lib.hid ho.now_len
  clear hX0 hK h
  unfold Chg.val
  go_enter Tryz.func174, Tryz.ntmps174
  go_wp2_with fail
  have hz0 : (w.alloc (.cells #[.bool dr, .string gone, .bool pu, .string come, .int .i64 id] 220)).heap.size = w.heap.size + 1 := by simp
  have HZ0 := Lib.hid hz0
  clear hz0
  generalize (w.alloc (.cells #[.bool dr, .string gone, .bool pu, .string come, .int .i64 id] 220)) = W at *
  have HN := Lib.hid (HR.out.ex HX0.out).now
  have hnw : ¬ w.heap.size = nb := by have := HR.out.now.lt; omega
  go_region_held3 (fun w' => w'.cell? ⟨g, 1, none⟩ = some (.map (some nb)) ∧ w'.cell? ⟨w.heap.size, 0, none⟩ = some (.bool dr) ∧ w'.cell? ⟨w.heap.size, 1, none⟩ = some (.string gone) ∧ w'.cell? ⟨w.heap.size, 2, none⟩ = some (.bool pu) ∧ w'.cell? ⟨w.heap.size, 3, none⟩ = some (.string come) ∧ w'.cell? ⟨w.heap.size, 4, none⟩ = some (.int .i64 id)) (go_keep) ((go_at_call 177; refine (apply_calls ⟨dr, gone, pu, come, id⟩ (MapN.ex HN.out (Ex.refl W).drew) (by have := HL.out; omega) hc).mono ?_; rintro e w2 ⟨rfl, hM2, hO2⟩; have HM2 := Lib.hid hM2; have HO2 := Lib.hid ((Ex.off (Ex.refl W).drew (· = nb)).trans hO2); clear hM2 hO2; have d1 := HO2.out.cell c1 HR.out.gn; have e0 := HO2.out.cell k0 hnw; have e1 := HO2.out.cell k1 hnw; have e2 := HO2.out.cell k2 hnw; have e3 := HO2.out.cell k3 hnw; have e4 := HO2.out.cell k4 hnw))
  have HR2 := Lib.hid (HR.out.ex HX0.out)
  have c2 : w2.cell? ⟨g, 2, none⟩ = some v := HO2.out.cell (by rw [HR2.out.blk.cell]; rfl) HR.out.gn
  have f2 : w2.frozen? ⟨g, 2, none⟩ = false := (HR2.out.blk.off HO2.out HR.out.gn).frozen 2
  have HW := Lib.hid (own_off HR2.out.own HO2.out (fun k hk => fun e => (HR.out.vs k hk).2.2.1 e))
  have HBg := Lib.hid (HR2.out.blk.off HO2.out HR.out.gn)
  obtain ⟨i0, hi0, hz0, hz1, hz2⟩ := info_parts info_ch
  have hvg : some g ≠ v.ownBlock := fun e => (HR.out.vs g e.symm).1 rfl
  have hlen : q.ch.length ≤ 1000000 := by have := ho.kl; omega
  have hca : (w2.alloc (.cells #[.bool dr, .string gone, .bool pu, .string come, .int .i64 id] 220)).cell? ⟨g, 2, none⟩ = some v := (ex_alloc (Ex.refl w2) _).cell c2
  clear d1 c1 k0 k1 k2 k3 k4 hnw
  go_wp2_with fail
  go_region_law (refine step_append_row _ rfl (.tmp 14) (.tmp 16) 168 rfl 0 220 i0 _ 5 56 Tryz.underlying168 hi0 hz0 hz1 hz2 rfl (by decide) v q.ch.length (q.ch.flatMap Chg.cs) ?hs1 (own_ex (w := w2) HW.out ?hb1) (some ⟨w2.heap.size, 0, none⟩) 1 1 (Chg.cs ⟨dr, gone, pu, come, id⟩) ?hx1 ?hr1 (Chg.one1 _) (by unfold maxLen; omega) (by omega) (Nat.zero_le _) ?_; (case hs1 => go_simp); (case hx1 => go_simp); (case hb1 => first | exact (ex_alloc (Ex.refl w2) _).drew | exact ex_alloc (Ex.refl w2).drew _); (case hr1 => exact row_ch (heap_alloc_new w2 _)); intro v' w3 ho3 hg3 hv3; obtain ⟨A3, n3, rfl, _⟩ := own_shape ho3; have HB3 : Blk w3 g 170 [.map (some kb), .map (some nb), v, .bool true] := (by refine Blk.grown ?_ hg3 hvg; first | exact HBg.out.ex (ex_alloc (Ex.refl w2) _).drew | exact HBg.out.ex (ex_alloc (Ex.refl w2).drew _)); have c3 : w3.cell? ⟨g, 2, none⟩ = some v := (by rw [HB3.cell]; rfl); have f3 := HB3.frozen 2; have HB3' := Lib.hid HB3; have HO3 := Lib.hid ho3; clear HB3 ho3)
  all_goals go_wp2_with fail
  all_goals go_end0
  all_goals refine ⟨rfl, ?_⟩
  all_goals refine fodo_fin (c := ⟨dr, gone, pu, come, id⟩) (wa := _) HR.out HX0.out HO2.out HM2.out ?_ hg3 hv3 HO3.out HB3'.out ?_
  all_goals first | exact Ex.refl _ | exact ex_alloc (Ex.refl w2).drew _ | exact (ex_alloc (Ex.refl w2) _).drew
end Go.Proofs.YtomfcgeibbicoaaGreat
namespace Go.Proofs.YtomfcgeibbicoaaGreat
open Go.RowKit Go.Maps
def FoV.put (q : FoV) (s : ByteArray) (i : Int) : FoV × Bool := if (findM s q.now).2 = true then (q, false) else (q.doC ⟨false, ⟨#[]⟩, true, s, i⟩, true)
def FoV.drop (q : FoV) (s : ByteArray) : FoV × Bool := if (findM s q.now).2 = true then (q.doC ⟨true, s, false, ⟨#[]⟩, 0⟩, true) else (q, false)
def FoV.move (q : FoV) (a b : ByteArray) : FoV × Bool := if (findM a q.now).2 = true then (if (a.toList == b.toList) = true then (q, true) else (q.doC ⟨true, a, true, b, (findM a q.now).1⟩, true)) else (q, false)
theorem chg_put {s : ByteArray} {i : Int} (hs : s.size ≤ 9223372036854775807) (h1 : -9223372036854775808 ≤ i) (h2 : i ≤ 9223372036854775807) : Chg.Ok ⟨false, ⟨#[]⟩, true, s, i⟩ := ⟨Nat.zero_le _, hs, h1, h2⟩
theorem chg_drop {s : ByteArray} (hs : s.size ≤ 9223372036854775807) : Chg.Ok ⟨true, s, false, ⟨#[]⟩, 0⟩ := ⟨hs, Nat.zero_le _, by show (-9223372036854775808 : Int) ≤ 0; omega, by show (0 : Int) ≤ 9223372036854775807; omega⟩
theorem Fresh.sub {F : Nat → Prop} {w w1 w2 : World} (h : w.heap.size ≤ w1.heap.size) : ∀ k, Fresh F w1 w2 k → Fresh F w w2 k := fun k hk => by
  rcases hk with hk | hk
  · exact .inl hk
  · exact .inr ⟨by omega, hk.2⟩
theorem Fresh.up {F : Nat → Prop} {w w1 w2 : World} (h : w1.heap.size ≤ w2.heap.size) : ∀ k, Fresh F w w1 k → Fresh F w w2 k := fun k hk => by
  rcases hk with hk | hk
  · exact .inl hk
  · exact .inr ⟨hk.1, by omega⟩
theorem Fresh.same {F : Nat → Prop} {w w1 : World} : ∀ k, F k → Fresh F w w1 k := fun _ hk => .inl hk
set_option maxHeartbeats 1000000 in
theorem foput_calls {w : World} {g : Nat} {F : Nat → Prop} {q : FoV} (s : ByteArray) (i : Int) (hs : s.size ≤ 9223372036854775807) (h1 : -9223372036854775808 ≤ i) (h2 : i ≤ 9223372036854775807) {M : Nat} (ho : q.Ok M) (hM : M ≤ 1000000) (h : FoP w g F q) :
    Calls Tryz.prog 113 #[.pointer (some ⟨g, 0, none⟩), .string s, .int .i64 i] w fun e w' => e = .returned (.bool (q.put s i).2) ∧ FoP w' g (Fresh F w w') (q.put s i).1 ∧ Off F w w' := by
  have H := Lib.hid h
  have HO := Lib.hid ho
  clear h ho
  cases hf : (findM s q.now).2
  · have HF := Lib.hid hf
    have HE := Lib.hid (show q.put s i = (q.doC ⟨false, ⟨#[]⟩, true, s, i⟩, true) from by unfold FoV.put; rw [hf]; rfl)
    clear hf
    go_enter Tryz.func113, Tryz.ntmps113
    go_wp2_with fail
    refine (fofind_calls s hs H.out).mono ?_
    rintro e w1 ⟨rfl, hb1⟩
    rw [HF.out]
    go_wp2_with fail
    refine (fonone_calls (H.out.ex hb1)).mono ?_
    rintro e w2 ⟨rfl, hb2⟩
    go_wp2_with fail
    refine (fodo_calls ⟨false, ⟨#[]⟩, true, s, i⟩ (chg_put hs h1 h2) HO.out hM (H.out.ex (hb1.trans hb2))).mono ?_
    rintro e w3 ⟨rfl, hp, hoff⟩
    go_wp2_with fail
    go_ret
    exact ⟨by rw [HE.out]; rfl, by rw [HE.out]; exact hp.more (Fresh.sub (hb1.trans hb2).size), ((hb1.trans hb2).off F).trans hoff⟩
  · have HF := Lib.hid hf
    have HE := Lib.hid (show q.put s i = (q, false) from by unfold FoV.put; rw [hf]; rfl)
    clear hf
    go_enter Tryz.func113, Tryz.ntmps113
    go_wp2_with fail
    refine (fofind_calls s hs H.out).mono ?_
    rintro e w1 ⟨rfl, hb1⟩
    rw [HF.out]
    go_wp2_with fail
    go_ret
    exact ⟨by rw [HE.out]; rfl, by rw [HE.out]; exact (H.out.ex hb1).more Fresh.same, hb1.off F⟩
set_option maxHeartbeats 1000000 in
theorem fodrop_calls {w : World} {g : Nat} {F : Nat → Prop} {q : FoV} (s : ByteArray) (hs : s.size ≤ 9223372036854775807) {M : Nat} (ho : q.Ok M) (hM : M ≤ 1000000) (h : FoP w g F q) :
    Calls Tryz.prog 128 #[.pointer (some ⟨g, 0, none⟩), .string s] w fun e w' => e = .returned (.bool (q.drop s).2) ∧ FoP w' g (Fresh F w w') (q.drop s).1 ∧ Off F w w' := by
  have H := Lib.hid h
  have HO := Lib.hid ho
  clear h ho
  cases hf : (findM s q.now).2
  · have HF := Lib.hid hf
    have HE := Lib.hid (show q.drop s = (q, false) from by unfold FoV.drop; rw [hf]; rfl)
    clear hf
    go_enter Tryz.func128, Tryz.ntmps128
    go_wp2_with fail
    refine (fofind_calls s hs H.out).mono ?_
    rintro e w1 ⟨rfl, hb1⟩
    rw [HF.out]
    go_wp2_with fail
    go_ret
    exact ⟨by rw [HE.out]; rfl, by rw [HE.out]; exact (H.out.ex hb1).more Fresh.same, hb1.off F⟩
  · have HF := Lib.hid hf
    have HE := Lib.hid (show q.drop s = (q.doC ⟨true, s, false, ⟨#[]⟩, 0⟩, true) from by unfold FoV.drop; rw [hf]; rfl)
    clear hf
    go_enter Tryz.func128, Tryz.ntmps128
    go_wp2_with fail
    refine (fofind_calls s hs H.out).mono ?_
    rintro e w1 ⟨rfl, hb1⟩
    rw [HF.out]
    go_wp2_with fail
    refine (fodo_calls ⟨true, s, false, ⟨#[]⟩, 0⟩ (chg_drop hs) HO.out hM (H.out.ex hb1)).mono ?_
    rintro e w3 ⟨rfl, hp, hoff⟩
    go_wp2_with fail
    go_ret
    exact ⟨by rw [HE.out]; rfl, by rw [HE.out]; exact hp.more (Fresh.sub hb1.size), (hb1.off F).trans hoff⟩
end Go.Proofs.YtomfcgeibbicoaaGreat
namespace Go.Proofs
open Go.RowKit Go.Maps Go.Sort Go.Shelf
def Tryz.cloneN_ren : Go.Shelf.Ren := ⟨fun | 5 => 178 | 7 => 215 | n => n, fun | 23 => 167 | 25 => 9 | 3 => 3 | 4 => 4 | 20 => 20 | n => n, fun | n => n⟩
theorem Tryz.cloneN : Go.Proofs.SlLaysW.n5 Tryz.prog Tryz.cloneN_ren := {
  mixed := by kernel_rfl
  f5 := ⟨Tryz.f178.name, by decide, Tryz.func178.trans (congrArg some (by kernel_rfl))⟩
  f7 := Tryz.func215.trans (congrArg some (by kernel_rfl))
  t4 := Tryz.underlying4
  a4 := Tryz.isAgg4
  z4 := Tryz.sizeOf4
  v4 := Tryz.zeroValue4
  t20 := Tryz.underlying20
  a20 := Tryz.isAgg20
  z20 := Tryz.sizeOf20
  v20 := Tryz.zeroValue20
  t23 := Tryz.underlying167
  a23 := Tryz.isAgg167
  z23 := Tryz.sizeOf167
  v23 := Tryz.zeroValue167 }
def Tryz.keysN_ren : Go.Shelf.Ren := ⟨fun | 7 => 185 | 10 => 218 | n => n, fun | 23 => 167 | 26 => 9 | 3 => 3 | 28 => 238 | 0 => 0 | 27 => 237 | 33 => 96 | 4 => 4 | n => n, fun | n => n⟩
theorem Tryz.keysN : Go.Proofs.SlLaysZ.n7 Tryz.prog Tryz.keysN_ren := {
  mixed := by kernel_rfl
  f7 := ⟨Tryz.f185.name, by decide, Tryz.func185.trans (congrArg some (by kernel_rfl))⟩
  f10 := ⟨Tryz.f218.name, by decide, Tryz.func218.trans (congrArg some (by kernel_rfl))⟩
  t0 := Tryz.underlying0
  a0 := Tryz.isAgg0
  z0 := Tryz.sizeOf0
  v0 := Tryz.zeroValue0
  t4 := Tryz.underlying4
  a4 := Tryz.isAgg4
  z4 := Tryz.sizeOf4
  v4 := Tryz.zeroValue4
  t23 := Tryz.underlying167
  a23 := Tryz.isAgg167
  z23 := Tryz.sizeOf167
  v23 := Tryz.zeroValue167
  t26 := Tryz.underlying9
  a26 := Tryz.isAgg9
  z26 := Tryz.sizeOf9
  v26 := Tryz.zeroValue9
  t27 := Tryz.underlying237
  a27 := Tryz.isAgg237
  z27 := Tryz.sizeOf237
  v27 := Tryz.zeroValue237
  t28 := Tryz.underlying238
  a28 := Tryz.isAgg238
  z28 := Tryz.sizeOf238
  v28 := Tryz.zeroValue238
  t33 := Tryz.underlying96
  a33 := Tryz.isAgg96
  z33 := Tryz.sizeOf96
  v33 := Tryz.zeroValue96 }
def Tryz.sortedN_ren : Go.Shelf.Ren := ⟨fun | 6 => 184 | 8 => 217 | 9 => 187 | 11 => 232 | 13 => 222 | 12 => 221 | 23 => 247 | 24 => 248 | 14 => 238 | 15 => 239 | 16 => 240 | 17 => 241 | 18 => 242 | 19 => 243 | 20 => 244 | 21 => 245 | 22 => 246 | 25 => 265 | 26 => 266 | 27 => 267 | 28 => 268 | 29 => 269 | 30 => 270 | 31 => 278 | n => n, fun | 26 => 9 | 28 => 238 | 24 => 23 | 0 => 0 | 3 => 3 | 37 => 245 | 48 => 246 | 50 => 288 | 4 => 4 | 40 => 281 | 39 => 280 | 45 => 97 | 5 => 5 | 9 => 9 | 51 => 298 | 55 => 302 | 57 => 307 | 58 => 308 | 33 => 96 | n => n, fun | n => n⟩
theorem Tryz.sortedN : Go.Proofs.SlLaysZ.n6 Tryz.prog Tryz.sortedN_ren := {
  mixed := by kernel_rfl
  f6 := ⟨Tryz.f184.name, by decide, Tryz.func184.trans (congrArg some (by kernel_rfl))⟩
  f8 := ⟨Tryz.f217.name, by decide, Tryz.func217.trans (congrArg some (by kernel_rfl))⟩
  f11 := ⟨Tryz.f232.name, by decide, Tryz.func232.trans (congrArg some (by kernel_rfl))⟩
  t0 := Tryz.underlying0
  a0 := Tryz.isAgg0
  z0 := Tryz.sizeOf0
  v0 := Tryz.zeroValue0
  t24 := Tryz.underlying23
  a24 := Tryz.isAgg23
  z24 := Tryz.sizeOf23
  v24 := Tryz.zeroValue23
  t26 := Tryz.underlying9
  a26 := Tryz.isAgg9
  z26 := Tryz.sizeOf9
  v26 := Tryz.zeroValue9
  t28 := Tryz.underlying238
  a28 := Tryz.isAgg238
  z28 := Tryz.sizeOf238
  v28 := Tryz.zeroValue238
  i26 := by kernel_rfl }
def Tryz.sortN_ren : Go.Shelf.Ren := ⟨fun | 6 => 187 | 8 => 222 | 9 => 221 | 19 => 247 | 20 => 248 | 21 => 238 | 22 => 239 | 23 => 240 | 24 => 241 | 25 => 242 | 26 => 243 | 27 => 244 | 28 => 245 | 29 => 246 | 36 => 265 | 31 => 266 | 32 => 267 | 37 => 268 | 38 => 269 | 39 => 270 | 41 => 278 | n => n, fun | 27 => 23 | 29 => 9 | 3 => 3 | 32 => 245 | 26 => 23 | 0 => 0 | 44 => 246 | 46 => 288 | 4 => 4 | 36 => 281 | 35 => 280 | 41 => 97 | 5 => 5 | 9 => 9 | 53 => 298 | 57 => 302 | 63 => 307 | 64 => 308 | n => n, fun | n => n⟩
theorem Tryz.sortN : Go.Proofs.SlLaysM.n6 Tryz.prog Tryz.sortN_ren := {
  mixed := by kernel_rfl
  f6 := ⟨Tryz.f187.name, by decide, Tryz.func187.trans (congrArg some (by kernel_rfl))⟩
  f8 := Tryz.func222.trans (congrArg some (by kernel_rfl))
  f9 := ⟨Tryz.f221.name, by decide, Tryz.func221.trans (congrArg some (by kernel_rfl))⟩
  f19 := Tryz.func247.trans (congrArg some (by kernel_rfl))
  f20 := Tryz.func248.trans (congrArg some (by kernel_rfl))
  f21 := ⟨Tryz.f238.name, by decide, Tryz.func238.trans (congrArg some (by kernel_rfl))⟩
  f22 := ⟨Tryz.f239.name, by decide, Tryz.func239.trans (congrArg some (by kernel_rfl))⟩
  f23 := ⟨Tryz.f240.name, by decide, Tryz.func240.trans (congrArg some (by kernel_rfl))⟩
  f24 := ⟨Tryz.f241.name, by decide, Tryz.func241.trans (congrArg some (by kernel_rfl))⟩
  f25 := ⟨Tryz.f242.name, by decide, Tryz.func242.trans (congrArg some (by kernel_rfl))⟩
  f26 := ⟨Tryz.f243.name, by decide, Tryz.func243.trans (congrArg some (by kernel_rfl))⟩
  f27 := ⟨Tryz.f244.name, by decide, Tryz.func244.trans (congrArg some (by kernel_rfl))⟩
  f28 := ⟨Tryz.f245.name, by decide, Tryz.func245.trans (congrArg some (by kernel_rfl))⟩
  f29 := ⟨Tryz.f246.name, by decide, Tryz.func246.trans (congrArg some (by kernel_rfl))⟩
  f31 := Tryz.func266.trans (congrArg some (by kernel_rfl))
  f32 := Tryz.func267.trans (congrArg some (by kernel_rfl))
  f36 := ⟨Tryz.f265.name, by decide, Tryz.func265.trans (congrArg some (by kernel_rfl))⟩
  f37 := ⟨Tryz.f268.name, by decide, Tryz.func268.trans (congrArg some (by kernel_rfl))⟩
  f38 := ⟨Tryz.f269.name, by decide, Tryz.func269.trans (congrArg some (by kernel_rfl))⟩
  f39 := ⟨Tryz.f270.name, by decide, Tryz.func270.trans (congrArg some (by kernel_rfl))⟩
  f41 := ⟨Tryz.f278.name, by decide, Tryz.func278.trans (congrArg some (by kernel_rfl))⟩
  t0 := Tryz.underlying0
  a0 := Tryz.isAgg0
  z0 := Tryz.sizeOf0
  v0 := Tryz.zeroValue0
  t3 := Tryz.underlying3
  a3 := Tryz.isAgg3
  z3 := Tryz.sizeOf3
  v3 := Tryz.zeroValue3
  t4 := Tryz.underlying4
  a4 := Tryz.isAgg4
  z4 := Tryz.sizeOf4
  v4 := Tryz.zeroValue4
  t5 := Tryz.underlying5
  a5 := Tryz.isAgg5
  z5 := Tryz.sizeOf5
  v5 := Tryz.zeroValue5
  t9 := Tryz.underlying9
  a9 := Tryz.isAgg9
  z9 := Tryz.sizeOf9
  v9 := Tryz.zeroValue9
  t26 := Tryz.underlying23
  a26 := Tryz.isAgg23
  z26 := Tryz.sizeOf23
  v26 := Tryz.zeroValue23
  t27 := Tryz.underlying23
  a27 := Tryz.isAgg23
  z27 := Tryz.sizeOf23
  v27 := Tryz.zeroValue23
  t29 := Tryz.underlying9
  a29 := Tryz.isAgg9
  z29 := Tryz.sizeOf9
  v29 := Tryz.zeroValue9
  t32 := Tryz.underlying245
  a32 := Tryz.isAgg245
  z32 := Tryz.sizeOf245
  v32 := Tryz.zeroValue245
  t35 := Tryz.underlying280
  a35 := Tryz.isAgg280
  z35 := Tryz.sizeOf280
  v35 := Tryz.zeroValue280
  t36 := Tryz.underlying281
  a36 := Tryz.isAgg281
  z36 := Tryz.sizeOf281
  v36 := Tryz.zeroValue281
  t41 := Tryz.underlying97
  a41 := Tryz.isAgg97
  z41 := Tryz.sizeOf97
  v41 := Tryz.zeroValue97
  t44 := Tryz.underlying246
  a44 := Tryz.isAgg246
  z44 := Tryz.sizeOf246
  v44 := Tryz.zeroValue246
  t46 := Tryz.underlying288
  a46 := Tryz.isAgg288
  z46 := Tryz.sizeOf288
  v46 := Tryz.zeroValue288
  t53 := Tryz.underlying298
  a53 := Tryz.isAgg298
  z53 := Tryz.sizeOf298
  v53 := Tryz.zeroValue298
  t57 := Tryz.underlying302
  a57 := Tryz.isAgg302
  z57 := Tryz.sizeOf302
  v57 := Tryz.zeroValue302
  t63 := Tryz.underlying307
  a63 := Tryz.isAgg307
  z63 := Tryz.sizeOf307
  v63 := Tryz.zeroValue307
  t64 := Tryz.underlying308
  a64 := Tryz.isAgg308
  z64 := Tryz.sizeOf308
  v64 := Tryz.zeroValue308 }
def Tryz.keysI_ren : Go.Shelf.Ren := ⟨fun | 7 => 162 | 10 => 205 | n => n, fun | 23 => 218 | 26 => 3 | 3 => 3 | 28 => 223 | 0 => 0 | 27 => 222 | 33 => 135 | 4 => 4 | n => n, fun | n => n⟩
theorem Tryz.keysI : Go.Proofs.SlLaysZI.n7 Tryz.prog Tryz.keysI_ren := {
  mixed := by kernel_rfl
  f7 := ⟨Tryz.f162.name, by decide, Tryz.func162.trans (congrArg some (by kernel_rfl))⟩
  f10 := ⟨Tryz.f205.name, by decide, Tryz.func205.trans (congrArg some (by kernel_rfl))⟩
  t0 := Tryz.underlying0
  a0 := Tryz.isAgg0
  z0 := Tryz.sizeOf0
  v0 := Tryz.zeroValue0
  t4 := Tryz.underlying4
  a4 := Tryz.isAgg4
  z4 := Tryz.sizeOf4
  v4 := Tryz.zeroValue4
  t23 := Tryz.underlying218
  a23 := Tryz.isAgg218
  z23 := Tryz.sizeOf218
  v23 := Tryz.zeroValue218
  t26 := Tryz.underlying3
  a26 := Tryz.isAgg3
  z26 := Tryz.sizeOf3
  v26 := Tryz.zeroValue3
  t27 := Tryz.underlying222
  a27 := Tryz.isAgg222
  z27 := Tryz.sizeOf222
  v27 := Tryz.zeroValue222
  t28 := Tryz.underlying223
  a28 := Tryz.isAgg223
  z28 := Tryz.sizeOf223
  v28 := Tryz.zeroValue223
  t33 := Tryz.underlying135
  a33 := Tryz.isAgg135
  z33 := Tryz.sizeOf135
  v33 := Tryz.zeroValue135 }
def Tryz.sortedI_ren : Go.Shelf.Ren := ⟨fun | 6 => 161 | 8 => 203 | 9 => 204 | 11 => 228 | 13 => 222 | 12 => 229 | 23 => 247 | 24 => 248 | 14 => 252 | 15 => 253 | 16 => 254 | 17 => 255 | 18 => 256 | 19 => 257 | 20 => 258 | 21 => 259 | 22 => 260 | 25 => 272 | 26 => 266 | 27 => 267 | 28 => 273 | 29 => 274 | 30 => 275 | 31 => 279 | n => n, fun | 26 => 3 | 28 => 223 | 24 => 149 | 0 => 0 | 3 => 3 | 37 => 245 | 48 => 246 | 50 => 288 | 4 => 4 | 40 => 281 | 39 => 280 | 45 => 97 | 5 => 5 | 9 => 9 | 51 => 298 | 55 => 302 | 57 => 307 | 58 => 308 | 33 => 135 | n => n, fun | n => n⟩
theorem Tryz.sortedI : Go.Proofs.SlLaysZI.n6 Tryz.prog Tryz.sortedI_ren := {
  mixed := by kernel_rfl
  f6 := ⟨Tryz.f161.name, by decide, Tryz.func161.trans (congrArg some (by kernel_rfl))⟩
  f8 := ⟨Tryz.f203.name, by decide, Tryz.func203.trans (congrArg some (by kernel_rfl))⟩
  f11 := ⟨Tryz.f228.name, by decide, Tryz.func228.trans (congrArg some (by kernel_rfl))⟩
  t0 := Tryz.underlying0
  a0 := Tryz.isAgg0
  z0 := Tryz.sizeOf0
  v0 := Tryz.zeroValue0
  t24 := Tryz.underlying149
  a24 := Tryz.isAgg149
  z24 := Tryz.sizeOf149
  v24 := Tryz.zeroValue149
  t26 := Tryz.underlying3
  a26 := Tryz.isAgg3
  z26 := Tryz.sizeOf3
  v26 := Tryz.zeroValue3
  t28 := Tryz.underlying223
  a28 := Tryz.isAgg223
  z28 := Tryz.sizeOf223
  v28 := Tryz.zeroValue223
  i26 := by kernel_rfl }
def Tryz.sortI_ren : Go.Shelf.Ren := ⟨fun | 5 => 204 | 8 => 222 | 7 => 229 | 19 => 247 | 20 => 248 | 10 => 252 | 11 => 253 | 12 => 254 | 13 => 255 | 14 => 256 | 15 => 257 | 16 => 258 | 17 => 259 | 18 => 260 | 30 => 272 | 31 => 266 | 32 => 267 | 33 => 273 | 34 => 274 | 35 => 275 | 40 => 279 | n => n, fun | 23 => 149 | 25 => 3 | 3 => 3 | 32 => 245 | 22 => 149 | 0 => 0 | 44 => 246 | 46 => 288 | 4 => 4 | 36 => 281 | 35 => 280 | 41 => 97 | 5 => 5 | 9 => 9 | 53 => 298 | 57 => 302 | 63 => 307 | 64 => 308 | n => n, fun | n => n⟩
theorem Tryz.sortI : Go.Proofs.SlLaysM.n5 Tryz.prog Tryz.sortI_ren := {
  mixed := by kernel_rfl
  f5 := ⟨Tryz.f204.name, by decide, Tryz.func204.trans (congrArg some (by kernel_rfl))⟩
  f7 := ⟨Tryz.f229.name, by decide, Tryz.func229.trans (congrArg some (by kernel_rfl))⟩
  f8 := Tryz.func222.trans (congrArg some (by kernel_rfl))
  f10 := ⟨Tryz.f252.name, by decide, Tryz.func252.trans (congrArg some (by kernel_rfl))⟩
  f11 := ⟨Tryz.f253.name, by decide, Tryz.func253.trans (congrArg some (by kernel_rfl))⟩
  f12 := ⟨Tryz.f254.name, by decide, Tryz.func254.trans (congrArg some (by kernel_rfl))⟩
  f13 := ⟨Tryz.f255.name, by decide, Tryz.func255.trans (congrArg some (by kernel_rfl))⟩
  f14 := ⟨Tryz.f256.name, by decide, Tryz.func256.trans (congrArg some (by kernel_rfl))⟩
  f15 := ⟨Tryz.f257.name, by decide, Tryz.func257.trans (congrArg some (by kernel_rfl))⟩
  f16 := ⟨Tryz.f258.name, by decide, Tryz.func258.trans (congrArg some (by kernel_rfl))⟩
  f17 := ⟨Tryz.f259.name, by decide, Tryz.func259.trans (congrArg some (by kernel_rfl))⟩
  f18 := ⟨Tryz.f260.name, by decide, Tryz.func260.trans (congrArg some (by kernel_rfl))⟩
  f19 := Tryz.func247.trans (congrArg some (by kernel_rfl))
  f20 := Tryz.func248.trans (congrArg some (by kernel_rfl))
  f30 := ⟨Tryz.f272.name, by decide, Tryz.func272.trans (congrArg some (by kernel_rfl))⟩
  f31 := Tryz.func266.trans (congrArg some (by kernel_rfl))
  f32 := Tryz.func267.trans (congrArg some (by kernel_rfl))
  f33 := ⟨Tryz.f273.name, by decide, Tryz.func273.trans (congrArg some (by kernel_rfl))⟩
  f34 := ⟨Tryz.f274.name, by decide, Tryz.func274.trans (congrArg some (by kernel_rfl))⟩
  f35 := ⟨Tryz.f275.name, by decide, Tryz.func275.trans (congrArg some (by kernel_rfl))⟩
  f40 := ⟨Tryz.f279.name, by decide, Tryz.func279.trans (congrArg some (by kernel_rfl))⟩
  t0 := Tryz.underlying0
  a0 := Tryz.isAgg0
  z0 := Tryz.sizeOf0
  v0 := Tryz.zeroValue0
  t3 := Tryz.underlying3
  a3 := Tryz.isAgg3
  z3 := Tryz.sizeOf3
  v3 := Tryz.zeroValue3
  t4 := Tryz.underlying4
  a4 := Tryz.isAgg4
  z4 := Tryz.sizeOf4
  v4 := Tryz.zeroValue4
  t5 := Tryz.underlying5
  a5 := Tryz.isAgg5
  z5 := Tryz.sizeOf5
  v5 := Tryz.zeroValue5
  t9 := Tryz.underlying9
  a9 := Tryz.isAgg9
  z9 := Tryz.sizeOf9
  v9 := Tryz.zeroValue9
  t22 := Tryz.underlying149
  a22 := Tryz.isAgg149
  z22 := Tryz.sizeOf149
  v22 := Tryz.zeroValue149
  t23 := Tryz.underlying149
  a23 := Tryz.isAgg149
  z23 := Tryz.sizeOf149
  v23 := Tryz.zeroValue149
  t25 := Tryz.underlying3
  a25 := Tryz.isAgg3
  z25 := Tryz.sizeOf3
  v25 := Tryz.zeroValue3
  t32 := Tryz.underlying245
  a32 := Tryz.isAgg245
  z32 := Tryz.sizeOf245
  v32 := Tryz.zeroValue245
  t35 := Tryz.underlying280
  a35 := Tryz.isAgg280
  z35 := Tryz.sizeOf280
  v35 := Tryz.zeroValue280
  t36 := Tryz.underlying281
  a36 := Tryz.isAgg281
  z36 := Tryz.sizeOf281
  v36 := Tryz.zeroValue281
  t41 := Tryz.underlying97
  a41 := Tryz.isAgg97
  z41 := Tryz.sizeOf97
  v41 := Tryz.zeroValue97
  t44 := Tryz.underlying246
  a44 := Tryz.isAgg246
  z44 := Tryz.sizeOf246
  v44 := Tryz.zeroValue246
  t46 := Tryz.underlying288
  a46 := Tryz.isAgg288
  z46 := Tryz.sizeOf288
  v46 := Tryz.zeroValue288
  t53 := Tryz.underlying298
  a53 := Tryz.isAgg298
  z53 := Tryz.sizeOf298
  v53 := Tryz.zeroValue298
  t57 := Tryz.underlying302
  a57 := Tryz.isAgg302
  z57 := Tryz.sizeOf302
  v57 := Tryz.zeroValue302
  t63 := Tryz.underlying307
  a63 := Tryz.isAgg307
  z63 := Tryz.sizeOf307
  v63 := Tryz.zeroValue307
  t64 := Tryz.underlying308
  a64 := Tryz.isAgg308
  z64 := Tryz.sizeOf308
  v64 := Tryz.zeroValue308 }
theorem Tryz.sortsN (m : Nat) : AnyZ.SortsIn Tryz.prog Tryz.sortedN_ren Fence.wide m :=
  ⟨fun blk off cap ss W hH hblk hsz => callsIn_wide.2 (AnyM.slices_Sort_string Tryz.sortN blk off cap ss W hH hblk hsz),
   fun p cap W => callsIn_wide.2 (AnyM.slices_Sort_string_none Tryz.sortN p cap W)⟩
theorem Tryz.sortsI (m : Nat) : AnyZI.SortsIn Tryz.prog Tryz.sortedI_ren Fence.wide m :=
  ⟨fun blk off cap ss W hH hblk hsz => callsIn_wide.2 (AnyM.slices_Sort_int Tryz.sortI blk off cap ss W hH hblk hsz),
   fun p cap W => callsIn_wide.2 (AnyM.slices_Sort_int_none Tryz.sortI p cap W)⟩
end Go.Proofs
namespace Go.Proofs.YtomfcgeibbicoaaGreat
open Go.RowKit Go.Maps Go.Sort Go.Shelf
theorem cloneN_calls {w : World} {b : Nat} {l : List Mk} (h : MapN w b l) : Calls Tryz.prog 178 #[.map (some b)] w fun e w' => e = .returned (.map (some w.heap.size)) ∧ MapN w' w.heap.size l ∧ Ex w w' :=
  (AnyW.maps_Clone_owns Tryz.cloneN _ _ _ _ _ _ h).mono fun _ _ ⟨he, h1, _, h3⟩ => ⟨he, h1, h3⟩
theorem keysN_calls (b : Nat) (w : World) : Calls Tryz.prog 185 #[.map (some b)] w fun e w' => e = .returned (.func (.func 218) #[] #[.pointer (some ⟨w.heap.size, 0, none⟩)]) ∧ w' = w.alloc (.cells #[.map (some b)] 167) :=
  callsIn_wide.1 (AnyZ.keys_in Tryz.keysN Fence.wide 5 trivial rfl (some b) w)
theorem keysI_calls (b : Nat) (w : World) : Calls Tryz.prog 162 #[.map (some b)] w fun e w' => e = .returned (.func (.func 205) #[] #[.pointer (some ⟨w.heap.size, 0, none⟩)]) ∧ w' = w.alloc (.cells #[.map (some b)] 218) :=
  callsIn_wide.1 (AnyZI.keys_in Tryz.keysI Fence.wide 5 trivial rfl (some b) w)
theorem strKeys_en (l : List Mk) : strKeys (asD (enL l)) = l.map fun m => m.nm.data.toList := by
  unfold asD enL strKeys
  simp only [List.map_map]
  rfl
/-- What is in order already is sorted so. -/
theorem sort_same {ss L : List (List UInt8)} (hp : ss.Perm L) (hL : L.Pairwise fun a b => a < b) : ss.mergeSort (fun x y => decide (x ≤ y)) = L := by
  have h1 := mergeSort_of_perm hp
  have h2 : L.mergeSort leB = L := by
    apply List.mergeSort_of_pairwise
    refine hL.imp fun {a b} h => ?_
    simp only [leB, decide_eq_true_eq]
    exact Std.le_of_lt h
  exact h1.trans h2
theorem rises_names {w : World} {b : Nat} {l : List Mk} (h : MapN w b l) : (l.map fun m => m.nm.data.toList).Pairwise fun a b => a < b := by
  have := MapB.rises h strKey
  unfold enL at this
  rw [List.pairwise_map] at this ⊢
  exact this.imp fun {a b} hb => (before_lt _ _).1 hb
theorem sortedN_calls {w : World} {b : Nat} {l : List Mk} (h : MapN w b l) (hl : l.length ≤ 1000000) :
    Calls Tryz.prog 184 #[.func (.func 218) #[] #[.pointer (some ⟨w.heap.size, 0, none⟩)]] (w.alloc (.cells #[.map (some b)] 167)) fun e w' => ∃ v, e = .returned v ∧ w'.ownsRow w.heap.size 9 1 v l.length (l.map fun m => .string m.nm) ∧ Ex w w' := by
  have hbl := h.lt
  have hsz : Maps.size (asD (enL l)) = l.length := by rw [asD_size, enL_len]
  have hr := rises_names h
  have hseq : SeqGives Fence.wide 2 Tryz.prog 218 #[.pointer (some ⟨w.heap.size, 0, none⟩)] encStr (fun ss => ss.Perm (strKeys (asD (enL l)))) (Maps.size (asD (enL l))) (w.alloc (.cells #[.map (some b)] 167)) :=
    AnyZ.keys_gives (ρ := Tryz.keysN_ren) { Tryz.keysN with } Fence.wide _ trivial rfl (by omega) w.heap.size b (enL l).length (asD (enL l)) (R := heldV) _ (by simp) (by simp) (h.ex (ex_alloc (Ex.refl w) _))
  have cS := AnyZ.sorted_in Tryz.sortedN Fence.wide 5 trivial trivial trivial trivial rfl (by omega) (Tryz.sortsN _) (enters_of Tryz.func187 (by kernel_rfl) rfl) 218 #[.pointer (some ⟨w.heap.size, 0, none⟩)] trivial (enters_of (Tryz.func218) (by kernel_rfl) rfl) _ _ (by rw [hsz]; unfold maxLen; omega) (by rw [hsz]; omega) _ hseq
  refine (callsIn_wide.1 cS).mono ?_
  rintro e w' ⟨v, ss, rfl, hp, hrow, _, hb⟩
  refine ⟨v, rfl, ?_, (ex_alloc (Ex.refl w) _).trans hb⟩
  rw [strKeys_en] at hp
  have e1 := sort_same hp hr
  have e2 : ss.length = l.length := by rw [hp.length_eq, List.length_map]
  rw [e1, e2, List.map_map] at hrow
  exact own_more hrow (by simp)
end Go.Proofs.YtomfcgeibbicoaaGreat
namespace Go.Proofs.YtomfcgeibbicoaaGreat
open Go.RowKit Go.Maps
theorem Row.chg {w : World} {A : Option Addr} {n : Nat} {l : List Chg} (h : Row w 5 A n (l.flatMap Chg.cs)) {i : Nat} (hi : i < l.length) :
    ∃ b o, A = some ⟨b, o, none⟩ ∧ w.cell? ⟨b, o + i * 5, none⟩ = some (.bool l[i].dr) ∧ w.cell? ⟨b, o + i * 5 + 1, none⟩ = some (.string l[i].gone) ∧ w.cell? ⟨b, o + i * 5 + 2, none⟩ = some (.bool l[i].pu) ∧ w.cell? ⟨b, o + i * 5 + 3, none⟩ = some (.string l[i].come) ∧ w.cell? ⟨b, o + i * 5 + 4, none⟩ = some (.int .i64 l[i].id) := by
  have hn : n = l.length := by have := h.1; rw [flat_len Chg.cs 5 (fun _ => rfl)] at this; omega
  obtain ⟨b, o, e, hc⟩ := h.2 (by omega)
  have h0 : ∀ j, j < 5 → (l.flatMap Chg.cs)[i * 5 + j]? = (Chg.cs l[i])[j]? := fun j hj => flat_get Chg.cs 5 (fun _ => rfl) l i l[i] j (List.getElem?_eq_getElem hi) hj
  exact ⟨b, o, e, hc (i * 5) _ (h0 0 (by omega)), hc (i * 5 + 1) _ (h0 1 (by omega)), hc (i * 5 + 2) _ (h0 2 (by omega)), hc (i * 5 + 3) _ (h0 3 (by omega)), hc (i * 5 + 4) _ (h0 4 (by omega))⟩
def apC (l : List Mk) (ch : List Chg) : List Mk := ch.foldl (fun l c => c.ap l) l
theorem apC_succ (l : List Mk) {ch : List Chg} {k : Nat} (hk : k < ch.length) : apC l (ch.take (k + 1)) = (ch[k]).ap (apC l (ch.take k)) := by
  unfold apC
  rw [List.take_succ_eq_append_getElem hk, List.foldl_append]; rfl
set_option maxHeartbeats 4000000 in
set_option maxRecDepth 100000 in
theorem fosettle_calls {w : World} {g : Nat} {F : Nat → Prop} {q : FoV} (n : Nat) (hn : n ≤ q.ch.length) {M : Nat} (ho : q.Ok M) (hM : M ≤ 1000000) (h : FoP w g F q) :
    Calls Tryz.prog 115 #[.pointer (some ⟨g, 0, none⟩), .int .i64 (n : Int)] w fun e w' => e = .returned (.tuple #[]) ∧ FoP w' g (Fresh F w w') (q.settle n) ∧ Off F w w' := by
  obtain ⟨kb, nb, v, h⟩ := h
  obtain ⟨A, cp, rfl, hcp⟩ := own_shape h.own
  have c2 : w.cell? ⟨g, 2, none⟩ = some (.slice A q.ch.length cp) := by rw [h.blk.cell]; rfl
  have HR := Lib.hid h
  have HO := Lib.hid ho
  have hlen : q.ch.length ≤ 1000000 := by have := ho.kl; omega
  have hnI : (n : Int) ≤ (cp : Int) := by omega
  clear h ho
  go_enter Tryz.func115, Tryz.ntmps115
  go_wp2_with fail
  go_loopw [13] (fun i wr => ∃ k : Nat, k ≤ n ∧ i = .int .i64 (k : Int) ∧ MapN wr kb (apC q.kept (q.ch.take k)) ∧ Off (· = kb) w wr) (fun i _ => n - (intOf i).toNat)
  case atStart => exact ⟨0, Nat.zero_le _, rfl, HR.out.kept, Off.refl _ _⟩
  case round =>
    obtain ⟨k, hk, rfl, hM, hO⟩ := hrel
    have HM := Lib.hid hM
    have HOf := Lib.hid hO
    clear hM hO
    by_cases hlt : k < n
    · obtain ⟨b, o, hA, a0, a1, a2, a3, a4⟩ := (Row.of_own HR.out.own).chg (i := k) (by omega)
      subst hA
      have hbk : ¬ b = kb := (HR.out.vs b rfl).2.1
      have HOK := Lib.hid (HO.out.cs (q.ch[k]'(by omega)) (List.getElem_mem _))
      have HS := Lib.hid (apC_succ q.kept (ch := q.ch) (k := k) (by omega))
      generalize (q.ch[k]'(by omega)) = c at *
      obtain ⟨dr, gone, pu, come, id⟩ := c
      simp only at a0 a1 a2 a3 a4
      replace a0 := HOf.out.cell a0 hbk
      replace a1 := HOf.out.cell a1 hbk
      replace a2 := HOf.out.cell a2 hbk
      replace a3 := HOf.out.cell a3 hbk
      replace a4 := HOf.out.cell a4 hbk
      have g0 : wr.cell? ⟨g, 0, none⟩ = some (.map (some kb)) := HOf.out.cell (by rw [HR.out.blk.cell]; rfl) HR.out.gk
      have hX0 := ex_alloc (Ex.refl wr) (.cells #[.bool dr, .string gone, .bool pu, .string come, .int .i64 id] 220)
      have hK : Blk (wr.alloc (.cells #[.bool dr, .string gone, .bool pu, .string come, .int .i64 id] 220)) wr.heap.size 220 [.bool dr, .string gone, .bool pu, .string come, .int .i64 id] := Blk.new wr _ _
      have c1 : (wr.alloc (.cells #[.bool dr, .string gone, .bool pu, .string come, .int .i64 id] 220)).cell? ⟨g, 0, none⟩ = some (.map (some kb)) := hX0.cell g0
      have k0 : (wr.alloc (.cells #[.bool dr, .string gone, .bool pu, .string come, .int .i64 id] 220)).cell? ⟨wr.heap.size, 0, none⟩ = some (.bool dr) := by rw [hK.cell]; rfl
      have k1 : (wr.alloc (.cells #[.bool dr, .string gone, .bool pu, .string come, .int .i64 id] 220)).cell? ⟨wr.heap.size, 1, none⟩ = some (.string gone) := by rw [hK.cell]; rfl
      have k2 : (wr.alloc (.cells #[.bool dr, .string gone, .bool pu, .string come, .int .i64 id] 220)).cell? ⟨wr.heap.size, 2, none⟩ = some (.bool pu) := by rw [hK.cell]; rfl
      have k3 : (wr.alloc (.cells #[.bool dr, .string gone, .bool pu, .string come, .int .i64 id] 220)).cell? ⟨wr.heap.size, 3, none⟩ = some (.string come) := by rw [hK.cell]; rfl
      have k4 : (wr.alloc (.cells #[.bool dr, .string gone, .bool pu, .string come, .int .i64 id] 220)).cell? ⟨wr.heap.size, 4, none⟩ = some (.int .i64 id) := by rw [hK.cell]; rfl
      have HX0 := Lib.hid hX0
      clear hX0 hK
      go_wp2_with fail
      generalize (wr.alloc (.cells #[.bool dr, .string gone, .bool pu, .string come, .int .i64 id] 220)) = W at *
      have HN := Lib.hid (HM.out.ex HX0.out)
      have hnw : ¬ wr.heap.size = kb := by have := HM.out.lt; omega
      have hlen2 : Hid ((apC q.kept (q.ch.take k)).length ≤ 1000000000) := by
        have h1 := foldl_ap_len (q.ch.take k) q.kept
        have h2 := HO.out.kl
        have h3 : (q.ch.take k).length ≤ q.ch.length := by rw [List.length_take]; omega
        unfold Hid apC
        omega
      go_region_held3 (fun w' => w'.cell? ⟨g, 0, none⟩ = some (.map (some kb)) ∧ w'.cell? ⟨wr.heap.size, 0, none⟩ = some (.bool dr) ∧ w'.cell? ⟨wr.heap.size, 1, none⟩ = some (.string gone) ∧ w'.cell? ⟨wr.heap.size, 2, none⟩ = some (.bool pu) ∧ w'.cell? ⟨wr.heap.size, 3, none⟩ = some (.string come) ∧ w'.cell? ⟨wr.heap.size, 4, none⟩ = some (.int .i64 id)) (go_keep) ((go_at_call 177; refine (apply_calls ⟨dr, gone, pu, come, id⟩ (MapN.ex HN.out (Ex.refl W).drew) hlen2.out HOK.out).mono ?_; rintro e w2 ⟨rfl, hM2, hO2⟩; have HM2 := Lib.hid hM2; have HO2 := Lib.hid ((Ex.off (Ex.refl W).drew (· = kb)).trans hO2); clear hM2 hO2; have d1 := HO2.out.cell c1 HR.out.gk; have e0 := HO2.out.cell k0 hnw; have e1 := HO2.out.cell k1 hnw; have e2 := HO2.out.cell k2 hnw; have e3 := HO2.out.cell k3 hnw; have e4 := HO2.out.cell k4 hnw))
      go_wp2_with fail
      exact ⟨⟨k + 1, by omega, by go_num, by rw [HS.out]; exact HM2.out, (HOf.out.trans (HX0.out.off _)).trans HO2.out⟩, by simp [intOf]; omega⟩
    · have hkn : k = n := by omega
      subst hkn
      have g0 : wr.cell? ⟨g, 0, none⟩ = some (.map (some kb)) := HOf.out.cell (by rw [HR.out.blk.cell]; rfl) HR.out.gk
      have HB := Lib.hid (HR.out.blk.off HOf.out HR.out.gk)
      have hz1 := HOf.out.size
      go_wp2_with fail
      refine (cloneN_calls HM.out).mono ?_
      rintro e w2 ⟨rfl, hC, hb2⟩
      have HB2 := Lib.hid (HB.out.ex hb2)
      have c1 : w2.cell? ⟨g, 1, none⟩ = some (.map (some nb)) := by rw [HB2.out.cell]; rfl
      have c2' : w2.cell? ⟨g, 2, none⟩ = some (.slice A q.ch.length cp) := by rw [HB2.out.cell]; rfl
      have f1 := HB2.out.frozen 1
      have f2 := HB2.out.frozen 2
      have HC := Lib.hid hC
      have HX2 := Lib.hid hb2
      have hz2 := hb2.size
      clear hC hb2
      go_wp2_with fail
      go_end0
      have s1 := off_set w2 g 1 (.map (some wr.heap.size))
      have s2 := off_set (w2.setCell ⟨g, 1, none⟩ (.map (some wr.heap.size))) g 2 (.slice none 0 0)
      have l1 := HR.out.blk.lt
      have l2 := HR.out.kept.lt
      have l3 := HC.out.lt
      have hz3 : ((w2.setCell ⟨g, 1, none⟩ (.map (some wr.heap.size))).setCell ⟨g, 2, none⟩ (.slice none 0 0)).heap.size = w2.heap.size := by simp [World.setCell]
      have k1 := ((HM.out.ex HX2.out).off s1 (fun e => HR.out.gk e.symm)).off s2 (fun e => HR.out.gk e.symm)
      have k2 := (HC.out.off s1 (by omega)).off s2 (by omega)
      refine ⟨rfl, ⟨kb, wr.heap.size, .slice none 0 0, (HB2.out.setCell (i := 1) (.map (some wr.heap.size))).setCell (i := 2) (.slice none 0 0), k1, k2, World.ownsRow_nil _ _ _ _, by omega, HR.out.gk, by omega, (fun k hk => by cases hk), .inl HR.out.fg, .inl HR.out.fk, .inr ⟨hz1, by rw [hz3]; exact l3⟩⟩, ?_⟩
      exact ((((HOf.out.mono (G := F) fun k _ e => e ▸ HR.out.fk).trans (HX2.out.off F)).trans (s1.mono fun k _ e => e ▸ HR.out.fg)).trans (s2.mono fun k _ e => e ▸ HR.out.fg))
theorem FoV.Ok.settle {q : FoV} {M n : Nat} (h : q.Ok M) (hn : n ≤ q.ch.length) : (q.settle n).Ok M := by
  refine ⟨?_, ?_, fun c hc => by cases hc⟩
  · have h1 := foldl_ap_len (q.ch.take n) q.kept
    have h2 := h.kl
    have h3 : (q.ch.take n).length ≤ q.ch.length := by rw [List.length_take]; omega
    show ((q.ch.take n).foldl (fun l c => c.ap l) q.kept).length + 0 ≤ M
    omega
  · exact fold_all (fun c hc _ => (h.cs c (List.mem_of_mem_take hc)).mk) h.ks
def FoV.sync (q : FoV) : FoV := q.settle q.ch.length
theorem fosync_calls {w : World} {g : Nat} {F : Nat → Prop} {q : FoV} {M : Nat} (ho : q.Ok M) (hM : M ≤ 1000000) (h : FoP w g F q) :
    Calls Tryz.prog 49 #[.pointer (some ⟨g, 0, none⟩)] w fun e w' => e = .returned (.tuple #[]) ∧ FoP w' g (Fresh F w w') q.sync ∧ Off F w w' := by
  have H := Lib.hid h
  have HO := Lib.hid ho
  clear h ho
  go_enter Tryz.func49, Tryz.ntmps49
  go_wp2_with fail
  refine (fonone_calls H.out).mono ?_
  rintro e w1 ⟨rfl, hb1⟩
  have H1 := Lib.hid (H.out.ex hb1)
  obtain ⟨kb, nb, v, hr⟩ := H1.out
  obtain ⟨A, cp, rfl, hcp⟩ := own_shape hr.own
  have c2 : w1.cell? ⟨g, 2, none⟩ = some (.slice A q.ch.length cp) := by rw [hr.blk.cell]; rfl
  clear hr
  go_wp2_with fail
  refine (fosettle_calls q.ch.length (Nat.le_refl _) HO.out hM H1.out).mono ?_
  rintro e w3 ⟨rfl, hp, hoff⟩
  go_wp2_with fail
  go_end0
  exact ⟨rfl, hp.more (Fresh.sub hb1.size), (hb1.off F).trans hoff⟩
/-- How many changes a choice makes last. -/
def FoV.pick (q : FoV) (c : Int) : Nat := (c % ((q.ch.length : Int) + 1)).toNat
def FoV.crash (q : FoV) (c : Int) : FoV := q.settle (q.pick c)
theorem FoV.pick_le (q : FoV) (c : Int) : q.pick c ≤ q.ch.length := by
  unfold pick
  have h1 : (0 : Int) < (q.ch.length : Int) + 1 := by omega
  have h2 := Int.emod_lt_of_pos c h1
  omega
theorem focrash_calls {w : World} {g : Nat} {F : Nat → Prop} {q : FoV} (c : Int) (hc : 0 ≤ c) (hc2 : c ≤ 9223372036854775807) {M : Nat} (ho : q.Ok M) (hM : M ≤ 1000000) (h : FoP w g F q) :
    Calls Tryz.prog 100 #[.pointer (some ⟨g, 0, none⟩), .int .i64 c] w fun e w' => e = .returned (.int .i64 (q.pick c : Int)) ∧ FoP w' g (Fresh F w w') (q.crash c) ∧ Off F w w' := by
  have H := Lib.hid h
  have HO := Lib.hid ho
  have hlen : q.ch.length ≤ 1000000 := by have := ho.kl; omega
  have hp0 : (q.pick c : Int) = c % ((q.ch.length : Int) + 1) := by
    unfold FoV.pick
    have h2 := Int.emod_nonneg c (show ((q.ch.length : Int) + 1) ≠ 0 by omega)
    omega
  have HP := Lib.hid hp0
  have hle := q.pick_le c
  clear h ho hp0
  go_enter Tryz.func100, Tryz.ntmps100
  go_wp2_with fail
  refine (fonone_calls H.out).mono ?_
  rintro e w1 ⟨rfl, hb1⟩
  have H1 := Lib.hid (H.out.ex hb1)
  obtain ⟨kb, nb, v, hr⟩ := H1.out
  obtain ⟨A, cp, rfl, hcp⟩ := own_shape hr.own
  have c2 : w1.cell? ⟨g, 2, none⟩ = some (.slice A q.ch.length cp) := by rw [hr.blk.cell]; rfl
  have d1 : decide (c % ((q.ch.length : Int) + 1) < 0) = false := decide_eq_false (by have := Int.emod_nonneg c (show ((q.ch.length : Int) + 1) ≠ 0 by omega); omega)
  clear hr
  go_wp2_with fail
  rw [← HP.out]
  refine (fosettle_calls (q.pick c) hle HO.out hM H1.out).mono ?_
  rintro e w3 ⟨rfl, hp, hoff⟩
  go_wp2_with fail
  go_ret
  exact ⟨rfl, hp.more (Fresh.sub hb1.size), (hb1.off F).trans hoff⟩
end Go.Proofs.YtomfcgeibbicoaaGreat
namespace Go.Proofs.YtomfcgeibbicoaaGreat
open Go.RowKit Go.Maps
end Go.Proofs.YtomfcgeibbicoaaGreat
namespace Go.Proofs.YtomfcgeibbicoaaGreat
open Go.RowKit Go.Maps
theorem MkU.one (l : List Mk) : ∀ u ∈ Mk.cs l, u.oneCell' = true := by
  intro u hu
  obtain ⟨m, _, hm⟩ := List.mem_flatMap.1 hu
  simp only [Mk.enc, List.mem_cons, List.not_mem_nil, or_false] at hm
  rcases hm with rfl | rfl <;> rfl
theorem MkU.app (l l' : List Mk) : Mk.cs (l ++ l') = Mk.cs l ++ Mk.cs l' := List.flatMap_append
theorem mku_row {w : World} {T : TypeId} {b : Nat} {x : Mk} (h : Blk w b T (Mk.enc x)) : Row w 2 (some ⟨b, 0, none⟩) 1 (Mk.cs [x]) := by
  have := h.row (k := 2) (n := 1) (by simp [Mk.enc])
  rw [show Mk.cs [x] = Mk.enc x by simp [Mk.cs]]
  simpa [Mk.enc] using this
/-- append at lists of names and numbers. -/
theorem app_mkT {P : Program} {w w0 : World} {ops : Array Oper} {rest : List Oper} {o : Oper} {a : Act} {Q : Exit → Act → World → Prop} (T E : TypeId) (hT : P.underlying T = some (.slice E)) (hE : (P.info? E).map (fun i => (i.zero, i.size, i.bytes)) = some (some (.agg #[.string ⟨#[]⟩, .int .i64 0]), 2, 24))
    (hgd : o.guard = none) (s x : Operand) (ho : o.op = .call { callee := .builtin .append, args := #[s, x], argTypes := #[T, T] }) (base : Nat) (v : Value) (n : Nat) (l : List Mk) (hs : a.eval s = v) (hown : w.ownsRow base E 2 v n (Mk.cs l))
    (A : Option Addr) (m c : Nat) (l' : List Mk) (hx : a.eval x = .slice A m c) (hr : Row w 2 A m (Mk.cs l')) (hsm : n + m ≤ 100000000) (hbase : base ≤ w.heap.size) (hb : Below base w0 w)
    (h : ∀ v' w', w'.ownsRow base E 2 v' (n + m) (Mk.cs (l ++ l')) → Below base w0 w' → w.grownBy w' v.ownBlock → (v'.ownBlock = v.ownBlock ∨ v'.ownBlock = some w.heap.size) → wpList P ops Q rest (a.put o.dst v') w') : wpList P ops Q (o :: rest) a w := by
  obtain ⟨i0, hi0, hz0, hz1, hz2⟩ := info_parts hE
  refine wpList_append_row w hgd s x _ ho base _ i0 _ 2 24 hT hi0 hz0 hz1 hz2 rfl (by decide) v n (Mk.cs l) hs hown A m c (Mk.cs l') hx hr (MkU.one l') (by unfold maxLen; omega) (by omega) hbase ?_
  intro v' w' h1 h2 h3
  exact h v' w' (by rw [MkU.app]; exact h1) (below_append hb hown (Nat.le_refl _) hbase h2) h2 h3
theorem info_fe : (Tryz.prog.info? 125).map (fun i => (i.zero, i.size, i.bytes)) = some (some (.agg #[.string ⟨#[]⟩, .int .i64 0]), 2, 24) := by kernel_rfl
theorem findM_at {l : List Mk} (hr : (l.map fun m => m.nm.data.toList).Pairwise fun a b => a < b) {k : Nat} (hk : k < l.length) : findM l[k].nm l = (l[k].pl, true) := by
  refine findM_some hk (by unfold nmIs; exact beq_self_eq_true _) fun j hj hjk => ?_
  rw [List.pairwise_map] at hr
  have := List.pairwise_iff_getElem.1 hr j k hj hk hjk
  unfold nmIs
  rw [beq_eq_false_iff_ne, ByteArray.toList_eq, ByteArray.toList_eq]
  intro e
  rw [e] at this
  exact List.lt_irrefl _ this
theorem take_mk {l : List Mk} {k : Nat} (hk : k < l.length) : l.take (k + 1) = l.take k ++ [l[k]] := List.take_succ_eq_append_getElem hk
set_option maxHeartbeats 1000000 in
theorem folist_calls {w : World} {b : Nat} {l : List Mk} (h : MapN w b l) (hl : l.length ≤ 1000000) (hs : ∀ m ∈ l, MkOk m) :
    Calls Tryz.prog 132 #[.map (some b)] w fun e w' => ∃ v, e = .returned v ∧ w'.ownsRow w.heap.size 125 2 v l.length (Mk.cs l) ∧ Ex w w' := by
  have H := Lib.hid h
  have HR := Lib.hid (rises_names h)
  have HS := Lib.hid hs
  clear h hs
  go_enter Tryz.func132, Tryz.ntmps132
  go_wp2_with fail
  refine (keysN_calls b w).mono ?_
  rintro e w1 ⟨rfl, rfl⟩
  go_wp2_with fail
  refine (sortedN_calls H.out hl).mono ?_
  rintro e w2 ⟨sv, rfl, ho2, hb2⟩
  obtain ⟨sA, sc, rfl, hsc⟩ := own_shape ho2
  have HSR := Lib.hid (Row.of_own ho2)
  have HX2 := Lib.hid hb2
  have hz2 := hb2.size
  clear ho2 hb2
  go_wp2_with fail
  go_loopw [3, 10] (fun v i wr => ∃ k : Nat, k ≤ l.length ∧ i = .int .i64 (k : Int) ∧ wr.ownsRow w2.heap.size 125 2 v k (Mk.cs (l.take k)) ∧ Ex w2 wr) (fun _ i _ => l.length - (intOf i).toNat)
  case atStart => exact ⟨0, Nat.zero_le _, rfl, World.ownsRow_nil _ _ _ _, Ex.refl _⟩
  case round =>
    obtain ⟨k, hk, rfl, ho, hb⟩ := hrel
    have HW := Lib.hid ho
    have HB := Lib.hid hb
    have HBw := Lib.hid (HX2.out.trans hb)
    have hzr := hb.size
    clear ho hb
    by_cases hlt : k < l.length
    · obtain ⟨b', o', hA, hc'⟩ := HSR.out.2 (by omega)
      subst hA
      have c0 : wr.cell? ⟨b', o' + k, none⟩ = some (.string l[k].nm) := HB.out.cell (hc' k _ (by rw [List.getElem?_map, List.getElem?_eq_getElem hlt]; rfl))
      have hlk := MapN.look (H.out.ex HBw.out) (HS.out l[k] (List.getElem_mem _)).1
      rw [findM_at HR.out hlt] at hlk
      have HT := Lib.hid (take_mk hlt)
      have hk1 : (wr.alloc (.cells #[.string l[k].nm, .int .i64 l[k].pl] 125)).heap.size = wr.heap.size + 1 := by simp
      have HK1 := Lib.hid hk1
      clear hc' hk1
      generalize l[k] = x at *
      go_wp2_with (at_builtin; refine app_mkT 122 125 Tryz.underlying122 info_fe rfl (.tmp 14) (.tmp 20) rfl w2.heap.size _ _ (l.take k) rfl (HW.out.alloc _) (some ⟨wr.heap.size, 0, none⟩) 1 1 [x] rfl (mku_row (T := 125) (heap_alloc_new wr _)) (by omega) (by have := HK1.out; omega) (ex_alloc HB.out _) ?_; intro v' w' ho' hb' hg' _)
      exact ⟨⟨k + 1, by omega, by go_num, by rw [HT.out]; exact ho', hb'⟩, by simp [intOf]; omega⟩
    · have hkl : k = l.length := by omega
      subst hkl
      have HT := Lib.hid (List.take_length (l := l))
      go_wp2_with fail
      go_ret
      have ho3 := own_more HW.out hz2
      rw [HT.out] at ho3
      exact ⟨_, rfl, ho3, HBw.out⟩
theorem fonow_calls {w : World} {g : Nat} {F : Nat → Prop} {q : FoV} {M : Nat} (ho : q.Ok M) (hM : M ≤ 1000000) (h : FoP w g F q) :
    Calls Tryz.prog 63 #[.pointer (some ⟨g, 0, none⟩)] w fun e w' => ∃ v, e = .returned v ∧ w'.ownsRow w.heap.size 125 2 v q.now.length (Mk.cs q.now) ∧ Ex w w' := by
  have H := Lib.hid h
  have HO := Lib.hid ho
  clear h ho
  go_enter Tryz.func63, Tryz.ntmps63
  go_wp2_with fail
  refine (fonone_calls H.out).mono ?_
  rintro e w1 ⟨rfl, hb1⟩
  obtain ⟨kb, nb, v, hr⟩ := H.out.ex hb1
  have c1 : w1.cell? ⟨g, 1, none⟩ = some (.map (some nb)) := by rw [hr.blk.cell]; rfl
  have HN := Lib.hid hr.now
  have hz := hb1.size
  clear hr
  go_wp2_with fail
  refine (folist_calls HN.out (Nat.le_trans HO.out.now_len hM) HO.out.now_all).mono ?_
  rintro e w3 ⟨v, rfl, ho3, hb3⟩
  go_wp2_with fail
  go_ret
  exact ⟨v, rfl, own_more ho3 hz, hb1.trans hb3⟩
end Go.Proofs.YtomfcgeibbicoaaGreat
namespace Go.Proofs.YtomfcgeibbicoaaGreat
open Go.RowKit Go.Maps Go.Sort Go.Shelf
/-- All lists of names: what lasts, then what it is behind each change that waits. -/
def scanC : List Mk → List Chg → List (List Mk)
  | l, [] => [l]
  | l, c :: r => l :: scanC (c.ap l) r
def FoV.lists (q : FoV) : List (List Mk) := scanC q.kept q.ch
/-- All numbers that can be there still. -/
def FoV.ids (q : FoV) : List Int := setI (q.lists.flatMap fun l => l.map Mk.pl)
theorem scan_mem (x : Int) : ∀ (ch : List Chg) (l : List Mk), (∃ L ∈ scanC l ch, ∃ m ∈ L, m.pl = x) ↔ (∃ m ∈ l, m.pl = x) ∨ ∃ c ∈ ch, c.pu = true ∧ c.id = x
  | [], l => by simp [scanC]
  | c :: r, l => by
    unfold scanC
    constructor
    · rintro ⟨L, hL, m, hm, hx⟩
      rcases List.mem_cons.1 hL with rfl | hL
      · exact .inl ⟨m, hm, hx⟩
      · rcases (scan_mem x r (c.ap l)).1 ⟨L, hL, m, hm, hx⟩ with ⟨m', hm', hx'⟩ | ⟨c', hc', h1, h2⟩
        · have := ap_all (P := fun m => (m ∈ l) ∨ (c.pu = true ∧ m.pl = c.id)) (c := c) (fun hp => .inr ⟨hp, rfl⟩) (l := l) (fun m h => .inl h) m' hm'
          rcases this with h | ⟨h1, h2⟩
          · exact .inl ⟨m', h, hx'⟩
          · exact .inr ⟨c, by simp, h1, by rw [← h2]; exact hx'⟩
        · exact .inr ⟨c', by simp [hc'], h1, h2⟩
    · rintro (⟨m, hm, hx⟩ | ⟨c', hc', h1, h2⟩)
      · exact ⟨l, by simp, m, hm, hx⟩
      · rcases List.mem_cons.1 hc' with rfl | hc'
        · have hin : (⟨c'.come, c'.id⟩ : Mk) ∈ c'.ap l := by
            unfold Chg.ap Chg.p
            rw [if_pos h1]
            exact (insM_mem _ _ _).2 (.inl rfl)
          obtain ⟨L, hL, m, hm, hx⟩ := (scan_mem x r (c'.ap l)).2 (.inl ⟨_, hin, h2⟩)
          exact ⟨L, by simp [hL], m, hm, hx⟩
        · obtain ⟨L, hL, m, hm, hx⟩ := (scan_mem x r (c.ap l)).2 (.inr ⟨c', hc', h1, h2⟩)
          exact ⟨L, by simp [hL], m, hm, hx⟩
theorem FoV.ids_mem (q : FoV) (x : Int) : x ∈ q.ids ↔ (∃ m ∈ q.kept, m.pl = x) ∨ ∃ c ∈ q.ch, c.pu = true ∧ c.id = x := by
  unfold ids
  rw [setI_mem, List.mem_flatMap, ← scan_mem x q.ch q.kept]
  constructor
  · rintro ⟨L, hL, hx⟩
    obtain ⟨m, hm, e⟩ := List.mem_map.1 hx
    exact ⟨L, hL, m, hm, e⟩
  · rintro ⟨L, hL, m, hm, e⟩
    exact ⟨L, hL, List.mem_map.2 ⟨m, hm, e⟩⟩
theorem FoV.ids_up (q : FoV) : Up q.ids := setI_up _
abbrev intKey : Keyed Tryz.prog 3 := int_keyed Tryz.underlying3
theorem key_int {x : Int} (h1 : -9223372036854775808 ≤ x) (h2 : x ≤ 9223372036854775807) : keyOf Tryz.prog 3 (.int .i64 x) = some (inK x) := keyOf_int_mk Tryz.underlying3 (WalkArith.wf_i64 (by omega))
theorem sortedI_calls {w : World} {b : Nat} {l : List (Lit × Value)} {S : Int → Prop} (h : MapB w Tryz.prog 3 b l) (hv : SetV l S) (hl : l.length ≤ 1000000) {L : List Int} (hL : Up L) (hS : ∀ x, x ∈ L ↔ S x) :
    Calls Tryz.prog 161 #[.func (.func 205) #[] #[.pointer (some ⟨w.heap.size, 0, none⟩)]] (w.alloc (.cells #[.map (some b)] 218)) fun e w' => ∃ v, e = .returned v ∧ w'.ownsRow w.heap.size 3 1 v L.length (L.map (Value.int .i64)) ∧ Ex w w' := by
  have hbl := h.lt
  have hsz : Maps.size (asD l) = l.length := asD_size l
  have hup := hv.up (h.rises intKey)
  have hseq : SeqGives Fence.wide 2 Tryz.prog 205 #[.pointer (some ⟨w.heap.size, 0, none⟩)] encZ (fun ss => ss.Perm (intKeys (asD l))) (Maps.size (asD l)) (w.alloc (.cells #[.map (some b)] 218)) :=
    AnyZI.keys_gives (ρ := Tryz.keysI_ren) { Tryz.keysI with } Fence.wide _ trivial rfl (by omega) w.heap.size b l.length (asD l) (R := heldV) _ (by simp) (by simp) (h.ex (ex_alloc (Ex.refl w) _))
  have cS := AnyZI.sorted_in Tryz.sortedI Fence.wide 5 trivial trivial trivial trivial rfl (by omega) (Tryz.sortsI _) (enters_of Tryz.func204 (by kernel_rfl) rfl) 205 #[.pointer (some ⟨w.heap.size, 0, none⟩)] trivial (enters_of (Tryz.func205) (by kernel_rfl) rfl) _ _ (by rw [hsz]; unfold maxLen; omega) (by rw [hsz]; omega) _ hseq
  refine (callsIn_wide.1 cS).mono ?_
  rintro e w' ⟨v, ss, rfl, hp, hrow, _, hb⟩
  refine ⟨v, rfl, ?_, (ex_alloc (Ex.refl w) _).trans hb⟩
  rw [intKeys_asD] at hp
  have hLk : l.map (fun p => Go.intOf p.1) = L := up_ext hup hL fun x => (hv.keys x).trans (hS x).symm
  rw [hLk] at hp
  have e1 : ss.mergeSort (fun x y => decide (x ≤ y)) = L := by
    have h1 := mergeSort_of_perm_i hp
    have h2 : L.mergeSort leI = L := by
      apply List.mergeSort_of_pairwise
      refine hL.imp fun {a b} h => ?_
      simp only [leI, decide_eq_true_eq]
      omega
    exact h1.trans h2
  rw [e1, hp.length_eq] at hrow
  exact own_more hrow (by simp)
end Go.Proofs.YtomfcgeibbicoaaGreat
namespace Go.Proofs.YtomfcgeibbicoaaGreat
open Go.RowKit Go.Maps Go.Sort Go.Shelf
/-- The numbers of names that have been met. -/
def MetV (l : List Mk) (left : Lit → Bool) (x : Int) : Prop := ∃ m ∈ l, m.pl = x ∧ left (nmK m.nm) = false
theorem met_start (l : List Mk) (x : Int) : MetV l (hasL (enL l)) x ↔ False := by
  refine ⟨fun ⟨m, hm, _, h⟩ => ?_, fun h => h.elim⟩
  rw [enL_has] at h
  unfold findM at h
  cases hf : l.find? (nmIs m.nm) with
  | none => rw [List.find?_eq_none] at hf; exact hf m hm (by unfold nmIs; exact beq_self_eq_true _)
  | some y => rw [hf] at h; cases h
theorem met_step {l : List Mk} (hr : (l.map fun m => m.nm.data.toList).Pairwise fun a b => a < b) {left : Lit → Bool} {m0 : Mk} (h0 : m0 ∈ l) (x : Int) : (x = m0.pl ∨ MetV l left x) ↔ MetV l (fun z => left z && !z.sameKey (nmK m0.nm)) x := by
  constructor
  · rintro (rfl | ⟨m, hm, hx, hl⟩)
    · refine ⟨m0, h0, rfl, ?_⟩
      have : (nmK m0.nm).sameKey (nmK m0.nm) = true := (same_nm m0.nm m0).trans (by unfold nmIs; exact beq_self_eq_true _)
      simp [this]
    · exact ⟨m, hm, hx, by simp [hl]⟩
  · rintro ⟨m, hm, hx, hl⟩
    replace hl : (left (nmK m.nm) && !(nmK m.nm).sameKey (nmK m0.nm)) = false := hl
    cases hq : (nmK m.nm).sameKey (nmK m0.nm)
    · rw [hq] at hl
      exact .inr ⟨m, hm, hx, by simpa using hl⟩
    · have hq' : nmIs m0.nm m = true := (same_nm m0.nm m).symm.trans hq
      have e1 := nm_eq hq'
      obtain ⟨i, hi, rfl⟩ := List.getElem_of_mem hm
      have f1 := findM_at hr hi
      obtain ⟨j, hj, rfl⟩ := List.getElem_of_mem h0
      have f2 := findM_at hr hj
      have : findM l[i].nm l = findM l[j].nm l := by
        unfold findM
        have : nmIs l[i].nm = nmIs l[j].nm := by unfold nmIs; rw [e1]
        rw [this]
      rw [f1, f2] at this
      injection this with h1 _
      exact .inl (hx.symm.trans h1)
theorem met_all {l : List Mk} {left : Lit → Bool} (h : ∀ kl, left kl = false) (x : Int) : MetV l left x ↔ ∃ m ∈ l, m.pl = x := ⟨fun ⟨m, a, b, _⟩ => ⟨m, a, b⟩, fun ⟨m, a, b⟩ => ⟨m, a, b, h _⟩⟩
theorem inv_str : ∀ key kl, keyOf Tryz.prog 9 key = some kl → ∃ x, key = encStr x := fun key kl h => by
  obtain ⟨x, hx, _⟩ := Maps.keyOf_str Tryz.underlying9 h
  exact ⟨x, hx⟩
theorem MapI.look {w : World} {b : Nat} {l : List (Lit × Value)} (h : MapB w Tryz.prog 3 b l) {S : Int → Prop} (hv : SetV l S) {x : Int} (h1 : -9223372036854775808 ≤ x) (h2 : x ≤ 9223372036854775807) :
    ∃ c, (Instr.lookup 218 (.map (some b)) (.int .i64 x) false).run Tryz.prog w = .ok (.int .i64 c) w := by
  have := MapB.look h intKey Tryz.underlying218 (zero_int w) (key_int h1 h2)
  obtain ⟨c, hc⟩ := hv.get x
  rw [hc] at this
  exact ⟨c, this⟩
theorem MapI.store {w : World} {b : Nat} {l : List (Lit × Value)} (h : MapB w Tryz.prog 3 b l) (hl : l.length ≤ 100000000) {S : Int → Prop} (hv : SetV l S) {x : Int} (h1 : -9223372036854775808 ≤ x) (h2 : x ≤ 9223372036854775807) (c : Int) :
    ∃ w' l', (Instr.mapUpdate 218 (.map (some b)) (.int .i64 x) (.int .i64 c)).run Tryz.prog w = .ok () w' ∧ MapB w' Tryz.prog 3 b l' ∧ SetV l' (fun y => y = x ∨ S y) ∧ l'.length ≤ l.length + 1 ∧ w.grownBy w' (some b) := by
  obtain ⟨w', a1, a2, a3⟩ := MapB.store h intKey Tryz.underlying218 (by unfold maxLen; omega) (.int .i64 c) (key_int h1 h2)
  exact ⟨w', _, a1, a2, hv.put x c, stoL_len _ _ _, a3⟩
theorem ch_no {q : FoV} {k : Nat} {c : Chg} (h : q.ch.take (k + 1) = q.ch.take k ++ [c]) (hc : c.pu = false) (x : Int) : ((∃ m ∈ q.kept, m.pl = x) ∨ ∃ c ∈ q.ch.take k, c.pu = true ∧ c.id = x) ↔ ((∃ m ∈ q.kept, m.pl = x) ∨ ∃ c ∈ q.ch.take (k + 1), c.pu = true ∧ c.id = x) := by
  rw [h]
  constructor
  · rintro (h | ⟨d, hd, h1, h2⟩)
    · exact .inl h
    · exact .inr ⟨d, by simp [hd], h1, h2⟩
  · rintro (h | ⟨d, hd, h1, h2⟩)
    · exact .inl h
    · rcases List.mem_append.1 hd with hd | hd
      · exact .inr ⟨d, hd, h1, h2⟩
      · rcases List.mem_cons.1 hd with rfl | hd
        · rw [hc] at h1; cases h1
        · cases hd
theorem ch_yes {q : FoV} {k : Nat} {c : Chg} (h : q.ch.take (k + 1) = q.ch.take k ++ [c]) (hc : c.pu = true) (x : Int) : (x = c.id ∨ ((∃ m ∈ q.kept, m.pl = x) ∨ ∃ c ∈ q.ch.take k, c.pu = true ∧ c.id = x)) ↔ ((∃ m ∈ q.kept, m.pl = x) ∨ ∃ c ∈ q.ch.take (k + 1), c.pu = true ∧ c.id = x) := by
  rw [h]
  constructor
  · rintro (rfl | h | ⟨d, hd, h1, h2⟩)
    · exact .inr ⟨c, by simp, hc, rfl⟩
    · exact .inl h
    · exact .inr ⟨d, by simp [hd], h1, h2⟩
  · rintro (h | ⟨d, hd, h1, h2⟩)
    · exact .inr (.inl h)
    · rcases List.mem_append.1 hd with hd | hd
      · exact .inr (.inr ⟨d, hd, h1, h2⟩)
      · rcases List.mem_cons.1 hd with rfl | hd
        · exact .inl h2.symm
        · cases hd
theorem ex_of_grown {w w1 w2 : World} (h : Ex w w1) (hg : w1.grownBy w2 none) : Ex w w2 := Below.grown h hg h.size fun k hk => by cases hk
theorem ex_of_new {w w1 w2 : World} {b : Nat} (h : Ex w w1) (hb : w.heap.size ≤ b) (hg : w1.grownBy w2 (some b)) : Ex w w2 := Below.grown h hg h.size fun k hk => by injection hk with e; omega
set_option maxHeartbeats 4000000 in
set_option maxRecDepth 100000 in
theorem foids_calls {w : World} {g : Nat} {F : Nat → Prop} {q : FoV} {M : Nat} (ho : q.Ok M) (hM : M ≤ 1000000) (h : FoP w g F q) :
    Calls Tryz.prog 99 #[.pointer (some ⟨g, 0, none⟩)] w fun e w' => ∃ v, e = .returned v ∧ w'.ownsRow w.heap.size 3 1 v q.ids.length (q.ids.map (Value.int .i64)) ∧ Ex w w' := by
  have H := Lib.hid h
  have HO := Lib.hid ho
  have hmm := @run_makeMap Tryz.prog
  clear h ho
  go_enter Tryz.func99, Tryz.ntmps99
  go_wp2_with fail
  refine (fonone_calls H.out).mono ?_
  rintro e w1 ⟨rfl, hb1⟩
  obtain ⟨kb, nb, v, hr⟩ := H.out.ex hb1
  obtain ⟨A, cp, rfl, hcp⟩ := own_shape hr.own
  have HX1 := Lib.hid hb1
  have hXB := ex_alloc (Ex.refl w1) (.map #[] 0)
  have HB0 := Lib.hid (MapB.made w1 Tryz.prog 3)
  have c0 : (w1.alloc (.map #[] 0)).cell? ⟨g, 0, none⟩ = some (.map (some kb)) := hXB.cell (by rw [hr.blk.cell]; rfl)
  have HK := Lib.hid (hr.kept.ex hXB)
  have HR := Lib.hid hr
  have HRW := Lib.hid (Row.of_own hr.own)
  have hkB : kb < w1.heap.size := hr.kept.lt
  have HXB := Lib.hid hXB
  have HRI := Lib.hid (rises_names hr.kept)
  have hz1 : (w1.alloc (.map #[] 0)).heap.size = w1.heap.size + 1 := by simp
  have HZ1 := Lib.hid hz1
  clear hr hb1 hXB hz1
  have hkl : q.kept.length + q.ch.length ≤ 1000000 := by have := HO.out.kl; omega
  go_wp2_with (at_range; refine wpList_range_map _ rfl _ 167 rfl 9 3 strKey Tryz.underlying167 kb (enL q.kept) rfl HK.out ?_; intro w3 hrg0 hg3 hs3)
  go_frame
  rw [HZ1.out] at hrg0 hs3 ⊢
  have HG3 := Lib.hid (ex_of_grown HXB.out hg3)
  have HB3 := Lib.hid (MapB.keep HB0.out (hg3.block w1.heap.size HB0.out.lt (by simp)))
  clear hg3 c0
  go_loopw [5] (fun _ wr => ∃ left cnt l', MapR wr Tryz.prog 9 kb (w1.heap.size + 1) (enL q.kept) left cnt ∧ MapB wr Tryz.prog 3 w1.heap.size l' ∧ SetV l' (MetV q.kept left) ∧ l'.length + cnt ≤ q.kept.length ∧ Ex w1 wr) (fun _ wr => wr.rangeLeft kb (w1.heap.size + 1))
  case atStart => exact ⟨_, _, [], hrg0, HB3.out, SetV.nil.mono fun x => (met_start _ x).symm, by rw [enL_len]; simp, HG3.out⟩
  case round =>
    obtain ⟨left, cnt, l', hrg, hB, hV, hln, hb⟩ := hrel
    have HRG := Lib.hid hrg
    have HB := Lib.hid hB
    have HV := Lib.hid hV
    have HX := Lib.hid hb
    clear hrg hB hV hb hrg0
    go_wp2_with (at_next; refine wpList_next_map _ rfl _ rfl 9 strKey encStr inv_str kb (w1.heap.size + 1) (enL q.kept) left cnt rfl HRG.out ?_ ?_)
    case refine_2 =>
      intro x kl v w4 cnt' _ _ hmem hrg4 hlt4 hg4 hs4 hen
      obtain ⟨m0, hm0, e0⟩ := List.mem_map.1 hmem
      unfold enM at e0
      injection e0 with e1 e2
      subst e1
      subst e2
      have hok := HO.out.ks m0 hm0
      have HRG4 := Lib.hid hrg4
      have hne : some w1.heap.size ≠ some (w1.heap.size + 1) := by intro e; injection e with e; omega
      have HB4 := Lib.hid (MapB.keep HB.out (hg4.block w1.heap.size HB.out.lt hne))
      have HX4 := Lib.hid (ex_of_new HX.out (Nat.le_succ _) hg4)
      have HM0 := Lib.hid hm0
      obtain ⟨h1, h2, h3⟩ := hok
      obtain ⟨c, hlook⟩ := MapI.look HB4.out HV.out h2 h3
      clear hmem hrg4 hg4 hm0
      go_wp2_with (at_mapUpdate; refine wpList_store_map _ rfl _ _ _ 218 rfl 3 3 intKey Tryz.underlying218 w1.heap.size l' rfl HB4.out (by unfold maxLen; omega) _ _ _ rfl rfl (key_int h2 h3) ?_; intro w5 hM5 hg5; have HM5 := Lib.hid hM5; have HG5 := Lib.hid hg5; clear hM5 hg5; go_frame)
      have hR5 := MapR.kept HRG4.out HG5.out (by intro e; injection e with e; omega) (by intro e; injection e with e; omega)
      refine ⟨⟨_, cnt', _, hR5, HM5.out, (HV.out.put m0.pl _).mono (met_step HRI.out HM0.out), Nat.le_trans (Nat.add_le_add_right (stoL_len _ _ _) _) (by omega), ex_of_new HX4.out (Nat.le_refl _) HG5.out⟩, ?_⟩
      rw [hR5.left_eq, HRG.out.left_eq]
      exact hlt4
    case refine_1 =>
      intro hc0 hl0
      have HVA := Lib.hid (HV.out.mono (met_all hl0))
      have c2 : wr.cell? ⟨g, 2, none⟩ = some (.slice A q.ch.length cp) := HX.out.cell (by rw [HR.out.blk.cell]; rfl)
      have hzr := HX.out.size
      obtain ⟨wo, hwo⟩ : ∃ wo : World, wo = wr := ⟨_, rfl⟩
      rw [← hwo] at HB HX c2 hzr ⊢
      clear hwo HRG hc0 HG3 HB3 hs3
      have hlen2 : q.ch.length ≤ 1000000 := by omega
      go_wp2_with fail
      go_loopw [29] (fun i ws => ∃ (k : Nat) (l2 : List (Lit × Value)), k ≤ q.ch.length ∧ i = .int .i64 (k : Int) ∧ MapB ws Tryz.prog 3 w1.heap.size l2 ∧ SetV l2 (fun x => (∃ m ∈ q.kept, m.pl = x) ∨ ∃ c ∈ q.ch.take k, c.pu = true ∧ c.id = x) ∧ l2.length ≤ q.kept.length + k ∧ Ex w1 ws) (fun i _ => q.ch.length - (intOf i).toNat)
      case atStart => exact ⟨0, l', Nat.zero_le _, rfl, HB.out, HVA.out.mono (fun x => by simp), by omega, HX.out⟩
      case round =>
        obtain ⟨k, l2, hk, rfl, hB2, hV2, hl2, hb2⟩ := hrel
        have HB2 := Lib.hid hB2
        have HV2 := Lib.hid hV2
        have HX2 := Lib.hid hb2
        have hz2 := hb2.size
        clear hB2 hV2 hb2
        by_cases hlt : k < q.ch.length
        · obtain ⟨b, o, hA, a0, a1, a2, a3, a4⟩ := HRW.out.chg (i := k) hlt
          subst hA
          have HOK := Lib.hid (HO.out.cs (q.ch[k]'hlt) (List.getElem_mem _))
          have HS := Lib.hid (List.take_succ_eq_append_getElem hlt)
          generalize (q.ch[k]'hlt) = c at *
          obtain ⟨dr, gone, pu, come, id⟩ := c
          simp only at a0 a1 a2 a3 a4
          replace a0 := HX2.out.cell a0
          replace a1 := HX2.out.cell a1
          replace a2 := HX2.out.cell a2
          replace a3 := HX2.out.cell a3
          replace a4 := HX2.out.cell a4
          have hE := ex_alloc (Ex.refl wr) (.cells #[.bool dr, .string gone, .bool pu, .string come, .int .i64 id] 220)
          have HB3 := Lib.hid (MapB.ex HB2.out hE)
          have HX3 := Lib.hid (HX2.out.trans hE)
          obtain ⟨_, _, h2, h3⟩ := HOK.out
          simp only at h2 h3
          cases pu
          · clear hE
            go_wp2_with fail
            exact ⟨⟨k + 1, l2, by omega, by go_num, HB3.out, HV2.out.mono (fun x => ch_no HS.out rfl x), by omega, HX3.out⟩, by simp [intOf]; omega⟩
          · obtain ⟨c, hlook⟩ := MapI.look HB3.out HV2.out h2 h3
            clear hE
            go_wp2_with (at_mapUpdate; refine wpList_store_map _ rfl _ _ _ 218 rfl 3 3 intKey Tryz.underlying218 w1.heap.size l2 rfl HB3.out (by unfold maxLen; omega) _ _ _ rfl rfl (key_int h2 h3) ?_; intro w5 hM5 hg5; have HM5 := Lib.hid hM5; have HG5 := Lib.hid hg5; clear hM5 hg5)
            exact ⟨⟨k + 1, _, by omega, by go_num, HM5.out, (HV2.out.put id _).mono (fun x => ch_yes HS.out rfl x), Nat.le_trans (stoL_len _ _ _) (by omega), ex_of_new HX3.out (Nat.le_refl _) HG5.out⟩, by simp [intOf]; omega⟩
        · have hkl2 : k = q.ch.length := by omega
          have HV3 := Lib.hid (HV2.out.mono (T := fun x => (∃ m ∈ q.kept, m.pl = x) ∨ ∃ c ∈ q.ch, c.pu = true ∧ c.id = x) (fun x => by rw [hkl2, List.take_length]))
          go_wp2_with fail
          refine (keysI_calls w1.heap.size wr).mono ?_
          rintro e w6 ⟨rfl, rfl⟩
          go_wp2_with fail
          refine (sortedI_calls HB2.out HV3.out (by omega) q.ids_up (fun x => q.ids_mem x)).mono ?_
          rintro e w7 ⟨v7, rfl, ho7, hb7⟩
          have HO7 := Lib.hid ho7
          have HX7 := Lib.hid hb7
          clear ho7 hb7
          go_wp2_with fail
          go_ret
          exact ⟨v7, rfl, own_more HO7.out (Nat.le_trans HX1.out.size hz2), (HX1.out.trans HX2.out).trans HX7.out⟩
end Go.Proofs.YtomfcgeibbicoaaGreat
