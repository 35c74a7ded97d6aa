/- Walks: a disk: what it is; is it ready; a file that is seen; the fuse is asked. -/
import Derived.Test.YtomfcgeibbicoaaGreatFo0
import Derived.Test.YtomfcgeibbicoaaGreatTpA
import Derived.Test.YtomfcgeibbicoaaGreatTi0
namespace Go.Proofs.YtomfcgeibbicoaaGreat
open Go.RowKit Go.Maps
/-- A disk, as the document has it. -/
structure DkV where
  sec : Int
  tapes : List TpV
  fo : FoV
  fu : FuV
  calls : Nat
namespace DkV
def ask (Q : DkV) (sync : Bool) : DkV × Int := ({ Q with fu := (Q.fu.call sync).1, calls := Q.calls + 1 }, (Q.fu.call sync).2)
def cells (Q : DkV) (tm fg fz : Nat) : List Value := [.int .i64 Q.sec, .int .i64 (Q.tapes.length : Int), .int .i64 (Q.calls : Int), .map (some tm), .pointer (some ⟨fg, 0, none⟩), .pointer (some ⟨fz, 0, none⟩)]
/-- All is of some size. -/
structure Ok (Q : DkV) (M : Nat) : Prop where
  fo : Q.fo.Ok M
  fu : Q.fu.Ok
  s1 : 1 ≤ Q.sec
  s2 : Q.sec ≤ 4096
  tl : Q.tapes.length ≤ M
  cl : Q.calls ≤ M
  tz : ∀ t ∈ Q.tapes, t.kp.size ≤ 131072 ∧ t.nw.size ≤ 131072
end DkV
/-- The tape of a number stands in block tb. -/
structure TbOk (w : World) (ts : List TpV) (F FF : Nat → Prop) (g fz tm b : Nat) (id : Int) : Prop where
  i1 : 1 ≤ id
  i2 : id ≤ ts.length
  tp : ∃ t, ts[(id - 1).toNat]? = some t ∧ Blk w b 174 t.cs
  f : F b
  ff : ¬ FF b
  ng : b ≠ g
  nz : b ≠ fz
  nm : b ≠ tm
abbrev ptrV (b : Nat) : Value := .pointer (some ⟨b, 0, none⟩)
structure DkR (w : World) (g : Nat) (F : Nat → Prop) (Q : DkV) (tm fg fz : Nat) (FF : Nat → Prop) (l : List (Lit × Value)) (tb : Int → Nat) : Prop where
  blk : Blk w g 102 (Q.cells tm fg fz)
  fob : FoP w fg FF Q.fo
  fub : Blk w fz 184 Q.fu.cs
  tpb : MapB w Tryz.prog 3 tm l
  el : ∀ p ∈ l, ∃ id, p = (inK id, ptrV (tb id)) ∧ TbOk w Q.tapes F FF g fz tm (tb id) id
  co : ∀ id ∈ Q.fo.ids, (inK id, ptrV (tb id)) ∈ l
  inj : ∀ id id', (inK id, ptrV (tb id)) ∈ l → (inK id', ptrV (tb id')) ∈ l → tb id = tb id' → id = id'
  gz : g ≠ fz
  gt : g ≠ tm
  zt : fz ≠ tm
  ffg : ¬ FF g
  ffz : ¬ FF fz
  fft : ¬ FF tm
  fg_ : F g
  fz_ : F fz
  ft_ : F tm
  sub : ∀ k, FF k → F k
  ffl : ∀ k, FF k → k < w.heap.size
def DkP (w : World) (g : Nat) (F : Nat → Prop) (Q : DkV) : Prop := ∃ tm fg fz FF l tb, DkR w g F Q tm fg fz FF l tb
theorem TbOk.keep {w w' : World} {ts : List TpV} {F FF : Nat → Prop} {g fz tm b : Nat} {id : Int} (h : TbOk w ts F FF g fz tm b id) (hb : w'.heap[b]? = w.heap[b]?) : TbOk w' ts F FF g fz tm b id := by
  refine { h with tp := ?_ }
  obtain ⟨t, h1, h2⟩ := h.tp
  exact ⟨t, h1, hb.trans h2⟩
theorem TbOk.lt {w : World} {ts : List TpV} {F FF : Nat → Prop} {g fz tm b : Nat} {id : Int} (h : TbOk w ts F FF g fz tm b id) : b < w.heap.size := by
  obtain ⟨t, _, h2⟩ := h.tp
  exact h2.lt
section
variable {w w' : World} {g : Nat} {F : Nat → Prop} {Q : DkV} {tm fg fz : Nat} {FF : Nat → Prop} {l : List (Lit × Value)} {tb : Int → Nat}
theorem DkR.ex (h : DkR w g F Q tm fg fz FF l tb) (hb : Ex w w') : DkR w' g F Q tm fg fz FF l tb := by
  refine { h with ffl := fun k hk => Nat.lt_of_lt_of_le (h.ffl k hk) hb.size, blk := h.blk.ex hb, fob := h.fob.ex hb, fub := h.fub.ex hb, tpb := h.tpb.ex hb, el := fun p hp => ?_ }
  obtain ⟨id, e, ht⟩ := h.el p hp
  exact ⟨id, e, ht.keep (hb.block _ ht.lt)⟩
theorem DkR.more {G : Nat → Prop} (h : DkR w g F Q tm fg fz FF l tb) (hF : ∀ k, F k → G k) : DkR w g G Q tm fg fz FF l tb := by
  refine { h with fg_ := hF _ h.fg_, fz_ := hF _ h.fz_, ft_ := hF _ h.ft_, sub := fun k hk => hF k (h.sub k hk), el := fun p hp => ?_ }
  obtain ⟨id, e, ht⟩ := h.el p hp
  exact ⟨id, e, { ht with f := hF _ ht.f }⟩
theorem DkP.ex (h : DkP w g F Q) (hb : Ex w w') : DkP w' g F Q := by
  obtain ⟨tm, fg, fz, FF, l, tb, h⟩ := h
  exact ⟨tm, fg, fz, FF, l, tb, h.ex hb⟩
theorem DkP.more {G : Nat → Prop} (h : DkP w g F Q) (hF : ∀ k, F k → G k) : DkP w g G Q := by
  obtain ⟨tm, fg, fz, FF, l, tb, h⟩ := h
  exact ⟨tm, fg, fz, FF, l, tb, h.more hF⟩
theorem FoP.sub {w : World} {g : Nat} {FF : Nat → Prop} {q : FoV} (h : FoP w g FF q) : FF g := by
  obtain ⟨kb, nb, v, h⟩ := h
  exact h.fg
/-- Other blocks turn. -/
theorem DkP.off {G : Nat → Prop} (h : DkP w g F Q) (hb : Off G w w') (hG : ∀ k, k < w.heap.size → F k → ¬ G k) : DkP w' g F Q := by
  obtain ⟨tm, fg, fz, FF, l, tb, h⟩ := h
  refine ⟨tm, fg, fz, FF, l, tb, { h with ffl := fun k hk => Nat.lt_of_lt_of_le (h.ffl k hk) hb.size, blk := h.blk.off hb (hG _ h.blk.lt h.fg_), fob := h.fob.off hb (fun k hk hf => hG k hk (h.sub k hf)), fub := h.fub.off hb (hG _ h.fub.lt h.fz_), tpb := h.tpb.off hb (hG _ h.tpb.lt h.ft_), el := fun p hp => ?_ }⟩
  obtain ⟨id, e, ht⟩ := h.el p hp
  exact ⟨id, e, ht.keep (hb.block _ ht.lt (hG _ ht.lt ht.f))⟩
/-- The disk's own cells turn. -/
theorem DkR.own_ {Q' : DkV} (h : DkR w g F Q tm fg fz FF l tb) (hb : Off (· = g) w w') (hB : Blk w' g 102 (Q'.cells tm fg fz)) (e1 : Q'.fo = Q.fo) (e2 : Q'.fu = Q.fu) (e3 : Q'.tapes = Q.tapes) : DkR w' g F Q' tm fg fz FF l tb := by
  refine { h with ffl := fun k hk => Nat.lt_of_lt_of_le (h.ffl k hk) hb.size, blk := hB, fob := by rw [e1]; exact h.fob.off hb (fun k _ hk e => h.ffg (e ▸ hk)), fub := by rw [e2]; exact h.fub.off hb (fun e => h.gz e.symm), tpb := h.tpb.off hb (fun e => h.gt e.symm), co := by rw [e1]; exact h.co, el := fun p hp => ?_ }
  obtain ⟨id, e, ht⟩ := h.el p hp
  rw [e3]
  exact ⟨id, e, ht.keep (hb.block _ ht.lt ht.ng)⟩
/-- The fuse turns. -/
theorem DkR.fuse_ {f : FuV} (h : DkR w g F Q tm fg fz FF l tb) (hb : Off (· = fz) w w') (hB : Blk w' fz 184 f.cs) : DkR w' g F { Q with fu := f } tm fg fz FF l tb := by
  refine { h with ffl := fun k hk => Nat.lt_of_lt_of_le (h.ffl k hk) hb.size, blk := h.blk.off hb h.gz, fob := h.fob.off hb (fun k _ hk e => h.ffz (e ▸ hk)), fub := hB, tpb := h.tpb.off hb (fun e => h.zt e.symm), el := fun p hp => ?_ }
  obtain ⟨id, e, ht⟩ := h.el p hp
  exact ⟨id, e, ht.keep (hb.block _ ht.lt ht.nz)⟩
end
theorem dnone_calls {w : World} {g : Nat} {F : Nat → Prop} {Q : DkV} (h : DkP w g F Q) : Calls Tryz.prog 62 #[.pointer (some ⟨g, 0, none⟩)] w fun e w' => e = .returned (.bool false) ∧ Ex w w' := by
  obtain ⟨tm, fg, fz, FF, l, tb, h⟩ := h
  have hc : w.cell? ⟨g, 4, none⟩ = some (ptrV fg) := by rw [h.blk.cell]; rfl
  clear h
  go_enter Tryz.func62, Tryz.ntmps62
  go_wp2_with fail
  go_ret
  exact ⟨rfl, Ex.refl _⟩
theorem dready_calls {w : World} {g : Nat} {F : Nat → Prop} {Q : DkV} (h : DkP w g F Q) : Calls Tryz.prog 54 #[.pointer (some ⟨g, 0, none⟩)] w fun e w' => e = .returned (.int .i64 (if Q.fu.off = true then 14 else 0)) ∧ Ex w w' := by
  have H := Lib.hid h
  clear h
  cases hf : Q.fu.off
  all_goals
    go_enter Tryz.func54, Tryz.ntmps54
    go_wp2_with fail
    refine (dnone_calls H.out).mono ?_
    rintro e w1 ⟨rfl, hb1⟩
    obtain ⟨tm, fg, fz, FF, l, tb, h⟩ := H.out.ex hb1
    have hc : w1.cell? ⟨g, 5, none⟩ = some (ptrV fz) := by rw [h.blk.cell]; rfl
    have HZ := Lib.hid h.fub
    clear h
    go_wp2_with fail
    refine (fup_calls HZ.out).mono ?_
    rintro e w2 ⟨rfl, hb2⟩
    rw [hf]
    go_wp2_with fail
    go_ret
    exact ⟨rfl, hb1.trans hb2⟩
end Go.Proofs.YtomfcgeibbicoaaGreat
namespace Go.Proofs.YtomfcgeibbicoaaGreat
open Go.RowKit Go.Maps
theorem getL_of {l : List (Lit × Value)} (hr : l.Pairwise fun p q => p.1.before q.1 = true) {x : Int} {v z : Value} (h : (inK x, v) ∈ l) : getL l (inK x) z = v := by
  unfold getL
  cases hf : l.find? (fun p => p.1.sameKey (inK x)) with
  | none =>
    rw [List.find?_eq_none] at hf
    exact absurd (by rw [sameI]; exact decide_eq_true rfl) (hf _ h)
  | some p =>
    have hm := List.mem_of_find?_eq_some hf
    have hk : p.1 = inK x := WideAt.sameKey_eq (by have := List.find?_some hf; simpa using this)
    obtain ⟨i, hi, rfl⟩ := List.getElem_of_mem hm
    obtain ⟨j, hj, hjv⟩ := List.getElem_of_mem h
    have hb : ∀ i j (hi : i < l.length) (hj : j < l.length), i < j → l[i].1 = inK x → l[j].1 = inK x → False := fun i j hi hj hij e1 e2 => by
      have := List.pairwise_iff_getElem.1 hr i j hi hj hij
      rw [e1, e2] at this
      have h3 : decide (x < x) = true := this
      rw [decide_eq_true_eq] at h3
      omega
    have hij : i = j := by
      rcases Nat.lt_trichotomy i j with h1 | h1 | h1
      · exact absurd (hb i j hi hj h1 hk (by rw [hjv])) id
      · exact h1
      · exact absurd (hb j i hj hi h1 (by rw [hjv]) hk) id
    subst hij
    rw [hjv]
theorem zero_tape (w : World) : (zeroValue 105).run Tryz.prog w = .ok (.pointer none) w := by kernel_rfl
theorem mem_scan {x : Int} {q : FoV} {l : List Mk} (h : ∀ m ∈ l, m.pl ∈ q.ids) {m : Mk} (hm : m ∈ l) (e : m.pl = x) : x ∈ q.ids := e ▸ h m hm
theorem FoV.now_ids (q : FoV) : ∀ m ∈ q.now, m.pl ∈ q.ids := by
  unfold now
  exact fold_all (P := fun m => m.pl ∈ q.ids) (fun c hc hp => (q.ids_mem _).2 (.inr ⟨c, hc, hp, rfl⟩)) (fun m hm => (q.ids_mem _).2 (.inl ⟨m, hm, rfl⟩))
theorem FoV.found_ids {q : FoV} {s : ByteArray} (h : (findM s q.now).2 = true) : (findM s q.now).1 ∈ q.ids := by
  obtain ⟨m, _, hm, _, e⟩ := findM_mem (P := fun m => m.pl ∈ q.ids) q.now_ids h
  rw [e]; exact hm
section
variable {w : World} {g : Nat} {F : Nat → Prop} {Q : DkV} {tm fg fz : Nat} {FF : Nat → Prop} {l : List (Lit × Value)} {tb : Int → Nat}
theorem DkR.tape (h : DkR w g F Q tm fg fz FF l tb) {id : Int} (hid : id ∈ Q.fo.ids) : TbOk w Q.tapes F FF g fz tm (tb id) id := by
  obtain ⟨id', e, ht⟩ := h.el _ (h.co id hid)
  injection e with e1 e2
  injection e1 with _ e3
  subst e3
  exact ht
theorem DkR.look (h : DkR w g F Q tm fg fz FF l tb) {id : Int} (hid : id ∈ Q.fo.ids) {M : Nat} (ho : Q.Ok M) (hM : M ≤ 1000000) : (Instr.lookup 98 (.map (some tm)) (.int .i64 id) false).run Tryz.prog w = .ok (ptrV (tb id)) w := by
  have ht := h.tape hid
  have := MapB.look h.tpb intKey Tryz.underlying98 (zero_tape w) (key_int (x := id) (by have := ht.i1; omega) (by have := ht.i2; have := ho.tl; omega))
  rw [getL_of (h.tpb.rises intKey) (h.co id hid)] at this
  exact this
theorem dfind_down (s : ByteArray) (h : DkR w g F Q tm fg fz FF l tb) (hf : Q.fu.off = true) : Calls Tryz.prog 126 #[.pointer (some ⟨g, 0, none⟩), .string s] w fun e w' => e = .returned (.tuple #[.pointer none, .int .i64 14]) ∧ Ex w w' := by
  have H := Lib.hid h
  have HF := Lib.hid hf
  clear h hf
  go_enter Tryz.func126, Tryz.ntmps126
  go_wp2_with fail
  refine (dready_calls ⟨_, _, _, _, _, _, H.out⟩).mono ?_
  rintro e w1 ⟨rfl, hb1⟩
  rw [HF.out]
  go_wp2_with fail
  go_ret2
  exact ⟨rfl, hb1⟩
theorem dfind_none (s : ByteArray) (hs : s.size ≤ 9223372036854775807) (h : DkR w g F Q tm fg fz FF l tb) (hf : Q.fu.off = false) (hn : (findM s Q.fo.now).2 = false) : Calls Tryz.prog 126 #[.pointer (some ⟨g, 0, none⟩), .string s] w fun e w' => e = .returned (.tuple #[.pointer none, .int .i64 8]) ∧ Ex w w' := by
  have H := Lib.hid h
  have HF := Lib.hid hf
  have HN := Lib.hid hn
  clear h hf hn
  go_enter Tryz.func126, Tryz.ntmps126
  go_wp2_with fail
  refine (dready_calls ⟨_, _, _, _, _, _, H.out⟩).mono ?_
  rintro e w1 ⟨rfl, hb1⟩
  rw [HF.out]
  have c4 : w1.cell? ⟨g, 4, none⟩ = some (ptrV fg) := by rw [(H.out.ex hb1).blk.cell]; rfl
  go_wp2_with fail
  refine (fofind_calls s hs (H.out.ex hb1).fob).mono ?_
  rintro e w2 ⟨rfl, hb2⟩
  rw [HN.out]
  go_wp2_with fail
  go_ret2
  exact ⟨rfl, hb1.trans hb2⟩
theorem dfind_some (s : ByteArray) (hs : s.size ≤ 9223372036854775807) (h : DkR w g F Q tm fg fz FF l tb) {M : Nat} (ho : Q.Ok M) (hM : M ≤ 1000000) (hf : Q.fu.off = false) (hn : (findM s Q.fo.now).2 = true) :
    Calls Tryz.prog 126 #[.pointer (some ⟨g, 0, none⟩), .string s] w fun e w' => e = .returned (.tuple #[ptrV (tb (findM s Q.fo.now).1), .int .i64 0]) ∧ Ex w w' := by
  have H := Lib.hid h
  have HF := Lib.hid hf
  have HN := Lib.hid hn
  have HO := Lib.hid ho
  clear h hf hn ho
  go_enter Tryz.func126, Tryz.ntmps126
  go_wp2_with fail
  refine (dready_calls ⟨_, _, _, _, _, _, H.out⟩).mono ?_
  rintro e w1 ⟨rfl, hb1⟩
  rw [HF.out]
  have c4 : w1.cell? ⟨g, 4, none⟩ = some (ptrV fg) := by rw [(H.out.ex hb1).blk.cell]; rfl
  go_wp2_with fail
  refine (fofind_calls s hs (H.out.ex hb1).fob).mono ?_
  rintro e w2 ⟨rfl, hb2⟩
  have H2 := Lib.hid (H.out.ex (hb1.trans hb2))
  have c3 : w2.cell? ⟨g, 3, none⟩ = some (.map (some tm)) := by rw [H2.out.blk.cell]; rfl
  have hlk := H2.out.look (FoV.found_ids HN.out) HO.out hM
  rw [HN.out]
  clear c4
  go_wp2_with fail
  go_ret2
  exact ⟨rfl, hb1.trans hb2⟩
theorem DkV.ask_fu (Q : DkV) (b : Bool) : (Q.ask b).1 = { Q with fu := (Q.fu.call b).1, calls := Q.calls + 1 } := rfl
theorem dput_calls (h : DkR w g F Q tm fg fz FF l tb) {M : Nat} (ho : Q.Ok M) (hM : M ≤ 1000000) :
    Calls Tryz.prog 127 #[.pointer (some ⟨g, 0, none⟩)] w fun e w' => e = .returned (.int .i64 (Q.ask false).2) ∧ DkR w' g F (Q.ask false).1 tm fg fz FF l tb ∧ Off F w w' := by
  have c2 : w.cell? ⟨g, 2, none⟩ = some (.int .i64 (Q.calls : Int)) := by rw [h.blk.cell]; rfl
  have f2 := h.blk.frozen 2
  have hcl : Q.calls ≤ 1000000 := by have := ho.cl; omega
  have H := Lib.hid h
  have HO := Lib.hid ho
  have HS := Lib.hid (off_set w g 2 (.int .i64 ((Q.calls : Int) + 1)))
  have HB := Lib.hid (h.blk.setCell (i := 2) (.int .i64 ((Q.calls : Int) + 1)))
  have HR := Lib.hid (H.out.own_ (Q' := { Q with calls := Q.calls + 1 }) HS.out (show Blk _ g _ _ from by have := HB.out; unfold DkV.cells at this ⊢; simpa using this) rfl rfl rfl)
  have c5 : (w.setCell ⟨g, 2, none⟩ (.int .i64 ((Q.calls : Int) + 1))).cell? ⟨g, 5, none⟩ = some (ptrV fz) := by rw [HR.out.blk.cell]; rfl
  clear h ho
  go_enter Tryz.func127, Tryz.ntmps127
  go_wp2_with fail
  refine (fput_calls HR.out.fub HO.out.fu).mono ?_
  rintro e w2 ⟨rfl, hB2, hO2⟩
  have HR2 := Lib.hid (HR.out.fuse_ hO2 hB2)
  have HO2 := Lib.hid hO2
  clear hB2 hO2
  go_wp2_with fail
  go_ret
  exact ⟨rfl, HR2.out, (HS.out.mono fun k _ e => e ▸ H.out.fg_).trans (HO2.out.mono fun k _ e => e ▸ H.out.fz_)⟩
theorem dsyncf_calls (h : DkR w g F Q tm fg fz FF l tb) {M : Nat} (ho : Q.Ok M) (hM : M ≤ 1000000) :
    Calls Tryz.prog 152 #[.pointer (some ⟨g, 0, none⟩)] w fun e w' => e = .returned (.int .i64 (Q.ask true).2) ∧ DkR w' g F (Q.ask true).1 tm fg fz FF l tb ∧ Off F w w' := by
  have c2 : w.cell? ⟨g, 2, none⟩ = some (.int .i64 (Q.calls : Int)) := by rw [h.blk.cell]; rfl
  have f2 := h.blk.frozen 2
  have hcl : Q.calls ≤ 1000000 := by have := ho.cl; omega
  have H := Lib.hid h
  have HO := Lib.hid ho
  have HS := Lib.hid (off_set w g 2 (.int .i64 ((Q.calls : Int) + 1)))
  have HB := Lib.hid (h.blk.setCell (i := 2) (.int .i64 ((Q.calls : Int) + 1)))
  have HR := Lib.hid (H.out.own_ (Q' := { Q with calls := Q.calls + 1 }) HS.out (show Blk _ g _ _ from by have := HB.out; unfold DkV.cells at this ⊢; simpa using this) rfl rfl rfl)
  have c5 : (w.setCell ⟨g, 2, none⟩ (.int .i64 ((Q.calls : Int) + 1))).cell? ⟨g, 5, none⟩ = some (ptrV fz) := by rw [HR.out.blk.cell]; rfl
  clear h ho
  go_enter Tryz.func152, Tryz.ntmps152
  go_wp2_with fail
  refine (fsync_calls HR.out.fub HO.out.fu).mono ?_
  rintro e w2 ⟨rfl, hB2, hO2⟩
  have HR2 := Lib.hid (HR.out.fuse_ hO2 hB2)
  have HO2 := Lib.hid hO2
  clear hB2 hO2
  go_wp2_with fail
  go_ret
  exact ⟨rfl, HR2.out, (HS.out.mono fun k _ e => e ▸ H.out.fg_).trans (HO2.out.mono fun k _ e => e ▸ H.out.fz_)⟩
end
end Go.Proofs.YtomfcgeibbicoaaGreat
namespace Go.Proofs.YtomfcgeibbicoaaGreat
open Go.RowKit Go.Maps
def cntT (t : TpV) : Nat := cntS (max t.nw.size t.kp.size)
def DkV.tapeAt (Q : DkV) (id : Int) : TpV := Q.tapes.getD (id - 1).toNat ⟨⟨#[]⟩, ⟨#[]⟩⟩
def sumT (Q : DkV) (ids : List Int) : Nat := (ids.map fun id => cntT (Q.tapeAt id)).sum
def DkV.taken (Q : DkV) : Nat := sumT Q Q.fo.ids
theorem up_ge : ∀ {l : List Int} {a : Int}, Up l → (∀ x ∈ l, a ≤ x) → ∀ x ∈ l, ∀ b, (∀ y ∈ l, y ≤ b) → a + l.length ≤ b + 1
  | [], _, _, _, x, hx, _, _ => by cases hx
  | y :: r, a, h, ha, x, _, b, hb => by
    obtain ⟨h1, h2⟩ := List.pairwise_cons.1 h
    have h3 := ha y (by simp)
    cases r with
    | nil => have := hb y (by simp); simp; omega
    | cons z s =>
      have := up_ge (l := z :: s) (a := y + 1) h2 (fun x hx => by have := h1 x hx; omega) z (by simp) b (fun x hx => hb x (by simp [hx]))
      rw [List.length_cons]
      simp only [Int.natCast_add] at this ⊢
      omega
theorem up_len {l : List Int} (h : Up l) {n : Nat} (h1 : ∀ x ∈ l, 1 ≤ x) (h2 : ∀ x ∈ l, x ≤ (n : Int)) : l.length ≤ n := by
  cases l with
  | nil => simp
  | cons x r =>
    have := up_ge h h1 x (by simp) n h2
    omega
theorem cntT_le {t : TpV} (h : t.kp.size ≤ 131072 ∧ t.nw.size ≤ 131072) : cntT t ≤ 4096 := by unfold cntT cntS; omega
section
variable {w : World} {g : Nat} {F : Nat → Prop} {Q : DkV} {tm fg fz : Nat} {FF : Nat → Prop} {l : List (Lit × Value)} {tb : Int → Nat}
theorem DkR.ids_len (h : DkR w g F Q tm fg fz FF l tb) : Q.fo.ids.length ≤ Q.tapes.length := up_len Q.fo.ids_up (fun _ hx => (h.tape hx).i1) (fun _ hx => (h.tape hx).i2)
theorem TbOk.at {w : World} {Q : DkV} {F FF : Nat → Prop} {g fz tm b : Nat} {id : Int} (h : TbOk w Q.tapes F FF g fz tm b id) : Blk w b 174 (Q.tapeAt id).cs ∧ Q.tapeAt id ∈ Q.tapes := by
  obtain ⟨t, h1, h2⟩ := h.tp
  have : Q.tapeAt id = t := by unfold DkV.tapeAt; rw [List.getD_eq_getElem?_getD, h1]; rfl
  rw [this]
  exact ⟨h2, List.mem_of_getElem? h1⟩
theorem sumT_le {Q : DkV} {M : Nat} (ho : Q.Ok M) (ids : List Int) : sumT Q ids ≤ 4096 * ids.length := by
  induction ids with
  | nil => simp [sumT]
  | cons x r ih =>
    have hx : cntT (Q.tapeAt x) ≤ 4096 := by
      unfold DkV.tapeAt
      rw [List.getD_eq_getElem?_getD]
      cases hq : Q.tapes[(x - 1).toNat]? with
      | none => exact cntT_le (t := ⟨⟨#[]⟩, ⟨#[]⟩⟩) ⟨Nat.zero_le _, Nat.zero_le _⟩
      | some t => exact cntT_le (ho.tz t (List.mem_of_getElem? hq))
    unfold sumT at ih ⊢
    rw [List.map_cons, List.sum_cons, List.length_cons]
    omega
theorem sumT_succ (Q : DkV) {ids : List Int} {k : Nat} (hk : k < ids.length) : sumT Q (ids.take (k + 1)) = sumT Q (ids.take k) + cntT (Q.tapeAt ids[k]) := by
  unfold sumT
  rw [List.take_succ_eq_append_getElem hk, List.map_append, List.sum_append]
  simp
set_option maxHeartbeats 1000000 in
theorem dtaken_calls (h : DkR w g F Q tm fg fz FF l tb) {M : Nat} (ho : Q.Ok M) (hM : M ≤ 1000000) :
    Calls Tryz.prog 48 #[.pointer (some ⟨g, 0, none⟩)] w fun e w' => e = .returned (.int .i64 (Q.taken : Int)) ∧ Ex w w' := by
  have H := Lib.hid h
  have HO := Lib.hid ho
  have c4 : w.cell? ⟨g, 4, none⟩ = some (ptrV fg) := by rw [h.blk.cell]; rfl
  have hil : Q.fo.ids.length ≤ 1000000 := by have := h.ids_len; have := ho.tl; omega
  clear h ho
  go_enter Tryz.func48, Tryz.ntmps48
  go_wp2_with fail
  refine (foids_calls HO.out.fo hM H.out.fob).mono ?_
  rintro e w1 ⟨iv, rfl, ho1, hb1⟩
  obtain ⟨iA, ic, rfl, _⟩ := own_shape ho1
  have HIR := Lib.hid (Row.of_own ho1)
  have HX1 := Lib.hid hb1
  clear ho1 hb1 c4
  go_wp2_with fail
  go_loopw [3, 12] (fun v i wr => ∃ k : Nat, k ≤ Q.fo.ids.length ∧ i = .int .i64 (k : Int) ∧ v = .int .i64 (sumT Q (Q.fo.ids.take k) : Int) ∧ Ex w1 wr) (fun _ i _ => Q.fo.ids.length - (intOf i).toNat)
  case atStart => exact ⟨0, Nat.zero_le _, rfl, rfl, Ex.refl _⟩
  case round =>
    obtain ⟨k, hk, rfl, rfl, hb⟩ := hrel
    have HB := Lib.hid hb
    have HR := Lib.hid (H.out.ex (HX1.out.trans hb))
    clear hb
    by_cases hlt : k < Q.fo.ids.length
    · obtain ⟨b', o', hA, hc'⟩ := HIR.out.2 (by omega)
      subst hA
      have c0 : wr.cell? ⟨b', o' + k, none⟩ = some (.int .i64 Q.fo.ids[k]) := HB.out.cell (hc' k _ (by rw [List.getElem?_map, List.getElem?_eq_getElem hlt]; rfl))
      have hmem : Q.fo.ids[k] ∈ Q.fo.ids := List.getElem_mem _
      have hlk := HR.out.look hmem HO.out hM
      have ht := (HR.out.tape hmem).at
      have HT := Lib.hid ht.1
      have htz := HO.out.tz _ ht.2
      have HS := Lib.hid (sumT_succ Q hlt)
      have c3 : wr.cell? ⟨g, 3, none⟩ = some (.map (some tm)) := by rw [HR.out.blk.cell]; rfl
      have hs1 := sumT_le HO.out (Q.fo.ids.take k)
      have hs2 : (Q.fo.ids.take k).length ≤ 1000000 := by rw [List.length_take]; omega
      have hs3 := cntT_le htz
      obtain ⟨h1, h2⟩ := htz
      clear hc' hmem ht
      generalize Q.fo.ids[k] = id at *
      generalize sumT Q (Q.fo.ids.take k) = s at *
      have hadd : IntKind.i64.wrap ((s : Int) + (cntT (Q.tapeAt id) : Int)) = (s : Int) + (cntT (Q.tapeAt id) : Int) := IntWalk.i64_in _ (by omega)
      go_wp2_with fail
      refine (tsectors_calls HT.out (by omega) (by omega)).mono ?_
      rintro e w2 ⟨rfl, hb2⟩
      have HB2 := Lib.hid hb2
      clear hb2
      rw [show cntS (max (Q.tapeAt id).nw.size (Q.tapeAt id).kp.size) = cntT (Q.tapeAt id) from rfl]
      go_wp2_with fail
      exact ⟨⟨k + 1, by omega, by go_num, by rw [HS.out]; go_num, HB.out.trans HB2.out⟩, by simp [intOf]; omega⟩
    · have hkl : k = Q.fo.ids.length := by omega
      have HE : Hid (sumT Q (Q.fo.ids.take k) = Q.taken) := by rw [hkl, List.take_length]; exact rfl
      go_wp2_with fail
      go_ret
      exact ⟨by rw [HE.out]; rfl, HX1.out.trans HB.out⟩
end
end Go.Proofs.YtomfcgeibbicoaaGreat
namespace Go.Proofs.YtomfcgeibbicoaaGreat
open Go.RowKit Go.Maps
/-- Just the tapes of these numbers. -/
structure TpL (l : List (Lit × Value)) (ids : List Int) (tb : Int → Nat) : Prop where
  el : ∀ p ∈ l, ∃ id ∈ ids, p = (inK id, ptrV (tb id))
  co : ∀ id ∈ ids, (inK id, ptrV (tb id)) ∈ l
theorem TpL.nil (tb : Int → Nat) : TpL [] [] tb := ⟨(fun p hp => by cases hp), fun id hid => by cases hid⟩
theorem TpL.put {l : List (Lit × Value)} {ids : List Int} {tb : Int → Nat} (h : TpL l ids tb) (id : Int) : TpL (stoL (inK id) (ptrV (tb id)) l) (ids ++ [id]) tb := by
  refine ⟨fun p hp => ?_, fun x hx => ?_⟩
  · rcases (stoL_mem _ _ _ _).1 hp with rfl | ⟨hp, _⟩
    · exact ⟨id, by simp, rfl⟩
    · obtain ⟨x, hx, e⟩ := h.el p hp
      exact ⟨x, by simp [hx], e⟩
  · by_cases e : x = id
    · subst e; exact (stoL_mem _ _ _ _).2 (.inl rfl)
    · rcases List.mem_append.1 hx with hx | hx
      · exact (stoL_mem _ _ _ _).2 (.inr ⟨h.co x hx, by rw [sameI]; exact decide_eq_false e⟩)
      · rcases List.mem_cons.1 hx with rfl | hx
        · exact absurd rfl e
        · cases hx
section
variable {w : World} {g : Nat} {F : Nat → Prop} {Q : DkV} {tm fg fz : Nat} {FF : Nat → Prop} {l : List (Lit × Value)} {tb : Int → Nat}
set_option maxHeartbeats 2000000 in
theorem dsweep_calls (h : DkR w g F Q tm fg fz FF l tb) {M : Nat} (ho : Q.Ok M) (hM : M ≤ 1000000) :
    Calls Tryz.prog 102 #[.pointer (some ⟨g, 0, none⟩)] w fun e w' => e = .returned (.tuple #[]) ∧ (∃ tm' l', DkR w' g (Fresh F w w') Q tm' fg fz FF l' tb) ∧ Off F w w' := by
  have hmm := @run_makeMap Tryz.prog
  have H := Lib.hid h
  have HO := Lib.hid ho
  have hXB := ex_alloc (Ex.refl w) (.map #[] 0)
  have HXB := Lib.hid hXB
  have HB0 := Lib.hid (MapB.made w Tryz.prog 3)
  have c4 : (w.alloc (.map #[] 0)).cell? ⟨g, 4, none⟩ = some (ptrV fg) := hXB.cell (by rw [h.blk.cell]; rfl)
  have hil : Q.fo.ids.length ≤ 1000000 := by have := h.ids_len; have := ho.tl; omega
  have hz1 : (w.alloc (.map #[] 0)).heap.size = w.heap.size + 1 := by simp
  have HZ1 := Lib.hid hz1
  clear h ho hXB hz1
  go_enter Tryz.func102, Tryz.ntmps102
  go_wp2_with fail
  refine (foids_calls HO.out.fo hM (H.out.ex HXB.out).fob).mono ?_
  rintro e w1 ⟨iv, rfl, ho1, hb1⟩
  obtain ⟨iA, ic, rfl, _⟩ := own_shape ho1
  have HIR := Lib.hid (Row.of_own ho1)
  have HX1 := Lib.hid (HXB.out.trans hb1)
  have HB1 := Lib.hid (HB0.out.ex hb1)
  have hz2 := hb1.size
  rw [HZ1.out] at hz2
  clear ho1 hb1 c4
  go_wp2_with fail
  go_loopw [12] (fun i wr => ∃ (k : Nat) (l2 : List (Lit × Value)), k ≤ Q.fo.ids.length ∧ i = .int .i64 (k : Int) ∧ MapB wr Tryz.prog 3 w.heap.size l2 ∧ TpL l2 (Q.fo.ids.take k) tb ∧ l2.length ≤ k ∧ Ex w wr ∧ Row wr 1 iA Q.fo.ids.length (Q.fo.ids.map (Value.int .i64))) (fun i _ => Q.fo.ids.length - (intOf i).toNat)
  case atStart => exact ⟨0, [], Nat.zero_le _, rfl, HB1.out, TpL.nil tb, Nat.zero_le _, HX1.out, HIR.out⟩
  case round =>
    obtain ⟨k, l2, hk, rfl, hB, hL, hl2, hb, hI⟩ := hrel
    have HB := Lib.hid hB
    have HL := Lib.hid hL
    have HX := Lib.hid hb
    have HI := Lib.hid hI
    have HR := Lib.hid (H.out.ex hb)
    clear hB hL hb hI
    by_cases hlt : k < Q.fo.ids.length
    · obtain ⟨b', o', hA, hc'⟩ := HI.out.2 (by omega)
      have c0 : wr.cell? ⟨b', o' + k, none⟩ = some (.int .i64 Q.fo.ids[k]) := hc' k _ (by rw [List.getElem?_map, List.getElem?_eq_getElem hlt]; rfl)
      have hmem : Q.fo.ids[k] ∈ Q.fo.ids := List.getElem_mem _
      have hlk := HR.out.look hmem HO.out hM
      have ht := HR.out.tape hmem
      have hk1 : -9223372036854775808 ≤ Q.fo.ids[k] := by have := ht.i1; omega
      have hk2 : Q.fo.ids[k] ≤ 9223372036854775807 := by have := ht.i2; have := HO.out.tl; omega
      have HS := Lib.hid (List.take_succ_eq_append_getElem hlt)
      have c3 : wr.cell? ⟨g, 3, none⟩ = some (.map (some tm)) := by rw [HR.out.blk.cell]; rfl
      obtain rfl := hA
      clear hc' hmem ht
      generalize Q.fo.ids[k] = id at *
      go_wp2_with (at_mapUpdate; refine wpList_store_map _ rfl _ _ _ 98 rfl 3 105 intKey Tryz.underlying98 w.heap.size l2 rfl HB.out (by unfold maxLen; omega) _ _ _ rfl rfl (key_int hk1 hk2) ?_; intro w5 hM5 hg5; have HM5 := Lib.hid hM5; have HG5 := Lib.hid hg5; clear hM5 hg5)
      have hbw : ∀ b o u, wr.cell? ⟨b, o, none⟩ = some u → w5.cell? ⟨b, o, none⟩ = some u := by
        intro b o u hu
        by_cases hbb : b = w.heap.size
        · subst hbb
          obtain ⟨es, clock, hm, _⟩ := HB.out
          simp [World.cell?, hm] at hu
        · exact (World.cell?_of_block (w := wr) (HG5.out.block b (World.block_lt_of_cell? wr _ hu) (by intro e; injection e with e; exact hbb e))).trans hu
      exact ⟨⟨k + 1, _, by omega, by go_num, HM5.out, by rw [HS.out]; exact HL.out.put id, Nat.le_trans (stoL_len _ _ _) (by omega), ex_of_new HX.out (Nat.le_refl _) HG5.out, HI.out.keep hbw⟩, by simp [intOf]; omega⟩
    · have hkl : k = Q.fo.ids.length := by omega
      have HL2 : Hid (TpL l2 Q.fo.ids tb) := by
        have h1 := HL.out
        rw [hkl, List.take_length] at h1
        exact h1
      have c3 : wr.cell? ⟨g, 3, none⟩ = some (.map (some tm)) := by rw [HR.out.blk.cell]; rfl
      have f3 := HR.out.blk.frozen 3
      have HO3 := Lib.hid (off_set wr g 3 (.map (some w.heap.size)))
      have HB3 := Lib.hid (HR.out.blk.setCell (i := 3) (.map (some w.heap.size)))
      have hzr := HX.out.size
      have hz4 : (wr.setCell ⟨g, 3, none⟩ (.map (some w.heap.size))).heap.size = wr.heap.size := by simp [World.setCell]
      have HZ4 := Lib.hid hz4
      clear hz4
      go_wp2_with fail
      go_end0
      have l1 := H.out.blk.lt
      have l2' := H.out.fub.lt
      have hBl := HB.out.lt
      refine ⟨rfl, ⟨w.heap.size, l2, ?_⟩, ?_⟩
      · refine { HR.out.more (G := Fresh F w (wr.setCell ⟨g, 3, none⟩ (.map (some w.heap.size)))) (fun k hk => .inl hk) with ffl := fun k hk => Nat.lt_of_lt_of_le (HR.out.ffl k hk) HO3.out.size, blk := by have := HB3.out; unfold DkV.cells at this ⊢; simpa using this, fob := HR.out.fob.off HO3.out (fun k _ hk e => HR.out.ffg (e ▸ hk)), fub := HR.out.fub.off HO3.out (fun e => HR.out.gz e.symm), tpb := HB.out.off HO3.out (by omega), co := HL2.out.co, gt := by omega, zt := by omega, fft := fun hf => by have := H.out.ffl _ hf; omega, ft_ := .inr ⟨Nat.le_refl _, by rw [HZ4.out]; omega⟩, el := fun p hp => ?_, inj := fun a b ha hb e => ?_ }
        · obtain ⟨id, hid, e⟩ := HL2.out.el p hp
          have ht := HR.out.tape hid
          have hlt2 := (H.out.tape hid).lt
          exact ⟨id, e, { ht.keep (HO3.out.block _ ht.lt ht.ng) with f := .inl ht.f, nm := by omega }⟩
        · obtain ⟨x, hx, ex⟩ := HL2.out.el _ ha
          obtain ⟨y, hy, ey⟩ := HL2.out.el _ hb
          injection ex with ex1 _
          injection ex1 with _ ex2
          injection ey with ey1 _
          injection ey1 with _ ey2
          subst ex2
          subst ey2
          exact H.out.inj _ _ (H.out.co _ hx) (H.out.co _ hy) e
      · exact (HX.out.off F).trans (HO3.out.mono fun k _ e => e ▸ H.out.fg_)
end
end Go.Proofs.YtomfcgeibbicoaaGreat
namespace Go.Proofs.YtomfcgeibbicoaaGreat
open Go.RowKit Go.Maps
section
variable {w w' : World} {g : Nat} {F : Nat → Prop} {Q : DkV} {tm fg fz : Nat} {FF : Nat → Prop} {l : List (Lit × Value)} {tb : Int → Nat}
/-- The folder turns. -/
theorem DkR.fo_ {fo : FoV} (h : DkR w g F Q tm fg fz FF l tb) (hb : Off FF w w') (hF : FoP w' fg (Fresh FF w w') fo) (hi : ∀ id ∈ fo.ids, (inK id, ptrV (tb id)) ∈ l) : DkR w' g (Fresh F w w') { Q with fo := fo } tm fg fz (Fresh FF w w') l tb := by
  have h1 := h.blk.lt
  have h2 := h.fub.lt
  have h3 := h.tpb.lt
  have hn : ∀ k, k < w.heap.size → ¬ FF k → ¬ Fresh FF w w' k := fun k hk hf hk' => by
    rcases hk' with hk' | hk'
    · exact hf hk'
    · omega
  refine { h with blk := h.blk.off hb h.ffg, fob := hF, fub := h.fub.off hb h.ffz, tpb := h.tpb.off hb h.fft, co := hi, ffg := hn _ h1 h.ffg, ffz := hn _ h2 h.ffz, fft := hn _ h3 h.fft, fg_ := .inl h.fg_, fz_ := .inl h.fz_, ft_ := .inl h.ft_, sub := fun k hk => ?_, ffl := fun k hk => ?_, el := fun p hp => ?_ }
  · obtain ⟨id, e, ht⟩ := h.el p hp
    exact ⟨id, e, { ht.keep (hb.block _ ht.lt ht.ff) with f := .inl ht.f, ff := hn _ ht.lt ht.ff }⟩
  · rcases hk with hk | hk
    · exact .inl (h.sub k hk)
    · exact .inr hk
  · rcases hk with hk | hk
    · exact Nat.lt_of_lt_of_le (h.ffl k hk) hb.size
    · exact hk.2
/-- A tape more, which no name has yet. -/
theorem DkR.tape_ {Q' : DkV} {t : TpV} (h : DkR w g F Q tm fg fz FF l tb) (hb : Off (· = g) w w') (hB : Blk w' g 102 (Q'.cells tm fg fz)) (e1 : Q'.fo = Q.fo) (e2 : Q'.fu = Q.fu) (e3 : Q'.tapes = Q.tapes ++ [t]) : DkR w' g F Q' tm fg fz FF l tb := by
  refine { h with ffl := fun k hk => Nat.lt_of_lt_of_le (h.ffl k hk) hb.size, blk := hB, fob := by rw [e1]; exact h.fob.off hb (fun k _ hk e => h.ffg (e ▸ hk)), fub := by rw [e2]; exact h.fub.off hb (fun e => h.gz e.symm), tpb := h.tpb.off hb (fun e => h.gt e.symm), co := by rw [e1]; exact h.co, el := fun p hp => ?_ }
  obtain ⟨id, e, ht⟩ := h.el p hp
  rw [e3]
  have hk := ht.keep (hb.block _ ht.lt ht.ng)
  refine ⟨id, e, { hk with i2 := by have := ht.i2; simp; omega, tp := ?_ }⟩
  obtain ⟨t', h1, h2⟩ := hk.tp
  exact ⟨t', by rw [List.getElem?_append_left (List.getElem?_eq_some_iff.1 h1).1]; exact h1, h2⟩
/-- .. and its number leads to its block. -/
theorem DkR.sto_ {t : TpV} {ts : List TpV} {b : Nat} (h : DkR w g F Q tm fg fz FF l tb) (hts : Q.tapes = ts ++ [t]) (hg : w.grownBy w' (some tm)) (hM : MapB w' Tryz.prog 3 tm (stoL (inK ((ts.length : Int) + 1)) (ptrV b) l)) (hi : ∀ id ∈ Q.fo.ids, id ≤ (ts.length : Int))
    (hB : Blk w b 174 t.cs) (h1 : F b) (h2 : ¬ FF b) (h3 : b ≠ g) (h4 : b ≠ fz) (h5 : b ≠ tm) (hbl : ∀ id, (inK id, ptrV (tb id)) ∈ l → tb id ≠ b) :
    DkR w' g F Q tm fg fz FF (stoL (inK ((ts.length : Int) + 1)) (ptrV b) l) (fun i => if i = (ts.length : Int) + 1 then b else tb i) := by
  have hO : Off (· = tm) w w' := off_grown hg
  refine { h with blk := h.blk.off hO h.gt, fob := h.fob.off hO (fun k _ hk e => h.fft (e ▸ hk)), fub := h.fub.off hO h.zt, tpb := hM, ffl := fun k hk => Nat.lt_of_lt_of_le (h.ffl k hk) hg.size, co := fun id hid => ?_, el := fun p hp => ?_, inj := fun x y hx hy e => ?_ }
  · rcases (stoL_mem _ _ _ _).1 hp with rfl | ⟨hp, hk⟩
    · refine ⟨(ts.length : Int) + 1, by rw [if_pos rfl], ?_⟩
      rw [if_pos rfl]
      exact ⟨by omega, by rw [hts]; simp, ⟨t, by rw [hts]; simp, hB.off hO h5⟩, h1, h2, h3, h4, h5⟩
    · obtain ⟨id, rfl, ht⟩ := h.el p hp
      rw [sameI, decide_eq_false_iff_not] at hk
      refine ⟨id, by rw [if_neg hk], ?_⟩
      rw [if_neg hk]
      exact ht.keep (hO.block _ ht.lt ht.nm)
  · have hne : ¬ id = (ts.length : Int) + 1 := by have := hi id hid; omega
    rw [if_neg hne]
    exact (stoL_mem _ _ _ _).2 (.inr ⟨h.co id hid, by rw [sameI]; exact decide_eq_false hne⟩)
  · have hl : ∀ x, (inK x, ptrV (if x = (ts.length : Int) + 1 then b else tb x)) ∈ stoL (inK ((ts.length : Int) + 1)) (ptrV b) l → x = (ts.length : Int) + 1 ∨ (x ≠ (ts.length : Int) + 1 ∧ (inK x, ptrV (tb x)) ∈ l) := fun x hx => by
      by_cases ex : x = (ts.length : Int) + 1
      · exact .inl ex
      · rw [if_neg ex] at hx
        rcases (stoL_mem _ _ _ _).1 hx with e' | ⟨hx, _⟩
        · injection e' with e1 _
          injection e1 with _ e2
          exact absurd e2 ex
        · exact .inr ⟨ex, hx⟩
    rcases hl x hx with ex | ⟨ex, hx⟩
    · rcases hl y hy with ey | ⟨ey, hy⟩
      · rw [ex, ey]
      · rw [if_pos ex, if_neg ey] at e
        exact absurd e.symm (hbl y hy)
    · rcases hl y hy with ey | ⟨ey, hy⟩
      · rw [if_neg ex, if_pos ey] at e
        exact absurd e (hbl x hx)
      · rw [if_neg ex, if_neg ey] at e
        exact h.inj x y hx hy e
theorem put_ids {q : FoV} {s : ByteArray} {i x : Int} : x ∈ (q.doC ⟨false, ⟨#[]⟩, true, s, i⟩).ids ↔ x ∈ q.ids ∨ x = i := by
  rw [FoV.ids_mem, FoV.ids_mem]
  unfold FoV.doC
  constructor
  · rintro (h | ⟨c, hc, h1, h2⟩)
    · exact .inl (.inl h)
    · rcases List.mem_append.1 hc with hc | hc
      · exact .inl (.inr ⟨c, hc, h1, h2⟩)
      · rcases List.mem_cons.1 hc with rfl | hc
        · exact .inr h2.symm
        · cases hc
  · rintro ((h | ⟨c, hc, h1, h2⟩) | h)
    · exact .inl h
    · exact .inr ⟨c, by simp [hc], h1, h2⟩
    · exact .inr ⟨⟨false, ⟨#[]⟩, true, s, i⟩, by simp, rfl, h.symm⟩
end
/-- A disk with a file more. -/
def DkV.add (Q : DkV) (s : ByteArray) (t : TpV) : DkV := { Q with tapes := Q.tapes ++ [t], fo := Q.fo.doC ⟨false, ⟨#[]⟩, true, s, (Q.tapes.length : Int) + 1⟩ }
set_option maxHeartbeats 2000000 in
set_option maxRecDepth 100000 in
theorem dadd_calls {w : World} {g : Nat} {F : Nat → Prop} {Q : DkV} {tm fg fz : Nat} {FF : Nat → Prop} {l : List (Lit × Value)} {tb : Int → Nat} (h : DkR w g F Q tm fg fz FF l tb) {M : Nat} (ho : Q.Ok M) (hM : M ≤ 900000) (s : ByteArray) (hs : s.size ≤ 9223372036854775807) (hn : (findM s Q.fo.now).2 = false)
    (t : TpV) (b : Nat) (hB : Blk w b 174 t.cs) (h1 : F b) (h2 : ¬ FF b) (h3 : b ≠ g) (h4 : b ≠ fz) (h5 : b ≠ tm) (hbl : ∀ id, (inK id, ptrV (tb id)) ∈ l → tb id ≠ b) (hll : l.length ≤ 1000000) :
    Calls Tryz.prog 46 #[.pointer (some ⟨g, 0, none⟩), .string s, ptrV b] w fun e w' => e = .returned (.tuple #[]) ∧ (∃ FF' l' tb', DkR w' g (Fresh F w w') (Q.add s t) tm fg fz FF' l' tb' ∧ l'.length ≤ l.length + 1) ∧ Off F w w' := by
  have hid : ∀ id ∈ Q.fo.ids, id ≤ (Q.tapes.length : Int) := fun id hid => (h.tape hid).i2
  have htl : Q.tapes.length ≤ 1000000 := by have := ho.tl; omega
  have c1 : w.cell? ⟨g, 1, none⟩ = some (.int .i64 (Q.tapes.length : Int)) := by rw [h.blk.cell]; rfl
  have f1 := h.blk.frozen 1
  have hO1 := off_set w g 1 (.int .i64 ((Q.tapes.length : Int) + 1))
  have hB1 := h.blk.setCell (i := 1) (.int .i64 ((Q.tapes.length : Int) + 1))
  have hR1 := h.tape_ (Q' := { Q with tapes := Q.tapes ++ [t] }) (t := t) hO1 (by unfold DkV.cells at hB1 ⊢; simpa using hB1) rfl rfl rfl
  have hBb1 := hB.off hO1 h3
  have HFN := Lib.hid hn
  have HO := Lib.hid ho
  have HF0 := Lib.hid h.fg_
  have HOff1 := Lib.hid hO1
  clear hB1 hO1 h hn ho
  obtain ⟨W1, hW1⟩ : ∃ W1, W1 = w.setCell ⟨g, 1, none⟩ (.int .i64 ((Q.tapes.length : Int) + 1)) := ⟨_, rfl⟩
  rw [← hW1] at hR1 hBb1 HOff1
  obtain ⟨w2, hrun, hM2, hg2⟩ := MapB.store (hR1.ex (Ex.refl W1).drew).tpb intKey Tryz.underlying98 (by unfold maxLen; omega) (ptrV b) (key_int (x := (Q.tapes.length : Int) + 1) (by omega) (by omega))
  have hR2 := (hR1.ex (Ex.refl W1).drew).sto_ (t := t) (ts := Q.tapes) (b := b) rfl hg2 hM2 hid (hBb1.ex (Ex.refl W1).drew) h1 h2 h3 h4 h5 hbl
  have HR1 := Lib.hid hR1
  have HR2 := Lib.hid hR2
  have HG2 := Lib.hid hg2
  have a1 : W1.cell? ⟨g, 1, none⟩ = some (.int .i64 ((Q.tapes.length : Int) + 1)) := by rw [HR1.out.blk.cell]; simp [DkV.cells]
  have a3 : W1.cell? ⟨g, 3, none⟩ = some (.map (some tm)) := by rw [HR1.out.blk.cell]; rfl
  have b1 : w2.cell? ⟨g, 1, none⟩ = some (.int .i64 ((Q.tapes.length : Int) + 1)) := by rw [HR2.out.blk.cell]; simp [DkV.cells]
  have b3 : w2.cell? ⟨g, 3, none⟩ = some (.map (some tm)) := by rw [HR2.out.blk.cell]; rfl
  have b4 : w2.cell? ⟨g, 4, none⟩ = some (ptrV fg) := by rw [HR2.out.blk.cell]; rfl
  have HW1 := Lib.hid hW1
  clear hR1 hBb1 hM2 hg2 hR2 hW1
  go_enter Tryz.func46, Tryz.ntmps46
  go_wp2_with fail
  rw [← HW1.out]
  go_region_held3 (fun w' => w'.cell? ⟨g, 1, none⟩ = some (.int .i64 ((Q.tapes.length : Int) + 1)) ∧ w'.cell? ⟨g, 3, none⟩ = some (.map (some tm))) (go_keep) (fail)
  clear a1 a3 hrun
  go_wp2_with fail
  go_region_held3 (fun w' => w'.cell? ⟨g, 1, none⟩ = some (.int .i64 ((Q.tapes.length : Int) + 1)) ∧ w'.cell? ⟨g, 4, none⟩ = some (ptrV fg)) (go_keep) ((go_at_call 113; refine (foput_calls s ((Q.tapes.length : Int) + 1) hs (by omega) (by omega) HO.out.fo (by omega) (FoP.ex HR2.out.fob (Ex.refl w2).drew)).mono ?_; rintro e w3 ⟨rfl, hF3, hO3⟩; have HF3 := Lib.hid hF3; have HO3 := Lib.hid hO3; have d1 := (HO3.out.cell (show w2.drew.cell? ⟨g, 1, none⟩ = some (.int .i64 ((Q.tapes.length : Int) + 1)) from b1) HR2.out.ffg); have d4 := (HO3.out.cell (show w2.drew.cell? ⟨g, 4, none⟩ = some (ptrV fg) from b4) HR2.out.ffg); clear hF3 hO3))
  go_wp2_with fail
  go_end0
  have he : Q.fo.put s ((Q.tapes.length : Int) + 1) = (Q.fo.doC ⟨false, ⟨#[]⟩, true, s, (Q.tapes.length : Int) + 1⟩, true) := by unfold FoV.put; rw [HFN.out]; rfl
  have hF3 := HF3.out
  rw [he] at hF3
  have hR3 := (HR2.out.ex (Ex.refl w2).drew).fo_ HO3.out hF3 (fun id hid => by
    rcases put_ids.1 hid with h | h
    · exact HR2.out.co id h
    · subst h
      rw [if_pos rfl]
      exact (stoL_mem _ _ _ _).2 (.inl rfl))
  have z1 := HOff1.out.size
  have z2 := HG2.out.size
  have z3 := HO3.out.size
  refine ⟨rfl, ⟨_, _, _, hR3.more (fun k hk => ?_), stoL_len _ _ _⟩, ?_⟩
  · rcases hk with hk | hk
    · exact .inl hk
    · exact .inr ⟨Nat.le_trans z1 (Nat.le_trans z2 hk.1), hk.2⟩
  · have q1 : Off F w W1 := HOff1.out.mono fun k _ e => e ▸ HR2.out.fg_
    have q2 : Off F W1 w2 := (Ex.off (Ex.refl W1).drew F).trans ((off_grown HG2.out).mono fun k _ e => e ▸ HR2.out.ft_)
    have q3 : Off F w2 w3 := (Ex.off (Ex.refl w2).drew F).trans (HO3.out.mono fun k _ hk => HR2.out.sub k hk)
    exact (q1.trans q2).trans q3
/-- An empty disk. -/
def DkV.fresh (n : Int) : DkV := ⟨n, [], ⟨[], []⟩, FuV.calm, 0⟩
set_option maxHeartbeats 2000000 in
theorem dnew_calls (n : Int) (w : World) (h1 : 1 ≤ n) (h2 : n ≤ 4096) :
    Calls Tryz.prog 33 #[.int .i64 n] w fun e w' => (∃ g, e = .returned (.tuple #[ptrV g, .int .i64 0]) ∧ w.heap.size ≤ g ∧ DkP w' g (Fresh (fun _ => False) w w') (DkV.fresh n)) ∧ Ex w w' := by
  have hmm := @run_makeMap Tryz.prog
  have d1 : decide (n < 1) = false := decide_eq_false (by omega)
  have d2 : decide (4096 < n) = false := decide_eq_false (by omega)
  have hXB := ex_alloc (Ex.refl w) (.map #[] 0)
  have HXB := Lib.hid hXB
  have HB0 := Lib.hid (MapB.made w Tryz.prog 3)
  have hz1 : (w.alloc (.map #[] 0)).heap.size = w.heap.size + 1 := by simp
  have HZ1 := Lib.hid hz1
  clear hXB hz1
  go_enter Tryz.func33, Tryz.ntmps33
  go_wp2_with fail
  refine (fonew_calls _).mono ?_
  rintro e w1 ⟨fg, rfl, hfg, hF1, hb1⟩
  have HF1 := Lib.hid hF1
  have HX1 := Lib.hid hb1
  clear hF1 hb1
  go_wp2_with fail
  refine (fnew_calls _).mono ?_
  rintro e w2 ⟨fz, rfl, hfz, hZ2, hb2⟩
  have HZ2 := Lib.hid hZ2
  have HX2 := Lib.hid hb2
  clear hZ2 hb2
  go_wp2_with fail
  go_ret2
  rw [HZ1.out] at hfg
  have z1 := HX1.out.size
  rw [HZ1.out] at z1
  have z2 := HX2.out.size
  have hX3 := ex_alloc (Ex.refl w2) (.cells #[.int .i64 n, .int .i64 0, .int .i64 0, .map (some w.heap.size), .pointer (some ⟨fg, 0, none⟩), .pointer (some ⟨fz, 0, none⟩)] 102)
  have hz3 : (w2.alloc (.cells #[.int .i64 n, .int .i64 0, .int .i64 0, .map (some w.heap.size), .pointer (some ⟨fg, 0, none⟩), .pointer (some ⟨fz, 0, none⟩)] 102)).heap.size = w2.heap.size + 1 := by simp
  have l1 : fg < w1.heap.size := by
    rcases FoP.sub HF1.out with h | h
    · exact h.elim
    · exact h.2
  have l2 := HZ2.out.lt
  have ids0 : (⟨[], []⟩ : FoV).ids = [] := rfl
  refine ⟨⟨w2.heap.size, rfl, by omega, w.heap.size, fg, fz, Fresh (fun _ => False) (w.alloc (.map #[] 0)) w1, [], fun _ => 0, ?_⟩, ((HXB.out.trans HX1.out).trans HX2.out).trans hX3⟩
  have hFF : ∀ k, Fresh (fun _ => False) (w.alloc (.map #[] 0)) w1 k → w.heap.size + 1 ≤ k ∧ k < w1.heap.size := fun k hk => by
    rcases hk with hk | hk
    · exact hk.elim
    · rw [HZ1.out] at hk; exact hk
  have hG : ∀ k, w.heap.size ≤ k → k < w2.heap.size + 1 → Fresh (fun _ => False) w (w2.alloc (.cells #[.int .i64 n, .int .i64 0, .int .i64 0, .map (some w.heap.size), .pointer (some ⟨fg, 0, none⟩), .pointer (some ⟨fz, 0, none⟩)] 102)) k := fun k a b => .inr ⟨a, by rw [hz3]; exact b⟩
  exact { blk := Blk.new w2 _ _, fob := (HF1.out.ex HX2.out).ex hX3, fub := HZ2.out.ex hX3, tpb := ((HB0.out.ex HX1.out).ex HX2.out).ex hX3, el := (fun p hp => by cases hp), co := (fun id hid => by cases hid), inj := (fun a b ha => by cases ha), gz := by omega, gt := by omega, zt := by omega, ffg := (fun h => by have := hFF _ h; omega), ffz := (fun h => by have := hFF _ h; omega), fft := (fun h => by have := hFF _ h; omega), fg_ := hG _ (by omega) (by omega), fz_ := hG _ (by omega) (by omega), ft_ := hG _ (by omega) (by omega), sub := (fun k hk => by have := hFF _ hk; exact hG _ (by omega) (by omega)), ffl := (fun k hk => by have := hFF _ hk; rw [hz3]; omega) }
theorem dnew_no (n : Int) (w : World) (h : n < 1 ∨ 4096 < n) : Calls Tryz.prog 33 #[.int .i64 n] w fun e w' => e = .returned (.tuple #[.pointer none, .int .i64 2]) ∧ Ex w w' := by
  by_cases h1 : n < 1
  · have d1 : decide (n < 1) = true := decide_eq_true h1
    go_enter Tryz.func33, Tryz.ntmps33
    go_wp2_with fail
    go_ret2
    exact ⟨rfl, Ex.refl _⟩
  · have d1 : decide (n < 1) = false := decide_eq_false h1
    have d2 : decide (4096 < n) = true := decide_eq_true (by omega)
    go_enter Tryz.func33, Tryz.ntmps33
    go_wp2_with fail
    go_ret2
    exact ⟨rfl, Ex.refl _⟩
end Go.Proofs.YtomfcgeibbicoaaGreat
namespace Go.Proofs.YtomfcgeibbicoaaGreat
open Go.RowKit Go.Maps
namespace DkV
def create (Q : DkV) (s : ByteArray) : DkV × Int :=
  if Q.fu.off = true then (Q, 14) else if mayB s = false then (Q, 7) else if (findM s Q.fo.now).2 = true then (Q, 17) else if 64 ≤ Q.fo.ids.length then (Q, 9) else
    if (Q.ask false).2 = 0 then ((Q.ask false).1.add s ⟨⟨#[]⟩, ⟨#[]⟩⟩, 0) else Q.ask false
def setT (Q : DkV) (id : Int) (t : TpV) : DkV := { Q with tapes := Q.tapes.set (id - 1).toNat t }
/-- The tape of a name that is there. -/
def idOf (Q : DkV) (s : ByteArray) : Int := (findM s Q.fo.now).1
def syncT (Q : DkV) (s : ByteArray) : DkV × Int :=
  if Q.fu.off = true then (Q, 14) else if (findM s Q.fo.now).2 = false then (Q, 8) else
    if (Q.ask true).2 = 0 then ((Q.ask true).1.setT (Q.idOf s) ⟨(Q.tapeAt (Q.idOf s)).nw, (Q.tapeAt (Q.idOf s)).nw⟩, 0) else Q.ask true
def cutT (Q : DkV) (s : ByteArray) (n : Int) : DkV × Int :=
  if Q.fu.off = true then (Q, 14) else if (findM s Q.fo.now).2 = false then (Q, 8) else if (Q.tapeAt (Q.idOf s)).cutOk n = false then (Q, 3) else
    if (Q.ask false).2 = 0 then ((Q.ask false).1.setT (Q.idOf s) ((Q.tapeAt (Q.idOf s)).cut n), 0) else Q.ask false
end DkV
theorem ask_ok {Q : DkV} {M : Nat} (h : Q.Ok M) (b : Bool) : (Q.ask b).1.Ok (M + 1) :=
  ⟨⟨by have := h.fo.kl; show Q.fo.kept.length + Q.fo.ch.length ≤ M + 1; omega, h.fo.ks, h.fo.cs⟩, FuV.call_ok h.fu b, h.s1, h.s2, by have := h.tl; show Q.tapes.length ≤ M + 1; omega, by have := h.cl; show Q.calls + 1 ≤ M + 1; omega, h.tz⟩
section
variable {w w' : World} {g : Nat} {F : Nat → Prop} {Q : DkV} {tm fg fz : Nat} {FF : Nat → Prop} {l : List (Lit × Value)} {tb : Int → Nat}
theorem DkR.l_len (h : DkR w g F Q tm fg fz FF l tb) : l.length ≤ Q.tapes.length := by
  have hup : Up (l.map fun p => Go.intOf p.1) := by
    show List.Pairwise _ _
    rw [List.pairwise_map]
    refine (h.tpb.rises intKey).imp_of_mem fun {p q} hp hq hb => ?_
    obtain ⟨x, rfl, _⟩ := h.el p hp
    obtain ⟨y, rfl, _⟩ := h.el q hq
    exact of_decide_eq_true hb
  have hm : ∀ x ∈ (l.map fun p => Go.intOf p.1), 1 ≤ x ∧ x ≤ (Q.tapes.length : Int) := fun x hx => by
    obtain ⟨p, hp, e⟩ := List.mem_map.1 hx
    obtain ⟨y, rfl, ht⟩ := h.el p hp
    have e' : y = x := e
    subst e'
    exact ⟨ht.i1, ht.i2⟩
  have := up_len hup (fun x hx => (hm x hx).1) (fun x hx => (hm x hx).2)
  rwa [List.length_map] at this
/-- A tape turns. -/
theorem DkR.set_ {t : TpV} {id : Int} (h : DkR w g F Q tm fg fz FF l tb) (hid : id ∈ Q.fo.ids) (hb : Off (· = tb id) w w') (hB : Blk w' (tb id) 174 t.cs) : DkR w' g F (Q.setT id t) tm fg fz FF l tb := by
  have ht := h.tape hid
  have hl := h.co id hid
  refine { h with ffl := fun k hk => Nat.lt_of_lt_of_le (h.ffl k hk) hb.size, blk := ?_, fob := h.fob.off hb (fun k _ hk e => ht.ff (e ▸ hk)), fub := h.fub.off hb (fun e => ht.nz e.symm), tpb := h.tpb.off hb (fun e => ht.nm e.symm), el := fun p hp => ?_ }
  · have := h.blk.off hb (fun e => ht.ng e.symm)
    unfold DkV.cells DkV.setT at *
    simpa using this
  · obtain ⟨x, e, hx⟩ := h.el p hp
    refine ⟨x, e, ?_⟩
    by_cases hxi : x = id
    · subst hxi
      exact { hx with i2 := by have := hx.i2; unfold DkV.setT; simpa using this, tp := ⟨t, by unfold DkV.setT; rw [List.getElem?_set_self (by have h1 := hx.i1; have h2 := hx.i2; omega)], hB⟩ }
    · have hne : ¬ tb x = tb id := fun he => hxi (h.inj x id (e ▸ hp) hl he)
      have hk := hx.keep (hb.block _ hx.lt hne)
      refine { hk with i2 := by have := hx.i2; unfold DkV.setT; simpa using this, tp := ?_ }
      obtain ⟨t', h1, h2⟩ := hk.tp
      have hn2 : (id - 1).toNat ≠ (x - 1).toNat := by have h1 := hx.i1; have h2 := ht.i1; omega
      exact ⟨t', by unfold DkV.setT; rw [List.getElem?_set_ne hn2]; exact h1, h2⟩
theorem DkR.off_set_ {id : Int} (h : DkR w g F Q tm fg fz FF l tb) (hid : id ∈ Q.fo.ids) (hb : Off (· = tb id) w w') : Off F w w' := hb.mono fun _ _ e => e ▸ (h.tape hid).f
end
set_option maxHeartbeats 2000000 in
theorem dcreate_calls {w : World} {g : Nat} {F : Nat → Prop} {Q : DkV} (h : DkP w g F Q) {M : Nat} (ho : Q.Ok M) (hM : M ≤ 800000) (s : ByteArray) (hs : s.size ≤ 9223372036854775807) :
    Calls Tryz.prog 146 #[ptrV g, .string s] w fun e w' => e = .returned (.int .i64 (Q.create s).2) ∧ DkP w' g (Fresh F w w') (Q.create s).1 ∧ Off F w w' := by
  have HP := Lib.hid h
  have HO := Lib.hid ho
  clear h ho
  cases hf : Q.fu.off
  · have HF := Lib.hid hf
    cases hm : mayB s
    · have HE := Lib.hid (show Q.create s = (Q, 7) from by unfold DkV.create; rw [hf, hm]; rfl)
      clear hf
      go_enter Tryz.func146, Tryz.ntmps146
      go_wp2_with fail
      refine (dready_calls HP.out).mono ?_
      rintro e w1 ⟨rfl, hb1⟩
      rw [HF.out]
      go_wp2_with fail
      refine (may_calls s _).mono ?_
      rintro e w2 ⟨rfl, hb2⟩
      rw [hm]
      go_wp2_with fail
      go_ret
      exact ⟨by rw [HE.out]; rfl, by rw [HE.out]; exact (HP.out.ex (hb1.trans hb2)).more Fresh.same, (hb1.trans hb2).off F⟩
    · cases hn : (findM s Q.fo.now).2
      · by_cases h64 : 64 ≤ Q.fo.ids.length
        · have HE := Lib.hid (show Q.create s = (Q, 9) from by unfold DkV.create; rw [hf, hm, hn, if_pos h64]; rfl)
          have HN := Lib.hid hn
          have HMy := Lib.hid hm
          have h64' : (64 : Int) ≤ (Q.fo.ids.length : Int) := by omega
          clear hf hn hm
          go_enter Tryz.func146, Tryz.ntmps146
          go_wp2_with fail
          refine (dready_calls HP.out).mono ?_
          rintro e w1 ⟨rfl, hb1⟩
          rw [HF.out]
          go_wp2_with fail
          refine (may_calls s _).mono ?_
          rintro e w2 ⟨rfl, hb2⟩
          rw [HMy.out]
          have HX := Lib.hid (hb1.trans hb2)
          clear hb1 hb2
          obtain ⟨tm, fg, fz, FF, l, tb, hR⟩ := HP.out.ex HX.out
          have c4 : w2.cell? ⟨g, 4, none⟩ = some (ptrV fg) := by rw [hR.blk.cell]; rfl
          have HR := Lib.hid hR
          clear hR
          go_wp2_with fail
          refine (fofind_calls s hs HR.out.fob).mono ?_
          rintro e w3 ⟨rfl, hb3⟩
          rw [HN.out]
          have c4' := Ex.cell hb3 c4
          go_wp2_with fail
          refine (foids_calls HO.out.fo (by omega) (HR.out.ex hb3).fob).mono ?_
          rintro e w4 ⟨iv, rfl, ho4, hb4⟩
          obtain ⟨iA, ic, rfl, _⟩ := own_shape ho4
          clear ho4
          go_wp2_with fail
          go_ret
          exact ⟨by rw [HE.out]; rfl, by rw [HE.out]; exact (HP.out.ex ((HX.out.trans hb3).trans hb4)).more Fresh.same, ((HX.out.trans hb3).trans hb4).off F⟩
        · have h64' : ¬ (64 : Int) ≤ (Q.fo.ids.length : Int) := by omega
          have HN := Lib.hid hn
          have HMy := Lib.hid hm
          have HA := Lib.hid (ask_ok HO.out false)
          obtain ⟨e0, he0⟩ : ∃ e0, e0 = (Q.ask false).2 := ⟨_, rfl⟩
          have HE0 := Lib.hid he0
          by_cases hz : e0 = 0
          · have HE := Lib.hid (show Q.create s = ((Q.ask false).1.add s ⟨⟨#[]⟩, ⟨#[]⟩⟩, 0) from by unfold DkV.create; rw [if_neg (by rw [hf]; decide), if_neg (by rw [hm]; decide), if_neg (by rw [hn]; decide), if_neg h64, if_pos (by rw [← he0]; exact hz)])
            subst hz
            clear hf hn hm h64 he0
            go_enter Tryz.func146, Tryz.ntmps146
            go_wp2_with fail
            refine (dready_calls HP.out).mono ?_
            rintro e w1 ⟨rfl, hb1⟩
            rw [HF.out]
            go_wp2_with fail
            refine (may_calls s _).mono ?_
            rintro e w2 ⟨rfl, hb2⟩
            rw [HMy.out]
            have HX := Lib.hid (hb1.trans hb2)
            clear hb1 hb2
            obtain ⟨tm, fg, fz, FF, l, tb, hR⟩ := HP.out.ex HX.out
            have c4 : w2.cell? ⟨g, 4, none⟩ = some (ptrV fg) := by rw [hR.blk.cell]; rfl
            have HR := Lib.hid hR
            clear hR
            go_wp2_with fail
            refine (fofind_calls s hs HR.out.fob).mono ?_
            rintro e w3 ⟨rfl, hb3⟩
            rw [HN.out]
            have c4' := Ex.cell hb3 c4
            go_wp2_with fail
            refine (foids_calls HO.out.fo (by omega) (HR.out.ex hb3).fob).mono ?_
            rintro e w4 ⟨iv, rfl, ho4, hb4⟩
            obtain ⟨iA, ic, rfl, _⟩ := own_shape ho4
            have HX4 := Lib.hid ((HX.out.trans hb3).trans hb4)
            have HR4 := Lib.hid (HR.out.ex (hb3.trans hb4))
            clear ho4 hb4 hb3 c4 c4'
            go_wp2_with fail
            refine (dput_calls HR4.out HO.out (by omega)).mono ?_
            rintro e w5 ⟨rfl, hR5, hO5⟩
            have HR5 := Lib.hid hR5
            have HO5 := Lib.hid hO5
            clear hR5 hO5
            rw [← HE0.out]
            go_wp2_with fail
            refine (tnew_calls _).mono ?_
            rintro e w6 ⟨b, rfl, hbb, hB6, hb6⟩
            have HB6 := Lib.hid hB6
            have HX6 := Lib.hid hb6
            have hR6 := ((HR5.out.ex hb6).more (G := fun k => F k ∨ k = b) (fun k hk => .inl hk))
            have HR6 := Lib.hid hR6
            clear hB6 hb6 hR6
            have hlt6 : ∀ k, k < w5.heap.size → k ≠ b := fun k hk => by omega
            have hll := HR6.out.l_len
            have hl2 := HA.out.tl
            go_wp2_with fail
            refine (dadd_calls HR6.out HA.out (by omega) s hs HN.out ⟨⟨#[]⟩, ⟨#[]⟩⟩ b HB6.out (.inr rfl) (fun hf => hlt6 _ (HR5.out.ffl _ hf) rfl) (fun e => hlt6 _ HR5.out.blk.lt e.symm) (fun e => hlt6 _ HR5.out.fub.lt e.symm) (fun e => hlt6 _ HR5.out.tpb.lt e.symm) (fun id hid => ?_) (by omega)).mono ?_
            · obtain ⟨y, e, ht⟩ := HR5.out.el _ hid
              injection e with e1 _
              injection e1 with _ e2
              subst e2
              exact hlt6 _ ht.lt
            rintro e w7 ⟨rfl, ⟨FF', l', tb', hR7, _⟩, hO7⟩
            have HR7 := Lib.hid hR7
            have HO7 := Lib.hid hO7
            clear hR7 hO7
            have z1 := HX4.out.size
            have z2 := HO5.out.size
            have z3 := HX6.out.size
            have z4 := HO7.out.size
            have l6 := HB6.out.lt
            go_wp2_with fail
            go_ret
            refine ⟨by rw [HE.out]; rfl, ?_, ?_⟩
            · rw [HE.out]
              refine ⟨_, _, _, _, _, _, HR7.out.more (fun k hk => ?_)⟩
              rcases hk with (hk | hk) | hk
              · exact .inl hk
              · exact .inr ⟨by omega, by omega⟩
              · exact .inr ⟨by omega, hk.2⟩
            · have q1 : Off F w w6 := ((HX4.out.off F).trans HO5.out).trans (HX6.out.off F)
              exact q1.then HO7.out fun k hk hk' => by
                rcases hk' with hk' | hk'
                · exact hk'
                · omega
          · have HE := Lib.hid (show Q.create s = Q.ask false from by unfold DkV.create; rw [if_neg (by rw [hf]; decide), if_neg (by rw [hm]; decide), if_neg (by rw [hn]; decide), if_neg h64, if_neg (by rw [← he0]; exact hz)])
            have z1 : decide (e0 = 0) = false := decide_eq_false hz
            have z2 : (e0 == 0) = false := by rw [beq_eq_false_iff_ne]; exact hz
            clear hf hn hm h64 he0 hz
            go_enter Tryz.func146, Tryz.ntmps146
            go_wp2_with fail
            refine (dready_calls HP.out).mono ?_
            rintro e w1 ⟨rfl, hb1⟩
            rw [HF.out]
            go_wp2_with fail
            refine (may_calls s _).mono ?_
            rintro e w2 ⟨rfl, hb2⟩
            rw [HMy.out]
            have HX := Lib.hid (hb1.trans hb2)
            clear hb1 hb2
            obtain ⟨tm, fg, fz, FF, l, tb, hR⟩ := HP.out.ex HX.out
            have c4 : w2.cell? ⟨g, 4, none⟩ = some (ptrV fg) := by rw [hR.blk.cell]; rfl
            have HR := Lib.hid hR
            clear hR
            go_wp2_with fail
            refine (fofind_calls s hs HR.out.fob).mono ?_
            rintro e w3 ⟨rfl, hb3⟩
            rw [HN.out]
            have c4' := Ex.cell hb3 c4
            go_wp2_with fail
            refine (foids_calls HO.out.fo (by omega) (HR.out.ex hb3).fob).mono ?_
            rintro e w4 ⟨iv, rfl, ho4, hb4⟩
            obtain ⟨iA, ic, rfl, _⟩ := own_shape ho4
            have HX4 := Lib.hid ((HX.out.trans hb3).trans hb4)
            have HR4 := Lib.hid (HR.out.ex (hb3.trans hb4))
            clear ho4 hb4 hb3 c4 c4'
            go_wp2_with fail
            refine (dput_calls HR4.out HO.out (by omega)).mono ?_
            rintro e w5 ⟨rfl, hR5, hO5⟩
            have HR5 := Lib.hid hR5
            have HO5 := Lib.hid hO5
            clear hR5 hO5
            rw [← HE0.out]
            go_wp2_with fail
            go_ret
            exact ⟨by rw [HE.out, ← HE0.out]; rfl, by rw [HE.out]; exact ⟨_, _, _, _, _, _, HR5.out.more Fresh.same⟩, (HX4.out.off F).trans HO5.out⟩
      · have HE := Lib.hid (show Q.create s = (Q, 17) from by unfold DkV.create; rw [hf, hm, hn]; rfl)
        have HN := Lib.hid hn
        have HMy := Lib.hid hm
        clear hf hn hm
        go_enter Tryz.func146, Tryz.ntmps146
        go_wp2_with fail
        refine (dready_calls HP.out).mono ?_
        rintro e w1 ⟨rfl, hb1⟩
        rw [HF.out]
        go_wp2_with fail
        refine (may_calls s _).mono ?_
        rintro e w2 ⟨rfl, hb2⟩
        rw [HMy.out]
        have HX := Lib.hid (hb1.trans hb2)
        clear hb1 hb2
        obtain ⟨tm, fg, fz, FF, l, tb, hR⟩ := HP.out.ex HX.out
        have c4 : w2.cell? ⟨g, 4, none⟩ = some (ptrV fg) := by rw [hR.blk.cell]; rfl
        have HR := Lib.hid hR
        clear hR
        go_wp2_with fail
        refine (fofind_calls s hs HR.out.fob).mono ?_
        rintro e w3 ⟨rfl, hb3⟩
        rw [HN.out]
        go_wp2_with fail
        go_ret
        exact ⟨by rw [HE.out]; rfl, by rw [HE.out]; exact (HP.out.ex (HX.out.trans hb3)).more Fresh.same, (HX.out.trans hb3).off F⟩
  · have HE := Lib.hid (show Q.create s = (Q, 14) from by unfold DkV.create; rw [hf]; rfl)
    have HF := Lib.hid hf
    clear hf
    go_enter Tryz.func146, Tryz.ntmps146
    go_wp2_with fail
    refine (dready_calls HP.out).mono ?_
    rintro e w1 ⟨rfl, hb1⟩
    rw [HF.out]
    go_wp2_with fail
    go_ret
    exact ⟨by rw [HE.out]; rfl, by rw [HE.out]; exact (HP.out.ex hb1).more Fresh.same, hb1.off F⟩
end Go.Proofs.YtomfcgeibbicoaaGreat
