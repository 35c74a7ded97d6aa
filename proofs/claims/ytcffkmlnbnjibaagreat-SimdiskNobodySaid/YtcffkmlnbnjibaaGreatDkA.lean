/- Walks: a disk: what it is; is it ready; a file that is seen; the fuse is asked. -/
import Derived.Test.YtcffkmlnbnjibaaGreatFoH
import Derived.Test.YtcffkmlnbnjibaaGreatTpA
import Derived.Test.YtcffkmlnbnjibaaGreatTiB
namespace Go.Proofs.YtcffkmlnbnjibaaGreat
open Go.RowKit Go.Maps
/-- A disk, as the document has it. -/
structure DkV where
  sec : Int
  tapes : List TpV
  fo : FoV
  fu : FuV
  calls : Nat
namespace DkV
def ask (Q : DkV) (sync : Bool) : DkV × Int := ({ Q with fu := (Q.fu.call sync).1, calls := Q.calls + 1 }, (Q.fu.call sync).2)
def cells (Q : DkV) (tm fg fz : Nat) : List Value := [.int .i64 Q.sec, .int .i64 (Q.tapes.length : Int), .int .i64 (Q.calls : Int), .map (some tm), .pointer (some ⟨fg, 0, none⟩), .pointer (some ⟨fz, 0, none⟩)]
/-- All is of some size. -/
structure Ok (Q : DkV) (M : Nat) : Prop where
  fo : Q.fo.Ok M
  fu : Q.fu.Ok
  s1 : 1 ≤ Q.sec
  s2 : Q.sec ≤ 4096
  tl : Q.tapes.length ≤ M
  cl : Q.calls ≤ M
  tz : ∀ t ∈ Q.tapes, t.kp.size ≤ 131072 ∧ t.nw.size ≤ 131072
end DkV
/-- The tape of a number stands in block tb. -/
structure TbOk (w : World) (ts : List TpV) (F FF : Nat → Prop) (g fz tm b : Nat) (id : Int) : Prop where
  i1 : 1 ≤ id
  i2 : id ≤ ts.length
  tp : ∃ t, ts[(id - 1).toNat]? = some t ∧ Blk w b 148 t.cs
  f : F b
  ff : ¬ FF b
  ng : b ≠ g
  nz : b ≠ fz
  nm : b ≠ tm
abbrev ptrV (b : Nat) : Value := .pointer (some ⟨b, 0, none⟩)
structure DkR (w : World) (g : Nat) (F : Nat → Prop) (Q : DkV) (tm fg fz : Nat) (FF : Nat → Prop) (l : List (Lit × Value)) (tb : Int → Nat) : Prop where
  blk : Blk w g 27 (Q.cells tm fg fz)
  fob : FoP w fg FF Q.fo
  fub : Blk w fz 167 Q.fu.cs
  tpb : MapB w Tryz.prog 3 tm l
  el : ∀ p ∈ l, ∃ id, p = (inK id, ptrV (tb id)) ∧ TbOk w Q.tapes F FF g fz tm (tb id) id
  co : ∀ id ∈ Q.fo.ids, (inK id, ptrV (tb id)) ∈ l
  inj : ∀ id id', (inK id, ptrV (tb id)) ∈ l → (inK id', ptrV (tb id')) ∈ l → tb id = tb id' → id = id'
  gz : g ≠ fz
  gt : g ≠ tm
  zt : fz ≠ tm
  ffg : ¬ FF g
  ffz : ¬ FF fz
  fft : ¬ FF tm
  fg_ : F g
  fz_ : F fz
  ft_ : F tm
  sub : ∀ k, FF k → F k
  ffl : ∀ k, FF k → k < w.heap.size
def DkP (w : World) (g : Nat) (F : Nat → Prop) (Q : DkV) : Prop := ∃ tm fg fz FF l tb, DkR w g F Q tm fg fz FF l tb
theorem TbOk.keep {w w' : World} {ts : List TpV} {F FF : Nat → Prop} {g fz tm b : Nat} {id : Int} (h : TbOk w ts F FF g fz tm b id) (hb : w'.heap[b]? = w.heap[b]?) : TbOk w' ts F FF g fz tm b id := by
  refine { h with tp := ?_ }
  obtain ⟨t, h1, h2⟩ := h.tp
  exact ⟨t, h1, hb.trans h2⟩
theorem TbOk.lt {w : World} {ts : List TpV} {F FF : Nat → Prop} {g fz tm b : Nat} {id : Int} (h : TbOk w ts F FF g fz tm b id) : b < w.heap.size := by
  obtain ⟨t, _, h2⟩ := h.tp
  exact h2.lt
section
variable {w w' : World} {g : Nat} {F : Nat → Prop} {Q : DkV} {tm fg fz : Nat} {FF : Nat → Prop} {l : List (Lit × Value)} {tb : Int → Nat}
theorem DkR.ex (h : DkR w g F Q tm fg fz FF l tb) (hb : Ex w w') : DkR w' g F Q tm fg fz FF l tb := by
  refine { h with ffl := fun k hk => Nat.lt_of_lt_of_le (h.ffl k hk) hb.size, blk := h.blk.ex hb, fob := h.fob.ex hb, fub := h.fub.ex hb, tpb := h.tpb.ex hb, el := fun p hp => ?_ }
  obtain ⟨id, e, ht⟩ := h.el p hp
  exact ⟨id, e, ht.keep (hb.block _ ht.lt)⟩
theorem DkR.more {G : Nat → Prop} (h : DkR w g F Q tm fg fz FF l tb) (hF : ∀ k, F k → G k) : DkR w g G Q tm fg fz FF l tb := by
  refine { h with fg_ := hF _ h.fg_, fz_ := hF _ h.fz_, ft_ := hF _ h.ft_, sub := fun k hk => hF k (h.sub k hk), el := fun p hp => ?_ }
  obtain ⟨id, e, ht⟩ := h.el p hp
  exact ⟨id, e, { ht with f := hF _ ht.f }⟩
theorem DkP.ex (h : DkP w g F Q) (hb : Ex w w') : DkP w' g F Q := by
  obtain ⟨tm, fg, fz, FF, l, tb, h⟩ := h
  exact ⟨tm, fg, fz, FF, l, tb, h.ex hb⟩
theorem DkP.more {G : Nat → Prop} (h : DkP w g F Q) (hF : ∀ k, F k → G k) : DkP w g G Q := by
  obtain ⟨tm, fg, fz, FF, l, tb, h⟩ := h
  exact ⟨tm, fg, fz, FF, l, tb, h.more hF⟩
theorem FoP.sub {w : World} {g : Nat} {FF : Nat → Prop} {q : FoV} (h : FoP w g FF q) : FF g := by
  obtain ⟨kb, nb, v, h⟩ := h
  exact h.fg
/-- Other blocks turn. -/
theorem DkP.off {G : Nat → Prop} (h : DkP w g F Q) (hb : Off G w w') (hG : ∀ k, k < w.heap.size → F k → ¬ G k) : DkP w' g F Q := by
  obtain ⟨tm, fg, fz, FF, l, tb, h⟩ := h
  refine ⟨tm, fg, fz, FF, l, tb, { h with ffl := fun k hk => Nat.lt_of_lt_of_le (h.ffl k hk) hb.size, blk := h.blk.off hb (hG _ h.blk.lt h.fg_), fob := h.fob.off hb (fun k hk hf => hG k hk (h.sub k hf)), fub := h.fub.off hb (hG _ h.fub.lt h.fz_), tpb := h.tpb.off hb (hG _ h.tpb.lt h.ft_), el := fun p hp => ?_ }⟩
  obtain ⟨id, e, ht⟩ := h.el p hp
  exact ⟨id, e, ht.keep (hb.block _ ht.lt (hG _ ht.lt ht.f))⟩
/-- The disk's own cells turn. -/
theorem DkR.own_ {Q' : DkV} (h : DkR w g F Q tm fg fz FF l tb) (hb : Off (· = g) w w') (hB : Blk w' g 27 (Q'.cells tm fg fz)) (e1 : Q'.fo = Q.fo) (e2 : Q'.fu = Q.fu) (e3 : Q'.tapes = Q.tapes) : DkR w' g F Q' tm fg fz FF l tb := by
  refine { h with ffl := fun k hk => Nat.lt_of_lt_of_le (h.ffl k hk) hb.size, blk := hB, fob := by rw [e1]; exact h.fob.off hb (fun k _ hk e => h.ffg (e ▸ hk)), fub := by rw [e2]; exact h.fub.off hb (fun e => h.gz e.symm), tpb := h.tpb.off hb (fun e => h.gt e.symm), co := by rw [e1]; exact h.co, el := fun p hp => ?_ }
  obtain ⟨id, e, ht⟩ := h.el p hp
  rw [e3]
  exact ⟨id, e, ht.keep (hb.block _ ht.lt ht.ng)⟩
/-- The fuse turns. -/
theorem DkR.fuse_ {f : FuV} (h : DkR w g F Q tm fg fz FF l tb) (hb : Off (· = fz) w w') (hB : Blk w' fz 167 f.cs) : DkR w' g F { Q with fu := f } tm fg fz FF l tb := by
  refine { h with ffl := fun k hk => Nat.lt_of_lt_of_le (h.ffl k hk) hb.size, blk := h.blk.off hb h.gz, fob := h.fob.off hb (fun k _ hk e => h.ffz (e ▸ hk)), fub := hB, tpb := h.tpb.off hb (fun e => h.zt e.symm), el := fun p hp => ?_ }
  obtain ⟨id, e, ht⟩ := h.el p hp
  exact ⟨id, e, ht.keep (hb.block _ ht.lt ht.nz)⟩
end
theorem dnone_calls {w : World} {g : Nat} {F : Nat → Prop} {Q : DkV} (h : DkP w g F Q) : Calls Tryz.prog 68 #[.pointer (some ⟨g, 0, none⟩)] w fun e w' => e = .returned (.bool false) ∧ Ex w w' := by
  obtain ⟨tm, fg, fz, FF, l, tb, h⟩ := h
  have hc : w.cell? ⟨g, 4, none⟩ = some (ptrV fg) := by rw [h.blk.cell]; rfl
  clear h
  go_enter Tryz.func68, Tryz.ntmps68
  go_wp2_with fail
  go_ret
  exact ⟨rfl, Ex.refl _⟩
theorem dready_calls {w : World} {g : Nat} {F : Nat → Prop} {Q : DkV} (h : DkP w g F Q) : Calls Tryz.prog 47 #[.pointer (some ⟨g, 0, none⟩)] w fun e w' => e = .returned (.int .i64 (if Q.fu.off = true then 14 else 0)) ∧ Ex w w' := by
  have H := Lib.hid h
  clear h
  cases hf : Q.fu.off
  all_goals
    go_enter Tryz.func47, Tryz.ntmps47
    go_wp2_with fail
    refine (dnone_calls H.out).mono ?_
    rintro e w1 ⟨rfl, hb1⟩
    obtain ⟨tm, fg, fz, FF, l, tb, h⟩ := H.out.ex hb1
    have hc : w1.cell? ⟨g, 5, none⟩ = some (ptrV fz) := by rw [h.blk.cell]; rfl
    have HZ := Lib.hid h.fub
    clear h
    go_wp2_with fail
    refine (fup_calls HZ.out).mono ?_
    rintro e w2 ⟨rfl, hb2⟩
    rw [hf]
    go_wp2_with fail
    go_ret
    exact ⟨rfl, hb1.trans hb2⟩
end Go.Proofs.YtcffkmlnbnjibaaGreat
