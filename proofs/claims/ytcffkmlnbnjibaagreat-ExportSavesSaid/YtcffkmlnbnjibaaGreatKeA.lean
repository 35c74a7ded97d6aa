/- Plain law: what was synced, its name too, and fills its last sector, is there behind a crash. -/
import Derived.Test.YtcffkmlnbnjibaaGreatDkO
namespace Go.Proofs.YtcffkmlnbnjibaaGreat
open Go.RowKit Go.Maps
/-- The text begins so. -/
def pre (s a : ByteArray) : Prop := ∃ r, a = s ++ r
theorem pre.app {s a : ByteArray} (h : pre s a) (x : ByteArray) : pre s (a ++ x) := by
  obtain ⟨r, rfl⟩ := h
  exact ⟨r ++ x, ByteArray.append_assoc⟩
theorem pre.size {s a : ByteArray} (h : pre s a) : s.size ≤ a.size := by
  obtain ⟨r, rfl⟩ := h
  rw [ByteArray.size_append]; omega
theorem pre.cut {s a : ByteArray} (h : pre s a) : a.extract 0 s.size = s := by
  obtain ⟨r, rfl⟩ := h
  exact ByteArray.extract_append_eq_left rfl
theorem pre_sec {s a : ByteArray} (h : pre s a) {k : Nat} (hk : 32 * k + 32 ≤ s.size) : secS a k = secS s k := by
  obtain ⟨r, rfl⟩ := h
  unfold secS
  rw [ByteArray.extract_append, show r.extract (32 * k - s.size) (32 * k + 32 - s.size) = ByteArray.empty from by rw [ByteArray.extract_eq_empty_iff]; omega, ByteArray.append_empty]
theorem mix_low {s a b ch : ByteArray} (ha : pre s a) (hb : pre s b) : ∀ k, 32 * k ≤ s.size → (mixTo a b ch k).1 = s.extract 0 (32 * k)
  | 0, _ => by
    rw [show 32 * 0 = 0 from rfl, ByteArray.extract_same]; rfl
  | k + 1, hk => by
    have ih := mix_low (ch := ch) ha hb k (by omega)
    have hu : unS a b k = false := by
      unfold unS
      rw [pre_sec ha (k := k) (by omega), pre_sec hb (k := k) (by omega)]
      simp
    rw [mixTo_succ]
    unfold mixStep
    rw [hu, if_neg (by simp), ih, pre_sec ha (k := k) (by omega)]
    have hz : (s.extract 0 (32 * k)).size = 32 * k := by rw [ByteArray.size_extract]; omega
    have h2 : (secS s k).size = 32 := by unfold secS; rw [ByteArray.size_extract]; omega
    show layS _ k _ = _
    unfold layS
    rw [if_neg (by omega), hz, Nat.sub_self, show zeroS 0 = ByteArray.empty from rfl, ByteArray.append_empty]
    exact ByteArray.extract_append_extract.trans (by rw [Nat.min_eq_left (by omega), Nat.max_eq_right (by omega)]; rfl)
theorem lay_pre {s o x : ByteArray} {k : Nat} (h : pre s o) : pre s (layS o k x) := by
  unfold layS
  split
  · exact h
  · exact (h.app _).app _
theorem mix_high {s a b ch : ByteArray} (ha : pre s a) (hb : pre s b) (hd : s.size % 32 = 0) : ∀ j, pre s (mixTo a b ch (s.size / 32 + j)).1
  | 0 => by
    rw [Nat.add_zero, mix_low ha hb _ (by omega), show 32 * (s.size / 32) = s.size from by omega, ByteArray.extract_zero_size]
    exact ⟨ByteArray.empty, ByteArray.append_empty.symm⟩
  | j + 1 => by
    have ih := mix_high (ch := ch) ha hb hd j
    rw [← Nat.add_assoc, mixTo_succ]
    unfold mixStep
    split
    · exact lay_pre ih
    · exact lay_pre ih
theorem mix_pre {s a b ch : ByteArray} (ha : pre s a) (hb : pre s b) (hd : s.size % 32 = 0) : pre s (mixS a b ch).1 := by
  have h1 := ha.size
  have h2 : ∃ j, cntS (max a.size b.size) = s.size / 32 + j := ⟨cntS (max a.size b.size) - s.size / 32, by unfold cntS; omega⟩
  obtain ⟨j, hj⟩ := h2
  unfold mixS
  rw [hj]
  exact mix_high ha hb hd j
/-- The name of the file that is kept. -/
def sK : ByteArray := ⟨#[107, 101, 112, 116]⟩
def sB : ByteArray := ⟨#[98]⟩
/-- A list has the kept file, and no other one of its number. -/
structure KL (l : List Mk) : Prop where
  one : ∃ m ∈ l, m.pl = 1
  all : ∀ m ∈ l, 1 ≤ m.pl ∧ (nmIs sK m = true ↔ m.pl = 1)
/-- A change is of other files. -/
structure KC (c : Chg) : Prop where
  dr : c.dr = true → c.gone.toList ≠ sK.toList
  pu : c.pu = true → c.come.toList ≠ sK.toList ∧ 2 ≤ c.id
theorem is_eq {s : ByteArray} {m : Mk} : nmIs s m = true ↔ m.nm.toList = s.toList := by unfold nmIs; exact beq_iff_eq
theorem KL.keep {l : List Mk} (h : KL l) {s : ByteArray} (hs : s.toList ≠ sK.toList) : KL (l.filter (nmNot s)) := by
  obtain ⟨m, hm, e⟩ := h.one
  refine ⟨⟨m, List.mem_filter.2 ⟨hm, ?_⟩, e⟩, fun x hx => h.all x (List.mem_filter.1 hx).1⟩
  have h1 := is_eq.1 ((h.all m hm).2.2 e)
  unfold nmNot
  rw [Bool.not_eq_true']
  cases hq : nmIs s m
  · rfl
  · exact absurd ((is_eq.1 hq).symm.trans h1) hs
theorem KL.put {l : List Mk} (h : KL l) {s : ByteArray} {i : Int} (hs : s.toList ≠ sK.toList) (hi : 2 ≤ i) : KL (putM ⟨s, i⟩ l) := by
  have hk := h.keep hs
  obtain ⟨m, hm, e⟩ := hk.one
  refine ⟨⟨m, (insM_mem _ _ _).2 (.inr hm), e⟩, fun x hx => ?_⟩
  rcases (insM_mem _ _ _).1 hx with rfl | hx
  · refine ⟨by show (1 : Int) ≤ i; omega, fun hq => absurd (is_eq.1 hq) hs, fun hq => ?_⟩
    have : i = 1 := hq
    omega
  · exact hk.all x hx
theorem KL.ap {l : List Mk} {c : Chg} (h : KL l) (hc : KC c) : KL (c.ap l) := by
  have hd : KL (c.d l) := by
    unfold Chg.d
    split
    · rename_i hq; exact h.keep (hc.dr hq)
    · exact h
  unfold Chg.ap Chg.p
  split
  · rename_i hq; exact hd.put (hc.pu hq).1 (hc.pu hq).2
  · exact hd
theorem KL.fold : ∀ {ch : List Chg} {l : List Mk}, KL l → (∀ c ∈ ch, KC c) → KL (ch.foldl (fun l c => c.ap l) l)
  | [], _, h, _ => h
  | c :: r, _, h, hc => KL.fold (ch := r) (h.ap (hc c (by simp))) (fun x hx => hc x (by simp [hx]))
theorem KL.find {l : List Mk} (h : KL l) : findM sK l = (1, true) := by
  unfold findM
  cases hq : l.find? (nmIs sK) with
  | none =>
    rw [List.find?_eq_none] at hq
    obtain ⟨m, hm, e⟩ := h.one
    exact absurd ((h.all m hm).2.2 e) (hq m hm)
  | some m =>
    have := (h.all m (List.mem_of_find?_eq_some hq)).2.1 (List.find?_some hq)
    show (m.pl, true) = _
    rw [this]
/-- A disk that keeps it. -/
structure Kp (s : ByteArray) (Q : DkV) : Prop where
  fu : Q.fu = FuV.calm
  kept : KL Q.fo.kept
  ch : ∀ c ∈ Q.fo.ch, KC c
  tl : 1 ≤ Q.tapes.length
  tp : pre s (Q.tapeAt 1).kp ∧ pre s (Q.tapeAt 1).nw
section
variable {s : ByteArray} {Q : DkV}
theorem Kp.now (h : Kp s Q) : KL Q.fo.now := h.kept.fold h.ch
theorem calm_call (b : Bool) : FuV.calm.call b = (FuV.calm, 0) := by cases b <;> rfl
theorem Kp.ask (h : Kp s Q) (b : Bool) : Q.ask b = ({ Q with calls := Q.calls + 1 }, 0) := by
  unfold DkV.ask
  rw [h.fu, calm_call]
theorem Kp.off (h : Kp s Q) : Q.fu.off = false := by rw [h.fu]; rfl
theorem Kp.more (h : Kp s Q) (n : Nat) : Kp s { Q with calls := n } := ⟨h.fu, h.kept, h.ch, h.tl, h.tp⟩
theorem Kp.do_ (h : Kp s Q) {c : Chg} (hc : KC c) : Kp s { Q with fo := Q.fo.doC c } := by
  refine ⟨h.fu, h.kept, fun x hx => ?_, h.tl, h.tp⟩
  rcases List.mem_append.1 hx with hx | hx
  · exact h.ch x hx
  · rcases List.mem_cons.1 hx with rfl | hx
    · exact hc
    · cases hx
theorem setT_at {id : Int} {t : TpV} (h1 : 1 ≤ id) (hl : 1 ≤ Q.tapes.length) : (Q.setT id t).tapeAt 1 = if id = 1 then t else Q.tapeAt 1 := by
  unfold DkV.setT DkV.tapeAt
  show (Q.tapes.set (id - 1).toNat t).getD ((1 : Int) - 1).toNat _ = _
  rw [show ((1 : Int) - 1).toNat = 0 from rfl, List.getD_eq_getElem?_getD, List.getD_eq_getElem?_getD]
  by_cases h : id = 1
  · subst h
    rw [if_pos rfl, show ((1 : Int) - 1).toNat = 0 from rfl, List.getElem?_set_self (by omega)]; rfl
  · rw [if_neg h, List.getElem?_set_ne (by omega)]
theorem Kp.set (h : Kp s Q) {id : Int} {t : TpV} (h1 : 1 ≤ id) (ht : id = 1 → pre s t.kp ∧ pre s t.nw) : Kp s (Q.setT id t) := by
  refine ⟨h.fu, h.kept, h.ch, by unfold DkV.setT; simpa using h.tl, ?_⟩
  rw [setT_at h1 h.tl]
  split
  · rename_i e; exact ht e
  · exact h.tp
theorem KL.found {l : List Mk} (h : KL l) {x : ByteArray} (hf : (findM x l).2 = true) : 1 ≤ (findM x l).1 ∧ (x.toList ≠ sK.toList → 2 ≤ (findM x l).1) := by
  obtain ⟨m, _, hp, hn, e⟩ := findM_mem h.all hf
  rw [e]
  refine ⟨hp.1, fun hx => ?_⟩
  have : ¬ m.pl = 1 := fun e1 => hx ((is_eq.1 hn).symm.trans (is_eq.1 (hp.2.2 e1)))
  have := hp.1
  omega
theorem Kp.append (h : Kp s Q) (x y : ByteArray) : Kp s (Q.append x y).1 := by
  unfold DkV.append
  split
  · exact h
  · split
    · exact h
    · rename_i hn
      have hf : (findM x Q.fo.now).2 = true := by cases hb : (findM x Q.fo.now).2; exact absurd hb hn; rfl
      split
      · exact h
      · rw [h.ask, if_pos rfl]
        refine (h.more (Q.calls + 1)).set (h.now.found hf).1 fun e => ?_
        rw [e]
        exact ⟨h.tp.1, h.tp.2.app y⟩
theorem Kp.create (h : Kp s Q) {x : ByteArray} (hx : x.toList ≠ sK.toList) : Kp s (Q.create x).1 := by
  have htl := h.tl
  unfold DkV.create
  split
  · exact h
  · split
    · exact h
    · split
      · exact h
      · split
        · exact h
        · rw [h.ask, if_pos rfl]
          have h2 := (h.more (Q.calls + 1)).do_ (c := ⟨false, ⟨#[]⟩, true, x, (Q.tapes.length : Int) + 1⟩) ⟨(fun e => by cases e), fun _ => ⟨hx, by show (2 : Int) ≤ (Q.tapes.length : Int) + 1; omega⟩⟩
          refine ⟨h2.fu, h2.kept, h2.ch, ?_, ?_⟩
          · show 1 ≤ (Q.tapes ++ _).length
            rw [List.length_append]; omega
          · have : ((({ Q with calls := Q.calls + 1 } : DkV).add x ⟨⟨#[]⟩, ⟨#[]⟩⟩).tapeAt 1) = Q.tapeAt 1 := by
              unfold DkV.tapeAt DkV.add
              show (Q.tapes ++ _).getD ((1 : Int) - 1).toNat _ = _
              rw [show ((1 : Int) - 1).toNat = 0 from rfl, List.getD_eq_getElem?_getD, List.getD_eq_getElem?_getD, List.getElem?_append_left (by omega)]
            rw [this]
            exact h.tp
theorem Kp.rename (h : Kp s Q) {x y : ByteArray} (hx : x.toList ≠ sK.toList) (hy : y.toList ≠ sK.toList) : Kp s (Q.rename x y).1 := by
  unfold DkV.rename
  split
  · exact h
  · split
    · exact h
    · rename_i hn
      have hf : (findM x Q.fo.now).2 = true := by cases hb : (findM x Q.fo.now).2; exact absurd hb hn; rfl
      split
      · exact h
      · rw [h.ask, if_pos rfl]
        show Kp s { Q with fo := (Q.fo.move x y).1, calls := Q.calls + 1 }
        unfold FoV.move
        rw [if_pos hf]
        split
        · exact h.more (Q.calls + 1)
        · exact (h.more (Q.calls + 1)).do_ (c := ⟨true, x, true, y, (findM x Q.fo.now).1⟩) ⟨fun _ => hx, fun _ => ⟨hy, (h.now.found hf).2 hx⟩⟩
theorem Kp.remove (h : Kp s Q) {x : ByteArray} (hx : x.toList ≠ sK.toList) : Kp s (Q.remove x).1 := by
  unfold DkV.remove
  split
  · exact h
  · split
    · exact h
    · rename_i hn
      have hf : (findM x Q.fo.now).2 = true := by cases hb : (findM x Q.fo.now).2; exact absurd hb hn; rfl
      rw [h.ask, if_pos rfl]
      show Kp s { Q with fo := (Q.fo.drop x).1, calls := Q.calls + 1 }
      unfold FoV.drop
      rw [if_pos hf]
      exact (h.more (Q.calls + 1)).do_ (c := ⟨true, x, false, ⟨#[]⟩, 0⟩) ⟨fun _ => hx, (fun e => by cases e)⟩
theorem Kp.ids (h : Kp s Q) : ∀ id ∈ Q.fo.ids, 1 ≤ id := fun id hid => by
  rcases (Q.fo.ids_mem id).1 hid with ⟨m, hm, e⟩ | ⟨c, hc, hp, e⟩
  · have := (h.kept.all m hm).1; omega
  · have := ((h.ch c hc).pu hp).2; omega
theorem Kp.crashL (hd : s.size % 32 = 0) (ch : ByteArray) : ∀ (ids : List Int) (st : DkV × Nat), (∀ id ∈ ids, 1 ≤ id) → Kp s st.1 → Kp s (crashL ch ids st).1
  | [], _, _, h => h
  | id :: r, st, hi, h => by
    refine Kp.crashL hd ch r _ (fun x hx => hi x (by simp [hx])) ?_
    refine h.set (hi id (by simp)) fun e => ?_
    subst e
    exact ⟨mix_pre h.tp.1 h.tp.2 hd, mix_pre h.tp.1 h.tp.2 hd⟩
theorem Kp.crash (h : Kp s Q) (hd : s.size % 32 = 0) (ch : ByteArray) : Kp s (Q.crash ch).1 := by
  refine Kp.crashL hd ch _ _ h.ids ?_
  exact ⟨rfl, h.kept.fold (fun c hc => h.ch c (List.mem_of_mem_take hc)), (fun c hc => by cases hc), h.tl, h.tp⟩
theorem Kp.read (h : Kp s Q) : (Q.read sK).2 = 0 ∧ s.size ≤ (Q.read sK).1.size ∧ (Q.read sK).1.extract 0 s.size = s := by
  have hf := h.now.find
  unfold DkV.read DkV.idOf
  rw [h.off, hf]
  exact ⟨rfl, h.tp.2.size, h.tp.2.cut⟩
end
/-- What the page's four calls give. -/
def kept1 : DkV := ((DkV.fresh 200).create sK).1
theorem kept1_is : (DkV.fresh 200).create sK = (⟨200, [⟨⟨#[]⟩, ⟨#[]⟩⟩], ⟨[], [⟨false, ⟨#[]⟩, true, sK, 1⟩]⟩, FuV.calm, 1⟩, 0) := by kernel_rfl
theorem kept2_is {s : ByteArray} (hs : s.size ≤ 200) : kept1.append sK s = (⟨200, [⟨⟨#[]⟩, s⟩], ⟨[], [⟨false, ⟨#[]⟩, true, sK, 1⟩]⟩, FuV.calm, 2⟩, 0) := by
  have h1 : kept1 = ⟨200, [⟨⟨#[]⟩, ⟨#[]⟩⟩], ⟨[], [⟨false, ⟨#[]⟩, true, sK, 1⟩]⟩, FuV.calm, 1⟩ := by unfold kept1; rw [kept1_is]
  have h2 : kept1.taken = 0 := by rw [h1]; kernel_rfl
  have h3 : findM sK kept1.fo.now = (1, true) := by rw [h1]; kernel_rfl
  have h4 : kept1.tapeAt 1 = ⟨⟨#[]⟩, ⟨#[]⟩⟩ := by rw [h1]; rfl
  have h5 : kept1.idOf sK = 1 := by unfold DkV.idOf; rw [h3]
  have h6 : kept1.ask false = (⟨200, [⟨⟨#[]⟩, ⟨#[]⟩⟩], ⟨[], [⟨false, ⟨#[]⟩, true, sK, 1⟩]⟩, FuV.calm, 2⟩, 0) := by rw [h1]; rfl
  have h7 : kept1.fu.off = false := by rw [h1]; rfl
  have h8 : kept1.sec = 200 := by rw [h1]
  have h9 : (TpV.plus ⟨⟨#[]⟩, ⟨#[]⟩⟩ s) = ⟨⟨#[]⟩, s⟩ := by unfold TpV.plus; exact congrArg (TpV.mk ⟨#[]⟩) (ByteArray.empty_append (b := s))
  have ha : ¬ kept1.sec < kept1.after sK s := by
    unfold DkV.after
    rw [h8, h2, h5, h4, h9]
    unfold cntT cntS
    show ¬ ((200 : Int) < ((0 : Nat) : Int) - (((max 0 0 + 31) / 32 : Nat) : Int) + (((max s.size 0 + 31) / 32 : Nat) : Int))
    omega
  unfold DkV.append
  rw [h7, if_neg (by decide), h3, if_neg (by decide), if_neg ha, h6, if_pos rfl, h5, h4, h9]
  rfl
theorem kept3_is {s : ByteArray} : (⟨200, [⟨⟨#[]⟩, s⟩], ⟨[], [⟨false, ⟨#[]⟩, true, sK, 1⟩]⟩, FuV.calm, 2⟩ : DkV).syncT sK = (⟨200, [⟨s, s⟩], ⟨[], [⟨false, ⟨#[]⟩, true, sK, 1⟩]⟩, FuV.calm, 3⟩, 0) := by kernel_rfl
theorem kept4_is {s : ByteArray} : (⟨200, [⟨s, s⟩], ⟨[], [⟨false, ⟨#[]⟩, true, sK, 1⟩]⟩, FuV.calm, 3⟩ : DkV).syncAll = (⟨200, [⟨s, s⟩], ⟨[⟨sK, 1⟩], []⟩, FuV.calm, 4⟩, 0) := by kernel_rfl
theorem kept4_kp (s : ByteArray) : Kp s ⟨200, [⟨s, s⟩], ⟨[⟨sK, 1⟩], []⟩, FuV.calm, 4⟩ :=
  ⟨rfl, ⟨⟨⟨sK, 1⟩, List.mem_cons_self, rfl⟩, fun m hm => by
    rcases List.mem_cons.1 hm with rfl | hm
    · exact ⟨Int.le_refl _, fun _ => rfl, fun _ => is_eq.2 rfl⟩
    · cases hm⟩, (fun c hc => by cases hc), Nat.le_refl _, ⟨ByteArray.empty, ByteArray.append_empty.symm⟩, ⟨ByteArray.empty, ByteArray.append_empty.symm⟩⟩
end Go.Proofs.YtcffkmlnbnjibaaGreat
