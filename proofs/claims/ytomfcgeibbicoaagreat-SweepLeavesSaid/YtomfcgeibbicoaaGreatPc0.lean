/- Walks: sectors of bytes: Count, Slice. -/
import Derived.Test.YtomfcgeibbicoaaGreatOff
import Derived.Test.YtomfcgeibbicoaaGreatProg
import Derived.Laws.BytesString
import Derived.Test.YtomfcgeibbicoaaGreatUtfS
import Derived.Laws.MakeOwn
import Derived.WalkMore
namespace Go.Proofs.YtomfcgeibbicoaaGreat
open Go.RowKit
/-- How many sectors n bytes have. -/
def cntS (n : Nat) : Nat := (n + 31) / 32
/-- The k-th sector. -/
def secS (s : ByteArray) (k : Nat) : ByteArray := s.extract (32 * k) (32 * k + 32)
theorem pcount_calls (n : Nat) (w : World) (hn : n ≤ 4611686018427387904) : Calls Tryz.prog 175 #[.int .i64 (n : Int)] w fun e w' => e = .returned (.int .i64 (cntS n : Int)) ∧ Ex w w' := by
  by_cases h : n < 1
  · have d1 : decide ((n : Int) < 1) = true := decide_eq_true (by omega)
    have hz : cntS n = 0 := by unfold cntS; omega
    rw [hz]
    go_enter Tryz.func175, Tryz.ntmps175
    go_wp2_with fail
    go_ret
    exact ⟨rfl, Ex.refl _⟩
  · have d1 : decide ((n : Int) < 1) = false := decide_eq_false (by omega)
    by_cases h2 : 0 < n % 32
    · have d2 : decide (0 < (n : Int) % 32) = true := decide_eq_true (by omega)
      have hz : (n : Int) / 32 + 1 = (cntS n : Int) := by unfold cntS; omega
      go_enter Tryz.func175, Tryz.ntmps175
      go_wp2_with fail
      go_ret
      exact ⟨rfl, Ex.refl _⟩
    · have d2 : decide (0 < (n : Int) % 32) = false := decide_eq_false (by omega)
      have hz : (n : Int) / 32 = (cntS n : Int) := by unfold cntS; omega
      go_enter Tryz.func175, Tryz.ntmps175
      go_wp2_with fail
      go_ret
      exact ⟨rfl, Ex.refl _⟩
theorem rpcount_calls (n : Nat) (w : World) (hn : n ≤ 4611686018427387904) : Calls Tryz.prog 180 #[.int .i64 (n : Int)] w fun e w' => e = .returned (.int .i64 (cntS n : Int)) ∧ Ex w w' := by
  by_cases h : n < 1
  · have d1 : decide ((n : Int) < 1) = true := decide_eq_true (by omega)
    have hz : cntS n = 0 := by unfold cntS; omega
    rw [hz]
    go_enter Tryz.func180, Tryz.ntmps180
    go_wp2_with fail
    go_ret
    exact ⟨rfl, Ex.refl _⟩
  · have d1 : decide ((n : Int) < 1) = false := decide_eq_false (by omega)
    have hw : IntKind.i64.wrap ((n : Int) - 1) = (n : Int) - 1 := IntWalk.i64_in _ (by omega)
    have hz : ((n : Int) - 1) / 32 + 1 = (cntS n : Int) := by unfold cntS; omega
    go_enter Tryz.func180, Tryz.ntmps180
    go_wp2_with fail
    go_ret
    exact ⟨rfl, Ex.refl _⟩
theorem sec_none {s : ByteArray} {k : Nat} (h : cntS s.size ≤ k) : secS s k = ⟨#[]⟩ := by
  unfold secS cntS at *
  have : (s.extract (32 * k) (32 * k + 32)).size = 0 := by rw [ByteArray.size_extract]; omega
  cases he : s.extract (32 * k) (32 * k + 32) with
  | mk d =>
    rw [he] at this
    have hd : d.size = 0 := this
    have : d = #[] := Array.eq_empty_of_size_eq_zero hd
    rw [this]
theorem ba_data {a b : ByteArray} (h : a.data = b.data) : a = b := by
  cases a; cases b; cases h; rfl
theorem sec_cut (s : ByteArray) (k : Nat) : (s.extract (32 * k) s.size).extract 0 32 = secS s k := by
  apply ba_data
  unfold secS
  rw [ByteArray.data_extract, ByteArray.data_extract, ByteArray.data_extract, Array.extract_extract]
  show s.data.extract (32 * k + 0) (min (32 * k + 32) s.data.size) = _
  rw [Nat.add_zero]
  apply Array.ext_getElem?
  intro i
  rw [Array.getElem?_extract, Array.getElem?_extract]
  congr 1
  rw [eq_iff_iff]
  omega
theorem sec_rest {s : ByteArray} {k j : Nat} (h : j ≤ 32 * k + 32) (hj : s.size ≤ j ∨ j = 32 * k + 32) : s.extract (32 * k) j = secS s k := by
  apply ba_data
  unfold secS
  rw [ByteArray.data_extract, ByteArray.data_extract]
  have hsz : s.data.size = s.size := rfl
  apply Array.ext_getElem?
  intro i
  rw [Array.getElem?_extract, Array.getElem?_extract]
  congr 1
  rw [eq_iff_iff]
  omega
theorem pslice_calls (s : ByteArray) (k : Nat) (w : World) (hs : s.size ≤ 4611686018427387904) : Calls Tryz.prog 207 #[.string s, .int .i64 (k : Int)] w fun e w' => e = .returned (.string (secS s k)) ∧ Ex w w' := by
  by_cases h : cntS s.size ≤ k
  · have d1 : decide ((cntS s.size : Int) ≤ (k : Int)) = true := decide_eq_true (by omega)
    rw [sec_none h]
    go_enter Tryz.func207, Tryz.ntmps207
    go_wp2_with fail
    refine (pcount_calls s.size _ hs).mono ?_
    rintro e w1 ⟨rfl, hb1⟩
    go_wp2_with fail
    go_ret
    exact ⟨rfl, hb1⟩
  · have d1 : decide ((cntS s.size : Int) ≤ (k : Int)) = false := decide_eq_false (by omega)
    have hk : 32 * k < s.size := by unfold cntS at h; omega
    have hw : IntKind.i64.wrap ((k : Int) * 32) = (k : Int) * 32 := IntWalk.i64_in _ (by omega)
    have hz : ((k : Int) * 32).toNat = 32 * k := by omega
    by_cases h2 : 32 < s.size - 32 * k
    · have d2 : decide (32 < ((s.size - 32 * k : Nat) : Int)) = true := decide_eq_true (by omega)
      go_enter Tryz.func207, Tryz.ntmps207
      go_wp2_with fail
      refine (pcount_calls s.size _ hs).mono ?_
      rintro e w1 ⟨rfl, hb1⟩
      go_wp2_with fail
      go_ret
      exact ⟨congrArg (fun v => Ending.returned (Value.string v)) (sec_cut s k), hb1⟩
    · have d2 : decide (32 < ((s.size - 32 * k : Nat) : Int)) = false := decide_eq_false (by omega)
      go_enter Tryz.func207, Tryz.ntmps207
      go_wp2_with fail
      refine (pcount_calls s.size _ hs).mono ?_
      rintro e w1 ⟨rfl, hb1⟩
      go_wp2_with fail
      go_ret
      exact ⟨congrArg (fun v => Ending.returned (Value.string v)) (sec_rest (j := s.size) (by omega) (.inl (Nat.le_refl _))), hb1⟩
end Go.Proofs.YtomfcgeibbicoaaGreat
namespace Go.Proofs.YtomfcgeibbicoaaGreat
open Go.RowKit
section
variable {P : Program}
theorem zc_one (z : Value) (hz : z.cells = #[z]) (m : Nat) : (Builtin.zeroCells z.cells m).toList = List.replicate m z := by
  apply List.ext_getElem?
  intro i
  rw [hz]
  by_cases h : i < m <;> simp [Builtin.zeroCells, h, Nat.mod_one]
theorem run_append_zeros_own (w : World) (base : Nat) (t ti ty e : TypeId) (i : TypeInfo) (z : Value) (bytes : Nat) (kk : IntKind) (ht : P.underlying t = some (.slice e)) (hti : P.underlying ti = some (.int kk)) (hi : P.info? e = some i) (hz : i.zero = some z)
    (hsize : i.size = 1) (hby : i.bytes = bytes) (hzc : z.cells = #[z]) (hz1 : z.oneCell' = true) (v : Value) (n : Nat) (xs : List Value) (hown : w.ownsRow base e 1 v n xs) (m : Nat) (hm : 0 < m)
    (h63 : n + m ≤ 1000000) (hb : bytes ≤ 1000000) (hbase : base ≤ w.heap.size) :
    ∃ v' w', (Builtin.append_ #[t, ti] ty #[v, .int .i64 (m : Int)]).run P w = .ok v' w' ∧ w'.ownsRow base e 1 v' (n + m) (xs ++ List.replicate m z) ∧ w.grownBy w' v.ownBlock ∧ (v'.ownBlock = v.ownBlock ∨ v'.ownBlock = some w.heap.size) := by
  subst hby
  have hlen : (xs ++ List.replicate m z).length = (n + m) * 1 := by rw [List.length_append, hown.1, List.length_replicate]; omega
  have hw : (IntKind.i64).wrap (m : Int) = m := IntWalk.i64_in _ (by omega)
  have ha : (asInt (.int .i64 (m : Int))).run P w = .ok (m : Int) w := rfl
  have h0' : ¬ ((m : Int) < 0) := by omega
  have hbm : m * i.bytes ≤ 1000000 * 1000000 := Nat.mul_le_mul (by omega) hb
  have h48' : ¬ ((281474976710656 : Int) < (m : Int) * (i.bytes : Int)) := by
    have : (m : Int) * (i.bytes : Int) = ((m * i.bytes : Nat) : Int) := by simp
    rw [this]; omega
  have h63' : ¬ ((9223372036854775807 : Int) < (n : Int) + (m : Int)) := by omega
  have hm0 : ¬ (m = 0) := by omega
  have hzcl := zc_one z hzc m
  have hzca : Builtin.zeroCells z.cells m = (List.replicate m z).toArray := by rw [← hzcl]
  have grown : ∀ (old : Nat), old < n + m → ∀ (row : Option Nat),
      (w.drew.alloc (.cells (xs ++ List.replicate m z ++ (Builtin.zeroCells z.cells (grownCap w (n + m) old e - (n + m))).toList).toArray e)).ownsRow base e 1
        (.slice (some ⟨w.heap.size, 0, none⟩) (n + m) (grownCap w (n + m) old e)) (n + m) (xs ++ List.replicate m z) ∧
      w.grownBy (w.drew.alloc (.cells (xs ++ List.replicate m z ++ (Builtin.zeroCells z.cells (grownCap w (n + m) old e - (n + m))).toList).toArray e)) row := by
    intro old ho row
    have hge := grownCap_ge w (n + m) old e
    have hcm : grownCap w (n + m) old e ≤ maxLen := grownCap_le_maxLen w (n + m) old e (by simp only [maxLen]; omega)
    have hzl := zeroCells_len z.cells (grownCap w (n + m) old e - (n + m))
    rw [hzc] at hzl
    simp only [List.size_toArray, List.length_cons, List.length_nil] at hzl
    refine ⟨own_of_blk (heap_alloc_new w.drew _) hbase hge hcm ?_ ?_, ⟨rfl, rfl, rfl, by simp, fun k hk _ => (World.grownBy_alloc w.drew _ none).block k hk (by simp)⟩⟩
    · rw [List.length_append, hlen, hzc, hzl]; omega
    · rw [← hlen]; exact List.take_left
  have hcapf : ∀ old, old < n + m → ¬ (281474976710656 < Builtin.nextslicecap (n + m) old * i.bytes) := by
    intro old ho
    have := growslice_fits (bytes := i.bytes) ho (by have := Nat.mul_le_mul h63 hb; omega)
    omega
  rcases hown.2 with ⟨rfl, rfl⟩ | ⟨g, cap, cur, rfl, hbg, hg, hnc, hcm, hcs, htake⟩
  · have hx : xs = [] := List.eq_nil_of_length_eq_zero (by simpa using hown.1)
    subst hx
    have hgr := grown 0 (by omega) (Value.ownBlock (.slice none 0 0))
    refine ⟨_, _, ?_, hgr.1, hgr.2, .inr rfl⟩
    have hc0 := hcapf 0 (by omega)
    have h64 : ¬ ((9223372036854775807 : Int) < (m : Int)) := by omega
    simp only [Nat.zero_add] at hc0 h63' ⊢
    simp [Builtin.append_, run_underlying ht, run_underlying hti, sizeOf, typeInfo, hi, hz, hsize, ha, hw, h0', h48', h64, hc0, Question.forced, Builtin.firstCells, zeroValue, newRow, grownCap, hm0, hzca, Result.andThen]
    congr 2
    apply Array.ext'
    simp
  · by_cases hroom : n + m ≤ cap
    · have hfit : n + (List.replicate m z).length ≤ cur.toList.length := by rw [List.length_replicate, Array.length_toList, hcs]; omega
      have hg' : Blk w g e cur.toList := by simpa [Blk] using hg
      have hst := run_storeCells_at P g n e (List.replicate m z) 0 cur w hg (by simpa using hfit) (fun u hu => by rw [List.eq_of_mem_replicate hu]; exact hz1)
      simp only [Nat.add_zero] at hst
      refine ⟨.slice (some ⟨g, 0, none⟩) (n + m) cap, w.setRow g (spl cur.toList n (List.replicate m z)).toArray, ?_, own_of_blk (blk_setRow hg') hbg hroom hcm ?_ ?_, grown_setRow w g _, .inl rfl⟩
      · simp [Builtin.append_, run_underlying ht, run_underlying hti, sizeOf, typeInfo, hi, hz, hsize, ha, hw, h0', h48', hroom, zeroValue, hm0, hzca, Result.andThen, add_lit0, hst, spl]
      · rw [spl_len hfit, Array.length_toList, hcs]
      · rw [Nat.mul_one]
        have h1 : (cur.toList.take n) = xs := by simpa using htake
        unfold spl
        rw [h1]
        have h2 : (xs ++ List.replicate m z).length = n + m := by rw [hlen]; omega
        rw [← h2]
        exact List.take_left
    · have holds : ∀ j u, xs[j]? = some u → w.cell? ((⟨g, 0, none⟩ : Addr).add j) = some u := hown.cells (g := g) rfl
      have hfo := run_firstCells_some (P := P) w.drew 1 n ⟨g, 0, none⟩ n cap xs hown.1 (by simpa using holds)
      have hgr := grown cap (by omega) (Value.ownBlock (.slice (some ⟨g, 0, none⟩) n cap))
      refine ⟨_, _, ?_, hgr.1, hgr.2, .inr rfl⟩
      have hc0 := hcapf cap (by omega)
      simp [Builtin.append_, run_underlying ht, run_underlying hti, sizeOf, typeInfo, hi, hz, hsize, ha, hw, h0', h48', h63', hroom, hc0, Question.forced, hfo, zeroValue, newRow, grownCap, hm0, hzca, Result.andThen]
      congr 2
      apply Array.ext'
      simp
end
end Go.Proofs.YtomfcgeibbicoaaGreat
namespace Go.Proofs.YtomfcgeibbicoaaGreat
open Go.RowKit
/-- A text's bytes, as cells. -/
def bys (s : ByteArray) : List Value := s.data.toList.map fun b => .int .u8 (b.toNat : Int)
theorem noByte {s : ByteArray} : s.toList.isEmpty = decide (s.size = 0) := by
  rw [ByteArray.toList_eq, Bool.eq_iff_iff, List.isEmpty_iff, decide_eq_true_iff]
  constructor
  · intro h; have := congrArg List.length h; simpa using this
  · intro h; exact List.eq_nil_of_length_eq_zero (by simpa using h)
theorem bys_len (s : ByteArray) : (bys s).length = s.size := by unfold bys; rw [List.length_map]; exact Array.length_toList
theorem bys_app (a b : ByteArray) : bys (a ++ b) = bys a ++ bys b := by unfold bys; rw [ByteArray.data_append]; simp
theorem bys_one (s : ByteArray) : ∀ v ∈ bys s, v.oneCell' = true := by
  intro v hv
  obtain ⟨b, _, rfl⟩ := List.mem_map.1 hv
  rfl
/-- n zero bytes. -/
def zeroS (n : Nat) : ByteArray := ⟨(List.replicate n (0 : UInt8)).toArray⟩
theorem zeroS_size (n : Nat) : (zeroS n).size = n := by show (List.replicate n (0 : UInt8)).toArray.size = n; simp
theorem bys_zero (n : Nat) : bys (zeroS n) = List.replicate n (.int .u8 0) := by unfold bys zeroS; simp
section
variable {P : Program}
theorem run_copy_str (w : World) (dT sT ty elem : TypeId) (g o dLen dCap : Nat) (s : ByteArray) (cur : List Value) (t : TypeId)
    (hu : P.underlying dT = some (.slice elem)) (hs : (P.info? elem).map (·.size) = some 1) (hg : Blk w g t cur) (hn : s.size ≤ dLen) (hfit : o + s.size ≤ cur.length) :
    (Builtin.copy_ #[dT, sT] ty #[.slice (some ⟨g, o, none⟩) dLen dCap, .string s]).run P w = .ok (goInt s.size) (w.setRow g (spl cur o (bys s)).toArray) := by
  have hst := run_storeCells_at P g o t (bys s) 0 cur.toArray w hg (by rw [bys_len]; simpa using hfit) (bys_one s)
  have hmin : Nat.min s.size dLen = s.size := Nat.min_eq_left hn
  have hx : (s.extract 0 s.size) = s := by
    cases s with
    | mk d => simp
  have hf : (Builtin.firstCells 1 s.size (.string s)).run P w = .ok (bys s).toArray w := by
    simp only [Builtin.firstCells, hx, Sem.run_pure]
    congr 1
    apply Array.ext'
    simp [bys]
  cases hq : P.info? elem with
  | none => simp [hq] at hs
  | some i =>
    have hi : i.size = 1 := by simpa [hq] using hs
    simp only [Nat.add_zero] at hst
    simp [Builtin.copy_, run_underlying hu, Builtin.lenOf, sizeOf, typeInfo, hq, hi, hf, hst, spl, bys_len, hmin]
theorem wpList_copy_str {w : World} {ops : Array Oper} {rest : List Oper} {o : Oper} {a : Act} {Q : Exit → Act → World → Prop} (hgd : o.guard = none) (d s : Operand) (dT sT : TypeId) (ho : o.op = .call { callee := .builtin .copy, args := #[d, s], argTypes := #[dT, sT] }) (elem : TypeId) (g off dLen dCap : Nat) (x : ByteArray) (cur : List Value) (t : TypeId)
    (hu : P.underlying dT = some (.slice elem)) (hs : (P.info? elem).map (·.size) = some 1) (hd : a.eval d = .slice (some ⟨g, off, none⟩) dLen dCap) (hsv : a.eval s = .string x) (hg : Blk w g t cur) (hn : x.size ≤ dLen) (hfit : off + x.size ≤ cur.length)
    (K : ∀ w', Blk w' g t (spl cur off (bys x)) → w.grownBy w' (some g) → wpList P ops Q rest (a.put o.dst (goInt x.size)) w') : wpList P ops Q (o :: rest) a w :=
  wpList_val hgd (by have hrun := run_copy_str (P := P) w dT sT o.type elem g off dLen dCap x cur t hu hs hg hn hfit; simp [execOp, ho, resolve, invoke, builtin, hd, hsv, hrun, Result.andThen]) (K _ (blk_setRow hg) (grown_setRow w g _))
/-- Bytes, as a text. -/
theorem conv_bytes (w : World) (src dst e : TypeId) (hs : P.underlying src = some (.slice e)) (he : P.underlying e = some (.int .u8)) (hd : P.underlying dst = some .string) {base n : Nat} {v : Value} {s : ByteArray} (h : w.ownsRow base e 1 v n (bys s)) :
    (convert src dst v).run P w = .ok (.string s) w := by
  have key : ∀ (l : List UInt8) (r : ByteArray), (l.map fun b => (b.toNat : Int)).foldl (fun r n => r.push (UInt8.ofNat n.toNat)) r = ⟨(r.data.toList ++ l).toArray⟩ := by
    intro l
    induction l with
    | nil => intro r; cases r; simp
    | cons b l ih =>
      intro r
      rw [List.map_cons, List.foldl_cons, ih]
      have : (r.push (UInt8.ofNat ((b.toNat : Int)).toNat)).data = r.data.push b := by
        show r.data.push _ = _
        simp
      rw [this]
      simp
  have hv := own_blk h
  have hl := h.1
  rw [bys_len] at hl
  rcases hv with ⟨rfl, rfl, hb⟩ | ⟨g, cap, cur, rfl, _, hB, hnc, _, hcl, htk⟩
  · refine (run_convert_bytes_string (P := P) w src dst e none 0 0 hs he hd).trans ?_
    have hz : s.size = 0 := by omega
    have hs0 : s = ⟨#[]⟩ := by
      cases s with
      | mk d => congr 1; exact Array.eq_empty_of_size_eq_zero hz
    subst hs0
    rfl
  · refine (run_convert_bytes_string (P := P) w src dst e (some ⟨g, 0, none⟩) n cap hs he hd).trans ?_
    have hc : ∀ j u, (bys s)[j]? = some u → w.cell? ((⟨g, 0, none⟩ : Addr).add j) = some u := h.cells (g := g) rfl
    have hld := run_loadCells_list (P := P) w ⟨g, 0, none⟩ _ hc
    rw [bys_len] at hld
    have hmap : (s.data.toList.map fun b => (b.toNat : Int)).map (Value.int .u8) = bys s := by unfold bys; rw [List.map_map]; rfl
    have hsn : s.size = n := by omega
    refine (run_bytesToString w ⟨g, 0, none⟩ n cap (s.data.toList.map fun b => (b.toNat : Int)) (by rw [hmap, ← hsn]; exact hld)).trans ?_
    rw [key]
    congr 2
end
end Go.Proofs.YtomfcgeibbicoaaGreat
namespace Go.Proofs.YtomfcgeibbicoaaGreat
open Go.RowKit
theorem info_b1 : (Tryz.prog.info? 5).map (fun i => (i.zero, i.size, i.bytes)) = some (some (.int .u8 0), 1, 1) := by kernel_rfl
theorem info_bs : (Tryz.prog.info? 5).map (·.size) = some 1 := by kernel_rfl
/-- s laid to the k-th sector behind o. -/
def layS (o : ByteArray) (k : Nat) (s : ByteArray) : ByteArray := if s.size = 0 then o else o ++ zeroS (32 * k - o.size) ++ s
theorem app_u0 {w w0 : World} {ops : Array Oper} {rest : List Oper} {o : Oper} {a : Act} {Q : Exit → Act → World → Prop} (hgd : o.guard = none) (s x : Operand) (ho : o.op = .call { callee := .builtin .append, args := #[s, x], argTypes := #[201, 3] }) (base : Nat) (v : Value) (t : ByteArray) (hs : a.eval s = v) (hown : w.ownsRow base 5 1 v t.size (bys t))
    (m : Nat) (hm : 0 < m) (mm : Int) (hmm : mm = (m : Int)) (hx : a.eval x = .int .i64 mm) (hsm : t.size + m ≤ 1000000) (hbase : base ≤ w.heap.size) (hb : Below base w0 w)
    (h : ∀ v' w', w'.ownsRow base 5 1 v' (t.size + m) (bys (t ++ zeroS m)) → Below base w0 w' → wpList Tryz.prog ops Q rest (a.put o.dst v') w') : wpList Tryz.prog ops Q (o :: rest) a w := by
  subst hmm
  obtain ⟨i0, hi0, hz0, hz1, hz2⟩ := info_parts info_b1
  obtain ⟨v', w', hrun, h2, h3, h4⟩ := run_append_zeros_own (P := Tryz.prog) w base 201 3 o.type 5 i0 (.int .u8 0) 1 .i64 Tryz.underlying201 Tryz.underlying3 hi0 hz0 hz1 hz2 rfl rfl v t.size (bys t) hown m hm hsm (by decide) hbase
  refine wpList_val hgd (v := v') (w' := w') ?_ (h v' w' ?_ (below_append hb hown (Nat.le_refl _) hbase h3))
  · simp [execOp, ho, resolve, invoke, builtin, hs, hx, hrun, Result.andThen]
  · rw [bys_app, bys_zero]
    exact h2
set_option maxRecDepth 100000 in
set_option maxHeartbeats 1000000 in
theorem lay_calls (o s : ByteArray) (k : Nat) (v : Value) (base : Nat) (w : World) (hown : w.ownsRow base 5 1 v o.size (bys o)) (hbase : base ≤ w.heap.size) (ho : o.size ≤ 32 * k) (hk : 32 * k + s.size ≤ 900000) :
    Calls Tryz.prog 208 #[v, .int .i64 (k : Int), .string s] w fun e w' => ∃ v', e = .returned v' ∧ w'.ownsRow base 5 1 v' (layS o k s).size (bys (layS o k s)) ∧ Below base w w' := by
  have HO := Lib.hid hown
  clear hown
  by_cases hs : s.size = 0
  · have hs0 : s = ⟨#[]⟩ := by
      cases s with
      | mk d => congr 1; exact Array.eq_empty_of_size_eq_zero hs
    have HL : Hid (layS o k s = o) := by unfold layS; rw [if_pos hs]; exact rfl
    subst hs0
    go_enter Tryz.func208, Tryz.ntmps208
    go_wp2_with fail
    go_ret
    exact ⟨_, rfl, by rw [HL.out]; exact HO.out, Below.refl _ _⟩
  · have hs0 : ¬ s = ⟨#[]⟩ := by rintro rfl; exact hs rfl
    have d1 : s.toList.isEmpty = false := by rw [noByte]; exact decide_eq_false hs
    have HL : Hid (layS o k s = o ++ zeroS (32 * k - o.size) ++ s) := by unfold layS; rw [if_neg hs]; exact rfl
    have w1 : IntKind.i64.wrap ((k : Int) * 32) = (k : Int) * 32 := IntWalk.i64_in _ (by omega)
    have w2 : IntKind.i64.wrap ((k : Int) * 32 + (s.size : Int)) = (k : Int) * 32 + (s.size : Int) := IntWalk.i64_in _ (by omega)
    have w3 : IntKind.i64.wrap ((k : Int) * 32 + (s.size : Int) - (o.size : Int)) = (k : Int) * 32 + (s.size : Int) - (o.size : Int) := IntWalk.i64_in _ (by omega)
    have d2 : decide ((o.size : Int) < (k : Int) * 32 + (s.size : Int)) = true := decide_eq_true (by omega)
    obtain ⟨vA, hvA⟩ : ∃ A n c, v = .slice A n c ∧ n = o.size := by
      rcases own_blk HO.out with ⟨rfl, h2, _⟩ | ⟨g, cap, cur, rfl, _⟩
      · exact ⟨_, _, _, rfl, h2.symm⟩
      · exact ⟨_, _, _, rfl, rfl⟩
    obtain ⟨vn, vc, rfl, rfl⟩ := hvA
    have hz : ((k : Int) * 32).toNat = 32 * k := by omega
    have hm : 0 < 32 * k + s.size - o.size := by omega
    go_enter Tryz.func208, Tryz.ntmps208
    go_wp2_with (at_builtin; go_must (refine app_u0 rfl (.tmp 22) (.tmp 26) rfl base _ o rfl HO.out (32 * k + s.size - o.size) hm _ ?hmm rfl (by omega) hbase (Below.refl base w) ?hk1))
    case hmm => omega
    intro v2 wA hr2 hb2
    rw [show o.size + (32 * k + s.size - o.size) = 32 * k + s.size by omega] at hr2
    rcases own_blk hr2 with ⟨_, h0, _⟩ | ⟨g, cap, cur, rfl, hbg, hB, hnc, hcm, hcl, htk⟩
    · omega
    have HB := Lib.hid hB
    have HB2 := Lib.hid hb2
    have HT := Lib.hid htk
    have hbA : base ≤ wA.heap.size := Nat.le_trans hbase hb2.size
    clear hr2 hb2 hB htk
    have hfit : 32 * k + s.size ≤ cur.length := by omega
    have hcp := run_copy_str (P := Tryz.prog) wA 201 9 3 5 g (32 * k) s.size (cap - 32 * k) s cur 5 Tryz.underlying201 info_bs HB.out (Nat.le_refl _) hfit
    have HR := Lib.hid (blk_setRow (new := spl cur (32 * k) (bys s)) HB.out)
    have HX := Lib.hid (below_store (B := base) HB2.out hbg hbA (grown_setRow wA g (spl cur (32 * k) (bys s)).toArray))
    go_wp2_with fail
    go_ret
    refine ⟨_, rfl, ?_, HX.out⟩
    rw [HL.out]
    have hsz : (o ++ zeroS (32 * k - o.size) ++ s).size = 32 * k + s.size := by rw [ByteArray.size_append, ByteArray.size_append, zeroS_size]; omega
    rw [hsz]
    refine own_of_blk HR.out hbg hnc hcm (by rw [spl_len (by rw [bys_len]; omega)]; exact hcl) ?_
    have h1 : cur.take (32 * k) = bys (o ++ zeroS (32 * k - o.size)) := by
      have h2 := congrArg (List.take (32 * k)) HT.out
      rw [List.take_take, Nat.mul_one, Nat.min_eq_left (by omega), bys_app, bys_zero, List.take_append, bys_len, List.take_of_length_le (l := bys o) (by rw [bys_len]; omega), List.take_replicate, Nat.min_eq_left (by omega)] at h2
      rw [h2, bys_app, bys_zero]
    rw [Nat.mul_one, bys_app]
    unfold spl
    rw [h1]
    have h3 : (bys (o ++ zeroS (32 * k - o.size)) ++ bys s).length = 32 * k + s.size := by rw [List.length_append, bys_len, bys_len, ByteArray.size_append, zeroS_size]; omega
    rw [← h3]
    exact List.take_left
/-- The choice of a place. -/
def chS (c : ByteArray) (i : Nat) : Nat := if c.size ≤ i then 0 else byteAt c i % 3
theorem choose_calls (c : ByteArray) (i : Nat) (w : World)  : Calls Tryz.prog 209 #[.string c, .int .i64 (i : Int)] w fun e w' => e = .returned (.int .i64 (chS c i : Int)) ∧ Ex w w' := by
  by_cases h : c.size ≤ i
  · have d1 : decide ((c.size : Int) ≤ (i : Int)) = true := decide_eq_true (by omega)
    have hz : chS c i = 0 := by unfold chS; rw [if_pos h]
    rw [hz]
    go_enter Tryz.func209, Tryz.ntmps209
    go_wp2_with fail
    go_ret
    exact ⟨rfl, Ex.refl _⟩
  · have d1 : decide ((c.size : Int) ≤ (i : Int)) = false := decide_eq_false (by omega)
    have hb : byteAt c i = c[i].toNat := by unfold byteAt; rw [dif_pos (by omega)]
    have hlt : c[i].toNat < 256 := c[i].toNat_lt
    have hw : wrap64 (c[i].toNat : Int) = (c[i].toNat : Int) := IntWalk.wrap64_in _ (by omega)
    have hz : Int.tmod (c[i].toNat : Int) 3 = (chS c i : Int) := by
      unfold chS
      rw [if_neg h, hb, Int.tmod_eq_emod_of_nonneg (by omega)]
      omega
    go_enter Tryz.func209, Tryz.ntmps209
    go_wp2_with fail
    go_ret
    exact ⟨rfl, Ex.refl _⟩
end Go.Proofs.YtomfcgeibbicoaaGreat
namespace Go.Proofs.YtomfcgeibbicoaaGreat
open Go.RowKit
theorem info_i1 : (Tryz.prog.info? 3).map (fun i => (i.zero, i.size, i.bytes)) = some (some (.int .i64 0), 1, 8) := by kernel_rfl
def nats (l : List Nat) : List Value := l.map fun (n : Nat) => .int .i64 (n : Int)
theorem nats_len (l : List Nat) : (nats l).length = l.length := List.length_map ..
theorem nats_one (l : List Nat) : ∀ u ∈ nats l, u.oneCell' = true := by
  intro u hu
  obtain ⟨x, _, rfl⟩ := List.mem_map.1 hu
  rfl
theorem nats_app (l l' : List Nat) : nats (l ++ l') = nats l ++ nats l' := List.map_append
theorem app_nat {w w0 : World} {ops : Array Oper} {rest : List Oper} {o : Oper} {a : Act} {Q : Exit → Act → World → Prop} (hgd : o.guard = none) (s x : Operand) (ho : o.op = .call { callee := .builtin .append, args := #[s, x], argTypes := #[149, 149] }) (base : Nat) (v : Value) (n : Nat) (l : List Value) (hs : a.eval s = v) (hown : w.ownsRow base 3 1 v n l)
    (A : Option Addr) (m c : Nat) (l' : List Value) (hx : a.eval x = .slice A m c) (hr : Row w 1 A m l') (h1 : ∀ u ∈ l', u.oneCell' = true) (hsm : n + m ≤ 1000000) (hbase : base ≤ w.heap.size) (hb : Below base w0 w)
    (h : ∀ v' w', w'.ownsRow base 3 1 v' (n + m) (l ++ l') → Below base w0 w' → w.grownBy w' v.ownBlock → (v'.ownBlock = v.ownBlock ∨ v'.ownBlock = some w.heap.size) → wpList Tryz.prog ops Q rest (a.put o.dst v') w') : wpList Tryz.prog ops Q (o :: rest) a w := by
  obtain ⟨i0, hi0, hz0, hz1, hz2⟩ := info_parts info_i1
  refine wpList_append_row w hgd s x _ ho base _ i0 _ 1 8 Tryz.underlying149 hi0 hz0 hz1 hz2 rfl (by decide) v n l hs hown A m c l' hx hr h1 (by unfold maxLen; omega) (by omega) hbase ?_
  intro v' w' h1 h2 h3
  exact h v' w' h1 (below_append hb hown (Nat.le_refl _) hbase h2) h2 h3
theorem row_lit1 (w : World) (cs : List Value) (t : TypeId) : Row (w.alloc (.cells cs.toArray t)) 1 (some ⟨w.heap.size, 0, none⟩) cs.length cs := by
  refine ⟨by omega, fun _ => ⟨_, 0, rfl, fun j u hu => ?_⟩⟩
  rw [(Blk.new w cs t).cell, Nat.zero_add, hu]
/-- Is the k-th sector unlike? -/
def unS (a b : ByteArray) (k : Nat) : Bool := !decide (secS a k = secS b k)
def unlikeS (a b : ByteArray) : List Nat := (List.range (cntS (max a.size b.size))).filter (unS a b)
theorem own_ex' {w w' : World} {base k n : Nat} {e : TypeId} {v : Value} {cs : List Value} (h : w.ownsRow base e k v n cs) (hb : Ex w w') : w'.ownsRow base e k v n cs := by
  rcases own_blk h with ⟨rfl, rfl, rfl⟩ | ⟨g, cap, cur, rfl, h1, h2, h3, h4, h5, h6⟩
  · exact World.ownsRow_nil _ _ _ _
  · exact own_of_blk (h2.ex hb) h1 h3 h4 h5 h6
set_option maxRecDepth 100000 in
set_option maxHeartbeats 1000000 in
theorem unlike_calls (a b : ByteArray) (w : World) (ha : a.size ≤ 900000) (hb' : b.size ≤ 900000) :
    Calls Tryz.prog 206 #[.string a, .string b] w fun e w' => ∃ v, e = .returned v ∧ w'.ownsRow w.heap.size 3 1 v (unlikeS a b).length (nats (unlikeS a b)) ∧ Ex w w' := by
  rcases Nat.lt_or_ge a.size b.size with h | h
  · have hM : max a.size b.size = b.size := by omega
    have hN : cntS (max a.size b.size) = cntS b.size := by rw [hM]
    obtain ⟨N, hNN⟩ : ∃ N, N = cntS b.size := ⟨_, rfl⟩
    have hNb : N ≤ 30000 := by rw [hNN]; unfold cntS; omega
    have HN := Lib.hid (hN.trans hNN.symm)
    have HP := Lib.hid (fun w => hNN ▸ pcount_calls b.size w (by omega))
    have c0 : a.size < b.size := by omega
    clear hM hN hNN h
    go_enter Tryz.func206, Tryz.ntmps206
    go_wp2_with fail
    refine (HP.out _).mono ?_
    rintro e w1 ⟨rfl, hb1⟩
    go_wp2_with fail
    go_loopw [5, 13] (fun v5 v13 wr => ∃ k : Nat, k ≤ N ∧ v13 = .int .i64 (k : Int) ∧ wr.ownsRow w.heap.size 3 1 v5 ((List.range k).filter (unS a b)).length (nats ((List.range k).filter (unS a b))) ∧ Ex w wr) (fun _ v13 _ => N - (intOf v13).toNat)
    case atStart => exact ⟨0, by omega, rfl, World.ownsRow_nil _ _ _ _, hb1⟩
    case round =>
      obtain ⟨k, hk, rfl, hr, hb⟩ := hrel
      have HR := Lib.hid hr
      have HX := Lib.hid hb
      clear hr hb hb1
      by_cases hlt : k < N
      · go_wp2_with fail
        refine (pslice_calls a k _ (by omega)).mono ?_
        rintro e w2 ⟨rfl, hb2⟩
        have HX2 := Lib.hid (HX.out.trans hb2)
        have HR2 := Lib.hid (own_ex' HR.out hb2)
        clear hb2
        go_wp2_with fail
        refine (pslice_calls b k _ (by omega)).mono ?_
        rintro e w3 ⟨rfl, hb3⟩
        have HX3 := Lib.hid (HX2.out.trans hb3)
        have HR3 := Lib.hid (own_ex' HR2.out hb3)
        clear hb3
        have hsz3 : w.heap.size ≤ w3.heap.size := HX3.out.size
        by_cases hxy : secS a k = secS b k
        · have HF : Hid ((List.range (k + 1)).filter (unS a b) = (List.range k).filter (unS a b)) := by
            rw [List.range_succ, List.filter_append, List.filter_cons_of_neg (by unfold unS; rw [decide_eq_true hxy]; decide)]
            exact List.append_nil _
          rw [hxy]
          generalize secS b k = y
          clear hxy
          go_wp2_with fail
          exact ⟨⟨k + 1, by omega, by go_num, by rw [HF.out]; exact HR3.out, HX3.out⟩, by simp [intOf]; omega⟩
        · have HF : Hid ((List.range (k + 1)).filter (unS a b) = (List.range k).filter (unS a b) ++ [k]) := by
            rw [List.range_succ, List.filter_append, List.filter_cons_of_pos (by unfold unS; rw [decide_eq_false hxy]; decide)]
            exact rfl
          have hne : ((secS a k).toList == (secS b k).toList) = false := by
            rw [beq_eq_false_iff_ne]; intro h; exact hxy (ba_data (by rw [ByteArray.toList_eq, ByteArray.toList_eq] at h; exact Array.ext' h))
          have hLl : ((List.range k).filter (unS a b)).length ≤ k := by have := List.length_filter_le (unS a b) (List.range k); rwa [List.length_range] at this
          generalize hL : (List.range k).filter (unS a b) = L at *
          generalize secS b k = y at *
          generalize secS a k = x at *
          clear hxy
          go_wp2_with (at_builtin; go_must (refine app_nat rfl (.tmp 23) (.tmp 25) rfl w.heap.size u5 L.length (nats L) rfl (own_ex' HR3.out (ex_alloc (Ex.refl _) _)) (some ⟨w3.heap.size, 0, none⟩) 1 1 (nats [k]) rfl (row_lit1 w3 (nats [k]) 3) (nats_one _) (by omega) (by simp; omega) (ex_alloc HX3.out _) ?_; intro v4 w4 hr4 hb4 _ _; have HR4 := Lib.hid hr4; have HX4 := Lib.hid hb4; clear hr4 hb4))
          exact ⟨⟨k + 1, by omega, by go_num, by rw [HF.out, List.length_append, nats_app]; exact HR4.out, HX4.out⟩, by simp [intOf]; omega⟩
      · have hkN : k = N := by omega
        subst hkN
        go_wp2_with fail
        go_ret
        refine ⟨_, rfl, ?_, HX.out⟩
        unfold unlikeS
        rw [HN.out]
        exact HR.out
  · have hM : max a.size b.size = a.size := by omega
    have hN : cntS (max a.size b.size) = cntS a.size := by rw [hM]
    obtain ⟨N, hNN⟩ : ∃ N, N = cntS a.size := ⟨_, rfl⟩
    have hNb : N ≤ 30000 := by rw [hNN]; unfold cntS; omega
    have HN := Lib.hid (hN.trans hNN.symm)
    have HP := Lib.hid (fun w => hNN ▸ pcount_calls a.size w (by omega))
    have c0 : ¬ a.size < b.size := by omega
    clear hM hN hNN h
    go_enter Tryz.func206, Tryz.ntmps206
    go_wp2_with fail
    refine (HP.out _).mono ?_
    rintro e w1 ⟨rfl, hb1⟩
    go_wp2_with fail
    go_loopw [5, 13] (fun v5 v13 wr => ∃ k : Nat, k ≤ N ∧ v13 = .int .i64 (k : Int) ∧ wr.ownsRow w.heap.size 3 1 v5 ((List.range k).filter (unS a b)).length (nats ((List.range k).filter (unS a b))) ∧ Ex w wr) (fun _ v13 _ => N - (intOf v13).toNat)
    case atStart => exact ⟨0, by omega, rfl, World.ownsRow_nil _ _ _ _, hb1⟩
    case round =>
      obtain ⟨k, hk, rfl, hr, hb⟩ := hrel
      have HR := Lib.hid hr
      have HX := Lib.hid hb
      clear hr hb hb1
      by_cases hlt : k < N
      · go_wp2_with fail
        refine (pslice_calls a k _ (by omega)).mono ?_
        rintro e w2 ⟨rfl, hb2⟩
        have HX2 := Lib.hid (HX.out.trans hb2)
        have HR2 := Lib.hid (own_ex' HR.out hb2)
        clear hb2
        go_wp2_with fail
        refine (pslice_calls b k _ (by omega)).mono ?_
        rintro e w3 ⟨rfl, hb3⟩
        have HX3 := Lib.hid (HX2.out.trans hb3)
        have HR3 := Lib.hid (own_ex' HR2.out hb3)
        clear hb3
        have hsz3 : w.heap.size ≤ w3.heap.size := HX3.out.size
        by_cases hxy : secS a k = secS b k
        · have HF : Hid ((List.range (k + 1)).filter (unS a b) = (List.range k).filter (unS a b)) := by
            rw [List.range_succ, List.filter_append, List.filter_cons_of_neg (by unfold unS; rw [decide_eq_true hxy]; decide)]
            exact List.append_nil _
          rw [hxy]
          generalize secS b k = y
          clear hxy
          go_wp2_with fail
          exact ⟨⟨k + 1, by omega, by go_num, by rw [HF.out]; exact HR3.out, HX3.out⟩, by simp [intOf]; omega⟩
        · have HF : Hid ((List.range (k + 1)).filter (unS a b) = (List.range k).filter (unS a b) ++ [k]) := by
            rw [List.range_succ, List.filter_append, List.filter_cons_of_pos (by unfold unS; rw [decide_eq_false hxy]; decide)]
            exact rfl
          have hne : ((secS a k).toList == (secS b k).toList) = false := by
            rw [beq_eq_false_iff_ne]; intro h; exact hxy (ba_data (by rw [ByteArray.toList_eq, ByteArray.toList_eq] at h; exact Array.ext' h))
          have hLl : ((List.range k).filter (unS a b)).length ≤ k := by have := List.length_filter_le (unS a b) (List.range k); rwa [List.length_range] at this
          generalize hL : (List.range k).filter (unS a b) = L at *
          generalize secS b k = y at *
          generalize secS a k = x at *
          clear hxy
          go_wp2_with (at_builtin; go_must (refine app_nat rfl (.tmp 23) (.tmp 25) rfl w.heap.size u5 L.length (nats L) rfl (own_ex' HR3.out (ex_alloc (Ex.refl _) _)) (some ⟨w3.heap.size, 0, none⟩) 1 1 (nats [k]) rfl (row_lit1 w3 (nats [k]) 3) (nats_one _) (by omega) (by simp; omega) (ex_alloc HX3.out _) ?_; intro v4 w4 hr4 hb4 _ _; have HR4 := Lib.hid hr4; have HX4 := Lib.hid hb4; clear hr4 hb4))
          exact ⟨⟨k + 1, by omega, by go_num, by rw [HF.out, List.length_append, nats_app]; exact HR4.out, HX4.out⟩, by simp [intOf]; omega⟩
      · have hkN : k = N := by omega
        subst hkN
        go_wp2_with fail
        go_ret
        refine ⟨_, rfl, ?_, HX.out⟩
        unfold unlikeS
        rw [HN.out]
        exact HR.out
end Go.Proofs.YtomfcgeibbicoaaGreat
namespace Go.Proofs.YtomfcgeibbicoaaGreat
open Go.RowKit
/-- What is laid where a sector is unlike. -/
def pickS (old now ch : ByteArray) (u k : Nat) : ByteArray := if chS ch u = 1 then secS now k else if chS ch u = 2 then zeroS (secS now k).size else secS old k
def mixStep (old now ch : ByteArray) (st : ByteArray × Nat) (k : Nat) : ByteArray × Nat :=
  if unS old now k = true then (layS st.1 k (pickS old now ch st.2 k), st.2 + 1) else (layS st.1 k (secS old k), st.2)
def mixTo (old now ch : ByteArray) (k : Nat) : ByteArray × Nat := (List.range k).foldl (mixStep old now ch) (⟨#[]⟩, 0)
/-- What is left when the power goes, and how many sectors were unlike. -/
def mixS (old now ch : ByteArray) : ByteArray × Nat := mixTo old now ch (cntS (max old.size now.size))
theorem mixTo_succ (old now ch : ByteArray) (k : Nat) : mixTo old now ch (k + 1) = mixStep old now ch (mixTo old now ch k) k := by
  unfold mixTo
  rw [List.range_succ, List.foldl_append]
  rfl
theorem sec_size (s : ByteArray) (k : Nat) : (secS s k).size ≤ 32 := by unfold secS; rw [ByteArray.size_extract]; omega
theorem pick_size (old now ch : ByteArray) (u k : Nat) : (pickS old now ch u k).size ≤ 32 := by
  unfold pickS
  split
  · exact sec_size _ _
  · split
    · rw [zeroS_size]; exact sec_size _ _
    · exact sec_size _ _
theorem lay_size {o s : ByteArray} {k : Nat} (h : o.size ≤ 32 * k) (hs : s.size ≤ 32) : (layS o k s).size ≤ 32 * (k + 1) := by
  unfold layS
  split
  · omega
  · rw [ByteArray.size_append, ByteArray.size_append, zeroS_size]; omega
theorem mixTo_size (old now ch : ByteArray) (k : Nat) : (mixTo old now ch k).1.size ≤ 32 * k := by
  induction k with
  | zero => exact Nat.le_refl _
  | succ k ih =>
    rw [mixTo_succ]
    unfold mixStep
    split
    · exact lay_size ih (pick_size _ _ _ _ _)
    · exact lay_size ih (sec_size _ _)
theorem mixTo_used (old now ch : ByteArray) (k : Nat) : (mixTo old now ch k).2 = ((List.range k).filter (unS old now)).length := by
  induction k with
  | zero => rfl
  | succ k ih =>
    rw [mixTo_succ, List.range_succ, List.filter_append, List.length_append, ← ih]
    unfold mixStep
    split
    · rename_i h; rw [List.filter_cons_of_pos h]; rfl
    · rename_i h; rw [List.filter_cons_of_neg h]; rfl
theorem un_split (p : Nat → Bool) {k N : Nat} (h : k < N) : ((List.range N).filter p)[((List.range k).filter p).length]? = (((List.range (N - k)).map (k + ·)).filter p)[0]? := by
  rw [show List.range N = List.range k ++ (List.range (N - k)).map (k + ·) by rw [← List.range_add]; congr 1; omega, List.filter_append, List.getElem?_append_right (Nat.le_refl _), Nat.sub_self]
theorem un_pos {p : Nat → Bool} {k N : Nat} (h : k < N) (hp : p k = true) : ((List.range N).filter p)[((List.range k).filter p).length]? = some k := by
  rw [un_split p h]
  obtain ⟨j, hj⟩ : ∃ j, N - k = j + 1 := ⟨N - k - 1, by omega⟩
  rw [hj, List.range_succ_eq_map, List.map_cons, Nat.add_zero, List.filter_cons_of_pos hp]
  rfl
theorem un_neg {p : Nat → Bool} {k N m : Nat} (h : k < N) (hp : p k = false) (hm : ((List.range N).filter p)[((List.range k).filter p).length]? = some m) : m ≠ k := by
  rintro rfl
  have := List.mem_of_getElem? hm
  rw [List.mem_filter] at this
  rw [hp] at this
  cases this.2
end Go.Proofs.YtomfcgeibbicoaaGreat
namespace Go.Proofs.YtomfcgeibbicoaaGreat
open Go.RowKit
theorem row_at {w : World} {A : Option Addr} {n : Nat} {cs : List Value} (h : Row w 1 A n cs) {k : Nat} {v : Value} (hk : cs[k]? = some v) : ∃ b o, A = some ⟨b, o, none⟩ ∧ w.cell? ⟨b, o + k, none⟩ = some v := by
  have hl := (List.getElem?_eq_some_iff.1 hk).1
  rw [h.1] at hl
  obtain ⟨b, o, e, hc⟩ := h.2 (by omega)
  exact ⟨b, o, e, hc k _ hk⟩
/-- make([]byte, n), and that as a text. -/
theorem make_bytes (w : World) (n : Nat) (hn : n ≤ 900000) : (Instr.makeSlice 201 (.int .i64 (n : Int)) (.int .i64 (n : Int))).run Tryz.prog w = .ok (.slice (some ⟨w.heap.size, 0, none⟩) n n) (w.alloc (.cells (bys (zeroS n)).toArray 5)) := by
  obtain ⟨i0, hi0, hz0, hz1, hz2⟩ := info_parts info_b1
  have := run_make (P := Tryz.prog) w 201 5 i0 (.int .u8 0) Tryz.underlying201 hi0 hz0 .i64 .i64 (n : Int) (n : Int) (by omega) (Int.le_refl _) (by rw [hz2]; omega) (by omega)
  rw [Int.toNat_natCast, hz1, Nat.mul_one] at this
  rw [this]
  have e : (madeCells (Value.int .u8 0).cells n) = (bys (zeroS n)).toArray := by
    rw [bys_zero]
    apply Array.ext'
    apply List.ext_getElem?
    intro i
    by_cases h : i < n
    · simp [madeCells, Value.cells, h, Nat.mod_one]
    · simp [madeCells, Value.cells, h, Nat.mod_one]
  rw [e]
theorem conv_made (w : World) (n : Nat) (hn : n ≤ 900000) : (convert 201 9 (.slice (some ⟨w.heap.size, 0, none⟩) n n)).run Tryz.prog (w.alloc (.cells (bys (zeroS n)).toArray 5)) = .ok (.string (zeroS n)) (w.alloc (.cells (bys (zeroS n)).toArray 5)) :=
  conv_bytes _ 201 9 5 Tryz.underlying201 Tryz.underlying5 Tryz.underlying9 (base := 0) (n := n) (own_of_blk (Blk.new w (bys (zeroS n)) 5) (Nat.zero_le _) (Nat.le_refl _) (by unfold maxLen; omega) (by rw [bys_len, zeroS_size]; omega) (by rw [List.take_of_length_le (by rw [bys_len, zeroS_size]; omega)]))
set_option maxRecDepth 100000 in
set_option maxHeartbeats 4000000 in
theorem pmix_calls (old now ch : ByteArray) (w : World) (h1 : old.size ≤ 800000) (h2 : now.size ≤ 800000) :
    Calls Tryz.prog 163 #[.string old, .string now, .string ch] w fun e w' => e = .returned (.tuple #[.string (mixS old now ch).1, .int .i64 ((mixS old now ch).2 : Int)]) ∧ Ex w w' := by
  rcases Nat.lt_or_ge old.size now.size with h | h
  · have hM : max old.size now.size = now.size := by omega
    have hN : cntS (max old.size now.size) = cntS now.size := by rw [hM]
    obtain ⟨N, hNN⟩ : ∃ N, N = cntS now.size := ⟨_, rfl⟩
    have hNb : N ≤ 25000 := by rw [hNN]; unfold cntS; omega
    have HN := Lib.hid (hN.trans hNN.symm)
    have HP := Lib.hid (fun w => hNN ▸ pcount_calls now.size w (by omega))
    have c0 : old.size < now.size := by omega
    obtain ⟨U, hU⟩ : ∃ U, U = unlikeS old now := ⟨_, rfl⟩
    have HU := Lib.hid (show U = (List.range N).filter (unS old now) by rw [hU]; unfold unlikeS; rw [HN.out])
    have HC := Lib.hid (fun w => hU ▸ unlike_calls old now w (by omega) (by omega))
    have hUl : U.length ≤ N := by rw [HU.out]; have := List.length_filter_le (unS old now) (List.range N); rwa [List.length_range] at this
    clear hM hN hNN h hU
    go_enter Tryz.func163, Tryz.ntmps163
    go_wp2_with fail
    go_step3
    go_wp2_with fail
    refine (HC.out _).mono ?_
    rintro e w1 ⟨vU, rfl, hrU, hb1⟩
    obtain ⟨AU, cU, rfl⟩ : ∃ A c, vU = .slice A U.length c := by
      rcases own_blk hrU with ⟨rfl, hz, _⟩ | ⟨g, cap, cur, rfl, _⟩
      · exact ⟨_, _, by rw [hz]⟩
      · exact ⟨_, _, rfl⟩
    have HRU := Lib.hid (Row.of_own hrU)
    have HB1 := Lib.hid hb1
    clear hrU hb1
    go_wp2_with fail
    go_step3
    go_wp2_with fail
    refine (HP.out _).mono ?_
    rintro e w2 ⟨rfl, hb2⟩
    have HB2 := Lib.hid hb2
    clear hb2
    go_wp2_with fail
    go_loopw [9, 10, 24] (fun v9 v10 v24 wr => ∃ k : Nat, k ≤ N ∧ v24 = .int .i64 (k : Int) ∧ v10 = .int .i64 ((mixTo old now ch k).2 : Int) ∧ wr.ownsRow w2.heap.size 5 1 v9 (mixTo old now ch k).1.size (bys (mixTo old now ch k).1) ∧ Ex w2 wr) (fun _ _ v24 _ => N - (intOf v24).toNat)
    case atStart => exact ⟨0, by omega, rfl, rfl, World.ownsRow_nil _ _ _ _, Ex.refl _⟩
    case round =>
      obtain ⟨k, hk, rfl, rfl, hr, hb⟩ := hrel
      have HR := Lib.hid hr
      have HX := Lib.hid hb
      have hsz := mixTo_size old now ch k
      have hus := mixTo_used old now ch k
      have HS := Lib.hid (mixTo_succ old now ch k)
      have hul : (mixTo old now ch k).2 ≤ k := by rw [hus]; have := List.length_filter_le (unS old now) (List.range k); rwa [List.length_range] at this
      have HUS := Lib.hid hus
      obtain ⟨O, hO⟩ : ∃ O, O = (mixTo old now ch k).1 := ⟨_, rfl⟩
      obtain ⟨u, hu⟩ : ∃ u, u = (mixTo old now ch k).2 := ⟨_, rfl⟩
      have HE := Lib.hid (show mixTo old now ch k = (O, u) by rw [hO, hu])
      rw [← hO] at hr hsz
      rw [← hu] at hul hus ⊢
      have HR := Lib.hid hr
      have HUS := Lib.hid hus
      clear hr hb hus hu hO
      by_cases hlt : k < N
      · have HPK := Lib.hid (pick_size old now ch u k)
        have HSO := Lib.hid (sec_size old k)
        have HSN := Lib.hid (sec_size now k)
        go_wp2_with fail
        refine (pslice_calls old k _ (by omega)).mono ?_
        rintro e w3 ⟨rfl, hb3⟩
        have HX3 := Lib.hid (HX.out.trans hb3)
        have HR3 := Lib.hid (own_ex' HR.out hb3)
        clear hb3
        go_wp2_with fail
        refine (pslice_calls now k _ (by omega)).mono ?_
        rintro e w4 ⟨rfl, hb4⟩
        have HX4 := Lib.hid (HX3.out.trans hb4)
        have HR4 := Lib.hid (own_ex' HR3.out hb4)
        have hb24 := HX4.out.size
        clear hb4
        cases hun : unS old now k
        · have HRU4 := Lib.hid (HRU.out.ex (HB2.out.trans HX4.out))
          by_cases hul2 : U.length ≤ u
          · have d1 : decide ((U.length : Int) ≤ (u : Int)) = true := decide_eq_true (by omega)
            go_wp2_with fail
            refine (lay_calls O (secS old k) k u9 w2.heap.size _ HR4.out hb24 hsz (by have := HSO.out; have := HSN.out; have := HPK.out; (try rw [zeroS_size]); omega)).mono ?_
            rintro e w5 ⟨v5, rfl, hr5, hb5⟩
            have HR5 := Lib.hid hr5
            have HX5 := Lib.hid (Below.trans HX4.out hb5)
            have HF : Hid (mixTo old now ch (k + 1) = (layS O k (secS old k), u)) := by
              rw [HS.out, HE.out]; unfold mixStep; rw [if_neg (by rw [hun]; decide)]; exact rfl
            clear hr5 hb5
            go_wp2_with fail
            exact ⟨⟨k + 1, by omega, by go_num, by first | (rw [HF.out]; done) | (rw [HF.out]; go_num), by rw [HF.out]; exact HR5.out, HX5.out⟩, by simp [intOf]; omega⟩
          · have d1 : decide ((U.length : Int) ≤ (u : Int)) = false := decide_eq_false (by omega)
            obtain ⟨m, hm⟩ : ∃ m, U[u]? = some m := ⟨_, List.getElem?_eq_getElem (by omega)⟩
            have hmk : m ≠ k := by have h3 := hm; rw [HU.out, HUS.out] at h3; exact un_neg hlt hun h3
            have d2 : decide ((m : Int) = (k : Int)) = false := decide_eq_false (by omega)
            obtain ⟨b, o, rfl, hcell⟩ := row_at HRU4.out (k := u) (v := .int .i64 (m : Int)) (by unfold nats; rw [List.getElem?_map, hm]; exact rfl)
            clear hm
            have hlu : (u : Int) < (U.length : Int) := by omega
            go_wp2_with fail
            refine (lay_calls O (secS old k) k u9 w2.heap.size _ HR4.out hb24 hsz (by have := HSO.out; have := HSN.out; have := HPK.out; (try rw [zeroS_size]); omega)).mono ?_
            rintro e w5 ⟨v5, rfl, hr5, hb5⟩
            have HR5 := Lib.hid hr5
            have HX5 := Lib.hid (Below.trans HX4.out hb5)
            have HF : Hid (mixTo old now ch (k + 1) = (layS O k (secS old k), u)) := by
              rw [HS.out, HE.out]; unfold mixStep; rw [if_neg (by rw [hun]; decide)]; exact rfl
            clear hr5 hb5
            go_wp2_with fail
            exact ⟨⟨k + 1, by omega, by go_num, by first | (rw [HF.out]; done) | (rw [HF.out]; go_num), by rw [HF.out]; exact HR5.out, HX5.out⟩, by simp [intOf]; omega⟩
        · have HRU4 := Lib.hid (HRU.out.ex (HB2.out.trans HX4.out))
          have hm : U[u]? = some k := by rw [HU.out, HUS.out]; exact un_pos hlt hun
          have hul2 : u < U.length := (List.getElem?_eq_some_iff.1 hm).1
          have d1 : decide ((U.length : Int) ≤ (u : Int)) = false := decide_eq_false (by omega)
          obtain ⟨b, o, rfl, hcell⟩ := row_at HRU4.out (k := u) (v := .int .i64 (k : Int)) (by unfold nats; rw [List.getElem?_map, hm]; exact rfl)
          clear hm
          have hlu : (u : Int) < (U.length : Int) := by omega
          go_wp2_with fail
          refine (choose_calls ch u _).mono ?_
          rintro e w5 ⟨rfl, hb5⟩
          have HX5' := Lib.hid (HX4.out.trans hb5)
          have HR5' := Lib.hid (own_ex' HR4.out hb5)
          have hb25 := HX5'.out.size
          clear hb5
          by_cases hc1 : chS ch u = 1
          · have HPS : Hid (pickS old now ch u k = secS now k) := by unfold pickS; rw [if_pos hc1]; exact rfl
            rw [hc1]
            go_wp2_with fail
            refine (lay_calls O (secS now k) k u9 w2.heap.size _ HR5'.out hb25 hsz (by have := HSO.out; have := HSN.out; have := HPK.out; (try rw [zeroS_size]); omega)).mono ?_
            rintro e w6 ⟨v5, rfl, hr5, hb5⟩
            have HR5 := Lib.hid hr5
            have HX5 := Lib.hid (Below.trans HX5'.out hb5)
            have HF : Hid (mixTo old now ch (k + 1) = (layS O k (secS now k), u + 1)) := by
              rw [HS.out, HE.out]; unfold mixStep; rw [if_pos hun]; show ((layS O k (pickS old now ch u k), u + 1) : ByteArray × Nat) = _; rw [HPS.out]
            clear hr5 hb5
            go_wp2_with fail
            exact ⟨⟨k + 1, by omega, by go_num, by first | (rw [HF.out]; done) | (rw [HF.out]; go_num), by rw [HF.out]; exact HR5.out, HX5.out⟩, by simp [intOf]; omega⟩
          · by_cases hc2 : chS ch u = 2
            · have HPS : Hid (pickS old now ch u k = zeroS (secS now k).size) := by unfold pickS; rw [if_neg hc1, if_pos hc2]; exact rfl
              have hsn := HSN.out
              have hmk := fun w => make_bytes w (secS now k).size (by omega)
              have hcv := conv_made w5 (secS now k).size (by omega)
              have HX6 := Lib.hid (ex_alloc HX5'.out (.cells (bys (zeroS (secS now k).size)).toArray 5))
              have HR6 := Lib.hid (own_ex' HR5'.out (ex_alloc (Ex.refl _) (.cells (bys (zeroS (secS now k).size)).toArray 5)))
              have hb26 := HX6.out.size
              rw [hc2]
              go_wp2_with fail
              refine (lay_calls O (zeroS (secS now k).size) k u9 w2.heap.size _ HR6.out hb26 hsz (by have := HSO.out; have := HSN.out; have := HPK.out; (try rw [zeroS_size]); omega)).mono ?_
              rintro e w6 ⟨v5, rfl, hr5, hb5⟩
              have HR5 := Lib.hid hr5
              have HX5 := Lib.hid (Below.trans HX6.out hb5)
              have HF : Hid (mixTo old now ch (k + 1) = (layS O k (zeroS (secS now k).size), u + 1)) := by
                rw [HS.out, HE.out]; unfold mixStep; rw [if_pos hun]; show ((layS O k (pickS old now ch u k), u + 1) : ByteArray × Nat) = _; rw [HPS.out]
              clear hr5 hb5
              go_wp2_with fail
              exact ⟨⟨k + 1, by omega, by go_num, by first | (rw [HF.out]; done) | (rw [HF.out]; go_num), by rw [HF.out]; exact HR5.out, HX5.out⟩, by simp [intOf]; omega⟩
            · have HPS : Hid (pickS old now ch u k = secS old k) := by unfold pickS; rw [if_neg hc1, if_neg hc2]; exact rfl
              have d3 : decide ((chS ch u : Int) = 1) = false := decide_eq_false (by omega)
              have d4 : decide ((chS ch u : Int) = 2) = false := decide_eq_false (by omega)
              generalize chS ch u = c at *
              go_wp2_with fail
              refine (lay_calls O (secS old k) k u9 w2.heap.size _ HR5'.out hb25 hsz (by have := HSO.out; have := HSN.out; have := HPK.out; (try rw [zeroS_size]); omega)).mono ?_
              rintro e w6 ⟨v5, rfl, hr5, hb5⟩
              have HR5 := Lib.hid hr5
              have HX5 := Lib.hid (Below.trans HX5'.out hb5)
              have HF : Hid (mixTo old now ch (k + 1) = (layS O k (secS old k), u + 1)) := by
                rw [HS.out, HE.out]; unfold mixStep; rw [if_pos hun]; show ((layS O k (pickS old now ch u k), u + 1) : ByteArray × Nat) = _; rw [HPS.out]
              clear hr5 hb5
              go_wp2_with fail
              exact ⟨⟨k + 1, by omega, by go_num, by first | (rw [HF.out]; done) | (rw [HF.out]; go_num), by rw [HF.out]; exact HR5.out, HX5.out⟩, by simp [intOf]; omega⟩
      · have hkN : k = N := by omega
        subst hkN
        have hcv := conv_bytes (P := Tryz.prog) wr 201 9 5 Tryz.underlying201 Tryz.underlying5 Tryz.underlying9 HR.out
        have HM : Hid (mixS old now ch = (O, u)) := by unfold mixS; rw [HN.out]; exact HE.out
        have HXX := Lib.hid ((HB1.out.trans HB2.out).trans HX.out)
        go_wp2_with fail
        (try rw [Exit.noGoto_ret])
        go_ret2
        exact ⟨by rw [HM.out]; rfl, HXX.out⟩
  · have hM : max old.size now.size = old.size := by omega
    have hN : cntS (max old.size now.size) = cntS old.size := by rw [hM]
    obtain ⟨N, hNN⟩ : ∃ N, N = cntS old.size := ⟨_, rfl⟩
    have hNb : N ≤ 25000 := by rw [hNN]; unfold cntS; omega
    have HN := Lib.hid (hN.trans hNN.symm)
    have HP := Lib.hid (fun w => hNN ▸ pcount_calls old.size w (by omega))
    have c0 : ¬ old.size < now.size := by omega
    obtain ⟨U, hU⟩ : ∃ U, U = unlikeS old now := ⟨_, rfl⟩
    have HU := Lib.hid (show U = (List.range N).filter (unS old now) by rw [hU]; unfold unlikeS; rw [HN.out])
    have HC := Lib.hid (fun w => hU ▸ unlike_calls old now w (by omega) (by omega))
    have hUl : U.length ≤ N := by rw [HU.out]; have := List.length_filter_le (unS old now) (List.range N); rwa [List.length_range] at this
    clear hM hN hNN h hU
    go_enter Tryz.func163, Tryz.ntmps163
    go_wp2_with fail
    go_step3
    go_wp2_with fail
    refine (HC.out _).mono ?_
    rintro e w1 ⟨vU, rfl, hrU, hb1⟩
    obtain ⟨AU, cU, rfl⟩ : ∃ A c, vU = .slice A U.length c := by
      rcases own_blk hrU with ⟨rfl, hz, _⟩ | ⟨g, cap, cur, rfl, _⟩
      · exact ⟨_, _, by rw [hz]⟩
      · exact ⟨_, _, rfl⟩
    have HRU := Lib.hid (Row.of_own hrU)
    have HB1 := Lib.hid hb1
    clear hrU hb1
    go_wp2_with fail
    go_step3
    go_wp2_with fail
    refine (HP.out _).mono ?_
    rintro e w2 ⟨rfl, hb2⟩
    have HB2 := Lib.hid hb2
    clear hb2
    go_wp2_with fail
    go_loopw [9, 10, 24] (fun v9 v10 v24 wr => ∃ k : Nat, k ≤ N ∧ v24 = .int .i64 (k : Int) ∧ v10 = .int .i64 ((mixTo old now ch k).2 : Int) ∧ wr.ownsRow w2.heap.size 5 1 v9 (mixTo old now ch k).1.size (bys (mixTo old now ch k).1) ∧ Ex w2 wr) (fun _ _ v24 _ => N - (intOf v24).toNat)
    case atStart => exact ⟨0, by omega, rfl, rfl, World.ownsRow_nil _ _ _ _, Ex.refl _⟩
    case round =>
      obtain ⟨k, hk, rfl, rfl, hr, hb⟩ := hrel
      have HR := Lib.hid hr
      have HX := Lib.hid hb
      have hsz := mixTo_size old now ch k
      have hus := mixTo_used old now ch k
      have HS := Lib.hid (mixTo_succ old now ch k)
      have hul : (mixTo old now ch k).2 ≤ k := by rw [hus]; have := List.length_filter_le (unS old now) (List.range k); rwa [List.length_range] at this
      have HUS := Lib.hid hus
      obtain ⟨O, hO⟩ : ∃ O, O = (mixTo old now ch k).1 := ⟨_, rfl⟩
      obtain ⟨u, hu⟩ : ∃ u, u = (mixTo old now ch k).2 := ⟨_, rfl⟩
      have HE := Lib.hid (show mixTo old now ch k = (O, u) by rw [hO, hu])
      rw [← hO] at hr hsz
      rw [← hu] at hul hus ⊢
      have HR := Lib.hid hr
      have HUS := Lib.hid hus
      clear hr hb hus hu hO
      by_cases hlt : k < N
      · have HPK := Lib.hid (pick_size old now ch u k)
        have HSO := Lib.hid (sec_size old k)
        have HSN := Lib.hid (sec_size now k)
        go_wp2_with fail
        refine (pslice_calls old k _ (by omega)).mono ?_
        rintro e w3 ⟨rfl, hb3⟩
        have HX3 := Lib.hid (HX.out.trans hb3)
        have HR3 := Lib.hid (own_ex' HR.out hb3)
        clear hb3
        go_wp2_with fail
        refine (pslice_calls now k _ (by omega)).mono ?_
        rintro e w4 ⟨rfl, hb4⟩
        have HX4 := Lib.hid (HX3.out.trans hb4)
        have HR4 := Lib.hid (own_ex' HR3.out hb4)
        have hb24 := HX4.out.size
        clear hb4
        cases hun : unS old now k
        · have HRU4 := Lib.hid (HRU.out.ex (HB2.out.trans HX4.out))
          by_cases hul2 : U.length ≤ u
          · have d1 : decide ((U.length : Int) ≤ (u : Int)) = true := decide_eq_true (by omega)
            go_wp2_with fail
            refine (lay_calls O (secS old k) k u9 w2.heap.size _ HR4.out hb24 hsz (by have := HSO.out; have := HSN.out; have := HPK.out; (try rw [zeroS_size]); omega)).mono ?_
            rintro e w5 ⟨v5, rfl, hr5, hb5⟩
            have HR5 := Lib.hid hr5
            have HX5 := Lib.hid (Below.trans HX4.out hb5)
            have HF : Hid (mixTo old now ch (k + 1) = (layS O k (secS old k), u)) := by
              rw [HS.out, HE.out]; unfold mixStep; rw [if_neg (by rw [hun]; decide)]; exact rfl
            clear hr5 hb5
            go_wp2_with fail
            exact ⟨⟨k + 1, by omega, by go_num, by first | (rw [HF.out]; done) | (rw [HF.out]; go_num), by rw [HF.out]; exact HR5.out, HX5.out⟩, by simp [intOf]; omega⟩
          · have d1 : decide ((U.length : Int) ≤ (u : Int)) = false := decide_eq_false (by omega)
            obtain ⟨m, hm⟩ : ∃ m, U[u]? = some m := ⟨_, List.getElem?_eq_getElem (by omega)⟩
            have hmk : m ≠ k := by have h3 := hm; rw [HU.out, HUS.out] at h3; exact un_neg hlt hun h3
            have d2 : decide ((m : Int) = (k : Int)) = false := decide_eq_false (by omega)
            obtain ⟨b, o, rfl, hcell⟩ := row_at HRU4.out (k := u) (v := .int .i64 (m : Int)) (by unfold nats; rw [List.getElem?_map, hm]; exact rfl)
            clear hm
            have hlu : (u : Int) < (U.length : Int) := by omega
            go_wp2_with fail
            refine (lay_calls O (secS old k) k u9 w2.heap.size _ HR4.out hb24 hsz (by have := HSO.out; have := HSN.out; have := HPK.out; (try rw [zeroS_size]); omega)).mono ?_
            rintro e w5 ⟨v5, rfl, hr5, hb5⟩
            have HR5 := Lib.hid hr5
            have HX5 := Lib.hid (Below.trans HX4.out hb5)
            have HF : Hid (mixTo old now ch (k + 1) = (layS O k (secS old k), u)) := by
              rw [HS.out, HE.out]; unfold mixStep; rw [if_neg (by rw [hun]; decide)]; exact rfl
            clear hr5 hb5
            go_wp2_with fail
            exact ⟨⟨k + 1, by omega, by go_num, by first | (rw [HF.out]; done) | (rw [HF.out]; go_num), by rw [HF.out]; exact HR5.out, HX5.out⟩, by simp [intOf]; omega⟩
        · have HRU4 := Lib.hid (HRU.out.ex (HB2.out.trans HX4.out))
          have hm : U[u]? = some k := by rw [HU.out, HUS.out]; exact un_pos hlt hun
          have hul2 : u < U.length := (List.getElem?_eq_some_iff.1 hm).1
          have d1 : decide ((U.length : Int) ≤ (u : Int)) = false := decide_eq_false (by omega)
          obtain ⟨b, o, rfl, hcell⟩ := row_at HRU4.out (k := u) (v := .int .i64 (k : Int)) (by unfold nats; rw [List.getElem?_map, hm]; exact rfl)
          clear hm
          have hlu : (u : Int) < (U.length : Int) := by omega
          go_wp2_with fail
          refine (choose_calls ch u _).mono ?_
          rintro e w5 ⟨rfl, hb5⟩
          have HX5' := Lib.hid (HX4.out.trans hb5)
          have HR5' := Lib.hid (own_ex' HR4.out hb5)
          have hb25 := HX5'.out.size
          clear hb5
          by_cases hc1 : chS ch u = 1
          · have HPS : Hid (pickS old now ch u k = secS now k) := by unfold pickS; rw [if_pos hc1]; exact rfl
            rw [hc1]
            go_wp2_with fail
            refine (lay_calls O (secS now k) k u9 w2.heap.size _ HR5'.out hb25 hsz (by have := HSO.out; have := HSN.out; have := HPK.out; (try rw [zeroS_size]); omega)).mono ?_
            rintro e w6 ⟨v5, rfl, hr5, hb5⟩
            have HR5 := Lib.hid hr5
            have HX5 := Lib.hid (Below.trans HX5'.out hb5)
            have HF : Hid (mixTo old now ch (k + 1) = (layS O k (secS now k), u + 1)) := by
              rw [HS.out, HE.out]; unfold mixStep; rw [if_pos hun]; show ((layS O k (pickS old now ch u k), u + 1) : ByteArray × Nat) = _; rw [HPS.out]
            clear hr5 hb5
            go_wp2_with fail
            exact ⟨⟨k + 1, by omega, by go_num, by first | (rw [HF.out]; done) | (rw [HF.out]; go_num), by rw [HF.out]; exact HR5.out, HX5.out⟩, by simp [intOf]; omega⟩
          · by_cases hc2 : chS ch u = 2
            · have HPS : Hid (pickS old now ch u k = zeroS (secS now k).size) := by unfold pickS; rw [if_neg hc1, if_pos hc2]; exact rfl
              have hsn := HSN.out
              have hmk := fun w => make_bytes w (secS now k).size (by omega)
              have hcv := conv_made w5 (secS now k).size (by omega)
              have HX6 := Lib.hid (ex_alloc HX5'.out (.cells (bys (zeroS (secS now k).size)).toArray 5))
              have HR6 := Lib.hid (own_ex' HR5'.out (ex_alloc (Ex.refl _) (.cells (bys (zeroS (secS now k).size)).toArray 5)))
              have hb26 := HX6.out.size
              rw [hc2]
              go_wp2_with fail
              refine (lay_calls O (zeroS (secS now k).size) k u9 w2.heap.size _ HR6.out hb26 hsz (by have := HSO.out; have := HSN.out; have := HPK.out; (try rw [zeroS_size]); omega)).mono ?_
              rintro e w6 ⟨v5, rfl, hr5, hb5⟩
              have HR5 := Lib.hid hr5
              have HX5 := Lib.hid (Below.trans HX6.out hb5)
              have HF : Hid (mixTo old now ch (k + 1) = (layS O k (zeroS (secS now k).size), u + 1)) := by
                rw [HS.out, HE.out]; unfold mixStep; rw [if_pos hun]; show ((layS O k (pickS old now ch u k), u + 1) : ByteArray × Nat) = _; rw [HPS.out]
              clear hr5 hb5
              go_wp2_with fail
              exact ⟨⟨k + 1, by omega, by go_num, by first | (rw [HF.out]; done) | (rw [HF.out]; go_num), by rw [HF.out]; exact HR5.out, HX5.out⟩, by simp [intOf]; omega⟩
            · have HPS : Hid (pickS old now ch u k = secS old k) := by unfold pickS; rw [if_neg hc1, if_neg hc2]; exact rfl
              have d3 : decide ((chS ch u : Int) = 1) = false := decide_eq_false (by omega)
              have d4 : decide ((chS ch u : Int) = 2) = false := decide_eq_false (by omega)
              generalize chS ch u = c at *
              go_wp2_with fail
              refine (lay_calls O (secS old k) k u9 w2.heap.size _ HR5'.out hb25 hsz (by have := HSO.out; have := HSN.out; have := HPK.out; (try rw [zeroS_size]); omega)).mono ?_
              rintro e w6 ⟨v5, rfl, hr5, hb5⟩
              have HR5 := Lib.hid hr5
              have HX5 := Lib.hid (Below.trans HX5'.out hb5)
              have HF : Hid (mixTo old now ch (k + 1) = (layS O k (secS old k), u + 1)) := by
                rw [HS.out, HE.out]; unfold mixStep; rw [if_pos hun]; show ((layS O k (pickS old now ch u k), u + 1) : ByteArray × Nat) = _; rw [HPS.out]
              clear hr5 hb5
              go_wp2_with fail
              exact ⟨⟨k + 1, by omega, by go_num, by first | (rw [HF.out]; done) | (rw [HF.out]; go_num), by rw [HF.out]; exact HR5.out, HX5.out⟩, by simp [intOf]; omega⟩
      · have hkN : k = N := by omega
        subst hkN
        have hcv := conv_bytes (P := Tryz.prog) wr 201 9 5 Tryz.underlying201 Tryz.underlying5 Tryz.underlying9 HR.out
        have HM : Hid (mixS old now ch = (O, u)) := by unfold mixS; rw [HN.out]; exact HE.out
        have HXX := Lib.hid ((HB1.out.trans HB2.out).trans HX.out)
        go_wp2_with fail
        (try rw [Exit.noGoto_ret])
        go_ret2
        exact ⟨by rw [HM.out]; rfl, HXX.out⟩
end Go.Proofs.YtomfcgeibbicoaaGreat
