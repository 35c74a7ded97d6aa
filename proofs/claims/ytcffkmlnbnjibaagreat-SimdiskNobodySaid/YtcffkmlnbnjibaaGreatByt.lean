/- Rows of bytes: what a text's bytes are as cells; copy out of a text. No program is named here. -/
import Derived.Test.YtcffkmlnbnjibaaGreatZer
import Derived.Laws.BytesString
namespace Go.Proofs.YtcffkmlnbnjibaaGreat
open Go.RowKit
/-- A text's bytes, as cells. -/
def bys (s : ByteArray) : List Value := s.data.toList.map fun b => .int .u8 (b.toNat : Int)
theorem noByte {s : ByteArray} : s.toList.isEmpty = decide (s.size = 0) := by
  rw [ByteArray.toList_eq, Bool.eq_iff_iff, List.isEmpty_iff, decide_eq_true_iff]
  constructor
  · intro h; have := congrArg List.length h; simpa using this
  · intro h; exact List.eq_nil_of_length_eq_zero (by simpa using h)
theorem bys_len (s : ByteArray) : (bys s).length = s.size := by unfold bys; rw [List.length_map]; exact Array.length_toList
theorem bys_app (a b : ByteArray) : bys (a ++ b) = bys a ++ bys b := by unfold bys; rw [ByteArray.data_append]; simp
theorem bys_one (s : ByteArray) : ∀ v ∈ bys s, v.oneCell' = true := by
  intro v hv
  obtain ⟨b, _, rfl⟩ := List.mem_map.1 hv
  rfl
/-- n zero bytes. -/
def zeroS (n : Nat) : ByteArray := ⟨(List.replicate n (0 : UInt8)).toArray⟩
theorem zeroS_size (n : Nat) : (zeroS n).size = n := by show (List.replicate n (0 : UInt8)).toArray.size = n; simp
theorem bys_zero (n : Nat) : bys (zeroS n) = List.replicate n (.int .u8 0) := by unfold bys zeroS; simp
section
variable {P : Program}
theorem run_copy_str (w : World) (dT sT ty elem : TypeId) (g o dLen dCap : Nat) (s : ByteArray) (cur : List Value) (t : TypeId)
    (hu : P.underlying dT = some (.slice elem)) (hs : (P.info? elem).map (·.size) = some 1) (hg : Blk w g t cur) (hn : s.size ≤ dLen) (hfit : o + s.size ≤ cur.length) :
    (Builtin.copy_ #[dT, sT] ty #[.slice (some ⟨g, o, none⟩) dLen dCap, .string s]).run P w = .ok (goInt s.size) (w.setRow g (spl cur o (bys s)).toArray) := by
  have hst := run_storeCells_at P g o t (bys s) 0 cur.toArray w hg (by rw [bys_len]; simpa using hfit) (bys_one s)
  have hmin : Nat.min s.size dLen = s.size := Nat.min_eq_left hn
  have hx : (s.extract 0 s.size) = s := by
    cases s with
    | mk d => simp
  have hf : (Builtin.firstCells 1 s.size (.string s)).run P w = .ok (bys s).toArray w := by
    simp only [Builtin.firstCells, hx, Sem.run_pure]
    congr 1
    apply Array.ext'
    simp [bys]
  cases hq : P.info? elem with
  | none => simp [hq] at hs
  | some i =>
    have hi : i.size = 1 := by simpa [hq] using hs
    simp only [Nat.add_zero] at hst
    simp [Builtin.copy_, run_underlying hu, Builtin.lenOf, sizeOf, typeInfo, hq, hi, hf, hst, spl, bys_len, hmin]
theorem wpList_copy_str {w : World} {ops : Array Oper} {rest : List Oper} {o : Oper} {a : Act} {Q : Exit → Act → World → Prop} (hgd : o.guard = none) (d s : Operand) (dT sT : TypeId) (ho : o.op = .call { callee := .builtin .copy, args := #[d, s], argTypes := #[dT, sT] }) (elem : TypeId) (g off dLen dCap : Nat) (x : ByteArray) (cur : List Value) (t : TypeId)
    (hu : P.underlying dT = some (.slice elem)) (hs : (P.info? elem).map (·.size) = some 1) (hd : a.eval d = .slice (some ⟨g, off, none⟩) dLen dCap) (hsv : a.eval s = .string x) (hg : Blk w g t cur) (hn : x.size ≤ dLen) (hfit : off + x.size ≤ cur.length)
    (K : ∀ w', Blk w' g t (spl cur off (bys x)) → w.grownBy w' (some g) → wpList P ops Q rest (a.put o.dst (goInt x.size)) w') : wpList P ops Q (o :: rest) a w :=
  wpList_val hgd (by have hrun := run_copy_str (P := P) w dT sT o.type elem g off dLen dCap x cur t hu hs hg hn hfit; simp [execOp, ho, resolve, invoke, builtin, hd, hsv, hrun, Result.andThen]) (K _ (blk_setRow hg) (grown_setRow w g _))
/-- Bytes, as a text. -/
theorem conv_bytes (w : World) (src dst e : TypeId) (hs : P.underlying src = some (.slice e)) (he : P.underlying e = some (.int .u8)) (hd : P.underlying dst = some .string) {base n : Nat} {v : Value} {s : ByteArray} (h : w.ownsRow base e 1 v n (bys s)) :
    (convert src dst v).run P w = .ok (.string s) w := by
  have key : ∀ (l : List UInt8) (r : ByteArray), (l.map fun b => (b.toNat : Int)).foldl (fun r n => r.push (UInt8.ofNat n.toNat)) r = ⟨(r.data.toList ++ l).toArray⟩ := by
    intro l
    induction l with
    | nil => intro r; cases r; simp
    | cons b l ih =>
      intro r
      rw [List.map_cons, List.foldl_cons, ih]
      have : (r.push (UInt8.ofNat ((b.toNat : Int)).toNat)).data = r.data.push b := by
        show r.data.push _ = _
        simp
      rw [this]
      simp
  have hv := own_blk h
  have hl := h.1
  rw [bys_len] at hl
  rcases hv with ⟨rfl, rfl, hb⟩ | ⟨g, cap, cur, rfl, _, hB, hnc, _, hcl, htk⟩
  · refine (run_convert_bytes_string (P := P) w src dst e none 0 0 hs he hd).trans ?_
    have hz : s.size = 0 := by omega
    have hs0 : s = ⟨#[]⟩ := by
      cases s with
      | mk d => congr 1; exact Array.eq_empty_of_size_eq_zero hz
    subst hs0
    rfl
  · refine (run_convert_bytes_string (P := P) w src dst e (some ⟨g, 0, none⟩) n cap hs he hd).trans ?_
    have hc : ∀ j u, (bys s)[j]? = some u → w.cell? ((⟨g, 0, none⟩ : Addr).add j) = some u := h.cells (g := g) rfl
    have hld := run_loadCells_list (P := P) w ⟨g, 0, none⟩ _ hc
    rw [bys_len] at hld
    have hmap : (s.data.toList.map fun b => (b.toNat : Int)).map (Value.int .u8) = bys s := by unfold bys; rw [List.map_map]; rfl
    have hsn : s.size = n := by omega
    refine (run_bytesToString w ⟨g, 0, none⟩ n cap (s.data.toList.map fun b => (b.toNat : Int)) (by rw [hmap, ← hsn]; exact hld)).trans ?_
    rw [key]
    congr 2
end
end Go.Proofs.YtcffkmlnbnjibaaGreat
