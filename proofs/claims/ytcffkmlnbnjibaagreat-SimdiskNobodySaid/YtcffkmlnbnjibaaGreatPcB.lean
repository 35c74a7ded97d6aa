/- Walks: laying bytes at sectors; the choice of a place. -/
import Derived.Test.YtcffkmlnbnjibaaGreatPcA
import Derived.Test.YtcffkmlnbnjibaaGreatByt
import Derived.Test.YtcffkmlnbnjibaaGreatUtfS
namespace Go.Proofs.YtcffkmlnbnjibaaGreat
open Go.RowKit
theorem info_b1 : (Tryz.prog.info? 5).map (fun i => (i.zero, i.size, i.bytes)) = some (some (.int .u8 0), 1, 1) := by kernel_rfl
theorem info_bs : (Tryz.prog.info? 5).map (·.size) = some 1 := by kernel_rfl
/-- s laid to the k-th sector behind o. -/
def layS (o : ByteArray) (k : Nat) (s : ByteArray) : ByteArray := if s.size = 0 then o else o ++ zeroS (32 * k - o.size) ++ s
theorem app_u0 {w w0 : World} {ops : Array Oper} {rest : List Oper} {o : Oper} {a : Act} {Q : Exit → Act → World → Prop} (hgd : o.guard = none) (s x : Operand) (ho : o.op = .call { callee := .builtin .append, args := #[s, x], argTypes := #[195, 3] }) (base : Nat) (v : Value) (t : ByteArray) (hs : a.eval s = v) (hown : w.ownsRow base 5 1 v t.size (bys t))
    (m : Nat) (hm : 0 < m) (mm : Int) (hmm : mm = (m : Int)) (hx : a.eval x = .int .i64 mm) (hsm : t.size + m ≤ 1000000) (hbase : base ≤ w.heap.size) (hb : Below base w0 w)
    (h : ∀ v' w', w'.ownsRow base 5 1 v' (t.size + m) (bys (t ++ zeroS m)) → Below base w0 w' → wpList Tryz.prog ops Q rest (a.put o.dst v') w') : wpList Tryz.prog ops Q (o :: rest) a w := by
  subst hmm
  obtain ⟨i0, hi0, hz0, hz1, hz2⟩ := info_parts info_b1
  obtain ⟨v', w', hrun, h2, h3, h4⟩ := run_append_zeros_own (P := Tryz.prog) w base 195 3 o.type 5 i0 (.int .u8 0) 1 .i64 Tryz.underlying195 Tryz.underlying3 hi0 hz0 hz1 hz2 rfl rfl v t.size (bys t) hown m hm hsm (by decide) hbase
  refine wpList_val hgd (v := v') (w' := w') ?_ (h v' w' ?_ (below_append hb hown (Nat.le_refl _) hbase h3))
  · simp [execOp, ho, resolve, invoke, builtin, hs, hx, hrun, Result.andThen]
  · rw [bys_app, bys_zero]
    exact h2
set_option maxRecDepth 100000 in
set_option maxHeartbeats 1000000 in
theorem lay_calls (o s : ByteArray) (k : Nat) (v : Value) (base : Nat) (w : World) (hown : w.ownsRow base 5 1 v o.size (bys o)) (hbase : base ≤ w.heap.size) (ho : o.size ≤ 32 * k) (hk : 32 * k + s.size ≤ 900000) :
    Calls Tryz.prog 157 #[v, .int .i64 (k : Int), .string s] w fun e w' => ∃ v', e = .returned v' ∧ w'.ownsRow base 5 1 v' (layS o k s).size (bys (layS o k s)) ∧ Below base w w' := by
  have HO := Lib.hid hown
  clear hown
  by_cases hs : s.size = 0
  · have hs0 : s = ⟨#[]⟩ := by
      cases s with
      | mk d => congr 1; exact Array.eq_empty_of_size_eq_zero hs
    have HL : Hid (layS o k s = o) := by unfold layS; rw [if_pos hs]; exact rfl
    subst hs0
    go_enter Tryz.func157, Tryz.ntmps157
    go_wp2_with fail
    go_ret
    exact ⟨_, rfl, by rw [HL.out]; exact HO.out, Below.refl _ _⟩
  · have hs0 : ¬ s = ⟨#[]⟩ := by rintro rfl; exact hs rfl
    have d1 : s.toList.isEmpty = false := by rw [noByte]; exact decide_eq_false hs
    have HL : Hid (layS o k s = o ++ zeroS (32 * k - o.size) ++ s) := by unfold layS; rw [if_neg hs]; exact rfl
    have w1 : IntKind.i64.wrap ((k : Int) * 32) = (k : Int) * 32 := IntWalk.i64_in _ (by omega)
    have w2 : IntKind.i64.wrap ((k : Int) * 32 + (s.size : Int)) = (k : Int) * 32 + (s.size : Int) := IntWalk.i64_in _ (by omega)
    have w3 : IntKind.i64.wrap ((k : Int) * 32 + (s.size : Int) - (o.size : Int)) = (k : Int) * 32 + (s.size : Int) - (o.size : Int) := IntWalk.i64_in _ (by omega)
    have d2 : decide ((o.size : Int) < (k : Int) * 32 + (s.size : Int)) = true := decide_eq_true (by omega)
    obtain ⟨vA, hvA⟩ : ∃ A n c, v = .slice A n c ∧ n = o.size := by
      rcases own_blk HO.out with ⟨rfl, h2, _⟩ | ⟨g, cap, cur, rfl, _⟩
      · exact ⟨_, _, _, rfl, h2.symm⟩
      · exact ⟨_, _, _, rfl, rfl⟩
    obtain ⟨vn, vc, rfl, rfl⟩ := hvA
    have hz : ((k : Int) * 32).toNat = 32 * k := by omega
    have hm : 0 < 32 * k + s.size - o.size := by omega
    go_enter Tryz.func157, Tryz.ntmps157
    go_wp2_with (at_builtin; go_must (refine app_u0 rfl (.tmp 22) (.tmp 26) rfl base _ o rfl HO.out (32 * k + s.size - o.size) hm _ ?hmm rfl (by omega) hbase (Below.refl base w) ?hk1))
    case hmm => omega
    intro v2 wA hr2 hb2
    rw [show o.size + (32 * k + s.size - o.size) = 32 * k + s.size by omega] at hr2
    rcases own_blk hr2 with ⟨_, h0, _⟩ | ⟨g, cap, cur, rfl, hbg, hB, hnc, hcm, hcl, htk⟩
    · omega
    have HB := Lib.hid hB
    have HB2 := Lib.hid hb2
    have HT := Lib.hid htk
    have hbA : base ≤ wA.heap.size := Nat.le_trans hbase hb2.size
    clear hr2 hb2 hB htk
    have hfit : 32 * k + s.size ≤ cur.length := by omega
    have hcp := run_copy_str (P := Tryz.prog) wA 195 9 3 5 g (32 * k) s.size (cap - 32 * k) s cur 5 Tryz.underlying195 info_bs HB.out (Nat.le_refl _) hfit
    have HR := Lib.hid (blk_setRow (new := spl cur (32 * k) (bys s)) HB.out)
    have HX := Lib.hid (below_store (B := base) HB2.out hbg hbA (grown_setRow wA g (spl cur (32 * k) (bys s)).toArray))
    go_wp2_with fail
    go_ret
    refine ⟨_, rfl, ?_, HX.out⟩
    rw [HL.out]
    have hsz : (o ++ zeroS (32 * k - o.size) ++ s).size = 32 * k + s.size := by rw [ByteArray.size_append, ByteArray.size_append, zeroS_size]; omega
    rw [hsz]
    refine own_of_blk HR.out hbg hnc hcm (by rw [spl_len (by rw [bys_len]; omega)]; exact hcl) ?_
    have h1 : cur.take (32 * k) = bys (o ++ zeroS (32 * k - o.size)) := by
      have h2 := congrArg (List.take (32 * k)) HT.out
      rw [List.take_take, Nat.mul_one, Nat.min_eq_left (by omega), bys_app, bys_zero, List.take_append, bys_len, List.take_of_length_le (l := bys o) (by rw [bys_len]; omega), List.take_replicate, Nat.min_eq_left (by omega)] at h2
      rw [h2, bys_app, bys_zero]
    rw [Nat.mul_one, bys_app]
    unfold spl
    rw [h1]
    have h3 : (bys (o ++ zeroS (32 * k - o.size)) ++ bys s).length = 32 * k + s.size := by rw [List.length_append, bys_len, bys_len, ByteArray.size_append, zeroS_size]; omega
    rw [← h3]
    exact List.take_left
/-- The choice of a place. -/
def chS (c : ByteArray) (i : Nat) : Nat := if c.size ≤ i then 0 else byteAt c i % 3
theorem choose_calls (c : ByteArray) (i : Nat) (w : World)  : Calls Tryz.prog 158 #[.string c, .int .i64 (i : Int)] w fun e w' => e = .returned (.int .i64 (chS c i : Int)) ∧ Ex w w' := by
  by_cases h : c.size ≤ i
  · have d1 : decide ((c.size : Int) ≤ (i : Int)) = true := decide_eq_true (by omega)
    have hz : chS c i = 0 := by unfold chS; rw [if_pos h]
    rw [hz]
    go_enter Tryz.func158, Tryz.ntmps158
    go_wp2_with fail
    go_ret
    exact ⟨rfl, Ex.refl _⟩
  · have d1 : decide ((c.size : Int) ≤ (i : Int)) = false := decide_eq_false (by omega)
    have hb : byteAt c i = c[i].toNat := by unfold byteAt; rw [dif_pos (by omega)]
    have hlt : c[i].toNat < 256 := c[i].toNat_lt
    have hw : wrap64 (c[i].toNat : Int) = (c[i].toNat : Int) := IntWalk.wrap64_in _ (by omega)
    have hz : Int.tmod (c[i].toNat : Int) 3 = (chS c i : Int) := by
      unfold chS
      rw [if_neg h, hb, Int.tmod_eq_emod_of_nonneg (by omega)]
      omega
    go_enter Tryz.func158, Tryz.ntmps158
    go_wp2_with fail
    go_ret
    exact ⟨rfl, Ex.refl _⟩
theorem rchoice_calls (c : ByteArray) (i : Nat) (w : World)  : Calls Tryz.prog 173 #[.string c, .int .i64 (i : Int)] w fun e w' => e = .returned (.int .i64 (chS c i : Int)) ∧ Ex w w' := by
  by_cases h : c.size ≤ i
  · have d1 : decide ((c.size : Int) ≤ (i : Int)) = true := decide_eq_true (by omega)
    have hz : chS c i = 0 := by unfold chS; rw [if_pos h]
    rw [hz]
    go_enter Tryz.func173, Tryz.ntmps173
    go_wp2_with fail
    go_ret
    exact ⟨rfl, Ex.refl _⟩
  · have d1 : decide ((c.size : Int) ≤ (i : Int)) = false := decide_eq_false (by omega)
    have hb : byteAt c i = c[i].toNat := by unfold byteAt; rw [dif_pos (by omega)]
    have hlt : c[i].toNat < 256 := c[i].toNat_lt
    have hw : wrap64 (c[i].toNat : Int) = (c[i].toNat : Int) := IntWalk.wrap64_in _ (by omega)
    have hz : Int.tmod (c[i].toNat : Int) 3 = (chS c i : Int) := by
      unfold chS
      rw [if_neg h, hb, Int.tmod_eq_emod_of_nonneg (by omega)]
      omega
    go_enter Tryz.func173, Tryz.ntmps173
    go_wp2_with fail
    go_ret
    exact ⟨rfl, Ex.refl _⟩
end Go.Proofs.YtcffkmlnbnjibaaGreat
