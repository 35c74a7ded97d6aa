/- Walks: the program's Drop and Set. -/
import Derived.Test.YtkclpflgndgabaaMkH
import Derived.Deep.RegionWith
namespace Go.Proofs.Ytkclpflgndgabaa
open Go.RowKit
/-- What the program's Set makes. -/
def setM (l : List Mk) (m : Mk) : List Mk × Int :=
  if mayMk m.nm = false then ([], 7) else if (findM m.nm l).2 = true then (l.set (atZ m.nm l).toNat m, 0) else if 16 ≤ l.length then ([], 9)
  else if zIdx (fun x => upN m.nm x.nm) l = -1 then (l ++ [m], 0) else (l.take (zIdx (fun x => upN m.nm x.nm) l).toNat ++ m :: l.drop (zIdx (fun x => upN m.nm x.nm) l).toNat, 0)
/-- What the program's Drop makes. -/
def dropP (s : ByteArray) (l : List Mk) : List Mk × Int := if (findM s l).2 = true then (l.eraseIdx (atZ s l).toNat, 0) else ([], 8)
theorem Blk.set_ {w : World} {g : Nat} {e : TypeId} {cur : List Value} (h : Blk w g e cur) (i : Nat) (u : Value) : Blk (w.setCell ⟨g, i, none⟩ u) g e (cur.set i u) := by
  unfold Blk at h ⊢
  simp [World.setCell, Array.getElem?_modify, h]
theorem grown_setCell (w : World) (g i : Nat) (u : Value) : w.grownBy (w.setCell ⟨g, i, none⟩ u) (some g) :=
  ⟨rfl, rfl, rfl, by simp [World.setCell], fun k _ hk => Below.heap_setCell w ⟨g, i, none⟩ u k (fun e => hk (by rw [e]))⟩
theorem set_cs {cur : List Value} {l : List Mk} {i n : Nat} (m : Mk) (hct : cur.take (n * 2) = Mk.cs l) (hl : l.length = n) (hi : i < n) : ((cur.set (i * 2) (.string m.nm)).set (i * 2 + 1) (.int .i64 m.pl)).take (n * 2) = Mk.cs (l.set i m) := by
  apply List.ext_getElem?
  intro j
  have hcl : (Mk.cs l).length = n * 2 := by rw [Mk.cs_len, hl]
  have hcl2 : (Mk.cs (l.set i m)).length = n * 2 := by rw [Mk.cs_len, List.length_set, hl]
  by_cases hj : j < n * 2
  · rw [List.getElem?_take_of_lt hj]
    obtain ⟨q, r, hr, rfl⟩ : ∃ q r, r < 2 ∧ j = q * 2 + r := ⟨j / 2, j % 2, Nat.mod_lt _ (by omega), by omega⟩
    have hq : q < l.length := by omega
    have hq' : q < (l.set i m).length := by rw [List.length_set]; exact hq
    have e1 := flat_get Mk.enc 2 (fun _ => rfl) (l.set i m) q (l.set i m)[q] r (List.getElem?_eq_getElem hq') hr
    have e2 := flat_get Mk.enc 2 (fun _ => rfl) l q l[q] r (List.getElem?_eq_getElem hq) hr
    have e3 : cur[q * 2 + r]? = (Mk.enc l[q])[r]? := by rw [← e2, ← Mk.cs, ← hct, List.getElem?_take_of_lt hj]
    have hlc : q * 2 + r < cur.length := by
      rcases Nat.lt_or_ge (q * 2 + r) cur.length with h | h
      · exact h
      · rw [List.getElem?_eq_none h] at e3
        have : r < (Mk.enc l[q]).length := hr
        rw [List.getElem?_eq_getElem this] at e3
        cases e3
    rw [Mk.cs, e1]
    by_cases hqi : q = i
    · subst hqi
      rw [List.getElem_set_self]
      rcases (show r = 0 ∨ r = 1 by omega) with rfl | rfl
      · rw [List.getElem?_set_ne (by omega), Nat.add_zero, List.getElem?_set_self (by omega)]; rfl
      · rw [List.getElem?_set_self (by rw [List.length_set]; omega)]; rfl
    · rw [List.getElem_set_ne (fun h => hqi h.symm), List.getElem?_set_ne (by omega), List.getElem?_set_ne (by omega), e3]
  · rw [List.getElem?_eq_none (by rw [List.length_take]; omega), List.getElem?_eq_none (by omega)]
theorem findM_of {s : ByteArray} {l : List Mk} {k : Nat} (hk : k < l.length) (h : nmIs s l[k] = true) (hb : ∀ j (hj : j < l.length), j < k → nmIs s l[j] = false) : (findM s l).2 = true := by rw [findM_some hk h hb]
set_option maxHeartbeats 400000 in
theorem drop_calls (A : Option Addr) (n c : Nat) (l : List Mk) (s : ByteArray) (w : World) (hn : n ≤ 100000) (hm : Row w 2 A n (Mk.cs l)) (hA : A = none → c = 0) :
    Calls Try.prog 12 #[.slice A n c, .string s] w fun e w' => ∃ v, e = .returned (.tuple #[v, .int .i64 (dropP s l).2]) ∧ w'.ownsRow w.heap.size 24 2 v (dropP s l).1.length (Mk.cs (dropP s l).1) ∧ Ex w w' := by
  have Hm := Lib.hid hm
  have hl := hm.mk_len
  clear hm
  rcases atZ_cases s l with ⟨k, hk, hz, hq, hr⟩ | ⟨hz, hr⟩
  · have Hd := Lib.hid (show dropP s l = (l.eraseIdx k, 0) from by unfold dropP; rw [if_pos (findM_of hk hq hr), hz]; rfl)
    have Hlen := Lib.hid (show (l.eraseIdx k).length = n - 1 from by rw [List.length_eraseIdx_of_lt hk, hl])
    have hkn : k < n := by omega
    have Hl := Lib.hid hl
    have Hz := Lib.hid hz
    have HA := Lib.hid hA
    clear hr hz hl hq hA
    go_enter Try.func12, Try.ntmps12
    go_wp2_with fail
    refine (at_calls A n c l s _ (by omega) Hm.out).mono ?_
    rintro e w1 ⟨rfl, hb⟩
    rw [Hz.out]
    go_wp2_with fail
    refine (clone_calls A n c l _ hn (Hm.out.ex hb) HA.out).mono ?_
    rintro e w2 ⟨v, rfl, ho, hb2⟩
    go_wp2_with fail
    refine (delete_calls w1.heap.size w1 w2 v n l k ho hn hkn hb2.size hb2).mono ?_
    rintro e w3 ⟨v3, rfl, ho3, hb3⟩
    go_wp2
    go_ret2
    exact ⟨_, by rw [Hd.out]; rfl, by rw [Hd.out, Hlen.out]; exact own_more ho3 hb.size, hb.trans hb3⟩
  · have hf : (findM s l).2 = false := by rw [findM_none hr]
    have Hd := Lib.hid (show dropP s l = ([], 8) from by unfold dropP; rw [if_neg (by rw [hf]; simp)])
    have Hz := Lib.hid hz
    clear hr hz hl hf
    go_enter Try.func12, Try.ntmps12
    go_wp2_with fail
    refine (at_calls A n c l s _ (by omega) Hm.out).mono ?_
    rintro e w1 ⟨rfl, hb⟩
    rw [Hz.out]
    go_wp2
    go_ret2
    exact ⟨_, by rw [Hd.out]; rfl, by rw [Hd.out]; exact World.ownsRow_nil _ _ _ _, hb⟩
end Go.Proofs.Ytkclpflgndgabaa
