/- Walks: the first chunk of a tree, and the last one. -/
import Derived.Test.YtkckeogdijdohaaKnA
namespace Go.Proofs.Ytkckeogdijdohaa
open Go.RowKit
def headS (cs : List ByteArray) : ByteArray := cs.headD ⟨#[]⟩
def lastS (cs : List ByteArray) : ByteArray := cs.getLastD ⟨#[]⟩
/-- A node's height, as its world has it. -/
def htOf (w : World) : Value → Nat
  | .pointer (some p) => match w.cell? ⟨p.block, 0, none⟩ with
    | some (.int _ n) => n.toNat
    | _ => 0
  | _ => 0
theorem Kn.ht {h : Nat} {w : World} {v : Value} {cs : List ByteArray} (x : Kn h w v cs) : htOf w v = h := by
  obtain ⟨g, s, A, n, cap, rfl, hn, -, -⟩ := x.nd
  simp [htOf, hn.c0]
theorem headS_app {a b : List ByteArray} (h : 1 ≤ a.length) : headS (a ++ b) = headS a := by
  cases a with
  | nil => simp at h
  | cons x a => rfl
theorem lastS_app {a b : List ByteArray} (h : 1 ≤ b.length) : lastS (a ++ b) = lastS b := by
  unfold lastS
  cases b with
  | nil => simp at h
  | cons x b =>
    obtain ⟨y, hy⟩ : ∃ y, (x :: b).getLast? = some y := ⟨(x :: b).getLast (by simp), List.getLast?_eq_some_getLast _⟩
    simp only [List.getLastD_eq_getLast?, List.getLast?_append, hy]
    rfl
theorem Kids.split_at {ks : Kids} {k : Nat} (h : k < ks.length) : ks.cs = Kids.cs (ks.take k) ++ (ks[k].2 ++ Kids.cs (ks.drop (k + 1))) := by
  have h1 : ks = ks.take k ++ ks[k] :: ks.drop (k + 1) := by simp
  have h2 : Kids.cs (ks.take k ++ ks[k] :: ks.drop (k + 1)) = Kids.cs (ks.take k) ++ (ks[k].2 ++ Kids.cs (ks.drop (k + 1))) := by
    unfold Kids.cs; rw [List.flatMap_append, List.flatMap_cons]
  rw [← h2, ← h1]
set_option maxHeartbeats 400000 in
theorem first_calls {v : Value} {cs : List ByteArray} (w : World) (x : Tr w v cs) : Calls Try.prog 44 #[v] w fun e w' => e = .returned (.string (headS cs)) ∧ w' = w := by
  rcases x with ⟨rfl, rfl⟩ | ⟨h, x⟩
  · go_enter Try.func44, Try.ntmps44
    go_wp2_with fail
    go_loop [0] (fun v0 => v0 = .pointer none) (fun _ => 0)
    case atStart => rfl
    case round =>
      subst hrel
      go_wp2_with fail
      refine (none_nil _).mono ?_
      rintro e w1 ⟨rfl, rfl⟩
      go_wp2_with fail
      refine (none_nil _).mono ?_
      rintro e w1 ⟨rfl, rfl⟩
      go_wp2_with fail
      go_ret
      exact ⟨rfl, rfl⟩
  · have X := Lib.hid x
    clear x
    go_enter Try.func44, Try.ntmps44
    go_wp2_with fail
    go_loop [0] (fun v0 => ∃ (h' : Nat) (cs' : List ByteArray), Kn h' w v0 cs' ∧ headS cs' = headS cs) (fun v0 => htOf w v0)
    case atStart => exact ⟨h, cs, X.out, rfl⟩
    case round =>
      obtain ⟨h', cs', x, he⟩ := hrel
      have HX := Lib.hid x
      have HE := Lib.hid he
      have HT := Lib.hid x.ht
      clear he
      cases h' with
      | zero =>
        obtain ⟨g, s, rfl, e1, hf, ⟨c0, c1, c2, c3, c4, c5⟩⟩ := x
        have H1 := Lib.hid e1
        clear e1 hf c0 c1 c2 c3
        go_wp2_with fail
        refine (none_calls _ HX.out).mono ?_
        rintro e w1 ⟨rfl, rfl⟩
        go_wp2_with fail
        refine (none_calls _ HX.out).mono ?_
        rintro e w1 ⟨rfl, rfl⟩
        go_wp2_with fail
        go_ret
        refine ⟨?_, rfl⟩
        rw [← HE.out, H1.out]
        rfl
      | succ h' =>
        obtain ⟨g, A, cap, ks, rfl, h2, h8, e1, ⟨c0, c1, c2, c3, c4, c5⟩, hr, hk⟩ := x
        obtain ⟨b, o, rfl, hc⟩ := hr.kid (k := 0) (by omega)
        have hq := hk ks[0] (List.getElem_mem (by omega))
        have H1 := Lib.hid (show headS ks[0].2 = headS cs from by
          rw [← HE.out, e1, Kids.split_at (k := 0) (by omega)]
          exact (headS_app hq.pos).symm)
        have HQ := Lib.hid hq
        have HM := Lib.hid hq.ht
        rw [Nat.add_zero] at hc
        clear e1 hr hk c0 c1 c2 c3 c4 hq
        generalize ks[0] = q at hc H1 HQ HM
        have hlt : (0 : Int) < (ks.length : Int) := by omega
        go_wp2_with fail
        refine (none_calls _ HX.out).mono ?_
        rintro e w1 ⟨rfl, rfl⟩
        go_wp2_with fail
        go_round
        case rel => exact ⟨h', q.2, HQ.out, H1.out⟩
        case measure => rw [HM.out, HT.out]; omega
set_option maxHeartbeats 400000 in
theorem last_calls {v : Value} {cs : List ByteArray} (w : World) (x : Tr w v cs) : Calls Try.prog 43 #[v] w fun e w' => e = .returned (.string (lastS cs)) ∧ Dr w w' := by
  rcases x with ⟨rfl, rfl⟩ | ⟨h, x⟩
  · go_enter Try.func43, Try.ntmps43
    go_wp2_with fail
    go_loop [0] (fun v0 => v0 = .pointer none) (fun _ => 0)
    case atStart => rfl
    case round =>
      subst hrel
      go_wp2_with fail
      refine (none_nil _).mono ?_
      rintro e w1 ⟨rfl, rfl⟩
      go_wp2_with fail
      refine (none_nil _).mono ?_
      rintro e w1 ⟨rfl, rfl⟩
      go_wp2_with fail
      go_ret
      exact ⟨rfl, Dr.refl _⟩
  · have X := Lib.hid x
    clear x
    go_enter Try.func43, Try.ntmps43
    go_wp2_with fail
    go_loopw [0] (fun v0 wr => ∃ (h' : Nat) (cs' : List ByteArray), Kn h' w v0 cs' ∧ lastS cs' = lastS cs ∧ Dr w wr) (fun v0 _ => htOf w v0)
    case atStart => exact ⟨h, cs, X.out, rfl, Dr.refl _⟩
    case round =>
      obtain ⟨h', cs', x, he, hd⟩ := hrel
      have HX := Lib.hid (x.ex hd.ex)
      have HE := Lib.hid he
      have HT := Lib.hid x.ht
      have HD := Lib.hid hd
      clear he
      cases h' with
      | zero =>
        obtain ⟨g, s, rfl, e1, hf, ⟨c0, c1, c2, c3, c4, c5⟩⟩ := x
        have H1 := Lib.hid e1
        have c5 := hd.ex.cell c5
        have c4 := hd.ex.cell c4
        clear e1 hf c0 c1 c2 c3 hd
        go_wp2_with fail
        refine (none_calls _ HX.out).mono ?_
        rintro e w1 ⟨rfl, rfl⟩
        go_wp2_with fail
        refine (none_calls _ HX.out).mono ?_
        rintro e w1 ⟨rfl, rfl⟩
        go_wp2_with fail
        go_ret
        refine ⟨?_, HD.out⟩
        rw [← HE.out, H1.out]
        rfl
      | succ h' =>
        obtain ⟨g, A, cap, ks, rfl, h2, h8, e1, ⟨c0, c1, c2, c3, c4, c5⟩, hr, hk⟩ := x
        obtain ⟨b, o, rfl, hc⟩ := hr.kid (k := ks.length - 1) (by omega)
        have hq := hk (ks[ks.length - 1]'(by omega)) (List.getElem_mem (by omega))
        have H1 := Lib.hid (show lastS (ks[ks.length - 1]'(by omega)).2 = lastS cs from by
          rw [← HE.out, e1, Kids.split_at (k := ks.length - 1) (by omega)]
          rw [show ks.length - 1 + 1 = ks.length by omega, List.drop_length]
          rw [show Kids.cs [] = [] from rfl, List.append_nil]
          exact (lastS_app hq.pos).symm)
        have HQ := Lib.hid hq
        have HM := Lib.hid hq.ht
        have c5 := hd.ex.cell c5
        have hc := hd.ex.cell hc
        clear e1 hr hk c0 c1 c2 c3 c4 hq hd
        generalize (ks[ks.length - 1]'(by omega)) = q at hc H1 HQ HM
        have hlt : (0 : Int) < (ks.length : Int) := by omega
        have w4' : IntKind.i64.wrap ((ks.length : Int) - 1) = (ks.length : Int) - 1 := IntWalk.i64_in _ (by omega)
        have w5' : (0 : Int) ≤ (ks.length : Int) - 1 := by omega
        have w6' : (ks.length : Int) - 1 < (ks.length : Int) := by omega
        have w7' : ((ks.length : Int) - 1).toNat = ks.length - 1 := by omega
        have w8' : 0 < ks.length := by omega
        go_wp2_with fail
        refine (none_calls _ HX.out).mono ?_
        rintro e w1 ⟨rfl, rfl⟩
        go_wp2_with fail
        go_quiet (fail)
        go_wp2_with fail
        go_roundw
        case rel => exact ⟨h', q.2, HQ.out, H1.out, HD.out.more nq⟩
        case measure => rw [HM.out, HT.out]; omega
end Go.Proofs.Ytkckeogdijdohaa
