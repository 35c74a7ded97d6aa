/- Walks: a disk that no call made. -/
import Derived.Test.YtcffkmlnbnjibaaDkL
namespace Go.Proofs.Ytcffkmlnbnjibaa
open Go.RowKit Go.Maps
/-- nil, or a disk without a folder. -/
def Nob (w : World) (v : Value) : Prop := v = .pointer none ∨ ∃ z, v = ptrV z ∧ w.cell? ⟨z, 4, none⟩ = some (.pointer none)
theorem Nob.ex {w w' : World} {v : Value} (h : Nob w v) (hb : Ex w w') : Nob w' v := by
  rcases h with h | ⟨z, h1, h2⟩
  · exact .inl h
  · exact .inr ⟨z, h1, hb.cell h2⟩
theorem nb_none {w : World} {v : Value} (h : Nob w v) : Calls Try.prog 42 #[v] w fun e w' => e = .returned (.bool true) ∧ Ex w w' := by
  rcases h with rfl | ⟨z, rfl, hc⟩
  · go_enter Try.func42, Try.ntmps42
    go_wp2_with fail
    go_ret
    exact ⟨rfl, Ex.refl _⟩
  · go_enter Try.func42, Try.ntmps42
    go_wp2_with fail
    go_ret
    exact ⟨rfl, Ex.refl _⟩
theorem nb_ready {w : World} {v : Value} (h : Nob w v) : Calls Try.prog 22 #[v] w fun e w' => e = .returned (.int .i64 1) ∧ Ex w w' := by
  have H := Lib.hid h
  clear h
  go_enter Try.func22, Try.ntmps22
  go_wp2_with fail
  refine (nb_none H.out).mono ?_
  rintro e w1 ⟨rfl, hb1⟩
  go_wp2_with fail
  go_ret
  exact ⟨rfl, hb1⟩
theorem nb_find {w : World} {v : Value} (s : ByteArray) (h : Nob w v) : Calls Try.prog 29 #[v, .string s] w fun e w' => e = .returned (.tuple #[.pointer none, .int .i64 1]) ∧ Ex w w' := by
  have H := Lib.hid h
  clear h
  go_enter Try.func29, Try.ntmps29
  go_wp2_with fail
  refine (nb_ready H.out).mono ?_
  rintro e w1 ⟨rfl, hb1⟩
  go_wp2_with fail
  go_ret2
  exact ⟨rfl, hb1⟩
theorem nb_create {w : World} {v : Value} (s : ByteArray) (h : Nob w v) : Calls Try.prog 8 #[v, .string s] w fun e w' => e = .returned (.int .i64 1) ∧ Ex w w' := by
  have H := Lib.hid h
  clear h
  go_enter Try.func8, Try.ntmps8
  go_wp2_with fail
  refine (nb_ready H.out).mono ?_
  rintro e w1 ⟨rfl, hb1⟩
  go_wp2_with fail
  go_ret
  exact ⟨rfl, hb1⟩
theorem nb_append {w : World} {v : Value} (s t : ByteArray) (h : Nob w v) : Calls Try.prog 9 #[v, .string s, .string t] w fun e w' => e = .returned (.int .i64 1) ∧ Ex w w' := by
  have H := Lib.hid h
  clear h
  go_enter Try.func9, Try.ntmps9
  go_wp2_with fail
  refine (nb_find s H.out).mono ?_
  rintro e w1 ⟨rfl, hb1⟩
  go_wp2_with fail
  go_ret
  exact ⟨rfl, hb1⟩
theorem nb_sync {w : World} {v : Value} (s : ByteArray) (h : Nob w v) : Calls Try.prog 10 #[v, .string s] w fun e w' => e = .returned (.int .i64 1) ∧ Ex w w' := by
  have H := Lib.hid h
  clear h
  go_enter Try.func10, Try.ntmps10
  go_wp2_with fail
  refine (nb_find s H.out).mono ?_
  rintro e w1 ⟨rfl, hb1⟩
  go_wp2_with fail
  go_ret
  exact ⟨rfl, hb1⟩
theorem nb_rename {w : World} {v : Value} (s t : ByteArray) (h : Nob w v) : Calls Try.prog 12 #[v, .string s, .string t] w fun e w' => e = .returned (.int .i64 1) ∧ Ex w w' := by
  have H := Lib.hid h
  clear h
  go_enter Try.func12, Try.ntmps12
  go_wp2_with fail
  refine (nb_find s H.out).mono ?_
  rintro e w1 ⟨rfl, hb1⟩
  go_wp2_with fail
  go_ret
  exact ⟨rfl, hb1⟩
theorem nb_remove {w : World} {v : Value} (s : ByteArray) (h : Nob w v) : Calls Try.prog 13 #[v, .string s] w fun e w' => e = .returned (.int .i64 1) ∧ Ex w w' := by
  have H := Lib.hid h
  clear h
  go_enter Try.func13, Try.ntmps13
  go_wp2_with fail
  refine (nb_find s H.out).mono ?_
  rintro e w1 ⟨rfl, hb1⟩
  go_wp2_with fail
  go_ret
  exact ⟨rfl, hb1⟩
theorem nb_syncAll {w : World} {v : Value} (h : Nob w v) : Calls Try.prog 11 #[v] w fun e w' => e = .returned (.int .i64 1) ∧ Ex w w' := by
  have H := Lib.hid h
  clear h
  go_enter Try.func11, Try.ntmps11
  go_wp2_with fail
  refine (nb_ready H.out).mono ?_
  rintro e w1 ⟨rfl, hb1⟩
  go_wp2_with fail
  go_ret
  exact ⟨rfl, hb1⟩
theorem nb_read {w : World} {v : Value} (s : ByteArray) (h : Nob w v) : Calls Try.prog 15 #[v, .string s] w fun e w' => e = .returned (.tuple #[.string ⟨#[]⟩, .int .i64 1]) ∧ Ex w w' := by
  have H := Lib.hid h
  clear h
  go_enter Try.func15, Try.ntmps15
  go_wp2_with fail
  refine (nb_find s H.out).mono ?_
  rintro e w1 ⟨rfl, hb1⟩
  go_wp2_with fail
  go_ret2
  exact ⟨rfl, hb1⟩
theorem nb_crash {w : World} {v : Value} (s : ByteArray) (h : Nob w v) : Calls Try.prog 14 #[v, .string s] w fun e w' => e = .returned (.int .i64 0) ∧ Ex w w' := by
  have H := Lib.hid h
  clear h
  go_enter Try.func14, Try.ntmps14
  go_wp2_with fail
  refine (nb_none H.out).mono ?_
  rintro e w1 ⟨rfl, hb1⟩
  go_wp2_with fail
  go_ret
  exact ⟨rfl, hb1⟩
theorem nb_fault {w : World} {v : Value} (k a : Int) (h : Nob w v) : Calls Try.prog 18 #[v, .agg #[.int .i64 k, .int .i64 a]] w fun e w' => e = .returned (.int .i64 1) ∧ Ex w w' := by
  have hX0 := ex_alloc (Ex.refl w) (.cells #[.int .i64 k, .int .i64 a] 45)
  have H := Lib.hid (h.ex hX0)
  have HX := Lib.hid hX0
  clear h hX0
  go_enter Try.func18, Try.ntmps18
  go_wp2_with fail
  refine (nb_ready H.out).mono ?_
  rintro e w1 ⟨rfl, hb1⟩
  go_wp2_with fail
  go_ret
  exact ⟨rfl, HX.out.trans hb1⟩
/-- What the page's example does. -/
def livesD : DkV := ((((((DkV.fresh 9).create ⟨#[97]⟩).1.append ⟨#[97]⟩ ⟨#[120]⟩).1.syncT ⟨#[97]⟩).1.syncAll).1.crash ⟨#[]⟩).1
set_option maxRecDepth 100000 in
theorem lives_read : livesD.read ⟨#[97]⟩ = (⟨#[120]⟩, 0) := by kernel_rfl
end Go.Proofs.Ytcffkmlnbnjibaa
