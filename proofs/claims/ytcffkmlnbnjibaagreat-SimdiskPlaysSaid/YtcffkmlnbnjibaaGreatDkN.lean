/- Walks: a disk that no call made. -/
import Derived.Test.YtcffkmlnbnjibaaGreatDkL
namespace Go.Proofs.YtcffkmlnbnjibaaGreat
open Go.RowKit Go.Maps
/-- nil, or a disk without a folder. -/
def Nob (w : World) (v : Value) : Prop := v = .pointer none ∨ ∃ z, v = ptrV z ∧ w.cell? ⟨z, 4, none⟩ = some (.pointer none)
theorem Nob.ex {w w' : World} {v : Value} (h : Nob w v) (hb : Ex w w') : Nob w' v := by
  rcases h with h | ⟨z, h1, h2⟩
  · exact .inl h
  · exact .inr ⟨z, h1, hb.cell h2⟩
theorem nb_none {w : World} {v : Value} (h : Nob w v) : Calls Tryz.prog 68 #[v] w fun e w' => e = .returned (.bool true) ∧ Ex w w' := by
  rcases h with rfl | ⟨z, rfl, hc⟩
  · go_enter Tryz.func68, Tryz.ntmps68
    go_wp2_with fail
    go_ret
    exact ⟨rfl, Ex.refl _⟩
  · go_enter Tryz.func68, Tryz.ntmps68
    go_wp2_with fail
    go_ret
    exact ⟨rfl, Ex.refl _⟩
theorem nb_ready {w : World} {v : Value} (h : Nob w v) : Calls Tryz.prog 47 #[v] w fun e w' => e = .returned (.int .i64 1) ∧ Ex w w' := by
  have H := Lib.hid h
  clear h
  go_enter Tryz.func47, Tryz.ntmps47
  go_wp2_with fail
  refine (nb_none H.out).mono ?_
  rintro e w1 ⟨rfl, hb1⟩
  go_wp2_with fail
  go_ret
  exact ⟨rfl, hb1⟩
theorem nb_find {w : World} {v : Value} (s : ByteArray) (h : Nob w v) : Calls Tryz.prog 45 #[v, .string s] w fun e w' => e = .returned (.tuple #[.pointer none, .int .i64 1]) ∧ Ex w w' := by
  have H := Lib.hid h
  clear h
  go_enter Tryz.func45, Tryz.ntmps45
  go_wp2_with fail
  refine (nb_ready H.out).mono ?_
  rintro e w1 ⟨rfl, hb1⟩
  go_wp2_with fail
  go_ret2
  exact ⟨rfl, hb1⟩
theorem nb_create {w : World} {v : Value} (s : ByteArray) (h : Nob w v) : Calls Tryz.prog 11 #[v, .string s] w fun e w' => e = .returned (.int .i64 1) ∧ Ex w w' := by
  have H := Lib.hid h
  clear h
  go_enter Tryz.func11, Tryz.ntmps11
  go_wp2_with fail
  refine (nb_ready H.out).mono ?_
  rintro e w1 ⟨rfl, hb1⟩
  go_wp2_with fail
  go_ret
  exact ⟨rfl, hb1⟩
theorem nb_append {w : World} {v : Value} (s t : ByteArray) (h : Nob w v) : Calls Tryz.prog 12 #[v, .string s, .string t] w fun e w' => e = .returned (.int .i64 1) ∧ Ex w w' := by
  have H := Lib.hid h
  clear h
  go_enter Tryz.func12, Tryz.ntmps12
  go_wp2_with fail
  refine (nb_find s H.out).mono ?_
  rintro e w1 ⟨rfl, hb1⟩
  go_wp2_with fail
  go_ret
  exact ⟨rfl, hb1⟩
theorem nb_cut {w : World} {v : Value} (s : ByteArray) (n : Int) (h : Nob w v) : Calls Tryz.prog 13 #[v, .string s, .int .i64 n] w fun e w' => e = .returned (.int .i64 1) ∧ Ex w w' := by
  have H := Lib.hid h
  clear h
  go_enter Tryz.func13, Tryz.ntmps13
  go_wp2_with fail
  refine (nb_find s H.out).mono ?_
  rintro e w1 ⟨rfl, hb1⟩
  go_wp2_with fail
  go_ret
  exact ⟨rfl, hb1⟩
theorem nb_sync {w : World} {v : Value} (s : ByteArray) (h : Nob w v) : Calls Tryz.prog 14 #[v, .string s] w fun e w' => e = .returned (.int .i64 1) ∧ Ex w w' := by
  have H := Lib.hid h
  clear h
  go_enter Tryz.func14, Tryz.ntmps14
  go_wp2_with fail
  refine (nb_find s H.out).mono ?_
  rintro e w1 ⟨rfl, hb1⟩
  go_wp2_with fail
  go_ret
  exact ⟨rfl, hb1⟩
theorem nb_rename {w : World} {v : Value} (s t : ByteArray) (h : Nob w v) : Calls Tryz.prog 15 #[v, .string s, .string t] w fun e w' => e = .returned (.int .i64 1) ∧ Ex w w' := by
  have H := Lib.hid h
  clear h
  go_enter Tryz.func15, Tryz.ntmps15
  go_wp2_with fail
  refine (nb_find s H.out).mono ?_
  rintro e w1 ⟨rfl, hb1⟩
  go_wp2_with fail
  go_ret
  exact ⟨rfl, hb1⟩
theorem nb_remove {w : World} {v : Value} (s : ByteArray) (h : Nob w v) : Calls Tryz.prog 16 #[v, .string s] w fun e w' => e = .returned (.int .i64 1) ∧ Ex w w' := by
  have H := Lib.hid h
  clear h
  go_enter Tryz.func16, Tryz.ntmps16
  go_wp2_with fail
  refine (nb_find s H.out).mono ?_
  rintro e w1 ⟨rfl, hb1⟩
  go_wp2_with fail
  go_ret
  exact ⟨rfl, hb1⟩
theorem nb_syncAll {w : World} {v : Value} (h : Nob w v) : Calls Tryz.prog 17 #[v] w fun e w' => e = .returned (.int .i64 1) ∧ Ex w w' := by
  have H := Lib.hid h
  clear h
  go_enter Tryz.func17, Tryz.ntmps17
  go_wp2_with fail
  refine (nb_ready H.out).mono ?_
  rintro e w1 ⟨rfl, hb1⟩
  go_wp2_with fail
  go_ret
  exact ⟨rfl, hb1⟩
theorem nb_read {w : World} {v : Value} (s : ByteArray) (h : Nob w v) : Calls Tryz.prog 9 #[v, .string s] w fun e w' => e = .returned (.tuple #[.string ⟨#[]⟩, .int .i64 1]) ∧ Ex w w' := by
  have H := Lib.hid h
  clear h
  go_enter Tryz.func9, Tryz.ntmps9
  go_wp2_with fail
  refine (nb_find s H.out).mono ?_
  rintro e w1 ⟨rfl, hb1⟩
  go_wp2_with fail
  go_ret2
  exact ⟨rfl, hb1⟩
theorem nb_list {w : World} {v : Value} (h : Nob w v) : Calls Tryz.prog 10 #[v] w fun e w' => e = .returned (.tuple #[.slice none 0 0, .int .i64 1]) ∧ Ex w w' := by
  have H := Lib.hid h
  clear h
  go_enter Tryz.func10, Tryz.ntmps10
  go_wp2_with fail
  refine (nb_ready H.out).mono ?_
  rintro e w1 ⟨rfl, hb1⟩
  go_wp2_with fail
  go_ret2
  exact ⟨rfl, hb1⟩
theorem nb_files {w : World} {v : Value} (h : Nob w v) : Calls Tryz.prog 19 #[v] w fun e w' => e = .returned (.slice none 0 0) ∧ Ex w w' := by
  have H := Lib.hid h
  clear h
  go_enter Tryz.func19, Tryz.ntmps19
  go_wp2_with fail
  refine (nb_none H.out).mono ?_
  rintro e w1 ⟨rfl, hb1⟩
  go_wp2_with fail
  go_ret
  exact ⟨rfl, hb1⟩
theorem nb_free {w : World} {v : Value} (h : Nob w v) : Calls Tryz.prog 20 #[v] w fun e w' => e = .returned (.int .i64 0) ∧ Ex w w' := by
  have H := Lib.hid h
  clear h
  go_enter Tryz.func20, Tryz.ntmps20
  go_wp2_with fail
  refine (nb_none H.out).mono ?_
  rintro e w1 ⟨rfl, hb1⟩
  go_wp2_with fail
  go_ret
  exact ⟨rfl, hb1⟩
theorem nb_up {w : World} {v : Value} (h : Nob w v) : Calls Tryz.prog 23 #[v] w fun e w' => e = .returned (.bool false) ∧ Ex w w' := by
  have H := Lib.hid h
  clear h
  go_enter Tryz.func23, Tryz.ntmps23
  go_wp2_with fail
  refine (nb_none H.out).mono ?_
  rintro e w1 ⟨rfl, hb1⟩
  go_wp2_with fail
  go_ret
  exact ⟨rfl, hb1⟩
theorem nb_calls {w : World} {v : Value} (h : Nob w v) : Calls Tryz.prog 21 #[v] w fun e w' => e = .returned (.int .i64 0) ∧ Ex w w' := by
  have H := Lib.hid h
  clear h
  go_enter Tryz.func21, Tryz.ntmps21
  go_wp2_with fail
  refine (nb_none H.out).mono ?_
  rintro e w1 ⟨rfl, hb1⟩
  go_wp2_with fail
  go_ret
  exact ⟨rfl, hb1⟩
theorem nb_crash {w : World} {v : Value} (s : ByteArray) (h : Nob w v) : Calls Tryz.prog 22 #[v, .string s] w fun e w' => e = .returned (.int .i64 0) ∧ Ex w w' := by
  have H := Lib.hid h
  clear h
  go_enter Tryz.func22, Tryz.ntmps22
  go_wp2_with fail
  refine (nb_none H.out).mono ?_
  rintro e w1 ⟨rfl, hb1⟩
  go_wp2_with fail
  go_ret
  exact ⟨rfl, hb1⟩
theorem nb_copy {w : World} {v : Value} (h : Nob w v) : Calls Tryz.prog 24 #[v] w fun e w' => e = .returned (.pointer none) ∧ Ex w w' := by
  have H := Lib.hid h
  clear h
  go_enter Tryz.func24, Tryz.ntmps24
  go_wp2_with fail
  refine (nb_none H.out).mono ?_
  rintro e w1 ⟨rfl, hb1⟩
  go_wp2_with fail
  go_ret
  exact ⟨rfl, hb1⟩
theorem nb_fault {w : World} {v : Value} (k a : Int) (h : Nob w v) : Calls Tryz.prog 18 #[v, .agg #[.int .i64 k, .int .i64 a]] w fun e w' => e = .returned (.int .i64 1) ∧ Ex w w' := by
  have hX0 := ex_alloc (Ex.refl w) (.cells #[.int .i64 k, .int .i64 a] 40)
  have H := Lib.hid (h.ex hX0)
  have HX := Lib.hid hX0
  clear h hX0
  go_enter Tryz.func18, Tryz.ntmps18
  go_wp2_with fail
  refine (nb_ready H.out).mono ?_
  rintro e w1 ⟨rfl, hb1⟩
  go_wp2_with fail
  go_ret
  exact ⟨rfl, HX.out.trans hb1⟩
/-- What the page's example does. -/
def livesD : DkV := ((((((DkV.fresh 9).create ⟨#[97]⟩).1.append ⟨#[97]⟩ ⟨#[120]⟩).1.syncT ⟨#[97]⟩).1.syncAll).1.crash ⟨#[]⟩).1
set_option maxRecDepth 100000 in
theorem lives_read : livesD.read ⟨#[97]⟩ = (⟨#[120]⟩, 0) := by kernel_rfl
end Go.Proofs.YtcffkmlnbnjibaaGreat
