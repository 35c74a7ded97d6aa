/- Walks: a disk that no call made. -/
import Derived.Test.YtomfcgeibbicoaaGreatDkL
namespace Go.Proofs.YtomfcgeibbicoaaGreat
open Go.RowKit Go.Maps
/-- nil, or a disk without a folder. -/
def Nob (w : World) (v : Value) : Prop := v = .pointer none ∨ ∃ z, v = ptrV z ∧ w.cell? ⟨z, 4, none⟩ = some (.pointer none)
theorem Nob.ex {w w' : World} {v : Value} (h : Nob w v) (hb : Ex w w') : Nob w' v := by
  rcases h with h | ⟨z, h1, h2⟩
  · exact .inl h
  · exact .inr ⟨z, h1, hb.cell h2⟩
theorem nb_none {w : World} {v : Value} (h : Nob w v) : Calls Tryz.prog 62 #[v] w fun e w' => e = .returned (.bool true) ∧ Ex w w' := by
  rcases h with rfl | ⟨z, rfl, hc⟩
  · go_enter Tryz.func62, Tryz.ntmps62
    go_wp2_with fail
    go_ret
    exact ⟨rfl, Ex.refl _⟩
  · go_enter Tryz.func62, Tryz.ntmps62
    go_wp2_with fail
    go_ret
    exact ⟨rfl, Ex.refl _⟩
theorem nb_ready {w : World} {v : Value} (h : Nob w v) : Calls Tryz.prog 54 #[v] w fun e w' => e = .returned (.int .i64 1) ∧ Ex w w' := by
  have H := Lib.hid h
  clear h
  go_enter Tryz.func54, Tryz.ntmps54
  go_wp2_with fail
  refine (nb_none H.out).mono ?_
  rintro e w1 ⟨rfl, hb1⟩
  go_wp2_with fail
  go_ret
  exact ⟨rfl, hb1⟩
theorem nb_find {w : World} {v : Value} (s : ByteArray) (h : Nob w v) : Calls Tryz.prog 126 #[v, .string s] w fun e w' => e = .returned (.tuple #[.pointer none, .int .i64 1]) ∧ Ex w w' := by
  have H := Lib.hid h
  clear h
  go_enter Tryz.func126, Tryz.ntmps126
  go_wp2_with fail
  refine (nb_ready H.out).mono ?_
  rintro e w1 ⟨rfl, hb1⟩
  go_wp2_with fail
  go_ret2
  exact ⟨rfl, hb1⟩
theorem nb_create {w : World} {v : Value} (s : ByteArray) (h : Nob w v) : Calls Tryz.prog 146 #[v, .string s] w fun e w' => e = .returned (.int .i64 1) ∧ Ex w w' := by
  have H := Lib.hid h
  clear h
  go_enter Tryz.func146, Tryz.ntmps146
  go_wp2_with fail
  refine (nb_ready H.out).mono ?_
  rintro e w1 ⟨rfl, hb1⟩
  go_wp2_with fail
  go_ret
  exact ⟨rfl, hb1⟩
theorem nb_append {w : World} {v : Value} (s t : ByteArray) (h : Nob w v) : Calls Tryz.prog 147 #[v, .string s, .string t] w fun e w' => e = .returned (.int .i64 1) ∧ Ex w w' := by
  have H := Lib.hid h
  clear h
  go_enter Tryz.func147, Tryz.ntmps147
  go_wp2_with fail
  refine (nb_find s H.out).mono ?_
  rintro e w1 ⟨rfl, hb1⟩
  go_wp2_with fail
  go_ret
  exact ⟨rfl, hb1⟩
theorem nb_sync {w : World} {v : Value} (s : ByteArray) (h : Nob w v) : Calls Tryz.prog 86 #[v, .string s] w fun e w' => e = .returned (.int .i64 1) ∧ Ex w w' := by
  have H := Lib.hid h
  clear h
  go_enter Tryz.func86, Tryz.ntmps86
  go_wp2_with fail
  refine (nb_find s H.out).mono ?_
  rintro e w1 ⟨rfl, hb1⟩
  go_wp2_with fail
  go_ret
  exact ⟨rfl, hb1⟩
theorem nb_remove {w : World} {v : Value} (s : ByteArray) (h : Nob w v) : Calls Tryz.prog 59 #[v, .string s] w fun e w' => e = .returned (.int .i64 1) ∧ Ex w w' := by
  have H := Lib.hid h
  clear h
  go_enter Tryz.func59, Tryz.ntmps59
  go_wp2_with fail
  refine (nb_find s H.out).mono ?_
  rintro e w1 ⟨rfl, hb1⟩
  go_wp2_with fail
  go_ret
  exact ⟨rfl, hb1⟩
theorem nb_syncAll {w : World} {v : Value} (h : Nob w v) : Calls Tryz.prog 125 #[v] w fun e w' => e = .returned (.int .i64 1) ∧ Ex w w' := by
  have H := Lib.hid h
  clear h
  go_enter Tryz.func125, Tryz.ntmps125
  go_wp2_with fail
  refine (nb_ready H.out).mono ?_
  rintro e w1 ⟨rfl, hb1⟩
  go_wp2_with fail
  go_ret
  exact ⟨rfl, hb1⟩
theorem nb_list {w : World} {v : Value} (h : Nob w v) : Calls Tryz.prog 66 #[v] w fun e w' => e = .returned (.tuple #[.slice none 0 0, .int .i64 1]) ∧ Ex w w' := by
  have H := Lib.hid h
  clear h
  go_enter Tryz.func66, Tryz.ntmps66
  go_wp2_with fail
  refine (nb_ready H.out).mono ?_
  rintro e w1 ⟨rfl, hb1⟩
  go_wp2_with fail
  go_ret2
  exact ⟨rfl, hb1⟩
theorem nb_files {w : World} {v : Value} (h : Nob w v) : Calls Tryz.prog 17 #[v] w fun e w' => e = .returned (.slice none 0 0) ∧ Ex w w' := by
  have H := Lib.hid h
  clear h
  go_enter Tryz.func17, Tryz.ntmps17
  go_wp2_with fail
  refine (nb_none H.out).mono ?_
  rintro e w1 ⟨rfl, hb1⟩
  go_wp2_with fail
  go_ret
  exact ⟨rfl, hb1⟩
theorem nb_up {w : World} {v : Value} (h : Nob w v) : Calls Tryz.prog 110 #[v] w fun e w' => e = .returned (.bool false) ∧ Ex w w' := by
  have H := Lib.hid h
  clear h
  go_enter Tryz.func110, Tryz.ntmps110
  go_wp2_with fail
  refine (nb_none H.out).mono ?_
  rintro e w1 ⟨rfl, hb1⟩
  go_wp2_with fail
  go_ret
  exact ⟨rfl, hb1⟩
theorem nb_calls {w : World} {v : Value} (h : Nob w v) : Calls Tryz.prog 21 #[v] w fun e w' => e = .returned (.int .i64 0) ∧ Ex w w' := by
  have H := Lib.hid h
  clear h
  go_enter Tryz.func21, Tryz.ntmps21
  go_wp2_with fail
  refine (nb_none H.out).mono ?_
  rintro e w1 ⟨rfl, hb1⟩
  go_wp2_with fail
  go_ret
  exact ⟨rfl, hb1⟩
theorem nb_crash {w : World} {v : Value} (s : ByteArray) (h : Nob w v) : Calls Tryz.prog 36 #[v, .string s] w fun e w' => e = .returned (.int .i64 0) ∧ Ex w w' := by
  have H := Lib.hid h
  clear h
  go_enter Tryz.func36, Tryz.ntmps36
  go_wp2_with fail
  refine (nb_none H.out).mono ?_
  rintro e w1 ⟨rfl, hb1⟩
  go_wp2_with fail
  go_ret
  exact ⟨rfl, hb1⟩
theorem nb_fault {w : World} {v : Value} (k a : Int) (h : Nob w v) : Calls Tryz.prog 12 #[v, .agg #[.int .i64 k, .int .i64 a]] w fun e w' => e = .returned (.int .i64 1) ∧ Ex w w' := by
  have hX0 := ex_alloc (Ex.refl w) (.cells #[.int .i64 k, .int .i64 a] 45)
  have H := Lib.hid (h.ex hX0)
  have HX := Lib.hid hX0
  clear h hX0
  go_enter Tryz.func12, Tryz.ntmps12
  go_wp2_with fail
  refine (nb_ready H.out).mono ?_
  rintro e w1 ⟨rfl, hb1⟩
  go_wp2_with fail
  go_ret
  exact ⟨rfl, HX.out.trans hb1⟩
/-- What the page's example does. -/
def livesD : DkV := ((((((DkV.fresh 9).create ⟨#[97]⟩).1.append ⟨#[97]⟩ ⟨#[120]⟩).1.syncT ⟨#[97]⟩).1.syncAll).1.crash ⟨#[]⟩).1
set_option maxRecDepth 100000 in
theorem lives_read : livesD.read ⟨#[97]⟩ = (⟨#[120]⟩, 0) := by kernel_rfl
end Go.Proofs.YtomfcgeibbicoaaGreat
