/- Walks: texts are saved as files. -/
import Derived.Test.YtomfcgeibbicoaaGreatPbB
import Derived.Test.YtomfcgeibbicoaaGreatTiU
namespace Go.Proofs.YtomfcgeibbicoaaGreat
open Go.RowKit Go.Maps
def namedR (s : ByteArray) : Int := if userB s = true then 0 else 7
theorem namedR_no {s : ByteArray} (h : userB s = false) : namedR s = 7 := by unfold namedR; rw [h]; rfl
theorem namedR_yes {s : ByteArray} (h : userB s = true) : namedR s = 0 := by unfold namedR; rw [h]; rfl
namespace DkV
def save (Q : DkV) (nm x : ByteArray) : DkV × Nat × Int := if userB nm = false then (Q, 0, 7) else if 4096 < x.size then (Q, 0, 6) else Q.pub tmpS (frExp ++ nm) x
def rexp (Q : DkV) (nm : ByteArray) : ByteArray × Int := if userB nm = false then (⟨#[]⟩, 7) else Q.read (frExp ++ nm)
end DkV
theorem expS_size {s : ByteArray} (h : userB s = true) : (frExp ++ s).size ≤ 18 := by
  have := user_le h
  rw [ByteArray.size_append]
  have : frExp.size = 2 := rfl
  omega
theorem save_ok {Q : DkV} {M : Nat} {nm x : ByteArray} (h : Q.Ok M) (hM : M ≤ 600000) : (Q.save nm x).1.Ok (M + 22) := by
  unfold DkV.save
  split
  · exact h.up (by omega)
  · rename_i hu
    have hu : userB nm = true := by cases h : userB nm; exact absurd h hu; rfl
    split
    · exact h.up (by omega)
    · exact pub_ok h hM (by decide) (by have := expS_size hu; omega)
theorem str_row (w : World) (s : ByteArray) (T : TypeId) : Row (w.alloc (.cells #[.string s] T)) 1 (some ⟨w.heap.size, 0, none⟩) 1 [.string s] := by
  have := (Blk.new w [.string s] T).row (k := 1) (n := 1) (by simp)
  simpa using this
end Go.Proofs.YtomfcgeibbicoaaGreat
