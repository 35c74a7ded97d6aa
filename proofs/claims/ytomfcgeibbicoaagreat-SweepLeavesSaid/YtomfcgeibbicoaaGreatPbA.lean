/- Walks: a file is written in five steps (publish). -/
import Derived.Test.YtomfcgeibbicoaaGreatDkO
import Derived.Defers
import Derived.Laws.ResultCell
namespace Go.Proofs.YtomfcgeibbicoaaGreat
open Go.RowKit Go.Maps
namespace DkV
/-- The first step: a new file of that name. -/
def anew (Q : DkV) (s : ByteArray) : DkV × Int :=
  if (Q.read s).2 = 0 then (if (Q.remove s).2 = 0 then (Q.remove s).1.create s else Q.remove s) else Q.create s
end DkV
theorem anew_ok {Q : DkV} {M : Nat} {s : ByteArray} (h : Q.Ok M) (hM : M ≤ 800000) (hs : s.size ≤ 9223372036854775807) : (Q.anew s).1.Ok (M + 4) := by
  unfold DkV.anew
  split
  · split
    · exact create_ok (remove_ok h hs) (by omega) hs
    · exact (remove_ok h hs).up (by omega)
  · exact (create_ok h (by omega) hs).up (by omega)
/-- A disk between calls: wi is the world, Fi its blocks; all began at w, F. -/
structure Mid (w : World) (F : Nat → Prop) (wi : World) (Fi : Nat → Prop) (g : Nat) (Q : DkV) : Prop where
  dk : DkP wi g Fi Q
  sub : ∀ k, Fi k → Fresh F w wi k
  off : Off F w wi
section
variable {w wi wj : World} {F Fi : Nat → Prop} {g : Nat} {Q Q' : DkV}
theorem Mid.start (h : DkP w g F Q) : Mid w F w F g Q := ⟨h, fun _ hk => .inl hk, Off.refl F w⟩
theorem Mid.step (h : Mid w F wi Fi g Q) (hP : DkP wj g (Fresh Fi wi wj) Q') (hO : Off Fi wi wj) : Mid w F wj (Fresh Fi wi wj) g Q' := by
  have h1 := h.off.size
  have h2 := hO.size
  refine ⟨hP, fun k hk => ?_, h.off.then hO (fun k hk hf => ?_)⟩
  · rcases hk with hk | hk
    · rcases h.sub k hk with h3 | h3
      · exact .inl h3
      · exact .inr ⟨h3.1, by omega⟩
    · exact .inr ⟨by omega, hk.2⟩
  · rcases h.sub k hf with h3 | h3
    · exact h3
    · omega
theorem Mid.ex (h : Mid w F wi Fi g Q) (hX : Ex wi wj) : Mid w F wj Fi g Q := by
  have h1 := hX.size
  refine ⟨h.dk.ex hX, fun k hk => ?_, h.off.trans (Ex.off hX F)⟩
  rcases h.sub k hk with h3 | h3
  · exact .inl h3
  · exact .inr ⟨h3.1, by omega⟩
theorem Mid.fin (h : Mid w F wi Fi g Q) : DkP wi g (Fresh F w wi) Q ∧ Off F w wi := ⟨h.dk.more h.sub, h.off⟩
/-- A block of one's own beside the disk's. -/
theorem out_fresh {b : Nat} {e : TypeId} {cs : List Value} (hB : Blk wi b e cs) (hF : ¬ Fi b) (hO : Off Fi wi wj) : Blk wj b e cs ∧ ¬ Fresh Fi wi wj b := by
  refine ⟨hB.off hO hF, fun hk => ?_⟩
  rcases hk with hk | hk
  · exact hF hk
  · have := hB.lt; omega
end
section
variable {w : World} {g : Nat} {F : Nat → Prop} {Q : DkV} {M pd pt pn px : Nat} {s x b : ByteArray}
end
end Go.Proofs.YtomfcgeibbicoaaGreat
