/-
  No cell of these rows narrows 'for every input' (looked for: loops, veiled, ifaces, maps, wideKeys, modest, calm, conditions, laid).
  DERIVED. THE GIVEN ROWS OF THIS SEAT. 8 by the template 'for every input the law returns true; each argument reads behind the call as it read before'; 0 by the template 'total and deterministic' (their statements: YtkckeogdijdohaaTotals.lean).
  GIVEN WITH THE SEED: the statements are not yours to turn. If you find one false, say at which input.
  Laid BY PROGRAM, IN A SANDBOX (cutbox-rows.mjs): the forced cells as the released guide's own fill.sh prints them over the translation 90b6a7a95cd0b993… (all of the seat's roots in one cut). By AI agents, Wed Nov 11 2026. No macro, syntax, notation, axiom, sorry.
-/
import Derived.Test.YtkckeogdijdohaaChecked
import GoSem.Claim
import GoSem.ClaimJoined
import GoSem.ClaimMapViews
import Derived.JoinedTies
import Derived.KernelRfl
namespace Go.Proofs.Ytkckeogdijdohaa
/- THE CELL 'sum', in the pinned program and in every row, IS THE sha256 OF THE DUMP (.gsa) THAT YtkckeogdijdohaaProg.lean LOADS. Nothing in Lean hashes anything: it is a label: what it is worth is what the hold of that sum in a sandbox is worth. -/
noncomputable def Try.pinned : Pinned := { name := "ytkckeogdijdohaa", sum := "90b6a7a95cd0b9932d6ff020a21bf070c9f956e83be7f607b910dfc63ccdfb2a", checked := Try.checked }
namespace Rows
def none {H : Type} : Left H := { results := [], args := [] }

/-- 'styluslaw17.WeldOfs': WHATEVER THE INPUT: true; the input reads as it did. -/
def weldOfsSpec : ChangeSpec := { name := "weldOfs", fn := fun _ => fun
  | [d] => { results := [.lit (.bool true)], args := [d] }
  | _ => none }
def weldOfsRow : OpenClaim := { program := "ytkckeogdijdohaa", sum := "90b6a7a95cd0b9932d6ff020a21bf070c9f956e83be7f607b910dfc63ccdfb2a", func := "stylus/styluslaw17.WeldOfs", spec := "weldOfs", inPlace := ["internal/abi.NoEscape", "internal/bytealg.MakeNoZero"], unfollowed := true, recurses := true, apart := false }
def WeldOfsSaid : Prop := weldOfsRow.holds Try.pinned (OpenSpec.ofChange weldOfsSpec)

/-- ITS FALSE NEIGHBOUR: 'it returns false'. Refute it at one input. -/
def weldOfsWrong : ChangeSpec := { name := "weldOfs", fn := fun _ => fun
  | [d] => { results := [.lit (.bool false)], args := [d] }
  | _ => none }
def WeldOfsWrongFalsely : Prop := weldOfsRow.holds Try.pinned (OpenSpec.ofChange weldOfsWrong)

/-- 'styluslaw17.WeldConcats': WHATEVER THE INPUT: true; the input reads as it did. -/
def weldConcatsSpec : ChangeSpec := { name := "weldConcats", fn := fun _ => fun
  | [d1, d2] => { results := [.lit (.bool true)], args := [d1, d2] }
  | _ => none }
def weldConcatsRow : OpenClaim := { program := "ytkckeogdijdohaa", sum := "90b6a7a95cd0b9932d6ff020a21bf070c9f956e83be7f607b910dfc63ccdfb2a", func := "stylus/styluslaw17.WeldConcats", spec := "weldConcats", inPlace := ["internal/abi.NoEscape", "internal/bytealg.MakeNoZero"], unfollowed := true, recurses := true, apart := false }
def WeldConcatsSaid : Prop := weldConcatsRow.holds Try.pinned (OpenSpec.ofChange weldConcatsSpec)

/-- ITS FALSE NEIGHBOUR: 'it returns false'. Refute it at one input. -/
def weldConcatsWrong : ChangeSpec := { name := "weldConcats", fn := fun _ => fun
  | [d1, d2] => { results := [.lit (.bool false)], args := [d1, d2] }
  | _ => none }
def WeldConcatsWrongFalsely : Prop := weldConcatsRow.holds Try.pinned (OpenSpec.ofChange weldConcatsWrong)

/-- 'styluslaw17.WeldSplits': WHATEVER THE INPUT: true; the input reads as it did. -/
def weldSplitsSpec : ChangeSpec := { name := "weldSplits", fn := fun _ => fun
  | [d1, d2] => { results := [.lit (.bool true)], args := [d1, d2] }
  | _ => none }
def weldSplitsRow : OpenClaim := { program := "ytkckeogdijdohaa", sum := "90b6a7a95cd0b9932d6ff020a21bf070c9f956e83be7f607b910dfc63ccdfb2a", func := "stylus/styluslaw17.WeldSplits", spec := "weldSplits", inPlace := ["internal/abi.NoEscape", "internal/bytealg.MakeNoZero"], unfollowed := true, recurses := true, apart := false }
def WeldSplitsSaid : Prop := weldSplitsRow.holds Try.pinned (OpenSpec.ofChange weldSplitsSpec)

/-- ITS FALSE NEIGHBOUR: 'it returns false'. Refute it at one input. -/
def weldSplitsWrong : ChangeSpec := { name := "weldSplits", fn := fun _ => fun
  | [d1, d2] => { results := [.lit (.bool false)], args := [d1, d2] }
  | _ => none }
def WeldSplitsWrongFalsely : Prop := weldSplitsRow.holds Try.pinned (OpenSpec.ofChange weldSplitsWrong)

/-- 'styluslaw17.WeldMixes': WHATEVER THE INPUT: true; the input reads as it did. -/
def weldMixesSpec : ChangeSpec := { name := "weldMixes", fn := fun _ => fun
  | [d1, d2] => { results := [.lit (.bool true)], args := [d1, d2] }
  | _ => none }
def weldMixesRow : OpenClaim := { program := "ytkckeogdijdohaa", sum := "90b6a7a95cd0b9932d6ff020a21bf070c9f956e83be7f607b910dfc63ccdfb2a", func := "stylus/styluslaw17.WeldMixes", spec := "weldMixes", inPlace := ["internal/abi.NoEscape", "internal/bytealg.MakeNoZero"], unfollowed := true, recurses := true, apart := false }
def WeldMixesSaid : Prop := weldMixesRow.holds Try.pinned (OpenSpec.ofChange weldMixesSpec)

/-- ITS FALSE NEIGHBOUR: 'it returns false'. Refute it at one input. -/
def weldMixesWrong : ChangeSpec := { name := "weldMixes", fn := fun _ => fun
  | [d1, d2] => { results := [.lit (.bool false)], args := [d1, d2] }
  | _ => none }
def WeldMixesWrongFalsely : Prop := weldMixesRow.holds Try.pinned (OpenSpec.ofChange weldMixesWrong)

/-- 'styluslaw18.RopeOfs': WHATEVER THE INPUT: true; the input reads as it did. -/
def ropeOfsSpec : ChangeSpec := { name := "ropeOfs", fn := fun _ => fun
  | [d1, d2] => { results := [.lit (.bool true)], args := [d1, d2] }
  | _ => none }
def ropeOfsRow : OpenClaim := { program := "ytkckeogdijdohaa", sum := "90b6a7a95cd0b9932d6ff020a21bf070c9f956e83be7f607b910dfc63ccdfb2a", func := "stylus/styluslaw18.RopeOfs", spec := "ropeOfs", inPlace := ["internal/abi.NoEscape", "internal/bytealg.MakeNoZero"], unfollowed := true, recurses := true, apart := false }
def RopeOfsSaid : Prop := ropeOfsRow.holds Try.pinned (OpenSpec.ofChange ropeOfsSpec)

/-- ITS FALSE NEIGHBOUR: 'it returns false'. Refute it at one input. -/
def ropeOfsWrong : ChangeSpec := { name := "ropeOfs", fn := fun _ => fun
  | [d1, d2] => { results := [.lit (.bool false)], args := [d1, d2] }
  | _ => none }
def RopeOfsWrongFalsely : Prop := ropeOfsRow.holds Try.pinned (OpenSpec.ofChange ropeOfsWrong)

/-- 'styluslaw18.RopeFull': WHATEVER THE INPUT: true; the input reads as it did. -/
def ropeFullSpec : ChangeSpec := { name := "ropeFull", fn := fun _ => fun
  | [d1, d2] => { results := [.lit (.bool true)], args := [d1, d2] }
  | _ => none }
def ropeFullRow : OpenClaim := { program := "ytkckeogdijdohaa", sum := "90b6a7a95cd0b9932d6ff020a21bf070c9f956e83be7f607b910dfc63ccdfb2a", func := "stylus/styluslaw18.RopeFull", spec := "ropeFull", inPlace := ["internal/abi.NoEscape", "internal/bytealg.MakeNoZero"], unfollowed := true, recurses := true, apart := false }
def RopeFullSaid : Prop := ropeFullRow.holds Try.pinned (OpenSpec.ofChange ropeFullSpec)

/-- ITS FALSE NEIGHBOUR: 'it returns false'. Refute it at one input. -/
def ropeFullWrong : ChangeSpec := { name := "ropeFull", fn := fun _ => fun
  | [d1, d2] => { results := [.lit (.bool false)], args := [d1, d2] }
  | _ => none }
def RopeFullWrongFalsely : Prop := ropeFullRow.holds Try.pinned (OpenSpec.ofChange ropeFullWrong)

/-- 'styluslaw18.RopePlays': WHATEVER THE INPUT: true; the input reads as it did. -/
def ropePlaysSpec : ChangeSpec := { name := "ropePlays", fn := fun _ => fun
  | [d1, d2] => { results := [.lit (.bool true)], args := [d1, d2] }
  | _ => none }
def ropePlaysRow : OpenClaim := { program := "ytkckeogdijdohaa", sum := "90b6a7a95cd0b9932d6ff020a21bf070c9f956e83be7f607b910dfc63ccdfb2a", func := "stylus/styluslaw18.RopePlays", spec := "ropePlays", inPlace := ["internal/abi.NoEscape", "internal/bytealg.MakeNoZero"], unfollowed := true, recurses := true, apart := false }
def RopePlaysSaid : Prop := ropePlaysRow.holds Try.pinned (OpenSpec.ofChange ropePlaysSpec)

/-- ITS FALSE NEIGHBOUR: 'it returns false'. Refute it at one input. -/
def ropePlaysWrong : ChangeSpec := { name := "ropePlays", fn := fun _ => fun
  | [d1, d2] => { results := [.lit (.bool false)], args := [d1, d2] }
  | _ => none }
def RopePlaysWrongFalsely : Prop := ropePlaysRow.holds Try.pinned (OpenSpec.ofChange ropePlaysWrong)

/-- 'styluslaw18.RopeNobody': WHATEVER THE INPUT: true; the input reads as it did. -/
def ropeNobodySpec : ChangeSpec := { name := "ropeNobody", fn := fun _ => fun
  | [d] => { results := [.lit (.bool true)], args := [d] }
  | _ => none }
def ropeNobodyRow : OpenClaim := { program := "ytkckeogdijdohaa", sum := "90b6a7a95cd0b9932d6ff020a21bf070c9f956e83be7f607b910dfc63ccdfb2a", func := "stylus/styluslaw18.RopeNobody", spec := "ropeNobody", inPlace := ["internal/abi.NoEscape", "internal/bytealg.MakeNoZero"], unfollowed := true, recurses := true, apart := false }
def RopeNobodySaid : Prop := ropeNobodyRow.holds Try.pinned (OpenSpec.ofChange ropeNobodySpec)

/-- ITS FALSE NEIGHBOUR: 'it returns false'. Refute it at one input. -/
def ropeNobodyWrong : ChangeSpec := { name := "ropeNobody", fn := fun _ => fun
  | [d] => { results := [.lit (.bool false)], args := [d] }
  | _ => none }
def RopeNobodyWrongFalsely : Prop := ropeNobodyRow.holds Try.pinned (OpenSpec.ofChange ropeNobodyWrong)

/- THE SECOND FORM. 'bulk': how many values and letters a reading holds, each counted each time it is reached (what is shared counts as often as it is met; a slice's spare places count too). A statement '..UptoSaid' is the law's where the arguments, and the package variables that the reading takes, are together of bulk at most 1048576: NARROWER than '..Said'. Prove '..Said' where nothing that the law and all that it calls make is longer than what came in: it says more and counts as full. Else prove '..UptoSaid'. A law counts once. -/
mutual
def uptoBulk {H : Type} : DataW H → Nat
  | .lit (.string bytes) => bytes.length + 1
  | .lit _ => 1
  | .nil => 1
  | .ptr d => uptoBulk d + 1
  | .slice elems spare => uptoBulkAll elems + uptoBulkAll spare + 1
  | .agg parts => uptoBulkAll parts + 1
  | .iface _ d => uptoBulk d + 1
  | .map entries => uptoBulkEntries entries + 1
  | .held _ => 1
def uptoBulkAll {H : Type} : List (DataW H) → Nat
  | [] => 0
  | d :: r => uptoBulk d + uptoBulkAll r
def uptoBulkEntries {H : Type} : List (Lit × DataW H) → Nat
  | [] => 0
  | x :: r => uptoBulkEntry x + uptoBulkEntries r
def uptoBulkEntry {H : Type} : Lit × DataW H → Nat
  | (.string bytes, d) => bytes.length + uptoBulk d + 1
  | (_, d) => uptoBulk d + 1
 end
def uptoSmall : (H : Type) → List (DataW H) → Bool := fun _ ds => decide (uptoBulkAll ds ≤ 1048576)
def OpenSpec.upto (s : _root_.Go.ChangeSpec) : _root_.Go.OpenSpec := { _root_.Go.OpenSpec.ofChange s with cond := some uptoSmall }

/-- 'styluslaw17.WeldOfs', WHERE WHAT IT READS IS OF BULK AT MOST 1048576: true; the input reads as it did. -/
def weldOfsUptoRow : OpenClaim := { program := "ytkckeogdijdohaa", sum := "90b6a7a95cd0b9932d6ff020a21bf070c9f956e83be7f607b910dfc63ccdfb2a", func := "stylus/styluslaw17.WeldOfs", spec := "weldOfs", inPlace := ["internal/abi.NoEscape", "internal/bytealg.MakeNoZero"], unfollowed := true, recurses := true, apart := false, narrowed := true }
def WeldOfsUptoSaid : Prop := weldOfsUptoRow.holds Try.pinned (OpenSpec.upto weldOfsSpec)

/-- 'styluslaw17.WeldConcats', WHERE WHAT IT READS IS OF BULK AT MOST 1048576: true; the input reads as it did. -/
def weldConcatsUptoRow : OpenClaim := { program := "ytkckeogdijdohaa", sum := "90b6a7a95cd0b9932d6ff020a21bf070c9f956e83be7f607b910dfc63ccdfb2a", func := "stylus/styluslaw17.WeldConcats", spec := "weldConcats", inPlace := ["internal/abi.NoEscape", "internal/bytealg.MakeNoZero"], unfollowed := true, recurses := true, apart := false, narrowed := true }
def WeldConcatsUptoSaid : Prop := weldConcatsUptoRow.holds Try.pinned (OpenSpec.upto weldConcatsSpec)

/-- 'styluslaw17.WeldSplits', WHERE WHAT IT READS IS OF BULK AT MOST 1048576: true; the input reads as it did. -/
def weldSplitsUptoRow : OpenClaim := { program := "ytkckeogdijdohaa", sum := "90b6a7a95cd0b9932d6ff020a21bf070c9f956e83be7f607b910dfc63ccdfb2a", func := "stylus/styluslaw17.WeldSplits", spec := "weldSplits", inPlace := ["internal/abi.NoEscape", "internal/bytealg.MakeNoZero"], unfollowed := true, recurses := true, apart := false, narrowed := true }
def WeldSplitsUptoSaid : Prop := weldSplitsUptoRow.holds Try.pinned (OpenSpec.upto weldSplitsSpec)

/-- 'styluslaw17.WeldMixes', WHERE WHAT IT READS IS OF BULK AT MOST 1048576: true; the input reads as it did. -/
def weldMixesUptoRow : OpenClaim := { program := "ytkckeogdijdohaa", sum := "90b6a7a95cd0b9932d6ff020a21bf070c9f956e83be7f607b910dfc63ccdfb2a", func := "stylus/styluslaw17.WeldMixes", spec := "weldMixes", inPlace := ["internal/abi.NoEscape", "internal/bytealg.MakeNoZero"], unfollowed := true, recurses := true, apart := false, narrowed := true }
def WeldMixesUptoSaid : Prop := weldMixesUptoRow.holds Try.pinned (OpenSpec.upto weldMixesSpec)

/-- 'styluslaw18.RopeOfs', WHERE WHAT IT READS IS OF BULK AT MOST 1048576: true; the input reads as it did. -/
def ropeOfsUptoRow : OpenClaim := { program := "ytkckeogdijdohaa", sum := "90b6a7a95cd0b9932d6ff020a21bf070c9f956e83be7f607b910dfc63ccdfb2a", func := "stylus/styluslaw18.RopeOfs", spec := "ropeOfs", inPlace := ["internal/abi.NoEscape", "internal/bytealg.MakeNoZero"], unfollowed := true, recurses := true, apart := false, narrowed := true }
def RopeOfsUptoSaid : Prop := ropeOfsUptoRow.holds Try.pinned (OpenSpec.upto ropeOfsSpec)

/-- 'styluslaw18.RopeFull', WHERE WHAT IT READS IS OF BULK AT MOST 1048576: true; the input reads as it did. -/
def ropeFullUptoRow : OpenClaim := { program := "ytkckeogdijdohaa", sum := "90b6a7a95cd0b9932d6ff020a21bf070c9f956e83be7f607b910dfc63ccdfb2a", func := "stylus/styluslaw18.RopeFull", spec := "ropeFull", inPlace := ["internal/abi.NoEscape", "internal/bytealg.MakeNoZero"], unfollowed := true, recurses := true, apart := false, narrowed := true }
def RopeFullUptoSaid : Prop := ropeFullUptoRow.holds Try.pinned (OpenSpec.upto ropeFullSpec)

/-- 'styluslaw18.RopePlays', WHERE WHAT IT READS IS OF BULK AT MOST 1048576: true; the input reads as it did. -/
def ropePlaysUptoRow : OpenClaim := { program := "ytkckeogdijdohaa", sum := "90b6a7a95cd0b9932d6ff020a21bf070c9f956e83be7f607b910dfc63ccdfb2a", func := "stylus/styluslaw18.RopePlays", spec := "ropePlays", inPlace := ["internal/abi.NoEscape", "internal/bytealg.MakeNoZero"], unfollowed := true, recurses := true, apart := false, narrowed := true }
def RopePlaysUptoSaid : Prop := ropePlaysUptoRow.holds Try.pinned (OpenSpec.upto ropePlaysSpec)

/-- 'styluslaw18.RopeNobody', WHERE WHAT IT READS IS OF BULK AT MOST 1048576: true; the input reads as it did. -/
def ropeNobodyUptoRow : OpenClaim := { program := "ytkckeogdijdohaa", sum := "90b6a7a95cd0b9932d6ff020a21bf070c9f956e83be7f607b910dfc63ccdfb2a", func := "stylus/styluslaw18.RopeNobody", spec := "ropeNobody", inPlace := ["internal/abi.NoEscape", "internal/bytealg.MakeNoZero"], unfollowed := true, recurses := true, apart := false, narrowed := true }
def RopeNobodyUptoSaid : Prop := ropeNobodyUptoRow.holds Try.pinned (OpenSpec.upto ropeNobodySpec)

end Rows
end Go.Proofs.Ytkckeogdijdohaa
