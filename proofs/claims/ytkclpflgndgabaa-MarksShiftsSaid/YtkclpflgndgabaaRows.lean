/-
  No cell of these rows narrows 'for every input' (looked for: loops, veiled, ifaces, maps, wideKeys, modest, calm, conditions, laid).
  DERIVED. THE GIVEN ROWS OF THIS SEAT. 4 by the template 'for every input the law returns true; each argument reads behind the call as it read before'; 0 by the template 'total and deterministic' (their statements: YtkclpflgndgabaaTotals.lean).
  GIVEN WITH THE SEED: the statements are not yours to turn. If you find one false, say at which input.
  Laid BY PROGRAM, IN A SANDBOX (cutbox-rows.mjs): the forced cells as the released guide's own fill.sh prints them over the translation 4ea2edff83e385af… (all of the seat's roots in one cut). By AI agents, Wed Nov 11 2026. No macro, syntax, notation, axiom, sorry.
-/
import Derived.Test.YtkclpflgndgabaaChecked
import GoSem.Claim
import GoSem.ClaimJoined
import GoSem.ClaimMapViews
import Derived.JoinedTies
import Derived.KernelRfl
namespace Go.Proofs.Ytkclpflgndgabaa
/- THE CELL 'sum', in the pinned program and in every row, IS THE sha256 OF THE DUMP (.gsa) THAT YtkclpflgndgabaaProg.lean LOADS. Nothing in Lean hashes anything: it is a label: what it is worth is what the hold of that sum in a sandbox is worth. -/
noncomputable def Try.pinned : Pinned := { name := "ytkclpflgndgabaa", sum := "4ea2edff83e385af8555cfa56f41b880b6a4d37d330e298b5fac2a75c056989b", checked := Try.checked }
namespace Rows
def none {H : Type} : Left H := { results := [], args := [] }

/-- 'styluslaw22.MarksSets': WHATEVER THE INPUT: true; the input reads as it did. -/
def marksSetsSpec : ChangeSpec := { name := "marksSets", fn := fun _ => fun
  | [d1, d2, d3] => { results := [.lit (.bool true)], args := [d1, d2, d3] }
  | _ => none }
def marksSetsRow : OpenClaim := { program := "ytkclpflgndgabaa", sum := "4ea2edff83e385af8555cfa56f41b880b6a4d37d330e298b5fac2a75c056989b", func := "stylus/styluslaw22.MarksSets", spec := "marksSets", inPlace := ["slices.overlaps[stylus/api.Mark]"], unfollowed := true, recurses := true, apart := false }
def MarksSetsSaid : Prop := marksSetsRow.holds Try.pinned (OpenSpec.ofChange marksSetsSpec)

/-- ITS FALSE NEIGHBOUR: 'it returns false'. Refute it at one input. -/
def marksSetsWrong : ChangeSpec := { name := "marksSets", fn := fun _ => fun
  | [d1, d2, d3] => { results := [.lit (.bool false)], args := [d1, d2, d3] }
  | _ => none }
def MarksSetsWrongFalsely : Prop := marksSetsRow.holds Try.pinned (OpenSpec.ofChange marksSetsWrong)

/-- 'styluslaw22.MarksFinds': WHATEVER THE INPUT: true; the input reads as it did. -/
def marksFindsSpec : ChangeSpec := { name := "marksFinds", fn := fun _ => fun
  | [d1, d2, d3] => { results := [.lit (.bool true)], args := [d1, d2, d3] }
  | _ => none }
def marksFindsRow : OpenClaim := { program := "ytkclpflgndgabaa", sum := "4ea2edff83e385af8555cfa56f41b880b6a4d37d330e298b5fac2a75c056989b", func := "stylus/styluslaw22.MarksFinds", spec := "marksFinds", inPlace := ["slices.overlaps[stylus/api.Mark]", "internal/bytealg.abigen_runtime_cmpstring"], unfollowed := true, recurses := true, apart := false }
def MarksFindsSaid : Prop := marksFindsRow.holds Try.pinned (OpenSpec.ofChange marksFindsSpec)

/-- ITS FALSE NEIGHBOUR: 'it returns false'. Refute it at one input. -/
def marksFindsWrong : ChangeSpec := { name := "marksFinds", fn := fun _ => fun
  | [d1, d2, d3] => { results := [.lit (.bool false)], args := [d1, d2, d3] }
  | _ => none }
def MarksFindsWrongFalsely : Prop := marksFindsRow.holds Try.pinned (OpenSpec.ofChange marksFindsWrong)

/-- 'styluslaw22.MarksShifts': WHATEVER THE INPUT: true; the input reads as it did. -/
def marksShiftsSpec : ChangeSpec := { name := "marksShifts", fn := fun _ => fun
  | [d1, d2, d3] => { results := [.lit (.bool true)], args := [d1, d2, d3] }
  | _ => none }
def marksShiftsRow : OpenClaim := { program := "ytkclpflgndgabaa", sum := "4ea2edff83e385af8555cfa56f41b880b6a4d37d330e298b5fac2a75c056989b", func := "stylus/styluslaw22.MarksShifts", spec := "marksShifts", inPlace := ["slices.overlaps[stylus/api.Mark]", "internal/bytealg.abigen_runtime_cmpstring"], unfollowed := true, recurses := true, apart := false }
def MarksShiftsSaid : Prop := marksShiftsRow.holds Try.pinned (OpenSpec.ofChange marksShiftsSpec)

/-- ITS FALSE NEIGHBOUR: 'it returns false'. Refute it at one input. -/
def marksShiftsWrong : ChangeSpec := { name := "marksShifts", fn := fun _ => fun
  | [d1, d2, d3] => { results := [.lit (.bool false)], args := [d1, d2, d3] }
  | _ => none }
def MarksShiftsWrongFalsely : Prop := marksShiftsRow.holds Try.pinned (OpenSpec.ofChange marksShiftsWrong)

/-- 'styluslaw22.MarksNears': WHATEVER THE INPUT: true; the input reads as it did. -/
def marksNearsSpec : ChangeSpec := { name := "marksNears", fn := fun _ => fun
  | [d1, d2, d3] => { results := [.lit (.bool true)], args := [d1, d2, d3] }
  | _ => none }
def marksNearsRow : OpenClaim := { program := "ytkclpflgndgabaa", sum := "4ea2edff83e385af8555cfa56f41b880b6a4d37d330e298b5fac2a75c056989b", func := "stylus/styluslaw22.MarksNears", spec := "marksNears", inPlace := ["slices.overlaps[stylus/api.Mark]"], unfollowed := true, recurses := true, apart := false }
def MarksNearsSaid : Prop := marksNearsRow.holds Try.pinned (OpenSpec.ofChange marksNearsSpec)

/-- ITS FALSE NEIGHBOUR: 'it returns false'. Refute it at one input. -/
def marksNearsWrong : ChangeSpec := { name := "marksNears", fn := fun _ => fun
  | [d1, d2, d3] => { results := [.lit (.bool false)], args := [d1, d2, d3] }
  | _ => none }
def MarksNearsWrongFalsely : Prop := marksNearsRow.holds Try.pinned (OpenSpec.ofChange marksNearsWrong)

/- THE SECOND FORM. 'bulk': how many values and letters a reading holds, each counted each time it is reached (what is shared counts as often as it is met; a slice's spare places count too). A statement '..UptoSaid' is the law's where the arguments, and the package variables that the reading takes, are together of bulk at most 1048576: NARROWER than '..Said'. Prove '..Said' where nothing that the law and all that it calls make is longer than what came in: it says more and counts as full. Else prove '..UptoSaid'. A law counts once. -/
mutual
def uptoBulk {H : Type} : DataW H → Nat
  | .lit (.string bytes) => bytes.length + 1
  | .lit _ => 1
  | .nil => 1
  | .ptr d => uptoBulk d + 1
  | .slice elems spare => uptoBulkAll elems + uptoBulkAll spare + 1
  | .agg parts => uptoBulkAll parts + 1
  | .iface _ d => uptoBulk d + 1
  | .map entries => uptoBulkEntries entries + 1
  | .held _ => 1
def uptoBulkAll {H : Type} : List (DataW H) → Nat
  | [] => 0
  | d :: r => uptoBulk d + uptoBulkAll r
def uptoBulkEntries {H : Type} : List (Lit × DataW H) → Nat
  | [] => 0
  | x :: r => uptoBulkEntry x + uptoBulkEntries r
def uptoBulkEntry {H : Type} : Lit × DataW H → Nat
  | (.string bytes, d) => bytes.length + uptoBulk d + 1
  | (_, d) => uptoBulk d + 1
 end
def uptoSmall : (H : Type) → List (DataW H) → Bool := fun _ ds => decide (uptoBulkAll ds ≤ 1048576)
def OpenSpec.upto (s : _root_.Go.ChangeSpec) : _root_.Go.OpenSpec := { _root_.Go.OpenSpec.ofChange s with cond := some uptoSmall }

/-- 'styluslaw22.MarksSets', WHERE WHAT IT READS IS OF BULK AT MOST 1048576: true; the input reads as it did. -/
def marksSetsUptoRow : OpenClaim := { program := "ytkclpflgndgabaa", sum := "4ea2edff83e385af8555cfa56f41b880b6a4d37d330e298b5fac2a75c056989b", func := "stylus/styluslaw22.MarksSets", spec := "marksSets", inPlace := ["slices.overlaps[stylus/api.Mark]"], unfollowed := true, recurses := true, apart := false, narrowed := true }
def MarksSetsUptoSaid : Prop := marksSetsUptoRow.holds Try.pinned (OpenSpec.upto marksSetsSpec)

/-- 'styluslaw22.MarksFinds', WHERE WHAT IT READS IS OF BULK AT MOST 1048576: true; the input reads as it did. -/
def marksFindsUptoRow : OpenClaim := { program := "ytkclpflgndgabaa", sum := "4ea2edff83e385af8555cfa56f41b880b6a4d37d330e298b5fac2a75c056989b", func := "stylus/styluslaw22.MarksFinds", spec := "marksFinds", inPlace := ["slices.overlaps[stylus/api.Mark]", "internal/bytealg.abigen_runtime_cmpstring"], unfollowed := true, recurses := true, apart := false, narrowed := true }
def MarksFindsUptoSaid : Prop := marksFindsUptoRow.holds Try.pinned (OpenSpec.upto marksFindsSpec)

/-- 'styluslaw22.MarksShifts', WHERE WHAT IT READS IS OF BULK AT MOST 1048576: true; the input reads as it did. -/
def marksShiftsUptoRow : OpenClaim := { program := "ytkclpflgndgabaa", sum := "4ea2edff83e385af8555cfa56f41b880b6a4d37d330e298b5fac2a75c056989b", func := "stylus/styluslaw22.MarksShifts", spec := "marksShifts", inPlace := ["slices.overlaps[stylus/api.Mark]", "internal/bytealg.abigen_runtime_cmpstring"], unfollowed := true, recurses := true, apart := false, narrowed := true }
def MarksShiftsUptoSaid : Prop := marksShiftsUptoRow.holds Try.pinned (OpenSpec.upto marksShiftsSpec)

/-- 'styluslaw22.MarksNears', WHERE WHAT IT READS IS OF BULK AT MOST 1048576: true; the input reads as it did. -/
def marksNearsUptoRow : OpenClaim := { program := "ytkclpflgndgabaa", sum := "4ea2edff83e385af8555cfa56f41b880b6a4d37d330e298b5fac2a75c056989b", func := "stylus/styluslaw22.MarksNears", spec := "marksNears", inPlace := ["slices.overlaps[stylus/api.Mark]"], unfollowed := true, recurses := true, apart := false, narrowed := true }
def MarksNearsUptoSaid : Prop := marksNearsUptoRow.holds Try.pinned (OpenSpec.upto marksNearsSpec)

end Rows
end Go.Proofs.Ytkclpflgndgabaa
