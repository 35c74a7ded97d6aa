/-
  No cell of these rows narrows 'for every input' (looked for: loops, veiled, ifaces, maps, wideKeys, modest, calm, conditions, laid).
  DERIVED. THE GIVEN ROWS OF THIS SEAT. 5 by the template 'for every input the law returns true; each argument reads behind the call as it read before'; 0 by the template 'total and deterministic' (their statements: YtomfcgeibbicoaaGreatTotals.lean).
  GIVEN WITH THE SEED: the statements are not yours to turn. If you find one false, say at which input.
  Laid BY PROGRAM, IN A SANDBOX (cutbox-rows.mjs): the forced cells as the released guide's own fill.sh prints them over the translation b6a3ed3922ce3e56… (all of the seat's roots in one cut). By AI agents, Wed Nov 11 2026. No macro, syntax, notation, axiom, sorry.
-/
import Derived.Test.YtomfcgeibbicoaaGreatChecked
import GoSem.Claim
import GoSem.ClaimJoined
import GoSem.ClaimMapViews
import Derived.JoinedTies
import Derived.KernelRfl
namespace Go.Proofs.YtomfcgeibbicoaaGreat
/- THE CELL 'sum', in the pinned program and in every row, IS THE sha256 OF THE DUMP (.gsa) THAT YtomfcgeibbicoaaGreatProg.lean LOADS. Nothing in Lean hashes anything: it is a label: what it is worth is what the hold of that sum in a sandbox is worth. -/
noncomputable def Tryz.pinned : Pinned := { name := "ytomfcgeibbicoaagreat", sum := "b6a3ed3922ce3e5670b8d42cd98aabe988e4d86c9def873f83b5e68742bd4244", checked := Tryz.checked }
namespace Rows
def none {H : Type} : Left H := { results := [], args := [] }

/-- 'styluslaw37.SweepRemoves': WHATEVER THE INPUT: true; the input reads as it did. -/
def sweepRemovesSpec : ChangeSpec := { name := "sweepRemoves", fn := fun _ => fun
  | [d1, d2] => { results := [.lit (.bool true)], args := [d1, d2] }
  | _ => none }
def sweepRemovesRow : OpenClaim := { program := "ytomfcgeibbicoaagreat", sum := "b6a3ed3922ce3e5670b8d42cd98aabe988e4d86c9def873f83b5e68742bd4244", func := "stylus/styluslaw37.SweepRemoves", spec := "sweepRemoves", inPlace := ["maps.clone", "internal/bytealg.IndexByteString", "internal/bytealg.IndexString"], unfollowed := true, recurses := true, named := ["internal/bytealg.MaxLen"], apart := false }
def SweepRemovesSaid : Prop := sweepRemovesRow.holds Tryz.pinned (OpenSpec.ofChange sweepRemovesSpec)

/-- ITS FALSE NEIGHBOUR: 'it returns false'. Refute it at one input. -/
def sweepRemovesWrong : ChangeSpec := { name := "sweepRemoves", fn := fun _ => fun
  | [d1, d2] => { results := [.lit (.bool false)], args := [d1, d2] }
  | _ => none }
def SweepRemovesWrongFalsely : Prop := sweepRemovesRow.holds Tryz.pinned (OpenSpec.ofChange sweepRemovesWrong)

/-- 'styluslaw33.JournalNobody': WHATEVER THE INPUT: true; the input reads as it did. -/
def journalNobodySpec : ChangeSpec := { name := "journalNobody", fn := fun _ => fun
  | [d1, d2] => { results := [.lit (.bool true)], args := [d1, d2] }
  | _ => none }
def journalNobodyRow : OpenClaim := { program := "ytomfcgeibbicoaagreat", sum := "b6a3ed3922ce3e5670b8d42cd98aabe988e4d86c9def873f83b5e68742bd4244", func := "stylus/styluslaw33.JournalNobody", spec := "journalNobody", inPlace := ["maps.clone", "internal/abi.NoEscape", "internal/bytealg.MakeNoZero"], unfollowed := true, recurses := true, apart := false }
def JournalNobodySaid : Prop := journalNobodyRow.holds Tryz.pinned (OpenSpec.ofChange journalNobodySpec)

/-- ITS FALSE NEIGHBOUR: 'it returns false'. Refute it at one input. -/
def journalNobodyWrong : ChangeSpec := { name := "journalNobody", fn := fun _ => fun
  | [d1, d2] => { results := [.lit (.bool false)], args := [d1, d2] }
  | _ => none }
def JournalNobodyWrongFalsely : Prop := journalNobodyRow.holds Tryz.pinned (OpenSpec.ofChange journalNobodyWrong)

/-- 'styluslaw33.JournalFrames': WHATEVER THE INPUT: true; the input reads as it did. -/
def journalFramesSpec : ChangeSpec := { name := "journalFrames", fn := fun _ => fun
  | [d] => { results := [.lit (.bool true)], args := [d] }
  | _ => none }
def journalFramesRow : OpenClaim := { program := "ytomfcgeibbicoaagreat", sum := "b6a3ed3922ce3e5670b8d42cd98aabe988e4d86c9def873f83b5e68742bd4244", func := "stylus/styluslaw33.JournalFrames", spec := "journalFrames", inPlace := ["maps.clone", "internal/abi.NoEscape", "internal/bytealg.MakeNoZero"], unfollowed := true, recurses := true, apart := false }
def JournalFramesSaid : Prop := journalFramesRow.holds Tryz.pinned (OpenSpec.ofChange journalFramesSpec)

/-- ITS FALSE NEIGHBOUR: 'it returns false'. Refute it at one input. -/
def journalFramesWrong : ChangeSpec := { name := "journalFrames", fn := fun _ => fun
  | [d] => { results := [.lit (.bool false)], args := [d] }
  | _ => none }
def JournalFramesWrongFalsely : Prop := journalFramesRow.holds Tryz.pinned (OpenSpec.ofChange journalFramesWrong)

/-- 'styluslaw37.SweepLeaves': WHATEVER THE INPUT: true; the input reads as it did. -/
def sweepLeavesSpec : ChangeSpec := { name := "sweepLeaves", fn := fun _ => fun
  | [d1, d2, d3] => { results := [.lit (.bool true)], args := [d1, d2, d3] }
  | _ => none }
def sweepLeavesRow : OpenClaim := { program := "ytomfcgeibbicoaagreat", sum := "b6a3ed3922ce3e5670b8d42cd98aabe988e4d86c9def873f83b5e68742bd4244", func := "stylus/styluslaw37.SweepLeaves", spec := "sweepLeaves", inPlace := ["maps.clone", "internal/bytealg.IndexByteString", "internal/bytealg.IndexString"], unfollowed := true, recurses := true, named := ["internal/bytealg.MaxLen"], apart := false }
def SweepLeavesSaid : Prop := sweepLeavesRow.holds Tryz.pinned (OpenSpec.ofChange sweepLeavesSpec)

/-- ITS FALSE NEIGHBOUR: 'it returns false'. Refute it at one input. -/
def sweepLeavesWrong : ChangeSpec := { name := "sweepLeaves", fn := fun _ => fun
  | [d1, d2, d3] => { results := [.lit (.bool false)], args := [d1, d2, d3] }
  | _ => none }
def SweepLeavesWrongFalsely : Prop := sweepLeavesRow.holds Tryz.pinned (OpenSpec.ofChange sweepLeavesWrong)

/-- 'styluslaw33.JournalPlays': WHATEVER THE INPUT: true; the input reads as it did. -/
def journalPlaysSpec : ChangeSpec := { name := "journalPlays", fn := fun _ => fun
  | [d1, d2, d3] => { results := [.lit (.bool true)], args := [d1, d2, d3] }
  | _ => none }
def journalPlaysRow : OpenClaim := { program := "ytomfcgeibbicoaagreat", sum := "b6a3ed3922ce3e5670b8d42cd98aabe988e4d86c9def873f83b5e68742bd4244", func := "stylus/styluslaw33.JournalPlays", spec := "journalPlays", inPlace := ["maps.clone", "internal/abi.NoEscape", "internal/bytealg.MakeNoZero"], unfollowed := true, recurses := true, apart := false }
def JournalPlaysSaid : Prop := journalPlaysRow.holds Tryz.pinned (OpenSpec.ofChange journalPlaysSpec)

/-- ITS FALSE NEIGHBOUR: 'it returns false'. Refute it at one input. -/
def journalPlaysWrong : ChangeSpec := { name := "journalPlays", fn := fun _ => fun
  | [d1, d2, d3] => { results := [.lit (.bool false)], args := [d1, d2, d3] }
  | _ => none }
def JournalPlaysWrongFalsely : Prop := journalPlaysRow.holds Tryz.pinned (OpenSpec.ofChange journalPlaysWrong)

/- THE SECOND FORM. 'bulk': how many values and letters a reading holds, each counted each time it is reached (what is shared counts as often as it is met; a slice's spare places count too). A statement '..UptoSaid' is the law's where the arguments, and the package variables that the reading takes, are together of bulk at most 1048576: NARROWER than '..Said'. Prove '..Said' where nothing that the law and all that it calls make is longer than what came in: it says more and counts as full. Else prove '..UptoSaid'. A law counts once. -/
mutual
def uptoBulk {H : Type} : DataW H → Nat
  | .lit (.string bytes) => bytes.length + 1
  | .lit _ => 1
  | .nil => 1
  | .ptr d => uptoBulk d + 1
  | .slice elems spare => uptoBulkAll elems + uptoBulkAll spare + 1
  | .agg parts => uptoBulkAll parts + 1
  | .iface _ d => uptoBulk d + 1
  | .map entries => uptoBulkEntries entries + 1
  | .held _ => 1
def uptoBulkAll {H : Type} : List (DataW H) → Nat
  | [] => 0
  | d :: r => uptoBulk d + uptoBulkAll r
def uptoBulkEntries {H : Type} : List (Lit × DataW H) → Nat
  | [] => 0
  | x :: r => uptoBulkEntry x + uptoBulkEntries r
def uptoBulkEntry {H : Type} : Lit × DataW H → Nat
  | (.string bytes, d) => bytes.length + uptoBulk d + 1
  | (_, d) => uptoBulk d + 1
 end
def uptoSmall : (H : Type) → List (DataW H) → Bool := fun _ ds => decide (uptoBulkAll ds ≤ 1048576)
def OpenSpec.upto (s : _root_.Go.ChangeSpec) : _root_.Go.OpenSpec := { _root_.Go.OpenSpec.ofChange s with cond := some uptoSmall }

/-- 'styluslaw37.SweepRemoves', WHERE WHAT IT READS IS OF BULK AT MOST 1048576: true; the input reads as it did. -/
def sweepRemovesUptoRow : OpenClaim := { program := "ytomfcgeibbicoaagreat", sum := "b6a3ed3922ce3e5670b8d42cd98aabe988e4d86c9def873f83b5e68742bd4244", func := "stylus/styluslaw37.SweepRemoves", spec := "sweepRemoves", inPlace := ["maps.clone", "internal/bytealg.IndexByteString", "internal/bytealg.IndexString"], unfollowed := true, recurses := true, named := ["internal/bytealg.MaxLen"], apart := false, narrowed := true }
def SweepRemovesUptoSaid : Prop := sweepRemovesUptoRow.holds Tryz.pinned (OpenSpec.upto sweepRemovesSpec)

/-- 'styluslaw33.JournalNobody', WHERE WHAT IT READS IS OF BULK AT MOST 1048576: true; the input reads as it did. -/
def journalNobodyUptoRow : OpenClaim := { program := "ytomfcgeibbicoaagreat", sum := "b6a3ed3922ce3e5670b8d42cd98aabe988e4d86c9def873f83b5e68742bd4244", func := "stylus/styluslaw33.JournalNobody", spec := "journalNobody", inPlace := ["maps.clone", "internal/abi.NoEscape", "internal/bytealg.MakeNoZero"], unfollowed := true, recurses := true, apart := false, narrowed := true }
def JournalNobodyUptoSaid : Prop := journalNobodyUptoRow.holds Tryz.pinned (OpenSpec.upto journalNobodySpec)

/-- 'styluslaw33.JournalFrames', WHERE WHAT IT READS IS OF BULK AT MOST 1048576: true; the input reads as it did. -/
def journalFramesUptoRow : OpenClaim := { program := "ytomfcgeibbicoaagreat", sum := "b6a3ed3922ce3e5670b8d42cd98aabe988e4d86c9def873f83b5e68742bd4244", func := "stylus/styluslaw33.JournalFrames", spec := "journalFrames", inPlace := ["maps.clone", "internal/abi.NoEscape", "internal/bytealg.MakeNoZero"], unfollowed := true, recurses := true, apart := false, narrowed := true }
def JournalFramesUptoSaid : Prop := journalFramesUptoRow.holds Tryz.pinned (OpenSpec.upto journalFramesSpec)

/-- 'styluslaw37.SweepLeaves', WHERE WHAT IT READS IS OF BULK AT MOST 1048576: true; the input reads as it did. -/
def sweepLeavesUptoRow : OpenClaim := { program := "ytomfcgeibbicoaagreat", sum := "b6a3ed3922ce3e5670b8d42cd98aabe988e4d86c9def873f83b5e68742bd4244", func := "stylus/styluslaw37.SweepLeaves", spec := "sweepLeaves", inPlace := ["maps.clone", "internal/bytealg.IndexByteString", "internal/bytealg.IndexString"], unfollowed := true, recurses := true, named := ["internal/bytealg.MaxLen"], apart := false, narrowed := true }
def SweepLeavesUptoSaid : Prop := sweepLeavesUptoRow.holds Tryz.pinned (OpenSpec.upto sweepLeavesSpec)

/-- 'styluslaw33.JournalPlays', WHERE WHAT IT READS IS OF BULK AT MOST 1048576: true; the input reads as it did. -/
def journalPlaysUptoRow : OpenClaim := { program := "ytomfcgeibbicoaagreat", sum := "b6a3ed3922ce3e5670b8d42cd98aabe988e4d86c9def873f83b5e68742bd4244", func := "stylus/styluslaw33.JournalPlays", spec := "journalPlays", inPlace := ["maps.clone", "internal/abi.NoEscape", "internal/bytealg.MakeNoZero"], unfollowed := true, recurses := true, apart := false, narrowed := true }
def JournalPlaysUptoSaid : Prop := journalPlaysUptoRow.holds Tryz.pinned (OpenSpec.upto journalPlaysSpec)

end Rows
end Go.Proofs.YtomfcgeibbicoaaGreat
