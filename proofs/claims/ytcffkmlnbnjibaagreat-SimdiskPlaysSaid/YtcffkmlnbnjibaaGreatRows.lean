/-
  No cell of these rows narrows 'for every input' (looked for: loops, veiled, ifaces, maps, wideKeys, modest, calm, conditions, laid).
  DERIVED. THE GIVEN ROWS OF THIS SEAT. 6 by the template 'for every input the law returns true; each argument reads behind the call as it read before'; 0 by the template 'total and deterministic' (their statements: YtcffkmlnbnjibaaGreatTotals.lean).
  GIVEN WITH THE SEED: the statements are not yours to turn. If you find one false, say at which input.
  Laid BY PROGRAM, IN A SANDBOX (cutbox-rows.mjs): the forced cells as the released guide's own fill.sh prints them over the translation 60975d231c445771… (all of the seat's roots in one cut). By AI agents, Wed Nov 11 2026. No macro, syntax, notation, axiom, sorry.
-/
import Derived.Test.YtcffkmlnbnjibaaGreatChecked
import GoSem.Claim
import GoSem.ClaimJoined
import GoSem.ClaimMapViews
import Derived.JoinedTies
import Derived.KernelRfl
namespace Go.Proofs.YtcffkmlnbnjibaaGreat
/- THE CELL 'sum', in the pinned program and in every row, IS THE sha256 OF THE DUMP (.gsa) THAT YtcffkmlnbnjibaaGreatProg.lean LOADS. Nothing in Lean hashes anything: it is a label: what it is worth is what the hold of that sum in a sandbox is worth. -/
noncomputable def Tryz.pinned : Pinned := { name := "ytcffkmlnbnjibaagreat", sum := "60975d231c4457710f70c7a0d7db66f7b39f6ce488ba8f880a3169ccb44af907", checked := Tryz.checked }
namespace Rows
def none {H : Type} : Left H := { results := [], args := [] }

/-- 'styluslaw11.SimdiskNobody': WHATEVER THE INPUT: true; the input reads as it did. -/
def simdiskNobodySpec : ChangeSpec := { name := "simdiskNobody", fn := fun _ => fun
  | [d1, d2] => { results := [.lit (.bool true)], args := [d1, d2] }
  | _ => none }
def simdiskNobodyRow : OpenClaim := { program := "ytcffkmlnbnjibaagreat", sum := "60975d231c4457710f70c7a0d7db66f7b39f6ce488ba8f880a3169ccb44af907", func := "stylus/styluslaw11.SimdiskNobody", spec := "simdiskNobody", inPlace := ["maps.clone"], unfollowed := true, recurses := true, apart := false }
def SimdiskNobodySaid : Prop := simdiskNobodyRow.holds Tryz.pinned (OpenSpec.ofChange simdiskNobodySpec)

/-- ITS FALSE NEIGHBOUR: 'it returns false'. Refute it at one input. -/
def simdiskNobodyWrong : ChangeSpec := { name := "simdiskNobody", fn := fun _ => fun
  | [d1, d2] => { results := [.lit (.bool false)], args := [d1, d2] }
  | _ => none }
def SimdiskNobodyWrongFalsely : Prop := simdiskNobodyRow.holds Tryz.pinned (OpenSpec.ofChange simdiskNobodyWrong)

/-- 'styluslaw11.SimdiskLoads': WHATEVER THE INPUT: true; the input reads as it did. -/
def simdiskLoadsSpec : ChangeSpec := { name := "simdiskLoads", fn := fun _ => fun
  | [d1, d2, d3] => { results := [.lit (.bool true)], args := [d1, d2, d3] }
  | _ => none }
def simdiskLoadsRow : OpenClaim := { program := "ytcffkmlnbnjibaagreat", sum := "60975d231c4457710f70c7a0d7db66f7b39f6ce488ba8f880a3169ccb44af907", func := "stylus/styluslaw11.SimdiskLoads", spec := "simdiskLoads", inPlace := ["maps.clone"], unfollowed := true, recurses := true, apart := false }
def SimdiskLoadsSaid : Prop := simdiskLoadsRow.holds Tryz.pinned (OpenSpec.ofChange simdiskLoadsSpec)

/-- ITS FALSE NEIGHBOUR: 'it returns false'. Refute it at one input. -/
def simdiskLoadsWrong : ChangeSpec := { name := "simdiskLoads", fn := fun _ => fun
  | [d1, d2, d3] => { results := [.lit (.bool false)], args := [d1, d2, d3] }
  | _ => none }
def SimdiskLoadsWrongFalsely : Prop := simdiskLoadsRow.holds Tryz.pinned (OpenSpec.ofChange simdiskLoadsWrong)

/-- 'styluslaw11.SimdiskPlays': WHATEVER THE INPUT: true; the input reads as it did. -/
def simdiskPlaysSpec : ChangeSpec := { name := "simdiskPlays", fn := fun _ => fun
  | [d1, d2] => { results := [.lit (.bool true)], args := [d1, d2] }
  | _ => none }
def simdiskPlaysRow : OpenClaim := { program := "ytcffkmlnbnjibaagreat", sum := "60975d231c4457710f70c7a0d7db66f7b39f6ce488ba8f880a3169ccb44af907", func := "stylus/styluslaw11.SimdiskPlays", spec := "simdiskPlays", inPlace := ["maps.clone"], unfollowed := true, recurses := true, apart := false }
def SimdiskPlaysSaid : Prop := simdiskPlaysRow.holds Tryz.pinned (OpenSpec.ofChange simdiskPlaysSpec)

/-- ITS FALSE NEIGHBOUR: 'it returns false'. Refute it at one input. -/
def simdiskPlaysWrong : ChangeSpec := { name := "simdiskPlays", fn := fun _ => fun
  | [d1, d2] => { results := [.lit (.bool false)], args := [d1, d2] }
  | _ => none }
def SimdiskPlaysWrongFalsely : Prop := simdiskPlaysRow.holds Tryz.pinned (OpenSpec.ofChange simdiskPlaysWrong)

/-- 'styluslaw35.PublishWrites': WHATEVER THE INPUT: true; the input reads as it did. -/
def publishWritesSpec : ChangeSpec := { name := "publishWrites", fn := fun _ => fun
  | [d1, d2, d3] => { results := [.lit (.bool true)], args := [d1, d2, d3] }
  | _ => none }
def publishWritesRow : OpenClaim := { program := "ytcffkmlnbnjibaagreat", sum := "60975d231c4457710f70c7a0d7db66f7b39f6ce488ba8f880a3169ccb44af907", func := "stylus/styluslaw35.PublishWrites", spec := "publishWrites", inPlace := ["maps.clone"], unfollowed := true, recurses := true, apart := false }
def PublishWritesSaid : Prop := publishWritesRow.holds Tryz.pinned (OpenSpec.ofChange publishWritesSpec)

/-- ITS FALSE NEIGHBOUR: 'it returns false'. Refute it at one input. -/
def publishWritesWrong : ChangeSpec := { name := "publishWrites", fn := fun _ => fun
  | [d1, d2, d3] => { results := [.lit (.bool false)], args := [d1, d2, d3] }
  | _ => none }
def PublishWritesWrongFalsely : Prop := publishWritesRow.holds Tryz.pinned (OpenSpec.ofChange publishWritesWrong)

/-- 'styluslaw38.ExportSaves': WHATEVER THE INPUT: true; the input reads as it did. -/
def exportSavesSpec : ChangeSpec := { name := "exportSaves", fn := fun _ => fun
  | [d1, d2, d3] => { results := [.lit (.bool true)], args := [d1, d2, d3] }
  | _ => none }
def exportSavesRow : OpenClaim := { program := "ytcffkmlnbnjibaagreat", sum := "60975d231c4457710f70c7a0d7db66f7b39f6ce488ba8f880a3169ccb44af907", func := "stylus/styluslaw38.ExportSaves", spec := "exportSaves", inPlace := ["maps.clone"], unfollowed := true, recurses := true, apart := false }
def ExportSavesSaid : Prop := exportSavesRow.holds Tryz.pinned (OpenSpec.ofChange exportSavesSpec)

/-- ITS FALSE NEIGHBOUR: 'it returns false'. Refute it at one input. -/
def exportSavesWrong : ChangeSpec := { name := "exportSaves", fn := fun _ => fun
  | [d1, d2, d3] => { results := [.lit (.bool false)], args := [d1, d2, d3] }
  | _ => none }
def ExportSavesWrongFalsely : Prop := exportSavesRow.holds Tryz.pinned (OpenSpec.ofChange exportSavesWrong)

/-- 'styluslaw38.ExportWhole': WHATEVER THE INPUT: true; the input reads as it did. -/
def exportWholeSpec : ChangeSpec := { name := "exportWhole", fn := fun _ => fun
  | [d] => { results := [.lit (.bool true)], args := [d] }
  | _ => none }
def exportWholeRow : OpenClaim := { program := "ytcffkmlnbnjibaagreat", sum := "60975d231c4457710f70c7a0d7db66f7b39f6ce488ba8f880a3169ccb44af907", func := "stylus/styluslaw38.ExportWhole", spec := "exportWhole", inPlace := ["maps.clone"], unfollowed := true, recurses := true, apart := false }
def ExportWholeSaid : Prop := exportWholeRow.holds Tryz.pinned (OpenSpec.ofChange exportWholeSpec)

/-- ITS FALSE NEIGHBOUR: 'it returns false'. Refute it at one input. -/
def exportWholeWrong : ChangeSpec := { name := "exportWhole", fn := fun _ => fun
  | [d] => { results := [.lit (.bool false)], args := [d] }
  | _ => none }
def ExportWholeWrongFalsely : Prop := exportWholeRow.holds Tryz.pinned (OpenSpec.ofChange exportWholeWrong)

/- THE SECOND FORM. 'bulk': how many values and letters a reading holds, each counted each time it is reached (what is shared counts as often as it is met; a slice's spare places count too). A statement '..UptoSaid' is the law's where the arguments, and the package variables that the reading takes, are together of bulk at most 1048576: NARROWER than '..Said'. Prove '..Said' where nothing that the law and all that it calls make is longer than what came in: it says more and counts as full. Else prove '..UptoSaid'. A law counts once. -/
mutual
def uptoBulk {H : Type} : DataW H → Nat
  | .lit (.string bytes) => bytes.length + 1
  | .lit _ => 1
  | .nil => 1
  | .ptr d => uptoBulk d + 1
  | .slice elems spare => uptoBulkAll elems + uptoBulkAll spare + 1
  | .agg parts => uptoBulkAll parts + 1
  | .iface _ d => uptoBulk d + 1
  | .map entries => uptoBulkEntries entries + 1
  | .held _ => 1
def uptoBulkAll {H : Type} : List (DataW H) → Nat
  | [] => 0
  | d :: r => uptoBulk d + uptoBulkAll r
def uptoBulkEntries {H : Type} : List (Lit × DataW H) → Nat
  | [] => 0
  | x :: r => uptoBulkEntry x + uptoBulkEntries r
def uptoBulkEntry {H : Type} : Lit × DataW H → Nat
  | (.string bytes, d) => bytes.length + uptoBulk d + 1
  | (_, d) => uptoBulk d + 1
 end
def uptoSmall : (H : Type) → List (DataW H) → Bool := fun _ ds => decide (uptoBulkAll ds ≤ 1048576)
def OpenSpec.upto (s : _root_.Go.ChangeSpec) : _root_.Go.OpenSpec := { _root_.Go.OpenSpec.ofChange s with cond := some uptoSmall }

/-- 'styluslaw11.SimdiskNobody', WHERE WHAT IT READS IS OF BULK AT MOST 1048576: true; the input reads as it did. -/
def simdiskNobodyUptoRow : OpenClaim := { program := "ytcffkmlnbnjibaagreat", sum := "60975d231c4457710f70c7a0d7db66f7b39f6ce488ba8f880a3169ccb44af907", func := "stylus/styluslaw11.SimdiskNobody", spec := "simdiskNobody", inPlace := ["maps.clone"], unfollowed := true, recurses := true, apart := false, narrowed := true }
def SimdiskNobodyUptoSaid : Prop := simdiskNobodyUptoRow.holds Tryz.pinned (OpenSpec.upto simdiskNobodySpec)

/-- 'styluslaw11.SimdiskLoads', WHERE WHAT IT READS IS OF BULK AT MOST 1048576: true; the input reads as it did. -/
def simdiskLoadsUptoRow : OpenClaim := { program := "ytcffkmlnbnjibaagreat", sum := "60975d231c4457710f70c7a0d7db66f7b39f6ce488ba8f880a3169ccb44af907", func := "stylus/styluslaw11.SimdiskLoads", spec := "simdiskLoads", inPlace := ["maps.clone"], unfollowed := true, recurses := true, apart := false, narrowed := true }
def SimdiskLoadsUptoSaid : Prop := simdiskLoadsUptoRow.holds Tryz.pinned (OpenSpec.upto simdiskLoadsSpec)

/-- 'styluslaw11.SimdiskPlays', WHERE WHAT IT READS IS OF BULK AT MOST 1048576: true; the input reads as it did. -/
def simdiskPlaysUptoRow : OpenClaim := { program := "ytcffkmlnbnjibaagreat", sum := "60975d231c4457710f70c7a0d7db66f7b39f6ce488ba8f880a3169ccb44af907", func := "stylus/styluslaw11.SimdiskPlays", spec := "simdiskPlays", inPlace := ["maps.clone"], unfollowed := true, recurses := true, apart := false, narrowed := true }
def SimdiskPlaysUptoSaid : Prop := simdiskPlaysUptoRow.holds Tryz.pinned (OpenSpec.upto simdiskPlaysSpec)

/-- 'styluslaw35.PublishWrites', WHERE WHAT IT READS IS OF BULK AT MOST 1048576: true; the input reads as it did. -/
def publishWritesUptoRow : OpenClaim := { program := "ytcffkmlnbnjibaagreat", sum := "60975d231c4457710f70c7a0d7db66f7b39f6ce488ba8f880a3169ccb44af907", func := "stylus/styluslaw35.PublishWrites", spec := "publishWrites", inPlace := ["maps.clone"], unfollowed := true, recurses := true, apart := false, narrowed := true }
def PublishWritesUptoSaid : Prop := publishWritesUptoRow.holds Tryz.pinned (OpenSpec.upto publishWritesSpec)

/-- 'styluslaw38.ExportSaves', WHERE WHAT IT READS IS OF BULK AT MOST 1048576: true; the input reads as it did. -/
def exportSavesUptoRow : OpenClaim := { program := "ytcffkmlnbnjibaagreat", sum := "60975d231c4457710f70c7a0d7db66f7b39f6ce488ba8f880a3169ccb44af907", func := "stylus/styluslaw38.ExportSaves", spec := "exportSaves", inPlace := ["maps.clone"], unfollowed := true, recurses := true, apart := false, narrowed := true }
def ExportSavesUptoSaid : Prop := exportSavesUptoRow.holds Tryz.pinned (OpenSpec.upto exportSavesSpec)

/-- 'styluslaw38.ExportWhole', WHERE WHAT IT READS IS OF BULK AT MOST 1048576: true; the input reads as it did. -/
def exportWholeUptoRow : OpenClaim := { program := "ytcffkmlnbnjibaagreat", sum := "60975d231c4457710f70c7a0d7db66f7b39f6ce488ba8f880a3169ccb44af907", func := "stylus/styluslaw38.ExportWhole", spec := "exportWhole", inPlace := ["maps.clone"], unfollowed := true, recurses := true, apart := false, narrowed := true }
def ExportWholeUptoSaid : Prop := exportWholeUptoRow.holds Tryz.pinned (OpenSpec.upto exportWholeSpec)

end Rows
end Go.Proofs.YtcffkmlnbnjibaaGreat
