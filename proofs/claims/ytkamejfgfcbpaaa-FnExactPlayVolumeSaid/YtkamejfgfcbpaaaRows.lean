/-
  No cell of these rows narrows 'for every input' (looked for: loops, veiled, ifaces, maps, wideKeys, modest, calm, conditions, laid).
  DERIVED. THE GIVEN ROWS OF THIS SEAT. 8 by the template 'for every input the law returns true; each argument reads behind the call as it read before'; 0 by the template 'total and deterministic' (their statements: YtkamejfgfcbpaaaTotals.lean).
  GIVEN WITH THE SEED: the statements are not yours to turn. If you find one false, say at which input.
  Laid BY PROGRAM, IN A SANDBOX (cutbox-rows.mjs): the forced cells as the released guide's own fill.sh prints them over the translation c8583f812fbe44ec… (all of the seat's roots in one cut). By AI agents, Wed Nov 11 2026. No macro, syntax, notation, axiom, sorry.
-/
import Derived.Test.YtkamejfgfcbpaaaChecked
import GoSem.Claim
import GoSem.ClaimJoined
import GoSem.ClaimMapViews
import Derived.JoinedTies
import Derived.KernelRfl
namespace Go.Proofs.Ytkamejfgfcbpaaa
/- THE CELL 'sum', in the pinned program and in every row, IS THE sha256 OF THE DUMP (.gsa) THAT YtkamejfgfcbpaaaProg.lean LOADS. Nothing in Lean hashes anything: it is a label: what it is worth is what the hold of that sum in a sandbox is worth. -/
noncomputable def Try.pinned : Pinned := { name := "ytkamejfgfcbpaaa", sum := "c8583f812fbe44ec6e91f5bb933364a58ff3cfdd8725a0c999a3fcc57bb84bd8", checked := Try.checked }
namespace Rows
def none {H : Type} : Left H := { results := [], args := [] }

/-- 'laws.FnExactFoldRecords': WHATEVER THE INPUT: true; the input reads as it did. -/
def fnExactFoldRecordsSpec : ChangeSpec := { name := "fnExactFoldRecords", fn := fun _ => fun
  | [d] => { results := [.lit (.bool true)], args := [d] }
  | _ => none }
def fnExactFoldRecordsRow : OpenClaim := { program := "ytkamejfgfcbpaaa", sum := "c8583f812fbe44ec6e91f5bb933364a58ff3cfdd8725a0c999a3fcc57bb84bd8", func := "loop.example/g00541/laws.FnExactFoldRecords", spec := "fnExactFoldRecords", unfollowed := true, recurses := true, apart := false }
def FnExactFoldRecordsSaid : Prop := fnExactFoldRecordsRow.holds Try.pinned (OpenSpec.ofChange fnExactFoldRecordsSpec)

/-- ITS FALSE NEIGHBOUR: 'it returns false'. Refute it at one input. -/
def fnExactFoldRecordsWrong : ChangeSpec := { name := "fnExactFoldRecords", fn := fun _ => fun
  | [d] => { results := [.lit (.bool false)], args := [d] }
  | _ => none }
def FnExactFoldRecordsWrongFalsely : Prop := fnExactFoldRecordsRow.holds Try.pinned (OpenSpec.ofChange fnExactFoldRecordsWrong)

/-- 'laws.FnFolded': WHATEVER THE INPUT: true; the input reads as it did. -/
def fnFoldedSpec : ChangeSpec := { name := "fnFolded", fn := fun _ => fun
  | [d1, d2] => { results := [.lit (.bool true)], args := [d1, d2] }
  | _ => none }
def fnFoldedRow : OpenClaim := { program := "ytkamejfgfcbpaaa", sum := "c8583f812fbe44ec6e91f5bb933364a58ff3cfdd8725a0c999a3fcc57bb84bd8", func := "loop.example/g00541/laws.FnFolded", spec := "fnFolded", unfollowed := true, recurses := true, apart := false }
def FnFoldedSaid : Prop := fnFoldedRow.holds Try.pinned (OpenSpec.ofChange fnFoldedSpec)

/-- ITS FALSE NEIGHBOUR: 'it returns false'. Refute it at one input. -/
def fnFoldedWrong : ChangeSpec := { name := "fnFolded", fn := fun _ => fun
  | [d1, d2] => { results := [.lit (.bool false)], args := [d1, d2] }
  | _ => none }
def FnFoldedWrongFalsely : Prop := fnFoldedRow.holds Try.pinned (OpenSpec.ofChange fnFoldedWrong)

/-- 'laws.FnExactBlocksIn': WHATEVER THE INPUT: true; the input reads as it did. -/
def fnExactBlocksInSpec : ChangeSpec := { name := "fnExactBlocksIn", fn := fun _ => fun
  | [d] => { results := [.lit (.bool true)], args := [d] }
  | _ => none }
def fnExactBlocksInRow : OpenClaim := { program := "ytkamejfgfcbpaaa", sum := "c8583f812fbe44ec6e91f5bb933364a58ff3cfdd8725a0c999a3fcc57bb84bd8", func := "loop.example/g00541/laws.FnExactBlocksIn", spec := "fnExactBlocksIn", unfollowed := true, recurses := true, apart := false }
def FnExactBlocksInSaid : Prop := fnExactBlocksInRow.holds Try.pinned (OpenSpec.ofChange fnExactBlocksInSpec)

/-- ITS FALSE NEIGHBOUR: 'it returns false'. Refute it at one input. -/
def fnExactBlocksInWrong : ChangeSpec := { name := "fnExactBlocksIn", fn := fun _ => fun
  | [d] => { results := [.lit (.bool false)], args := [d] }
  | _ => none }
def FnExactBlocksInWrongFalsely : Prop := fnExactBlocksInRow.holds Try.pinned (OpenSpec.ofChange fnExactBlocksInWrong)

/-- 'laws.FnExactReadBlocks': WHATEVER THE INPUT: true; the input reads as it did. -/
def fnExactReadBlocksSpec : ChangeSpec := { name := "fnExactReadBlocks", fn := fun _ => fun
  | [d1, d2, d3] => { results := [.lit (.bool true)], args := [d1, d2, d3] }
  | _ => none }
def fnExactReadBlocksRow : OpenClaim := { program := "ytkamejfgfcbpaaa", sum := "c8583f812fbe44ec6e91f5bb933364a58ff3cfdd8725a0c999a3fcc57bb84bd8", func := "loop.example/g00541/laws.FnExactReadBlocks", spec := "fnExactReadBlocks", inPlace := ["internal/abi.NoEscape", "internal/bytealg.MakeNoZero"], unfollowed := true, recurses := true, apart := false }
def FnExactReadBlocksSaid : Prop := fnExactReadBlocksRow.holds Try.pinned (OpenSpec.ofChange fnExactReadBlocksSpec)

/-- ITS FALSE NEIGHBOUR: 'it returns false'. Refute it at one input. -/
def fnExactReadBlocksWrong : ChangeSpec := { name := "fnExactReadBlocks", fn := fun _ => fun
  | [d1, d2, d3] => { results := [.lit (.bool false)], args := [d1, d2, d3] }
  | _ => none }
def FnExactReadBlocksWrongFalsely : Prop := fnExactReadBlocksRow.holds Try.pinned (OpenSpec.ofChange fnExactReadBlocksWrong)

/-- 'laws.FnVolume': WHATEVER THE INPUT: true; the input reads as it did. -/
def fnVolumeSpec : ChangeSpec := { name := "fnVolume", fn := fun _ => fun
  | [d] => { results := [.lit (.bool true)], args := [d] }
  | _ => none }
def fnVolumeRow : OpenClaim := { program := "ytkamejfgfcbpaaa", sum := "c8583f812fbe44ec6e91f5bb933364a58ff3cfdd8725a0c999a3fcc57bb84bd8", func := "loop.example/g00541/laws.FnVolume", spec := "fnVolume", unfollowed := true, recurses := true, apart := false }
def FnVolumeSaid : Prop := fnVolumeRow.holds Try.pinned (OpenSpec.ofChange fnVolumeSpec)

/-- ITS FALSE NEIGHBOUR: 'it returns false'. Refute it at one input. -/
def fnVolumeWrong : ChangeSpec := { name := "fnVolume", fn := fun _ => fun
  | [d] => { results := [.lit (.bool false)], args := [d] }
  | _ => none }
def FnVolumeWrongFalsely : Prop := fnVolumeRow.holds Try.pinned (OpenSpec.ofChange fnVolumeWrong)

/-- 'laws.FnExactDoVolume': WHATEVER THE INPUT: true; the input reads as it did. -/
def fnExactDoVolumeSpec : ChangeSpec := { name := "fnExactDoVolume", fn := fun _ => fun
  | [d1, d2] => { results := [.lit (.bool true)], args := [d1, d2] }
  | _ => none }
def fnExactDoVolumeRow : OpenClaim := { program := "ytkamejfgfcbpaaa", sum := "c8583f812fbe44ec6e91f5bb933364a58ff3cfdd8725a0c999a3fcc57bb84bd8", func := "loop.example/g00541/laws.FnExactDoVolume", spec := "fnExactDoVolume", unfollowed := true, recurses := true, apart := false }
def FnExactDoVolumeSaid : Prop := fnExactDoVolumeRow.holds Try.pinned (OpenSpec.ofChange fnExactDoVolumeSpec)

/-- ITS FALSE NEIGHBOUR: 'it returns false'. Refute it at one input. -/
def fnExactDoVolumeWrong : ChangeSpec := { name := "fnExactDoVolume", fn := fun _ => fun
  | [d1, d2] => { results := [.lit (.bool false)], args := [d1, d2] }
  | _ => none }
def FnExactDoVolumeWrongFalsely : Prop := fnExactDoVolumeRow.holds Try.pinned (OpenSpec.ofChange fnExactDoVolumeWrong)

/-- 'laws.FnExactPlayVolume': WHATEVER THE INPUT: true; the input reads as it did. -/
def fnExactPlayVolumeSpec : ChangeSpec := { name := "fnExactPlayVolume", fn := fun _ => fun
  | [d] => { results := [.lit (.bool true)], args := [d] }
  | _ => none }
def fnExactPlayVolumeRow : OpenClaim := { program := "ytkamejfgfcbpaaa", sum := "c8583f812fbe44ec6e91f5bb933364a58ff3cfdd8725a0c999a3fcc57bb84bd8", func := "loop.example/g00541/laws.FnExactPlayVolume", spec := "fnExactPlayVolume", apart := false }
def FnExactPlayVolumeSaid : Prop := fnExactPlayVolumeRow.holds Try.pinned (OpenSpec.ofChange fnExactPlayVolumeSpec)

/-- ITS FALSE NEIGHBOUR: 'it returns false'. Refute it at one input. -/
def fnExactPlayVolumeWrong : ChangeSpec := { name := "fnExactPlayVolume", fn := fun _ => fun
  | [d] => { results := [.lit (.bool false)], args := [d] }
  | _ => none }
def FnExactPlayVolumeWrongFalsely : Prop := fnExactPlayVolumeRow.holds Try.pinned (OpenSpec.ofChange fnExactPlayVolumeWrong)

/-- 'laws.FnVolumes': WHATEVER THE INPUT: true; the input reads as it did. -/
def fnVolumesSpec : ChangeSpec := { name := "fnVolumes", fn := fun _ => fun
  | [d1, d2] => { results := [.lit (.bool true)], args := [d1, d2] }
  | _ => none }
def fnVolumesRow : OpenClaim := { program := "ytkamejfgfcbpaaa", sum := "c8583f812fbe44ec6e91f5bb933364a58ff3cfdd8725a0c999a3fcc57bb84bd8", func := "loop.example/g00541/laws.FnVolumes", spec := "fnVolumes", inPlace := ["internal/abi.NoEscape", "internal/bytealg.MakeNoZero"], unfollowed := true, recurses := true, apart := false }
def FnVolumesSaid : Prop := fnVolumesRow.holds Try.pinned (OpenSpec.ofChange fnVolumesSpec)

/-- ITS FALSE NEIGHBOUR: 'it returns false'. Refute it at one input. -/
def fnVolumesWrong : ChangeSpec := { name := "fnVolumes", fn := fun _ => fun
  | [d1, d2] => { results := [.lit (.bool false)], args := [d1, d2] }
  | _ => none }
def FnVolumesWrongFalsely : Prop := fnVolumesRow.holds Try.pinned (OpenSpec.ofChange fnVolumesWrong)

/- THE SECOND FORM. 'bulk': how many values and letters a reading holds, each counted each time it is reached (what is shared counts as often as it is met; a slice's spare places count too). A statement '..UptoSaid' is the law's where the arguments, and the package variables that the reading takes, are together of bulk at most 1048576: NARROWER than '..Said'. Prove '..Said' where nothing that the law and all that it calls make is longer than what came in: it says more and counts as full. Else prove '..UptoSaid'. A law counts once. -/
mutual
def uptoBulk {H : Type} : DataW H → Nat
  | .lit (.string bytes) => bytes.length + 1
  | .lit _ => 1
  | .nil => 1
  | .ptr d => uptoBulk d + 1
  | .slice elems spare => uptoBulkAll elems + uptoBulkAll spare + 1
  | .agg parts => uptoBulkAll parts + 1
  | .iface _ d => uptoBulk d + 1
  | .map entries => uptoBulkEntries entries + 1
  | .held _ => 1
def uptoBulkAll {H : Type} : List (DataW H) → Nat
  | [] => 0
  | d :: r => uptoBulk d + uptoBulkAll r
def uptoBulkEntries {H : Type} : List (Lit × DataW H) → Nat
  | [] => 0
  | x :: r => uptoBulkEntry x + uptoBulkEntries r
def uptoBulkEntry {H : Type} : Lit × DataW H → Nat
  | (.string bytes, d) => bytes.length + uptoBulk d + 1
  | (_, d) => uptoBulk d + 1
 end
def uptoSmall : (H : Type) → List (DataW H) → Bool := fun _ ds => decide (uptoBulkAll ds ≤ 1048576)
def OpenSpec.upto (s : _root_.Go.ChangeSpec) : _root_.Go.OpenSpec := { _root_.Go.OpenSpec.ofChange s with cond := some uptoSmall }

/-- 'laws.FnExactFoldRecords', WHERE WHAT IT READS IS OF BULK AT MOST 1048576: true; the input reads as it did. -/
def fnExactFoldRecordsUptoRow : OpenClaim := { program := "ytkamejfgfcbpaaa", sum := "c8583f812fbe44ec6e91f5bb933364a58ff3cfdd8725a0c999a3fcc57bb84bd8", func := "loop.example/g00541/laws.FnExactFoldRecords", spec := "fnExactFoldRecords", unfollowed := true, recurses := true, apart := false, narrowed := true }
def FnExactFoldRecordsUptoSaid : Prop := fnExactFoldRecordsUptoRow.holds Try.pinned (OpenSpec.upto fnExactFoldRecordsSpec)

/-- 'laws.FnFolded', WHERE WHAT IT READS IS OF BULK AT MOST 1048576: true; the input reads as it did. -/
def fnFoldedUptoRow : OpenClaim := { program := "ytkamejfgfcbpaaa", sum := "c8583f812fbe44ec6e91f5bb933364a58ff3cfdd8725a0c999a3fcc57bb84bd8", func := "loop.example/g00541/laws.FnFolded", spec := "fnFolded", unfollowed := true, recurses := true, apart := false, narrowed := true }
def FnFoldedUptoSaid : Prop := fnFoldedUptoRow.holds Try.pinned (OpenSpec.upto fnFoldedSpec)

/-- 'laws.FnExactBlocksIn', WHERE WHAT IT READS IS OF BULK AT MOST 1048576: true; the input reads as it did. -/
def fnExactBlocksInUptoRow : OpenClaim := { program := "ytkamejfgfcbpaaa", sum := "c8583f812fbe44ec6e91f5bb933364a58ff3cfdd8725a0c999a3fcc57bb84bd8", func := "loop.example/g00541/laws.FnExactBlocksIn", spec := "fnExactBlocksIn", unfollowed := true, recurses := true, apart := false, narrowed := true }
def FnExactBlocksInUptoSaid : Prop := fnExactBlocksInUptoRow.holds Try.pinned (OpenSpec.upto fnExactBlocksInSpec)

/-- 'laws.FnExactReadBlocks', WHERE WHAT IT READS IS OF BULK AT MOST 1048576: true; the input reads as it did. -/
def fnExactReadBlocksUptoRow : OpenClaim := { program := "ytkamejfgfcbpaaa", sum := "c8583f812fbe44ec6e91f5bb933364a58ff3cfdd8725a0c999a3fcc57bb84bd8", func := "loop.example/g00541/laws.FnExactReadBlocks", spec := "fnExactReadBlocks", inPlace := ["internal/abi.NoEscape", "internal/bytealg.MakeNoZero"], unfollowed := true, recurses := true, apart := false, narrowed := true }
def FnExactReadBlocksUptoSaid : Prop := fnExactReadBlocksUptoRow.holds Try.pinned (OpenSpec.upto fnExactReadBlocksSpec)

/-- 'laws.FnVolume', WHERE WHAT IT READS IS OF BULK AT MOST 1048576: true; the input reads as it did. -/
def fnVolumeUptoRow : OpenClaim := { program := "ytkamejfgfcbpaaa", sum := "c8583f812fbe44ec6e91f5bb933364a58ff3cfdd8725a0c999a3fcc57bb84bd8", func := "loop.example/g00541/laws.FnVolume", spec := "fnVolume", unfollowed := true, recurses := true, apart := false, narrowed := true }
def FnVolumeUptoSaid : Prop := fnVolumeUptoRow.holds Try.pinned (OpenSpec.upto fnVolumeSpec)

/-- 'laws.FnExactDoVolume', WHERE WHAT IT READS IS OF BULK AT MOST 1048576: true; the input reads as it did. -/
def fnExactDoVolumeUptoRow : OpenClaim := { program := "ytkamejfgfcbpaaa", sum := "c8583f812fbe44ec6e91f5bb933364a58ff3cfdd8725a0c999a3fcc57bb84bd8", func := "loop.example/g00541/laws.FnExactDoVolume", spec := "fnExactDoVolume", unfollowed := true, recurses := true, apart := false, narrowed := true }
def FnExactDoVolumeUptoSaid : Prop := fnExactDoVolumeUptoRow.holds Try.pinned (OpenSpec.upto fnExactDoVolumeSpec)

/-- 'laws.FnExactPlayVolume', WHERE WHAT IT READS IS OF BULK AT MOST 1048576: true; the input reads as it did. -/
def fnExactPlayVolumeUptoRow : OpenClaim := { program := "ytkamejfgfcbpaaa", sum := "c8583f812fbe44ec6e91f5bb933364a58ff3cfdd8725a0c999a3fcc57bb84bd8", func := "loop.example/g00541/laws.FnExactPlayVolume", spec := "fnExactPlayVolume", apart := false, narrowed := true }
def FnExactPlayVolumeUptoSaid : Prop := fnExactPlayVolumeUptoRow.holds Try.pinned (OpenSpec.upto fnExactPlayVolumeSpec)

/-- 'laws.FnVolumes', WHERE WHAT IT READS IS OF BULK AT MOST 1048576: true; the input reads as it did. -/
def fnVolumesUptoRow : OpenClaim := { program := "ytkamejfgfcbpaaa", sum := "c8583f812fbe44ec6e91f5bb933364a58ff3cfdd8725a0c999a3fcc57bb84bd8", func := "loop.example/g00541/laws.FnVolumes", spec := "fnVolumes", inPlace := ["internal/abi.NoEscape", "internal/bytealg.MakeNoZero"], unfollowed := true, recurses := true, apart := false, narrowed := true }
def FnVolumesUptoSaid : Prop := fnVolumesUptoRow.holds Try.pinned (OpenSpec.upto fnVolumesSpec)

end Rows
end Go.Proofs.Ytkamejfgfcbpaaa
