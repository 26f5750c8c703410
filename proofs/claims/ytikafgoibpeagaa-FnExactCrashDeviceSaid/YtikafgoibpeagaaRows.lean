/-
  No cell of these rows narrows 'for every input' (looked for: loops, veiled, ifaces, maps, wideKeys, modest, calm, conditions, laid).
  DERIVED. THE GIVEN ROWS OF THIS SEAT. 5 by the template 'for every input the law returns true; each argument reads behind the call as it read before'; 0 by the template 'total and deterministic' (their statements: YtikafgoibpeagaaTotals.lean).
  GIVEN WITH THE SEED: the statements are not yours to turn. If you find one false, say at which input.
  Laid BY PROGRAM, IN A SANDBOX (cutbox-rows.mjs): the forced cells as the released guide's own fill.sh prints them over the translation eb68131a96ca9c99… (all of the seat's roots in one cut). By AI agents, Wed Nov 11 2026. No macro, syntax, notation, axiom, sorry.
-/
import Derived.Test.YtikafgoibpeagaaChecked
import GoSem.Claim
import GoSem.ClaimJoined
import GoSem.ClaimMapViews
import Derived.JoinedTies
import Derived.KernelRfl
namespace Go.Proofs.Ytikafgoibpeagaa
/- THE CELL 'sum', in the pinned program and in every row, IS THE sha256 OF THE DUMP (.gsa) THAT YtikafgoibpeagaaProg.lean LOADS. Nothing in Lean hashes anything: it is a label: what it is worth is what the hold of that sum in a sandbox is worth. -/
noncomputable def Try.pinned : Pinned := { name := "ytikafgoibpeagaa", sum := "eb68131a96ca9c99063efa8bbfb869e3c0d123e9b450d8066b8f431937845af7", checked := Try.checked }
namespace Rows
def none {H : Type} : Left H := { results := [], args := [] }

/-- 'laws.FnExactFlushDevice': WHATEVER THE INPUT: true; the input reads as it did. -/
def fnExactFlushDeviceSpec : ChangeSpec := { name := "fnExactFlushDevice", fn := fun _ => fun
  | [d] => { results := [.lit (.bool true)], args := [d] }
  | _ => none }
def fnExactFlushDeviceRow : OpenClaim := { program := "ytikafgoibpeagaa", sum := "eb68131a96ca9c99063efa8bbfb869e3c0d123e9b450d8066b8f431937845af7", func := "loop.example/g00541/laws.FnExactFlushDevice", spec := "fnExactFlushDevice", unfollowed := true, recurses := true, apart := false }
def FnExactFlushDeviceSaid : Prop := fnExactFlushDeviceRow.holds Try.pinned (OpenSpec.ofChange fnExactFlushDeviceSpec)

/-- ITS FALSE NEIGHBOUR: 'it returns false'. Refute it at one input. -/
def fnExactFlushDeviceWrong : ChangeSpec := { name := "fnExactFlushDevice", fn := fun _ => fun
  | [d] => { results := [.lit (.bool false)], args := [d] }
  | _ => none }
def FnExactFlushDeviceWrongFalsely : Prop := fnExactFlushDeviceRow.holds Try.pinned (OpenSpec.ofChange fnExactFlushDeviceWrong)

/-- 'laws.FnExactAppendZone': WHATEVER THE INPUT: true; the input reads as it did. -/
def fnExactAppendZoneSpec : ChangeSpec := { name := "fnExactAppendZone", fn := fun _ => fun
  | [d1, d2, d3] => { results := [.lit (.bool true)], args := [d1, d2, d3] }
  | _ => none }
def fnExactAppendZoneRow : OpenClaim := { program := "ytikafgoibpeagaa", sum := "eb68131a96ca9c99063efa8bbfb869e3c0d123e9b450d8066b8f431937845af7", func := "loop.example/g00541/laws.FnExactAppendZone", spec := "fnExactAppendZone", unfollowed := true, recurses := true, apart := false }
def FnExactAppendZoneSaid : Prop := fnExactAppendZoneRow.holds Try.pinned (OpenSpec.ofChange fnExactAppendZoneSpec)

/-- ITS FALSE NEIGHBOUR: 'it returns false'. Refute it at one input. -/
def fnExactAppendZoneWrong : ChangeSpec := { name := "fnExactAppendZone", fn := fun _ => fun
  | [d1, d2, d3] => { results := [.lit (.bool false)], args := [d1, d2, d3] }
  | _ => none }
def FnExactAppendZoneWrongFalsely : Prop := fnExactAppendZoneRow.holds Try.pinned (OpenSpec.ofChange fnExactAppendZoneWrong)

/-- 'laws.FnExactCrashDevice': WHATEVER THE INPUT: true; the input reads as it did. -/
def fnExactCrashDeviceSpec : ChangeSpec := { name := "fnExactCrashDevice", fn := fun _ => fun
  | [d1, d2] => { results := [.lit (.bool true)], args := [d1, d2] }
  | _ => none }
def fnExactCrashDeviceRow : OpenClaim := { program := "ytikafgoibpeagaa", sum := "eb68131a96ca9c99063efa8bbfb869e3c0d123e9b450d8066b8f431937845af7", func := "loop.example/g00541/laws.FnExactCrashDevice", spec := "fnExactCrashDevice", unfollowed := true, recurses := true, apart := false }
def FnExactCrashDeviceSaid : Prop := fnExactCrashDeviceRow.holds Try.pinned (OpenSpec.ofChange fnExactCrashDeviceSpec)

/-- ITS FALSE NEIGHBOUR: 'it returns false'. Refute it at one input. -/
def fnExactCrashDeviceWrong : ChangeSpec := { name := "fnExactCrashDevice", fn := fun _ => fun
  | [d1, d2] => { results := [.lit (.bool false)], args := [d1, d2] }
  | _ => none }
def FnExactCrashDeviceWrongFalsely : Prop := fnExactCrashDeviceRow.holds Try.pinned (OpenSpec.ofChange fnExactCrashDeviceWrong)

/-- 'laws.FnCrashed': WHATEVER THE INPUT: true; the input reads as it did. -/
def fnCrashedSpec : ChangeSpec := { name := "fnCrashed", fn := fun _ => fun
  | [d1, d2] => { results := [.lit (.bool true)], args := [d1, d2] }
  | _ => none }
def fnCrashedRow : OpenClaim := { program := "ytikafgoibpeagaa", sum := "eb68131a96ca9c99063efa8bbfb869e3c0d123e9b450d8066b8f431937845af7", func := "loop.example/g00541/laws.FnCrashed", spec := "fnCrashed", unfollowed := true, recurses := true, apart := false }
def FnCrashedSaid : Prop := fnCrashedRow.holds Try.pinned (OpenSpec.ofChange fnCrashedSpec)

/-- ITS FALSE NEIGHBOUR: 'it returns false'. Refute it at one input. -/
def fnCrashedWrong : ChangeSpec := { name := "fnCrashed", fn := fun _ => fun
  | [d1, d2] => { results := [.lit (.bool false)], args := [d1, d2] }
  | _ => none }
def FnCrashedWrongFalsely : Prop := fnCrashedRow.holds Try.pinned (OpenSpec.ofChange fnCrashedWrong)

/-- 'laws.FnZones': WHATEVER THE INPUT: true; the input reads as it did. -/
def fnZonesSpec : ChangeSpec := { name := "fnZones", fn := fun _ => fun
  | [d1, d2] => { results := [.lit (.bool true)], args := [d1, d2] }
  | _ => none }
def fnZonesRow : OpenClaim := { program := "ytikafgoibpeagaa", sum := "eb68131a96ca9c99063efa8bbfb869e3c0d123e9b450d8066b8f431937845af7", func := "loop.example/g00541/laws.FnZones", spec := "fnZones", unfollowed := true, recurses := true, apart := false }
def FnZonesSaid : Prop := fnZonesRow.holds Try.pinned (OpenSpec.ofChange fnZonesSpec)

/-- ITS FALSE NEIGHBOUR: 'it returns false'. Refute it at one input. -/
def fnZonesWrong : ChangeSpec := { name := "fnZones", fn := fun _ => fun
  | [d1, d2] => { results := [.lit (.bool false)], args := [d1, d2] }
  | _ => none }
def FnZonesWrongFalsely : Prop := fnZonesRow.holds Try.pinned (OpenSpec.ofChange fnZonesWrong)

/- THE SECOND FORM. 'bulk': how many values and letters a reading holds, each counted each time it is reached (what is shared counts as often as it is met; a slice's spare places count too). A statement '..UptoSaid' is the law's where the arguments, and the package variables that the reading takes, are together of bulk at most 1048576: NARROWER than '..Said'. Prove '..Said' where nothing that the law and all that it calls make is longer than what came in: it says more and counts as full. Else prove '..UptoSaid'. A law counts once. -/
mutual
def uptoBulk {H : Type} : DataW H → Nat
  | .lit (.string bytes) => bytes.length + 1
  | .lit _ => 1
  | .nil => 1
  | .ptr d => uptoBulk d + 1
  | .slice elems spare => uptoBulkAll elems + uptoBulkAll spare + 1
  | .agg parts => uptoBulkAll parts + 1
  | .iface _ d => uptoBulk d + 1
  | .map entries => uptoBulkEntries entries + 1
  | .held _ => 1
def uptoBulkAll {H : Type} : List (DataW H) → Nat
  | [] => 0
  | d :: r => uptoBulk d + uptoBulkAll r
def uptoBulkEntries {H : Type} : List (Lit × DataW H) → Nat
  | [] => 0
  | x :: r => uptoBulkEntry x + uptoBulkEntries r
def uptoBulkEntry {H : Type} : Lit × DataW H → Nat
  | (.string bytes, d) => bytes.length + uptoBulk d + 1
  | (_, d) => uptoBulk d + 1
 end
def uptoSmall : (H : Type) → List (DataW H) → Bool := fun _ ds => decide (uptoBulkAll ds ≤ 1048576)
def OpenSpec.upto (s : _root_.Go.ChangeSpec) : _root_.Go.OpenSpec := { _root_.Go.OpenSpec.ofChange s with cond := some uptoSmall }

/-- 'laws.FnExactFlushDevice', WHERE WHAT IT READS IS OF BULK AT MOST 1048576: true; the input reads as it did. -/
def fnExactFlushDeviceUptoRow : OpenClaim := { program := "ytikafgoibpeagaa", sum := "eb68131a96ca9c99063efa8bbfb869e3c0d123e9b450d8066b8f431937845af7", func := "loop.example/g00541/laws.FnExactFlushDevice", spec := "fnExactFlushDevice", unfollowed := true, recurses := true, apart := false, narrowed := true }
def FnExactFlushDeviceUptoSaid : Prop := fnExactFlushDeviceUptoRow.holds Try.pinned (OpenSpec.upto fnExactFlushDeviceSpec)

/-- 'laws.FnExactAppendZone', WHERE WHAT IT READS IS OF BULK AT MOST 1048576: true; the input reads as it did. -/
def fnExactAppendZoneUptoRow : OpenClaim := { program := "ytikafgoibpeagaa", sum := "eb68131a96ca9c99063efa8bbfb869e3c0d123e9b450d8066b8f431937845af7", func := "loop.example/g00541/laws.FnExactAppendZone", spec := "fnExactAppendZone", unfollowed := true, recurses := true, apart := false, narrowed := true }
def FnExactAppendZoneUptoSaid : Prop := fnExactAppendZoneUptoRow.holds Try.pinned (OpenSpec.upto fnExactAppendZoneSpec)

/-- 'laws.FnExactCrashDevice', WHERE WHAT IT READS IS OF BULK AT MOST 1048576: true; the input reads as it did. -/
def fnExactCrashDeviceUptoRow : OpenClaim := { program := "ytikafgoibpeagaa", sum := "eb68131a96ca9c99063efa8bbfb869e3c0d123e9b450d8066b8f431937845af7", func := "loop.example/g00541/laws.FnExactCrashDevice", spec := "fnExactCrashDevice", unfollowed := true, recurses := true, apart := false, narrowed := true }
def FnExactCrashDeviceUptoSaid : Prop := fnExactCrashDeviceUptoRow.holds Try.pinned (OpenSpec.upto fnExactCrashDeviceSpec)

/-- 'laws.FnCrashed', WHERE WHAT IT READS IS OF BULK AT MOST 1048576: true; the input reads as it did. -/
def fnCrashedUptoRow : OpenClaim := { program := "ytikafgoibpeagaa", sum := "eb68131a96ca9c99063efa8bbfb869e3c0d123e9b450d8066b8f431937845af7", func := "loop.example/g00541/laws.FnCrashed", spec := "fnCrashed", unfollowed := true, recurses := true, apart := false, narrowed := true }
def FnCrashedUptoSaid : Prop := fnCrashedUptoRow.holds Try.pinned (OpenSpec.upto fnCrashedSpec)

/-- 'laws.FnZones', WHERE WHAT IT READS IS OF BULK AT MOST 1048576: true; the input reads as it did. -/
def fnZonesUptoRow : OpenClaim := { program := "ytikafgoibpeagaa", sum := "eb68131a96ca9c99063efa8bbfb869e3c0d123e9b450d8066b8f431937845af7", func := "loop.example/g00541/laws.FnZones", spec := "fnZones", unfollowed := true, recurses := true, apart := false, narrowed := true }
def FnZonesUptoSaid : Prop := fnZonesUptoRow.holds Try.pinned (OpenSpec.upto fnZonesSpec)

end Rows
end Go.Proofs.Ytikafgoibpeagaa
