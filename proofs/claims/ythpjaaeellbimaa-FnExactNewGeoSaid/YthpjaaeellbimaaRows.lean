/-
  No cell of these rows narrows 'for every input' (looked for: loops, veiled, ifaces, maps, wideKeys, modest, calm, conditions, laid).
  DERIVED. THE GIVEN ROWS OF THIS SEAT. 3 by the template 'for every input the law returns true; each argument reads behind the call as it read before'; 0 by the template 'total and deterministic' (their statements: YthpjaaeellbimaaTotals.lean).
  GIVEN WITH THE SEED: the statements are not yours to turn. If you find one false, say at which input.
  Laid BY PROGRAM, IN A SANDBOX (cutbox-rows.mjs): the forced cells as the released guide's own fill.sh prints them over the translation e252758eaf2ea46c… (all of the seat's roots in one cut). By AI agents, Wed Nov 11 2026. No macro, syntax, notation, axiom, sorry.
-/
import Derived.Test.YthpjaaeellbimaaChecked
import GoSem.Claim
import GoSem.ClaimJoined
import GoSem.ClaimMapViews
import Derived.JoinedTies
import Derived.KernelRfl
namespace Go.Proofs.Ythpjaaeellbimaa
/- THE CELL 'sum', in the pinned program and in every row, IS THE sha256 OF THE DUMP (.gsa) THAT YthpjaaeellbimaaProg.lean LOADS. Nothing in Lean hashes anything: it is a label: what it is worth is what the hold of that sum in a sandbox is worth. -/
noncomputable def Try.pinned : Pinned := { name := "ythpjaaeellbimaa", sum := "e252758eaf2ea46c63ec94e4342812b04d6d2d1afae9009a91dc3ac92a2ccbca", checked := Try.checked }
namespace Rows
def none {H : Type} : Left H := { results := [], args := [] }

/-- 'laws.FnExactNewGeo': WHATEVER THE INPUT: true; the input reads as it did. -/
def fnExactNewGeoSpec : ChangeSpec := { name := "fnExactNewGeo", fn := fun _ => fun
  | [] => { results := [.lit (.bool true)], args := [] }
  | _ => none }
def fnExactNewGeoRow : OpenClaim := { program := "ythpjaaeellbimaa", sum := "e252758eaf2ea46c63ec94e4342812b04d6d2d1afae9009a91dc3ac92a2ccbca", func := "loop.example/g00541/laws.FnExactNewGeo", spec := "fnExactNewGeo", apart := false }
def FnExactNewGeoSaid : Prop := fnExactNewGeoRow.holds Try.pinned (OpenSpec.ofChange fnExactNewGeoSpec)

/-- ITS FALSE NEIGHBOUR: 'it returns false'. Refute it at one input. -/
def fnExactNewGeoWrong : ChangeSpec := { name := "fnExactNewGeo", fn := fun _ => fun
  | [] => { results := [.lit (.bool false)], args := [] }
  | _ => none }
def FnExactNewGeoWrongFalsely : Prop := fnExactNewGeoRow.holds Try.pinned (OpenSpec.ofChange fnExactNewGeoWrong)

/-- 'laws.FnExactPlayOne': WHATEVER THE INPUT: true; the input reads as it did. -/
def fnExactPlayOneSpec : ChangeSpec := { name := "fnExactPlayOne", fn := fun _ => fun
  | [d1, d2] => { results := [.lit (.bool true)], args := [d1, d2] }
  | _ => none }
def fnExactPlayOneRow : OpenClaim := { program := "ythpjaaeellbimaa", sum := "e252758eaf2ea46c63ec94e4342812b04d6d2d1afae9009a91dc3ac92a2ccbca", func := "loop.example/g00541/laws.FnExactPlayOne", spec := "fnExactPlayOne", apart := false }
def FnExactPlayOneSaid : Prop := fnExactPlayOneRow.holds Try.pinned (OpenSpec.ofChange fnExactPlayOneSpec)

/-- ITS FALSE NEIGHBOUR: 'it returns false'. Refute it at one input. -/
def fnExactPlayOneWrong : ChangeSpec := { name := "fnExactPlayOne", fn := fun _ => fun
  | [d1, d2] => { results := [.lit (.bool false)], args := [d1, d2] }
  | _ => none }
def FnExactPlayOneWrongFalsely : Prop := fnExactPlayOneRow.holds Try.pinned (OpenSpec.ofChange fnExactPlayOneWrong)

/-- 'laws.FnExactGoodGeo': WHATEVER THE INPUT: true; the input reads as it did. -/
def fnExactGoodGeoSpec : ChangeSpec := { name := "fnExactGoodGeo", fn := fun _ => fun
  | [d] => { results := [.lit (.bool true)], args := [d] }
  | _ => none }
def fnExactGoodGeoRow : OpenClaim := { program := "ythpjaaeellbimaa", sum := "e252758eaf2ea46c63ec94e4342812b04d6d2d1afae9009a91dc3ac92a2ccbca", func := "loop.example/g00541/laws.FnExactGoodGeo", spec := "fnExactGoodGeo", unfollowed := true, recurses := true, apart := false }
def FnExactGoodGeoSaid : Prop := fnExactGoodGeoRow.holds Try.pinned (OpenSpec.ofChange fnExactGoodGeoSpec)

/-- ITS FALSE NEIGHBOUR: 'it returns false'. Refute it at one input. -/
def fnExactGoodGeoWrong : ChangeSpec := { name := "fnExactGoodGeo", fn := fun _ => fun
  | [d] => { results := [.lit (.bool false)], args := [d] }
  | _ => none }
def FnExactGoodGeoWrongFalsely : Prop := fnExactGoodGeoRow.holds Try.pinned (OpenSpec.ofChange fnExactGoodGeoWrong)

/- THE SECOND FORM. 'bulk': how many values and letters a reading holds, each counted each time it is reached (what is shared counts as often as it is met; a slice's spare places count too). A statement '..UptoSaid' is the law's where the arguments, and the package variables that the reading takes, are together of bulk at most 1048576: NARROWER than '..Said'. Prove '..Said' where nothing that the law and all that it calls make is longer than what came in: it says more and counts as full. Else prove '..UptoSaid'. A law counts once. -/
mutual
def uptoBulk {H : Type} : DataW H → Nat
  | .lit (.string bytes) => bytes.length + 1
  | .lit _ => 1
  | .nil => 1
  | .ptr d => uptoBulk d + 1
  | .slice elems spare => uptoBulkAll elems + uptoBulkAll spare + 1
  | .agg parts => uptoBulkAll parts + 1
  | .iface _ d => uptoBulk d + 1
  | .map entries => uptoBulkEntries entries + 1
  | .held _ => 1
def uptoBulkAll {H : Type} : List (DataW H) → Nat
  | [] => 0
  | d :: r => uptoBulk d + uptoBulkAll r
def uptoBulkEntries {H : Type} : List (Lit × DataW H) → Nat
  | [] => 0
  | x :: r => uptoBulkEntry x + uptoBulkEntries r
def uptoBulkEntry {H : Type} : Lit × DataW H → Nat
  | (.string bytes, d) => bytes.length + uptoBulk d + 1
  | (_, d) => uptoBulk d + 1
 end
def uptoSmall : (H : Type) → List (DataW H) → Bool := fun _ ds => decide (uptoBulkAll ds ≤ 1048576)
def OpenSpec.upto (s : _root_.Go.ChangeSpec) : _root_.Go.OpenSpec := { _root_.Go.OpenSpec.ofChange s with cond := some uptoSmall }

/-- 'laws.FnExactNewGeo', WHERE WHAT IT READS IS OF BULK AT MOST 1048576: true; the input reads as it did. -/
def fnExactNewGeoUptoRow : OpenClaim := { program := "ythpjaaeellbimaa", sum := "e252758eaf2ea46c63ec94e4342812b04d6d2d1afae9009a91dc3ac92a2ccbca", func := "loop.example/g00541/laws.FnExactNewGeo", spec := "fnExactNewGeo", apart := false, narrowed := true }
def FnExactNewGeoUptoSaid : Prop := fnExactNewGeoUptoRow.holds Try.pinned (OpenSpec.upto fnExactNewGeoSpec)

/-- 'laws.FnExactPlayOne', WHERE WHAT IT READS IS OF BULK AT MOST 1048576: true; the input reads as it did. -/
def fnExactPlayOneUptoRow : OpenClaim := { program := "ythpjaaeellbimaa", sum := "e252758eaf2ea46c63ec94e4342812b04d6d2d1afae9009a91dc3ac92a2ccbca", func := "loop.example/g00541/laws.FnExactPlayOne", spec := "fnExactPlayOne", apart := false, narrowed := true }
def FnExactPlayOneUptoSaid : Prop := fnExactPlayOneUptoRow.holds Try.pinned (OpenSpec.upto fnExactPlayOneSpec)

/-- 'laws.FnExactGoodGeo', WHERE WHAT IT READS IS OF BULK AT MOST 1048576: true; the input reads as it did. -/
def fnExactGoodGeoUptoRow : OpenClaim := { program := "ythpjaaeellbimaa", sum := "e252758eaf2ea46c63ec94e4342812b04d6d2d1afae9009a91dc3ac92a2ccbca", func := "loop.example/g00541/laws.FnExactGoodGeo", spec := "fnExactGoodGeo", unfollowed := true, recurses := true, apart := false, narrowed := true }
def FnExactGoodGeoUptoSaid : Prop := fnExactGoodGeoUptoRow.holds Try.pinned (OpenSpec.upto fnExactGoodGeoSpec)

end Rows
end Go.Proofs.Ythpjaaeellbimaa
