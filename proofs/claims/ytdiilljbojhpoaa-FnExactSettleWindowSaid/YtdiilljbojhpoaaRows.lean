/-
  No cell of these rows narrows 'for every input' (looked for: loops, veiled, ifaces, maps, wideKeys, modest, calm, conditions, laid).
  DERIVED. THE GIVEN ROWS OF THIS SEAT. 5 by the template 'for every input the law returns true; each argument reads behind the call as it read before'; 0 by the template 'total and deterministic' (their statements: YtdiilljbojhpoaaTotals.lean).
  GIVEN WITH THE SEED: the statements are not yours to turn. If you find one false, say at which input.
  Laid BY PROGRAM, IN A SANDBOX (cutbox-rows.mjs): the forced cells as the released guide's own fill.sh prints them over the translation 64e930f5c3cab25d… (all of the seat's roots in one cut). By AI agents, Wed Nov 11 2026. No macro, syntax, notation, axiom, sorry.
-/
import Derived.Test.YtdiilljbojhpoaaChecked
import GoSem.Claim
import GoSem.ClaimJoined
import GoSem.ClaimMapViews
import Derived.JoinedTies
import Derived.KernelRfl
namespace Go.Proofs.Ytdiilljbojhpoaa
/- THE CELL 'sum', in the pinned program and in every row, IS THE sha256 OF THE DUMP (.gsa) THAT YtdiilljbojhpoaaProg.lean LOADS. Nothing in Lean hashes anything: it is a label: what it is worth is what the hold of that sum in a sandbox is worth. -/
noncomputable def Try.pinned : Pinned := { name := "ytdiilljbojhpoaa", sum := "64e930f5c3cab25d0817a6778e3319cb9b275ec66f0103acb572d903a9a0288f", checked := Try.checked }
namespace Rows
def none {H : Type} : Left H := { results := [], args := [] }

/-- 'laws.FnWindow': WHATEVER THE INPUT: true; the input reads as it did. -/
def fnWindowSpec : ChangeSpec := { name := "fnWindow", fn := fun _ => fun
  | [d] => { results := [.lit (.bool true)], args := [d] }
  | _ => none }
def fnWindowRow : OpenClaim := { program := "ytdiilljbojhpoaa", sum := "64e930f5c3cab25d0817a6778e3319cb9b275ec66f0103acb572d903a9a0288f", func := "loop.example/g00541/laws.FnWindow", spec := "fnWindow", unfollowed := true, recurses := true, apart := false }
def FnWindowSaid : Prop := fnWindowRow.holds Try.pinned (OpenSpec.ofChange fnWindowSpec)

/-- ITS FALSE NEIGHBOUR: 'it returns false'. Refute it at one input. -/
def fnWindowWrong : ChangeSpec := { name := "fnWindow", fn := fun _ => fun
  | [d] => { results := [.lit (.bool false)], args := [d] }
  | _ => none }
def FnWindowWrongFalsely : Prop := fnWindowRow.holds Try.pinned (OpenSpec.ofChange fnWindowWrong)

/-- 'laws.FnWindows': WHATEVER THE INPUT: true; the input reads as it did. -/
def fnWindowsSpec : ChangeSpec := { name := "fnWindows", fn := fun _ => fun
  | [d1, d2] => { results := [.lit (.bool true)], args := [d1, d2] }
  | _ => none }
def fnWindowsRow : OpenClaim := { program := "ytdiilljbojhpoaa", sum := "64e930f5c3cab25d0817a6778e3319cb9b275ec66f0103acb572d903a9a0288f", func := "loop.example/g00541/laws.FnWindows", spec := "fnWindows", unfollowed := true, recurses := true, apart := false }
def FnWindowsSaid : Prop := fnWindowsRow.holds Try.pinned (OpenSpec.ofChange fnWindowsSpec)

/-- ITS FALSE NEIGHBOUR: 'it returns false'. Refute it at one input. -/
def fnWindowsWrong : ChangeSpec := { name := "fnWindows", fn := fun _ => fun
  | [d1, d2] => { results := [.lit (.bool false)], args := [d1, d2] }
  | _ => none }
def FnWindowsWrongFalsely : Prop := fnWindowsRow.holds Try.pinned (OpenSpec.ofChange fnWindowsWrong)

/-- 'laws.FnExactPlayWindow': WHATEVER THE INPUT: true; the input reads as it did. -/
def fnExactPlayWindowSpec : ChangeSpec := { name := "fnExactPlayWindow", fn := fun _ => fun
  | [d1, d2, d3] => { results := [.lit (.bool true)], args := [d1, d2, d3] }
  | _ => none }
def fnExactPlayWindowRow : OpenClaim := { program := "ytdiilljbojhpoaa", sum := "64e930f5c3cab25d0817a6778e3319cb9b275ec66f0103acb572d903a9a0288f", func := "loop.example/g00541/laws.FnExactPlayWindow", spec := "fnExactPlayWindow", unfollowed := true, recurses := true, apart := false }
def FnExactPlayWindowSaid : Prop := fnExactPlayWindowRow.holds Try.pinned (OpenSpec.ofChange fnExactPlayWindowSpec)

/-- ITS FALSE NEIGHBOUR: 'it returns false'. Refute it at one input. -/
def fnExactPlayWindowWrong : ChangeSpec := { name := "fnExactPlayWindow", fn := fun _ => fun
  | [d1, d2, d3] => { results := [.lit (.bool false)], args := [d1, d2, d3] }
  | _ => none }
def FnExactPlayWindowWrongFalsely : Prop := fnExactPlayWindowRow.holds Try.pinned (OpenSpec.ofChange fnExactPlayWindowWrong)

/-- 'laws.FnExactStepWindow': WHATEVER THE INPUT: true; the input reads as it did. -/
def fnExactStepWindowSpec : ChangeSpec := { name := "fnExactStepWindow", fn := fun _ => fun
  | [d1, d2] => { results := [.lit (.bool true)], args := [d1, d2] }
  | _ => none }
def fnExactStepWindowRow : OpenClaim := { program := "ytdiilljbojhpoaa", sum := "64e930f5c3cab25d0817a6778e3319cb9b275ec66f0103acb572d903a9a0288f", func := "loop.example/g00541/laws.FnExactStepWindow", spec := "fnExactStepWindow", unfollowed := true, recurses := true, apart := false }
def FnExactStepWindowSaid : Prop := fnExactStepWindowRow.holds Try.pinned (OpenSpec.ofChange fnExactStepWindowSpec)

/-- ITS FALSE NEIGHBOUR: 'it returns false'. Refute it at one input. -/
def fnExactStepWindowWrong : ChangeSpec := { name := "fnExactStepWindow", fn := fun _ => fun
  | [d1, d2] => { results := [.lit (.bool false)], args := [d1, d2] }
  | _ => none }
def FnExactStepWindowWrongFalsely : Prop := fnExactStepWindowRow.holds Try.pinned (OpenSpec.ofChange fnExactStepWindowWrong)

/-- 'laws.FnExactSettleWindow': WHATEVER THE INPUT: true; the input reads as it did. -/
def fnExactSettleWindowSpec : ChangeSpec := { name := "fnExactSettleWindow", fn := fun _ => fun
  | [d] => { results := [.lit (.bool true)], args := [d] }
  | _ => none }
def fnExactSettleWindowRow : OpenClaim := { program := "ytdiilljbojhpoaa", sum := "64e930f5c3cab25d0817a6778e3319cb9b275ec66f0103acb572d903a9a0288f", func := "loop.example/g00541/laws.FnExactSettleWindow", spec := "fnExactSettleWindow", unfollowed := true, recurses := true, apart := false }
def FnExactSettleWindowSaid : Prop := fnExactSettleWindowRow.holds Try.pinned (OpenSpec.ofChange fnExactSettleWindowSpec)

/-- ITS FALSE NEIGHBOUR: 'it returns false'. Refute it at one input. -/
def fnExactSettleWindowWrong : ChangeSpec := { name := "fnExactSettleWindow", fn := fun _ => fun
  | [d] => { results := [.lit (.bool false)], args := [d] }
  | _ => none }
def FnExactSettleWindowWrongFalsely : Prop := fnExactSettleWindowRow.holds Try.pinned (OpenSpec.ofChange fnExactSettleWindowWrong)

/- THE SECOND FORM. 'bulk': how many values and letters a reading holds, each counted each time it is reached (what is shared counts as often as it is met; a slice's spare places count too). A statement '..UptoSaid' is the law's where the arguments, and the package variables that the reading takes, are together of bulk at most 1048576: NARROWER than '..Said'. Prove '..Said' where nothing that the law and all that it calls make is longer than what came in: it says more and counts as full. Else prove '..UptoSaid'. A law counts once. -/
mutual
def uptoBulk {H : Type} : DataW H → Nat
  | .lit (.string bytes) => bytes.length + 1
  | .lit _ => 1
  | .nil => 1
  | .ptr d => uptoBulk d + 1
  | .slice elems spare => uptoBulkAll elems + uptoBulkAll spare + 1
  | .agg parts => uptoBulkAll parts + 1
  | .iface _ d => uptoBulk d + 1
  | .map entries => uptoBulkEntries entries + 1
  | .held _ => 1
def uptoBulkAll {H : Type} : List (DataW H) → Nat
  | [] => 0
  | d :: r => uptoBulk d + uptoBulkAll r
def uptoBulkEntries {H : Type} : List (Lit × DataW H) → Nat
  | [] => 0
  | x :: r => uptoBulkEntry x + uptoBulkEntries r
def uptoBulkEntry {H : Type} : Lit × DataW H → Nat
  | (.string bytes, d) => bytes.length + uptoBulk d + 1
  | (_, d) => uptoBulk d + 1
 end
def uptoSmall : (H : Type) → List (DataW H) → Bool := fun _ ds => decide (uptoBulkAll ds ≤ 1048576)
def OpenSpec.upto (s : _root_.Go.ChangeSpec) : _root_.Go.OpenSpec := { _root_.Go.OpenSpec.ofChange s with cond := some uptoSmall }

/-- 'laws.FnWindow', WHERE WHAT IT READS IS OF BULK AT MOST 1048576: true; the input reads as it did. -/
def fnWindowUptoRow : OpenClaim := { program := "ytdiilljbojhpoaa", sum := "64e930f5c3cab25d0817a6778e3319cb9b275ec66f0103acb572d903a9a0288f", func := "loop.example/g00541/laws.FnWindow", spec := "fnWindow", unfollowed := true, recurses := true, apart := false, narrowed := true }
def FnWindowUptoSaid : Prop := fnWindowUptoRow.holds Try.pinned (OpenSpec.upto fnWindowSpec)

/-- 'laws.FnWindows', WHERE WHAT IT READS IS OF BULK AT MOST 1048576: true; the input reads as it did. -/
def fnWindowsUptoRow : OpenClaim := { program := "ytdiilljbojhpoaa", sum := "64e930f5c3cab25d0817a6778e3319cb9b275ec66f0103acb572d903a9a0288f", func := "loop.example/g00541/laws.FnWindows", spec := "fnWindows", unfollowed := true, recurses := true, apart := false, narrowed := true }
def FnWindowsUptoSaid : Prop := fnWindowsUptoRow.holds Try.pinned (OpenSpec.upto fnWindowsSpec)

/-- 'laws.FnExactPlayWindow', WHERE WHAT IT READS IS OF BULK AT MOST 1048576: true; the input reads as it did. -/
def fnExactPlayWindowUptoRow : OpenClaim := { program := "ytdiilljbojhpoaa", sum := "64e930f5c3cab25d0817a6778e3319cb9b275ec66f0103acb572d903a9a0288f", func := "loop.example/g00541/laws.FnExactPlayWindow", spec := "fnExactPlayWindow", unfollowed := true, recurses := true, apart := false, narrowed := true }
def FnExactPlayWindowUptoSaid : Prop := fnExactPlayWindowUptoRow.holds Try.pinned (OpenSpec.upto fnExactPlayWindowSpec)

/-- 'laws.FnExactStepWindow', WHERE WHAT IT READS IS OF BULK AT MOST 1048576: true; the input reads as it did. -/
def fnExactStepWindowUptoRow : OpenClaim := { program := "ytdiilljbojhpoaa", sum := "64e930f5c3cab25d0817a6778e3319cb9b275ec66f0103acb572d903a9a0288f", func := "loop.example/g00541/laws.FnExactStepWindow", spec := "fnExactStepWindow", unfollowed := true, recurses := true, apart := false, narrowed := true }
def FnExactStepWindowUptoSaid : Prop := fnExactStepWindowUptoRow.holds Try.pinned (OpenSpec.upto fnExactStepWindowSpec)

/-- 'laws.FnExactSettleWindow', WHERE WHAT IT READS IS OF BULK AT MOST 1048576: true; the input reads as it did. -/
def fnExactSettleWindowUptoRow : OpenClaim := { program := "ytdiilljbojhpoaa", sum := "64e930f5c3cab25d0817a6778e3319cb9b275ec66f0103acb572d903a9a0288f", func := "loop.example/g00541/laws.FnExactSettleWindow", spec := "fnExactSettleWindow", unfollowed := true, recurses := true, apart := false, narrowed := true }
def FnExactSettleWindowUptoSaid : Prop := fnExactSettleWindowUptoRow.holds Try.pinned (OpenSpec.upto fnExactSettleWindowSpec)

end Rows
end Go.Proofs.Ytdiilljbojhpoaa
