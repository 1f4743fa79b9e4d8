/-
  No cell of these rows narrows 'for every input' (looked for: loops, veiled, ifaces, maps, wideKeys, modest, calm, conditions, laid).
  DERIVED. THE GIVEN ROWS OF THIS SEAT. 3 by the template 'for every input the law returns true; each argument reads behind the call as it read before'; 0 by the template 'total and deterministic' (their statements: YtkabaommohhbgaaTotals.lean).
  GIVEN WITH THE SEED: the statements are not yours to turn. If you find one false, say at which input.
  Laid BY PROGRAM, IN A SANDBOX (cutbox-rows.mjs): the forced cells as the released guide's own fill.sh prints them over the translation d3d28d6a451dd4f7… (all of the seat's roots in one cut). By AI agents, Wed Nov 11 2026. No macro, syntax, notation, axiom, sorry.
-/
import Derived.Test.YtkabaommohhbgaaChecked
import GoSem.Claim
import GoSem.ClaimJoined
import GoSem.ClaimMapViews
import Derived.JoinedTies
import Derived.KernelRfl
namespace Go.Proofs.Ytkabaommohhbgaa
/- THE CELL 'sum', in the pinned program and in every row, IS THE sha256 OF THE DUMP (.gsa) THAT YtkabaommohhbgaaProg.lean LOADS. Nothing in Lean hashes anything: it is a label: what it is worth is what the hold of that sum in a sandbox is worth. -/
noncomputable def Try.pinned : Pinned := { name := "ytkabaommohhbgaa", sum := "d3d28d6a451dd4f7a22a421b8539afee73e0b3f2768e18e117a6c4c60e514e07", checked := Try.checked }
namespace Rows
def none {H : Type} : Left H := { results := [], args := [] }

/-- 'laws.FnExactSenseNames': WHATEVER THE INPUT: true; the input reads as it did. -/
def fnExactSenseNamesSpec : ChangeSpec := { name := "fnExactSenseNames", fn := fun _ => fun
  | [d] => { results := [.lit (.bool true)], args := [d] }
  | _ => none }
def fnExactSenseNamesRow : OpenClaim := { program := "ytkabaommohhbgaa", sum := "d3d28d6a451dd4f7a22a421b8539afee73e0b3f2768e18e117a6c4c60e514e07", func := "loop.example/g00200/laws.FnExactSenseNames", spec := "fnExactSenseNames", inPlace := ["internal/abi.NoEscape", "internal/bytealg.MakeNoZero"], apart := false }
def FnExactSenseNamesSaid : Prop := fnExactSenseNamesRow.holds Try.pinned (OpenSpec.ofChange fnExactSenseNamesSpec)

/-- ITS FALSE NEIGHBOUR: 'it returns false'. Refute it at one input. -/
def fnExactSenseNamesWrong : ChangeSpec := { name := "fnExactSenseNames", fn := fun _ => fun
  | [d] => { results := [.lit (.bool false)], args := [d] }
  | _ => none }
def FnExactSenseNamesWrongFalsely : Prop := fnExactSenseNamesRow.holds Try.pinned (OpenSpec.ofChange fnExactSenseNamesWrong)

/-- 'laws.FnExactReadSense': WHATEVER THE INPUT: true; the input reads as it did. -/
def fnExactReadSenseSpec : ChangeSpec := { name := "fnExactReadSense", fn := fun _ => fun
  | [d] => { results := [.lit (.bool true)], args := [d] }
  | _ => none }
def fnExactReadSenseRow : OpenClaim := { program := "ytkabaommohhbgaa", sum := "d3d28d6a451dd4f7a22a421b8539afee73e0b3f2768e18e117a6c4c60e514e07", func := "loop.example/g00200/laws.FnExactReadSense", spec := "fnExactReadSense", inPlace := ["internal/abi.NoEscape", "internal/bytealg.MakeNoZero"], apart := false }
def FnExactReadSenseSaid : Prop := fnExactReadSenseRow.holds Try.pinned (OpenSpec.ofChange fnExactReadSenseSpec)

/-- ITS FALSE NEIGHBOUR: 'it returns false'. Refute it at one input. -/
def fnExactReadSenseWrong : ChangeSpec := { name := "fnExactReadSense", fn := fun _ => fun
  | [d] => { results := [.lit (.bool false)], args := [d] }
  | _ => none }
def FnExactReadSenseWrongFalsely : Prop := fnExactReadSenseRow.holds Try.pinned (OpenSpec.ofChange fnExactReadSenseWrong)

/-- 'laws.FnSenses': WHATEVER THE INPUT: true; the input reads as it did. -/
def fnSensesSpec : ChangeSpec := { name := "fnSenses", fn := fun _ => fun
  | [d] => { results := [.lit (.bool true)], args := [d] }
  | _ => none }
def fnSensesRow : OpenClaim := { program := "ytkabaommohhbgaa", sum := "d3d28d6a451dd4f7a22a421b8539afee73e0b3f2768e18e117a6c4c60e514e07", func := "loop.example/g00200/laws.FnSenses", spec := "fnSenses", inPlace := ["internal/abi.NoEscape", "internal/bytealg.MakeNoZero"], apart := false }
def FnSensesSaid : Prop := fnSensesRow.holds Try.pinned (OpenSpec.ofChange fnSensesSpec)

/-- ITS FALSE NEIGHBOUR: 'it returns false'. Refute it at one input. -/
def fnSensesWrong : ChangeSpec := { name := "fnSenses", fn := fun _ => fun
  | [d] => { results := [.lit (.bool false)], args := [d] }
  | _ => none }
def FnSensesWrongFalsely : Prop := fnSensesRow.holds Try.pinned (OpenSpec.ofChange fnSensesWrong)

/- THE SECOND FORM. 'bulk': how many values and letters a reading holds, each counted each time it is reached (what is shared counts as often as it is met; a slice's spare places count too). A statement '..UptoSaid' is the law's where the arguments, and the package variables that the reading takes, are together of bulk at most 1048576: NARROWER than '..Said'. Prove '..Said' where nothing that the law and all that it calls make is longer than what came in: it says more and counts as full. Else prove '..UptoSaid'. A law counts once. -/
mutual
def uptoBulk {H : Type} : DataW H → Nat
  | .lit (.string bytes) => bytes.length + 1
  | .lit _ => 1
  | .nil => 1
  | .ptr d => uptoBulk d + 1
  | .slice elems spare => uptoBulkAll elems + uptoBulkAll spare + 1
  | .agg parts => uptoBulkAll parts + 1
  | .iface _ d => uptoBulk d + 1
  | .map entries => uptoBulkEntries entries + 1
  | .held _ => 1
def uptoBulkAll {H : Type} : List (DataW H) → Nat
  | [] => 0
  | d :: r => uptoBulk d + uptoBulkAll r
def uptoBulkEntries {H : Type} : List (Lit × DataW H) → Nat
  | [] => 0
  | x :: r => uptoBulkEntry x + uptoBulkEntries r
def uptoBulkEntry {H : Type} : Lit × DataW H → Nat
  | (.string bytes, d) => bytes.length + uptoBulk d + 1
  | (_, d) => uptoBulk d + 1
 end
def uptoSmall : (H : Type) → List (DataW H) → Bool := fun _ ds => decide (uptoBulkAll ds ≤ 1048576)
def OpenSpec.upto (s : _root_.Go.ChangeSpec) : _root_.Go.OpenSpec := { _root_.Go.OpenSpec.ofChange s with cond := some uptoSmall }

/-- 'laws.FnExactSenseNames', WHERE WHAT IT READS IS OF BULK AT MOST 1048576: true; the input reads as it did. -/
def fnExactSenseNamesUptoRow : OpenClaim := { program := "ytkabaommohhbgaa", sum := "d3d28d6a451dd4f7a22a421b8539afee73e0b3f2768e18e117a6c4c60e514e07", func := "loop.example/g00200/laws.FnExactSenseNames", spec := "fnExactSenseNames", inPlace := ["internal/abi.NoEscape", "internal/bytealg.MakeNoZero"], apart := false, narrowed := true }
def FnExactSenseNamesUptoSaid : Prop := fnExactSenseNamesUptoRow.holds Try.pinned (OpenSpec.upto fnExactSenseNamesSpec)

/-- 'laws.FnExactReadSense', WHERE WHAT IT READS IS OF BULK AT MOST 1048576: true; the input reads as it did. -/
def fnExactReadSenseUptoRow : OpenClaim := { program := "ytkabaommohhbgaa", sum := "d3d28d6a451dd4f7a22a421b8539afee73e0b3f2768e18e117a6c4c60e514e07", func := "loop.example/g00200/laws.FnExactReadSense", spec := "fnExactReadSense", inPlace := ["internal/abi.NoEscape", "internal/bytealg.MakeNoZero"], apart := false, narrowed := true }
def FnExactReadSenseUptoSaid : Prop := fnExactReadSenseUptoRow.holds Try.pinned (OpenSpec.upto fnExactReadSenseSpec)

/-- 'laws.FnSenses', WHERE WHAT IT READS IS OF BULK AT MOST 1048576: true; the input reads as it did. -/
def fnSensesUptoRow : OpenClaim := { program := "ytkabaommohhbgaa", sum := "d3d28d6a451dd4f7a22a421b8539afee73e0b3f2768e18e117a6c4c60e514e07", func := "loop.example/g00200/laws.FnSenses", spec := "fnSenses", inPlace := ["internal/abi.NoEscape", "internal/bytealg.MakeNoZero"], apart := false, narrowed := true }
def FnSensesUptoSaid : Prop := fnSensesUptoRow.holds Try.pinned (OpenSpec.upto fnSensesSpec)

end Rows
end Go.Proofs.Ytkabaommohhbgaa
