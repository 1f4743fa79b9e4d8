/-
  No cell of these rows narrows 'for every input' (looked for: loops, veiled, ifaces, maps, wideKeys, modest, calm, conditions, laid).
  DERIVED. THE GIVEN ROWS OF THIS SEAT. 12 by the template 'for every input the law returns true; each argument reads behind the call as it read before'; 0 by the template 'total and deterministic' (their statements: YtgihjaonapngdaaTotals.lean).
  GIVEN WITH THE SEED: the statements are not yours to turn. If you find one false, say at which input.
  Laid BY PROGRAM, IN A SANDBOX (cutbox-rows.mjs): the forced cells as the released guide's own fill.sh prints them over the translation e9d4555282c4c6b8… (all of the seat's roots in one cut). By AI agents, Wed Nov 11 2026. No macro, syntax, notation, axiom, sorry.
-/
import Derived.Test.YtgihjaonapngdaaChecked
import GoSem.Claim
import GoSem.ClaimJoined
import GoSem.ClaimMapViews
import Derived.JoinedTies
import Derived.KernelRfl
namespace Go.Proofs.Ytgihjaonapngdaa
/- THE CELL 'sum', in the pinned program and in every row, IS THE sha256 OF THE DUMP (.gsa) THAT YtgihjaonapngdaaProg.lean LOADS. Nothing in Lean hashes anything: it is a label: what it is worth is what the hold of that sum in a sandbox is worth. -/
noncomputable def Try.pinned : Pinned := { name := "ytgihjaonapngdaa", sum := "e9d4555282c4c6b8b970a79c0b3b47490259b4454700497cb4a1f67b26b3eac2", checked := Try.checked }
namespace Rows
def none {H : Type} : Left H := { results := [], args := [] }

/-- 'laws.FnExactActFor': WHATEVER THE INPUT: true; the input reads as it did. -/
def fnExactActForSpec : ChangeSpec := { name := "fnExactActFor", fn := fun _ => fun
  | [d1, d2, d3, d4] => { results := [.lit (.bool true)], args := [d1, d2, d3, d4] }
  | _ => none }
def fnExactActForRow : OpenClaim := { program := "ytgihjaonapngdaa", sum := "e9d4555282c4c6b8b970a79c0b3b47490259b4454700497cb4a1f67b26b3eac2", func := "loop.example/g00200/laws.FnExactActFor", spec := "fnExactActFor", apart := false }
def FnExactActForSaid : Prop := fnExactActForRow.holds Try.pinned (OpenSpec.ofChange fnExactActForSpec)

/-- ITS FALSE NEIGHBOUR: 'it returns false'. Refute it at one input. -/
def fnExactActForWrong : ChangeSpec := { name := "fnExactActFor", fn := fun _ => fun
  | [d1, d2, d3, d4] => { results := [.lit (.bool false)], args := [d1, d2, d3, d4] }
  | _ => none }
def FnExactActForWrongFalsely : Prop := fnExactActForRow.holds Try.pinned (OpenSpec.ofChange fnExactActForWrong)

/-- 'laws.FnExactSenseNames': WHATEVER THE INPUT: true; the input reads as it did. -/
def fnExactSenseNamesSpec : ChangeSpec := { name := "fnExactSenseNames", fn := fun _ => fun
  | [d] => { results := [.lit (.bool true)], args := [d] }
  | _ => none }
def fnExactSenseNamesRow : OpenClaim := { program := "ytgihjaonapngdaa", sum := "e9d4555282c4c6b8b970a79c0b3b47490259b4454700497cb4a1f67b26b3eac2", func := "loop.example/g00200/laws.FnExactSenseNames", spec := "fnExactSenseNames", inPlace := ["internal/abi.NoEscape", "internal/bytealg.MakeNoZero"], apart := false }
def FnExactSenseNamesSaid : Prop := fnExactSenseNamesRow.holds Try.pinned (OpenSpec.ofChange fnExactSenseNamesSpec)

/-- ITS FALSE NEIGHBOUR: 'it returns false'. Refute it at one input. -/
def fnExactSenseNamesWrong : ChangeSpec := { name := "fnExactSenseNames", fn := fun _ => fun
  | [d] => { results := [.lit (.bool false)], args := [d] }
  | _ => none }
def FnExactSenseNamesWrongFalsely : Prop := fnExactSenseNamesRow.holds Try.pinned (OpenSpec.ofChange fnExactSenseNamesWrong)

/-- 'laws.FnExactOrderText': WHATEVER THE INPUT: true; the input reads as it did. -/
def fnExactOrderTextSpec : ChangeSpec := { name := "fnExactOrderText", fn := fun _ => fun
  | [d] => { results := [.lit (.bool true)], args := [d] }
  | _ => none }
def fnExactOrderTextRow : OpenClaim := { program := "ytgihjaonapngdaa", sum := "e9d4555282c4c6b8b970a79c0b3b47490259b4454700497cb4a1f67b26b3eac2", func := "loop.example/g00200/laws.FnExactOrderText", spec := "fnExactOrderText", apart := false }
def FnExactOrderTextSaid : Prop := fnExactOrderTextRow.holds Try.pinned (OpenSpec.ofChange fnExactOrderTextSpec)

/-- ITS FALSE NEIGHBOUR: 'it returns false'. Refute it at one input. -/
def fnExactOrderTextWrong : ChangeSpec := { name := "fnExactOrderText", fn := fun _ => fun
  | [d] => { results := [.lit (.bool false)], args := [d] }
  | _ => none }
def FnExactOrderTextWrongFalsely : Prop := fnExactOrderTextRow.holds Try.pinned (OpenSpec.ofChange fnExactOrderTextWrong)

/-- 'laws.FnRules': WHATEVER THE INPUT: true; the input reads as it did. -/
def fnRulesSpec : ChangeSpec := { name := "fnRules", fn := fun _ => fun
  | [d] => { results := [.lit (.bool true)], args := [d] }
  | _ => none }
def fnRulesRow : OpenClaim := { program := "ytgihjaonapngdaa", sum := "e9d4555282c4c6b8b970a79c0b3b47490259b4454700497cb4a1f67b26b3eac2", func := "loop.example/g00200/laws.FnRules", spec := "fnRules", apart := false }
def FnRulesSaid : Prop := fnRulesRow.holds Try.pinned (OpenSpec.ofChange fnRulesSpec)

/-- ITS FALSE NEIGHBOUR: 'it returns false'. Refute it at one input. -/
def fnRulesWrong : ChangeSpec := { name := "fnRules", fn := fun _ => fun
  | [d] => { results := [.lit (.bool false)], args := [d] }
  | _ => none }
def FnRulesWrongFalsely : Prop := fnRulesRow.holds Try.pinned (OpenSpec.ofChange fnRulesWrong)

/-- 'laws.FnExactHarmonic': WHATEVER THE INPUT: true; the input reads as it did. -/
def fnExactHarmonicSpec : ChangeSpec := { name := "fnExactHarmonic", fn := fun _ => fun
  | [d1, d2] => { results := [.lit (.bool true)], args := [d1, d2] }
  | _ => none }
def fnExactHarmonicRow : OpenClaim := { program := "ytgihjaonapngdaa", sum := "e9d4555282c4c6b8b970a79c0b3b47490259b4454700497cb4a1f67b26b3eac2", func := "loop.example/g00200/laws.FnExactHarmonic", spec := "fnExactHarmonic", apart := false }
def FnExactHarmonicSaid : Prop := fnExactHarmonicRow.holds Try.pinned (OpenSpec.ofChange fnExactHarmonicSpec)

/-- ITS FALSE NEIGHBOUR: 'it returns false'. Refute it at one input. -/
def fnExactHarmonicWrong : ChangeSpec := { name := "fnExactHarmonic", fn := fun _ => fun
  | [d1, d2] => { results := [.lit (.bool false)], args := [d1, d2] }
  | _ => none }
def FnExactHarmonicWrongFalsely : Prop := fnExactHarmonicRow.holds Try.pinned (OpenSpec.ofChange fnExactHarmonicWrong)

/-- 'laws.FnHarmonics': WHATEVER THE INPUT: true; the input reads as it did. -/
def fnHarmonicsSpec : ChangeSpec := { name := "fnHarmonics", fn := fun _ => fun
  | [d] => { results := [.lit (.bool true)], args := [d] }
  | _ => none }
def fnHarmonicsRow : OpenClaim := { program := "ytgihjaonapngdaa", sum := "e9d4555282c4c6b8b970a79c0b3b47490259b4454700497cb4a1f67b26b3eac2", func := "loop.example/g00200/laws.FnHarmonics", spec := "fnHarmonics", apart := false }
def FnHarmonicsSaid : Prop := fnHarmonicsRow.holds Try.pinned (OpenSpec.ofChange fnHarmonicsSpec)

/-- ITS FALSE NEIGHBOUR: 'it returns false'. Refute it at one input. -/
def fnHarmonicsWrong : ChangeSpec := { name := "fnHarmonics", fn := fun _ => fun
  | [d] => { results := [.lit (.bool false)], args := [d] }
  | _ => none }
def FnHarmonicsWrongFalsely : Prop := fnHarmonicsRow.holds Try.pinned (OpenSpec.ofChange fnHarmonicsWrong)

/-- 'laws.FnExactReadSense': WHATEVER THE INPUT: true; the input reads as it did. -/
def fnExactReadSenseSpec : ChangeSpec := { name := "fnExactReadSense", fn := fun _ => fun
  | [d] => { results := [.lit (.bool true)], args := [d] }
  | _ => none }
def fnExactReadSenseRow : OpenClaim := { program := "ytgihjaonapngdaa", sum := "e9d4555282c4c6b8b970a79c0b3b47490259b4454700497cb4a1f67b26b3eac2", func := "loop.example/g00200/laws.FnExactReadSense", spec := "fnExactReadSense", inPlace := ["internal/abi.NoEscape", "internal/bytealg.MakeNoZero"], apart := false }
def FnExactReadSenseSaid : Prop := fnExactReadSenseRow.holds Try.pinned (OpenSpec.ofChange fnExactReadSenseSpec)

/-- ITS FALSE NEIGHBOUR: 'it returns false'. Refute it at one input. -/
def fnExactReadSenseWrong : ChangeSpec := { name := "fnExactReadSense", fn := fun _ => fun
  | [d] => { results := [.lit (.bool false)], args := [d] }
  | _ => none }
def FnExactReadSenseWrongFalsely : Prop := fnExactReadSenseRow.holds Try.pinned (OpenSpec.ofChange fnExactReadSenseWrong)

/-- 'laws.FnExactWorstCost': WHATEVER THE INPUT: true; the input reads as it did. -/
def fnExactWorstCostSpec : ChangeSpec := { name := "fnExactWorstCost", fn := fun _ => fun
  | [d] => { results := [.lit (.bool true)], args := [d] }
  | _ => none }
def fnExactWorstCostRow : OpenClaim := { program := "ytgihjaonapngdaa", sum := "e9d4555282c4c6b8b970a79c0b3b47490259b4454700497cb4a1f67b26b3eac2", func := "loop.example/g00200/laws.FnExactWorstCost", spec := "fnExactWorstCost", apart := false }
def FnExactWorstCostSaid : Prop := fnExactWorstCostRow.holds Try.pinned (OpenSpec.ofChange fnExactWorstCostSpec)

/-- ITS FALSE NEIGHBOUR: 'it returns false'. Refute it at one input. -/
def fnExactWorstCostWrong : ChangeSpec := { name := "fnExactWorstCost", fn := fun _ => fun
  | [d] => { results := [.lit (.bool false)], args := [d] }
  | _ => none }
def FnExactWorstCostWrongFalsely : Prop := fnExactWorstCostRow.holds Try.pinned (OpenSpec.ofChange fnExactWorstCostWrong)

/-- 'laws.FnPorts': WHATEVER THE INPUT: true; the input reads as it did. -/
def fnPortsSpec : ChangeSpec := { name := "fnPorts", fn := fun _ => fun
  | [d] => { results := [.lit (.bool true)], args := [d] }
  | _ => none }
def fnPortsRow : OpenClaim := { program := "ytgihjaonapngdaa", sum := "e9d4555282c4c6b8b970a79c0b3b47490259b4454700497cb4a1f67b26b3eac2", func := "loop.example/g00200/laws.FnPorts", spec := "fnPorts", apart := false }
def FnPortsSaid : Prop := fnPortsRow.holds Try.pinned (OpenSpec.ofChange fnPortsSpec)

/-- ITS FALSE NEIGHBOUR: 'it returns false'. Refute it at one input. -/
def fnPortsWrong : ChangeSpec := { name := "fnPorts", fn := fun _ => fun
  | [d] => { results := [.lit (.bool false)], args := [d] }
  | _ => none }
def FnPortsWrongFalsely : Prop := fnPortsRow.holds Try.pinned (OpenSpec.ofChange fnPortsWrong)

/-- 'laws.FnExactSendPort': WHATEVER THE INPUT: true; the input reads as it did. -/
def fnExactSendPortSpec : ChangeSpec := { name := "fnExactSendPort", fn := fun _ => fun
  | [d1, d2, d3, d4] => { results := [.lit (.bool true)], args := [d1, d2, d3, d4] }
  | _ => none }
def fnExactSendPortRow : OpenClaim := { program := "ytgihjaonapngdaa", sum := "e9d4555282c4c6b8b970a79c0b3b47490259b4454700497cb4a1f67b26b3eac2", func := "loop.example/g00200/laws.FnExactSendPort", spec := "fnExactSendPort", apart := false }
def FnExactSendPortSaid : Prop := fnExactSendPortRow.holds Try.pinned (OpenSpec.ofChange fnExactSendPortSpec)

/-- ITS FALSE NEIGHBOUR: 'it returns false'. Refute it at one input. -/
def fnExactSendPortWrong : ChangeSpec := { name := "fnExactSendPort", fn := fun _ => fun
  | [d1, d2, d3, d4] => { results := [.lit (.bool false)], args := [d1, d2, d3, d4] }
  | _ => none }
def FnExactSendPortWrongFalsely : Prop := fnExactSendPortRow.holds Try.pinned (OpenSpec.ofChange fnExactSendPortWrong)

/-- 'laws.FnExactTakePort': WHATEVER THE INPUT: true; the input reads as it did. -/
def fnExactTakePortSpec : ChangeSpec := { name := "fnExactTakePort", fn := fun _ => fun
  | [d1, d2, d3] => { results := [.lit (.bool true)], args := [d1, d2, d3] }
  | _ => none }
def fnExactTakePortRow : OpenClaim := { program := "ytgihjaonapngdaa", sum := "e9d4555282c4c6b8b970a79c0b3b47490259b4454700497cb4a1f67b26b3eac2", func := "loop.example/g00200/laws.FnExactTakePort", spec := "fnExactTakePort", apart := false }
def FnExactTakePortSaid : Prop := fnExactTakePortRow.holds Try.pinned (OpenSpec.ofChange fnExactTakePortSpec)

/-- ITS FALSE NEIGHBOUR: 'it returns false'. Refute it at one input. -/
def fnExactTakePortWrong : ChangeSpec := { name := "fnExactTakePort", fn := fun _ => fun
  | [d1, d2, d3] => { results := [.lit (.bool false)], args := [d1, d2, d3] }
  | _ => none }
def FnExactTakePortWrongFalsely : Prop := fnExactTakePortRow.holds Try.pinned (OpenSpec.ofChange fnExactTakePortWrong)

/-- 'laws.FnSenses': WHATEVER THE INPUT: true; the input reads as it did. -/
def fnSensesSpec : ChangeSpec := { name := "fnSenses", fn := fun _ => fun
  | [d] => { results := [.lit (.bool true)], args := [d] }
  | _ => none }
def fnSensesRow : OpenClaim := { program := "ytgihjaonapngdaa", sum := "e9d4555282c4c6b8b970a79c0b3b47490259b4454700497cb4a1f67b26b3eac2", func := "loop.example/g00200/laws.FnSenses", spec := "fnSenses", inPlace := ["internal/abi.NoEscape", "internal/bytealg.MakeNoZero"], apart := false }
def FnSensesSaid : Prop := fnSensesRow.holds Try.pinned (OpenSpec.ofChange fnSensesSpec)

/-- ITS FALSE NEIGHBOUR: 'it returns false'. Refute it at one input. -/
def fnSensesWrong : ChangeSpec := { name := "fnSenses", fn := fun _ => fun
  | [d] => { results := [.lit (.bool false)], args := [d] }
  | _ => none }
def FnSensesWrongFalsely : Prop := fnSensesRow.holds Try.pinned (OpenSpec.ofChange fnSensesWrong)

/- THE SECOND FORM. 'bulk': how many values and letters a reading holds, each counted each time it is reached (what is shared counts as often as it is met; a slice's spare places count too). A statement '..UptoSaid' is the law's where the arguments, and the package variables that the reading takes, are together of bulk at most 1048576: NARROWER than '..Said'. Prove '..Said' where nothing that the law and all that it calls make is longer than what came in: it says more and counts as full. Else prove '..UptoSaid'. A law counts once. -/
mutual
def uptoBulk {H : Type} : DataW H → Nat
  | .lit (.string bytes) => bytes.length + 1
  | .lit _ => 1
  | .nil => 1
  | .ptr d => uptoBulk d + 1
  | .slice elems spare => uptoBulkAll elems + uptoBulkAll spare + 1
  | .agg parts => uptoBulkAll parts + 1
  | .iface _ d => uptoBulk d + 1
  | .map entries => uptoBulkEntries entries + 1
  | .held _ => 1
def uptoBulkAll {H : Type} : List (DataW H) → Nat
  | [] => 0
  | d :: r => uptoBulk d + uptoBulkAll r
def uptoBulkEntries {H : Type} : List (Lit × DataW H) → Nat
  | [] => 0
  | x :: r => uptoBulkEntry x + uptoBulkEntries r
def uptoBulkEntry {H : Type} : Lit × DataW H → Nat
  | (.string bytes, d) => bytes.length + uptoBulk d + 1
  | (_, d) => uptoBulk d + 1
 end
def uptoSmall : (H : Type) → List (DataW H) → Bool := fun _ ds => decide (uptoBulkAll ds ≤ 1048576)
def OpenSpec.upto (s : _root_.Go.ChangeSpec) : _root_.Go.OpenSpec := { _root_.Go.OpenSpec.ofChange s with cond := some uptoSmall }

/-- 'laws.FnExactActFor', WHERE WHAT IT READS IS OF BULK AT MOST 1048576: true; the input reads as it did. -/
def fnExactActForUptoRow : OpenClaim := { program := "ytgihjaonapngdaa", sum := "e9d4555282c4c6b8b970a79c0b3b47490259b4454700497cb4a1f67b26b3eac2", func := "loop.example/g00200/laws.FnExactActFor", spec := "fnExactActFor", apart := false, narrowed := true }
def FnExactActForUptoSaid : Prop := fnExactActForUptoRow.holds Try.pinned (OpenSpec.upto fnExactActForSpec)

/-- 'laws.FnExactSenseNames', WHERE WHAT IT READS IS OF BULK AT MOST 1048576: true; the input reads as it did. -/
def fnExactSenseNamesUptoRow : OpenClaim := { program := "ytgihjaonapngdaa", sum := "e9d4555282c4c6b8b970a79c0b3b47490259b4454700497cb4a1f67b26b3eac2", func := "loop.example/g00200/laws.FnExactSenseNames", spec := "fnExactSenseNames", inPlace := ["internal/abi.NoEscape", "internal/bytealg.MakeNoZero"], apart := false, narrowed := true }
def FnExactSenseNamesUptoSaid : Prop := fnExactSenseNamesUptoRow.holds Try.pinned (OpenSpec.upto fnExactSenseNamesSpec)

/-- 'laws.FnExactOrderText', WHERE WHAT IT READS IS OF BULK AT MOST 1048576: true; the input reads as it did. -/
def fnExactOrderTextUptoRow : OpenClaim := { program := "ytgihjaonapngdaa", sum := "e9d4555282c4c6b8b970a79c0b3b47490259b4454700497cb4a1f67b26b3eac2", func := "loop.example/g00200/laws.FnExactOrderText", spec := "fnExactOrderText", apart := false, narrowed := true }
def FnExactOrderTextUptoSaid : Prop := fnExactOrderTextUptoRow.holds Try.pinned (OpenSpec.upto fnExactOrderTextSpec)

/-- 'laws.FnRules', WHERE WHAT IT READS IS OF BULK AT MOST 1048576: true; the input reads as it did. -/
def fnRulesUptoRow : OpenClaim := { program := "ytgihjaonapngdaa", sum := "e9d4555282c4c6b8b970a79c0b3b47490259b4454700497cb4a1f67b26b3eac2", func := "loop.example/g00200/laws.FnRules", spec := "fnRules", apart := false, narrowed := true }
def FnRulesUptoSaid : Prop := fnRulesUptoRow.holds Try.pinned (OpenSpec.upto fnRulesSpec)

/-- 'laws.FnExactHarmonic', WHERE WHAT IT READS IS OF BULK AT MOST 1048576: true; the input reads as it did. -/
def fnExactHarmonicUptoRow : OpenClaim := { program := "ytgihjaonapngdaa", sum := "e9d4555282c4c6b8b970a79c0b3b47490259b4454700497cb4a1f67b26b3eac2", func := "loop.example/g00200/laws.FnExactHarmonic", spec := "fnExactHarmonic", apart := false, narrowed := true }
def FnExactHarmonicUptoSaid : Prop := fnExactHarmonicUptoRow.holds Try.pinned (OpenSpec.upto fnExactHarmonicSpec)

/-- 'laws.FnHarmonics', WHERE WHAT IT READS IS OF BULK AT MOST 1048576: true; the input reads as it did. -/
def fnHarmonicsUptoRow : OpenClaim := { program := "ytgihjaonapngdaa", sum := "e9d4555282c4c6b8b970a79c0b3b47490259b4454700497cb4a1f67b26b3eac2", func := "loop.example/g00200/laws.FnHarmonics", spec := "fnHarmonics", apart := false, narrowed := true }
def FnHarmonicsUptoSaid : Prop := fnHarmonicsUptoRow.holds Try.pinned (OpenSpec.upto fnHarmonicsSpec)

/-- 'laws.FnExactReadSense', WHERE WHAT IT READS IS OF BULK AT MOST 1048576: true; the input reads as it did. -/
def fnExactReadSenseUptoRow : OpenClaim := { program := "ytgihjaonapngdaa", sum := "e9d4555282c4c6b8b970a79c0b3b47490259b4454700497cb4a1f67b26b3eac2", func := "loop.example/g00200/laws.FnExactReadSense", spec := "fnExactReadSense", inPlace := ["internal/abi.NoEscape", "internal/bytealg.MakeNoZero"], apart := false, narrowed := true }
def FnExactReadSenseUptoSaid : Prop := fnExactReadSenseUptoRow.holds Try.pinned (OpenSpec.upto fnExactReadSenseSpec)

/-- 'laws.FnExactWorstCost', WHERE WHAT IT READS IS OF BULK AT MOST 1048576: true; the input reads as it did. -/
def fnExactWorstCostUptoRow : OpenClaim := { program := "ytgihjaonapngdaa", sum := "e9d4555282c4c6b8b970a79c0b3b47490259b4454700497cb4a1f67b26b3eac2", func := "loop.example/g00200/laws.FnExactWorstCost", spec := "fnExactWorstCost", apart := false, narrowed := true }
def FnExactWorstCostUptoSaid : Prop := fnExactWorstCostUptoRow.holds Try.pinned (OpenSpec.upto fnExactWorstCostSpec)

/-- 'laws.FnPorts', WHERE WHAT IT READS IS OF BULK AT MOST 1048576: true; the input reads as it did. -/
def fnPortsUptoRow : OpenClaim := { program := "ytgihjaonapngdaa", sum := "e9d4555282c4c6b8b970a79c0b3b47490259b4454700497cb4a1f67b26b3eac2", func := "loop.example/g00200/laws.FnPorts", spec := "fnPorts", apart := false, narrowed := true }
def FnPortsUptoSaid : Prop := fnPortsUptoRow.holds Try.pinned (OpenSpec.upto fnPortsSpec)

/-- 'laws.FnExactSendPort', WHERE WHAT IT READS IS OF BULK AT MOST 1048576: true; the input reads as it did. -/
def fnExactSendPortUptoRow : OpenClaim := { program := "ytgihjaonapngdaa", sum := "e9d4555282c4c6b8b970a79c0b3b47490259b4454700497cb4a1f67b26b3eac2", func := "loop.example/g00200/laws.FnExactSendPort", spec := "fnExactSendPort", apart := false, narrowed := true }
def FnExactSendPortUptoSaid : Prop := fnExactSendPortUptoRow.holds Try.pinned (OpenSpec.upto fnExactSendPortSpec)

/-- 'laws.FnExactTakePort', WHERE WHAT IT READS IS OF BULK AT MOST 1048576: true; the input reads as it did. -/
def fnExactTakePortUptoRow : OpenClaim := { program := "ytgihjaonapngdaa", sum := "e9d4555282c4c6b8b970a79c0b3b47490259b4454700497cb4a1f67b26b3eac2", func := "loop.example/g00200/laws.FnExactTakePort", spec := "fnExactTakePort", apart := false, narrowed := true }
def FnExactTakePortUptoSaid : Prop := fnExactTakePortUptoRow.holds Try.pinned (OpenSpec.upto fnExactTakePortSpec)

/-- 'laws.FnSenses', WHERE WHAT IT READS IS OF BULK AT MOST 1048576: true; the input reads as it did. -/
def fnSensesUptoRow : OpenClaim := { program := "ytgihjaonapngdaa", sum := "e9d4555282c4c6b8b970a79c0b3b47490259b4454700497cb4a1f67b26b3eac2", func := "loop.example/g00200/laws.FnSenses", spec := "fnSenses", inPlace := ["internal/abi.NoEscape", "internal/bytealg.MakeNoZero"], apart := false, narrowed := true }
def FnSensesUptoSaid : Prop := fnSensesUptoRow.holds Try.pinned (OpenSpec.upto fnSensesSpec)

end Rows
end Go.Proofs.Ytgihjaonapngdaa
