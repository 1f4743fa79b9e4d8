/-
  No cell of these rows narrows 'for every input' (looked for: loops, veiled, ifaces, maps, wideKeys, modest, calm, conditions, laid).
  DERIVED. THE GIVEN ROWS OF THIS SEAT. 12 by the template 'for every input the law returns true; each argument reads behind the call as it read before'; 0 by the template 'total and deterministic' (their statements: YtbnmhfglkbkbnaaTotals.lean).
  GIVEN WITH THE SEED: the statements are not yours to turn. If you find one false, say at which input.
  Laid BY PROGRAM, IN A SANDBOX (cutbox-rows.mjs): the forced cells as the released guide's own fill.sh prints them over the translation 166ef9ee676509c5… (all of the seat's roots in one cut). By AI agents, Wed Nov 11 2026. No macro, syntax, notation, axiom, sorry.
-/
import Derived.Test.YtbnmhfglkbkbnaaChecked
import GoSem.Claim
import GoSem.ClaimJoined
import GoSem.ClaimMapViews
import Derived.JoinedTies
import Derived.KernelRfl
namespace Go.Proofs.Ytbnmhfglkbkbnaa
/- THE CELL 'sum', in the pinned program and in every row, IS THE sha256 OF THE DUMP (.gsa) THAT YtbnmhfglkbkbnaaProg.lean LOADS. Nothing in Lean hashes anything: it is a label: what it is worth is what the hold of that sum in a sandbox is worth. -/
noncomputable def Try.pinned : Pinned := { name := "ytbnmhfglkbkbnaa", sum := "166ef9ee676509c588e36a2b40e75aebd81f4911a23f80e0b4327c1dcad961d2", checked := Try.checked }
namespace Rows
def none {H : Type} : Left H := { results := [], args := [] }

/-- 'laws.FnExactSenseOk': WHATEVER THE INPUT: true; the input reads as it did. -/
def fnExactSenseOkSpec : ChangeSpec := { name := "fnExactSenseOk", fn := fun _ => fun
  | [d] => { results := [.lit (.bool true)], args := [d] }
  | _ => none }
def fnExactSenseOkRow : OpenClaim := { program := "ytbnmhfglkbkbnaa", sum := "166ef9ee676509c588e36a2b40e75aebd81f4911a23f80e0b4327c1dcad961d2", func := "loop.example/g00200/laws.FnExactSenseOk", spec := "fnExactSenseOk", apart := false }
def FnExactSenseOkSaid : Prop := fnExactSenseOkRow.holds Try.pinned (OpenSpec.ofChange fnExactSenseOkSpec)

/-- ITS FALSE NEIGHBOUR: 'it returns false'. Refute it at one input. -/
def fnExactSenseOkWrong : ChangeSpec := { name := "fnExactSenseOk", fn := fun _ => fun
  | [d] => { results := [.lit (.bool false)], args := [d] }
  | _ => none }
def FnExactSenseOkWrongFalsely : Prop := fnExactSenseOkRow.holds Try.pinned (OpenSpec.ofChange fnExactSenseOkWrong)

/-- 'laws.FnExactHas': WHATEVER THE INPUT: true; the input reads as it did. -/
def fnExactHasSpec : ChangeSpec := { name := "fnExactHas", fn := fun _ => fun
  | [d1, d2] => { results := [.lit (.bool true)], args := [d1, d2] }
  | _ => none }
def fnExactHasRow : OpenClaim := { program := "ytbnmhfglkbkbnaa", sum := "166ef9ee676509c588e36a2b40e75aebd81f4911a23f80e0b4327c1dcad961d2", func := "loop.example/g00200/laws.FnExactHas", spec := "fnExactHas", apart := false }
def FnExactHasSaid : Prop := fnExactHasRow.holds Try.pinned (OpenSpec.ofChange fnExactHasSpec)

/-- ITS FALSE NEIGHBOUR: 'it returns false'. Refute it at one input. -/
def fnExactHasWrong : ChangeSpec := { name := "fnExactHas", fn := fun _ => fun
  | [d1, d2] => { results := [.lit (.bool false)], args := [d1, d2] }
  | _ => none }
def FnExactHasWrongFalsely : Prop := fnExactHasRow.holds Try.pinned (OpenSpec.ofChange fnExactHasWrong)

/-- 'laws.FnExactOrderOk': WHATEVER THE INPUT: true; the input reads as it did. -/
def fnExactOrderOkSpec : ChangeSpec := { name := "fnExactOrderOk", fn := fun _ => fun
  | [d] => { results := [.lit (.bool true)], args := [d] }
  | _ => none }
def fnExactOrderOkRow : OpenClaim := { program := "ytbnmhfglkbkbnaa", sum := "166ef9ee676509c588e36a2b40e75aebd81f4911a23f80e0b4327c1dcad961d2", func := "loop.example/g00200/laws.FnExactOrderOk", spec := "fnExactOrderOk", apart := false }
def FnExactOrderOkSaid : Prop := fnExactOrderOkRow.holds Try.pinned (OpenSpec.ofChange fnExactOrderOkSpec)

/-- ITS FALSE NEIGHBOUR: 'it returns false'. Refute it at one input. -/
def fnExactOrderOkWrong : ChangeSpec := { name := "fnExactOrderOk", fn := fun _ => fun
  | [d] => { results := [.lit (.bool false)], args := [d] }
  | _ => none }
def FnExactOrderOkWrongFalsely : Prop := fnExactOrderOkRow.holds Try.pinned (OpenSpec.ofChange fnExactOrderOkWrong)

/-- 'laws.FnExactPortOk': WHATEVER THE INPUT: true; the input reads as it did. -/
def fnExactPortOkSpec : ChangeSpec := { name := "fnExactPortOk", fn := fun _ => fun
  | [d] => { results := [.lit (.bool true)], args := [d] }
  | _ => none }
def fnExactPortOkRow : OpenClaim := { program := "ytbnmhfglkbkbnaa", sum := "166ef9ee676509c588e36a2b40e75aebd81f4911a23f80e0b4327c1dcad961d2", func := "loop.example/g00200/laws.FnExactPortOk", spec := "fnExactPortOk", apart := false }
def FnExactPortOkSaid : Prop := fnExactPortOkRow.holds Try.pinned (OpenSpec.ofChange fnExactPortOkSpec)

/-- ITS FALSE NEIGHBOUR: 'it returns false'. Refute it at one input. -/
def fnExactPortOkWrong : ChangeSpec := { name := "fnExactPortOk", fn := fun _ => fun
  | [d] => { results := [.lit (.bool false)], args := [d] }
  | _ => none }
def FnExactPortOkWrongFalsely : Prop := fnExactPortOkRow.holds Try.pinned (OpenSpec.ofChange fnExactPortOkWrong)

/-- 'laws.FnExactTimeOf': WHATEVER THE INPUT: true; the input reads as it did. -/
def fnExactTimeOfSpec : ChangeSpec := { name := "fnExactTimeOf", fn := fun _ => fun
  | [d1, d2] => { results := [.lit (.bool true)], args := [d1, d2] }
  | _ => none }
def fnExactTimeOfRow : OpenClaim := { program := "ytbnmhfglkbkbnaa", sum := "166ef9ee676509c588e36a2b40e75aebd81f4911a23f80e0b4327c1dcad961d2", func := "loop.example/g00200/laws.FnExactTimeOf", spec := "fnExactTimeOf", apart := false }
def FnExactTimeOfSaid : Prop := fnExactTimeOfRow.holds Try.pinned (OpenSpec.ofChange fnExactTimeOfSpec)

/-- ITS FALSE NEIGHBOUR: 'it returns false'. Refute it at one input. -/
def fnExactTimeOfWrong : ChangeSpec := { name := "fnExactTimeOf", fn := fun _ => fun
  | [d1, d2] => { results := [.lit (.bool false)], args := [d1, d2] }
  | _ => none }
def FnExactTimeOfWrongFalsely : Prop := fnExactTimeOfRow.holds Try.pinned (OpenSpec.ofChange fnExactTimeOfWrong)

/-- 'laws.FnWorst': WHATEVER THE INPUT: true; the input reads as it did. -/
def fnWorstSpec : ChangeSpec := { name := "fnWorst", fn := fun _ => fun
  | [d] => { results := [.lit (.bool true)], args := [d] }
  | _ => none }
def fnWorstRow : OpenClaim := { program := "ytbnmhfglkbkbnaa", sum := "166ef9ee676509c588e36a2b40e75aebd81f4911a23f80e0b4327c1dcad961d2", func := "loop.example/g00200/laws.FnWorst", spec := "fnWorst", apart := false }
def FnWorstSaid : Prop := fnWorstRow.holds Try.pinned (OpenSpec.ofChange fnWorstSpec)

/-- ITS FALSE NEIGHBOUR: 'it returns false'. Refute it at one input. -/
def fnWorstWrong : ChangeSpec := { name := "fnWorst", fn := fun _ => fun
  | [d] => { results := [.lit (.bool false)], args := [d] }
  | _ => none }
def FnWorstWrongFalsely : Prop := fnWorstRow.holds Try.pinned (OpenSpec.ofChange fnWorstWrong)

/-- 'laws.FnExactPlanOk': WHATEVER THE INPUT: true; the input reads as it did. -/
def fnExactPlanOkSpec : ChangeSpec := { name := "fnExactPlanOk", fn := fun _ => fun
  | [d] => { results := [.lit (.bool true)], args := [d] }
  | _ => none }
def fnExactPlanOkRow : OpenClaim := { program := "ytbnmhfglkbkbnaa", sum := "166ef9ee676509c588e36a2b40e75aebd81f4911a23f80e0b4327c1dcad961d2", func := "loop.example/g00200/laws.FnExactPlanOk", spec := "fnExactPlanOk", apart := false }
def FnExactPlanOkSaid : Prop := fnExactPlanOkRow.holds Try.pinned (OpenSpec.ofChange fnExactPlanOkSpec)

/-- ITS FALSE NEIGHBOUR: 'it returns false'. Refute it at one input. -/
def fnExactPlanOkWrong : ChangeSpec := { name := "fnExactPlanOk", fn := fun _ => fun
  | [d] => { results := [.lit (.bool false)], args := [d] }
  | _ => none }
def FnExactPlanOkWrongFalsely : Prop := fnExactPlanOkRow.holds Try.pinned (OpenSpec.ofChange fnExactPlanOkWrong)

/-- 'laws.FnExactWindowAt': WHATEVER THE INPUT: true; the input reads as it did. -/
def fnExactWindowAtSpec : ChangeSpec := { name := "fnExactWindowAt", fn := fun _ => fun
  | [d1, d2] => { results := [.lit (.bool true)], args := [d1, d2] }
  | _ => none }
def fnExactWindowAtRow : OpenClaim := { program := "ytbnmhfglkbkbnaa", sum := "166ef9ee676509c588e36a2b40e75aebd81f4911a23f80e0b4327c1dcad961d2", func := "loop.example/g00200/laws.FnExactWindowAt", spec := "fnExactWindowAt", apart := false }
def FnExactWindowAtSaid : Prop := fnExactWindowAtRow.holds Try.pinned (OpenSpec.ofChange fnExactWindowAtSpec)

/-- ITS FALSE NEIGHBOUR: 'it returns false'. Refute it at one input. -/
def fnExactWindowAtWrong : ChangeSpec := { name := "fnExactWindowAt", fn := fun _ => fun
  | [d1, d2] => { results := [.lit (.bool false)], args := [d1, d2] }
  | _ => none }
def FnExactWindowAtWrongFalsely : Prop := fnExactWindowAtRow.holds Try.pinned (OpenSpec.ofChange fnExactWindowAtWrong)

/-- 'laws.FnExactForward': WHATEVER THE INPUT: true; the input reads as it did. -/
def fnExactForwardSpec : ChangeSpec := { name := "fnExactForward", fn := fun _ => fun
  | [d] => { results := [.lit (.bool true)], args := [d] }
  | _ => none }
def fnExactForwardRow : OpenClaim := { program := "ytbnmhfglkbkbnaa", sum := "166ef9ee676509c588e36a2b40e75aebd81f4911a23f80e0b4327c1dcad961d2", func := "loop.example/g00200/laws.FnExactForward", spec := "fnExactForward", apart := false }
def FnExactForwardSaid : Prop := fnExactForwardRow.holds Try.pinned (OpenSpec.ofChange fnExactForwardSpec)

/-- ITS FALSE NEIGHBOUR: 'it returns false'. Refute it at one input. -/
def fnExactForwardWrong : ChangeSpec := { name := "fnExactForward", fn := fun _ => fun
  | [d] => { results := [.lit (.bool false)], args := [d] }
  | _ => none }
def FnExactForwardWrongFalsely : Prop := fnExactForwardRow.holds Try.pinned (OpenSpec.ofChange fnExactForwardWrong)

/-- 'laws.FnQueues': WHATEVER THE INPUT: true; the input reads as it did. -/
def fnQueuesSpec : ChangeSpec := { name := "fnQueues", fn := fun _ => fun
  | [d] => { results := [.lit (.bool true)], args := [d] }
  | _ => none }
def fnQueuesRow : OpenClaim := { program := "ytbnmhfglkbkbnaa", sum := "166ef9ee676509c588e36a2b40e75aebd81f4911a23f80e0b4327c1dcad961d2", func := "loop.example/g00200/laws.FnQueues", spec := "fnQueues", apart := false }
def FnQueuesSaid : Prop := fnQueuesRow.holds Try.pinned (OpenSpec.ofChange fnQueuesSpec)

/-- ITS FALSE NEIGHBOUR: 'it returns false'. Refute it at one input. -/
def fnQueuesWrong : ChangeSpec := { name := "fnQueues", fn := fun _ => fun
  | [d] => { results := [.lit (.bool false)], args := [d] }
  | _ => none }
def FnQueuesWrongFalsely : Prop := fnQueuesRow.holds Try.pinned (OpenSpec.ofChange fnQueuesWrong)

/-- 'laws.FnSamples': WHATEVER THE INPUT: true; the input reads as it did. -/
def fnSamplesSpec : ChangeSpec := { name := "fnSamples", fn := fun _ => fun
  | [d] => { results := [.lit (.bool true)], args := [d] }
  | _ => none }
def fnSamplesRow : OpenClaim := { program := "ytbnmhfglkbkbnaa", sum := "166ef9ee676509c588e36a2b40e75aebd81f4911a23f80e0b4327c1dcad961d2", func := "loop.example/g00200/laws.FnSamples", spec := "fnSamples", apart := false }
def FnSamplesSaid : Prop := fnSamplesRow.holds Try.pinned (OpenSpec.ofChange fnSamplesSpec)

/-- ITS FALSE NEIGHBOUR: 'it returns false'. Refute it at one input. -/
def fnSamplesWrong : ChangeSpec := { name := "fnSamples", fn := fun _ => fun
  | [d] => { results := [.lit (.bool false)], args := [d] }
  | _ => none }
def FnSamplesWrongFalsely : Prop := fnSamplesRow.holds Try.pinned (OpenSpec.ofChange fnSamplesWrong)

/-- 'laws.FnExactRulesOk': WHATEVER THE INPUT: true; the input reads as it did. -/
def fnExactRulesOkSpec : ChangeSpec := { name := "fnExactRulesOk", fn := fun _ => fun
  | [d] => { results := [.lit (.bool true)], args := [d] }
  | _ => none }
def fnExactRulesOkRow : OpenClaim := { program := "ytbnmhfglkbkbnaa", sum := "166ef9ee676509c588e36a2b40e75aebd81f4911a23f80e0b4327c1dcad961d2", func := "loop.example/g00200/laws.FnExactRulesOk", spec := "fnExactRulesOk", apart := false }
def FnExactRulesOkSaid : Prop := fnExactRulesOkRow.holds Try.pinned (OpenSpec.ofChange fnExactRulesOkSpec)

/-- ITS FALSE NEIGHBOUR: 'it returns false'. Refute it at one input. -/
def fnExactRulesOkWrong : ChangeSpec := { name := "fnExactRulesOk", fn := fun _ => fun
  | [d] => { results := [.lit (.bool false)], args := [d] }
  | _ => none }
def FnExactRulesOkWrongFalsely : Prop := fnExactRulesOkRow.holds Try.pinned (OpenSpec.ofChange fnExactRulesOkWrong)

/- THE SECOND FORM. 'bulk': how many values and letters a reading holds, each counted each time it is reached (what is shared counts as often as it is met; a slice's spare places count too). A statement '..UptoSaid' is the law's where the arguments, and the package variables that the reading takes, are together of bulk at most 1048576: NARROWER than '..Said'. Prove '..Said' where nothing that the law and all that it calls make is longer than what came in: it says more and counts as full. Else prove '..UptoSaid'. A law counts once. -/
mutual
def uptoBulk {H : Type} : DataW H → Nat
  | .lit (.string bytes) => bytes.length + 1
  | .lit _ => 1
  | .nil => 1
  | .ptr d => uptoBulk d + 1
  | .slice elems spare => uptoBulkAll elems + uptoBulkAll spare + 1
  | .agg parts => uptoBulkAll parts + 1
  | .iface _ d => uptoBulk d + 1
  | .map entries => uptoBulkEntries entries + 1
  | .held _ => 1
def uptoBulkAll {H : Type} : List (DataW H) → Nat
  | [] => 0
  | d :: r => uptoBulk d + uptoBulkAll r
def uptoBulkEntries {H : Type} : List (Lit × DataW H) → Nat
  | [] => 0
  | x :: r => uptoBulkEntry x + uptoBulkEntries r
def uptoBulkEntry {H : Type} : Lit × DataW H → Nat
  | (.string bytes, d) => bytes.length + uptoBulk d + 1
  | (_, d) => uptoBulk d + 1
 end
def uptoSmall : (H : Type) → List (DataW H) → Bool := fun _ ds => decide (uptoBulkAll ds ≤ 1048576)
def OpenSpec.upto (s : _root_.Go.ChangeSpec) : _root_.Go.OpenSpec := { _root_.Go.OpenSpec.ofChange s with cond := some uptoSmall }

/-- 'laws.FnExactSenseOk', WHERE WHAT IT READS IS OF BULK AT MOST 1048576: true; the input reads as it did. -/
def fnExactSenseOkUptoRow : OpenClaim := { program := "ytbnmhfglkbkbnaa", sum := "166ef9ee676509c588e36a2b40e75aebd81f4911a23f80e0b4327c1dcad961d2", func := "loop.example/g00200/laws.FnExactSenseOk", spec := "fnExactSenseOk", apart := false, narrowed := true }
def FnExactSenseOkUptoSaid : Prop := fnExactSenseOkUptoRow.holds Try.pinned (OpenSpec.upto fnExactSenseOkSpec)

/-- 'laws.FnExactHas', WHERE WHAT IT READS IS OF BULK AT MOST 1048576: true; the input reads as it did. -/
def fnExactHasUptoRow : OpenClaim := { program := "ytbnmhfglkbkbnaa", sum := "166ef9ee676509c588e36a2b40e75aebd81f4911a23f80e0b4327c1dcad961d2", func := "loop.example/g00200/laws.FnExactHas", spec := "fnExactHas", apart := false, narrowed := true }
def FnExactHasUptoSaid : Prop := fnExactHasUptoRow.holds Try.pinned (OpenSpec.upto fnExactHasSpec)

/-- 'laws.FnExactOrderOk', WHERE WHAT IT READS IS OF BULK AT MOST 1048576: true; the input reads as it did. -/
def fnExactOrderOkUptoRow : OpenClaim := { program := "ytbnmhfglkbkbnaa", sum := "166ef9ee676509c588e36a2b40e75aebd81f4911a23f80e0b4327c1dcad961d2", func := "loop.example/g00200/laws.FnExactOrderOk", spec := "fnExactOrderOk", apart := false, narrowed := true }
def FnExactOrderOkUptoSaid : Prop := fnExactOrderOkUptoRow.holds Try.pinned (OpenSpec.upto fnExactOrderOkSpec)

/-- 'laws.FnExactPortOk', WHERE WHAT IT READS IS OF BULK AT MOST 1048576: true; the input reads as it did. -/
def fnExactPortOkUptoRow : OpenClaim := { program := "ytbnmhfglkbkbnaa", sum := "166ef9ee676509c588e36a2b40e75aebd81f4911a23f80e0b4327c1dcad961d2", func := "loop.example/g00200/laws.FnExactPortOk", spec := "fnExactPortOk", apart := false, narrowed := true }
def FnExactPortOkUptoSaid : Prop := fnExactPortOkUptoRow.holds Try.pinned (OpenSpec.upto fnExactPortOkSpec)

/-- 'laws.FnExactTimeOf', WHERE WHAT IT READS IS OF BULK AT MOST 1048576: true; the input reads as it did. -/
def fnExactTimeOfUptoRow : OpenClaim := { program := "ytbnmhfglkbkbnaa", sum := "166ef9ee676509c588e36a2b40e75aebd81f4911a23f80e0b4327c1dcad961d2", func := "loop.example/g00200/laws.FnExactTimeOf", spec := "fnExactTimeOf", apart := false, narrowed := true }
def FnExactTimeOfUptoSaid : Prop := fnExactTimeOfUptoRow.holds Try.pinned (OpenSpec.upto fnExactTimeOfSpec)

/-- 'laws.FnWorst', WHERE WHAT IT READS IS OF BULK AT MOST 1048576: true; the input reads as it did. -/
def fnWorstUptoRow : OpenClaim := { program := "ytbnmhfglkbkbnaa", sum := "166ef9ee676509c588e36a2b40e75aebd81f4911a23f80e0b4327c1dcad961d2", func := "loop.example/g00200/laws.FnWorst", spec := "fnWorst", apart := false, narrowed := true }
def FnWorstUptoSaid : Prop := fnWorstUptoRow.holds Try.pinned (OpenSpec.upto fnWorstSpec)

/-- 'laws.FnExactPlanOk', WHERE WHAT IT READS IS OF BULK AT MOST 1048576: true; the input reads as it did. -/
def fnExactPlanOkUptoRow : OpenClaim := { program := "ytbnmhfglkbkbnaa", sum := "166ef9ee676509c588e36a2b40e75aebd81f4911a23f80e0b4327c1dcad961d2", func := "loop.example/g00200/laws.FnExactPlanOk", spec := "fnExactPlanOk", apart := false, narrowed := true }
def FnExactPlanOkUptoSaid : Prop := fnExactPlanOkUptoRow.holds Try.pinned (OpenSpec.upto fnExactPlanOkSpec)

/-- 'laws.FnExactWindowAt', WHERE WHAT IT READS IS OF BULK AT MOST 1048576: true; the input reads as it did. -/
def fnExactWindowAtUptoRow : OpenClaim := { program := "ytbnmhfglkbkbnaa", sum := "166ef9ee676509c588e36a2b40e75aebd81f4911a23f80e0b4327c1dcad961d2", func := "loop.example/g00200/laws.FnExactWindowAt", spec := "fnExactWindowAt", apart := false, narrowed := true }
def FnExactWindowAtUptoSaid : Prop := fnExactWindowAtUptoRow.holds Try.pinned (OpenSpec.upto fnExactWindowAtSpec)

/-- 'laws.FnExactForward', WHERE WHAT IT READS IS OF BULK AT MOST 1048576: true; the input reads as it did. -/
def fnExactForwardUptoRow : OpenClaim := { program := "ytbnmhfglkbkbnaa", sum := "166ef9ee676509c588e36a2b40e75aebd81f4911a23f80e0b4327c1dcad961d2", func := "loop.example/g00200/laws.FnExactForward", spec := "fnExactForward", apart := false, narrowed := true }
def FnExactForwardUptoSaid : Prop := fnExactForwardUptoRow.holds Try.pinned (OpenSpec.upto fnExactForwardSpec)

/-- 'laws.FnQueues', WHERE WHAT IT READS IS OF BULK AT MOST 1048576: true; the input reads as it did. -/
def fnQueuesUptoRow : OpenClaim := { program := "ytbnmhfglkbkbnaa", sum := "166ef9ee676509c588e36a2b40e75aebd81f4911a23f80e0b4327c1dcad961d2", func := "loop.example/g00200/laws.FnQueues", spec := "fnQueues", apart := false, narrowed := true }
def FnQueuesUptoSaid : Prop := fnQueuesUptoRow.holds Try.pinned (OpenSpec.upto fnQueuesSpec)

/-- 'laws.FnSamples', WHERE WHAT IT READS IS OF BULK AT MOST 1048576: true; the input reads as it did. -/
def fnSamplesUptoRow : OpenClaim := { program := "ytbnmhfglkbkbnaa", sum := "166ef9ee676509c588e36a2b40e75aebd81f4911a23f80e0b4327c1dcad961d2", func := "loop.example/g00200/laws.FnSamples", spec := "fnSamples", apart := false, narrowed := true }
def FnSamplesUptoSaid : Prop := fnSamplesUptoRow.holds Try.pinned (OpenSpec.upto fnSamplesSpec)

/-- 'laws.FnExactRulesOk', WHERE WHAT IT READS IS OF BULK AT MOST 1048576: true; the input reads as it did. -/
def fnExactRulesOkUptoRow : OpenClaim := { program := "ytbnmhfglkbkbnaa", sum := "166ef9ee676509c588e36a2b40e75aebd81f4911a23f80e0b4327c1dcad961d2", func := "loop.example/g00200/laws.FnExactRulesOk", spec := "fnExactRulesOk", apart := false, narrowed := true }
def FnExactRulesOkUptoSaid : Prop := fnExactRulesOkUptoRow.holds Try.pinned (OpenSpec.upto fnExactRulesOkSpec)

end Rows
end Go.Proofs.Ytbnmhfglkbkbnaa
