/-
  No cell of these rows narrows 'for every input' (looked for: loops, veiled, ifaces, maps, wideKeys, modest, calm, conditions, laid).
  DERIVED. THE GIVEN ROWS OF THIS SEAT. 11 by the template 'for every input the law returns true; each argument reads behind the call as it read before'; 0 by the template 'total and deterministic' (their statements: YtcnaldcinkmpbaaTotals.lean).
  GIVEN WITH THE SEED: the statements are not yours to turn. If you find one false, say at which input.
  Laid BY PROGRAM, IN A SANDBOX (cutbox-rows.mjs): the forced cells as the released guide's own fill.sh prints them over the translation 974db2a91178e2e4… (all of the seat's roots in one cut). By AI agents, Wed Nov 11 2026. No macro, syntax, notation, axiom, sorry.
-/
import Derived.Test.YtcnaldcinkmpbaaChecked
import GoSem.Claim
import GoSem.ClaimJoined
import GoSem.ClaimMapViews
import Derived.JoinedTies
import Derived.KernelRfl
namespace Go.Proofs.Ytcnaldcinkmpbaa
/- THE CELL 'sum', in the pinned program and in every row, IS THE sha256 OF THE DUMP (.gsa) THAT YtcnaldcinkmpbaaProg.lean LOADS. Nothing in Lean hashes anything: it is a label: what it is worth is what the hold of that sum in a sandbox is worth. -/
noncomputable def Try.pinned : Pinned := { name := "ytcnaldcinkmpbaa", sum := "974db2a91178e2e4748e7075a30fc017e9f8798ebb725c0d0fd8237956118029", checked := Try.checked }
namespace Rows
def none {H : Type} : Left H := { results := [], args := [] }

/-- 'laws.FnPlans': WHATEVER THE INPUT: true; the input reads as it did. -/
def fnPlansSpec : ChangeSpec := { name := "fnPlans", fn := fun _ => fun
  | [d] => { results := [.lit (.bool true)], args := [d] }
  | _ => none }
def fnPlansRow : OpenClaim := { program := "ytcnaldcinkmpbaa", sum := "974db2a91178e2e4748e7075a30fc017e9f8798ebb725c0d0fd8237956118029", func := "loop.example/g00200/laws.FnPlans", spec := "fnPlans", apart := false }
def FnPlansSaid : Prop := fnPlansRow.holds Try.pinned (OpenSpec.ofChange fnPlansSpec)

/-- ITS FALSE NEIGHBOUR: 'it returns false'. Refute it at one input. -/
def fnPlansWrong : ChangeSpec := { name := "fnPlans", fn := fun _ => fun
  | [d] => { results := [.lit (.bool false)], args := [d] }
  | _ => none }
def FnPlansWrongFalsely : Prop := fnPlansRow.holds Try.pinned (OpenSpec.ofChange fnPlansWrong)

/-- 'laws.FnFaults': WHATEVER THE INPUT: true; the input reads as it did. -/
def fnFaultsSpec : ChangeSpec := { name := "fnFaults", fn := fun _ => fun
  | [d] => { results := [.lit (.bool true)], args := [d] }
  | _ => none }
def fnFaultsRow : OpenClaim := { program := "ytcnaldcinkmpbaa", sum := "974db2a91178e2e4748e7075a30fc017e9f8798ebb725c0d0fd8237956118029", func := "loop.example/g00200/laws.FnFaults", spec := "fnFaults", apart := false }
def FnFaultsSaid : Prop := fnFaultsRow.holds Try.pinned (OpenSpec.ofChange fnFaultsSpec)

/-- ITS FALSE NEIGHBOUR: 'it returns false'. Refute it at one input. -/
def fnFaultsWrong : ChangeSpec := { name := "fnFaults", fn := fun _ => fun
  | [d] => { results := [.lit (.bool false)], args := [d] }
  | _ => none }
def FnFaultsWrongFalsely : Prop := fnFaultsRow.holds Try.pinned (OpenSpec.ofChange fnFaultsWrong)

/-- 'laws.FnLoops': WHATEVER THE INPUT: true; the input reads as it did. -/
def fnLoopsSpec : ChangeSpec := { name := "fnLoops", fn := fun _ => fun
  | [d] => { results := [.lit (.bool true)], args := [d] }
  | _ => none }
def fnLoopsRow : OpenClaim := { program := "ytcnaldcinkmpbaa", sum := "974db2a91178e2e4748e7075a30fc017e9f8798ebb725c0d0fd8237956118029", func := "loop.example/g00200/laws.FnLoops", spec := "fnLoops", apart := false }
def FnLoopsSaid : Prop := fnLoopsRow.holds Try.pinned (OpenSpec.ofChange fnLoopsSpec)

/-- ITS FALSE NEIGHBOUR: 'it returns false'. Refute it at one input. -/
def fnLoopsWrong : ChangeSpec := { name := "fnLoops", fn := fun _ => fun
  | [d] => { results := [.lit (.bool false)], args := [d] }
  | _ => none }
def FnLoopsWrongFalsely : Prop := fnLoopsRow.holds Try.pinned (OpenSpec.ofChange fnLoopsWrong)

/-- 'laws.FnMachines': WHATEVER THE INPUT: true; the input reads as it did. -/
def fnMachinesSpec : ChangeSpec := { name := "fnMachines", fn := fun _ => fun
  | [d] => { results := [.lit (.bool true)], args := [d] }
  | _ => none }
def fnMachinesRow : OpenClaim := { program := "ytcnaldcinkmpbaa", sum := "974db2a91178e2e4748e7075a30fc017e9f8798ebb725c0d0fd8237956118029", func := "loop.example/g00200/laws.FnMachines", spec := "fnMachines", apart := false }
def FnMachinesSaid : Prop := fnMachinesRow.holds Try.pinned (OpenSpec.ofChange fnMachinesSpec)

/-- ITS FALSE NEIGHBOUR: 'it returns false'. Refute it at one input. -/
def fnMachinesWrong : ChangeSpec := { name := "fnMachines", fn := fun _ => fun
  | [d] => { results := [.lit (.bool false)], args := [d] }
  | _ => none }
def FnMachinesWrongFalsely : Prop := fnMachinesRow.holds Try.pinned (OpenSpec.ofChange fnMachinesWrong)

/-- 'laws.FnExactStepCpu': WHATEVER THE INPUT: true; the input reads as it did. -/
def fnExactStepCpuSpec : ChangeSpec := { name := "fnExactStepCpu", fn := fun _ => fun
  | [d1, d2, d3, d4, d5] => { results := [.lit (.bool true)], args := [d1, d2, d3, d4, d5] }
  | _ => none }
def fnExactStepCpuRow : OpenClaim := { program := "ytcnaldcinkmpbaa", sum := "974db2a91178e2e4748e7075a30fc017e9f8798ebb725c0d0fd8237956118029", func := "loop.example/g00200/laws.FnExactStepCpu", spec := "fnExactStepCpu", apart := false }
def FnExactStepCpuSaid : Prop := fnExactStepCpuRow.holds Try.pinned (OpenSpec.ofChange fnExactStepCpuSpec)

/-- ITS FALSE NEIGHBOUR: 'it returns false'. Refute it at one input. -/
def fnExactStepCpuWrong : ChangeSpec := { name := "fnExactStepCpu", fn := fun _ => fun
  | [d1, d2, d3, d4, d5] => { results := [.lit (.bool false)], args := [d1, d2, d3, d4, d5] }
  | _ => none }
def FnExactStepCpuWrongFalsely : Prop := fnExactStepCpuRow.holds Try.pinned (OpenSpec.ofChange fnExactStepCpuWrong)

/-- 'laws.FnExactSetupFault': WHATEVER THE INPUT: true; the input reads as it did. -/
def fnExactSetupFaultSpec : ChangeSpec := { name := "fnExactSetupFault", fn := fun _ => fun
  | [d] => { results := [.lit (.bool true)], args := [d] }
  | _ => none }
def fnExactSetupFaultRow : OpenClaim := { program := "ytcnaldcinkmpbaa", sum := "974db2a91178e2e4748e7075a30fc017e9f8798ebb725c0d0fd8237956118029", func := "loop.example/g00200/laws.FnExactSetupFault", spec := "fnExactSetupFault", apart := false }
def FnExactSetupFaultSaid : Prop := fnExactSetupFaultRow.holds Try.pinned (OpenSpec.ofChange fnExactSetupFaultSpec)

/-- ITS FALSE NEIGHBOUR: 'it returns false'. Refute it at one input. -/
def fnExactSetupFaultWrong : ChangeSpec := { name := "fnExactSetupFault", fn := fun _ => fun
  | [d] => { results := [.lit (.bool false)], args := [d] }
  | _ => none }
def FnExactSetupFaultWrongFalsely : Prop := fnExactSetupFaultRow.holds Try.pinned (OpenSpec.ofChange fnExactSetupFaultWrong)

/-- 'laws.FnExactRunCost': WHATEVER THE INPUT: true; the input reads as it did. -/
def fnExactRunCostSpec : ChangeSpec := { name := "fnExactRunCost", fn := fun _ => fun
  | [d1, d2, d3, d4] => { results := [.lit (.bool true)], args := [d1, d2, d3, d4] }
  | _ => none }
def fnExactRunCostRow : OpenClaim := { program := "ytcnaldcinkmpbaa", sum := "974db2a91178e2e4748e7075a30fc017e9f8798ebb725c0d0fd8237956118029", func := "loop.example/g00200/laws.FnExactRunCost", spec := "fnExactRunCost", apart := false }
def FnExactRunCostSaid : Prop := fnExactRunCostRow.holds Try.pinned (OpenSpec.ofChange fnExactRunCostSpec)

/-- ITS FALSE NEIGHBOUR: 'it returns false'. Refute it at one input. -/
def fnExactRunCostWrong : ChangeSpec := { name := "fnExactRunCost", fn := fun _ => fun
  | [d1, d2, d3, d4] => { results := [.lit (.bool false)], args := [d1, d2, d3, d4] }
  | _ => none }
def FnExactRunCostWrongFalsely : Prop := fnExactRunCostRow.holds Try.pinned (OpenSpec.ofChange fnExactRunCostWrong)

/-- 'laws.FnRunCosts': WHATEVER THE INPUT: true; the input reads as it did. -/
def fnRunCostsSpec : ChangeSpec := { name := "fnRunCosts", fn := fun _ => fun
  | [d] => { results := [.lit (.bool true)], args := [d] }
  | _ => none }
def fnRunCostsRow : OpenClaim := { program := "ytcnaldcinkmpbaa", sum := "974db2a91178e2e4748e7075a30fc017e9f8798ebb725c0d0fd8237956118029", func := "loop.example/g00200/laws.FnRunCosts", spec := "fnRunCosts", apart := false }
def FnRunCostsSaid : Prop := fnRunCostsRow.holds Try.pinned (OpenSpec.ofChange fnRunCostsSpec)

/-- ITS FALSE NEIGHBOUR: 'it returns false'. Refute it at one input. -/
def fnRunCostsWrong : ChangeSpec := { name := "fnRunCosts", fn := fun _ => fun
  | [d] => { results := [.lit (.bool false)], args := [d] }
  | _ => none }
def FnRunCostsWrongFalsely : Prop := fnRunCostsRow.holds Try.pinned (OpenSpec.ofChange fnRunCostsWrong)

/-- 'laws.FnExactSetupText': WHATEVER THE INPUT: true; the input reads as it did. -/
def fnExactSetupTextSpec : ChangeSpec := { name := "fnExactSetupText", fn := fun _ => fun
  | [d] => { results := [.lit (.bool true)], args := [d] }
  | _ => none }
def fnExactSetupTextRow : OpenClaim := { program := "ytcnaldcinkmpbaa", sum := "974db2a91178e2e4748e7075a30fc017e9f8798ebb725c0d0fd8237956118029", func := "loop.example/g00200/laws.FnExactSetupText", spec := "fnExactSetupText", apart := false }
def FnExactSetupTextSaid : Prop := fnExactSetupTextRow.holds Try.pinned (OpenSpec.ofChange fnExactSetupTextSpec)

/-- ITS FALSE NEIGHBOUR: 'it returns false'. Refute it at one input. -/
def fnExactSetupTextWrong : ChangeSpec := { name := "fnExactSetupText", fn := fun _ => fun
  | [d] => { results := [.lit (.bool false)], args := [d] }
  | _ => none }
def FnExactSetupTextWrongFalsely : Prop := fnExactSetupTextRow.holds Try.pinned (OpenSpec.ofChange fnExactSetupTextWrong)

/-- 'laws.FnExactReadSetup': WHATEVER THE INPUT: true; the input reads as it did. -/
def fnExactReadSetupSpec : ChangeSpec := { name := "fnExactReadSetup", fn := fun _ => fun
  | [d] => { results := [.lit (.bool true)], args := [d] }
  | _ => none }
def fnExactReadSetupRow : OpenClaim := { program := "ytcnaldcinkmpbaa", sum := "974db2a91178e2e4748e7075a30fc017e9f8798ebb725c0d0fd8237956118029", func := "loop.example/g00200/laws.FnExactReadSetup", spec := "fnExactReadSetup", apart := false }
def FnExactReadSetupSaid : Prop := fnExactReadSetupRow.holds Try.pinned (OpenSpec.ofChange fnExactReadSetupSpec)

/-- ITS FALSE NEIGHBOUR: 'it returns false'. Refute it at one input. -/
def fnExactReadSetupWrong : ChangeSpec := { name := "fnExactReadSetup", fn := fun _ => fun
  | [d] => { results := [.lit (.bool false)], args := [d] }
  | _ => none }
def FnExactReadSetupWrongFalsely : Prop := fnExactReadSetupRow.holds Try.pinned (OpenSpec.ofChange fnExactReadSetupWrong)

/-- 'laws.FnSetups': WHATEVER THE INPUT: true; the input reads as it did. -/
def fnSetupsSpec : ChangeSpec := { name := "fnSetups", fn := fun _ => fun
  | [d] => { results := [.lit (.bool true)], args := [d] }
  | _ => none }
def fnSetupsRow : OpenClaim := { program := "ytcnaldcinkmpbaa", sum := "974db2a91178e2e4748e7075a30fc017e9f8798ebb725c0d0fd8237956118029", func := "loop.example/g00200/laws.FnSetups", spec := "fnSetups", apart := false }
def FnSetupsSaid : Prop := fnSetupsRow.holds Try.pinned (OpenSpec.ofChange fnSetupsSpec)

/-- ITS FALSE NEIGHBOUR: 'it returns false'. Refute it at one input. -/
def fnSetupsWrong : ChangeSpec := { name := "fnSetups", fn := fun _ => fun
  | [d] => { results := [.lit (.bool false)], args := [d] }
  | _ => none }
def FnSetupsWrongFalsely : Prop := fnSetupsRow.holds Try.pinned (OpenSpec.ofChange fnSetupsWrong)

/- THE SECOND FORM. 'bulk': how many values and letters a reading holds, each counted each time it is reached (what is shared counts as often as it is met; a slice's spare places count too). A statement '..UptoSaid' is the law's where the arguments, and the package variables that the reading takes, are together of bulk at most 1048576: NARROWER than '..Said'. Prove '..Said' where nothing that the law and all that it calls make is longer than what came in: it says more and counts as full. Else prove '..UptoSaid'. A law counts once. -/
mutual
def uptoBulk {H : Type} : DataW H → Nat
  | .lit (.string bytes) => bytes.length + 1
  | .lit _ => 1
  | .nil => 1
  | .ptr d => uptoBulk d + 1
  | .slice elems spare => uptoBulkAll elems + uptoBulkAll spare + 1
  | .agg parts => uptoBulkAll parts + 1
  | .iface _ d => uptoBulk d + 1
  | .map entries => uptoBulkEntries entries + 1
  | .held _ => 1
def uptoBulkAll {H : Type} : List (DataW H) → Nat
  | [] => 0
  | d :: r => uptoBulk d + uptoBulkAll r
def uptoBulkEntries {H : Type} : List (Lit × DataW H) → Nat
  | [] => 0
  | x :: r => uptoBulkEntry x + uptoBulkEntries r
def uptoBulkEntry {H : Type} : Lit × DataW H → Nat
  | (.string bytes, d) => bytes.length + uptoBulk d + 1
  | (_, d) => uptoBulk d + 1
 end
def uptoSmall : (H : Type) → List (DataW H) → Bool := fun _ ds => decide (uptoBulkAll ds ≤ 1048576)
def OpenSpec.upto (s : _root_.Go.ChangeSpec) : _root_.Go.OpenSpec := { _root_.Go.OpenSpec.ofChange s with cond := some uptoSmall }

/-- 'laws.FnPlans', WHERE WHAT IT READS IS OF BULK AT MOST 1048576: true; the input reads as it did. -/
def fnPlansUptoRow : OpenClaim := { program := "ytcnaldcinkmpbaa", sum := "974db2a91178e2e4748e7075a30fc017e9f8798ebb725c0d0fd8237956118029", func := "loop.example/g00200/laws.FnPlans", spec := "fnPlans", apart := false, narrowed := true }
def FnPlansUptoSaid : Prop := fnPlansUptoRow.holds Try.pinned (OpenSpec.upto fnPlansSpec)

/-- 'laws.FnFaults', WHERE WHAT IT READS IS OF BULK AT MOST 1048576: true; the input reads as it did. -/
def fnFaultsUptoRow : OpenClaim := { program := "ytcnaldcinkmpbaa", sum := "974db2a91178e2e4748e7075a30fc017e9f8798ebb725c0d0fd8237956118029", func := "loop.example/g00200/laws.FnFaults", spec := "fnFaults", apart := false, narrowed := true }
def FnFaultsUptoSaid : Prop := fnFaultsUptoRow.holds Try.pinned (OpenSpec.upto fnFaultsSpec)

/-- 'laws.FnLoops', WHERE WHAT IT READS IS OF BULK AT MOST 1048576: true; the input reads as it did. -/
def fnLoopsUptoRow : OpenClaim := { program := "ytcnaldcinkmpbaa", sum := "974db2a91178e2e4748e7075a30fc017e9f8798ebb725c0d0fd8237956118029", func := "loop.example/g00200/laws.FnLoops", spec := "fnLoops", apart := false, narrowed := true }
def FnLoopsUptoSaid : Prop := fnLoopsUptoRow.holds Try.pinned (OpenSpec.upto fnLoopsSpec)

/-- 'laws.FnMachines', WHERE WHAT IT READS IS OF BULK AT MOST 1048576: true; the input reads as it did. -/
def fnMachinesUptoRow : OpenClaim := { program := "ytcnaldcinkmpbaa", sum := "974db2a91178e2e4748e7075a30fc017e9f8798ebb725c0d0fd8237956118029", func := "loop.example/g00200/laws.FnMachines", spec := "fnMachines", apart := false, narrowed := true }
def FnMachinesUptoSaid : Prop := fnMachinesUptoRow.holds Try.pinned (OpenSpec.upto fnMachinesSpec)

/-- 'laws.FnExactStepCpu', WHERE WHAT IT READS IS OF BULK AT MOST 1048576: true; the input reads as it did. -/
def fnExactStepCpuUptoRow : OpenClaim := { program := "ytcnaldcinkmpbaa", sum := "974db2a91178e2e4748e7075a30fc017e9f8798ebb725c0d0fd8237956118029", func := "loop.example/g00200/laws.FnExactStepCpu", spec := "fnExactStepCpu", apart := false, narrowed := true }
def FnExactStepCpuUptoSaid : Prop := fnExactStepCpuUptoRow.holds Try.pinned (OpenSpec.upto fnExactStepCpuSpec)

/-- 'laws.FnExactSetupFault', WHERE WHAT IT READS IS OF BULK AT MOST 1048576: true; the input reads as it did. -/
def fnExactSetupFaultUptoRow : OpenClaim := { program := "ytcnaldcinkmpbaa", sum := "974db2a91178e2e4748e7075a30fc017e9f8798ebb725c0d0fd8237956118029", func := "loop.example/g00200/laws.FnExactSetupFault", spec := "fnExactSetupFault", apart := false, narrowed := true }
def FnExactSetupFaultUptoSaid : Prop := fnExactSetupFaultUptoRow.holds Try.pinned (OpenSpec.upto fnExactSetupFaultSpec)

/-- 'laws.FnExactRunCost', WHERE WHAT IT READS IS OF BULK AT MOST 1048576: true; the input reads as it did. -/
def fnExactRunCostUptoRow : OpenClaim := { program := "ytcnaldcinkmpbaa", sum := "974db2a91178e2e4748e7075a30fc017e9f8798ebb725c0d0fd8237956118029", func := "loop.example/g00200/laws.FnExactRunCost", spec := "fnExactRunCost", apart := false, narrowed := true }
def FnExactRunCostUptoSaid : Prop := fnExactRunCostUptoRow.holds Try.pinned (OpenSpec.upto fnExactRunCostSpec)

/-- 'laws.FnRunCosts', WHERE WHAT IT READS IS OF BULK AT MOST 1048576: true; the input reads as it did. -/
def fnRunCostsUptoRow : OpenClaim := { program := "ytcnaldcinkmpbaa", sum := "974db2a91178e2e4748e7075a30fc017e9f8798ebb725c0d0fd8237956118029", func := "loop.example/g00200/laws.FnRunCosts", spec := "fnRunCosts", apart := false, narrowed := true }
def FnRunCostsUptoSaid : Prop := fnRunCostsUptoRow.holds Try.pinned (OpenSpec.upto fnRunCostsSpec)

/-- 'laws.FnExactSetupText', WHERE WHAT IT READS IS OF BULK AT MOST 1048576: true; the input reads as it did. -/
def fnExactSetupTextUptoRow : OpenClaim := { program := "ytcnaldcinkmpbaa", sum := "974db2a91178e2e4748e7075a30fc017e9f8798ebb725c0d0fd8237956118029", func := "loop.example/g00200/laws.FnExactSetupText", spec := "fnExactSetupText", apart := false, narrowed := true }
def FnExactSetupTextUptoSaid : Prop := fnExactSetupTextUptoRow.holds Try.pinned (OpenSpec.upto fnExactSetupTextSpec)

/-- 'laws.FnExactReadSetup', WHERE WHAT IT READS IS OF BULK AT MOST 1048576: true; the input reads as it did. -/
def fnExactReadSetupUptoRow : OpenClaim := { program := "ytcnaldcinkmpbaa", sum := "974db2a91178e2e4748e7075a30fc017e9f8798ebb725c0d0fd8237956118029", func := "loop.example/g00200/laws.FnExactReadSetup", spec := "fnExactReadSetup", apart := false, narrowed := true }
def FnExactReadSetupUptoSaid : Prop := fnExactReadSetupUptoRow.holds Try.pinned (OpenSpec.upto fnExactReadSetupSpec)

/-- 'laws.FnSetups', WHERE WHAT IT READS IS OF BULK AT MOST 1048576: true; the input reads as it did. -/
def fnSetupsUptoRow : OpenClaim := { program := "ytcnaldcinkmpbaa", sum := "974db2a91178e2e4748e7075a30fc017e9f8798ebb725c0d0fd8237956118029", func := "loop.example/g00200/laws.FnSetups", spec := "fnSetups", apart := false, narrowed := true }
def FnSetupsUptoSaid : Prop := fnSetupsUptoRow.holds Try.pinned (OpenSpec.upto fnSetupsSpec)

end Rows
end Go.Proofs.Ytcnaldcinkmpbaa
