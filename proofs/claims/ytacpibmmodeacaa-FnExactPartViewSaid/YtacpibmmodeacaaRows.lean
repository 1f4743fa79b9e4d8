/-
  No cell of these rows narrows 'for every input' (looked for: loops, veiled, ifaces, maps, wideKeys, modest, calm, conditions, laid).
  DERIVED. THE GIVEN ROWS OF THIS SEAT. 9 by the template 'for every input the law returns true; each argument reads behind the call as it read before'; 0 by the template 'total and deterministic' (their statements: YtacpibmmodeacaaTotals.lean).
  GIVEN WITH THE SEED: the statements are not yours to turn. If you find one false, say at which input.
  Laid BY PROGRAM, IN A SANDBOX (cutbox-rows.mjs): the forced cells as the released guide's own fill.sh prints them over the translation 7447dc66d03522bd… (all of the seat's roots in one cut). By AI agents, Wed Nov 11 2026. No macro, syntax, notation, axiom, sorry.
-/
import Derived.Test.YtacpibmmodeacaaChecked
import GoSem.Claim
import GoSem.ClaimJoined
import GoSem.ClaimMapViews
import Derived.JoinedTies
import Derived.KernelRfl
namespace Go.Proofs.Ytacpibmmodeacaa
/- THE CELL 'sum', in the pinned program and in every row, IS THE sha256 OF THE DUMP (.gsa) THAT YtacpibmmodeacaaProg.lean LOADS. Nothing in Lean hashes anything: it is a label: what it is worth is what the hold of that sum in a sandbox is worth. -/
noncomputable def Try.pinned : Pinned := { name := "ytacpibmmodeacaa", sum := "7447dc66d03522bdb817bf408c7a3d5da59626ce2ef9ae75a6feb28d44ce554f", checked := Try.checked }
namespace Rows
def none {H : Type} : Left H := { results := [], args := [] }

/-- 'laws.FnInTime': WHATEVER THE INPUT: true; the input reads as it did. -/
def fnInTimeSpec : ChangeSpec := { name := "fnInTime", fn := fun _ => fun
  | [d] => { results := [.lit (.bool true)], args := [d] }
  | _ => none }
def fnInTimeRow : OpenClaim := { program := "ytacpibmmodeacaa", sum := "7447dc66d03522bdb817bf408c7a3d5da59626ce2ef9ae75a6feb28d44ce554f", func := "loop.example/g00200/laws.FnInTime", spec := "fnInTime", apart := false }
def FnInTimeSaid : Prop := fnInTimeRow.holds Try.pinned (OpenSpec.ofChange fnInTimeSpec)

/-- ITS FALSE NEIGHBOUR: 'it returns false'. Refute it at one input. -/
def fnInTimeWrong : ChangeSpec := { name := "fnInTime", fn := fun _ => fun
  | [d] => { results := [.lit (.bool false)], args := [d] }
  | _ => none }
def FnInTimeWrongFalsely : Prop := fnInTimeRow.holds Try.pinned (OpenSpec.ofChange fnInTimeWrong)

/-- 'laws.FnNothingSeen': WHATEVER THE INPUT: true; the input reads as it did. -/
def fnNothingSeenSpec : ChangeSpec := { name := "fnNothingSeen", fn := fun _ => fun
  | [d] => { results := [.lit (.bool true)], args := [d] }
  | _ => none }
def fnNothingSeenRow : OpenClaim := { program := "ytacpibmmodeacaa", sum := "7447dc66d03522bdb817bf408c7a3d5da59626ce2ef9ae75a6feb28d44ce554f", func := "loop.example/g00200/laws.FnNothingSeen", spec := "fnNothingSeen", apart := false }
def FnNothingSeenSaid : Prop := fnNothingSeenRow.holds Try.pinned (OpenSpec.ofChange fnNothingSeenSpec)

/-- ITS FALSE NEIGHBOUR: 'it returns false'. Refute it at one input. -/
def fnNothingSeenWrong : ChangeSpec := { name := "fnNothingSeen", fn := fun _ => fun
  | [d] => { results := [.lit (.bool false)], args := [d] }
  | _ => none }
def FnNothingSeenWrongFalsely : Prop := fnNothingSeenRow.holds Try.pinned (OpenSpec.ofChange fnNothingSeenWrong)

/-- 'laws.FnHalted': WHATEVER THE INPUT: true; the input reads as it did. -/
def fnHaltedSpec : ChangeSpec := { name := "fnHalted", fn := fun _ => fun
  | [d] => { results := [.lit (.bool true)], args := [d] }
  | _ => none }
def fnHaltedRow : OpenClaim := { program := "ytacpibmmodeacaa", sum := "7447dc66d03522bdb817bf408c7a3d5da59626ce2ef9ae75a6feb28d44ce554f", func := "loop.example/g00200/laws.FnHalted", spec := "fnHalted", apart := false }
def FnHaltedSaid : Prop := fnHaltedRow.holds Try.pinned (OpenSpec.ofChange fnHaltedSpec)

/-- ITS FALSE NEIGHBOUR: 'it returns false'. Refute it at one input. -/
def fnHaltedWrong : ChangeSpec := { name := "fnHalted", fn := fun _ => fun
  | [d] => { results := [.lit (.bool false)], args := [d] }
  | _ => none }
def FnHaltedWrongFalsely : Prop := fnHaltedRow.holds Try.pinned (OpenSpec.ofChange fnHaltedWrong)

/-- 'laws.FnMessages': WHATEVER THE INPUT: true; the input reads as it did. -/
def fnMessagesSpec : ChangeSpec := { name := "fnMessages", fn := fun _ => fun
  | [d] => { results := [.lit (.bool true)], args := [d] }
  | _ => none }
def fnMessagesRow : OpenClaim := { program := "ytacpibmmodeacaa", sum := "7447dc66d03522bdb817bf408c7a3d5da59626ce2ef9ae75a6feb28d44ce554f", func := "loop.example/g00200/laws.FnMessages", spec := "fnMessages", apart := false }
def FnMessagesSaid : Prop := fnMessagesRow.holds Try.pinned (OpenSpec.ofChange fnMessagesSpec)

/-- ITS FALSE NEIGHBOUR: 'it returns false'. Refute it at one input. -/
def fnMessagesWrong : ChangeSpec := { name := "fnMessages", fn := fun _ => fun
  | [d] => { results := [.lit (.bool false)], args := [d] }
  | _ => none }
def FnMessagesWrongFalsely : Prop := fnMessagesRow.holds Try.pinned (OpenSpec.ofChange fnMessagesWrong)

/-- 'laws.FnStopped': WHATEVER THE INPUT: true; the input reads as it did. -/
def fnStoppedSpec : ChangeSpec := { name := "fnStopped", fn := fun _ => fun
  | [d] => { results := [.lit (.bool true)], args := [d] }
  | _ => none }
def fnStoppedRow : OpenClaim := { program := "ytacpibmmodeacaa", sum := "7447dc66d03522bdb817bf408c7a3d5da59626ce2ef9ae75a6feb28d44ce554f", func := "loop.example/g00200/laws.FnStopped", spec := "fnStopped", apart := false }
def FnStoppedSaid : Prop := fnStoppedRow.holds Try.pinned (OpenSpec.ofChange fnStoppedSpec)

/-- ITS FALSE NEIGHBOUR: 'it returns false'. Refute it at one input. -/
def fnStoppedWrong : ChangeSpec := { name := "fnStopped", fn := fun _ => fun
  | [d] => { results := [.lit (.bool false)], args := [d] }
  | _ => none }
def FnStoppedWrongFalsely : Prop := fnStoppedRow.holds Try.pinned (OpenSpec.ofChange fnStoppedWrong)

/-- 'laws.FnStorms': WHATEVER THE INPUT: true; the input reads as it did. -/
def fnStormsSpec : ChangeSpec := { name := "fnStorms", fn := fun _ => fun
  | [d] => { results := [.lit (.bool true)], args := [d] }
  | _ => none }
def fnStormsRow : OpenClaim := { program := "ytacpibmmodeacaa", sum := "7447dc66d03522bdb817bf408c7a3d5da59626ce2ef9ae75a6feb28d44ce554f", func := "loop.example/g00200/laws.FnStorms", spec := "fnStorms", apart := false }
def FnStormsSaid : Prop := fnStormsRow.holds Try.pinned (OpenSpec.ofChange fnStormsSpec)

/-- ITS FALSE NEIGHBOUR: 'it returns false'. Refute it at one input. -/
def fnStormsWrong : ChangeSpec := { name := "fnStorms", fn := fun _ => fun
  | [d] => { results := [.lit (.bool false)], args := [d] }
  | _ => none }
def FnStormsWrongFalsely : Prop := fnStormsRow.holds Try.pinned (OpenSpec.ofChange fnStormsWrong)

/-- 'laws.FnExactPartView': WHATEVER THE INPUT: true; the input reads as it did. -/
def fnExactPartViewSpec : ChangeSpec := { name := "fnExactPartView", fn := fun _ => fun
  | [d1, d2] => { results := [.lit (.bool true)], args := [d1, d2] }
  | _ => none }
def fnExactPartViewRow : OpenClaim := { program := "ytacpibmmodeacaa", sum := "7447dc66d03522bdb817bf408c7a3d5da59626ce2ef9ae75a6feb28d44ce554f", func := "loop.example/g00200/laws.FnExactPartView", spec := "fnExactPartView", apart := false }
def FnExactPartViewSaid : Prop := fnExactPartViewRow.holds Try.pinned (OpenSpec.ofChange fnExactPartViewSpec)

/-- ITS FALSE NEIGHBOUR: 'it returns false'. Refute it at one input. -/
def fnExactPartViewWrong : ChangeSpec := { name := "fnExactPartView", fn := fun _ => fun
  | [d1, d2] => { results := [.lit (.bool false)], args := [d1, d2] }
  | _ => none }
def FnExactPartViewWrongFalsely : Prop := fnExactPartViewRow.holds Try.pinned (OpenSpec.ofChange fnExactPartViewWrong)

/-- 'laws.FnExactKernelOk': WHATEVER THE INPUT: true; the input reads as it did. -/
def fnExactKernelOkSpec : ChangeSpec := { name := "fnExactKernelOk", fn := fun _ => fun
  | [d] => { results := [.lit (.bool true)], args := [d] }
  | _ => none }
def fnExactKernelOkRow : OpenClaim := { program := "ytacpibmmodeacaa", sum := "7447dc66d03522bdb817bf408c7a3d5da59626ce2ef9ae75a6feb28d44ce554f", func := "loop.example/g00200/laws.FnExactKernelOk", spec := "fnExactKernelOk", apart := false }
def FnExactKernelOkSaid : Prop := fnExactKernelOkRow.holds Try.pinned (OpenSpec.ofChange fnExactKernelOkSpec)

/-- ITS FALSE NEIGHBOUR: 'it returns false'. Refute it at one input. -/
def fnExactKernelOkWrong : ChangeSpec := { name := "fnExactKernelOk", fn := fun _ => fun
  | [d] => { results := [.lit (.bool false)], args := [d] }
  | _ => none }
def FnExactKernelOkWrongFalsely : Prop := fnExactKernelOkRow.holds Try.pinned (OpenSpec.ofChange fnExactKernelOkWrong)

/-- 'laws.FnExactKernelNew': WHATEVER THE INPUT: true; the input reads as it did. -/
def fnExactKernelNewSpec : ChangeSpec := { name := "fnExactKernelNew", fn := fun _ => fun
  | [d] => { results := [.lit (.bool true)], args := [d] }
  | _ => none }
def fnExactKernelNewRow : OpenClaim := { program := "ytacpibmmodeacaa", sum := "7447dc66d03522bdb817bf408c7a3d5da59626ce2ef9ae75a6feb28d44ce554f", func := "loop.example/g00200/laws.FnExactKernelNew", spec := "fnExactKernelNew", apart := false }
def FnExactKernelNewSaid : Prop := fnExactKernelNewRow.holds Try.pinned (OpenSpec.ofChange fnExactKernelNewSpec)

/-- ITS FALSE NEIGHBOUR: 'it returns false'. Refute it at one input. -/
def fnExactKernelNewWrong : ChangeSpec := { name := "fnExactKernelNew", fn := fun _ => fun
  | [d] => { results := [.lit (.bool false)], args := [d] }
  | _ => none }
def FnExactKernelNewWrongFalsely : Prop := fnExactKernelNewRow.holds Try.pinned (OpenSpec.ofChange fnExactKernelNewWrong)

/- THE SECOND FORM. 'bulk': how many values and letters a reading holds, each counted each time it is reached (what is shared counts as often as it is met; a slice's spare places count too). A statement '..UptoSaid' is the law's where the arguments, and the package variables that the reading takes, are together of bulk at most 1048576: NARROWER than '..Said'. Prove '..Said' where nothing that the law and all that it calls make is longer than what came in: it says more and counts as full. Else prove '..UptoSaid'. A law counts once. -/
mutual
def uptoBulk {H : Type} : DataW H → Nat
  | .lit (.string bytes) => bytes.length + 1
  | .lit _ => 1
  | .nil => 1
  | .ptr d => uptoBulk d + 1
  | .slice elems spare => uptoBulkAll elems + uptoBulkAll spare + 1
  | .agg parts => uptoBulkAll parts + 1
  | .iface _ d => uptoBulk d + 1
  | .map entries => uptoBulkEntries entries + 1
  | .held _ => 1
def uptoBulkAll {H : Type} : List (DataW H) → Nat
  | [] => 0
  | d :: r => uptoBulk d + uptoBulkAll r
def uptoBulkEntries {H : Type} : List (Lit × DataW H) → Nat
  | [] => 0
  | x :: r => uptoBulkEntry x + uptoBulkEntries r
def uptoBulkEntry {H : Type} : Lit × DataW H → Nat
  | (.string bytes, d) => bytes.length + uptoBulk d + 1
  | (_, d) => uptoBulk d + 1
 end
def uptoSmall : (H : Type) → List (DataW H) → Bool := fun _ ds => decide (uptoBulkAll ds ≤ 1048576)
def OpenSpec.upto (s : _root_.Go.ChangeSpec) : _root_.Go.OpenSpec := { _root_.Go.OpenSpec.ofChange s with cond := some uptoSmall }

/-- 'laws.FnInTime', WHERE WHAT IT READS IS OF BULK AT MOST 1048576: true; the input reads as it did. -/
def fnInTimeUptoRow : OpenClaim := { program := "ytacpibmmodeacaa", sum := "7447dc66d03522bdb817bf408c7a3d5da59626ce2ef9ae75a6feb28d44ce554f", func := "loop.example/g00200/laws.FnInTime", spec := "fnInTime", apart := false, narrowed := true }
def FnInTimeUptoSaid : Prop := fnInTimeUptoRow.holds Try.pinned (OpenSpec.upto fnInTimeSpec)

/-- 'laws.FnNothingSeen', WHERE WHAT IT READS IS OF BULK AT MOST 1048576: true; the input reads as it did. -/
def fnNothingSeenUptoRow : OpenClaim := { program := "ytacpibmmodeacaa", sum := "7447dc66d03522bdb817bf408c7a3d5da59626ce2ef9ae75a6feb28d44ce554f", func := "loop.example/g00200/laws.FnNothingSeen", spec := "fnNothingSeen", apart := false, narrowed := true }
def FnNothingSeenUptoSaid : Prop := fnNothingSeenUptoRow.holds Try.pinned (OpenSpec.upto fnNothingSeenSpec)

/-- 'laws.FnHalted', WHERE WHAT IT READS IS OF BULK AT MOST 1048576: true; the input reads as it did. -/
def fnHaltedUptoRow : OpenClaim := { program := "ytacpibmmodeacaa", sum := "7447dc66d03522bdb817bf408c7a3d5da59626ce2ef9ae75a6feb28d44ce554f", func := "loop.example/g00200/laws.FnHalted", spec := "fnHalted", apart := false, narrowed := true }
def FnHaltedUptoSaid : Prop := fnHaltedUptoRow.holds Try.pinned (OpenSpec.upto fnHaltedSpec)

/-- 'laws.FnMessages', WHERE WHAT IT READS IS OF BULK AT MOST 1048576: true; the input reads as it did. -/
def fnMessagesUptoRow : OpenClaim := { program := "ytacpibmmodeacaa", sum := "7447dc66d03522bdb817bf408c7a3d5da59626ce2ef9ae75a6feb28d44ce554f", func := "loop.example/g00200/laws.FnMessages", spec := "fnMessages", apart := false, narrowed := true }
def FnMessagesUptoSaid : Prop := fnMessagesUptoRow.holds Try.pinned (OpenSpec.upto fnMessagesSpec)

/-- 'laws.FnStopped', WHERE WHAT IT READS IS OF BULK AT MOST 1048576: true; the input reads as it did. -/
def fnStoppedUptoRow : OpenClaim := { program := "ytacpibmmodeacaa", sum := "7447dc66d03522bdb817bf408c7a3d5da59626ce2ef9ae75a6feb28d44ce554f", func := "loop.example/g00200/laws.FnStopped", spec := "fnStopped", apart := false, narrowed := true }
def FnStoppedUptoSaid : Prop := fnStoppedUptoRow.holds Try.pinned (OpenSpec.upto fnStoppedSpec)

/-- 'laws.FnStorms', WHERE WHAT IT READS IS OF BULK AT MOST 1048576: true; the input reads as it did. -/
def fnStormsUptoRow : OpenClaim := { program := "ytacpibmmodeacaa", sum := "7447dc66d03522bdb817bf408c7a3d5da59626ce2ef9ae75a6feb28d44ce554f", func := "loop.example/g00200/laws.FnStorms", spec := "fnStorms", apart := false, narrowed := true }
def FnStormsUptoSaid : Prop := fnStormsUptoRow.holds Try.pinned (OpenSpec.upto fnStormsSpec)

/-- 'laws.FnExactPartView', WHERE WHAT IT READS IS OF BULK AT MOST 1048576: true; the input reads as it did. -/
def fnExactPartViewUptoRow : OpenClaim := { program := "ytacpibmmodeacaa", sum := "7447dc66d03522bdb817bf408c7a3d5da59626ce2ef9ae75a6feb28d44ce554f", func := "loop.example/g00200/laws.FnExactPartView", spec := "fnExactPartView", apart := false, narrowed := true }
def FnExactPartViewUptoSaid : Prop := fnExactPartViewUptoRow.holds Try.pinned (OpenSpec.upto fnExactPartViewSpec)

/-- 'laws.FnExactKernelOk', WHERE WHAT IT READS IS OF BULK AT MOST 1048576: true; the input reads as it did. -/
def fnExactKernelOkUptoRow : OpenClaim := { program := "ytacpibmmodeacaa", sum := "7447dc66d03522bdb817bf408c7a3d5da59626ce2ef9ae75a6feb28d44ce554f", func := "loop.example/g00200/laws.FnExactKernelOk", spec := "fnExactKernelOk", apart := false, narrowed := true }
def FnExactKernelOkUptoSaid : Prop := fnExactKernelOkUptoRow.holds Try.pinned (OpenSpec.upto fnExactKernelOkSpec)

/-- 'laws.FnExactKernelNew', WHERE WHAT IT READS IS OF BULK AT MOST 1048576: true; the input reads as it did. -/
def fnExactKernelNewUptoRow : OpenClaim := { program := "ytacpibmmodeacaa", sum := "7447dc66d03522bdb817bf408c7a3d5da59626ce2ef9ae75a6feb28d44ce554f", func := "loop.example/g00200/laws.FnExactKernelNew", spec := "fnExactKernelNew", apart := false, narrowed := true }
def FnExactKernelNewUptoSaid : Prop := fnExactKernelNewUptoRow.holds Try.pinned (OpenSpec.upto fnExactKernelNewSpec)

end Rows
end Go.Proofs.Ytacpibmmodeacaa
