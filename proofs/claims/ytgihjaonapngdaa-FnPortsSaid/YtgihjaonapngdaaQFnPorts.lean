/- The plain functions of Go functions, and that each Go function does what its plain function tells. Printed by a program of this session (gen.py). -/
import Derived.Test.YtgihjaonapngdaaProg
import Derived.Test.YtgihjaonapngdaaAbDa
import Derived.KernelRfl
import Derived.Test.YtgihjaonapngdaaQA
namespace Go.Proofs.Ytgihjaonapngdaa.QFnPorts
open Go Go.Proofs Go.Proofs.YtgihjaonapngdaaA Go.Proofs.Ytgihjaonapngdaa.QA
set_option linter.unusedVariables false
set_option maxRecDepth 100000
/-! loop.example/g00200/laws.FnPorts -/
def laws_FnPorts.f (k : Nat) (a0 : List Int) : Option (Bool) :=
  (laws_big.f k a0).bind fun t1 => (if t1 = true then (some true) else ((spec_DrawSendPort.f k a0).bind fun t2 => ((impl_SendPort.f k t2.1 t2.2.1 t2.2.2.1 t2.2.2.2).bind fun t3 => ((spec_SendPort.f k t2.1 t2.2.1 t2.2.2.1 t2.2.2.2).bind fun t4 => ((impl_TakePort.f k t2.1 t3.1 t2.2.2.2).bind fun t5 => ((spec_TakePort.f k t2.1 t4.1 t2.2.2.2).bind fun t6 => ((impl_PortOk.f k t2.1).bind fun t7 => ((spec_PortOk.f k t2.1).bind fun t8 => (if t7 = t8 then (if t3.2 = t4.2 then (if (t3.1.length : Int) = (t4.1.length : Int) then (if t5.2.1 = t6.2.1 then (if t5.2.2 = t6.2.2 then ((impl_PortOk.f k t2.1).bind fun t9 => (if t9 = true then (some true) else (if t3.2 = 1 then (some (decide ((t3.1.length : Int) = (t2.2.1.length : Int)))) else (some false)))) else (some false)) else (some false)) else (some false)) else (some false)) else (some false))))))))))
def laws_FnPorts.sig : Sig := ⟨[.val false (.sl 5 (.int .u8)) [0]], [.val false .bool []]⟩
def laws_FnPorts.F (k : Nat) (x : Args laws_FnPorts.sig.ps) : Option (Res laws_FnPorts.sig) := laws_FnPorts.f k x.1
def laws_FnPorts.ann (k : Nat) : Ann (Res laws_FnPorts.sig) := .nil
def laws_FnPorts.ent : Ent := ⟨11, laws_FnPorts.sig, laws_FnPorts.F⟩
def laws_FnPorts.ctx (k : Nat) : Ctx := ⟨tds, [laws_big.ent, spec_DrawSendPort.ent, impl_SendPort.ent, spec_SendPort.ent, impl_TakePort.ent, spec_TakePort.ent, impl_PortOk.ent, spec_PortOk.ent], k, 104⟩
theorem laws_FnPorts.runs (k : Nat) (x : Args laws_FnPorts.sig.ps) : laws_FnPorts.F k x = runF (laws_FnPorts.ctx k) laws_FnPorts.sig Try.f11 (Try.f11.body.getD .skip) (laws_FnPorts.ann k) x := by kernel_rfl
theorem laws_FnPorts.obls (k : Nat) : obl (laws_FnPorts.ctx k) 1 (Try.f11.body.getD .skip) (laws_FnPorts.ann k) (retK tds laws_FnPorts.sig Try.f11.results.toList) := ⟨trivial, ⟨⟨trivial, ⟨⟨trivial, trivial⟩, trivial⟩⟩, ⟨trivial, ⟨trivial, ⟨trivial, ⟨trivial, ⟨trivial, ⟨trivial, trivial⟩⟩⟩⟩⟩⟩⟩⟩
theorem laws_FnPorts.ok (k : Nat) : EntOk Try.prog k laws_FnPorts.ent := fn_ok (C := laws_FnPorts.ctx k) Try.func11 (by kernel_rfl) (by kernel_rfl) mixed tdsOk (.cons (laws_big.ok k) (.cons (spec_DrawSendPort.ok k) (.cons (impl_SendPort.ok k) (.cons (spec_SendPort.ok k) (.cons (impl_TakePort.ok k) (.cons (spec_TakePort.ok k) (.cons (impl_PortOk.ok k) (.cons (spec_PortOk.ok k) EntsOk.nil)))))))) (by kernel_rfl) (Nat.le_of_ble_eq_true (by kernel_rfl)) (by kernel_rfl) (laws_FnPorts.runs k) (laws_FnPorts.obls k)
end Go.Proofs.Ytgihjaonapngdaa.QFnPorts
