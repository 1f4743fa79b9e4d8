/- The plain functions of Go functions, and that each Go function does what its plain function tells. Printed by a program of this session (gen.py). -/
import Derived.Test.YthncjcfnpfajaaaProg
import Derived.Test.YthncjcfnpfajaaaAbDa
import Derived.KernelRfl
import Derived.Test.YthncjcfnpfajaaaQA
namespace Go.Proofs.Ythncjcfnpfajaaa.QFnSetups
open Go Go.Proofs Go.Proofs.YthncjcfnpfajaaaA Go.Proofs.Ythncjcfnpfajaaa.QA
set_option linter.unusedVariables false
set_option maxRecDepth 100000
/-! loop.example/g00200/laws.FnSetups -/
def laws_FnSetups.f (k : Nat) (a0 : DeI) : Option (Bool) :=
  (laws_big.f k a0).bind fun t1 => (if t1 = true then (some true) else ((spec_DrawSetupText.f k a0).bind fun t2 => ((impl_SetupText.f k t2).bind fun t3 => ((impl_ReadSetup.f k t3.1).bind fun t4 => ((impl_SetupText.f k t4.1).bind fun t5 => ((spec_SetupFault.f k t2).bind fun t6 => (if ¬ t3.2 = (decide (t6 = 0)) then (some false) else ((impl_SetupFault.f k t2).bind fun t7 => ((spec_SetupFault.f k t2).bind fun t8 => (if ¬ t7 = t8 then (some false) else (if t3.2 = true then (if ¬ t4.2 = true then (some false) else (if ¬ t5.1 = t3.1 then (some false) else ((spec_DrawReadSetup.f k a0).bind fun t9 => ((impl_ReadSetup.f k t9).bind fun t10 => ((spec_ReadSetup.f k t9).bind fun t11 => ((impl_SetupText.f k t10.1).bind fun t12 => (if t10.2 = t11.2 then (if ¬ t10.2 = true then (some true) else (some (decide (t12.1 = t9)))) else (some false)))))))) else ((spec_DrawReadSetup.f k a0).bind fun t13 => ((impl_ReadSetup.f k t13).bind fun t14 => ((spec_ReadSetup.f k t13).bind fun t15 => ((impl_SetupText.f k t14.1).bind fun t16 => (if t14.2 = t15.2 then (if ¬ t14.2 = true then (some true) else (some (decide (t16.1 = t13)))) else (some false)))))))))))))))))
def laws_FnSetups.sig : Sig := ⟨[.val false (.sl 5 (.int .u8)) [0]], [.val false .bool []]⟩
def laws_FnSetups.F : FT laws_FnSetups.sig := fun k x => laws_FnSetups.f k x.1
def laws_FnSetups.ann : AT laws_FnSetups.sig := fun k => .nil
def laws_FnSetups.ent : Ent := ⟨4, laws_FnSetups.sig, laws_FnSetups.F⟩
def laws_FnSetups.ctx (k : Nat) : Ctx := ⟨tds, [spec_ReadSetup.ent, impl_ReadSetup.ent, laws_big.ent, spec_DrawSetupText.ent, impl_SetupText.ent, spec_SetupFault.ent, impl_SetupFault.ent, spec_DrawReadSetup.ent], k, 89⟩
theorem laws_FnSetups.runs : RunsT laws_FnSetups.sig laws_FnSetups.ctx Try.f4 laws_FnSetups.ann laws_FnSetups.F := fun k x => by kernel_rfl
theorem laws_FnSetups.obls : OblT tds laws_FnSetups.sig laws_FnSetups.ctx 1 Try.f4 laws_FnSetups.ann := fun k => ⟨tr, ⟨⟨tr, ⟨⟨tr, tr⟩, tr⟩⟩, ⟨tr, ⟨tr, ⟨tr, ⟨tr, ⟨⟨tr, ⟨⟨tr, tr⟩, tr⟩⟩, ⟨tr, ⟨tr, ⟨tr, ⟨tr, ⟨tr, tr⟩⟩⟩⟩⟩⟩⟩⟩⟩⟩⟩⟩
theorem laws_FnSetups.ok (k : Nat) : EntOk Try.prog k laws_FnSetups.ent := fn_ok (C := laws_FnSetups.ctx k) Try.func4 (by kernel_rfl) (by kernel_rfl) mixed tdsOk (.cons (spec_ReadSetup.ok k) (.cons (impl_ReadSetup.ok k) (.cons (laws_big.ok k) (.cons (spec_DrawSetupText.ok k) (.cons (impl_SetupText.ok k) (.cons (spec_SetupFault.ok k) (.cons (impl_SetupFault.ok k) (.cons (spec_DrawReadSetup.ok k) EntsOk.nil)))))))) (by kernel_rfl) (leB (by kernel_rfl)) (by kernel_rfl) (laws_FnSetups.runs k) (laws_FnSetups.obls k)
end Go.Proofs.Ythncjcfnpfajaaa.QFnSetups
