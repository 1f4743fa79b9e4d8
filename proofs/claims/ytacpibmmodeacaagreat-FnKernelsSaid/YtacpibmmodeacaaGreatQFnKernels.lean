/- The plain functions of Go functions, and that each Go function does what its plain function tells. Printed by a program of this session (gen.py). -/
import Derived.Test.YtacpibmmodeacaaGreatProg
import Derived.Test.YtacpibmmodeacaaGreatAbDa
import Derived.KernelRfl
import Derived.Test.YtacpibmmodeacaaGreatQAb
namespace Go.Proofs.YtacpibmmodeacaaGreat.QFnKernels
open Go Go.Proofs Go.Proofs.YtacpibmmodeacaaGreatA Go.Proofs.YtacpibmmodeacaaGreat.QA
set_option linter.unusedVariables false
set_option maxRecDepth 100000
/-! loop.example/g00200/laws.FnKernels -/
def laws_FnKernels.f (k : Nat) (a0 : DeI) : Option (Bool) :=
  (laws_big.f k a0).bind fun t1 => (if t1 = true then (some true) else ((spec_DrawKernel.f k a0).bind fun t2 => ((impl_TurnOf.f k (t2.1.1, t2.1.2) t2.2).bind fun t3 => ((spec_TurnOf.f k (t2.1.1, t2.1.2) t2.2).bind fun t4 => ((laws_sameKernel.f k (t3.1, t3.2) (t4.1, t4.2)).bind fun t5 => (if ¬ t5 = true then (some false) else ((impl_KernelOk.f k (t2.1.1, t2.1.2)).bind fun t6 => (if ¬ t6 = true then (some false) else ((impl_KernelOk.f k (t3.1, t3.2)).bind fun t7 => (if ¬ t7 = true then (some false) else (if ¬ t3.2.2.2.2.2.1 = (w64 (t2.1.2.2.2.2.2.1 + 1)) then (some false) else ((spec_DrawPlaces.f k a0).bind fun t8 => (if 0 ≤ 0 then (if 0 < (t8.length : Int) then (if 0 ≤ 1 then (if 1 < (t8.length : Int) then (((some ([] : List DeI))).bind fun y9 => ((impl_RunTurns.f k (t2.1.1, t2.1.2) (Int.tmod (el TyI t8 0) 9) y9).bind fun t10 => (((some ([] : List DeI))).bind fun y11 => ((impl_RunTurns.f k (t10.1, t10.2) (Int.tmod (el TyI t8 1) 9) y11).bind fun t12 => (((some ([] : List DeI))).bind fun y13 => ((impl_RunTurns.f k (t2.1.1, t2.1.2) (w64 ((Int.tmod (el TyI t8 0) 9) + (Int.tmod (el TyI t8 1) 9))) y13).bind fun t14 => ((impl_KernelNew.f k t2.1.1).bind fun t15 => ((laws_sameKernel.f k (t12.1, t12.2) (t14.1, t14.2)).bind fun t16 => (if t16 = true then (if t15.2 = 0 then ((impl_KernelOk.f k (t15.1.1, t15.1.2)).bind fun t17 => (if t17 = true then (some (decide (t15.1.2.2.2.2.2.1 = 0))) else (some false))) else (some false)) else (some false)))))))))) else none) else none) else none) else none)))))))))))))
def laws_FnKernels.sig : Sig := ⟨[.val false (.sl 5 (.int .u8)) [0]], [.val false .bool []]⟩
def laws_FnKernels.F (k : Nat) (x : Args laws_FnKernels.sig.ps) : Option (Res laws_FnKernels.sig) := laws_FnKernels.f k x.1
def laws_FnKernels.ann (k : Nat) : Ann (Res laws_FnKernels.sig) := .nil
def laws_FnKernels.ent : Ent := ⟨4, laws_FnKernels.sig, laws_FnKernels.F⟩
def laws_FnKernels.ctx (k : Nat) : Ctx := ⟨tds, [laws_big.ent, spec_DrawKernel.ent, impl_TurnOf.ent, spec_TurnOf.ent, laws_sameKernel.ent, impl_KernelOk.ent, spec_DrawPlaces.ent, impl_RunTurns.ent, impl_KernelNew.ent], k, 94⟩
theorem laws_FnKernels.runs (k : Nat) (x : Args laws_FnKernels.sig.ps) : laws_FnKernels.F k x = runF (laws_FnKernels.ctx k) laws_FnKernels.sig Tryz.f4 (Tryz.f4.body.getD .skip) (laws_FnKernels.ann k) x := by kernel_rfl
theorem laws_FnKernels.obls (k : Nat) : obl (laws_FnKernels.ctx k) 1 (Tryz.f4.body.getD .skip) (laws_FnKernels.ann k) (retK tds laws_FnKernels.sig Tryz.f4.results.toList) := ⟨trivial, ⟨⟨trivial, ⟨⟨trivial, trivial⟩, trivial⟩⟩, ⟨trivial, ⟨trivial, ⟨trivial, ⟨⟨trivial, ⟨⟨trivial, trivial⟩, trivial⟩⟩, ⟨trivial, ⟨trivial, ⟨trivial, ⟨trivial, ⟨trivial, ⟨trivial, ⟨trivial, trivial⟩⟩⟩⟩⟩⟩⟩⟩⟩⟩⟩⟩⟩
theorem laws_FnKernels.ok (k : Nat) : EntOk Tryz.prog k laws_FnKernels.ent := fn_ok (C := laws_FnKernels.ctx k) Tryz.func4 (by kernel_rfl) (by kernel_rfl) mixed tdsOk (.cons (laws_big.ok k) (.cons (spec_DrawKernel.ok k) (.cons (impl_TurnOf.ok k) (.cons (spec_TurnOf.ok k) (.cons (laws_sameKernel.ok k) (.cons (impl_KernelOk.ok k) (.cons (spec_DrawPlaces.ok k) (.cons (impl_RunTurns.ok k) (.cons (impl_KernelNew.ok k) EntsOk.nil))))))))) (by kernel_rfl) (Nat.le_of_ble_eq_true (by kernel_rfl)) (by kernel_rfl) (laws_FnKernels.runs k) (laws_FnKernels.obls k)
end Go.Proofs.YtacpibmmodeacaaGreat.QFnKernels
