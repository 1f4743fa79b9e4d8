/- The plain functions of Go functions, and that each Go function does what its plain function tells. Printed by a program of this session (gen.py). -/
import Derived.Test.YtcnaldcinkmpbaaProg
import Derived.Test.YtcnaldcinkmpbaaAbDa
import Derived.KernelRfl
import Derived.Test.YtcnaldcinkmpbaaQAc
namespace Go.Proofs.Ytcnaldcinkmpbaa.QFnMachines
open Go Go.Proofs Go.Proofs.YtcnaldcinkmpbaaA Go.Proofs.Ytcnaldcinkmpbaa.QA
set_option linter.unusedVariables false
set_option maxRecDepth 100000
/-! loop.example/g00200/laws.FnMachines -/
def laws_FnMachines.f (k : Nat) (a0 : List Int) : Option (Bool) :=
  (laws_big.f k a0).bind fun t1 => (if t1 = true then (some true) else ((spec_DrawStepCpu.f k a0).bind fun t2 => ((impl_StepCpu.f k t2.1 t2.2.1 t2.2.2.1 t2.2.2.2.1 t2.2.2.2.2).bind fun t3 => ((spec_StepCpu.f k t2.1 t2.2.1 t2.2.2.1 t2.2.2.2.1 t2.2.2.2.2).bind fun t4 => ((laws_sameCpu.f k t3.1 t4.1).bind fun t5 => (if ¬ t5 = true then (some false) else ((laws_sameInts.f k t3.2.1 t4.2.1).bind fun t6 => (if ¬ t6 = true then (some false) else (if ¬ (t3.2.2.1 = t4.2.2.1 ∧ t3.2.2.2.1 = t4.2.2.2.1 ∧ t3.2.2.2.2.1 = t4.2.2.2.2.1 ∧ t3.2.2.2.2.2 = t4.2.2.2.2.2) then (some false) else ((impl_CpuOk.f k t2.1).bind fun t7 => ((spec_CpuOk.f k t2.1).bind fun t8 => (if ¬ t7 = t8 then (some false) else (if ¬ t3.2.2.2.2.2 = 0 then ((laws_sameCpu.f k t3.1 t2.1).bind fun t9 => (if t9 = true then ((laws_sameInts.f k t3.2.1 t2.2.2.1).bind fun t10 => (if t10 = true then (some (decide (t3.2.2.1 = 0))) else (some false))) else (some false))) else ((impl_Answer.f k t3.1 70000).bind fun t11 => ((impl_CpuOk.f k t3.1).bind fun t12 => (if t12 = true then (if ¬ t11.2 = true then (some (decide (t11.2 = (decide ((t3.1.2.length : Int) < 8))))) else (if 0 ≤ w64 ((t11.1.2.length : Int) - 1) then (if w64 ((t11.1.2.length : Int) - 1) < (t11.1.2.length : Int) then (if (el (.int .i64) t11.1.2 ((w64 ((t11.1.2.length : Int) - 1)).toNat)) = 4464 then (some (decide (t11.2 = (decide ((t3.1.2.length : Int) < 8))))) else (some false)) else none) else none)) else (some false)))))))))))))))))
def laws_FnMachines.sig : Sig := ⟨[.val false (.sl 5 (.int .u8)) [0]], [.val false .bool []]⟩
def laws_FnMachines.F (k : Nat) (x : Args laws_FnMachines.sig.ps) : Option (Res laws_FnMachines.sig) := laws_FnMachines.f k x.1
def laws_FnMachines.ann (k : Nat) : Ann (Res laws_FnMachines.sig) := .nil
def laws_FnMachines.ent : Ent := ⟨6, laws_FnMachines.sig, laws_FnMachines.F⟩
def laws_FnMachines.ctx (k : Nat) : Ctx := ⟨tds, [laws_big.ent, spec_DrawStepCpu.ent, impl_StepCpu.ent, spec_StepCpu.ent, laws_sameCpu.ent, laws_sameInts.ent, impl_CpuOk.ent, spec_CpuOk.ent, impl_Answer.ent], k, 118⟩
theorem laws_FnMachines.runs (k : Nat) (x : Args laws_FnMachines.sig.ps) : laws_FnMachines.F k x = runF (laws_FnMachines.ctx k) laws_FnMachines.sig Try.f6 (Try.f6.body.getD .skip) (laws_FnMachines.ann k) x := by kernel_rfl
theorem laws_FnMachines.obls (k : Nat) : obl (laws_FnMachines.ctx k) 1 (Try.f6.body.getD .skip) (laws_FnMachines.ann k) (retK tds laws_FnMachines.sig Try.f6.results.toList) := ⟨trivial, ⟨⟨trivial, ⟨⟨trivial, trivial⟩, trivial⟩⟩, ⟨trivial, ⟨trivial, ⟨trivial, ⟨⟨trivial, ⟨⟨trivial, trivial⟩, trivial⟩⟩, ⟨⟨trivial, ⟨⟨trivial, trivial⟩, trivial⟩⟩, ⟨trivial, ⟨trivial, trivial⟩⟩⟩⟩⟩⟩⟩⟩⟩
theorem laws_FnMachines.ok (k : Nat) : EntOk Try.prog k laws_FnMachines.ent := fn_ok (C := laws_FnMachines.ctx k) Try.func6 (by kernel_rfl) (by kernel_rfl) mixed tdsOk (.cons (laws_big.ok k) (.cons (spec_DrawStepCpu.ok k) (.cons (impl_StepCpu.ok k) (.cons (spec_StepCpu.ok k) (.cons (laws_sameCpu.ok k) (.cons (laws_sameInts.ok k) (.cons (impl_CpuOk.ok k) (.cons (spec_CpuOk.ok k) (.cons (impl_Answer.ok k) EntsOk.nil))))))))) (by kernel_rfl) (Nat.le_of_ble_eq_true (by kernel_rfl)) (by kernel_rfl) (laws_FnMachines.runs k) (laws_FnMachines.obls k)
end Go.Proofs.Ytcnaldcinkmpbaa.QFnMachines
