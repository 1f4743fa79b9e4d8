/- The plain functions of Go functions, and that each Go function does what its plain function tells. Printed by a program of this session (gen.py). -/
import Derived.Test.YtbnmhfglkbkbnaaProg
import Derived.Test.YtbnmhfglkbkbnaaAbDa
import Derived.KernelRfl
import Derived.Test.YtbnmhfglkbkbnaaQA
namespace Go.Proofs.Ytbnmhfglkbkbnaa.QFnWorst
open Go Go.Proofs Go.Proofs.YtbnmhfglkbkbnaaA Go.Proofs.Ytbnmhfglkbkbnaa.QA
set_option linter.unusedVariables false
set_option maxRecDepth 100000
/-! loop.example/g00200/laws.FnWorst -/
def laws_FnWorst.f (k : Nat) (a0 : List Int) : Option (Bool) :=
  (laws_big.f k a0).bind fun t1 => (if t1 = true then (some true) else ((spec_DrawLoopless.f k a0).bind fun t2 => ((impl_WorstCost.f k t2).bind fun t3 => ((spec_WorstCost.f k t2).bind fun t4 => ((spec_DrawRunCost.f k a0).bind fun t5 => ((impl_RunCost.f k t2 t5.2.1 t5.2.2.1 5000).bind fun t6 => ((impl_RunCost.f k t2 t5.2.1 t5.2.2.1 t3.1).bind fun t7 => (if t3.2 = true then (if t4.2 = true then (if t3.1 = t4.1 then (if t6.1 ≤ t3.1 then (if t7.1 = t6.1 then ((impl_Forward.f k t2).bind fun t8 => (if t8 = true then (some (decide ((decide ((t2.length : Int) = 0)) = (decide (t3.1 = 0))))) else (some false))) else (some false)) else (some false)) else (some false)) else (some false)) else (some false)))))))))
def laws_FnWorst.sig : Sig := ⟨[.val false (.sl 5 (.int .u8)) [0]], [.val false .bool []]⟩
def laws_FnWorst.F (k : Nat) (x : Args laws_FnWorst.sig.ps) : Option (Res laws_FnWorst.sig) := laws_FnWorst.f k x.1
def laws_FnWorst.ann (k : Nat) : Ann (Res laws_FnWorst.sig) := .nil
def laws_FnWorst.ent : Ent := ⟨8, laws_FnWorst.sig, laws_FnWorst.F⟩
def laws_FnWorst.ctx (k : Nat) : Ctx := ⟨tds, [laws_big.ent, spec_DrawLoopless.ent, impl_WorstCost.ent, spec_WorstCost.ent, spec_DrawRunCost.ent, impl_RunCost.ent, impl_Forward.ent], k, 83⟩
theorem laws_FnWorst.runs (k : Nat) (x : Args laws_FnWorst.sig.ps) : laws_FnWorst.F k x = runF (laws_FnWorst.ctx k) laws_FnWorst.sig Try.f8 (Try.f8.body.getD .skip) (laws_FnWorst.ann k) x := by kernel_rfl
theorem laws_FnWorst.obls (k : Nat) : obl (laws_FnWorst.ctx k) 1 (Try.f8.body.getD .skip) (laws_FnWorst.ann k) (retK tds laws_FnWorst.sig Try.f8.results.toList) := ⟨trivial, ⟨⟨trivial, ⟨⟨trivial, trivial⟩, trivial⟩⟩, ⟨trivial, ⟨trivial, ⟨trivial, ⟨trivial, ⟨trivial, ⟨trivial, ⟨trivial, trivial⟩⟩⟩⟩⟩⟩⟩⟩⟩
theorem laws_FnWorst.ok (k : Nat) : EntOk Try.prog k laws_FnWorst.ent := fn_ok (C := laws_FnWorst.ctx k) Try.func8 (by kernel_rfl) (by kernel_rfl) mixed tdsOk (.cons (laws_big.ok k) (.cons (spec_DrawLoopless.ok k) (.cons (impl_WorstCost.ok k) (.cons (spec_WorstCost.ok k) (.cons (spec_DrawRunCost.ok k) (.cons (impl_RunCost.ok k) (.cons (impl_Forward.ok k) EntsOk.nil))))))) (by kernel_rfl) (Nat.le_of_ble_eq_true (by kernel_rfl)) (by kernel_rfl) (laws_FnWorst.runs k) (laws_FnWorst.obls k)
end Go.Proofs.Ytbnmhfglkbkbnaa.QFnWorst
