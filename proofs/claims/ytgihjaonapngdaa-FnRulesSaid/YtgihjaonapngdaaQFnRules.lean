/- The plain functions of Go functions, and that each Go function does what its plain function tells. Printed by a program of this session (gen.py). -/
import Derived.Test.YtgihjaonapngdaaProg
import Derived.Test.YtgihjaonapngdaaAbDa
import Derived.KernelRfl
import Derived.Test.YtgihjaonapngdaaQA
namespace Go.Proofs.Ytgihjaonapngdaa.QFnRules
open Go Go.Proofs Go.Proofs.YtgihjaonapngdaaA Go.Proofs.Ytgihjaonapngdaa.QA
set_option linter.unusedVariables false
set_option maxRecDepth 100000
/-! loop.example/g00200/laws.FnRules -/
def laws_FnRules.f (k : Nat) (a0 : List Int) : Option (Bool) :=
  (laws_big.f k a0).bind fun t1 => (if t1 = true then (some true) else ((spec_DrawActFor.f k a0).bind fun t2 => ((impl_ActFor.f k t2.1 t2.2.1 t2.2.2.1 t2.2.2.2).bind fun t3 => ((spec_ActFor.f k t2.1 t2.2.1 t2.2.2.1 t2.2.2.2).bind fun t4 => (if ¬ t3 = t4 then (some false) else ((impl_RulesOk.f k t2.1).bind fun t5 => ((spec_RulesOk.f k t2.1).bind fun t6 => (if ¬ t5 = t6 then (some false) else (if 3 ≤ t2.2.2.2 then (if t3 = 1 then (some false) else (if t3 = 2 then (some false) else (((some ([(t2.2.1, (t2.2.2.1, 2))] : List (Int × Int × Int)))).bind fun y7 => ((impl_RulesOk.f k y7).bind fun t8 => (if t8 = true then ((impl_ActFor.f k y7 t2.2.1 t2.2.2.1 0).bind fun t9 => (if t9 = 2 then ((impl_ActFor.f k y7 t2.2.1 t2.2.2.1 3).bind fun t10 => (if t10 = 3 then (((some ([] : List (Int × Int × Int)))).bind fun y11 => ((impl_ActFor.f k y11 t2.2.1 1 0).bind fun t12 => (if t12 = 3 then (((some ([] : List (Int × Int × Int)))).bind fun y13 => ((impl_ActFor.f k y13 t2.2.1 2 0).bind fun t14 => (some (decide (t14 = 0))))) else (some false)))) else (some false))) else (some false))) else (some false)))))) else (((some ([(t2.2.1, (t2.2.2.1, 2))] : List (Int × Int × Int)))).bind fun y15 => ((impl_RulesOk.f k y15).bind fun t16 => (if t16 = true then ((impl_ActFor.f k y15 t2.2.1 t2.2.2.1 0).bind fun t17 => (if t17 = 2 then ((impl_ActFor.f k y15 t2.2.1 t2.2.2.1 3).bind fun t18 => (if t18 = 3 then (((some ([] : List (Int × Int × Int)))).bind fun y19 => ((impl_ActFor.f k y19 t2.2.1 1 0).bind fun t20 => (if t20 = 3 then (((some ([] : List (Int × Int × Int)))).bind fun y21 => ((impl_ActFor.f k y21 t2.2.1 2 0).bind fun t22 => (some (decide (t22 = 0))))) else (some false)))) else (some false))) else (some false))) else (some false)))))))))))))
def laws_FnRules.sig : Sig := ⟨[.val false (.sl 5 (.int .u8)) [0]], [.val false .bool []]⟩
def laws_FnRules.F (k : Nat) (x : Args laws_FnRules.sig.ps) : Option (Res laws_FnRules.sig) := laws_FnRules.f k x.1
def laws_FnRules.ann (k : Nat) : Ann (Res laws_FnRules.sig) := .nil
def laws_FnRules.ent : Ent := ⟨6, laws_FnRules.sig, laws_FnRules.F⟩
def laws_FnRules.ctx (k : Nat) : Ctx := ⟨tds, [spec_ActFor.ent, impl_ActFor.ent, laws_big.ent, spec_DrawActFor.ent, impl_RulesOk.ent, spec_RulesOk.ent], k, 79⟩
theorem laws_FnRules.runs (k : Nat) (x : Args laws_FnRules.sig.ps) : laws_FnRules.F k x = runF (laws_FnRules.ctx k) laws_FnRules.sig Try.f6 (Try.f6.body.getD .skip) (laws_FnRules.ann k) x := by kernel_rfl
theorem laws_FnRules.obls (k : Nat) : obl (laws_FnRules.ctx k) 1 (Try.f6.body.getD .skip) (laws_FnRules.ann k) (retK tds laws_FnRules.sig Try.f6.results.toList) := ⟨trivial, ⟨⟨trivial, ⟨⟨trivial, trivial⟩, trivial⟩⟩, ⟨trivial, ⟨trivial, ⟨⟨trivial, ⟨⟨trivial, trivial⟩, trivial⟩⟩, ⟨⟨trivial, ⟨⟨trivial, trivial⟩, trivial⟩⟩, ⟨trivial, ⟨trivial, trivial⟩⟩⟩⟩⟩⟩⟩⟩
theorem laws_FnRules.ok (k : Nat) : EntOk Try.prog k laws_FnRules.ent := fn_ok (C := laws_FnRules.ctx k) Try.func6 (by kernel_rfl) (by kernel_rfl) mixed tdsOk (.cons (spec_ActFor.ok k) (.cons (impl_ActFor.ok k) (.cons (laws_big.ok k) (.cons (spec_DrawActFor.ok k) (.cons (impl_RulesOk.ok k) (.cons (spec_RulesOk.ok k) EntsOk.nil)))))) (by kernel_rfl) (Nat.le_of_ble_eq_true (by kernel_rfl)) (by kernel_rfl) (laws_FnRules.runs k) (laws_FnRules.obls k)
end Go.Proofs.Ytgihjaonapngdaa.QFnRules
