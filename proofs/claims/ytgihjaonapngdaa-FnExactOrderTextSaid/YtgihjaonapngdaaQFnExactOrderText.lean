/- The plain functions of Go functions, and that each Go function does what its plain function tells. Printed by a program of this session (gen.py). -/
import Derived.Test.YtgihjaonapngdaaProg
import Derived.Test.YtgihjaonapngdaaAbDa
import Derived.KernelRfl
import Derived.Test.YtgihjaonapngdaaQA
namespace Go.Proofs.Ytgihjaonapngdaa.QFnExactOrderText
open Go Go.Proofs Go.Proofs.YtgihjaonapngdaaA Go.Proofs.Ytgihjaonapngdaa.QA
set_option linter.unusedVariables false
set_option maxRecDepth 100000
/-! loop.example/g00200/laws.FnExactOrderText -/
def laws_FnExactOrderText.f (k : Nat) (a0 : Int × Int × Int × Int) : Option (Bool) :=
  (laws_toOrder.f k a0).bind fun t1 => ((spec_OrderText.f k t1).bind fun t2 => ((laws_toOrder.f k a0).bind fun t3 => ((impl_OrderText.f k t3).bind fun t4 => (if ¬ t4.1 = t2.1 then (some false) else (if ¬ t4.2 = t2.2 then (some false) else (some true))))))
def laws_FnExactOrderText.sig : Sig := ⟨[.val true (.pair (.int .i64) (.pair (.int .i64) (.pair (.int .i64) (.int .i64)))) []], [.val false .bool []]⟩
def laws_FnExactOrderText.F (k : Nat) (x : Args laws_FnExactOrderText.sig.ps) : Option (Res laws_FnExactOrderText.sig) := laws_FnExactOrderText.f k x.1
def laws_FnExactOrderText.ann (k : Nat) : Ann (Res laws_FnExactOrderText.sig) := .nil
def laws_FnExactOrderText.ent : Ent := ⟨5, laws_FnExactOrderText.sig, laws_FnExactOrderText.F⟩
def laws_FnExactOrderText.ctx (k : Nat) : Ctx := ⟨tds, [spec_OrderText.ent, laws_toOrder.ent, impl_OrderText.ent], k, 27⟩
theorem laws_FnExactOrderText.runs (k : Nat) (x : Args laws_FnExactOrderText.sig.ps) : laws_FnExactOrderText.F k x = runF (laws_FnExactOrderText.ctx k) laws_FnExactOrderText.sig Try.f5 (Try.f5.body.getD .skip) (laws_FnExactOrderText.ann k) x := by kernel_rfl
theorem laws_FnExactOrderText.obls (k : Nat) : obl (laws_FnExactOrderText.ctx k) 0 (Try.f5.body.getD .skip) (laws_FnExactOrderText.ann k) (retK tds laws_FnExactOrderText.sig Try.f5.results.toList) := ⟨trivial, ⟨trivial, ⟨trivial, ⟨⟨trivial, ⟨⟨trivial, trivial⟩, trivial⟩⟩, ⟨trivial, trivial⟩⟩⟩⟩⟩
theorem laws_FnExactOrderText.ok (k : Nat) : EntOk Try.prog k laws_FnExactOrderText.ent := fn_ok (C := laws_FnExactOrderText.ctx k) Try.func5 (by kernel_rfl) (by kernel_rfl) mixed tdsOk (.cons (spec_OrderText.ok k) (.cons (laws_toOrder.ok k) (.cons (impl_OrderText.ok k) EntsOk.nil))) (by kernel_rfl) (Nat.le_of_ble_eq_true (by kernel_rfl)) (by kernel_rfl) (laws_FnExactOrderText.runs k) (laws_FnExactOrderText.obls k)
end Go.Proofs.Ytgihjaonapngdaa.QFnExactOrderText
