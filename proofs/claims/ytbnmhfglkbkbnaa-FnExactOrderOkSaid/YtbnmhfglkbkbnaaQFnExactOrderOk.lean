/- The plain functions of Go functions, and that each Go function does what its plain function tells. Printed by a program of this session (gen.py). -/
import Derived.Test.YtbnmhfglkbkbnaaProg
import Derived.Test.YtbnmhfglkbkbnaaAbDa
import Derived.KernelRfl
import Derived.Test.YtbnmhfglkbkbnaaQA
namespace Go.Proofs.Ytbnmhfglkbkbnaa.QFnExactOrderOk
open Go Go.Proofs Go.Proofs.YtbnmhfglkbkbnaaA Go.Proofs.Ytbnmhfglkbkbnaa.QA
set_option linter.unusedVariables false
set_option maxRecDepth 100000
/-! loop.example/g00200/laws.FnExactOrderOk -/
def laws_FnExactOrderOk.f (k : Nat) (a0 : Int × Int × Int × Int) : Option (Bool) :=
  (laws_toOrder.f k a0).bind fun t1 => ((spec_OrderOk.f k t1).bind fun t2 => ((laws_toOrder.f k a0).bind fun t3 => ((impl_OrderOk.f k t3).bind fun t4 => (if ¬ t4 = t2 then (some false) else (some true)))))
def laws_FnExactOrderOk.sig : Sig := ⟨[.val true (.pair (.int .i64) (.pair (.int .i64) (.pair (.int .i64) (.int .i64)))) []], [.val false .bool []]⟩
def laws_FnExactOrderOk.F (k : Nat) (x : Args laws_FnExactOrderOk.sig.ps) : Option (Res laws_FnExactOrderOk.sig) := laws_FnExactOrderOk.f k x.1
def laws_FnExactOrderOk.ann (k : Nat) : Ann (Res laws_FnExactOrderOk.sig) := .nil
def laws_FnExactOrderOk.ent : Ent := ⟨5, laws_FnExactOrderOk.sig, laws_FnExactOrderOk.F⟩
def laws_FnExactOrderOk.ctx (k : Nat) : Ctx := ⟨tds, [spec_OrderOk.ent, laws_toOrder.ent, impl_OrderOk.ent], k, 14⟩
theorem laws_FnExactOrderOk.runs (k : Nat) (x : Args laws_FnExactOrderOk.sig.ps) : laws_FnExactOrderOk.F k x = runF (laws_FnExactOrderOk.ctx k) laws_FnExactOrderOk.sig Try.f5 (Try.f5.body.getD .skip) (laws_FnExactOrderOk.ann k) x := by kernel_rfl
theorem laws_FnExactOrderOk.obls (k : Nat) : obl (laws_FnExactOrderOk.ctx k) 0 (Try.f5.body.getD .skip) (laws_FnExactOrderOk.ann k) (retK tds laws_FnExactOrderOk.sig Try.f5.results.toList) := ⟨trivial, ⟨trivial, ⟨trivial, ⟨⟨trivial, ⟨⟨trivial, trivial⟩, trivial⟩⟩, ⟨trivial, trivial⟩⟩⟩⟩⟩
theorem laws_FnExactOrderOk.ok (k : Nat) : EntOk Try.prog k laws_FnExactOrderOk.ent := fn_ok (C := laws_FnExactOrderOk.ctx k) Try.func5 (by kernel_rfl) (by kernel_rfl) mixed tdsOk (.cons (spec_OrderOk.ok k) (.cons (laws_toOrder.ok k) (.cons (impl_OrderOk.ok k) EntsOk.nil))) (by kernel_rfl) (Nat.le_of_ble_eq_true (by kernel_rfl)) (by kernel_rfl) (laws_FnExactOrderOk.runs k) (laws_FnExactOrderOk.obls k)
end Go.Proofs.Ytbnmhfglkbkbnaa.QFnExactOrderOk
