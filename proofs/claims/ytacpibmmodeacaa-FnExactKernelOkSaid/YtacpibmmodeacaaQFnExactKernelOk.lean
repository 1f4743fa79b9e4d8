/- The plain functions of Go functions, and that each Go function does what its plain function tells. Printed by a program of this session (gen.py). -/
import Derived.Test.YtacpibmmodeacaaProg
import Derived.Test.YtacpibmmodeacaaAbDa
import Derived.KernelRfl
import Derived.Test.YtacpibmmodeacaaQA
namespace Go.Proofs.Ytacpibmmodeacaa.QFnExactKernelOk
open Go Go.Proofs Go.Proofs.YtacpibmmodeacaaA Go.Proofs.Ytacpibmmodeacaa.QA
set_option linter.unusedVariables false
set_option maxRecDepth 100000
/-! loop.example/g00200/laws.FnExactKernelOk -/
def laws_FnExactKernelOk.f (k : Nat) (a0 : (List (Int × Int) × List (Int × Int) × List (Int × Int × Int × Int × Int) × List (Int × Int × Int) × List ByteArray) × List Int × List (Int × (Int × List Int) × Int × Int × Int) × List (List (Int × Int)) × List Int × Int × Bool × List (Int × Int × Int × Int × Int)) : Option (Bool) :=
  (laws_szKernel.f k (a0.1, a0.2) 1048576).bind fun t1 => (if t1 < 0 then (some true) else ((laws_toKernel.f k (a0.1, a0.2)).bind fun t2 => ((spec_KernelOk.f k (t2.1, t2.2)).bind fun t3 => ((laws_toKernel.f k (a0.1, a0.2)).bind fun t4 => ((impl_KernelOk.f k (t4.1, t4.2)).bind fun t5 => (if ¬ t5 = t3 then (some false) else ((laws_toKernel.f k (a0.1, a0.2)).bind fun t6 => ((laws_eqKernel.f k (t4.1, t4.2) (t6.1, t6.2)).bind fun t7 => (if ¬ t7 = true then (some false) else (some true))))))))))
def laws_FnExactKernelOk.sig : Sig := ⟨[.val true (.pair (.pair (.sl 214 (.pair (.int .i64) (.int .i64))) (.pair (.sl 216 (.pair (.int .i64) (.int .i64))) (.pair (.sl 218 (.pair (.int .i64) (.pair (.int .i64) (.pair (.int .i64) (.pair (.int .i64) (.int .i64)))))) (.pair (.sl 220 (.pair (.int .i64) (.pair (.int .i64) (.int .i64)))) (.sl 9 .str))))) (.pair (.sl 3 (.int .i64)) (.pair (.sl 200 (.pair (.int .i64) (.pair (.pair (.int .i64) (.sl 3 (.int .i64))) (.pair (.int .i64) (.pair (.int .i64) (.int .i64)))))) (.pair (.sl 204 (.sl 243 (.pair (.int .i64) (.int .i64)))) (.pair (.sl 3 (.int .i64)) (.pair (.int .i64) (.pair .bool (.sl 208 (.pair (.int .i64) (.pair (.int .i64) (.pair (.int .i64) (.pair (.int .i64) (.int .i64))))))))))))) [0, 0, 0, 0, 0, 0, 0, 0, 0, 0]], [.val false .bool []]⟩
def laws_FnExactKernelOk.F (k : Nat) (x : Args laws_FnExactKernelOk.sig.ps) : Option (Res laws_FnExactKernelOk.sig) := laws_FnExactKernelOk.f k x.1
def laws_FnExactKernelOk.ann (k : Nat) : Ann (Res laws_FnExactKernelOk.sig) := .nil
def laws_FnExactKernelOk.ent : Ent := ⟨10, laws_FnExactKernelOk.sig, laws_FnExactKernelOk.F⟩
def laws_FnExactKernelOk.ctx (k : Nat) : Ctx := ⟨tds, [laws_szKernel.ent, laws_toKernel.ent, laws_eqKernel.ent, spec_KernelOk.ent, impl_KernelOk.ent], k, 27⟩
theorem laws_FnExactKernelOk.runs (k : Nat) (x : Args laws_FnExactKernelOk.sig.ps) : laws_FnExactKernelOk.F k x = runF (laws_FnExactKernelOk.ctx k) laws_FnExactKernelOk.sig Try.f10 (Try.f10.body.getD .skip) (laws_FnExactKernelOk.ann k) x := by kernel_rfl
theorem laws_FnExactKernelOk.obls (k : Nat) : obl (laws_FnExactKernelOk.ctx k) 10 (Try.f10.body.getD .skip) (laws_FnExactKernelOk.ann k) (retK tds laws_FnExactKernelOk.sig Try.f10.results.toList) := ⟨trivial, ⟨trivial, ⟨trivial, ⟨⟨trivial, ⟨⟨trivial, trivial⟩, trivial⟩⟩, ⟨trivial, ⟨trivial, ⟨trivial, ⟨⟨trivial, ⟨⟨trivial, trivial⟩, trivial⟩⟩, ⟨⟨trivial, ⟨⟨trivial, trivial⟩, trivial⟩⟩, ⟨trivial, trivial⟩⟩⟩⟩⟩⟩⟩⟩⟩⟩
theorem laws_FnExactKernelOk.ok (k : Nat) : EntOk Try.prog k laws_FnExactKernelOk.ent := fn_ok (C := laws_FnExactKernelOk.ctx k) Try.func10 (by kernel_rfl) (by kernel_rfl) mixed tdsOk (.cons (laws_szKernel.ok k) (.cons (laws_toKernel.ok k) (.cons (laws_eqKernel.ok k) (.cons (spec_KernelOk.ok k) (.cons (impl_KernelOk.ok k) EntsOk.nil))))) (by kernel_rfl) (Nat.le_of_ble_eq_true (by kernel_rfl)) (by kernel_rfl) (laws_FnExactKernelOk.runs k) (laws_FnExactKernelOk.obls k)
end Go.Proofs.Ytacpibmmodeacaa.QFnExactKernelOk
