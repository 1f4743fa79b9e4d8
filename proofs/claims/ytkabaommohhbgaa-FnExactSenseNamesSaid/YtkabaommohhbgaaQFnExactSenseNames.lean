/- The plain functions of Go functions, and that each Go function does what its plain function tells. Printed by a program of this session (gen.py). -/
import Derived.Test.YtkabaommohhbgaaProg
import Derived.Test.YtkabaommohhbgaaAbDa
import Derived.KernelRfl
import Derived.Test.YtkabaommohhbgaaQA
namespace Go.Proofs.Ytkabaommohhbgaa.QFnExactSenseNames
open Go Go.Proofs Go.Proofs.YtkabaommohhbgaaA Go.Proofs.Ytkabaommohhbgaa.QA
set_option linter.unusedVariables false
set_option maxRecDepth 100000
/-! loop.example/g00200/laws.FnExactSenseNames -/
def laws_FnExactSenseNames.f (k : Nat) (a0 : Int) : Option (Bool) :=
  (spec_SenseNames.f k a0).bind fun t1 => ((impl_SenseNames.f k a0).bind fun t2 => (if ¬ t2 = t1 then (some false) else (some true)))
def laws_FnExactSenseNames.sig : Sig := ⟨[.val false TyI []], [.val false .bool []]⟩
def laws_FnExactSenseNames.F : FT laws_FnExactSenseNames.sig := fun k x => laws_FnExactSenseNames.f k x.1
def laws_FnExactSenseNames.ann : AT laws_FnExactSenseNames.sig := fun k => .nil
def laws_FnExactSenseNames.ent : Ent := ⟨3, laws_FnExactSenseNames.sig, laws_FnExactSenseNames.F⟩
def laws_FnExactSenseNames.ctx (k : Nat) : Ctx := ⟨tds, [spec_SenseNames.ent, impl_SenseNames.ent], k, 12⟩
theorem laws_FnExactSenseNames.runs : RunsT laws_FnExactSenseNames.sig laws_FnExactSenseNames.ctx Try.f3 laws_FnExactSenseNames.ann laws_FnExactSenseNames.F := fun k x => by kernel_rfl
theorem laws_FnExactSenseNames.obls : OblT tds laws_FnExactSenseNames.sig laws_FnExactSenseNames.ctx 0 Try.f3 laws_FnExactSenseNames.ann := fun k => ⟨tr, ⟨tr, ⟨tr, ⟨⟨tr, ⟨⟨tr, tr⟩, tr⟩⟩, ⟨tr, tr⟩⟩⟩⟩⟩
theorem laws_FnExactSenseNames.ok (k : Nat) : EntOk Try.prog k laws_FnExactSenseNames.ent := fn_ok (C := laws_FnExactSenseNames.ctx k) Try.func3 (by kernel_rfl) (by kernel_rfl) mixed tdsOk (.cons (spec_SenseNames.ok k) (.cons (impl_SenseNames.ok k) EntsOk.nil)) (by kernel_rfl) (leB (by kernel_rfl)) (by kernel_rfl) (laws_FnExactSenseNames.runs k) (laws_FnExactSenseNames.obls k)
end Go.Proofs.Ytkabaommohhbgaa.QFnExactSenseNames
