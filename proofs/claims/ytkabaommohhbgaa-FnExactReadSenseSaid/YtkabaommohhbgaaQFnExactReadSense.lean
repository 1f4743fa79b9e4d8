/- The plain functions of Go functions, and that each Go function does what its plain function tells. Printed by a program of this session (gen.py). -/
import Derived.Test.YtkabaommohhbgaaProg
import Derived.Test.YtkabaommohhbgaaAbDa
import Derived.KernelRfl
import Derived.Test.YtkabaommohhbgaaQA
namespace Go.Proofs.Ytkabaommohhbgaa.QFnExactReadSense
open Go Go.Proofs Go.Proofs.YtkabaommohhbgaaA Go.Proofs.Ytkabaommohhbgaa.QA
set_option linter.unusedVariables false
set_option maxRecDepth 100000
/-! loop.example/g00200/laws.FnExactReadSense -/
def laws_FnExactReadSense.f (k : Nat) (a0 : ByteArray) : Option (Bool) :=
  if 1048576 < (a0.size : Int) then (some true) else ((spec_ReadSense.f k a0).bind fun t1 => ((impl_ReadSense.f k a0).bind fun t2 => (if ¬ t2.1 = t1.1 then (some false) else (if ¬ t2.2 = t1.2 then (some false) else (some true)))))
def laws_FnExactReadSense.sig : Sig := ⟨[.val false .str []], [.val false .bool []]⟩
def laws_FnExactReadSense.F : FT laws_FnExactReadSense.sig := fun k x => laws_FnExactReadSense.f k x.1
def laws_FnExactReadSense.ann : AT laws_FnExactReadSense.sig := fun k => .nil
def laws_FnExactReadSense.ent : Ent := ⟨4, laws_FnExactReadSense.sig, laws_FnExactReadSense.F⟩
def laws_FnExactReadSense.ctx (k : Nat) : Ctx := ⟨tds, [spec_ReadSense.ent, impl_ReadSense.ent], k, 28⟩
theorem laws_FnExactReadSense.runs : RunsT laws_FnExactReadSense.sig laws_FnExactReadSense.ctx Try.f4 laws_FnExactReadSense.ann laws_FnExactReadSense.F := fun k x => by kernel_rfl
theorem laws_FnExactReadSense.obls : OblT tds laws_FnExactReadSense.sig laws_FnExactReadSense.ctx 0 Try.f4 laws_FnExactReadSense.ann := fun k => ⟨tr, ⟨⟨tr, ⟨⟨tr, tr⟩, tr⟩⟩, ⟨tr, ⟨tr, ⟨⟨tr, ⟨⟨tr, tr⟩, tr⟩⟩, ⟨tr, tr⟩⟩⟩⟩⟩⟩
theorem laws_FnExactReadSense.ok (k : Nat) : EntOk Try.prog k laws_FnExactReadSense.ent := fn_ok (C := laws_FnExactReadSense.ctx k) Try.func4 (by kernel_rfl) (by kernel_rfl) mixed tdsOk (.cons (spec_ReadSense.ok k) (.cons (impl_ReadSense.ok k) EntsOk.nil)) (by kernel_rfl) (leB (by kernel_rfl)) (by kernel_rfl) (laws_FnExactReadSense.runs k) (laws_FnExactReadSense.obls k)
end Go.Proofs.Ytkabaommohhbgaa.QFnExactReadSense
