/- The plain functions of Go functions, and that each Go function does what its plain function tells. Printed by a program of this session (gen.py). -/
import Derived.Test.YthncjcfnpfajaaaProg
import Derived.Test.YthncjcfnpfajaaaAbDa
import Derived.KernelRfl
import Derived.Test.YthncjcfnpfajaaaQA
namespace Go.Proofs.Ythncjcfnpfajaaa.QFnExactReadSetup
open Go Go.Proofs Go.Proofs.YthncjcfnpfajaaaA Go.Proofs.Ythncjcfnpfajaaa.QA
set_option linter.unusedVariables false
set_option maxRecDepth 100000
/-! loop.example/g00200/laws.FnExactReadSetup -/
def laws_FnExactReadSetup.f (k : Nat) (a0 : ByteArray) : Option (Bool) :=
  if 1048576 < (a0.size : Int) then (some true) else ((spec_ReadSetup.f k a0).bind fun t1 => ((impl_ReadSetup.f k a0).bind fun t2 => ((laws_eqSetup.f k t2.1 t1.1).bind fun t3 => (if ¬ t3 = true then (some false) else (if ¬ t2.2 = t1.2 then (some false) else ((laws_markSetup.f k t2.1 1).bind fun t4 => ((laws_heldSetup.f k t4.2 1).bind fun t5 => (if t5 < 0 then (some false) else (if ¬ t5 = t4.1 then (some false) else ((impl_ReadSetup.f k a0).bind fun t6 => ((laws_eqSetup.f k t6.1 t1.1).bind fun t7 => (if ¬ t7 = true then (some false) else (if ¬ t6.2 = t1.2 then (some false) else ((laws_heldSetup.f k t4.2 1).bind fun t8 => (if t8 < 0 then (some false) else (if ¬ t8 = t4.1 then (some false) else (some true)))))))))))))))))
def laws_FnExactReadSetup.sig : Sig := ⟨[.val false .str []], [.val false .bool []]⟩
def laws_FnExactReadSetup.F : FT laws_FnExactReadSetup.sig := fun k x => laws_FnExactReadSetup.f k x.1
def laws_FnExactReadSetup.ann : AT laws_FnExactReadSetup.sig := fun k => .nil
def laws_FnExactReadSetup.ent : Ent := ⟨3, laws_FnExactReadSetup.sig, laws_FnExactReadSetup.F⟩
def laws_FnExactReadSetup.ctx (k : Nat) : Ctx := ⟨tds, [spec_ReadSetup.ent, impl_ReadSetup.ent, laws_eqSetup.ent, laws_markSetup.ent, laws_heldSetup.ent], k, 66⟩
theorem laws_FnExactReadSetup.runs : RunsT laws_FnExactReadSetup.sig laws_FnExactReadSetup.ctx Try.f3 laws_FnExactReadSetup.ann laws_FnExactReadSetup.F := fun k x => by kernel_rfl
theorem laws_FnExactReadSetup.obls : OblT tds laws_FnExactReadSetup.sig laws_FnExactReadSetup.ctx 0 Try.f3 laws_FnExactReadSetup.ann := fun k => ⟨tr, ⟨⟨tr, ⟨⟨tr, tr⟩, tr⟩⟩, ⟨tr, ⟨tr, ⟨⟨tr, ⟨⟨tr, tr⟩, tr⟩⟩, ⟨tr, ⟨tr, ⟨tr, ⟨tr, ⟨⟨tr, ⟨⟨tr, tr⟩, tr⟩⟩, ⟨⟨tr, ⟨⟨tr, tr⟩, tr⟩⟩, ⟨tr, ⟨⟨tr, ⟨⟨tr, tr⟩, tr⟩⟩, ⟨tr, ⟨tr, ⟨⟨tr, ⟨⟨tr, tr⟩, tr⟩⟩, ⟨⟨tr, ⟨⟨tr, tr⟩, tr⟩⟩, ⟨tr, tr⟩⟩⟩⟩⟩⟩⟩⟩⟩⟩⟩⟩⟩⟩⟩⟩⟩⟩
theorem laws_FnExactReadSetup.ok (k : Nat) : EntOk Try.prog k laws_FnExactReadSetup.ent := fn_ok (C := laws_FnExactReadSetup.ctx k) Try.func3 (by kernel_rfl) (by kernel_rfl) mixed tdsOk (.cons (spec_ReadSetup.ok k) (.cons (impl_ReadSetup.ok k) (.cons (laws_eqSetup.ok k) (.cons (laws_markSetup.ok k) (.cons (laws_heldSetup.ok k) EntsOk.nil))))) (by kernel_rfl) (leB (by kernel_rfl)) (by kernel_rfl) (laws_FnExactReadSetup.runs k) (laws_FnExactReadSetup.obls k)
end Go.Proofs.Ythncjcfnpfajaaa.QFnExactReadSetup
