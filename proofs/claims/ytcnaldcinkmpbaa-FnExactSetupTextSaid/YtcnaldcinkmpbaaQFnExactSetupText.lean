/- The plain functions of Go functions, and that each Go function does what its plain function tells. Printed by a program of this session (gen.py). -/
import Derived.Test.YtcnaldcinkmpbaaProg
import Derived.Test.YtcnaldcinkmpbaaAbDa
import Derived.KernelRfl
import Derived.Test.YtcnaldcinkmpbaaQA
namespace Go.Proofs.Ytcnaldcinkmpbaa.QFnExactSetupText
open Go Go.Proofs Go.Proofs.YtcnaldcinkmpbaaA Go.Proofs.Ytcnaldcinkmpbaa.QA
set_option linter.unusedVariables false
set_option maxRecDepth 100000
/-! loop.example/g00200/laws.FnExactSetupText -/
def laws_FnExactSetupText.f (k : Nat) (a0 : List (Int × Int) × List (Int × Int) × List (Int × Int × Int × Int × Int) × List (Int × Int × Int) × List ByteArray) : Option (Bool) :=
  (laws_szSetup.f k a0 1048576).bind fun t1 => (if t1 < 0 then (some true) else ((laws_toSetup.f k a0).bind fun t2 => ((spec_SetupText.f k t2).bind fun t3 => ((laws_toSetup.f k a0).bind fun t4 => ((impl_SetupText.f k t4).bind fun t5 => (if ¬ t5.1 = t3.1 then (some false) else (if ¬ t5.2 = t3.2 then (some false) else ((laws_toSetup.f k a0).bind fun t6 => ((laws_eqSetup.f k t4 t6).bind fun t7 => (if ¬ t7 = true then (some false) else (some true)))))))))))
def laws_FnExactSetupText.sig : Sig := ⟨[.val true (.pair (.sl 74 (.pair (.int .i64) (.int .i64))) (.pair (.sl 193 (.pair (.int .i64) (.int .i64))) (.pair (.sl 195 (.pair (.int .i64) (.pair (.int .i64) (.pair (.int .i64) (.pair (.int .i64) (.int .i64)))))) (.pair (.sl 197 (.pair (.int .i64) (.pair (.int .i64) (.int .i64)))) (.sl 9 .str))))) [0, 0, 0, 0, 0]], [.val false .bool []]⟩
def laws_FnExactSetupText.F (k : Nat) (x : Args laws_FnExactSetupText.sig.ps) : Option (Res laws_FnExactSetupText.sig) := laws_FnExactSetupText.f k x.1
def laws_FnExactSetupText.ann (k : Nat) : Ann (Res laws_FnExactSetupText.sig) := .nil
def laws_FnExactSetupText.ent : Ent := ⟨11, laws_FnExactSetupText.sig, laws_FnExactSetupText.F⟩
def laws_FnExactSetupText.ctx (k : Nat) : Ctx := ⟨tds, [laws_szSetup.ent, laws_toSetup.ent, laws_eqSetup.ent, spec_SetupText.ent, impl_SetupText.ent], k, 40⟩
theorem laws_FnExactSetupText.runs (k : Nat) (x : Args laws_FnExactSetupText.sig.ps) : laws_FnExactSetupText.F k x = runF (laws_FnExactSetupText.ctx k) laws_FnExactSetupText.sig Try.f11 (Try.f11.body.getD .skip) (laws_FnExactSetupText.ann k) x := by kernel_rfl
theorem laws_FnExactSetupText.obls (k : Nat) : obl (laws_FnExactSetupText.ctx k) 5 (Try.f11.body.getD .skip) (laws_FnExactSetupText.ann k) (retK tds laws_FnExactSetupText.sig Try.f11.results.toList) := ⟨trivial, ⟨trivial, ⟨trivial, ⟨⟨trivial, ⟨⟨trivial, trivial⟩, trivial⟩⟩, ⟨trivial, ⟨trivial, ⟨trivial, ⟨⟨trivial, ⟨⟨trivial, trivial⟩, trivial⟩⟩, ⟨⟨trivial, ⟨⟨trivial, trivial⟩, trivial⟩⟩, ⟨trivial, trivial⟩⟩⟩⟩⟩⟩⟩⟩⟩⟩
theorem laws_FnExactSetupText.ok (k : Nat) : EntOk Try.prog k laws_FnExactSetupText.ent := fn_ok (C := laws_FnExactSetupText.ctx k) Try.func11 (by kernel_rfl) (by kernel_rfl) mixed tdsOk (.cons (laws_szSetup.ok k) (.cons (laws_toSetup.ok k) (.cons (laws_eqSetup.ok k) (.cons (spec_SetupText.ok k) (.cons (impl_SetupText.ok k) EntsOk.nil))))) (by kernel_rfl) (Nat.le_of_ble_eq_true (by kernel_rfl)) (by kernel_rfl) (laws_FnExactSetupText.runs k) (laws_FnExactSetupText.obls k)
end Go.Proofs.Ytcnaldcinkmpbaa.QFnExactSetupText
