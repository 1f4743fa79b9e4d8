/- The plain functions of Go functions, and that each Go function does what its plain function tells. Printed by a program of this session (gen.py). -/
import Derived.Test.YtcnaldcinkmpbaaProg
import Derived.Test.YtcnaldcinkmpbaaAbDa
import Derived.KernelRfl
import Derived.Test.YtcnaldcinkmpbaaQA
namespace Go.Proofs.Ytcnaldcinkmpbaa.QFnExactSetupFault
open Go Go.Proofs Go.Proofs.YtcnaldcinkmpbaaA Go.Proofs.Ytcnaldcinkmpbaa.QA
set_option linter.unusedVariables false
set_option maxRecDepth 100000
/-! loop.example/g00200/laws.FnExactSetupFault -/
def laws_FnExactSetupFault.f (k : Nat) (a0 : List (Int × Int) × List (Int × Int) × List (Int × Int × Int × Int × Int) × List (Int × Int × Int) × List ByteArray) : Option (Bool) :=
  (laws_szSetup.f k a0 1048576).bind fun t1 => (if t1 < 0 then (some true) else ((laws_toSetup.f k a0).bind fun t2 => ((spec_SetupFault.f k t2).bind fun t3 => ((laws_toSetup.f k a0).bind fun t4 => ((impl_SetupFault.f k t4).bind fun t5 => (if ¬ t5 = t3 then (some false) else ((laws_toSetup.f k a0).bind fun t6 => ((laws_eqSetup.f k t4 t6).bind fun t7 => (if ¬ t7 = true then (some false) else (some true))))))))))
def laws_FnExactSetupFault.sig : Sig := ⟨[.val true (.pair (.sl 74 (.pair (.int .i64) (.int .i64))) (.pair (.sl 193 (.pair (.int .i64) (.int .i64))) (.pair (.sl 195 (.pair (.int .i64) (.pair (.int .i64) (.pair (.int .i64) (.pair (.int .i64) (.int .i64)))))) (.pair (.sl 197 (.pair (.int .i64) (.pair (.int .i64) (.int .i64)))) (.sl 9 .str))))) [0, 0, 0, 0, 0]], [.val false .bool []]⟩
def laws_FnExactSetupFault.F (k : Nat) (x : Args laws_FnExactSetupFault.sig.ps) : Option (Res laws_FnExactSetupFault.sig) := laws_FnExactSetupFault.f k x.1
def laws_FnExactSetupFault.ann (k : Nat) : Ann (Res laws_FnExactSetupFault.sig) := .nil
def laws_FnExactSetupFault.ent : Ent := ⟨8, laws_FnExactSetupFault.sig, laws_FnExactSetupFault.F⟩
def laws_FnExactSetupFault.ctx (k : Nat) : Ctx := ⟨tds, [impl_SetupFault.ent, laws_szSetup.ent, spec_SetupFault.ent, laws_toSetup.ent, laws_eqSetup.ent], k, 27⟩
theorem laws_FnExactSetupFault.runs (k : Nat) (x : Args laws_FnExactSetupFault.sig.ps) : laws_FnExactSetupFault.F k x = runF (laws_FnExactSetupFault.ctx k) laws_FnExactSetupFault.sig Try.f8 (Try.f8.body.getD .skip) (laws_FnExactSetupFault.ann k) x := by kernel_rfl
theorem laws_FnExactSetupFault.obls (k : Nat) : obl (laws_FnExactSetupFault.ctx k) 5 (Try.f8.body.getD .skip) (laws_FnExactSetupFault.ann k) (retK tds laws_FnExactSetupFault.sig Try.f8.results.toList) := ⟨trivial, ⟨trivial, ⟨trivial, ⟨⟨trivial, ⟨⟨trivial, trivial⟩, trivial⟩⟩, ⟨trivial, ⟨trivial, ⟨trivial, ⟨⟨trivial, ⟨⟨trivial, trivial⟩, trivial⟩⟩, ⟨⟨trivial, ⟨⟨trivial, trivial⟩, trivial⟩⟩, ⟨trivial, trivial⟩⟩⟩⟩⟩⟩⟩⟩⟩⟩
theorem laws_FnExactSetupFault.ok (k : Nat) : EntOk Try.prog k laws_FnExactSetupFault.ent := fn_ok (C := laws_FnExactSetupFault.ctx k) Try.func8 (by kernel_rfl) (by kernel_rfl) mixed tdsOk (.cons (impl_SetupFault.ok k) (.cons (laws_szSetup.ok k) (.cons (spec_SetupFault.ok k) (.cons (laws_toSetup.ok k) (.cons (laws_eqSetup.ok k) EntsOk.nil))))) (by kernel_rfl) (Nat.le_of_ble_eq_true (by kernel_rfl)) (by kernel_rfl) (laws_FnExactSetupFault.runs k) (laws_FnExactSetupFault.obls k)
end Go.Proofs.Ytcnaldcinkmpbaa.QFnExactSetupFault
