/- The plain functions of Go functions, and that each Go function does what its plain function tells. Printed by a program of this session (gen.py). -/
import Derived.Test.YtcnaldcinkmpbaaProg
import Derived.Test.YtcnaldcinkmpbaaAbDa
import Derived.KernelRfl
import Derived.Test.YtcnaldcinkmpbaaQAc
namespace Go.Proofs.Ytcnaldcinkmpbaa.QFnExactRunCost
open Go Go.Proofs Go.Proofs.YtcnaldcinkmpbaaA Go.Proofs.Ytcnaldcinkmpbaa.QA
set_option linter.unusedVariables false
set_option maxRecDepth 100000
/-! loop.example/g00200/laws.FnExactRunCost -/
def laws_FnExactRunCost.f (k : Nat) (a0 : List (Int × Int)) (a1 : List Int) (a2 : Int × Int) (a3 : Int) : Option (Bool) :=
  (laws_szInstrS.f k a0 1048576).bind fun t1 => (if t1 < 0 then (some true) else ((laws_szArena.f k a1 t1).bind fun t2 => (if t2 < 0 then (some true) else ((laws_toInstrS.f k a0).bind fun t3 => ((laws_toArena.f k a1).bind fun t4 => ((laws_toRegion.f k a2).bind fun t5 => ((spec_RunCost.f k t3 t4 t5 a3).bind fun t6 => ((laws_toInstrS.f k a0).bind fun t7 => ((laws_toArena.f k a1).bind fun t8 => ((laws_toRegion.f k a2).bind fun t9 => ((impl_RunCost.f k t7 t8 t9 a3).bind fun t10 => (if ¬ t10.1 = t6.1 then (some false) else (if ¬ t10.2 = t6.2 then (some false) else ((laws_toInstrS.f k a0).bind fun t11 => ((laws_eqInstrS.f k t7 t11).bind fun t12 => (if ¬ t12 = true then (some false) else ((laws_toArena.f k a1).bind fun t13 => ((laws_eqArena.f k t8 t13).bind fun t14 => (if ¬ t14 = true then (some false) else (some true))))))))))))))))))))
def laws_FnExactRunCost.sig : Sig := ⟨[.val false (.sl 145 (.pair (.int .i64) (.int .i64))) [0], .val true (.sl 3 (.int .i64)) [0], .val true (.pair (.int .i64) (.int .i64)) [], .val false (.int .i64) []], [.val false .bool []]⟩
def laws_FnExactRunCost.F (k : Nat) (x : Args laws_FnExactRunCost.sig.ps) : Option (Res laws_FnExactRunCost.sig) := laws_FnExactRunCost.f k x.1 x.2.1 x.2.2.1 x.2.2.2.1
def laws_FnExactRunCost.ann (k : Nat) : Ann (Res laws_FnExactRunCost.sig) := .nil
def laws_FnExactRunCost.ent : Ent := ⟨9, laws_FnExactRunCost.sig, laws_FnExactRunCost.F⟩
def laws_FnExactRunCost.ctx (k : Nat) : Ctx := ⟨tds, [impl_RunCost.ent, laws_szInstrS.ent, laws_szArena.ent, laws_toInstrS.ent, laws_toArena.ent, laws_toRegion.ent, laws_eqArena.ent, laws_eqInstrS.ent, spec_RunCost.ent], k, 68⟩
theorem laws_FnExactRunCost.runs (k : Nat) (x : Args laws_FnExactRunCost.sig.ps) : laws_FnExactRunCost.F k x = runF (laws_FnExactRunCost.ctx k) laws_FnExactRunCost.sig Try.f9 (Try.f9.body.getD .skip) (laws_FnExactRunCost.ann k) x := by kernel_rfl
theorem laws_FnExactRunCost.obls (k : Nat) : obl (laws_FnExactRunCost.ctx k) 2 (Try.f9.body.getD .skip) (laws_FnExactRunCost.ann k) (retK tds laws_FnExactRunCost.sig Try.f9.results.toList) := ⟨trivial, ⟨trivial, ⟨trivial, ⟨⟨trivial, ⟨⟨trivial, trivial⟩, trivial⟩⟩, ⟨trivial, ⟨⟨trivial, ⟨⟨trivial, trivial⟩, trivial⟩⟩, ⟨trivial, ⟨trivial, ⟨trivial, ⟨trivial, ⟨⟨trivial, ⟨⟨trivial, trivial⟩, trivial⟩⟩, ⟨⟨trivial, ⟨⟨trivial, trivial⟩, trivial⟩⟩, ⟨⟨trivial, ⟨⟨trivial, trivial⟩, trivial⟩⟩, ⟨trivial, trivial⟩⟩⟩⟩⟩⟩⟩⟩⟩⟩⟩⟩⟩⟩
theorem laws_FnExactRunCost.ok (k : Nat) : EntOk Try.prog k laws_FnExactRunCost.ent := fn_ok (C := laws_FnExactRunCost.ctx k) Try.func9 (by kernel_rfl) (by kernel_rfl) mixed tdsOk (.cons (impl_RunCost.ok k) (.cons (laws_szInstrS.ok k) (.cons (laws_szArena.ok k) (.cons (laws_toInstrS.ok k) (.cons (laws_toArena.ok k) (.cons (laws_toRegion.ok k) (.cons (laws_eqArena.ok k) (.cons (laws_eqInstrS.ok k) (.cons (spec_RunCost.ok k) EntsOk.nil))))))))) (by kernel_rfl) (Nat.le_of_ble_eq_true (by kernel_rfl)) (by kernel_rfl) (laws_FnExactRunCost.runs k) (laws_FnExactRunCost.obls k)
end Go.Proofs.Ytcnaldcinkmpbaa.QFnExactRunCost
