/- The plain functions of Go functions, and that each Go function does what its plain function tells. Printed by a program of this session (gen.py). -/
import Derived.Test.YtcnaldcinkmpbaaProg
import Derived.Test.YtcnaldcinkmpbaaAbDa
import Derived.KernelRfl
import Derived.Test.YtcnaldcinkmpbaaQAc
namespace Go.Proofs.Ytcnaldcinkmpbaa.QFnRunCosts
open Go Go.Proofs Go.Proofs.YtcnaldcinkmpbaaA Go.Proofs.Ytcnaldcinkmpbaa.QA
set_option linter.unusedVariables false
set_option maxRecDepth 100000
/-! loop.example/g00200/laws.FnRunCosts -/
def laws_FnRunCosts.f (k : Nat) (a0 : List Int) : Option (Bool) :=
  (laws_big.f k a0).bind fun t1 => (if t1 = true then (some true) else ((spec_DrawRunCost.f k a0).bind fun t2 => ((impl_RunCost.f k t2.1 t2.2.1 t2.2.2.1 t2.2.2.2).bind fun t3 => ((spec_RunCost.f k t2.1 t2.2.1 t2.2.2.1 t2.2.2.2).bind fun t4 => ((impl_RunCost.f k t2.1 t2.2.1 t2.2.2.1 2000).bind fun t5 => (if t3.1 = t4.1 then (if t3.2 = t4.2 then (if 2000 < t2.2.2.2 then (if t2.2.2.2 < 0 then (if t3.1 = 0 then (some true) else (if t3.1 ≤ t2.2.2.2 then (some true) else (some (decide (5000 < t2.2.2.2))))) else (if t3.1 ≤ t2.2.2.2 then (some true) else (some (decide (5000 < t2.2.2.2))))) else (if t3.1 ≤ t5.1 then (if t2.2.2.2 < 0 then (if t3.1 = 0 then (some true) else (if t3.1 ≤ t2.2.2.2 then (some true) else (some (decide (5000 < t2.2.2.2))))) else (if t3.1 ≤ t2.2.2.2 then (some true) else (some (decide (5000 < t2.2.2.2))))) else (some false))) else (some false)) else (some false)))))))
def laws_FnRunCosts.sig : Sig := ⟨[.val false (.sl 5 (.int .u8)) [0]], [.val false .bool []]⟩
def laws_FnRunCosts.F (k : Nat) (x : Args laws_FnRunCosts.sig.ps) : Option (Res laws_FnRunCosts.sig) := laws_FnRunCosts.f k x.1
def laws_FnRunCosts.ann (k : Nat) : Ann (Res laws_FnRunCosts.sig) := .nil
def laws_FnRunCosts.ent : Ent := ⟨10, laws_FnRunCosts.sig, laws_FnRunCosts.F⟩
def laws_FnRunCosts.ctx (k : Nat) : Ctx := ⟨tds, [laws_big.ent, impl_RunCost.ent, spec_RunCost.ent, spec_DrawRunCost.ent], k, 79⟩
theorem laws_FnRunCosts.runs (k : Nat) (x : Args laws_FnRunCosts.sig.ps) : laws_FnRunCosts.F k x = runF (laws_FnRunCosts.ctx k) laws_FnRunCosts.sig Try.f10 (Try.f10.body.getD .skip) (laws_FnRunCosts.ann k) x := by kernel_rfl
theorem laws_FnRunCosts.obls (k : Nat) : obl (laws_FnRunCosts.ctx k) 1 (Try.f10.body.getD .skip) (laws_FnRunCosts.ann k) (retK tds laws_FnRunCosts.sig Try.f10.results.toList) := ⟨trivial, ⟨⟨trivial, ⟨⟨trivial, trivial⟩, trivial⟩⟩, ⟨trivial, ⟨trivial, ⟨trivial, ⟨trivial, ⟨trivial, trivial⟩⟩⟩⟩⟩⟩⟩
theorem laws_FnRunCosts.ok (k : Nat) : EntOk Try.prog k laws_FnRunCosts.ent := fn_ok (C := laws_FnRunCosts.ctx k) Try.func10 (by kernel_rfl) (by kernel_rfl) mixed tdsOk (.cons (laws_big.ok k) (.cons (impl_RunCost.ok k) (.cons (spec_RunCost.ok k) (.cons (spec_DrawRunCost.ok k) EntsOk.nil)))) (by kernel_rfl) (Nat.le_of_ble_eq_true (by kernel_rfl)) (by kernel_rfl) (laws_FnRunCosts.runs k) (laws_FnRunCosts.obls k)
end Go.Proofs.Ytcnaldcinkmpbaa.QFnRunCosts
