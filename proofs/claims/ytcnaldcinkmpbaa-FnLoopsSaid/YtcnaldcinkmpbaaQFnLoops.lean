/- The plain functions of Go functions, and that each Go function does what its plain function tells. Printed by a program of this session (gen.py). -/
import Derived.Test.YtcnaldcinkmpbaaProg
import Derived.Test.YtcnaldcinkmpbaaAbDa
import Derived.KernelRfl
import Derived.Test.YtcnaldcinkmpbaaQA
namespace Go.Proofs.Ytcnaldcinkmpbaa.QFnLoops
open Go Go.Proofs Go.Proofs.YtcnaldcinkmpbaaA Go.Proofs.Ytcnaldcinkmpbaa.QA
set_option linter.unusedVariables false
set_option maxRecDepth 100000
/-! loop.example/g00200/laws.FnLoops -/
def laws_FnLoops.l1 (k : Nat)  : Nat → Int × Int × List Int × List Int × (List (Int × Int)) × Unit → Option (Bool)
  | 0, _ => none
  | n + 1, (x1, x2, x3, x4, x5, _) => if x2 < x1 then (((some ([(17, 0), (12, 0)] : List (Int × Int)))).bind fun y4 => (if (x5.length + y4.length) * 16 ≤ 140737488355328 then (((some (x5 ++ y4))).bind fun y5 => (laws_FnLoops.l1 k n (x1, w64 (x2 + 1), x3, x4, y5, ()))) else none)) else (if 0 ≤ 1 then (if 1 < (x4.length : Int) then (if ¬ x1 = 0 then (((some ([(9, w64 (2 * (Int.tmod (el (.int .i64) x4 1) x1)))] : List (Int × Int)))).bind fun y6 => (if (x5.length + y6.length) * 16 ≤ 140737488355328 then (((some (x5 ++ y6))).bind fun y7 => (if 0 ≤ 2 then (if 2 < (x4.length : Int) then ((impl_ArenaNew.f k).bind fun t8 => ((impl_RunCost.f k y7 t8 (0, 1) (Int.tmod (el (.int .i64) x4 2) 300)).bind fun t9 => ((impl_WorstCost.f k y7).bind fun t10 => ((spec_DrawForward.f k x3).bind fun t11 => ((impl_Forward.f k y7).bind fun t12 => (if ¬ t12 = true then (if ¬ t10.2 = true then (if t9.1 = (Int.tmod (el (.int .i64) x4 2) 300) then (if t9.2 = 0 then ((impl_Forward.f k t11).bind fun t13 => ((spec_Forward.f k t11).bind fun t14 => (some (decide (t13 = t14))))) else (some false)) else (some false)) else (some false)) else (some false))))))) else none) else none)) else none)) else none) else none) else none)
def laws_FnLoops.f (k : Nat) (a0 : List Int) : Option (Bool) :=
  (laws_big.f k a0).bind fun t1 => (if t1 = true then (some true) else ((spec_DrawPlaces.f k a0).bind fun t2 => (if 0 ≤ 0 then (if 0 < (t2.length : Int) then (((some ([] : List (Int × Int)))).bind fun y3 => (laws_FnLoops.l1 k k (w64 (1 + (Int.tmod (el (.int .i64) t2 0) 8)), 0, a0, t2, y3, ()))) else none) else none)))
def laws_FnLoops.Sl1 : Shape := ⟨[(0, false, [.own 0]), (3, false, [.own 1]), (4, false, [.int .i64]), (5, false, [.own 2]), (6, false, [.int .i64])], [(0, .view false 5 (.int .u8)), (1, .row 3 (.int .i64)), (2, .row 46 (.pair (.int .i64) (.int .i64)))], 3⟩
def laws_FnLoops.sig : Sig := ⟨[.val false (.sl 5 (.int .u8)) [0]], [.val false .bool []]⟩
def laws_FnLoops.F (k : Nat) (x : Args laws_FnLoops.sig.ps) : Option (Res laws_FnLoops.sig) := laws_FnLoops.f k x.1
def laws_FnLoops.ann (k : Nat) : Ann (Res laws_FnLoops.sig) := (.seq .nil (.seq .nil (.seq .nil (.seq .nil (.seq .nil (.seq (.seq .nil (.block (.loop laws_FnLoops.Sl1 (laws_FnLoops.l1 k) fun n1 => .nil))) .nil))))))
def laws_FnLoops.ent : Ent := ⟨5, laws_FnLoops.sig, laws_FnLoops.F⟩
def laws_FnLoops.ctx (k : Nat) : Ctx := ⟨tds, [laws_big.ent, spec_DrawPlaces.ent, impl_RunCost.ent, impl_ArenaNew.ent, impl_WorstCost.ent, spec_DrawForward.ent, impl_Forward.ent, spec_Forward.ent], k, 85⟩
theorem laws_FnLoops.runs (k : Nat) (x : Args laws_FnLoops.sig.ps) : laws_FnLoops.F k x = runF (laws_FnLoops.ctx k) laws_FnLoops.sig Try.f5 (Try.f5.body.getD .skip) (laws_FnLoops.ann k) x := by kernel_rfl
theorem laws_FnLoops.obls (k : Nat) : obl (laws_FnLoops.ctx k) 1 (Try.f5.body.getD .skip) (laws_FnLoops.ann k) (retK tds laws_FnLoops.sig Try.f5.results.toList) := ⟨trivial, ⟨⟨trivial, ⟨⟨trivial, trivial⟩, trivial⟩⟩, ⟨trivial, ⟨trivial, ⟨trivial, ⟨⟨trivial, ⟨⟨by kernel_rfl, fun x => by kernel_rfl⟩, fun n => ⟨fun x => by kernel_rfl, ⟨⟨trivial, ⟨trivial, trivial⟩⟩, ⟨trivial, trivial⟩⟩⟩⟩⟩, ⟨trivial, ⟨trivial, ⟨trivial, ⟨trivial, ⟨trivial, ⟨trivial, trivial⟩⟩⟩⟩⟩⟩⟩⟩⟩⟩⟩⟩
theorem laws_FnLoops.ok (k : Nat) : EntOk Try.prog k laws_FnLoops.ent := fn_ok (C := laws_FnLoops.ctx k) Try.func5 (by kernel_rfl) (by kernel_rfl) mixed tdsOk (.cons (laws_big.ok k) (.cons (spec_DrawPlaces.ok k) (.cons (impl_RunCost.ok k) (.cons (impl_ArenaNew.ok k) (.cons (impl_WorstCost.ok k) (.cons (spec_DrawForward.ok k) (.cons (impl_Forward.ok k) (.cons (spec_Forward.ok k) EntsOk.nil)))))))) (by kernel_rfl) (Nat.le_of_ble_eq_true (by kernel_rfl)) (by kernel_rfl) (laws_FnLoops.runs k) (laws_FnLoops.obls k)
end Go.Proofs.Ytcnaldcinkmpbaa.QFnLoops
