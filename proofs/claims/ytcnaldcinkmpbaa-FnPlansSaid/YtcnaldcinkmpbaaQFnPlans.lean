/- The plain functions of Go functions, and that each Go function does what its plain function tells. Printed by a program of this session (gen.py). -/
import Derived.Test.YtcnaldcinkmpbaaProg
import Derived.Test.YtcnaldcinkmpbaaAbDa
import Derived.KernelRfl
import Derived.Test.YtcnaldcinkmpbaaQA
namespace Go.Proofs.Ytcnaldcinkmpbaa.QFnPlans
open Go Go.Proofs Go.Proofs.YtcnaldcinkmpbaaA Go.Proofs.Ytcnaldcinkmpbaa.QA
set_option linter.unusedVariables false
set_option maxRecDepth 100000
/-! loop.example/g00200/laws.FnPlans -/
def laws_FnPlans.l3 (k : Nat)  : Nat → Int × Int × Int × Int × (List (Int × Int)) × Unit → Option (Bool)
  | 0, _ => none
  | n + 1, (x1, x2, x3, x4, x5, _) => if x4 < (x5.length : Int) then (if 0 ≤ x4 then (if x4 < (x5.length : Int) then (laws_FnPlans.l3 k n (x1, x2, w64 (x3 + ((el (.pair (.int .i64) (.int .i64)) x5 x4.toNat).2)), w64 (x4 + 1), x5, ())) else none) else none) else ((impl_PlanOk.f k x5).bind fun t7 => (if t7 = true then ((impl_TimeOf.f k x5 1).bind fun t8 => (if x1 = t8 then (if x2 = x3 then ((impl_WindowAt.f k x5 (-1)).bind fun t9 => (if t9.1 = 0 then ((impl_WindowAt.f k x5 0).bind fun t10 => (if 0 ≤ 0 then (if 0 < (x5.length : Int) then (some (decide (t10.1 = (el (.pair (.int .i64) (.int .i64)) x5 0).1 ∧ t10.2 = (el (.pair (.int .i64) (.int .i64)) x5 0).2))) else none) else none)) else (some false))) else (some false)) else (some false))) else (some false)))
def laws_FnPlans.l2 (k : Nat)  : Nat → Int × Int × Int × (List (Int × Int)) × Unit → Option (Bool)
  | 0, _ => none
  | n + 1, (x1, x2, x3, x4, _) => if x3 ≤ 4 then ((impl_TimeOf.f k x4 x3).bind fun t6 => (laws_FnPlans.l2 k n (x1, w64 (x2 + t6), w64 (x3 + 1), x4, ()))) else (laws_FnPlans.l3 k k (x1, x2, 0, 0, x4, ()))
def laws_FnPlans.l1 (k : Nat)  : Nat → Int × Int × Int × (List (Int × Int)) × Unit → Option (Bool)
  | 0, _ => none
  | n + 1, (x1, x2, x3, x4, _) => if x3 < (x4.length : Int) then ((impl_WindowAt.f k x4 (w64 (x1 + x3))).bind fun t4 => ((impl_WindowAt.f k x4 (w64 ((w64 (x1 + x3)) + (x4.length : Int)))).bind fun t5 => (if ¬ (t4.1 = t5.1 ∧ t4.2 = t5.2) then (some false) else (if t4.1 = 1 then (laws_FnPlans.l1 k n (x1, w64 (x2 + t4.2), w64 (x3 + 1), x4, ())) else (laws_FnPlans.l1 k n (x1, x2, w64 (x3 + 1), x4, ())))))) else (laws_FnPlans.l2 k k (x2, 0, 1, x4, ()))
def laws_FnPlans.f (k : Nat) (a0 : List Int) : Option (Bool) :=
  (laws_big.f k a0).bind fun t1 => (if t1 = true then (some true) else ((spec_DrawSetup.f k a0).bind fun t2 => ((spec_DrawPlaces.f k a0).bind fun t3 => (if 0 ≤ 0 then (if 0 < (t3.length : Int) then (laws_FnPlans.l1 k k (el (.int .i64) t3 0, 0, 0, t2.2.1, ())) else none) else none))))
def laws_FnPlans.Sl1 : Shape := ⟨[(5, false, [.own 1]), (6, false, [.int .i64]), (7, false, [.int .i64]), (8, false, [.int .i64])], [(1, .row 35 (.pair (.int .i64) (.int .i64)))], 2⟩
def laws_FnPlans.Sl2 : Shape := ⟨[(5, false, [.own 1]), (7, false, [.int .i64]), (10, false, [.int .i64]), (11, false, [.int .i64])], [(1, .row 35 (.pair (.int .i64) (.int .i64)))], 2⟩
def laws_FnPlans.Sl3 : Shape := ⟨[(5, false, [.own 1]), (7, false, [.int .i64]), (10, false, [.int .i64]), (12, false, [.int .i64]), (13, false, [.int .i64])], [(1, .row 35 (.pair (.int .i64) (.int .i64)))], 2⟩
def laws_FnPlans.sig : Sig := ⟨[.val false (.sl 5 (.int .u8)) [0]], [.val false .bool []]⟩
def laws_FnPlans.F (k : Nat) (x : Args laws_FnPlans.sig.ps) : Option (Res laws_FnPlans.sig) := laws_FnPlans.f k x.1
def laws_FnPlans.ann (k : Nat) : Ann (Res laws_FnPlans.sig) := (.seq .nil (.seq .nil (.seq .nil (.seq .nil (.seq .nil (.seq .nil (.seq .nil (.seq (.seq .nil (.block (.loop laws_FnPlans.Sl1 (laws_FnPlans.l1 k) fun n1 => .nil))) (.seq .nil (.seq (.seq .nil (.block (.loop laws_FnPlans.Sl2 (laws_FnPlans.l2 k) fun n1 => .nil))) (.seq .nil (.seq (.seq .nil (.block (.loop laws_FnPlans.Sl3 (laws_FnPlans.l3 k) fun n1 => .nil))) .nil))))))))))))
def laws_FnPlans.ent : Ent := ⟨3, laws_FnPlans.sig, laws_FnPlans.F⟩
def laws_FnPlans.ctx (k : Nat) : Ctx := ⟨tds, [laws_big.ent, spec_DrawSetup.ent, spec_DrawPlaces.ent, impl_WindowAt.ent, impl_TimeOf.ent, impl_PlanOk.ent], k, 102⟩
theorem laws_FnPlans.runs (k : Nat) (x : Args laws_FnPlans.sig.ps) : laws_FnPlans.F k x = runF (laws_FnPlans.ctx k) laws_FnPlans.sig Try.f3 (Try.f3.body.getD .skip) (laws_FnPlans.ann k) x := by kernel_rfl
theorem laws_FnPlans.obls (k : Nat) : obl (laws_FnPlans.ctx k) 1 (Try.f3.body.getD .skip) (laws_FnPlans.ann k) (retK tds laws_FnPlans.sig Try.f3.results.toList) := ⟨trivial, ⟨⟨trivial, ⟨⟨trivial, trivial⟩, trivial⟩⟩, ⟨trivial, ⟨trivial, ⟨trivial, ⟨trivial, ⟨trivial, ⟨⟨trivial, ⟨⟨by kernel_rfl, fun x => by kernel_rfl⟩, fun n => ⟨fun x => by kernel_rfl, ⟨⟨trivial, ⟨trivial, trivial⟩⟩, ⟨⟨trivial, ⟨⟨trivial, ⟨⟨trivial, trivial⟩, trivial⟩⟩, ⟨trivial, ⟨trivial, trivial⟩⟩⟩⟩, trivial⟩⟩⟩⟩⟩, ⟨trivial, ⟨⟨trivial, ⟨⟨by kernel_rfl, fun x => by kernel_rfl⟩, fun n => ⟨fun x => by kernel_rfl, ⟨⟨trivial, ⟨trivial, trivial⟩⟩, ⟨trivial, trivial⟩⟩⟩⟩⟩, ⟨trivial, ⟨⟨trivial, ⟨⟨by kernel_rfl, fun x => by kernel_rfl⟩, fun n => ⟨fun x => by kernel_rfl, ⟨⟨trivial, ⟨trivial, trivial⟩⟩, ⟨trivial, trivial⟩⟩⟩⟩⟩, ⟨trivial, trivial⟩⟩⟩⟩⟩⟩⟩⟩⟩⟩⟩⟩⟩
theorem laws_FnPlans.ok (k : Nat) : EntOk Try.prog k laws_FnPlans.ent := fn_ok (C := laws_FnPlans.ctx k) Try.func3 (by kernel_rfl) (by kernel_rfl) mixed tdsOk (.cons (laws_big.ok k) (.cons (spec_DrawSetup.ok k) (.cons (spec_DrawPlaces.ok k) (.cons (impl_WindowAt.ok k) (.cons (impl_TimeOf.ok k) (.cons (impl_PlanOk.ok k) EntsOk.nil)))))) (by kernel_rfl) (Nat.le_of_ble_eq_true (by kernel_rfl)) (by kernel_rfl) (laws_FnPlans.runs k) (laws_FnPlans.obls k)
end Go.Proofs.Ytcnaldcinkmpbaa.QFnPlans
