/- The plain functions of Go functions, and that each Go function does what its plain function tells. Printed by a program of this session (gen.py). -/
import Derived.Test.YtkabaommohhbgaaProg
import Derived.Test.YtkabaommohhbgaaAbDa
import Derived.KernelRfl
import Derived.Test.YtkabaommohhbgaaQA
namespace Go.Proofs.Ytkabaommohhbgaa.QFnSenses
open Go Go.Proofs Go.Proofs.YtkabaommohhbgaaA Go.Proofs.Ytkabaommohhbgaa.QA
set_option linter.unusedVariables false
set_option maxRecDepth 100000
/-! loop.example/g00200/laws.FnSenses -/
def laws_FnSenses.l1 (k : Nat)  : Nat → Int × Int × Bool × Int × Int × DeI × DeI × Unit → Option (Bool)
  | 0, _ => none
  | n + 1, (x1, x2, x3, x4, x5, x6, x7, _) => if x5 < 4 then (if 0 ≤ x5 then (if x5 < (x7.length : Int) then ((impl_Has.f k x1 (el TyI x7 x5.toNat)).bind fun t6 => (if t6 = true then (if 0 ≤ x5 then (if x5 < (x7.length : Int) then (laws_FnSenses.l1 k n (x1, x2, x3, w64 (x4 + (el TyI x7 x5.toNat)), w64 (x5 + 1), x6, x7, ())) else none) else none) else (laws_FnSenses.l1 k n (x1, x2, x3, x4, w64 (x5 + 1), x6, x7, ())))) else none) else none) else ((spec_DrawReadSense.f k x6).bind fun t7 => ((impl_ReadSense.f k t7).bind fun t8 => ((spec_ReadSense.f k t7).bind fun t9 => (if x3 = true then (if x2 = x1 then (if x4 = x1 then ((impl_SenseOk.f k x1).bind fun t10 => (if t10 = true then ((impl_SenseOk.f k 16).bind fun t11 => (if ¬ t11 = true then (if t8.2 = t9.2 then (if t8.1 = t9.1 then ((impl_SenseNames.f k (-1)).bind fun t12 => (if t12 = (⟨#[]⟩ : ByteArray) then ((impl_Has.f k x1 3).bind fun t13 => (some (decide (¬ t13 = true)))) else (some false))) else (some false)) else (some false)) else (some false))) else (some false))) else (some false)) else (some false)) else (some false)))))
def laws_FnSenses.f (k : Nat) (a0 : DeI) : Option (Bool) :=
  (laws_big.f k a0).bind fun t1 => (if t1 = true then (some true) else ((spec_DrawPlaces.f k a0).bind fun t2 => (if 0 ≤ 0 then (if 0 < (t2.length : Int) then ((impl_SenseNames.f k (Int.tmod (el TyI t2 0) 16)).bind fun t3 => ((impl_ReadSense.f k t3).bind fun t4 => (((some ([1, 2, 4, 8] : DeI))).bind fun y5 => (laws_FnSenses.l1 k k (Int.tmod (el TyI t2 0) 16, t4.1, t4.2, 0, 0, a0, y5, ()))))) else none) else none)))
def laws_FnSenses.Sl1 : Shape := ⟨[(0, false, [.own 0]), (3, false, [.int .i64]), (4, false, [.int .i64]), (5, false, [.bool]), (6, false, [.own 1]), (7, false, [.int .i64]), (8, false, [.int .i64])], [(0, .view false 5 (.int .u8)), (1, .row 3 TyI)], 2⟩
def laws_FnSenses.sig : Sig := ⟨[.val false (.sl 5 (.int .u8)) [0]], [.val false .bool []]⟩
def laws_FnSenses.F : FT laws_FnSenses.sig := fun k x => laws_FnSenses.f k x.1
def laws_FnSenses.ann : AT laws_FnSenses.sig := fun k => (.seq .nil (.seq .nil (.seq .nil (.seq .nil (.seq .nil (.seq .nil (.seq (.seq .nil (.block (.loop laws_FnSenses.Sl1 (laws_FnSenses.l1 k) fun n1 => .nil))) .nil)))))))
def laws_FnSenses.ent : Ent := ⟨5, laws_FnSenses.sig, laws_FnSenses.F⟩
def laws_FnSenses.ctx (k : Nat) : Ctx := ⟨tds, [impl_SenseNames.ent, spec_ReadSense.ent, impl_ReadSense.ent, laws_big.ent, spec_DrawPlaces.ent, impl_Has.ent, spec_DrawReadSense.ent, impl_SenseOk.ent], k, 94⟩
theorem laws_FnSenses.runs : RunsT laws_FnSenses.sig laws_FnSenses.ctx Try.f5 laws_FnSenses.ann laws_FnSenses.F := fun k x => by kernel_rfl
theorem laws_FnSenses.obls : OblT tds laws_FnSenses.sig laws_FnSenses.ctx 1 Try.f5 laws_FnSenses.ann := fun k => ⟨tr, ⟨⟨tr, ⟨⟨tr, tr⟩, tr⟩⟩, ⟨tr, ⟨tr, ⟨tr, ⟨tr, ⟨⟨tr, ⟨⟨by kernel_rfl, fun x => by kernel_rfl⟩, fun n => ⟨fun x => by kernel_rfl, ⟨⟨tr, ⟨tr, tr⟩⟩, ⟨⟨tr, ⟨tr, tr⟩⟩, tr⟩⟩⟩⟩⟩, ⟨tr, ⟨tr, ⟨tr, ⟨tr, tr⟩⟩⟩⟩⟩⟩⟩⟩⟩⟩⟩
theorem laws_FnSenses.ok (k : Nat) : EntOk Try.prog k laws_FnSenses.ent := fn_ok (C := laws_FnSenses.ctx k) Try.func5 (by kernel_rfl) (by kernel_rfl) mixed tdsOk (.cons (impl_SenseNames.ok k) (.cons (spec_ReadSense.ok k) (.cons (impl_ReadSense.ok k) (.cons (laws_big.ok k) (.cons (spec_DrawPlaces.ok k) (.cons (impl_Has.ok k) (.cons (spec_DrawReadSense.ok k) (.cons (impl_SenseOk.ok k) EntsOk.nil)))))))) (by kernel_rfl) (leB (by kernel_rfl)) (by kernel_rfl) (laws_FnSenses.runs k) (laws_FnSenses.obls k)
end Go.Proofs.Ytkabaommohhbgaa.QFnSenses
