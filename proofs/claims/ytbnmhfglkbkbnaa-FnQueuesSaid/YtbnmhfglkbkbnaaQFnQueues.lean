/- The plain functions of Go functions, and that each Go function does what its plain function tells. Printed by a program of this session (gen.py). -/
import Derived.Test.YtbnmhfglkbkbnaaProg
import Derived.Test.YtbnmhfglkbkbnaaAbDa
import Derived.KernelRfl
import Derived.Test.YtbnmhfglkbkbnaaQA
namespace Go.Proofs.Ytbnmhfglkbkbnaa.QFnQueues
open Go Go.Proofs Go.Proofs.YtbnmhfglkbkbnaaA Go.Proofs.Ytbnmhfglkbkbnaa.QA
set_option linter.unusedVariables false
set_option maxRecDepth 100000
/-! loop.example/g00200/laws.FnQueues -/
def laws_FnQueues.l2 (k : Nat)  : Nat → Int × Int × Int × Int × Int × Int × Int × List Int × (List (Int × Int)) × Unit → Option (Bool)
  | 0, _ => none
  | n + 1, (x1, x2, x3, x4, x5, x6, x7, x8, x9, _) => if x2 < x1 then ((impl_TakePort.f k (x3, (x4, (x5, (x6, x7)))) x9 99).bind fun t4 => (if ¬ t4.2.2 = 0 then (some false) else (if 0 ≤ x2 then (if x2 < (x8.length : Int) then (if ¬ t4.2.1 = (el (.int .i64) x8 x2.toNat) then (some false) else (laws_FnQueues.l2 k n (x1, w64 (x2 + 1), x3, x4, x5, x6, x7, x8, t4.1, ()))) else none) else none))) else ((impl_TakePort.f k (x3, (x4, (x5, (x6, x7)))) x9 99).bind fun t5 => ((impl_PortOk.f k (x3, (x4, (x5, (x6, x7))))).bind fun t6 => (if t6 = true then (if t5.2.2 = 2 then (some (decide (x1 = x6))) else (some false)) else (some false))))
def laws_FnQueues.l1 (k : Nat)  : Nat → Int × Int × Int × Int × Int × Int × Int × List Int × (List (Int × Int)) × Unit → Option (Bool)
  | 0, _ => none
  | n + 1, (x1, x2, x3, x4, x5, x6, x7, x8, x9, _) => if x2 < 8 then (if 0 ≤ x2 then (if x2 < (x8.length : Int) then ((impl_SendPort.f k (x3, (x4, (x5, (x6, x7)))) x9 (el (.int .i64) x8 x2.toNat) x2).bind fun t3 => (if ¬ (decide (t3.2 = 0)) = (decide (x2 < x6)) then (some false) else (if ¬ t3.2 = 0 then (if ¬ t3.2 = 1 then (some false) else (if t3.2 = 0 then (laws_FnQueues.l1 k n (w64 (x1 + 1), w64 (x2 + 1), x3, x4, x5, x6, x7, x8, t3.1, ())) else (laws_FnQueues.l1 k n (x1, w64 (x2 + 1), x3, x4, x5, x6, x7, x8, t3.1, ())))) else (if t3.2 = 0 then (laws_FnQueues.l1 k n (w64 (x1 + 1), w64 (x2 + 1), x3, x4, x5, x6, x7, x8, t3.1, ())) else (laws_FnQueues.l1 k n (x1, w64 (x2 + 1), x3, x4, x5, x6, x7, x8, t3.1, ())))))) else none) else none) else (laws_FnQueues.l2 k k (x1, 0, x3, x4, x5, x6, x7, x8, x9, ()))
def laws_FnQueues.f (k : Nat) (a0 : List Int) : Option (Bool) :=
  (laws_big.f k a0).bind fun t1 => (if t1 = true then (some true) else ((spec_DrawPlaces.f k a0).bind fun t2 => (if 0 ≤ 0 then (if 0 < (t2.length : Int) then (laws_FnQueues.l1 k k (0, 0, 1, 1, 2, w64 (1 + (Int.tmod (el (.int .i64) t2 0) 6)), 0, t2, [], ())) else none) else none)))
def laws_FnQueues.Sl1 : Shape := ⟨[(3, false, [.own 1]), (4, false, [.ptr 2 0]), (5, false, [.ptr 3 0]), (6, false, [.int .i64]), (7, false, [.int .i64])], [(2, .blk 33 [.int .i64, .int .i64, .int .i64, .int .i64, .int .i64]), (3, .blk 73 [.own 4]), (1, .row 3 (.int .i64)), (4, .row 114 (.pair (.int .i64) (.int .i64)))], 5⟩
def laws_FnQueues.Sl2 : Shape := ⟨[(3, false, [.own 1]), (4, false, [.ptr 2 0]), (5, false, [.ptr 3 0]), (6, false, [.int .i64]), (10, false, [.int .i64])], [(2, .blk 33 [.int .i64, .int .i64, .int .i64, .int .i64, .int .i64]), (3, .blk 73 [.own 4]), (1, .row 3 (.int .i64)), (4, .row 114 (.pair (.int .i64) (.int .i64)))], 5⟩
def laws_FnQueues.sig : Sig := ⟨[.val false (.sl 5 (.int .u8)) [0]], [.val false .bool []]⟩
def laws_FnQueues.F (k : Nat) (x : Args laws_FnQueues.sig.ps) : Option (Res laws_FnQueues.sig) := laws_FnQueues.f k x.1
def laws_FnQueues.ann (k : Nat) : Ann (Res laws_FnQueues.sig) := (.seq .nil (.seq .nil (.seq .nil (.seq .nil (.seq .nil (.seq .nil (.seq (.seq .nil (.block (.loop laws_FnQueues.Sl1 (laws_FnQueues.l1 k) fun n1 => .nil))) (.seq (.seq .nil (.block (.loop laws_FnQueues.Sl2 (laws_FnQueues.l2 k) fun n1 => .nil))) .nil))))))))
def laws_FnQueues.ent : Ent := ⟨12, laws_FnQueues.sig, laws_FnQueues.F⟩
def laws_FnQueues.ctx (k : Nat) : Ctx := ⟨tds, [impl_PortOk.ent, laws_big.ent, spec_DrawPlaces.ent, impl_SendPort.ent, impl_TakePort.ent], k, 105⟩
theorem laws_FnQueues.runs (k : Nat) (x : Args laws_FnQueues.sig.ps) : laws_FnQueues.F k x = runF (laws_FnQueues.ctx k) laws_FnQueues.sig Try.f12 (Try.f12.body.getD .skip) (laws_FnQueues.ann k) x := by kernel_rfl
theorem laws_FnQueues.obls (k : Nat) : obl (laws_FnQueues.ctx k) 1 (Try.f12.body.getD .skip) (laws_FnQueues.ann k) (retK tds laws_FnQueues.sig Try.f12.results.toList) := ⟨trivial, ⟨⟨trivial, ⟨⟨trivial, trivial⟩, trivial⟩⟩, ⟨trivial, ⟨trivial, ⟨trivial, ⟨trivial, ⟨⟨trivial, ⟨⟨by kernel_rfl, fun x => by kernel_rfl⟩, fun n => ⟨fun x => by kernel_rfl, ⟨⟨trivial, ⟨trivial, trivial⟩⟩, ⟨⟨trivial, ⟨⟨trivial, ⟨⟨trivial, trivial⟩, trivial⟩⟩, ⟨⟨trivial, ⟨trivial, trivial⟩⟩, trivial⟩⟩⟩, trivial⟩⟩⟩⟩⟩, ⟨⟨trivial, ⟨⟨by kernel_rfl, fun x => by kernel_rfl⟩, fun n => ⟨fun x => by kernel_rfl, ⟨⟨trivial, ⟨trivial, trivial⟩⟩, ⟨⟨trivial, ⟨⟨trivial, ⟨⟨trivial, trivial⟩, trivial⟩⟩, trivial⟩⟩, trivial⟩⟩⟩⟩⟩, ⟨trivial, ⟨trivial, trivial⟩⟩⟩⟩⟩⟩⟩⟩⟩⟩
theorem laws_FnQueues.ok (k : Nat) : EntOk Try.prog k laws_FnQueues.ent := fn_ok (C := laws_FnQueues.ctx k) Try.func12 (by kernel_rfl) (by kernel_rfl) mixed tdsOk (.cons (impl_PortOk.ok k) (.cons (laws_big.ok k) (.cons (spec_DrawPlaces.ok k) (.cons (impl_SendPort.ok k) (.cons (impl_TakePort.ok k) EntsOk.nil))))) (by kernel_rfl) (Nat.le_of_ble_eq_true (by kernel_rfl)) (by kernel_rfl) (laws_FnQueues.runs k) (laws_FnQueues.obls k)
end Go.Proofs.Ytbnmhfglkbkbnaa.QFnQueues
