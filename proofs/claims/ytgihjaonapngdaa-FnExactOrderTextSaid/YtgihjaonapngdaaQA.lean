/- The plain functions of Go functions, and that each Go function does what its plain function tells. Printed by a program of this session (gen.py). -/
import Derived.Test.YtgihjaonapngdaaProg
import Derived.Test.YtgihjaonapngdaaAbDa
import Derived.KernelRfl
namespace Go.Proofs.Ytgihjaonapngdaa.QA
open Go Go.Proofs Go.Proofs.YtgihjaonapngdaaA
set_option linter.unusedVariables false
set_option maxRecDepth 100000
def tds : List (Nat × TD) := [(2, ⟨.int .i64, 1, 8, (.int .i64), false, false⟩),
  (3, ⟨.int .i64, 1, 8, (.int .i64), false, false⟩),
  (4, ⟨.bool, 1, 1, .bool, false, false⟩),
  (5, ⟨.int .u8, 1, 1, (.int .u8), false, false⟩),
  (6, ⟨.int .u8, 1, 1, (.int .u8), false, false⟩),
  (7, ⟨.struct [(0, 2), (1, 3), (2, 4), (3, 6)], 4, 24, (.pair (.int .i64) (.pair (.int .i64) (.pair .bool (.int .u8)))), true, false⟩),
  (8, ⟨.struct [(0, 2), (1, 3), (2, 4), (3, 6)], 4, 24, (.pair (.int .i64) (.pair (.int .i64) (.pair .bool (.int .u8)))), true, false⟩),
  (9, ⟨.str, 1, 16, .str, false, false⟩),
  (10, ⟨.str, 1, 16, .str, false, false⟩),
  (11, ⟨.str, 1, 16, .str, false, false⟩),
  (12, ⟨.int .u64, 1, 8, (.int .u64), false, false⟩),
  (13, ⟨.struct [(0, 9), (1, 12)], 2, 24, (.pair .str (.int .u64)), true, false⟩),
  (14, ⟨.struct [(0, 9), (1, 12)], 2, 24, (.pair .str (.int .u64)), true, false⟩),
  (21, ⟨.int .i32, 1, 4, (.int .i32), false, false⟩),
  (22, ⟨.slice 96, 1, 24, (.sl 96 (.pair (.int .i64) (.pair (.int .i64) (.int .i64)))), false, false⟩),
  (25, ⟨.slice 44, 1, 24, (.sl 44 (.pair (.int .i64) (.pair (.int .i64) (.int .i64)))), false, false⟩),
  (31, ⟨.struct [(0, 3), (1, 3), (2, 3), (3, 3)], 4, 32, (.pair (.int .i64) (.pair (.int .i64) (.pair (.int .i64) (.int .i64)))), true, false⟩),
  (32, ⟨.struct [(0, 3), (1, 3), (2, 3), (3, 3)], 4, 32, (.pair (.int .i64) (.pair (.int .i64) (.pair (.int .i64) (.int .i64)))), true, false⟩),
  (35, ⟨.struct [(0, 3), (1, 3), (2, 3), (3, 3)], 4, 32, (.pair (.int .i64) (.pair (.int .i64) (.pair (.int .i64) (.int .i64)))), true, true⟩),
  (38, ⟨.slice 5, 1, 24, (.sl 5 (.int .u8)), false, false⟩),
  (43, ⟨.struct [(0, 3), (1, 3), (2, 3)], 3, 24, (.pair (.int .i64) (.pair (.int .i64) (.int .i64))), true, false⟩),
  (44, ⟨.struct [(0, 3), (1, 3), (2, 3)], 3, 24, (.pair (.int .i64) (.pair (.int .i64) (.int .i64))), true, false⟩),
  (45, ⟨.slice 3, 1, 24, (.sl 3 (.int .i64)), false, false⟩),
  (46, ⟨.slice 57, 1, 24, (.sl 57 (.pair (.int .i64) (.int .i64))), false, false⟩),
  (56, ⟨.struct [(0, 3), (1, 3)], 2, 16, (.pair (.int .i64) (.int .i64)), true, false⟩),
  (57, ⟨.struct [(0, 3), (1, 3)], 2, 16, (.pair (.int .i64) (.int .i64)), true, true⟩),
  (62, ⟨.slice 117, 1, 24, (.sl 117 (.pair (.int .i64) (.int .i64))), false, false⟩),
  (65, ⟨.slice 113, 1, 24, (.sl 113 (.pair (.int .i64) (.int .i64))), false, false⟩),
  (69, ⟨.struct [(0, 3), (1, 3), (2, 3), (3, 3), (4, 3)], 5, 40, (.pair (.int .i64) (.pair (.int .i64) (.pair (.int .i64) (.pair (.int .i64) (.int .i64))))), true, false⟩),
  (70, ⟨.struct [(0, 3), (1, 3), (2, 3), (3, 3), (4, 3)], 5, 40, (.pair (.int .i64) (.pair (.int .i64) (.pair (.int .i64) (.pair (.int .i64) (.int .i64))))), true, false⟩),
  (71, ⟨.slice 123, 1, 24, (.sl 123 (.pair (.int .i64) (.int .i64))), false, false⟩),
  (72, ⟨.struct [(0, 71)], 1, 24, (.sl 123 (.pair (.int .i64) (.int .i64))), true, false⟩),
  (73, ⟨.struct [(0, 71)], 1, 24, (.sl 123 (.pair (.int .i64) (.int .i64))), true, false⟩),
  (81, ⟨.struct [(0, 3), (1, 3), (2, 3), (3, 3), (4, 3)], 5, 40, (.pair (.int .i64) (.pair (.int .i64) (.pair (.int .i64) (.pair (.int .i64) (.int .i64))))), true, false⟩),
  (82, ⟨.slice 150, 1, 24, (.sl 150 (.pair (.int .i64) (.int .i64))), false, false⟩),
  (83, ⟨.struct [(0, 82)], 1, 24, (.sl 150 (.pair (.int .i64) (.int .i64))), true, false⟩),
  (84, ⟨.struct [(0, 82)], 1, 24, (.sl 150 (.pair (.int .i64) (.int .i64))), true, false⟩),
  (96, ⟨.struct [(0, 3), (1, 3), (2, 3)], 3, 24, (.pair (.int .i64) (.pair (.int .i64) (.int .i64))), true, false⟩),
  (99, ⟨.slice 9, 1, 24, (.sl 9 .str), false, false⟩),
  (112, ⟨.struct [(0, 3), (1, 3)], 2, 16, (.pair (.int .i64) (.int .i64)), true, false⟩),
  (113, ⟨.struct [(0, 3), (1, 3)], 2, 16, (.pair (.int .i64) (.int .i64)), true, false⟩),
  (117, ⟨.struct [(0, 3), (1, 3)], 2, 16, (.pair (.int .i64) (.int .i64)), true, false⟩),
  (122, ⟨.struct [(0, 3), (1, 3)], 2, 16, (.pair (.int .i64) (.int .i64)), true, false⟩),
  (123, ⟨.struct [(0, 3), (1, 3)], 2, 16, (.pair (.int .i64) (.int .i64)), true, false⟩),
  (124, ⟨.int .u64, 1, 8, (.int .u64), false, false⟩),
  (142, ⟨.int .u32, 1, 4, (.int .u32), false, false⟩),
  (146, ⟨.struct [(0, 38), (1, 3), (2, 3)], 3, 40, (.pair (.sl 5 (.int .u8)) (.pair (.int .i64) (.int .i64))), true, false⟩),
  (147, ⟨.struct [(0, 38), (1, 3), (2, 3)], 3, 40, (.pair (.sl 5 (.int .u8)) (.pair (.int .i64) (.int .i64))), true, false⟩),
  (150, ⟨.struct [(0, 3), (1, 3)], 2, 16, (.pair (.int .i64) (.int .i64)), true, false⟩),
  (163, ⟨.int .u8, 1, 1, (.int .u8), false, false⟩),
  (164, ⟨.int .u8, 1, 1, (.int .u8), false, false⟩),
  (166, ⟨.int .i32, 1, 4, (.int .i32), false, false⟩),
  (167, ⟨.int .i32, 1, 4, (.int .i32), false, false⟩)]
theorem mixed : Try.prog.follows .mixedOrders = true := by kernel_rfl
theorem tdsOk : TdsOk Try.prog tds := tds_ok (by kernel_rfl) (by kernel_rfl)
def w64 (z : Int) : Int := IntKind.i64.wrap z
/-! loop.example/g00200/laws.szRuleS -/
def laws_szRuleS.f (k : Nat) (a0 : List (Int × Int × Int)) (a1 : Int) : Option (Int) :=
  if (w64 (a1 - (a0.length : Int))) < 0 then (some (-1)) else (some (w64 (a1 - (a0.length : Int))))
def laws_szRuleS.sig : Sig := ⟨[.val false (.sl 96 (.pair (.int .i64) (.pair (.int .i64) (.int .i64)))) [0], .val false (.int .i64) []], [.val false (.int .i64) []]⟩
def laws_szRuleS.F (k : Nat) (x : Args laws_szRuleS.sig.ps) : Option (Res laws_szRuleS.sig) := laws_szRuleS.f k x.1 x.2.1
def laws_szRuleS.ann (k : Nat) : Ann (Res laws_szRuleS.sig) := .nil
def laws_szRuleS.ent : Ent := ⟨15, laws_szRuleS.sig, laws_szRuleS.F⟩
def laws_szRuleS.ctx (k : Nat) : Ctx := ⟨tds, [], k, 12⟩
theorem laws_szRuleS.runs (k : Nat) (x : Args laws_szRuleS.sig.ps) : laws_szRuleS.F k x = runF (laws_szRuleS.ctx k) laws_szRuleS.sig Try.f15 (Try.f15.body.getD .skip) (laws_szRuleS.ann k) x := by kernel_rfl
theorem laws_szRuleS.obls (k : Nat) : obl (laws_szRuleS.ctx k) 1 (Try.f15.body.getD .skip) (laws_szRuleS.ann k) (retK tds laws_szRuleS.sig Try.f15.results.toList) := ⟨trivial, ⟨trivial, ⟨⟨trivial, ⟨⟨trivial, trivial⟩, trivial⟩⟩, ⟨trivial, trivial⟩⟩⟩⟩
theorem laws_szRuleS.ok (k : Nat) : EntOk Try.prog k laws_szRuleS.ent := fn_ok (C := laws_szRuleS.ctx k) Try.func15 (by kernel_rfl) (by kernel_rfl) mixed tdsOk EntsOk.nil (by kernel_rfl) (Nat.le_of_ble_eq_true (by kernel_rfl)) (by kernel_rfl) (laws_szRuleS.runs k) (laws_szRuleS.obls k)
/-! loop.example/g00200/laws.toRule -/
def laws_toRule.f (k : Nat) (a0 : Int × Int × Int) : Option (Int × Int × Int) :=
  some a0
def laws_toRule.sig : Sig := ⟨[.val true (.pair (.int .i64) (.pair (.int .i64) (.int .i64))) []], [.val true (.pair (.int .i64) (.pair (.int .i64) (.int .i64))) []]⟩
def laws_toRule.F (k : Nat) (x : Args laws_toRule.sig.ps) : Option (Res laws_toRule.sig) := laws_toRule.f k x.1
def laws_toRule.ann (k : Nat) : Ann (Res laws_toRule.sig) := .nil
def laws_toRule.ent : Ent := ⟨64, laws_toRule.sig, laws_toRule.F⟩
def laws_toRule.ctx (k : Nat) : Ctx := ⟨tds, [], k, 14⟩
theorem laws_toRule.runs (k : Nat) (x : Args laws_toRule.sig.ps) : laws_toRule.F k x = runF (laws_toRule.ctx k) laws_toRule.sig Try.f64 (Try.f64.body.getD .skip) (laws_toRule.ann k) x := by kernel_rfl
theorem laws_toRule.obls (k : Nat) : obl (laws_toRule.ctx k) 0 (Try.f64.body.getD .skip) (laws_toRule.ann k) (retK tds laws_toRule.sig Try.f64.results.toList) := ⟨trivial, ⟨trivial, ⟨trivial, ⟨trivial, ⟨trivial, ⟨trivial, trivial⟩⟩⟩⟩⟩⟩
theorem laws_toRule.ok (k : Nat) : EntOk Try.prog k laws_toRule.ent := fn_ok (C := laws_toRule.ctx k) Try.func64 (by kernel_rfl) (by kernel_rfl) mixed tdsOk EntsOk.nil (by kernel_rfl) (Nat.le_of_ble_eq_true (by kernel_rfl)) (by kernel_rfl) (laws_toRule.runs k) (laws_toRule.obls k)
/-! loop.example/g00200/laws.toRuleS -/
def laws_toRuleS.l1 (k : Nat)  : Nat → Int × (List (Int × Int × Int)) × (List (Int × Int × Int)) × Unit → Option (List (Int × Int × Int))
  | 0, _ => none
  | n + 1, (x1, x2, x3, _) => if x1 < (x2.length : Int) then (if 0 ≤ x1 then (if x1 < (x2.length : Int) then ((laws_toRule.f k ((el (.pair (.int .i64) (.pair (.int .i64) (.int .i64))) x2 x1.toNat).1, ((el (.pair (.int .i64) (.pair (.int .i64) (.int .i64))) x2 x1.toNat).2))).bind fun t2 => (if 0 ≤ x1 then (if x1 < (x3.length : Int) then (((some (x3.set x1.toNat t2))).bind fun y3 => (laws_toRuleS.l1 k n (w64 (x1 + 1), x2, y3, ()))) else none) else none)) else none) else none) else (some x3)
def laws_toRuleS.f (k : Nat) (a0 : List (Int × Int × Int)) : Option (List (Int × Int × Int)) :=
  if (a0.length : Int) = (a0.length : Int) then (if 0 ≤ (a0.length : Int) then (if ((a0.length : Int)).toNat * 24 ≤ 281474976710656 then (((some (List.replicate ((a0.length : Int)).toNat (0, (0, 0)) : List (Int × Int × Int)))).bind fun y1 => (laws_toRuleS.l1 k k (0, a0, y1, ()))) else none) else none) else none
def laws_toRuleS.Sl1 : Shape := ⟨[(0, false, [.own 0]), (3, false, [.own 1]), (4, false, [.int .i64])], [(0, .view false 96 (.pair (.int .i64) (.pair (.int .i64) (.int .i64)))), (1, .row 44 (.pair (.int .i64) (.pair (.int .i64) (.int .i64))))], 2⟩
def laws_toRuleS.sig : Sig := ⟨[.val false (.sl 96 (.pair (.int .i64) (.pair (.int .i64) (.int .i64)))) [0]], [.val false (.sl 44 (.pair (.int .i64) (.pair (.int .i64) (.int .i64)))) [none]]⟩
def laws_toRuleS.F (k : Nat) (x : Args laws_toRuleS.sig.ps) : Option (Res laws_toRuleS.sig) := laws_toRuleS.f k x.1
def laws_toRuleS.ann (k : Nat) : Ann (Res laws_toRuleS.sig) := (.seq .nil (.seq .nil (.seq (.seq .nil (.block (.loop laws_toRuleS.Sl1 (laws_toRuleS.l1 k) fun n1 => .nil))) .nil)))
def laws_toRuleS.ent : Ent := ⟨17, laws_toRuleS.sig, laws_toRuleS.F⟩
def laws_toRuleS.ctx (k : Nat) : Ctx := ⟨tds, [laws_toRule.ent], k, 23⟩
theorem laws_toRuleS.runs (k : Nat) (x : Args laws_toRuleS.sig.ps) : laws_toRuleS.F k x = runF (laws_toRuleS.ctx k) laws_toRuleS.sig Try.f17 (Try.f17.body.getD .skip) (laws_toRuleS.ann k) x := by kernel_rfl
theorem laws_toRuleS.obls (k : Nat) : obl (laws_toRuleS.ctx k) 1 (Try.f17.body.getD .skip) (laws_toRuleS.ann k) (retK tds laws_toRuleS.sig Try.f17.results.toList) := ⟨trivial, ⟨trivial, ⟨⟨trivial, ⟨⟨by kernel_rfl, fun x => by kernel_rfl⟩, fun n => ⟨fun x => by kernel_rfl, ⟨⟨trivial, ⟨trivial, trivial⟩⟩, ⟨trivial, trivial⟩⟩⟩⟩⟩, ⟨trivial, trivial⟩⟩⟩⟩
theorem laws_toRuleS.ok (k : Nat) : EntOk Try.prog k laws_toRuleS.ent := fn_ok (C := laws_toRuleS.ctx k) Try.func17 (by kernel_rfl) (by kernel_rfl) mixed tdsOk (.cons (laws_toRule.ok k) EntsOk.nil) (by kernel_rfl) (Nat.le_of_ble_eq_true (by kernel_rfl)) (by kernel_rfl) (laws_toRuleS.runs k) (laws_toRuleS.obls k)
/-! loop.example/g00200/spec.ActFor -/
def spec_ActFor.l2 (k : Nat)  : Nat → Int × Int × Int × Int × Int × (List (Int × Int × Int)) × Unit → Option (Int)
  | 0, _ => none
  | n + 1, (x1, x2, x3, x4, x5, x6, _) => if 0 ≤ x5 then (if 0 ≤ x5 then (if x5 < (x6.length : Int) then (if ((el (.pair (.int .i64) (.pair (.int .i64) (.int .i64))) x6 x5.toNat).1) = x1 then (if 0 ≤ x5 then (if x5 < (x6.length : Int) then (if (((el (.pair (.int .i64) (.pair (.int .i64) (.int .i64))) x6 x5.toNat).2).1) = x2 then (if 0 ≤ x5 then (if x5 < (x6.length : Int) then (spec_ActFor.l2 k n (x1, x2, x3, ((el (.pair (.int .i64) (.pair (.int .i64) (.int .i64))) x6 x5.toNat).2).2, w64 (x5 - 1), x6, ())) else none) else none) else (spec_ActFor.l2 k n (x1, x2, x3, x4, w64 (x5 - 1), x6, ()))) else none) else none) else (spec_ActFor.l2 k n (x1, x2, x3, x4, w64 (x5 - 1), x6, ()))) else none) else none) else (if x4 = 1 then (if 3 ≤ x3 then (some 3) else (some x4)) else (if x4 = 2 then (if 3 ≤ x3 then (some 3) else (some x4)) else (some x4)))
def spec_ActFor.j1 (k : Nat)  : Int × Int × Int × Int × (List (Int × Int × Int)) × Unit → Option (Int)
  | (z1, z2, z3, z4, z5, _) => spec_ActFor.l2 k k (z1, z2, z3, z4, w64 ((z5.length : Int) - 1), z5, ())
def spec_ActFor.f (k : Nat) (a0 : List (Int × Int × Int)) (a1 : Int) (a2 : Int) (a3 : Int) : Option (Int) :=
  if a2 = 1 then (spec_ActFor.j1 k (a1, a2, a3, 3, a0, ())) else (spec_ActFor.j1 k (a1, a2, a3, 0, a0, ()))
def spec_ActFor.Sj1 : Shape := ⟨[(0, false, [.own 0]), (1, false, [.int .i64]), (2, false, [.int .i64]), (3, false, [.int .i64]), (9, false, [.int .i64])], [(0, .view false 44 (.pair (.int .i64) (.pair (.int .i64) (.int .i64))))], 1⟩
def spec_ActFor.Sl2 : Shape := ⟨[(0, false, [.own 0]), (1, false, [.int .i64]), (2, false, [.int .i64]), (3, false, [.int .i64]), (9, false, [.int .i64]), (10, false, [.int .i64])], [(0, .view false 44 (.pair (.int .i64) (.pair (.int .i64) (.int .i64))))], 1⟩
def spec_ActFor.sig : Sig := ⟨[.val false (.sl 44 (.pair (.int .i64) (.pair (.int .i64) (.int .i64)))) [0], .val false (.int .i64) [], .val false (.int .i64) [], .val false (.int .i64) []], [.val false (.int .i64) []]⟩
def spec_ActFor.F (k : Nat) (x : Args spec_ActFor.sig.ps) : Option (Res spec_ActFor.sig) := spec_ActFor.f k x.1 x.2.1 x.2.2.1 x.2.2.2.1
def spec_ActFor.ann (k : Nat) : Ann (Res spec_ActFor.sig) := (.seq .nil (.seq .nil (.join spec_ActFor.Sj1 (spec_ActFor.j1 k) .nil (.seq (.seq .nil (.block (.loop spec_ActFor.Sl2 (spec_ActFor.l2 k) fun n1 => .nil))) .nil))))
def spec_ActFor.ent : Ent := ⟨16, spec_ActFor.sig, spec_ActFor.F⟩
def spec_ActFor.ctx (k : Nat) : Ctx := ⟨tds, [], k, 52⟩
theorem spec_ActFor.runs (k : Nat) (x : Args spec_ActFor.sig.ps) : spec_ActFor.F k x = runF (spec_ActFor.ctx k) spec_ActFor.sig Try.f16 (Try.f16.body.getD .skip) (spec_ActFor.ann k) x := by kernel_rfl
theorem spec_ActFor.obls (k : Nat) : obl (spec_ActFor.ctx k) 1 (Try.f16.body.getD .skip) (spec_ActFor.ann k) (retK tds spec_ActFor.sig Try.f16.results.toList) := ⟨trivial, ⟨trivial, ⟨⟨by kernel_rfl, fun x => by kernel_rfl⟩, ⟨trivial, ⟨trivial, trivial⟩⟩, ⟨⟨trivial, ⟨⟨by kernel_rfl, fun x => by kernel_rfl⟩, fun n => ⟨fun x => by kernel_rfl, ⟨⟨trivial, ⟨trivial, trivial⟩⟩, ⟨⟨trivial, ⟨trivial, trivial⟩⟩, trivial⟩⟩⟩⟩⟩, ⟨⟨trivial, ⟨⟨trivial, trivial⟩, trivial⟩⟩, ⟨trivial, trivial⟩⟩⟩⟩⟩⟩
theorem spec_ActFor.ok (k : Nat) : EntOk Try.prog k spec_ActFor.ent := fn_ok (C := spec_ActFor.ctx k) Try.func16 (by kernel_rfl) (by kernel_rfl) mixed tdsOk EntsOk.nil (by kernel_rfl) (Nat.le_of_ble_eq_true (by kernel_rfl)) (by kernel_rfl) (spec_ActFor.runs k) (spec_ActFor.obls k)
/-! loop.example/g00200/impl.ruleFor -/
def impl_ruleFor.l1 (k : Nat)  : Nat → Int × Int × Int × Int × (List (Int × Int × Int)) × Unit → Option (Int)
  | 0, _ => none
  | n + 1, (x1, x2, x3, x4, x5, _) => if x4 < x3 then (if 0 ≤ x4 then (if x4 < (x5.length : Int) then (if ((el (.pair (.int .i64) (.pair (.int .i64) (.int .i64))) x5 x4.toNat).1) = x1 then (if (((el (.pair (.int .i64) (.pair (.int .i64) (.int .i64))) x5 x4.toNat).2).1) = x2 then (some x4) else (impl_ruleFor.l1 k n (x1, x2, x3, w64 (x4 + 1), x5, ()))) else (impl_ruleFor.l1 k n (x1, x2, x3, w64 (x4 + 1), x5, ()))) else none) else none) else (some (-1))
def impl_ruleFor.f (k : Nat) (a0 : List (Int × Int × Int)) (a1 : Int) (a2 : Int) : Option (Int) :=
  impl_ruleFor.l1 k k (a1, a2, (a0.length : Int), 0, a0, ())
def impl_ruleFor.Sl1 : Shape := ⟨[(1, false, [.int .i64]), (2, false, [.int .i64]), (9, false, [.own 0]), (10, false, [.int .i64]), (11, false, [.int .i64])], [(0, .view false 44 (.pair (.int .i64) (.pair (.int .i64) (.int .i64))))], 1⟩
def impl_ruleFor.sig : Sig := ⟨[.val false (.sl 44 (.pair (.int .i64) (.pair (.int .i64) (.int .i64)))) [0], .val false (.int .i64) [], .val false (.int .i64) []], [.val false (.int .i64) []]⟩
def impl_ruleFor.F (k : Nat) (x : Args impl_ruleFor.sig.ps) : Option (Res impl_ruleFor.sig) := impl_ruleFor.f k x.1 x.2.1 x.2.2.1
def impl_ruleFor.ann (k : Nat) : Ann (Res impl_ruleFor.sig) := (.seq .nil (.seq (.seq .nil (.block (.loop impl_ruleFor.Sl1 (impl_ruleFor.l1 k) fun n1 => .nil))) .nil))
def impl_ruleFor.ent : Ent := ⟨65, impl_ruleFor.sig, impl_ruleFor.F⟩
def impl_ruleFor.ctx (k : Nat) : Ctx := ⟨tds, [], k, 28⟩
theorem impl_ruleFor.runs (k : Nat) (x : Args impl_ruleFor.sig.ps) : impl_ruleFor.F k x = runF (impl_ruleFor.ctx k) impl_ruleFor.sig Try.f65 (Try.f65.body.getD .skip) (impl_ruleFor.ann k) x := by kernel_rfl
theorem impl_ruleFor.obls (k : Nat) : obl (impl_ruleFor.ctx k) 1 (Try.f65.body.getD .skip) (impl_ruleFor.ann k) (retK tds impl_ruleFor.sig Try.f65.results.toList) := ⟨trivial, ⟨⟨trivial, ⟨⟨by kernel_rfl, fun x => by kernel_rfl⟩, fun n => ⟨fun x => by kernel_rfl, ⟨trivial, ⟨⟨trivial, trivial⟩, ⟨⟨trivial, ⟨trivial, ⟨⟨trivial, trivial⟩, trivial⟩⟩⟩, trivial⟩⟩⟩⟩⟩⟩, ⟨trivial, trivial⟩⟩⟩
theorem impl_ruleFor.ok (k : Nat) : EntOk Try.prog k impl_ruleFor.ent := fn_ok (C := impl_ruleFor.ctx k) Try.func65 (by kernel_rfl) (by kernel_rfl) mixed tdsOk EntsOk.nil (by kernel_rfl) (Nat.le_of_ble_eq_true (by kernel_rfl)) (by kernel_rfl) (impl_ruleFor.runs k) (impl_ruleFor.obls k)
/-! loop.example/g00200/impl.ActFor -/
def impl_ActFor.j2 (k : Nat)  : Int × Int × Unit → Option (Int)
  | (z1, z2, _) => if z2 = 1 then (if 3 ≤ z1 then (some 3) else (some z2)) else (if z2 = 2 then (if 3 ≤ z1 then (some 3) else (some z2)) else (some z2))
def impl_ActFor.j1 (k : Nat)  : Int × Int × Int × Int × (List (Int × Int × Int)) × Unit → Option (Int)
  | (z1, z2, z3, z4, z5, _) => (impl_ruleFor.f k z5 z1 z2).bind fun t1 => (if 0 ≤ t1 then (if 0 ≤ t1 then (if t1 < (z5.length : Int) then (impl_ActFor.j2 k (z3, ((el (.pair (.int .i64) (.pair (.int .i64) (.int .i64))) z5 t1.toNat).2).2, ())) else none) else none) else (impl_ActFor.j2 k (z3, z4, ())))
def impl_ActFor.f (k : Nat) (a0 : List (Int × Int × Int)) (a1 : Int) (a2 : Int) (a3 : Int) : Option (Int) :=
  if a2 = 1 then (impl_ActFor.j1 k (a1, a2, a3, 3, a0, ())) else (impl_ActFor.j1 k (a1, a2, a3, 0, a0, ()))
def impl_ActFor.Sj1 : Shape := ⟨[(0, false, [.own 0]), (1, false, [.int .i64]), (2, false, [.int .i64]), (3, false, [.int .i64]), (9, false, [.int .i64])], [(0, .view false 44 (.pair (.int .i64) (.pair (.int .i64) (.int .i64))))], 1⟩
def impl_ActFor.Sj2 : Shape := ⟨[(3, false, [.int .i64]), (9, false, [.int .i64])], [], 1⟩
def impl_ActFor.sig : Sig := ⟨[.val false (.sl 44 (.pair (.int .i64) (.pair (.int .i64) (.int .i64)))) [0], .val false (.int .i64) [], .val false (.int .i64) [], .val false (.int .i64) []], [.val false (.int .i64) []]⟩
def impl_ActFor.F (k : Nat) (x : Args impl_ActFor.sig.ps) : Option (Res impl_ActFor.sig) := impl_ActFor.f k x.1 x.2.1 x.2.2.1 x.2.2.2.1
def impl_ActFor.ann (k : Nat) : Ann (Res impl_ActFor.sig) := (.seq .nil (.seq .nil (.join impl_ActFor.Sj1 (impl_ActFor.j1 k) .nil (.seq .nil (.join impl_ActFor.Sj2 (impl_ActFor.j2 k) .nil .nil)))))
def impl_ActFor.ent : Ent := ⟨18, impl_ActFor.sig, impl_ActFor.F⟩
def impl_ActFor.ctx (k : Nat) : Ctx := ⟨tds, [impl_ruleFor.ent], k, 35⟩
theorem impl_ActFor.runs (k : Nat) (x : Args impl_ActFor.sig.ps) : impl_ActFor.F k x = runF (impl_ActFor.ctx k) impl_ActFor.sig Try.f18 (Try.f18.body.getD .skip) (impl_ActFor.ann k) x := by kernel_rfl
theorem impl_ActFor.obls (k : Nat) : obl (impl_ActFor.ctx k) 1 (Try.f18.body.getD .skip) (impl_ActFor.ann k) (retK tds impl_ActFor.sig Try.f18.results.toList) := ⟨trivial, ⟨trivial, ⟨⟨by kernel_rfl, fun x => by kernel_rfl⟩, ⟨trivial, ⟨trivial, trivial⟩⟩, ⟨trivial, ⟨⟨by kernel_rfl, fun x => by kernel_rfl⟩, ⟨trivial, ⟨trivial, trivial⟩⟩, ⟨⟨trivial, ⟨⟨trivial, trivial⟩, trivial⟩⟩, ⟨trivial, trivial⟩⟩⟩⟩⟩⟩⟩
theorem impl_ActFor.ok (k : Nat) : EntOk Try.prog k impl_ActFor.ent := fn_ok (C := impl_ActFor.ctx k) Try.func18 (by kernel_rfl) (by kernel_rfl) mixed tdsOk (.cons (impl_ruleFor.ok k) EntsOk.nil) (by kernel_rfl) (Nat.le_of_ble_eq_true (by kernel_rfl)) (by kernel_rfl) (impl_ActFor.runs k) (impl_ActFor.obls k)
/-! loop.example/g00200/laws.eqRule -/
def laws_eqRule.f (k : Nat) (a0 : Int × Int × Int) (a1 : Int × Int × Int) : Option (Bool) :=
  if ¬ a0.1 = a1.1 then (some false) else (if ¬ a0.2.1 = a1.2.1 then (some false) else (if ¬ a0.2.2 = a1.2.2 then (some false) else (some true)))
def laws_eqRule.sig : Sig := ⟨[.val true (.pair (.int .i64) (.pair (.int .i64) (.int .i64))) [], .val true (.pair (.int .i64) (.pair (.int .i64) (.int .i64))) []], [.val false .bool []]⟩
def laws_eqRule.F (k : Nat) (x : Args laws_eqRule.sig.ps) : Option (Res laws_eqRule.sig) := laws_eqRule.f k x.1 x.2.1
def laws_eqRule.ann (k : Nat) : Ann (Res laws_eqRule.sig) := .nil
def laws_eqRule.ent : Ent := ⟨66, laws_eqRule.sig, laws_eqRule.F⟩
def laws_eqRule.ctx (k : Nat) : Ctx := ⟨tds, [], k, 20⟩
theorem laws_eqRule.runs (k : Nat) (x : Args laws_eqRule.sig.ps) : laws_eqRule.F k x = runF (laws_eqRule.ctx k) laws_eqRule.sig Try.f66 (Try.f66.body.getD .skip) (laws_eqRule.ann k) x := by kernel_rfl
theorem laws_eqRule.obls (k : Nat) : obl (laws_eqRule.ctx k) 0 (Try.f66.body.getD .skip) (laws_eqRule.ann k) (retK tds laws_eqRule.sig Try.f66.results.toList) := ⟨trivial, ⟨⟨trivial, ⟨⟨trivial, trivial⟩, trivial⟩⟩, ⟨⟨trivial, ⟨⟨trivial, trivial⟩, trivial⟩⟩, ⟨⟨trivial, ⟨⟨trivial, trivial⟩, trivial⟩⟩, ⟨trivial, trivial⟩⟩⟩⟩⟩
theorem laws_eqRule.ok (k : Nat) : EntOk Try.prog k laws_eqRule.ent := fn_ok (C := laws_eqRule.ctx k) Try.func66 (by kernel_rfl) (by kernel_rfl) mixed tdsOk EntsOk.nil (by kernel_rfl) (Nat.le_of_ble_eq_true (by kernel_rfl)) (by kernel_rfl) (laws_eqRule.runs k) (laws_eqRule.obls k)
/-! loop.example/g00200/laws.eqRuleS -/
def laws_eqRuleS.l1 (k : Nat)  : Nat → Int × (List (Int × Int × Int)) × (List (Int × Int × Int)) × Unit → Option (Bool)
  | 0, _ => none
  | n + 1, (x1, x2, x3, _) => if x1 < (x2.length : Int) then (if 0 ≤ x1 then (if x1 < (x2.length : Int) then (if 0 ≤ x1 then (if x1 < (x3.length : Int) then ((laws_eqRule.f k ((el (.pair (.int .i64) (.pair (.int .i64) (.int .i64))) x2 x1.toNat).1, ((el (.pair (.int .i64) (.pair (.int .i64) (.int .i64))) x2 x1.toNat).2)) ((el (.pair (.int .i64) (.pair (.int .i64) (.int .i64))) x3 x1.toNat).1, ((el (.pair (.int .i64) (.pair (.int .i64) (.int .i64))) x3 x1.toNat).2))).bind fun t1 => (if ¬ t1 = true then (some false) else (laws_eqRuleS.l1 k n (w64 (x1 + 1), x2, x3, ())))) else none) else none) else none) else none) else (some true)
def laws_eqRuleS.f (k : Nat) (a0 : List (Int × Int × Int)) (a1 : List (Int × Int × Int)) : Option (Bool) :=
  if ¬ (a0.length : Int) = (a1.length : Int) then (some false) else (laws_eqRuleS.l1 k k (0, a0, a1, ()))
def laws_eqRuleS.Sl1 : Shape := ⟨[(0, false, [.own 0]), (1, false, [.own 1]), (5, false, [.int .i64])], [(0, .view false 44 (.pair (.int .i64) (.pair (.int .i64) (.int .i64)))), (1, .view false 44 (.pair (.int .i64) (.pair (.int .i64) (.int .i64))))], 2⟩
def laws_eqRuleS.sig : Sig := ⟨[.val false (.sl 44 (.pair (.int .i64) (.pair (.int .i64) (.int .i64)))) [0], .val false (.sl 44 (.pair (.int .i64) (.pair (.int .i64) (.int .i64)))) [0]], [.val false .bool []]⟩
def laws_eqRuleS.F (k : Nat) (x : Args laws_eqRuleS.sig.ps) : Option (Res laws_eqRuleS.sig) := laws_eqRuleS.f k x.1 x.2.1
def laws_eqRuleS.ann (k : Nat) : Ann (Res laws_eqRuleS.sig) := (.seq .nil (.seq .nil (.seq (.seq .nil (.block (.loop laws_eqRuleS.Sl1 (laws_eqRuleS.l1 k) fun n1 => .nil))) .nil)))
def laws_eqRuleS.ent : Ent := ⟨19, laws_eqRuleS.sig, laws_eqRuleS.F⟩
def laws_eqRuleS.ctx (k : Nat) : Ctx := ⟨tds, [laws_eqRule.ent], k, 27⟩
theorem laws_eqRuleS.runs (k : Nat) (x : Args laws_eqRuleS.sig.ps) : laws_eqRuleS.F k x = runF (laws_eqRuleS.ctx k) laws_eqRuleS.sig Try.f19 (Try.f19.body.getD .skip) (laws_eqRuleS.ann k) x := by kernel_rfl
theorem laws_eqRuleS.obls (k : Nat) : obl (laws_eqRuleS.ctx k) 2 (Try.f19.body.getD .skip) (laws_eqRuleS.ann k) (retK tds laws_eqRuleS.sig Try.f19.results.toList) := ⟨trivial, ⟨⟨trivial, ⟨⟨trivial, trivial⟩, trivial⟩⟩, ⟨⟨trivial, ⟨⟨by kernel_rfl, fun x => by kernel_rfl⟩, fun n => ⟨fun x => by kernel_rfl, ⟨⟨trivial, ⟨trivial, trivial⟩⟩, ⟨⟨trivial, ⟨⟨trivial, trivial⟩, trivial⟩⟩, trivial⟩⟩⟩⟩⟩, ⟨trivial, trivial⟩⟩⟩⟩
theorem laws_eqRuleS.ok (k : Nat) : EntOk Try.prog k laws_eqRuleS.ent := fn_ok (C := laws_eqRuleS.ctx k) Try.func19 (by kernel_rfl) (by kernel_rfl) mixed tdsOk (.cons (laws_eqRule.ok k) EntsOk.nil) (by kernel_rfl) (Nat.le_of_ble_eq_true (by kernel_rfl)) (by kernel_rfl) (laws_eqRuleS.runs k) (laws_eqRuleS.obls k)
/-! loop.example/g00200/spec.l01In -/
def spec_l01In.f (k : Nat) (a0 : Int) (a1 : Int) (a2 : Int) : Option (Bool) :=
  if a1 ≤ a0 then (some (decide (a0 ≤ a2))) else (some false)
def spec_l01In.sig : Sig := ⟨[.val false (.int .i64) [], .val false (.int .i64) [], .val false (.int .i64) []], [.val false .bool []]⟩
def spec_l01In.F (k : Nat) (x : Args spec_l01In.sig.ps) : Option (Res spec_l01In.sig) := spec_l01In.f k x.1 x.2.1 x.2.2.1
def spec_l01In.ann (k : Nat) : Ann (Res spec_l01In.sig) := .nil
def spec_l01In.ent : Ent := ⟨81, spec_l01In.sig, spec_l01In.F⟩
def spec_l01In.ctx (k : Nat) : Ctx := ⟨tds, [], k, 15⟩
theorem spec_l01In.runs (k : Nat) (x : Args spec_l01In.sig.ps) : spec_l01In.F k x = runF (spec_l01In.ctx k) spec_l01In.sig Try.f81 (Try.f81.body.getD .skip) (spec_l01In.ann k) x := by kernel_rfl
theorem spec_l01In.obls (k : Nat) : obl (spec_l01In.ctx k) 0 (Try.f81.body.getD .skip) (spec_l01In.ann k) (retK tds spec_l01In.sig Try.f81.results.toList) := ⟨trivial, ⟨trivial, trivial⟩⟩
theorem spec_l01In.ok (k : Nat) : EntOk Try.prog k spec_l01In.ent := fn_ok (C := spec_l01In.ctx k) Try.func81 (by kernel_rfl) (by kernel_rfl) mixed tdsOk EntsOk.nil (by kernel_rfl) (Nat.le_of_ble_eq_true (by kernel_rfl)) (by kernel_rfl) (spec_l01In.runs k) (spec_l01In.obls k)
/-! loop.example/g00200/spec.SenseOk -/
def spec_SenseOk.f (k : Nat) (a0 : Int) : Option (Bool) :=
  (spec_l01In.f k a0 0 15).bind fun t1 => (some t1)
def spec_SenseOk.sig : Sig := ⟨[.val false (.int .i64) []], [.val false .bool []]⟩
def spec_SenseOk.F (k : Nat) (x : Args spec_SenseOk.sig.ps) : Option (Res spec_SenseOk.sig) := spec_SenseOk.f k x.1
def spec_SenseOk.ann (k : Nat) : Ann (Res spec_SenseOk.sig) := .nil
def spec_SenseOk.ent : Ent := ⟨67, spec_SenseOk.sig, spec_SenseOk.F⟩
def spec_SenseOk.ctx (k : Nat) : Ctx := ⟨tds, [spec_l01In.ent], k, 5⟩
theorem spec_SenseOk.runs (k : Nat) (x : Args spec_SenseOk.sig.ps) : spec_SenseOk.F k x = runF (spec_SenseOk.ctx k) spec_SenseOk.sig Try.f67 (Try.f67.body.getD .skip) (spec_SenseOk.ann k) x := by kernel_rfl
theorem spec_SenseOk.obls (k : Nat) : obl (spec_SenseOk.ctx k) 0 (Try.f67.body.getD .skip) (spec_SenseOk.ann k) (retK tds spec_SenseOk.sig Try.f67.results.toList) := ⟨trivial, ⟨trivial, trivial⟩⟩
theorem spec_SenseOk.ok (k : Nat) : EntOk Try.prog k spec_SenseOk.ent := fn_ok (C := spec_SenseOk.ctx k) Try.func67 (by kernel_rfl) (by kernel_rfl) mixed tdsOk (.cons (spec_l01In.ok k) EntsOk.nil) (by kernel_rfl) (Nat.le_of_ble_eq_true (by kernel_rfl)) (by kernel_rfl) (spec_SenseOk.runs k) (spec_SenseOk.obls k)
/-! loop.example/g00200/spec.Has -/
def spec_Has.f (k : Nat) (a0 : Int) (a1 : Int) : Option (Bool) :=
  (spec_SenseOk.f k a0).bind fun t1 => (if ¬ t1 = true then (some false) else (if ¬ a1 = 1 then (if ¬ a1 = 2 then (if ¬ a1 = 4 then (if ¬ a1 = 8 then (some false) else (if ¬ a1 = 0 then (some (decide ((Int.tmod (w64 (Int.tdiv a0 a1)) 2) = 1))) else none)) else (if ¬ a1 = 0 then (some (decide ((Int.tmod (w64 (Int.tdiv a0 a1)) 2) = 1))) else none)) else (if ¬ a1 = 0 then (some (decide ((Int.tmod (w64 (Int.tdiv a0 a1)) 2) = 1))) else none)) else (if ¬ a1 = 0 then (some (decide ((Int.tmod (w64 (Int.tdiv a0 a1)) 2) = 1))) else none)))
def spec_Has.sig : Sig := ⟨[.val false (.int .i64) [], .val false (.int .i64) []], [.val false .bool []]⟩
def spec_Has.F (k : Nat) (x : Args spec_Has.sig.ps) : Option (Res spec_Has.sig) := spec_Has.f k x.1 x.2.1
def spec_Has.ann (k : Nat) : Ann (Res spec_Has.sig) := .nil
def spec_Has.ent : Ent := ⟨68, spec_Has.sig, spec_Has.F⟩
def spec_Has.ctx (k : Nat) : Ctx := ⟨tds, [spec_SenseOk.ent], k, 29⟩
theorem spec_Has.runs (k : Nat) (x : Args spec_Has.sig.ps) : spec_Has.F k x = runF (spec_Has.ctx k) spec_Has.sig Try.f68 (Try.f68.body.getD .skip) (spec_Has.ann k) x := by kernel_rfl
theorem spec_Has.obls (k : Nat) : obl (spec_Has.ctx k) 0 (Try.f68.body.getD .skip) (spec_Has.ann k) (retK tds spec_Has.sig Try.f68.results.toList) := ⟨trivial, ⟨⟨trivial, ⟨⟨trivial, trivial⟩, trivial⟩⟩, ⟨trivial, trivial⟩⟩⟩
theorem spec_Has.ok (k : Nat) : EntOk Try.prog k spec_Has.ent := fn_ok (C := spec_Has.ctx k) Try.func68 (by kernel_rfl) (by kernel_rfl) mixed tdsOk (.cons (spec_SenseOk.ok k) EntsOk.nil) (by kernel_rfl) (Nat.le_of_ble_eq_true (by kernel_rfl)) (by kernel_rfl) (spec_Has.runs k) (spec_Has.obls k)
/-! loop.example/g00200/spec.SenseNames -/
def spec_SenseNames.j2 (k : Nat) (c0 : Int × ByteArray × Int × List ByteArray × List Int × Unit → Option (ByteArray)) : Int × ByteArray × Int × List ByteArray × List Int × Unit → Option (ByteArray)
  | (z1, z2, z3, z4, z5, _) => if 0 ≤ z3 then (if z3 < (z4.length : Int) then (if z2.size + (el .str z4 z3.toNat).size ≤ 9223372036854775807 then (c0 (z1, z2 ++ (el .str z4 z3.toNat), w64 (z3 + 1), z4, z5, ())) else none) else none) else none
def spec_SenseNames.l1 (k : Nat)  : Nat → Int × ByteArray × Int × List ByteArray × List Int × Unit → Option (ByteArray)
  | 0, _ => none
  | n + 1, (x1, x2, x3, x4, x5, _) => if x3 < 4 then (if 0 ≤ x3 then (if x3 < (x5.length : Int) then ((spec_Has.f k x1 (el (.int .i64) x5 x3.toNat)).bind fun t4 => (if t4 = true then (if ¬ x2 = (⟨#[]⟩ : ByteArray) then (if x2.size + (⟨#[44]⟩ : ByteArray).size ≤ 9223372036854775807 then (spec_SenseNames.j2 k (spec_SenseNames.l1 k n) (x1, x2 ++ (⟨#[44]⟩ : ByteArray), x3, x4, x5, ())) else none) else (spec_SenseNames.j2 k (spec_SenseNames.l1 k n) (x1, x2, x3, x4, x5, ()))) else (spec_SenseNames.l1 k n (x1, x2, w64 (x3 + 1), x4, x5, ())))) else none) else none) else (if x2 = (⟨#[]⟩ : ByteArray) then (some (⟨#[110, 111, 110, 101]⟩ : ByteArray)) else (some x2))
def spec_SenseNames.f (k : Nat) (a0 : Int) : Option (ByteArray) :=
  ((some ([(⟨#[98, 108, 111, 99, 107]⟩ : ByteArray), (⟨#[97, 105, 114]⟩ : ByteArray), (⟨#[100, 111, 111, 114]⟩ : ByteArray), (⟨#[112, 111, 119, 101, 114]⟩ : ByteArray)] : List ByteArray))).bind fun y1 => (((some ([1, 2, 4, 8] : List Int))).bind fun y2 => ((spec_SenseOk.f k a0).bind fun t3 => (if ¬ t3 = true then (some (⟨#[]⟩ : ByteArray)) else (spec_SenseNames.l1 k k (a0, (⟨#[]⟩ : ByteArray), 0, y1, y2, ())))))
def spec_SenseNames.Sl1 : Shape := ⟨[(0, false, [.int .i64]), (3, false, [.own 0]), (4, false, [.own 1]), (5, false, [.str]), (6, false, [.int .i64])], [(0, .row 9 .str), (1, .row 3 (.int .i64))], 2⟩
def spec_SenseNames.Sj2 : Shape := ⟨[(0, false, [.int .i64]), (3, false, [.own 0]), (4, false, [.own 1]), (5, false, [.str]), (6, false, [.int .i64])], [(0, .row 9 .str), (1, .row 3 (.int .i64))], 2⟩
def spec_SenseNames.sig : Sig := ⟨[.val false (.int .i64) []], [.val false .str []]⟩
def spec_SenseNames.F (k : Nat) (x : Args spec_SenseNames.sig.ps) : Option (Res spec_SenseNames.sig) := spec_SenseNames.f k x.1
def spec_SenseNames.ann (k : Nat) : Ann (Res spec_SenseNames.sig) := (.seq .nil (.seq .nil (.seq .nil (.seq .nil (.seq .nil (.seq (.seq .nil (.block (.loop spec_SenseNames.Sl1 (spec_SenseNames.l1 k) fun n1 => (.seq .nil (.seq (.block (.seq .nil (.cond (.join spec_SenseNames.Sj2 (spec_SenseNames.j2 k (spec_SenseNames.l1 k n1)) .nil .nil) .nil))) .nil))))) .nil))))))
def spec_SenseNames.ent : Ent := ⟨20, spec_SenseNames.sig, spec_SenseNames.F⟩
def spec_SenseNames.ctx (k : Nat) : Ctx := ⟨tds, [spec_SenseOk.ent, spec_Has.ent], k, 35⟩
theorem spec_SenseNames.runs (k : Nat) (x : Args spec_SenseNames.sig.ps) : spec_SenseNames.F k x = runF (spec_SenseNames.ctx k) spec_SenseNames.sig Try.f20 (Try.f20.body.getD .skip) (spec_SenseNames.ann k) x := by kernel_rfl
theorem spec_SenseNames.obls (k : Nat) : obl (spec_SenseNames.ctx k) 0 (Try.f20.body.getD .skip) (spec_SenseNames.ann k) (retK tds spec_SenseNames.sig Try.f20.results.toList) := ⟨trivial, ⟨trivial, ⟨trivial, ⟨⟨trivial, ⟨⟨trivial, trivial⟩, trivial⟩⟩, ⟨trivial, ⟨⟨trivial, ⟨⟨by kernel_rfl, fun x => by kernel_rfl⟩, fun n => ⟨fun x => by kernel_rfl, ⟨⟨trivial, ⟨trivial, trivial⟩⟩, ⟨⟨trivial, ⟨⟨⟨by kernel_rfl, fun x => by kernel_rfl⟩, ⟨trivial, ⟨trivial, trivial⟩⟩, trivial⟩, trivial⟩⟩, trivial⟩⟩⟩⟩⟩, ⟨⟨trivial, ⟨⟨trivial, trivial⟩, trivial⟩⟩, ⟨trivial, trivial⟩⟩⟩⟩⟩⟩⟩⟩
theorem spec_SenseNames.ok (k : Nat) : EntOk Try.prog k spec_SenseNames.ent := fn_ok (C := spec_SenseNames.ctx k) Try.func20 (by kernel_rfl) (by kernel_rfl) mixed tdsOk (.cons (spec_SenseOk.ok k) (.cons (spec_Has.ok k) EntsOk.nil)) (by kernel_rfl) (Nat.le_of_ble_eq_true (by kernel_rfl)) (by kernel_rfl) (spec_SenseNames.runs k) (spec_SenseNames.obls k)
/-! loop.example/g00200/impl.within -/
def impl_within.f (k : Nat) (a0 : Int) (a1 : Int) (a2 : Int) : Option (Bool) :=
  if a1 ≤ a0 then (some (decide (a0 ≤ a2))) else (some false)
def impl_within.sig : Sig := ⟨[.val false (.int .i64) [], .val false (.int .i64) [], .val false (.int .i64) []], [.val false .bool []]⟩
def impl_within.F (k : Nat) (x : Args impl_within.sig.ps) : Option (Res impl_within.sig) := impl_within.f k x.1 x.2.1 x.2.2.1
def impl_within.ann (k : Nat) : Ann (Res impl_within.sig) := .nil
def impl_within.ent : Ent := ⟨80, impl_within.sig, impl_within.F⟩
def impl_within.ctx (k : Nat) : Ctx := ⟨tds, [], k, 15⟩
theorem impl_within.runs (k : Nat) (x : Args impl_within.sig.ps) : impl_within.F k x = runF (impl_within.ctx k) impl_within.sig Try.f80 (Try.f80.body.getD .skip) (impl_within.ann k) x := by kernel_rfl
theorem impl_within.obls (k : Nat) : obl (impl_within.ctx k) 0 (Try.f80.body.getD .skip) (impl_within.ann k) (retK tds impl_within.sig Try.f80.results.toList) := ⟨trivial, ⟨trivial, trivial⟩⟩
theorem impl_within.ok (k : Nat) : EntOk Try.prog k impl_within.ent := fn_ok (C := impl_within.ctx k) Try.func80 (by kernel_rfl) (by kernel_rfl) mixed tdsOk EntsOk.nil (by kernel_rfl) (Nat.le_of_ble_eq_true (by kernel_rfl)) (by kernel_rfl) (impl_within.runs k) (impl_within.obls k)
/-! loop.example/g00200/impl.SenseOk -/
def impl_SenseOk.f (k : Nat) (a0 : Int) : Option (Bool) :=
  (impl_within.f k a0 0 15).bind fun t1 => (some t1)
def impl_SenseOk.sig : Sig := ⟨[.val false (.int .i64) []], [.val false .bool []]⟩
def impl_SenseOk.F (k : Nat) (x : Args impl_SenseOk.sig.ps) : Option (Res impl_SenseOk.sig) := impl_SenseOk.f k x.1
def impl_SenseOk.ann (k : Nat) : Ann (Res impl_SenseOk.sig) := .nil
def impl_SenseOk.ent : Ent := ⟨63, impl_SenseOk.sig, impl_SenseOk.F⟩
def impl_SenseOk.ctx (k : Nat) : Ctx := ⟨tds, [impl_within.ent], k, 5⟩
theorem impl_SenseOk.runs (k : Nat) (x : Args impl_SenseOk.sig.ps) : impl_SenseOk.F k x = runF (impl_SenseOk.ctx k) impl_SenseOk.sig Try.f63 (Try.f63.body.getD .skip) (impl_SenseOk.ann k) x := by kernel_rfl
theorem impl_SenseOk.obls (k : Nat) : obl (impl_SenseOk.ctx k) 0 (Try.f63.body.getD .skip) (impl_SenseOk.ann k) (retK tds impl_SenseOk.sig Try.f63.results.toList) := ⟨trivial, ⟨trivial, trivial⟩⟩
theorem impl_SenseOk.ok (k : Nat) : EntOk Try.prog k impl_SenseOk.ent := fn_ok (C := impl_SenseOk.ctx k) Try.func63 (by kernel_rfl) (by kernel_rfl) mixed tdsOk (.cons (impl_within.ok k) EntsOk.nil) (by kernel_rfl) (Nat.le_of_ble_eq_true (by kernel_rfl)) (by kernel_rfl) (impl_SenseOk.runs k) (impl_SenseOk.obls k)
/-! loop.example/g00200/laws.toOrder -/
def laws_toOrder.f (k : Nat) (a0 : Int × Int × Int × Int) : Option (Int × Int × Int × Int) :=
  some a0
def laws_toOrder.sig : Sig := ⟨[.val true (.pair (.int .i64) (.pair (.int .i64) (.pair (.int .i64) (.int .i64)))) []], [.val true (.pair (.int .i64) (.pair (.int .i64) (.pair (.int .i64) (.int .i64)))) []]⟩
def laws_toOrder.F (k : Nat) (x : Args laws_toOrder.sig.ps) : Option (Res laws_toOrder.sig) := laws_toOrder.f k x.1
def laws_toOrder.ann (k : Nat) : Ann (Res laws_toOrder.sig) := .nil
def laws_toOrder.ent : Ent := ⟨23, laws_toOrder.sig, laws_toOrder.F⟩
def laws_toOrder.ctx (k : Nat) : Ctx := ⟨tds, [], k, 17⟩
theorem laws_toOrder.runs (k : Nat) (x : Args laws_toOrder.sig.ps) : laws_toOrder.F k x = runF (laws_toOrder.ctx k) laws_toOrder.sig Try.f23 (Try.f23.body.getD .skip) (laws_toOrder.ann k) x := by kernel_rfl
theorem laws_toOrder.obls (k : Nat) : obl (laws_toOrder.ctx k) 0 (Try.f23.body.getD .skip) (laws_toOrder.ann k) (retK tds laws_toOrder.sig Try.f23.results.toList) := ⟨trivial, ⟨trivial, ⟨trivial, ⟨trivial, ⟨trivial, ⟨trivial, ⟨trivial, trivial⟩⟩⟩⟩⟩⟩⟩
theorem laws_toOrder.ok (k : Nat) : EntOk Try.prog k laws_toOrder.ent := fn_ok (C := laws_toOrder.ctx k) Try.func23 (by kernel_rfl) (by kernel_rfl) mixed tdsOk EntsOk.nil (by kernel_rfl) (Nat.le_of_ble_eq_true (by kernel_rfl)) (by kernel_rfl) (laws_toOrder.runs k) (laws_toOrder.obls k)
/-! loop.example/g00200/spec.OrderOk -/
def spec_OrderOk.f (k : Nat) (a0 : Int × Int × Int × Int) : Option (Bool) :=
  if a0.1 = 1 then ((spec_l01In.f k a0.2.2.1 1 1000).bind fun t1 => (if t1 = true then ((spec_l01In.f k a0.2.1 1 1000).bind fun t2 => (if t2 = true then (if a0.2.1 ≤ (w64 (3 * a0.2.2.1)) then ((spec_l01In.f k a0.2.2.2 1 5000).bind fun t3 => (some t3)) else (some false)) else (some false))) else (some false))) else (if a0.1 = 2 then ((spec_l01In.f k a0.2.2.2 1 100).bind fun t4 => (if t4 = true then (if a0.2.1 = 0 then (some (decide (a0.2.2.1 = 0))) else (some false)) else (some false))) else ((spec_l01In.f k a0.1 3 6).bind fun t5 => (if t5 = true then (if a0.2.1 = 0 then (if a0.2.2.1 = 0 then (some (decide (a0.2.2.2 = 0))) else (some false)) else (some false)) else (some false))))
def spec_OrderOk.sig : Sig := ⟨[.val true (.pair (.int .i64) (.pair (.int .i64) (.pair (.int .i64) (.int .i64)))) []], [.val false .bool []]⟩
def spec_OrderOk.F (k : Nat) (x : Args spec_OrderOk.sig.ps) : Option (Res spec_OrderOk.sig) := spec_OrderOk.f k x.1
def spec_OrderOk.ann (k : Nat) : Ann (Res spec_OrderOk.sig) := .nil
def spec_OrderOk.ent : Ent := ⟨70, spec_OrderOk.sig, spec_OrderOk.F⟩
def spec_OrderOk.ctx (k : Nat) : Ctx := ⟨tds, [spec_l01In.ent], k, 61⟩
theorem spec_OrderOk.runs (k : Nat) (x : Args spec_OrderOk.sig.ps) : spec_OrderOk.F k x = runF (spec_OrderOk.ctx k) spec_OrderOk.sig Try.f70 (Try.f70.body.getD .skip) (spec_OrderOk.ann k) x := by kernel_rfl
theorem spec_OrderOk.obls (k : Nat) : obl (spec_OrderOk.ctx k) 0 (Try.f70.body.getD .skip) (spec_OrderOk.ann k) (retK tds spec_OrderOk.sig Try.f70.results.toList) := ⟨trivial, ⟨⟨trivial, ⟨trivial, ⟨⟨trivial, trivial⟩, ⟨trivial, ⟨⟨trivial, trivial⟩, trivial⟩⟩⟩⟩⟩, ⟨trivial, trivial⟩⟩⟩
theorem spec_OrderOk.ok (k : Nat) : EntOk Try.prog k spec_OrderOk.ent := fn_ok (C := spec_OrderOk.ctx k) Try.func70 (by kernel_rfl) (by kernel_rfl) mixed tdsOk (.cons (spec_l01In.ok k) EntsOk.nil) (by kernel_rfl) (Nat.le_of_ble_eq_true (by kernel_rfl)) (by kernel_rfl) (spec_OrderOk.runs k) (spec_OrderOk.obls k)
/-! loop.example/g00200/spec.l01Var -/
def spec_l01Var.l1 (k : Nat)  : Nat → Int × List Int × Unit → Option (ByteArray)
  | 0, _ => none
  | n + 1, (x1, x2, _) => if 127 < x1 then (((some ([IntKind.u8.wrap (w64 ((Int.tmod x1 128) + 128))] : List Int))).bind fun y2 => (if (x2.length + y2.length) * 1 ≤ 140737488355328 then (((some (x2 ++ y2))).bind fun y3 => (spec_l01Var.l1 k n (w64 (Int.tdiv x1 128), y3, ()))) else none)) else (((some ([IntKind.u8.wrap (x1)] : List Int))).bind fun y4 => (if (x2.length + y4.length) * 1 ≤ 140737488355328 then (((some (x2 ++ y4))).bind fun y5 => (some (chrs y5))) else none))
def spec_l01Var.f (k : Nat) (a0 : Int) : Option (ByteArray) :=
  ((some ([] : List Int))).bind fun y1 => (spec_l01Var.l1 k k (a0, y1, ()))
def spec_l01Var.Sl1 : Shape := ⟨[(0, false, [.int .i64]), (3, false, [.own 0])], [(0, .row 5 (.int .u8))], 1⟩
def spec_l01Var.sig : Sig := ⟨[.val false (.int .i64) []], [.val false .str []]⟩
def spec_l01Var.F (k : Nat) (x : Args spec_l01Var.sig.ps) : Option (Res spec_l01Var.sig) := spec_l01Var.f k x.1
def spec_l01Var.ann (k : Nat) : Ann (Res spec_l01Var.sig) := (.seq .nil (.seq .nil (.seq (.block (.loop spec_l01Var.Sl1 (spec_l01Var.l1 k) fun n1 => .nil)) .nil)))
def spec_l01Var.ent : Ent := ⟨72, spec_l01Var.sig, spec_l01Var.F⟩
def spec_l01Var.ctx (k : Nat) : Ctx := ⟨tds, [], k, 22⟩
theorem spec_l01Var.runs (k : Nat) (x : Args spec_l01Var.sig.ps) : spec_l01Var.F k x = runF (spec_l01Var.ctx k) spec_l01Var.sig Try.f72 (Try.f72.body.getD .skip) (spec_l01Var.ann k) x := by kernel_rfl
theorem spec_l01Var.obls (k : Nat) : obl (spec_l01Var.ctx k) 0 (Try.f72.body.getD .skip) (spec_l01Var.ann k) (retK tds spec_l01Var.sig Try.f72.results.toList) := ⟨trivial, ⟨trivial, ⟨⟨⟨by kernel_rfl, fun x => by kernel_rfl⟩, fun n => ⟨fun x => by kernel_rfl, ⟨⟨trivial, ⟨trivial, trivial⟩⟩, ⟨trivial, trivial⟩⟩⟩⟩, ⟨trivial, trivial⟩⟩⟩⟩
theorem spec_l01Var.ok (k : Nat) : EntOk Try.prog k spec_l01Var.ent := fn_ok (C := spec_l01Var.ctx k) Try.func72 (by kernel_rfl) (by kernel_rfl) mixed tdsOk EntsOk.nil (by kernel_rfl) (Nat.le_of_ble_eq_true (by kernel_rfl)) (by kernel_rfl) (spec_l01Var.runs k) (spec_l01Var.obls k)
/-! loop.example/g00200/spec.SumMore -/
def spec_SumMore.l2 (k : Nat) (c0 : Int × ByteArray × Int × Unit → Option (Int)) : Nat → Int × ByteArray × Int × Int × Unit → Option (Int)
  | 0, _ => none
  | n + 1, (x1, x2, x3, x4, _) => if x4 < 8 then (if (Int.tmod x1 2) = 1 then (spec_SumMore.l2 k c0 n (bits .xor .u32 (IntKind.u32.wrap (Int.tdiv x1 2)) 3558460437, x2, x3, w64 (x4 + 1), ())) else (spec_SumMore.l2 k c0 n (IntKind.u32.wrap (Int.tdiv x1 2), x2, x3, w64 (x4 + 1), ()))) else (c0 (x1, x2, w64 (x3 + 1), ()))
def spec_SumMore.l1 (k : Nat)  : Nat → Int × ByteArray × Int × Unit → Option (Int)
  | 0, _ => none
  | n + 1, (x1, x2, x3, _) => if x3 < (x2.size : Int) then (if 0 ≤ x3 then (if x3 < (x2.size : Int) then (spec_SumMore.l2 k (spec_SumMore.l1 k n) k (bits .xor .u32 x1 (IntKind.u32.wrap (bt x2 x3)), x2, x3, 0, ())) else none) else none) else (some x1)
def spec_SumMore.f (k : Nat) (a0 : Int) (a1 : ByteArray) : Option (Int) :=
  spec_SumMore.l1 k k (a0, a1, 0, ())
def spec_SumMore.Sl1 : Shape := ⟨[(0, false, [.int .u32]), (1, false, [.str]), (5, false, [.int .i64])], [], 0⟩
def spec_SumMore.Sl2 : Shape := ⟨[(0, false, [.int .u32]), (1, false, [.str]), (5, false, [.int .i64]), (6, false, [.int .i64])], [], 0⟩
def spec_SumMore.sig : Sig := ⟨[.val false (.int .u32) [], .val false .str []], [.val false (.int .u32) []]⟩
def spec_SumMore.F (k : Nat) (x : Args spec_SumMore.sig.ps) : Option (Res spec_SumMore.sig) := spec_SumMore.f k x.1 x.2.1
def spec_SumMore.ann (k : Nat) : Ann (Res spec_SumMore.sig) := (.seq .nil (.seq (.seq .nil (.block (.loop spec_SumMore.Sl1 (spec_SumMore.l1 k) fun n1 => (.seq .nil (.seq (.block (.seq .nil (.seq .nil (.block (.loop spec_SumMore.Sl2 (spec_SumMore.l2 k (spec_SumMore.l1 k n1)) fun n2 => .nil))))) .nil))))) .nil))
def spec_SumMore.ent : Ent := ⟨120, spec_SumMore.sig, spec_SumMore.F⟩
def spec_SumMore.ctx (k : Nat) : Ctx := ⟨tds, [], k, 33⟩
theorem spec_SumMore.runs (k : Nat) (x : Args spec_SumMore.sig.ps) : spec_SumMore.F k x = runF (spec_SumMore.ctx k) spec_SumMore.sig Try.f120 (Try.f120.body.getD .skip) (spec_SumMore.ann k) x := by kernel_rfl
theorem spec_SumMore.obls (k : Nat) : obl (spec_SumMore.ctx k) 0 (Try.f120.body.getD .skip) (spec_SumMore.ann k) (retK tds spec_SumMore.sig Try.f120.results.toList) := ⟨trivial, ⟨⟨trivial, ⟨⟨by kernel_rfl, fun x => by kernel_rfl⟩, fun n => ⟨fun x => by kernel_rfl, ⟨⟨trivial, ⟨trivial, trivial⟩⟩, ⟨⟨trivial, ⟨trivial, ⟨⟨by kernel_rfl, fun x => by kernel_rfl⟩, fun n => ⟨fun x => by kernel_rfl, ⟨⟨trivial, ⟨trivial, trivial⟩⟩, ⟨⟨trivial, ⟨trivial, ⟨trivial, ⟨trivial, trivial⟩⟩⟩⟩, trivial⟩⟩⟩⟩⟩⟩, trivial⟩⟩⟩⟩⟩, ⟨trivial, trivial⟩⟩⟩
theorem spec_SumMore.ok (k : Nat) : EntOk Try.prog k spec_SumMore.ent := fn_ok (C := spec_SumMore.ctx k) Try.func120 (by kernel_rfl) (by kernel_rfl) mixed tdsOk EntsOk.nil (by kernel_rfl) (Nat.le_of_ble_eq_true (by kernel_rfl)) (by kernel_rfl) (spec_SumMore.runs k) (spec_SumMore.obls k)
/-! loop.example/g00200/spec.SumOf -/
def spec_SumOf.f (k : Nat) (a0 : ByteArray) : Option (Int) :=
  (spec_SumMore.f k 4294967295 a0).bind fun t1 => (some t1)
def spec_SumOf.sig : Sig := ⟨[.val false .str []], [.val false (.int .u32) []]⟩
def spec_SumOf.F (k : Nat) (x : Args spec_SumOf.sig.ps) : Option (Res spec_SumOf.sig) := spec_SumOf.f k x.1
def spec_SumOf.ann (k : Nat) : Ann (Res spec_SumOf.sig) := .nil
def spec_SumOf.ent : Ent := ⟨108, spec_SumOf.sig, spec_SumOf.F⟩
def spec_SumOf.ctx (k : Nat) : Ctx := ⟨tds, [spec_SumMore.ent], k, 5⟩
theorem spec_SumOf.runs (k : Nat) (x : Args spec_SumOf.sig.ps) : spec_SumOf.F k x = runF (spec_SumOf.ctx k) spec_SumOf.sig Try.f108 (Try.f108.body.getD .skip) (spec_SumOf.ann k) x := by kernel_rfl
theorem spec_SumOf.obls (k : Nat) : obl (spec_SumOf.ctx k) 0 (Try.f108.body.getD .skip) (spec_SumOf.ann k) (retK tds spec_SumOf.sig Try.f108.results.toList) := ⟨trivial, ⟨trivial, trivial⟩⟩
theorem spec_SumOf.ok (k : Nat) : EntOk Try.prog k spec_SumOf.ent := fn_ok (C := spec_SumOf.ctx k) Try.func108 (by kernel_rfl) (by kernel_rfl) mixed tdsOk (.cons (spec_SumMore.ok k) EntsOk.nil) (by kernel_rfl) (Nat.le_of_ble_eq_true (by kernel_rfl)) (by kernel_rfl) (spec_SumOf.runs k) (spec_SumOf.obls k)
/-! loop.example/g00200/spec.l02Four -/
def spec_l02Four.f (k : Nat) (a0 : Int) : Option (ByteArray) :=
  ((some ([IntKind.u8.wrap (a0 / 16777216), IntKind.u8.wrap (a0 / 65536), IntKind.u8.wrap (a0 / 256), IntKind.u8.wrap (a0)] : List Int))).bind fun y1 => (some (chrs y1))
def spec_l02Four.sig : Sig := ⟨[.val false (.int .u32) []], [.val false .str []]⟩
def spec_l02Four.F (k : Nat) (x : Args spec_l02Four.sig.ps) : Option (Res spec_l02Four.sig) := spec_l02Four.f k x.1
def spec_l02Four.ann (k : Nat) : Ann (Res spec_l02Four.sig) := .nil
def spec_l02Four.ent : Ent := ⟨107, spec_l02Four.sig, spec_l02Four.F⟩
def spec_l02Four.ctx (k : Nat) : Ctx := ⟨tds, [], k, 16⟩
theorem spec_l02Four.runs (k : Nat) (x : Args spec_l02Four.sig.ps) : spec_l02Four.F k x = runF (spec_l02Four.ctx k) spec_l02Four.sig Try.f107 (Try.f107.body.getD .skip) (spec_l02Four.ann k) x := by kernel_rfl
theorem spec_l02Four.obls (k : Nat) : obl (spec_l02Four.ctx k) 0 (Try.f107.body.getD .skip) (spec_l02Four.ann k) (retK tds spec_l02Four.sig Try.f107.results.toList) := ⟨trivial, ⟨trivial, trivial⟩⟩
theorem spec_l02Four.ok (k : Nat) : EntOk Try.prog k spec_l02Four.ent := fn_ok (C := spec_l02Four.ctx k) Try.func107 (by kernel_rfl) (by kernel_rfl) mixed tdsOk EntsOk.nil (by kernel_rfl) (Nat.le_of_ble_eq_true (by kernel_rfl)) (by kernel_rfl) (spec_l02Four.runs k) (spec_l02Four.obls k)
/-! loop.example/g00200/spec.Sealed -/
def spec_Sealed.f (k : Nat) (a0 : ByteArray) : Option (ByteArray × Bool) :=
  if 20000 < (a0.size : Int) then (some ((⟨#[]⟩ : ByteArray), false)) else ((spec_SumOf.f k a0).bind fun t1 => ((spec_l02Four.f k t1).bind fun t2 => (if a0.size + t2.size ≤ 9223372036854775807 then (some (a0 ++ t2, true)) else none)))
def spec_Sealed.sig : Sig := ⟨[.val false .str []], [.val false .str [], .val false .bool []]⟩
def spec_Sealed.F (k : Nat) (x : Args spec_Sealed.sig.ps) : Option (Res spec_Sealed.sig) := spec_Sealed.f k x.1
def spec_Sealed.ann (k : Nat) : Ann (Res spec_Sealed.sig) := .nil
def spec_Sealed.ent : Ent := ⟨71, spec_Sealed.sig, spec_Sealed.F⟩
def spec_Sealed.ctx (k : Nat) : Ctx := ⟨tds, [spec_l02Four.ent, spec_SumOf.ent], k, 12⟩
theorem spec_Sealed.runs (k : Nat) (x : Args spec_Sealed.sig.ps) : spec_Sealed.F k x = runF (spec_Sealed.ctx k) spec_Sealed.sig Try.f71 (Try.f71.body.getD .skip) (spec_Sealed.ann k) x := by kernel_rfl
theorem spec_Sealed.obls (k : Nat) : obl (spec_Sealed.ctx k) 0 (Try.f71.body.getD .skip) (spec_Sealed.ann k) (retK tds spec_Sealed.sig Try.f71.results.toList) := ⟨trivial, ⟨⟨trivial, ⟨⟨trivial, trivial⟩, trivial⟩⟩, ⟨trivial, trivial⟩⟩⟩
theorem spec_Sealed.ok (k : Nat) : EntOk Try.prog k spec_Sealed.ent := fn_ok (C := spec_Sealed.ctx k) Try.func71 (by kernel_rfl) (by kernel_rfl) mixed tdsOk (.cons (spec_l02Four.ok k) (.cons (spec_SumOf.ok k) EntsOk.nil)) (by kernel_rfl) (Nat.le_of_ble_eq_true (by kernel_rfl)) (by kernel_rfl) (spec_Sealed.runs k) (spec_Sealed.obls k)
/-! loop.example/g00200/spec.OrderText -/
def spec_OrderText.f (k : Nat) (a0 : Int × Int × Int × Int) : Option (ByteArray × Bool) :=
  (spec_OrderOk.f k a0).bind fun t1 => (if ¬ t1 = true then (some ((⟨#[]⟩ : ByteArray), false)) else (((some ([IntKind.u8.wrap (a0.1)] : List Int))).bind fun y2 => ((spec_l01Var.f k a0.2.1).bind fun t3 => (if (chrs y2).size + t3.size ≤ 9223372036854775807 then ((spec_l01Var.f k a0.2.2.1).bind fun t4 => (if ((chrs y2) ++ t3).size + t4.size ≤ 9223372036854775807 then ((spec_l01Var.f k a0.2.2.2).bind fun t5 => (if (((chrs y2) ++ t3) ++ t4).size + t5.size ≤ 9223372036854775807 then ((spec_Sealed.f k ((((chrs y2) ++ t3) ++ t4) ++ t5)).bind fun t6 => (some (t6.1, t6.2))) else none)) else none)) else none))))
def spec_OrderText.sig : Sig := ⟨[.val true (.pair (.int .i64) (.pair (.int .i64) (.pair (.int .i64) (.int .i64)))) []], [.val false .str [], .val false .bool []]⟩
def spec_OrderText.F (k : Nat) (x : Args spec_OrderText.sig.ps) : Option (Res spec_OrderText.sig) := spec_OrderText.f k x.1
def spec_OrderText.ann (k : Nat) : Ann (Res spec_OrderText.sig) := .nil
def spec_OrderText.ent : Ent := ⟨22, spec_OrderText.sig, spec_OrderText.F⟩
def spec_OrderText.ctx (k : Nat) : Ctx := ⟨tds, [spec_OrderOk.ent, spec_Sealed.ent, spec_l01Var.ent], k, 27⟩
theorem spec_OrderText.runs (k : Nat) (x : Args spec_OrderText.sig.ps) : spec_OrderText.F k x = runF (spec_OrderText.ctx k) spec_OrderText.sig Try.f22 (Try.f22.body.getD .skip) (spec_OrderText.ann k) x := by kernel_rfl
theorem spec_OrderText.obls (k : Nat) : obl (spec_OrderText.ctx k) 0 (Try.f22.body.getD .skip) (spec_OrderText.ann k) (retK tds spec_OrderText.sig Try.f22.results.toList) := ⟨trivial, ⟨⟨trivial, ⟨⟨trivial, trivial⟩, trivial⟩⟩, ⟨trivial, trivial⟩⟩⟩
theorem spec_OrderText.ok (k : Nat) : EntOk Try.prog k spec_OrderText.ent := fn_ok (C := spec_OrderText.ctx k) Try.func22 (by kernel_rfl) (by kernel_rfl) mixed tdsOk (.cons (spec_OrderOk.ok k) (.cons (spec_Sealed.ok k) (.cons (spec_l01Var.ok k) EntsOk.nil))) (by kernel_rfl) (Nat.le_of_ble_eq_true (by kernel_rfl)) (by kernel_rfl) (spec_OrderText.runs k) (spec_OrderText.obls k)
/-! loop.example/g00200/impl.OrderOk -/
def impl_OrderOk.f (k : Nat) (a0 : Int × Int × Int × Int) : Option (Bool) :=
  if a0.1 = 1 then ((impl_within.f k a0.2.2.1 1 1000).bind fun t1 => (if t1 = true then ((impl_within.f k a0.2.1 1 (min 1000 (w64 (3 * a0.2.2.1)))).bind fun t2 => (if t2 = true then ((impl_within.f k a0.2.2.2 1 5000).bind fun t3 => (some t3)) else (some false))) else (some false))) else (if a0.1 = 2 then (if a0.1 = 2 ∧ a0.2.1 = 0 ∧ a0.2.2.1 = 0 ∧ a0.2.2.2 = a0.2.2.2 then ((impl_within.f k a0.2.2.2 1 100).bind fun t4 => (some t4)) else (some false)) else ((impl_within.f k a0.1 3 6).bind fun t5 => (if t5 = true then (some (decide (a0.1 = a0.1 ∧ a0.2.1 = 0 ∧ a0.2.2.1 = 0 ∧ a0.2.2.2 = 0))) else (some false))))
def impl_OrderOk.sig : Sig := ⟨[.val true (.pair (.int .i64) (.pair (.int .i64) (.pair (.int .i64) (.int .i64)))) []], [.val false .bool []]⟩
def impl_OrderOk.F (k : Nat) (x : Args impl_OrderOk.sig.ps) : Option (Res impl_OrderOk.sig) := impl_OrderOk.f k x.1
def impl_OrderOk.ann (k : Nat) : Ann (Res impl_OrderOk.sig) := .nil
def impl_OrderOk.ent : Ent := ⟨73, impl_OrderOk.sig, impl_OrderOk.F⟩
def impl_OrderOk.ctx (k : Nat) : Ctx := ⟨tds, [impl_within.ent], k, 46⟩
theorem impl_OrderOk.runs (k : Nat) (x : Args impl_OrderOk.sig.ps) : impl_OrderOk.F k x = runF (impl_OrderOk.ctx k) impl_OrderOk.sig Try.f73 (Try.f73.body.getD .skip) (impl_OrderOk.ann k) x := by kernel_rfl
theorem impl_OrderOk.obls (k : Nat) : obl (impl_OrderOk.ctx k) 0 (Try.f73.body.getD .skip) (impl_OrderOk.ann k) (retK tds impl_OrderOk.sig Try.f73.results.toList) := ⟨trivial, ⟨⟨trivial, ⟨trivial, ⟨⟨trivial, trivial⟩, ⟨trivial, ⟨⟨trivial, trivial⟩, trivial⟩⟩⟩⟩⟩, ⟨trivial, trivial⟩⟩⟩
theorem impl_OrderOk.ok (k : Nat) : EntOk Try.prog k impl_OrderOk.ent := fn_ok (C := impl_OrderOk.ctx k) Try.func73 (by kernel_rfl) (by kernel_rfl) mixed tdsOk (.cons (impl_within.ok k) EntsOk.nil) (by kernel_rfl) (Nat.le_of_ble_eq_true (by kernel_rfl)) (by kernel_rfl) (impl_OrderOk.runs k) (impl_OrderOk.obls k)
/-! loop.example/g00200/impl.VarText -/
def impl_VarText.l1 (k : Nat)  : Nat → Int × List Int × Unit → Option (ByteArray × Bool)
  | 0, _ => none
  | n + 1, (x1, x2, _) => if 127 < x1 then (((some ([IntKind.u8.wrap (w64 ((Int.tmod x1 128) + 128))] : List Int))).bind fun y3 => (if (x2.length + y3.length) * 1 ≤ 140737488355328 then (((some (x2 ++ y3))).bind fun y4 => (impl_VarText.l1 k n (w64 (Int.tdiv x1 128), y4, ()))) else none)) else (((some ([IntKind.u8.wrap (x1)] : List Int))).bind fun y5 => (if (x2.length + y5.length) * 1 ≤ 140737488355328 then (((some (x2 ++ y5))).bind fun y6 => (some (chrs y6, true))) else none))
def impl_VarText.f (k : Nat) (a0 : Int) : Option (ByteArray × Bool) :=
  (impl_within.f k a0 0 1000000000).bind fun t1 => (if ¬ t1 = true then (some ((⟨#[]⟩ : ByteArray), false)) else (((some ([] : List Int))).bind fun y2 => (impl_VarText.l1 k k (a0, y2, ()))))
def impl_VarText.Sl1 : Shape := ⟨[(0, false, [.int .i64]), (4, false, [.own 0])], [(0, .row 5 (.int .u8))], 1⟩
def impl_VarText.sig : Sig := ⟨[.val false (.int .i64) []], [.val false .str [], .val false .bool []]⟩
def impl_VarText.F (k : Nat) (x : Args impl_VarText.sig.ps) : Option (Res impl_VarText.sig) := impl_VarText.f k x.1
def impl_VarText.ann (k : Nat) : Ann (Res impl_VarText.sig) := (.seq .nil (.seq .nil (.seq .nil (.seq (.block (.loop impl_VarText.Sl1 (impl_VarText.l1 k) fun n1 => .nil)) .nil))))
def impl_VarText.ent : Ent := ⟨111, impl_VarText.sig, impl_VarText.F⟩
def impl_VarText.ctx (k : Nat) : Ctx := ⟨tds, [impl_within.ent], k, 26⟩
theorem impl_VarText.runs (k : Nat) (x : Args impl_VarText.sig.ps) : impl_VarText.F k x = runF (impl_VarText.ctx k) impl_VarText.sig Try.f111 (Try.f111.body.getD .skip) (impl_VarText.ann k) x := by kernel_rfl
theorem impl_VarText.obls (k : Nat) : obl (impl_VarText.ctx k) 0 (Try.f111.body.getD .skip) (impl_VarText.ann k) (retK tds impl_VarText.sig Try.f111.results.toList) := ⟨trivial, ⟨⟨trivial, ⟨⟨trivial, trivial⟩, trivial⟩⟩, ⟨trivial, ⟨⟨⟨by kernel_rfl, fun x => by kernel_rfl⟩, fun n => ⟨fun x => by kernel_rfl, ⟨⟨trivial, ⟨trivial, trivial⟩⟩, ⟨trivial, trivial⟩⟩⟩⟩, ⟨trivial, trivial⟩⟩⟩⟩⟩
theorem impl_VarText.ok (k : Nat) : EntOk Try.prog k impl_VarText.ent := fn_ok (C := impl_VarText.ctx k) Try.func111 (by kernel_rfl) (by kernel_rfl) mixed tdsOk (.cons (impl_within.ok k) EntsOk.nil) (by kernel_rfl) (Nat.le_of_ble_eq_true (by kernel_rfl)) (by kernel_rfl) (impl_VarText.runs k) (impl_VarText.obls k)
/-! loop.example/g00200/impl.numbers -/
def impl_numbers.l1 (k : Nat)  : Nat → ByteArray × Int × Int × List Int × Unit → Option (ByteArray)
  | 0, _ => none
  | n + 1, (x1, x2, x3, x4, _) => if x3 < x2 then (if 0 ≤ x3 then (if x3 < (x4.length : Int) then ((impl_VarText.f k (el (.int .i64) x4 x3.toNat)).bind fun t1 => (if x1.size + t1.1.size ≤ 9223372036854775807 then (impl_numbers.l1 k n (x1 ++ t1.1, x2, w64 (x3 + 1), x4, ())) else none)) else none) else none) else (some x1)
def impl_numbers.f (k : Nat) (a0 : List Int) : Option (ByteArray) :=
  impl_numbers.l1 k k ((⟨#[]⟩ : ByteArray), (a0.length : Int), 0, a0, ())
def impl_numbers.Sl1 : Shape := ⟨[(3, false, [.str]), (8, false, [.own 0]), (9, false, [.int .i64]), (10, false, [.int .i64])], [(0, .view false 3 (.int .i64))], 1⟩
def impl_numbers.sig : Sig := ⟨[.val false (.sl 3 (.int .i64)) [0]], [.val false .str []]⟩
def impl_numbers.F (k : Nat) (x : Args impl_numbers.sig.ps) : Option (Res impl_numbers.sig) := impl_numbers.f k x.1
def impl_numbers.ann (k : Nat) : Ann (Res impl_numbers.sig) := (.seq .nil (.seq .nil (.seq (.seq .nil (.block (.loop impl_numbers.Sl1 (impl_numbers.l1 k) fun n1 => .nil))) .nil)))
def impl_numbers.ent : Ent := ⟨75, impl_numbers.sig, impl_numbers.F⟩
def impl_numbers.ctx (k : Nat) : Ctx := ⟨tds, [impl_VarText.ent], k, 24⟩
theorem impl_numbers.runs (k : Nat) (x : Args impl_numbers.sig.ps) : impl_numbers.F k x = runF (impl_numbers.ctx k) impl_numbers.sig Try.f75 (Try.f75.body.getD .skip) (impl_numbers.ann k) x := by kernel_rfl
theorem impl_numbers.obls (k : Nat) : obl (impl_numbers.ctx k) 1 (Try.f75.body.getD .skip) (impl_numbers.ann k) (retK tds impl_numbers.sig Try.f75.results.toList) := ⟨trivial, ⟨trivial, ⟨⟨trivial, ⟨⟨by kernel_rfl, fun x => by kernel_rfl⟩, fun n => ⟨fun x => by kernel_rfl, ⟨trivial, ⟨⟨trivial, trivial⟩, ⟨⟨trivial, ⟨trivial, trivial⟩⟩, trivial⟩⟩⟩⟩⟩⟩, ⟨trivial, trivial⟩⟩⟩⟩
theorem impl_numbers.ok (k : Nat) : EntOk Try.prog k impl_numbers.ent := fn_ok (C := impl_numbers.ctx k) Try.func75 (by kernel_rfl) (by kernel_rfl) mixed tdsOk (.cons (impl_VarText.ok k) EntsOk.nil) (by kernel_rfl) (Nat.le_of_ble_eq_true (by kernel_rfl)) (by kernel_rfl) (impl_numbers.runs k) (impl_numbers.obls k)
/-! loop.example/g00200/impl.SumMore -/
def impl_SumMore.l2 (k : Nat) (c0 : Int × ByteArray × Int × Unit → Option (Int)) : Nat → Int × ByteArray × Int × Int × Unit → Option (Int)
  | 0, _ => none
  | n + 1, (x1, x2, x3, x4, _) => if x4 < 8 then (if (Int.tmod x1 2) = 1 then (impl_SumMore.l2 k c0 n (bits .xor .u32 (IntKind.u32.wrap (Int.tdiv x1 2)) 3558460437, x2, x3, w64 (x4 + 1), ())) else (impl_SumMore.l2 k c0 n (IntKind.u32.wrap (Int.tdiv x1 2), x2, x3, w64 (x4 + 1), ()))) else (c0 (x1, x2, w64 (x3 + 1), ()))
def impl_SumMore.l1 (k : Nat)  : Nat → Int × ByteArray × Int × Unit → Option (Int)
  | 0, _ => none
  | n + 1, (x1, x2, x3, _) => if x3 < (x2.size : Int) then (if 0 ≤ x3 then (if x3 < (x2.size : Int) then (impl_SumMore.l2 k (impl_SumMore.l1 k n) k (bits .xor .u32 x1 (IntKind.u32.wrap (bt x2 x3)), x2, x3, 0, ())) else none) else none) else (some x1)
def impl_SumMore.f (k : Nat) (a0 : Int) (a1 : ByteArray) : Option (Int) :=
  impl_SumMore.l1 k k (a0, a1, 0, ())
def impl_SumMore.Sl1 : Shape := ⟨[(0, false, [.int .u32]), (1, false, [.str]), (5, false, [.int .i64])], [], 0⟩
def impl_SumMore.Sl2 : Shape := ⟨[(0, false, [.int .u32]), (1, false, [.str]), (5, false, [.int .i64]), (19, false, [.int .i64])], [], 0⟩
def impl_SumMore.sig : Sig := ⟨[.val false (.int .u32) [], .val false .str []], [.val false (.int .u32) []]⟩
def impl_SumMore.F (k : Nat) (x : Args impl_SumMore.sig.ps) : Option (Res impl_SumMore.sig) := impl_SumMore.f k x.1 x.2.1
def impl_SumMore.ann (k : Nat) : Ann (Res impl_SumMore.sig) := (.seq .nil (.seq (.seq .nil (.block (.loop impl_SumMore.Sl1 (impl_SumMore.l1 k) fun n1 => (.seq .nil (.seq (.block (.seq .nil (.seq .nil (.block (.loop impl_SumMore.Sl2 (impl_SumMore.l2 k (impl_SumMore.l1 k n1)) fun n2 => .nil))))) .nil))))) .nil))
def impl_SumMore.ent : Ent := ⟨121, impl_SumMore.sig, impl_SumMore.F⟩
def impl_SumMore.ctx (k : Nat) : Ctx := ⟨tds, [], k, 31⟩
theorem impl_SumMore.runs (k : Nat) (x : Args impl_SumMore.sig.ps) : impl_SumMore.F k x = runF (impl_SumMore.ctx k) impl_SumMore.sig Try.f121 (Try.f121.body.getD .skip) (impl_SumMore.ann k) x := by kernel_rfl
theorem impl_SumMore.obls (k : Nat) : obl (impl_SumMore.ctx k) 0 (Try.f121.body.getD .skip) (impl_SumMore.ann k) (retK tds impl_SumMore.sig Try.f121.results.toList) := ⟨trivial, ⟨⟨trivial, ⟨⟨by kernel_rfl, fun x => by kernel_rfl⟩, fun n => ⟨fun x => by kernel_rfl, ⟨⟨trivial, ⟨trivial, trivial⟩⟩, ⟨⟨trivial, ⟨trivial, ⟨⟨by kernel_rfl, fun x => by kernel_rfl⟩, fun n => ⟨fun x => by kernel_rfl, ⟨trivial, ⟨⟨trivial, trivial⟩, ⟨⟨trivial, ⟨trivial, ⟨trivial, ⟨trivial, trivial⟩⟩⟩⟩, trivial⟩⟩⟩⟩⟩⟩⟩, trivial⟩⟩⟩⟩⟩, ⟨trivial, trivial⟩⟩⟩
theorem impl_SumMore.ok (k : Nat) : EntOk Try.prog k impl_SumMore.ent := fn_ok (C := impl_SumMore.ctx k) Try.func121 (by kernel_rfl) (by kernel_rfl) mixed tdsOk EntsOk.nil (by kernel_rfl) (Nat.le_of_ble_eq_true (by kernel_rfl)) (by kernel_rfl) (impl_SumMore.runs k) (impl_SumMore.obls k)
/-! loop.example/g00200/impl.SumOf -/
def impl_SumOf.f (k : Nat) (a0 : ByteArray) : Option (Int) :=
  (impl_SumMore.f k 4294967295 a0).bind fun t1 => (some t1)
def impl_SumOf.sig : Sig := ⟨[.val false .str []], [.val false (.int .u32) []]⟩
def impl_SumOf.F (k : Nat) (x : Args impl_SumOf.sig.ps) : Option (Res impl_SumOf.sig) := impl_SumOf.f k x.1
def impl_SumOf.ann (k : Nat) : Ann (Res impl_SumOf.sig) := .nil
def impl_SumOf.ent : Ent := ⟨110, impl_SumOf.sig, impl_SumOf.F⟩
def impl_SumOf.ctx (k : Nat) : Ctx := ⟨tds, [impl_SumMore.ent], k, 5⟩
theorem impl_SumOf.runs (k : Nat) (x : Args impl_SumOf.sig.ps) : impl_SumOf.F k x = runF (impl_SumOf.ctx k) impl_SumOf.sig Try.f110 (Try.f110.body.getD .skip) (impl_SumOf.ann k) x := by kernel_rfl
theorem impl_SumOf.obls (k : Nat) : obl (impl_SumOf.ctx k) 0 (Try.f110.body.getD .skip) (impl_SumOf.ann k) (retK tds impl_SumOf.sig Try.f110.results.toList) := ⟨trivial, ⟨trivial, trivial⟩⟩
theorem impl_SumOf.ok (k : Nat) : EntOk Try.prog k impl_SumOf.ent := fn_ok (C := impl_SumOf.ctx k) Try.func110 (by kernel_rfl) (by kernel_rfl) mixed tdsOk (.cons (impl_SumMore.ok k) EntsOk.nil) (by kernel_rfl) (Nat.le_of_ble_eq_true (by kernel_rfl)) (by kernel_rfl) (impl_SumOf.runs k) (impl_SumOf.obls k)
/-! loop.example/g00200/impl.highFirst -/
def impl_highFirst.l1 (k : Nat)  : Nat → Int × Int × List Int × Unit → Option (ByteArray)
  | 0, _ => none
  | n + 1, (x1, x2, x3, _) => if 0 ≤ x2 then (if 0 ≤ x2 then (if x2 < (x3.length : Int) then (((some (x3.set x2.toNat (IntKind.u8.wrap (bits .and .i64 x1 255))))).bind fun y2 => (impl_highFirst.l1 k n (x1 / 256, w64 (x2 - 1), y2, ()))) else none) else none) else (some (chrs x3))
def impl_highFirst.f (k : Nat) (a0 : Int) (a1 : Int) : Option (ByteArray) :=
  if a1 = a1 then (if 0 ≤ a1 then (if a1.toNat * 1 ≤ 281474976710656 then (((some (List.replicate a1.toNat 0 : List Int))).bind fun y1 => (impl_highFirst.l1 k k (a0, w64 (a1 - 1), y1, ()))) else none) else none) else none
def impl_highFirst.Sl1 : Shape := ⟨[(0, false, [.int .i64]), (5, false, [.own 0]), (6, false, [.int .i64])], [(0, .row 5 (.int .u8))], 1⟩
def impl_highFirst.sig : Sig := ⟨[.val false (.int .i64) [], .val false (.int .i64) []], [.val false .str []]⟩
def impl_highFirst.F (k : Nat) (x : Args impl_highFirst.sig.ps) : Option (Res impl_highFirst.sig) := impl_highFirst.f k x.1 x.2.1
def impl_highFirst.ann (k : Nat) : Ann (Res impl_highFirst.sig) := (.seq .nil (.seq .nil (.seq (.seq .nil (.block (.loop impl_highFirst.Sl1 (impl_highFirst.l1 k) fun n1 => .nil))) .nil)))
def impl_highFirst.ent : Ent := ⟨109, impl_highFirst.sig, impl_highFirst.F⟩
def impl_highFirst.ctx (k : Nat) : Ctx := ⟨tds, [], k, 25⟩
theorem impl_highFirst.runs (k : Nat) (x : Args impl_highFirst.sig.ps) : impl_highFirst.F k x = runF (impl_highFirst.ctx k) impl_highFirst.sig Try.f109 (Try.f109.body.getD .skip) (impl_highFirst.ann k) x := by kernel_rfl
theorem impl_highFirst.obls (k : Nat) : obl (impl_highFirst.ctx k) 0 (Try.f109.body.getD .skip) (impl_highFirst.ann k) (retK tds impl_highFirst.sig Try.f109.results.toList) := ⟨trivial, ⟨trivial, ⟨⟨trivial, ⟨⟨by kernel_rfl, fun x => by kernel_rfl⟩, fun n => ⟨fun x => by kernel_rfl, ⟨⟨trivial, ⟨trivial, trivial⟩⟩, ⟨⟨trivial, trivial⟩, trivial⟩⟩⟩⟩⟩, ⟨trivial, trivial⟩⟩⟩⟩
theorem impl_highFirst.ok (k : Nat) : EntOk Try.prog k impl_highFirst.ent := fn_ok (C := impl_highFirst.ctx k) Try.func109 (by kernel_rfl) (by kernel_rfl) mixed tdsOk EntsOk.nil (by kernel_rfl) (Nat.le_of_ble_eq_true (by kernel_rfl)) (by kernel_rfl) (impl_highFirst.runs k) (impl_highFirst.obls k)
/-! loop.example/g00200/impl.Sealed -/
def impl_Sealed.f (k : Nat) (a0 : ByteArray) : Option (ByteArray × Bool) :=
  if 20000 < (a0.size : Int) then (some ((⟨#[]⟩ : ByteArray), false)) else ((impl_SumOf.f k a0).bind fun t1 => ((impl_highFirst.f k (w64 (t1)) 4).bind fun t2 => (if a0.size + t2.size ≤ 9223372036854775807 then (some (a0 ++ t2, true)) else none)))
def impl_Sealed.sig : Sig := ⟨[.val false .str []], [.val false .str [], .val false .bool []]⟩
def impl_Sealed.F (k : Nat) (x : Args impl_Sealed.sig.ps) : Option (Res impl_Sealed.sig) := impl_Sealed.f k x.1
def impl_Sealed.ann (k : Nat) : Ann (Res impl_Sealed.sig) := .nil
def impl_Sealed.ent : Ent := ⟨74, impl_Sealed.sig, impl_Sealed.F⟩
def impl_Sealed.ctx (k : Nat) : Ctx := ⟨tds, [impl_highFirst.ent, impl_SumOf.ent], k, 13⟩
theorem impl_Sealed.runs (k : Nat) (x : Args impl_Sealed.sig.ps) : impl_Sealed.F k x = runF (impl_Sealed.ctx k) impl_Sealed.sig Try.f74 (Try.f74.body.getD .skip) (impl_Sealed.ann k) x := by kernel_rfl
theorem impl_Sealed.obls (k : Nat) : obl (impl_Sealed.ctx k) 0 (Try.f74.body.getD .skip) (impl_Sealed.ann k) (retK tds impl_Sealed.sig Try.f74.results.toList) := ⟨trivial, ⟨⟨trivial, ⟨⟨trivial, trivial⟩, trivial⟩⟩, ⟨trivial, trivial⟩⟩⟩
theorem impl_Sealed.ok (k : Nat) : EntOk Try.prog k impl_Sealed.ent := fn_ok (C := impl_Sealed.ctx k) Try.func74 (by kernel_rfl) (by kernel_rfl) mixed tdsOk (.cons (impl_highFirst.ok k) (.cons (impl_SumOf.ok k) EntsOk.nil)) (by kernel_rfl) (Nat.le_of_ble_eq_true (by kernel_rfl)) (by kernel_rfl) (impl_Sealed.runs k) (impl_Sealed.obls k)
/-! loop.example/g00200/impl.OrderText -/
def impl_OrderText.f (k : Nat) (a0 : Int × Int × Int × Int) : Option (ByteArray × Bool) :=
  (impl_OrderOk.f k a0).bind fun t1 => (if ¬ t1 = true then (some ((⟨#[]⟩ : ByteArray), false)) else (((some ([IntKind.u8.wrap (a0.1)] : List Int))).bind fun y2 => (((some ([a0.2.1, a0.2.2.1, a0.2.2.2] : List Int))).bind fun y3 => ((impl_numbers.f k y3).bind fun t4 => (if (chrs y2).size + t4.size ≤ 9223372036854775807 then ((impl_Sealed.f k ((chrs y2) ++ t4)).bind fun t5 => (some (t5.1, t5.2))) else none)))))
def impl_OrderText.sig : Sig := ⟨[.val true (.pair (.int .i64) (.pair (.int .i64) (.pair (.int .i64) (.int .i64)))) []], [.val false .str [], .val false .bool []]⟩
def impl_OrderText.F (k : Nat) (x : Args impl_OrderText.sig.ps) : Option (Res impl_OrderText.sig) := impl_OrderText.f k x.1
def impl_OrderText.ann (k : Nat) : Ann (Res impl_OrderText.sig) := .nil
def impl_OrderText.ent : Ent := ⟨24, impl_OrderText.sig, impl_OrderText.F⟩
def impl_OrderText.ctx (k : Nat) : Ctx := ⟨tds, [impl_OrderOk.ent, impl_Sealed.ent, impl_numbers.ent], k, 24⟩
theorem impl_OrderText.runs (k : Nat) (x : Args impl_OrderText.sig.ps) : impl_OrderText.F k x = runF (impl_OrderText.ctx k) impl_OrderText.sig Try.f24 (Try.f24.body.getD .skip) (impl_OrderText.ann k) x := by kernel_rfl
theorem impl_OrderText.obls (k : Nat) : obl (impl_OrderText.ctx k) 0 (Try.f24.body.getD .skip) (impl_OrderText.ann k) (retK tds impl_OrderText.sig Try.f24.results.toList) := ⟨trivial, ⟨⟨trivial, ⟨⟨trivial, trivial⟩, trivial⟩⟩, ⟨trivial, trivial⟩⟩⟩
theorem impl_OrderText.ok (k : Nat) : EntOk Try.prog k impl_OrderText.ent := fn_ok (C := impl_OrderText.ctx k) Try.func24 (by kernel_rfl) (by kernel_rfl) mixed tdsOk (.cons (impl_OrderOk.ok k) (.cons (impl_Sealed.ok k) (.cons (impl_numbers.ok k) EntsOk.nil))) (by kernel_rfl) (Nat.le_of_ble_eq_true (by kernel_rfl)) (by kernel_rfl) (impl_OrderText.runs k) (impl_OrderText.obls k)
/-! loop.example/g00200/laws.big -/
def laws_big.f (k : Nat) (a0 : List Int) : Option (Bool) :=
  some (decide (1048576 < (a0.length : Int)))
def laws_big.sig : Sig := ⟨[.val false (.sl 5 (.int .u8)) [0]], [.val false .bool []]⟩
def laws_big.F (k : Nat) (x : Args laws_big.sig.ps) : Option (Res laws_big.sig) := laws_big.f k x.1
def laws_big.ann (k : Nat) : Ann (Res laws_big.sig) := .nil
def laws_big.ent : Ent := ⟨25, laws_big.sig, laws_big.F⟩
def laws_big.ctx (k : Nat) : Ctx := ⟨tds, [], k, 6⟩
theorem laws_big.runs (k : Nat) (x : Args laws_big.sig.ps) : laws_big.F k x = runF (laws_big.ctx k) laws_big.sig Try.f25 (Try.f25.body.getD .skip) (laws_big.ann k) x := by kernel_rfl
theorem laws_big.obls (k : Nat) : obl (laws_big.ctx k) 1 (Try.f25.body.getD .skip) (laws_big.ann k) (retK tds laws_big.sig Try.f25.results.toList) := ⟨trivial, ⟨trivial, trivial⟩⟩
theorem laws_big.ok (k : Nat) : EntOk Try.prog k laws_big.ent := fn_ok (C := laws_big.ctx k) Try.func25 (by kernel_rfl) (by kernel_rfl) mixed tdsOk EntsOk.nil (by kernel_rfl) (Nat.le_of_ble_eq_true (by kernel_rfl)) (by kernel_rfl) (laws_big.runs k) (laws_big.obls k)
/-! loop.example/g00200/spec.l01New -/
def spec_l01New.l1 (k : Nat)  : Nat → Int × Int × List Int × Unit → Option (List Int × Int × Int)
  | 0, _ => none
  | n + 1, (x1, x2, x3, _) => if x2 < (x3.length : Int) then (if x2 < 4000 then (if 0 ≤ x2 then (if x2 < (x3.length : Int) then (spec_l01New.l1 k n (bits .and .i64 (w64 ((w64 ((w64 (x1 * 131)) + (w64 (el (.int .u8) x3 x2.toNat)))) + 7)) 1073741823, w64 (x2 + 1), x3, ())) else none) else none) else (some (x3, (0, x1)))) else (some (x3, (0, x1)))
def spec_l01New.f (k : Nat) (a0 : List Int) : Option (List Int × Int × Int) :=
  spec_l01New.l1 k k (w64 (37101 + (a0.length : Int)), 0, a0, ())
def spec_l01New.Sl1 : Shape := ⟨[(0, false, [.own 0]), (3, false, [.int .i64]), (4, false, [.int .i64])], [(0, .view false 5 (.int .u8))], 1⟩
def spec_l01New.sig : Sig := ⟨[.val false (.sl 5 (.int .u8)) [0]], [.ptr 147 (.pair (.sl 5 (.int .u8)) (.pair (.int .i64) (.int .i64))) [some 0]]⟩
def spec_l01New.F (k : Nat) (x : Args spec_l01New.sig.ps) : Option (Res spec_l01New.sig) := spec_l01New.f k x.1
def spec_l01New.ann (k : Nat) : Ann (Res spec_l01New.sig) := (.seq .nil (.seq .nil (.seq (.seq .nil (.block (.loop spec_l01New.Sl1 (spec_l01New.l1 k) fun n1 => .nil))) .nil)))
def spec_l01New.ent : Ent := ⟨76, spec_l01New.sig, spec_l01New.F⟩
def spec_l01New.ctx (k : Nat) : Ctx := ⟨tds, [], k, 32⟩
theorem spec_l01New.runs (k : Nat) (x : Args spec_l01New.sig.ps) : spec_l01New.F k x = runF (spec_l01New.ctx k) spec_l01New.sig Try.f76 (Try.f76.body.getD .skip) (spec_l01New.ann k) x := by kernel_rfl
theorem spec_l01New.obls (k : Nat) : obl (spec_l01New.ctx k) 1 (Try.f76.body.getD .skip) (spec_l01New.ann k) (retK tds spec_l01New.sig Try.f76.results.toList) := ⟨trivial, ⟨trivial, ⟨⟨trivial, ⟨⟨by kernel_rfl, fun x => by kernel_rfl⟩, fun n => ⟨fun x => by kernel_rfl, ⟨⟨trivial, ⟨trivial, trivial⟩⟩, ⟨trivial, trivial⟩⟩⟩⟩⟩, ⟨trivial, trivial⟩⟩⟩⟩
theorem spec_l01New.ok (k : Nat) : EntOk Try.prog k spec_l01New.ent := fn_ok (C := spec_l01New.ctx k) Try.func76 (by kernel_rfl) (by kernel_rfl) mixed tdsOk EntsOk.nil (by kernel_rfl) (Nat.le_of_ble_eq_true (by kernel_rfl)) (by kernel_rfl) (spec_l01New.runs k) (spec_l01New.obls k)
/-! loop.example/g00200/spec.l01Byte -/
def spec_l01Byte.f (k : Nat) (a0 : List Int × Int × Int) : Option (Int × List Int × Int × Int) :=
  if a0.2.1 < (a0.1.length : Int) then (if 0 ≤ a0.2.1 then (if a0.2.1 < (a0.1.length : Int) then (some (bits .and .i64 (w64 ((bits .and .i64 (bits .xor .i64 ((w64 ((w64 (a0.2.2 * 6364136223846793005)) + 1442695040888963407)) / 8589934592) ((w64 ((w64 (a0.2.2 * 6364136223846793005)) + 1442695040888963407)) / 35184372088832)) 255) + (w64 (el (.int .u8) a0.1 a0.2.1.toNat)))) 255, (a0.1, (w64 (a0.2.1 + 1), w64 ((w64 (a0.2.2 * 6364136223846793005)) + 1442695040888963407))))) else none) else none) else (some (bits .and .i64 (bits .xor .i64 ((w64 ((w64 (a0.2.2 * 6364136223846793005)) + 1442695040888963407)) / 8589934592) ((w64 ((w64 (a0.2.2 * 6364136223846793005)) + 1442695040888963407)) / 35184372088832)) 255, (a0.1, (a0.2.1, w64 ((w64 (a0.2.2 * 6364136223846793005)) + 1442695040888963407)))))
def spec_l01Byte.sig : Sig := ⟨[.ptr 147 (.pair (.sl 5 (.int .u8)) (.pair (.int .i64) (.int .i64))) [0]], [.val false (.int .i64) []]⟩
def spec_l01Byte.F (k : Nat) (x : Args spec_l01Byte.sig.ps) : Option (Res spec_l01Byte.sig) := spec_l01Byte.f k x.1
def spec_l01Byte.ann (k : Nat) : Ann (Res spec_l01Byte.sig) := .nil
def spec_l01Byte.ent : Ent := ⟨101, spec_l01Byte.sig, spec_l01Byte.F⟩
def spec_l01Byte.ctx (k : Nat) : Ctx := ⟨tds, [], k, 58⟩
theorem spec_l01Byte.runs (k : Nat) (x : Args spec_l01Byte.sig.ps) : spec_l01Byte.F k x = runF (spec_l01Byte.ctx k) spec_l01Byte.sig Try.f101 (Try.f101.body.getD .skip) (spec_l01Byte.ann k) x := by kernel_rfl
theorem spec_l01Byte.obls (k : Nat) : obl (spec_l01Byte.ctx k) 2 (Try.f101.body.getD .skip) (spec_l01Byte.ann k) (retK tds spec_l01Byte.sig Try.f101.results.toList) := ⟨trivial, ⟨trivial, ⟨trivial, ⟨⟨trivial, ⟨⟨trivial, trivial⟩, trivial⟩⟩, ⟨trivial, trivial⟩⟩⟩⟩⟩
theorem spec_l01Byte.ok (k : Nat) : EntOk Try.prog k spec_l01Byte.ent := fn_ok (C := spec_l01Byte.ctx k) Try.func101 (by kernel_rfl) (by kernel_rfl) mixed tdsOk EntsOk.nil (by kernel_rfl) (Nat.le_of_ble_eq_true (by kernel_rfl)) (by kernel_rfl) (spec_l01Byte.runs k) (spec_l01Byte.obls k)
/-! loop.example/g00200/spec.l01Below -/
def spec_l01Below.f (k : Nat) (a0 : List Int × Int × Int) (a1 : Int) : Option (Int × List Int × Int × Int) :=
  if a1 ≤ 0 then (some (0, a0)) else (if a1 ≤ 256 then ((spec_l01Byte.f k a0).bind fun t1 => (if ¬ a1 = 0 then (some (Int.tmod t1.1 a1, (a0.1, t1.2.2))) else none)) else ((spec_l01Byte.f k a0).bind fun t2 => ((spec_l01Byte.f k (a0.1, t2.2.2)).bind fun t3 => ((spec_l01Byte.f k (a0.1, t3.2.2)).bind fun t4 => ((spec_l01Byte.f k (a0.1, t4.2.2)).bind fun t5 => (if ¬ a1 = 0 then (some (Int.tmod (w64 ((w64 ((w64 ((w64 (t2.1 * 16777216)) + (w64 (t3.1 * 65536)))) + (w64 (t4.1 * 256)))) + t5.1)) a1, (a0.1, t5.2.2))) else none))))))
def spec_l01Below.sig : Sig := ⟨[.ptr 147 (.pair (.sl 5 (.int .u8)) (.pair (.int .i64) (.int .i64))) [0], .val false (.int .i64) []], [.val false (.int .i64) []]⟩
def spec_l01Below.F (k : Nat) (x : Args spec_l01Below.sig.ps) : Option (Res spec_l01Below.sig) := spec_l01Below.f k x.1 x.2.1
def spec_l01Below.ann (k : Nat) : Ann (Res spec_l01Below.sig) := .nil
def spec_l01Below.ent : Ent := ⟨78, spec_l01Below.sig, spec_l01Below.F⟩
def spec_l01Below.ctx (k : Nat) : Ctx := ⟨tds, [spec_l01Byte.ent], k, 37⟩
theorem spec_l01Below.runs (k : Nat) (x : Args spec_l01Below.sig.ps) : spec_l01Below.F k x = runF (spec_l01Below.ctx k) spec_l01Below.sig Try.f78 (Try.f78.body.getD .skip) (spec_l01Below.ann k) x := by kernel_rfl
theorem spec_l01Below.obls (k : Nat) : obl (spec_l01Below.ctx k) 2 (Try.f78.body.getD .skip) (spec_l01Below.ann k) (retK tds spec_l01Below.sig Try.f78.results.toList) := ⟨trivial, ⟨⟨trivial, ⟨⟨trivial, trivial⟩, trivial⟩⟩, ⟨⟨trivial, ⟨⟨trivial, trivial⟩, trivial⟩⟩, ⟨trivial, ⟨trivial, ⟨trivial, ⟨trivial, ⟨trivial, trivial⟩⟩⟩⟩⟩⟩⟩⟩
theorem spec_l01Below.ok (k : Nat) : EntOk Try.prog k spec_l01Below.ent := fn_ok (C := spec_l01Below.ctx k) Try.func78 (by kernel_rfl) (by kernel_rfl) mixed tdsOk (.cons (spec_l01Byte.ok k) EntsOk.nil) (by kernel_rfl) (Nat.le_of_ble_eq_true (by kernel_rfl)) (by kernel_rfl) (spec_l01Below.runs k) (spec_l01Below.obls k)
/-! loop.example/g00200/spec.l01Once -/
def spec_l01Once.f (k : Nat) (a0 : List Int × Int × Int) (a1 : Int) : Option (Bool × List Int × Int × Int) :=
  (spec_l01Below.f k a0 a1).bind fun t1 => (some (decide (t1.1 = 0), (a0.1, t1.2.2)))
def spec_l01Once.sig : Sig := ⟨[.ptr 147 (.pair (.sl 5 (.int .u8)) (.pair (.int .i64) (.int .i64))) [0], .val false (.int .i64) []], [.val false .bool []]⟩
def spec_l01Once.F (k : Nat) (x : Args spec_l01Once.sig.ps) : Option (Res spec_l01Once.sig) := spec_l01Once.f k x.1 x.2.1
def spec_l01Once.ann (k : Nat) : Ann (Res spec_l01Once.sig) := .nil
def spec_l01Once.ent : Ent := ⟨102, spec_l01Once.sig, spec_l01Once.F⟩
def spec_l01Once.ctx (k : Nat) : Ctx := ⟨tds, [spec_l01Below.ent], k, 9⟩
theorem spec_l01Once.runs (k : Nat) (x : Args spec_l01Once.sig.ps) : spec_l01Once.F k x = runF (spec_l01Once.ctx k) spec_l01Once.sig Try.f102 (Try.f102.body.getD .skip) (spec_l01Once.ann k) x := by kernel_rfl
theorem spec_l01Once.obls (k : Nat) : obl (spec_l01Once.ctx k) 2 (Try.f102.body.getD .skip) (spec_l01Once.ann k) (retK tds spec_l01Once.sig Try.f102.results.toList) := ⟨trivial, ⟨trivial, trivial⟩⟩
theorem spec_l01Once.ok (k : Nat) : EntOk Try.prog k spec_l01Once.ent := fn_ok (C := spec_l01Once.ctx k) Try.func102 (by kernel_rfl) (by kernel_rfl) mixed tdsOk (.cons (spec_l01Below.ok k) EntsOk.nil) (by kernel_rfl) (Nat.le_of_ble_eq_true (by kernel_rfl)) (by kernel_rfl) (spec_l01Once.runs k) (spec_l01Once.obls k)
/-! loop.example/g00200/spec.RulesOk -/
def spec_RulesOk.l2 (k : Nat) (c0 : Int × (List (Int × Int × Int)) × Unit → Option (Bool)) : Nat → Int × Int × Int × Int × Int × (List (Int × Int × Int)) × Unit → Option (Bool)
  | 0, _ => none
  | n + 1, (x1, x2, x3, x4, x5, x6, _) => if x2 < x1 then (if 0 ≤ x2 then (if x2 < (x6.length : Int) then (if ((el (.pair (.int .i64) (.pair (.int .i64) (.int .i64))) x6 x2.toNat).1) = x3 then (if 0 ≤ x2 then (if x2 < (x6.length : Int) then (if (((el (.pair (.int .i64) (.pair (.int .i64) (.int .i64))) x6 x2.toNat).2).1) = x4 then (some false) else (spec_RulesOk.l2 k c0 n (x1, w64 (x2 + 1), x3, x4, x5, x6, ()))) else none) else none) else (spec_RulesOk.l2 k c0 n (x1, w64 (x2 + 1), x3, x4, x5, x6, ()))) else none) else none) else (c0 (w64 (x1 + 1), x6, ()))
def spec_RulesOk.l1 (k : Nat)  : Nat → Int × (List (Int × Int × Int)) × Unit → Option (Bool)
  | 0, _ => none
  | n + 1, (x1, x2, _) => if x1 < (x2.length : Int) then (if 0 ≤ x1 then (if x1 < (x2.length : Int) then ((spec_l01In.f k ((el (.pair (.int .i64) (.pair (.int .i64) (.int .i64))) x2 x1.toNat).1) 1 4).bind fun t1 => (if ¬ t1 = true then (some false) else ((spec_l01In.f k (((el (.pair (.int .i64) (.pair (.int .i64) (.int .i64))) x2 x1.toNat).2).1) 1 2).bind fun t2 => (if ¬ t2 = true then (some false) else ((spec_l01In.f k (((el (.pair (.int .i64) (.pair (.int .i64) (.int .i64))) x2 x1.toNat).2).2) 0 4).bind fun t3 => (if ¬ t3 = true then (some false) else (if (((el (.pair (.int .i64) (.pair (.int .i64) (.int .i64))) x2 x1.toNat).2).1) = 1 then (if (((el (.pair (.int .i64) (.pair (.int .i64) (.int .i64))) x2 x1.toNat).2).2) = 0 then (some false) else (spec_RulesOk.l2 k (spec_RulesOk.l1 k n) k (x1, 0, (el (.pair (.int .i64) (.pair (.int .i64) (.int .i64))) x2 x1.toNat).1, ((el (.pair (.int .i64) (.pair (.int .i64) (.int .i64))) x2 x1.toNat).2).1, ((el (.pair (.int .i64) (.pair (.int .i64) (.int .i64))) x2 x1.toNat).2).2, x2, ()))) else (spec_RulesOk.l2 k (spec_RulesOk.l1 k n) k (x1, 0, (el (.pair (.int .i64) (.pair (.int .i64) (.int .i64))) x2 x1.toNat).1, ((el (.pair (.int .i64) (.pair (.int .i64) (.int .i64))) x2 x1.toNat).2).1, ((el (.pair (.int .i64) (.pair (.int .i64) (.int .i64))) x2 x1.toNat).2).2, x2, ()))))))))) else none) else none) else (some (decide ((x2.length : Int) ≤ 8)))
def spec_RulesOk.f (k : Nat) (a0 : List (Int × Int × Int)) : Option (Bool) :=
  spec_RulesOk.l1 k k (0, a0, ())
def spec_RulesOk.Sl1 : Shape := ⟨[(0, false, [.own 0]), (3, false, [.int .i64])], [(0, .view false 44 (.pair (.int .i64) (.pair (.int .i64) (.int .i64))))], 1⟩
def spec_RulesOk.Sl2 : Shape := ⟨[(0, false, [.own 0]), (3, false, [.int .i64]), (4, false, [.ptr 1 0]), (5, false, [.int .i64])], [(1, .blk 44 [.int .i64, .int .i64, .int .i64]), (0, .view false 44 (.pair (.int .i64) (.pair (.int .i64) (.int .i64))))], 2⟩
def spec_RulesOk.sig : Sig := ⟨[.val false (.sl 44 (.pair (.int .i64) (.pair (.int .i64) (.int .i64)))) [0]], [.val false .bool []]⟩
def spec_RulesOk.F (k : Nat) (x : Args spec_RulesOk.sig.ps) : Option (Res spec_RulesOk.sig) := spec_RulesOk.f k x.1
def spec_RulesOk.ann (k : Nat) : Ann (Res spec_RulesOk.sig) := (.seq .nil (.seq (.seq .nil (.block (.loop spec_RulesOk.Sl1 (spec_RulesOk.l1 k) fun n1 => (.seq .nil (.seq (.block (.seq .nil (.seq .nil (.seq .nil (.block (.loop spec_RulesOk.Sl2 (spec_RulesOk.l2 k (spec_RulesOk.l1 k n1)) fun n2 => .nil)))))) .nil))))) .nil))
def spec_RulesOk.ent : Ent := ⟨28, spec_RulesOk.sig, spec_RulesOk.F⟩
def spec_RulesOk.ctx (k : Nat) : Ctx := ⟨tds, [spec_l01In.ent], k, 68⟩
theorem spec_RulesOk.runs (k : Nat) (x : Args spec_RulesOk.sig.ps) : spec_RulesOk.F k x = runF (spec_RulesOk.ctx k) spec_RulesOk.sig Try.f28 (Try.f28.body.getD .skip) (spec_RulesOk.ann k) x := by kernel_rfl
theorem spec_RulesOk.obls (k : Nat) : obl (spec_RulesOk.ctx k) 1 (Try.f28.body.getD .skip) (spec_RulesOk.ann k) (retK tds spec_RulesOk.sig Try.f28.results.toList) := ⟨trivial, ⟨⟨trivial, ⟨⟨by kernel_rfl, fun x => by kernel_rfl⟩, fun n => ⟨fun x => by kernel_rfl, ⟨⟨trivial, ⟨trivial, trivial⟩⟩, ⟨⟨trivial, ⟨⟨trivial, ⟨⟨trivial, trivial⟩, trivial⟩⟩, ⟨trivial, ⟨⟨by kernel_rfl, fun x => by kernel_rfl⟩, fun n => ⟨fun x => by kernel_rfl, ⟨⟨trivial, ⟨trivial, trivial⟩⟩, ⟨⟨trivial, ⟨⟨trivial, trivial⟩, trivial⟩⟩, trivial⟩⟩⟩⟩⟩⟩⟩, trivial⟩⟩⟩⟩⟩, ⟨trivial, trivial⟩⟩⟩
theorem spec_RulesOk.ok (k : Nat) : EntOk Try.prog k spec_RulesOk.ent := fn_ok (C := spec_RulesOk.ctx k) Try.func28 (by kernel_rfl) (by kernel_rfl) mixed tdsOk (.cons (spec_l01In.ok k) EntsOk.nil) (by kernel_rfl) (Nat.le_of_ble_eq_true (by kernel_rfl)) (by kernel_rfl) (spec_RulesOk.runs k) (spec_RulesOk.obls k)
/-! loop.example/g00200/spec.l10Rules -/
def spec_l10Rules.j2 (k : Nat) (c0 : Int × Int × Int × Int × List Int × (List (Int × Int × Int)) × Unit → Option ((List (Int × Int × Int)) × List Int × Int × Int)) : Int × Int × Int × Int × Int × Int × Int × List Int × (List (Int × Int × Int)) × Unit → Option ((List (Int × Int × Int)) × List Int × Int × Int)
  | (z1, z2, z3, z4, z5, z6, z7, z8, z9, _) => ((some ([] : List (Int × Int × Int)))).bind fun y7 => (if (y7.length + z9.length) * 24 ≤ 140737488355328 then (((some (y7 ++ z9))).bind fun y8 => (((some ([(z5, (z6, z7))] : List (Int × Int × Int)))).bind fun y9 => (if (y8.length + y9.length) * 24 ≤ 140737488355328 then (((some (y8 ++ y9))).bind fun y10 => ((spec_RulesOk.f k y10).bind fun t11 => (if t11 = true then (c0 (z1, w64 (z2 + 1), z3, z4, z8, y10, ())) else (c0 (z1, w64 (z2 + 1), z3, z4, z8, z9, ()))))) else none))) else none)
def spec_l10Rules.l1 (k : Nat)  : Nat → Int × Int × Int × Int × List Int × (List (Int × Int × Int)) × Unit → Option ((List (Int × Int × Int)) × List Int × Int × Int)
  | 0, _ => none
  | n + 1, (x1, x2, x3, x4, x5, x6, _) => (spec_l01Below.f k (x5, (x3, x4)) 6).bind fun t2 => (if x2 < t2.1 then ((spec_l01Below.f k (x5, t2.2.2) x1).bind fun t3 => ((spec_l01Below.f k (x5, t3.2.2) 2).bind fun t4 => ((spec_l01Below.f k (x5, t4.2.2) 3).bind fun t5 => ((spec_l01Once.f k (x5, t5.2.2) 8).bind fun t6 => (if t6.1 = true then (spec_l10Rules.j2 k (spec_l10Rules.l1 k n) (x1, x2, t6.2.2.1, t6.2.2.2, w64 (1 + t3.1), w64 (1 + t4.1), 4, x5, x6, ())) else (spec_l10Rules.j2 k (spec_l10Rules.l1 k n) (x1, x2, t6.2.2.1, t6.2.2.2, w64 (1 + t3.1), w64 (1 + t4.1), w64 (1 + t5.1), x5, x6, ()))))))) else (some (x6, (x5, t2.2.2))))
def spec_l10Rules.f (k : Nat) (a0 : List Int × Int × Int) (a1 : Int) : Option ((List (Int × Int × Int)) × List Int × Int × Int) :=
  ((some ([] : List (Int × Int × Int)))).bind fun y1 => (spec_l10Rules.l1 k k (a1, 0, a0.2.1, a0.2.2, a0.1, y1, ()))
def spec_l10Rules.Sl1 : Shape := ⟨[(0, false, [.ptr 0 0]), (1, false, [.int .i64]), (5, false, [.own 2]), (6, false, [.int .i64])], [(0, .blk 147 [.own 1, .int .i64, .int .i64]), (1, .view false 5 (.int .u8)), (2, .row 44 (.pair (.int .i64) (.pair (.int .i64) (.int .i64))))], 3⟩
def spec_l10Rules.Sj2 : Shape := ⟨[(0, false, [.ptr 0 0]), (1, false, [.int .i64]), (5, false, [.own 2]), (6, false, [.int .i64]), (7, false, [.ptr 3 0])], [(0, .blk 147 [.own 1, .int .i64, .int .i64]), (3, .blk 44 [.int .i64, .int .i64, .int .i64]), (1, .view false 5 (.int .u8)), (2, .row 44 (.pair (.int .i64) (.pair (.int .i64) (.int .i64))))], 4⟩
def spec_l10Rules.sig : Sig := ⟨[.ptr 147 (.pair (.sl 5 (.int .u8)) (.pair (.int .i64) (.int .i64))) [0], .val false (.int .i64) []], [.val false (.sl 44 (.pair (.int .i64) (.pair (.int .i64) (.int .i64)))) [none]]⟩
def spec_l10Rules.F (k : Nat) (x : Args spec_l10Rules.sig.ps) : Option (Res spec_l10Rules.sig) := spec_l10Rules.f k x.1 x.2.1
def spec_l10Rules.ann (k : Nat) : Ann (Res spec_l10Rules.sig) := (.seq .nil (.seq .nil (.seq (.seq .nil (.block (.loop spec_l10Rules.Sl1 (spec_l10Rules.l1 k) fun n1 => (.seq .nil (.seq (.block (.seq .nil (.join spec_l10Rules.Sj2 (spec_l10Rules.j2 k (spec_l10Rules.l1 k n1)) .nil .nil))) .nil))))) .nil)))
def spec_l10Rules.ent : Ent := ⟨112, spec_l10Rules.sig, spec_l10Rules.F⟩
def spec_l10Rules.ctx (k : Nat) : Ctx := ⟨tds, [spec_RulesOk.ent, spec_l01Below.ent, spec_l01Once.ent], k, 40⟩
theorem spec_l10Rules.runs (k : Nat) (x : Args spec_l10Rules.sig.ps) : spec_l10Rules.F k x = runF (spec_l10Rules.ctx k) spec_l10Rules.sig Try.f112 (Try.f112.body.getD .skip) (spec_l10Rules.ann k) x := by kernel_rfl
theorem spec_l10Rules.obls (k : Nat) : obl (spec_l10Rules.ctx k) 2 (Try.f112.body.getD .skip) (spec_l10Rules.ann k) (retK tds spec_l10Rules.sig Try.f112.results.toList) := ⟨trivial, ⟨trivial, ⟨⟨trivial, ⟨⟨by kernel_rfl, fun x => by kernel_rfl⟩, fun n => ⟨fun x => by kernel_rfl, ⟨⟨trivial, ⟨trivial, trivial⟩⟩, ⟨⟨trivial, ⟨⟨by kernel_rfl, fun x => by kernel_rfl⟩, ⟨trivial, ⟨trivial, trivial⟩⟩, ⟨trivial, ⟨trivial, ⟨trivial, trivial⟩⟩⟩⟩⟩, trivial⟩⟩⟩⟩⟩, ⟨trivial, trivial⟩⟩⟩⟩
theorem spec_l10Rules.ok (k : Nat) : EntOk Try.prog k spec_l10Rules.ent := fn_ok (C := spec_l10Rules.ctx k) Try.func112 (by kernel_rfl) (by kernel_rfl) mixed tdsOk (.cons (spec_RulesOk.ok k) (.cons (spec_l01Below.ok k) (.cons (spec_l01Once.ok k) EntsOk.nil))) (by kernel_rfl) (Nat.le_of_ble_eq_true (by kernel_rfl)) (by kernel_rfl) (spec_l10Rules.runs k) (spec_l10Rules.obls k)
/-! loop.example/g00200/spec.l10Any -/
def spec_l10Any.f (k : Nat) (a0 : List Int × Int × Int) : Option ((List (Int × Int × Int)) × List Int × Int × Int) :=
  (spec_l10Rules.f k a0 4).bind fun t1 => ((spec_l01Once.f k (a0.1, t1.2.2) 4).bind fun t2 => (if t2.1 = true then ((spec_l01Below.f k (a0.1, t2.2.2) 6).bind fun t3 => ((spec_l01Below.f k (a0.1, t3.2.2) 4).bind fun t4 => ((spec_l01Below.f k (a0.1, t4.2.2) 6).bind fun t5 => (((some ([(t3.1, (t4.1, t5.1))] : List (Int × Int × Int)))).bind fun y6 => (if (t1.1.length + y6.length) * 24 ≤ 140737488355328 then (((some (t1.1 ++ y6))).bind fun y7 => (some (y7, (a0.1, t5.2.2)))) else none))))) else (some (t1.1, (a0.1, t2.2.2)))))
def spec_l10Any.sig : Sig := ⟨[.ptr 147 (.pair (.sl 5 (.int .u8)) (.pair (.int .i64) (.int .i64))) [0]], [.val false (.sl 44 (.pair (.int .i64) (.pair (.int .i64) (.int .i64)))) [none]]⟩
def spec_l10Any.F (k : Nat) (x : Args spec_l10Any.sig.ps) : Option (Res spec_l10Any.sig) := spec_l10Any.f k x.1
def spec_l10Any.ann (k : Nat) : Ann (Res spec_l10Any.sig) := .nil
def spec_l10Any.ent : Ent := ⟨77, spec_l10Any.sig, spec_l10Any.F⟩
def spec_l10Any.ctx (k : Nat) : Ctx := ⟨tds, [spec_l01Below.ent, spec_l01Once.ent, spec_l10Rules.ent], k, 19⟩
theorem spec_l10Any.runs (k : Nat) (x : Args spec_l10Any.sig.ps) : spec_l10Any.F k x = runF (spec_l10Any.ctx k) spec_l10Any.sig Try.f77 (Try.f77.body.getD .skip) (spec_l10Any.ann k) x := by kernel_rfl
theorem spec_l10Any.obls (k : Nat) : obl (spec_l10Any.ctx k) 2 (Try.f77.body.getD .skip) (spec_l10Any.ann k) (retK tds spec_l10Any.sig Try.f77.results.toList) := ⟨trivial, ⟨trivial, ⟨⟨trivial, ⟨trivial, trivial⟩⟩, ⟨trivial, trivial⟩⟩⟩⟩
theorem spec_l10Any.ok (k : Nat) : EntOk Try.prog k spec_l10Any.ent := fn_ok (C := spec_l10Any.ctx k) Try.func77 (by kernel_rfl) (by kernel_rfl) mixed tdsOk (.cons (spec_l01Below.ok k) (.cons (spec_l01Once.ok k) (.cons (spec_l10Rules.ok k) EntsOk.nil))) (by kernel_rfl) (Nat.le_of_ble_eq_true (by kernel_rfl)) (by kernel_rfl) (spec_l10Any.runs k) (spec_l10Any.obls k)
/-! loop.example/g00200/spec.DrawActFor -/
def spec_DrawActFor.f (k : Nat) (a0 : List Int) : Option ((List (Int × Int × Int)) × Int × Int × Int) :=
  (spec_l01New.f k a0).bind fun t1 => ((spec_l10Any.f k (a0, t1.2)).bind fun t2 => ((spec_l01Below.f k (a0, t2.2.2) 4).bind fun t3 => ((spec_l01Below.f k (a0, t3.2.2) 2).bind fun t4 => ((spec_l01Below.f k (a0, t4.2.2) 5).bind fun t5 => (some (t2.1, w64 (1 + t3.1), w64 (1 + t4.1), t5.1))))))
def spec_DrawActFor.sig : Sig := ⟨[.val false (.sl 5 (.int .u8)) [0]], [.val false (.sl 44 (.pair (.int .i64) (.pair (.int .i64) (.int .i64)))) [none], .val false (.int .i64) [], .val false (.int .i64) [], .val false (.int .i64) []]⟩
def spec_DrawActFor.F (k : Nat) (x : Args spec_DrawActFor.sig.ps) : Option (Res spec_DrawActFor.sig) := spec_DrawActFor.f k x.1
def spec_DrawActFor.ann (k : Nat) : Ann (Res spec_DrawActFor.sig) := .nil
def spec_DrawActFor.ent : Ent := ⟨26, spec_DrawActFor.sig, spec_DrawActFor.F⟩
def spec_DrawActFor.ctx (k : Nat) : Ctx := ⟨tds, [spec_l01New.ent, spec_l10Any.ent, spec_l01Below.ent], k, 19⟩
theorem spec_DrawActFor.runs (k : Nat) (x : Args spec_DrawActFor.sig.ps) : spec_DrawActFor.F k x = runF (spec_DrawActFor.ctx k) spec_DrawActFor.sig Try.f26 (Try.f26.body.getD .skip) (spec_DrawActFor.ann k) x := by kernel_rfl
theorem spec_DrawActFor.obls (k : Nat) : obl (spec_DrawActFor.ctx k) 1 (Try.f26.body.getD .skip) (spec_DrawActFor.ann k) (retK tds spec_DrawActFor.sig Try.f26.results.toList) := ⟨trivial, ⟨trivial, ⟨trivial, trivial⟩⟩⟩
theorem spec_DrawActFor.ok (k : Nat) : EntOk Try.prog k spec_DrawActFor.ent := fn_ok (C := spec_DrawActFor.ctx k) Try.func26 (by kernel_rfl) (by kernel_rfl) mixed tdsOk (.cons (spec_l01New.ok k) (.cons (spec_l10Any.ok k) (.cons (spec_l01Below.ok k) EntsOk.nil))) (by kernel_rfl) (Nat.le_of_ble_eq_true (by kernel_rfl)) (by kernel_rfl) (spec_DrawActFor.runs k) (spec_DrawActFor.obls k)
/-! loop.example/g00200/impl.isPart -/
def impl_isPart.f (k : Nat) (a0 : Int) : Option (Bool) :=
  (impl_within.f k a0 1 4).bind fun t1 => (some t1)
def impl_isPart.sig : Sig := ⟨[.val false (.int .i64) []], [.val false .bool []]⟩
def impl_isPart.F (k : Nat) (x : Args impl_isPart.sig.ps) : Option (Res impl_isPart.sig) := impl_isPart.f k x.1
def impl_isPart.ann (k : Nat) : Ann (Res impl_isPart.sig) := .nil
def impl_isPart.ent : Ent := ⟨79, impl_isPart.sig, impl_isPart.F⟩
def impl_isPart.ctx (k : Nat) : Ctx := ⟨tds, [impl_within.ent], k, 5⟩
theorem impl_isPart.runs (k : Nat) (x : Args impl_isPart.sig.ps) : impl_isPart.F k x = runF (impl_isPart.ctx k) impl_isPart.sig Try.f79 (Try.f79.body.getD .skip) (impl_isPart.ann k) x := by kernel_rfl
theorem impl_isPart.obls (k : Nat) : obl (impl_isPart.ctx k) 0 (Try.f79.body.getD .skip) (impl_isPart.ann k) (retK tds impl_isPart.sig Try.f79.results.toList) := ⟨trivial, ⟨trivial, trivial⟩⟩
theorem impl_isPart.ok (k : Nat) : EntOk Try.prog k impl_isPart.ent := fn_ok (C := impl_isPart.ctx k) Try.func79 (by kernel_rfl) (by kernel_rfl) mixed tdsOk (.cons (impl_within.ok k) EntsOk.nil) (by kernel_rfl) (Nat.le_of_ble_eq_true (by kernel_rfl)) (by kernel_rfl) (impl_isPart.runs k) (impl_isPart.obls k)
/-! loop.example/g00200/impl.RulesOk -/
def impl_RulesOk.l1 (k : Nat)  : Nat → Int × Int × (List (Int × Int × Int)) × Unit → Option (Bool)
  | 0, _ => none
  | n + 1, (x1, x2, x3, _) => if x2 < x1 then (if 0 ≤ x2 then (if x2 < (x3.length : Int) then ((impl_isPart.f k ((el (.pair (.int .i64) (.pair (.int .i64) (.int .i64))) x3 x2.toNat).1)).bind fun t1 => (if ¬ t1 = true then (some false) else ((impl_within.f k (((el (.pair (.int .i64) (.pair (.int .i64) (.int .i64))) x3 x2.toNat).2).1) 1 2).bind fun t2 => (if ¬ t2 = true then (some false) else ((impl_within.f k (((el (.pair (.int .i64) (.pair (.int .i64) (.int .i64))) x3 x2.toNat).2).2) 0 4).bind fun t3 => (if ¬ t3 = true then (some false) else ((impl_ruleFor.f k x3 ((el (.pair (.int .i64) (.pair (.int .i64) (.int .i64))) x3 x2.toNat).1) (((el (.pair (.int .i64) (.pair (.int .i64) (.int .i64))) x3 x2.toNat).2).1)).bind fun t4 => (if ¬ t4 = x2 then (some false) else (if (((el (.pair (.int .i64) (.pair (.int .i64) (.int .i64))) x3 x2.toNat).2).1) = 1 then (if (((el (.pair (.int .i64) (.pair (.int .i64) (.int .i64))) x3 x2.toNat).2).2) = 0 then (some false) else (impl_RulesOk.l1 k n (x1, w64 (x2 + 1), x3, ()))) else (impl_RulesOk.l1 k n (x1, w64 (x2 + 1), x3, ()))))))))))) else none) else none) else (some (decide ((x3.length : Int) ≤ 8)))
def impl_RulesOk.f (k : Nat) (a0 : List (Int × Int × Int)) : Option (Bool) :=
  impl_RulesOk.l1 k k ((a0.length : Int), 0, a0, ())
def impl_RulesOk.Sl1 : Shape := ⟨[(0, false, [.own 0]), (5, false, [.own 0]), (6, false, [.int .i64]), (7, false, [.int .i64])], [(0, .view false 44 (.pair (.int .i64) (.pair (.int .i64) (.int .i64))))], 1⟩
def impl_RulesOk.sig : Sig := ⟨[.val false (.sl 44 (.pair (.int .i64) (.pair (.int .i64) (.int .i64)))) [0]], [.val false .bool []]⟩
def impl_RulesOk.F (k : Nat) (x : Args impl_RulesOk.sig.ps) : Option (Res impl_RulesOk.sig) := impl_RulesOk.f k x.1
def impl_RulesOk.ann (k : Nat) : Ann (Res impl_RulesOk.sig) := (.seq .nil (.seq (.seq .nil (.block (.loop impl_RulesOk.Sl1 (impl_RulesOk.l1 k) fun n1 => .nil))) .nil))
def impl_RulesOk.ent : Ent := ⟨27, impl_RulesOk.sig, impl_RulesOk.F⟩
def impl_RulesOk.ctx (k : Nat) : Ctx := ⟨tds, [impl_ruleFor.ent, impl_isPart.ent, impl_within.ent], k, 50⟩
theorem impl_RulesOk.runs (k : Nat) (x : Args impl_RulesOk.sig.ps) : impl_RulesOk.F k x = runF (impl_RulesOk.ctx k) impl_RulesOk.sig Try.f27 (Try.f27.body.getD .skip) (impl_RulesOk.ann k) x := by kernel_rfl
theorem impl_RulesOk.obls (k : Nat) : obl (impl_RulesOk.ctx k) 1 (Try.f27.body.getD .skip) (impl_RulesOk.ann k) (retK tds impl_RulesOk.sig Try.f27.results.toList) := ⟨trivial, ⟨⟨trivial, ⟨⟨by kernel_rfl, fun x => by kernel_rfl⟩, fun n => ⟨fun x => by kernel_rfl, ⟨trivial, ⟨⟨trivial, trivial⟩, ⟨⟨trivial, ⟨⟨trivial, ⟨⟨trivial, trivial⟩, trivial⟩⟩, ⟨trivial, ⟨⟨trivial, trivial⟩, trivial⟩⟩⟩⟩, trivial⟩⟩⟩⟩⟩⟩, ⟨trivial, trivial⟩⟩⟩
theorem impl_RulesOk.ok (k : Nat) : EntOk Try.prog k impl_RulesOk.ent := fn_ok (C := impl_RulesOk.ctx k) Try.func27 (by kernel_rfl) (by kernel_rfl) mixed tdsOk (.cons (impl_ruleFor.ok k) (.cons (impl_isPart.ok k) (.cons (impl_within.ok k) EntsOk.nil))) (by kernel_rfl) (Nat.le_of_ble_eq_true (by kernel_rfl)) (by kernel_rfl) (impl_RulesOk.runs k) (impl_RulesOk.obls k)
/-! loop.example/g00200/laws.toIntS -/
def laws_toIntS.l1 (k : Nat)  : Nat → Int × List Int × List Int × Unit → Option (List Int)
  | 0, _ => none
  | n + 1, (x1, x2, x3, _) => if x1 < (x2.length : Int) then (if 0 ≤ x1 then (if x1 < (x2.length : Int) then (if 0 ≤ x1 then (if x1 < (x3.length : Int) then (((some (x3.set x1.toNat (el (.int .i64) x2 x1.toNat)))).bind fun y2 => (laws_toIntS.l1 k n (w64 (x1 + 1), x2, y2, ()))) else none) else none) else none) else none) else (some x3)
def laws_toIntS.f (k : Nat) (a0 : List Int) : Option (List Int) :=
  if (a0.length : Int) = (a0.length : Int) then (if 0 ≤ (a0.length : Int) then (if ((a0.length : Int)).toNat * 8 ≤ 281474976710656 then (((some (List.replicate ((a0.length : Int)).toNat 0 : List Int))).bind fun y1 => (laws_toIntS.l1 k k (0, a0, y1, ()))) else none) else none) else none
def laws_toIntS.Sl1 : Shape := ⟨[(0, false, [.own 0]), (3, false, [.own 1]), (4, false, [.int .i64])], [(0, .view false 3 (.int .i64)), (1, .row 3 (.int .i64))], 2⟩
def laws_toIntS.sig : Sig := ⟨[.val false (.sl 3 (.int .i64)) [0]], [.val false (.sl 3 (.int .i64)) [none]]⟩
def laws_toIntS.F (k : Nat) (x : Args laws_toIntS.sig.ps) : Option (Res laws_toIntS.sig) := laws_toIntS.f k x.1
def laws_toIntS.ann (k : Nat) : Ann (Res laws_toIntS.sig) := (.seq .nil (.seq .nil (.seq (.seq .nil (.block (.loop laws_toIntS.Sl1 (laws_toIntS.l1 k) fun n1 => .nil))) .nil)))
def laws_toIntS.ent : Ent := ⟨30, laws_toIntS.sig, laws_toIntS.F⟩
def laws_toIntS.ctx (k : Nat) : Ctx := ⟨tds, [], k, 22⟩
theorem laws_toIntS.runs (k : Nat) (x : Args laws_toIntS.sig.ps) : laws_toIntS.F k x = runF (laws_toIntS.ctx k) laws_toIntS.sig Try.f30 (Try.f30.body.getD .skip) (laws_toIntS.ann k) x := by kernel_rfl
theorem laws_toIntS.obls (k : Nat) : obl (laws_toIntS.ctx k) 1 (Try.f30.body.getD .skip) (laws_toIntS.ann k) (retK tds laws_toIntS.sig Try.f30.results.toList) := ⟨trivial, ⟨trivial, ⟨⟨trivial, ⟨⟨by kernel_rfl, fun x => by kernel_rfl⟩, fun n => ⟨fun x => by kernel_rfl, ⟨⟨trivial, ⟨trivial, trivial⟩⟩, ⟨trivial, trivial⟩⟩⟩⟩⟩, ⟨trivial, trivial⟩⟩⟩⟩
theorem laws_toIntS.ok (k : Nat) : EntOk Try.prog k laws_toIntS.ent := fn_ok (C := laws_toIntS.ctx k) Try.func30 (by kernel_rfl) (by kernel_rfl) mixed tdsOk EntsOk.nil (by kernel_rfl) (Nat.le_of_ble_eq_true (by kernel_rfl)) (by kernel_rfl) (laws_toIntS.runs k) (laws_toIntS.obls k)
/-! loop.example/g00200/spec.Harmonic -/
def spec_Harmonic.l4 (k : Nat) (c0 : Int × Int × List Int × List Int × (List (Int × Int)) × (List (Int × Int)) × Unit → Option ((List (Int × Int)) × Bool)) : Nat → Int × Int × Int × List Int × List Int × (List (Int × Int)) × (List (Int × Int)) × Unit → Option ((List (Int × Int)) × Bool)
  | 0, _ => none
  | n + 1, (x1, x2, x3, x4, x5, x6, x7, _) => if x3 < (x4.length : Int) then (if 0 ≤ x3 then (if x3 < (x4.length : Int) then (if ¬ (el (.int .i64) x4 x3.toNat) = 0 then (if (Int.tmod x2 (el (.int .i64) x4 x3.toNat)) = 0 then (if 0 ≤ x3 then (if x3 < (x5.length : Int) then (((some ([(w64 (x3 + 1), el (.int .i64) x5 x3.toNat)] : List (Int × Int)))).bind fun y6 => (if (x7.length + y6.length) * 16 ≤ 140737488355328 then (((some (x7 ++ y6))).bind fun y7 => (spec_Harmonic.l4 k c0 n (x1, x2, w64 (x3 + 1), x4, x5, x6, y7, ()))) else none)) else none) else none) else (spec_Harmonic.l4 k c0 n (x1, x2, w64 (x3 + 1), x4, x5, x6, x7, ()))) else none) else none) else none) else (c0 (x1, w64 (x2 + 1), x4, x5, x6, x7, ()))
def spec_Harmonic.l3 (k : Nat)  : Nat → Int × Int × List Int × List Int × (List (Int × Int)) × (List (Int × Int)) × Unit → Option ((List (Int × Int)) × Bool)
  | 0, _ => none
  | n + 1, (x1, x2, x3, x4, x5, x6, _) => if x2 < x1 then (spec_Harmonic.l4 k (spec_Harmonic.l3 k n) k (x1, x2, 0, x3, x4, x5, x6, ())) else (if 12 < (x6.length : Int) then (some (x5, false)) else (some (x6, true)))
def spec_Harmonic.l2 (k : Nat)  : Nat → Int × Int × List Int × List Int × (List (Int × Int)) × (List (Int × Int)) × Unit → Option ((List (Int × Int)) × Bool)
  | 0, _ => none
  | n + 1, (x1, x2, x3, x4, x5, x6, _) => if x2 < (x3.length : Int) then (if 0 ≤ x2 then (if x2 < (x3.length : Int) then (if ¬ (el (.int .i64) x3 x2.toNat) = 0 then (if ¬ (Int.tmod x1 (el (.int .i64) x3 x2.toNat)) = 0 then (some (x5, false)) else (spec_Harmonic.l2 k n (x1, w64 (x2 + 1), x3, x4, x5, x6, ()))) else none) else none) else none) else (spec_Harmonic.l3 k k (x1, 0, x3, x4, x5, x6, ()))
def spec_Harmonic.l1 (k : Nat)  : Nat → Int × Int × List Int × List Int × (List (Int × Int)) × Unit → Option ((List (Int × Int)) × Bool)
  | 0, _ => none
  | n + 1, (x1, x2, x3, x4, x5, _) => if x2 < (x3.length : Int) then (if 0 ≤ x2 then (if x2 < (x3.length : Int) then ((spec_l01In.f k (el (.int .i64) x3 x2.toNat) 1 8).bind fun t3 => (if ¬ t3 = true then (some (x5, false)) else (if 0 ≤ x2 then (if x2 < (x4.length : Int) then ((spec_l01In.f k (el (.int .i64) x4 x2.toNat) 1 200).bind fun t4 => (if ¬ t4 = true then (some (x5, false)) else (if 0 ≤ x2 then (if x2 < (x3.length : Int) then (if x1 < (el (.int .i64) x3 x2.toNat) then (if 0 ≤ x2 then (if x2 < (x3.length : Int) then (spec_Harmonic.l1 k n (el (.int .i64) x3 x2.toNat, w64 (x2 + 1), x3, x4, x5, ())) else none) else none) else (spec_Harmonic.l1 k n (x1, w64 (x2 + 1), x3, x4, x5, ()))) else none) else none))) else none) else none))) else none) else none) else (((some ([] : List (Int × Int)))).bind fun y5 => (spec_Harmonic.l2 k k (x1, 0, x3, x4, x5, y5, ())))
def spec_Harmonic.f (k : Nat) (a0 : List Int) (a1 : List Int) : Option ((List (Int × Int)) × Bool) :=
  ((some ([] : List (Int × Int)))).bind fun y1 => ((spec_l01In.f k (a0.length : Int) 1 4).bind fun t2 => (if ¬ t2 = true then (some (y1, false)) else (if ¬ (a1.length : Int) = (a0.length : Int) then (some (y1, false)) else (spec_Harmonic.l1 k k (0, 0, a0, a1, y1, ())))))
def spec_Harmonic.Sl1 : Shape := ⟨[(0, false, [.own 0]), (1, false, [.own 1]), (6, false, [.own 2]), (7, false, [.int .i64]), (8, false, [.int .i64])], [(0, .view false 3 (.int .i64)), (1, .view false 3 (.int .i64)), (2, .row 57 (.pair (.int .i64) (.int .i64)))], 3⟩
def spec_Harmonic.Sl2 : Shape := ⟨[(0, false, [.own 0]), (1, false, [.own 1]), (6, false, [.own 2]), (7, false, [.int .i64]), (9, false, [.own 3]), (10, false, [.int .i64])], [(0, .view false 3 (.int .i64)), (1, .view false 3 (.int .i64)), (2, .row 57 (.pair (.int .i64) (.int .i64))), (3, .row 57 (.pair (.int .i64) (.int .i64)))], 4⟩
def spec_Harmonic.Sl3 : Shape := ⟨[(0, false, [.own 0]), (1, false, [.own 1]), (6, false, [.own 2]), (7, false, [.int .i64]), (9, false, [.own 3]), (11, false, [.int .i64])], [(0, .view false 3 (.int .i64)), (1, .view false 3 (.int .i64)), (2, .row 57 (.pair (.int .i64) (.int .i64))), (3, .row 57 (.pair (.int .i64) (.int .i64)))], 4⟩
def spec_Harmonic.Sl4 : Shape := ⟨[(0, false, [.own 0]), (1, false, [.own 1]), (6, false, [.own 2]), (7, false, [.int .i64]), (9, false, [.own 3]), (11, false, [.int .i64]), (12, false, [.int .i64])], [(0, .view false 3 (.int .i64)), (1, .view false 3 (.int .i64)), (2, .row 57 (.pair (.int .i64) (.int .i64))), (3, .row 57 (.pair (.int .i64) (.int .i64)))], 4⟩
def spec_Harmonic.sig : Sig := ⟨[.val false (.sl 3 (.int .i64)) [0], .val false (.sl 3 (.int .i64)) [0]], [.val false (.sl 57 (.pair (.int .i64) (.int .i64))) [none], .val false .bool []]⟩
def spec_Harmonic.F (k : Nat) (x : Args spec_Harmonic.sig.ps) : Option (Res spec_Harmonic.sig) := spec_Harmonic.f k x.1 x.2.1
def spec_Harmonic.ann (k : Nat) : Ann (Res spec_Harmonic.sig) := (.seq .nil (.seq .nil (.seq .nil (.seq .nil (.seq (.seq .nil (.block (.loop spec_Harmonic.Sl1 (spec_Harmonic.l1 k) fun n1 => .nil))) (.seq .nil (.seq (.seq .nil (.block (.loop spec_Harmonic.Sl2 (spec_Harmonic.l2 k) fun n1 => .nil))) (.seq (.seq .nil (.block (.loop spec_Harmonic.Sl3 (spec_Harmonic.l3 k) fun n1 => (.seq .nil (.seq (.block (.seq .nil (.block (.loop spec_Harmonic.Sl4 (spec_Harmonic.l4 k (spec_Harmonic.l3 k n1)) fun n2 => .nil)))) .nil))))) .nil))))))))
def spec_Harmonic.ent : Ent := ⟨29, spec_Harmonic.sig, spec_Harmonic.F⟩
def spec_Harmonic.ctx (k : Nat) : Ctx := ⟨tds, [spec_l01In.ent], k, 105⟩
theorem spec_Harmonic.runs (k : Nat) (x : Args spec_Harmonic.sig.ps) : spec_Harmonic.F k x = runF (spec_Harmonic.ctx k) spec_Harmonic.sig Try.f29 (Try.f29.body.getD .skip) (spec_Harmonic.ann k) x := by kernel_rfl
theorem spec_Harmonic.obls (k : Nat) : obl (spec_Harmonic.ctx k) 2 (Try.f29.body.getD .skip) (spec_Harmonic.ann k) (retK tds spec_Harmonic.sig Try.f29.results.toList) := ⟨trivial, ⟨trivial, ⟨⟨trivial, ⟨⟨trivial, trivial⟩, trivial⟩⟩, ⟨trivial, ⟨⟨trivial, ⟨⟨by kernel_rfl, fun x => by kernel_rfl⟩, fun n => ⟨fun x => by kernel_rfl, ⟨⟨trivial, ⟨trivial, trivial⟩⟩, ⟨⟨⟨trivial, ⟨⟨trivial, trivial⟩, trivial⟩⟩, ⟨trivial, ⟨trivial, trivial⟩⟩⟩, trivial⟩⟩⟩⟩⟩, ⟨trivial, ⟨⟨trivial, ⟨⟨by kernel_rfl, fun x => by kernel_rfl⟩, fun n => ⟨fun x => by kernel_rfl, ⟨⟨trivial, ⟨trivial, trivial⟩⟩, ⟨⟨trivial, ⟨⟨trivial, trivial⟩, trivial⟩⟩, trivial⟩⟩⟩⟩⟩, ⟨⟨trivial, ⟨⟨by kernel_rfl, fun x => by kernel_rfl⟩, fun n => ⟨fun x => by kernel_rfl, ⟨⟨trivial, ⟨trivial, trivial⟩⟩, ⟨⟨trivial, ⟨⟨by kernel_rfl, fun x => by kernel_rfl⟩, fun n => ⟨fun x => by kernel_rfl, ⟨⟨trivial, ⟨trivial, trivial⟩⟩, ⟨⟨trivial, ⟨trivial, trivial⟩⟩, trivial⟩⟩⟩⟩⟩, trivial⟩⟩⟩⟩⟩, ⟨⟨trivial, ⟨⟨trivial, trivial⟩, trivial⟩⟩, ⟨trivial, trivial⟩⟩⟩⟩⟩⟩⟩⟩⟩⟩
theorem spec_Harmonic.ok (k : Nat) : EntOk Try.prog k spec_Harmonic.ent := fn_ok (C := spec_Harmonic.ctx k) Try.func29 (by kernel_rfl) (by kernel_rfl) mixed tdsOk (.cons (spec_l01In.ok k) EntsOk.nil) (by kernel_rfl) (Nat.le_of_ble_eq_true (by kernel_rfl)) (by kernel_rfl) (spec_Harmonic.runs k) (spec_Harmonic.obls k)
/-! loop.example/g00200/impl.isBudget -/
def impl_isBudget.f (k : Nat) (a0 : Int) : Option (Bool) :=
  (impl_within.f k a0 1 200).bind fun t1 => (some t1)
def impl_isBudget.sig : Sig := ⟨[.val false (.int .i64) []], [.val false .bool []]⟩
def impl_isBudget.F (k : Nat) (x : Args impl_isBudget.sig.ps) : Option (Res impl_isBudget.sig) := impl_isBudget.f k x.1
def impl_isBudget.ann (k : Nat) : Ann (Res impl_isBudget.sig) := .nil
def impl_isBudget.ent : Ent := ⟨82, impl_isBudget.sig, impl_isBudget.F⟩
def impl_isBudget.ctx (k : Nat) : Ctx := ⟨tds, [impl_within.ent], k, 5⟩
theorem impl_isBudget.runs (k : Nat) (x : Args impl_isBudget.sig.ps) : impl_isBudget.F k x = runF (impl_isBudget.ctx k) impl_isBudget.sig Try.f82 (Try.f82.body.getD .skip) (impl_isBudget.ann k) x := by kernel_rfl
theorem impl_isBudget.obls (k : Nat) : obl (impl_isBudget.ctx k) 0 (Try.f82.body.getD .skip) (impl_isBudget.ann k) (retK tds impl_isBudget.sig Try.f82.results.toList) := ⟨trivial, ⟨trivial, trivial⟩⟩
theorem impl_isBudget.ok (k : Nat) : EntOk Try.prog k impl_isBudget.ent := fn_ok (C := impl_isBudget.ctx k) Try.func82 (by kernel_rfl) (by kernel_rfl) mixed tdsOk (.cons (impl_within.ok k) EntsOk.nil) (by kernel_rfl) (Nat.le_of_ble_eq_true (by kernel_rfl)) (by kernel_rfl) (impl_isBudget.runs k) (impl_isBudget.obls k)
/-! loop.example/g00200/impl.Harmonic -/
def impl_Harmonic.l4 (k : Nat) (c0 : Int × Int × List Int × List Int × (List (Int × Int)) × Unit → Option ((List (Int × Int)) × Bool)) : Nat → Int × Int × Int × Int × List Int × List Int × (List (Int × Int)) × Unit → Option ((List (Int × Int)) × Bool)
  | 0, _ => none
  | n + 1, (x1, x2, x3, x4, x5, x6, x7, _) => if x4 < x3 then (if 0 ≤ x4 then (if x4 < (x5.length : Int) then (if ¬ (el (.int .i64) x5 x4.toNat) = 0 then (if (Int.tmod x2 (el (.int .i64) x5 x4.toNat)) = 0 then (if 0 ≤ x4 then (if x4 < (x6.length : Int) then (((some ([(w64 (x4 + 1), el (.int .i64) x6 x4.toNat)] : List (Int × Int)))).bind fun y5 => (if (x7.length + y5.length) * 16 ≤ 140737488355328 then (((some (x7 ++ y5))).bind fun y6 => (impl_Harmonic.l4 k c0 n (x1, x2, x3, w64 (x4 + 1), x5, x6, y6, ()))) else none)) else none) else none) else (impl_Harmonic.l4 k c0 n (x1, x2, x3, w64 (x4 + 1), x5, x6, x7, ()))) else none) else none) else none) else (c0 (x1, w64 (x2 + 1), x5, x6, x7, ()))
def impl_Harmonic.l3 (k : Nat)  : Nat → Int × Int × List Int × List Int × (List (Int × Int)) × Unit → Option ((List (Int × Int)) × Bool)
  | 0, _ => none
  | n + 1, (x1, x2, x3, x4, x5, _) => if x2 < x1 then (impl_Harmonic.l4 k (impl_Harmonic.l3 k n) k (x1, x2, (x3.length : Int), 0, x3, x4, x5, ())) else (if 12 < (x5.length : Int) then (some ([], false)) else (some (x5, true)))
def impl_Harmonic.l2 (k : Nat)  : Nat → Int × Int × Int × List Int × List Int × Unit → Option ((List (Int × Int)) × Bool)
  | 0, _ => none
  | n + 1, (x1, x2, x3, x4, x5, _) => if x3 < x2 then (if 0 ≤ x3 then (if x3 < (x4.length : Int) then ((impl_within.f k (el (.int .i64) x4 x3.toNat) 1 8).bind fun t2 => (if ¬ t2 = true then (some ([], false)) else (if ¬ (el (.int .i64) x4 x3.toNat) = 0 then (if ¬ (Int.tmod x1 (el (.int .i64) x4 x3.toNat)) = 0 then (some ([], false)) else (if 0 ≤ x3 then (if x3 < (x5.length : Int) then ((impl_isBudget.f k (el (.int .i64) x5 x3.toNat)).bind fun t3 => (if ¬ t3 = true then (some ([], false)) else (impl_Harmonic.l2 k n (x1, x2, w64 (x3 + 1), x4, x5, ())))) else none) else none)) else none))) else none) else none) else (((some ([] : List (Int × Int)))).bind fun y4 => (impl_Harmonic.l3 k k (x1, 0, x4, x5, y4, ())))
def impl_Harmonic.l1 (k : Nat)  : Nat → Int × Int × Int × List Int × List Int × Unit → Option ((List (Int × Int)) × Bool)
  | 0, _ => none
  | n + 1, (x1, x2, x3, x4, x5, _) => if x3 < x2 then (if 0 ≤ x3 then (if x3 < (x4.length : Int) then (impl_Harmonic.l1 k n (max x1 (el (.int .i64) x4 x3.toNat), x2, w64 (x3 + 1), x4, x5, ())) else none) else none) else (impl_Harmonic.l2 k k (x1, (x4.length : Int), 0, x4, x5, ()))
def impl_Harmonic.f (k : Nat) (a0 : List Int) (a1 : List Int) : Option ((List (Int × Int)) × Bool) :=
  (impl_within.f k (a0.length : Int) 1 4).bind fun t1 => (if ¬ t1 = true then (some ([], false)) else (if ¬ (a1.length : Int) = (a0.length : Int) then (some ([], false)) else (impl_Harmonic.l1 k k (0, (a0.length : Int), 0, a0, a1, ()))))
def impl_Harmonic.Sl1 : Shape := ⟨[(0, false, [.own 0]), (1, false, [.own 1]), (6, false, [.int .i64]), (26, false, [.own 0]), (27, false, [.int .i64]), (28, false, [.int .i64])], [(0, .view false 3 (.int .i64)), (1, .view false 3 (.int .i64))], 2⟩
def impl_Harmonic.Sl2 : Shape := ⟨[(0, false, [.own 0]), (1, false, [.own 1]), (6, false, [.int .i64]), (36, false, [.own 0]), (37, false, [.int .i64]), (38, false, [.int .i64])], [(0, .view false 3 (.int .i64)), (1, .view false 3 (.int .i64))], 2⟩
def impl_Harmonic.Sl3 : Shape := ⟨[(0, false, [.own 0]), (1, false, [.own 1]), (6, false, [.int .i64]), (11, false, [.own 2]), (12, false, [.int .i64])], [(0, .view false 3 (.int .i64)), (1, .view false 3 (.int .i64)), (2, .row 57 (.pair (.int .i64) (.int .i64)))], 3⟩
def impl_Harmonic.Sl4 : Shape := ⟨[(0, false, [.own 0]), (1, false, [.own 1]), (6, false, [.int .i64]), (11, false, [.own 2]), (12, false, [.int .i64]), (67, false, [.own 0]), (68, false, [.int .i64]), (69, false, [.int .i64])], [(0, .view false 3 (.int .i64)), (1, .view false 3 (.int .i64)), (2, .row 57 (.pair (.int .i64) (.int .i64)))], 3⟩
def impl_Harmonic.sig : Sig := ⟨[.val false (.sl 3 (.int .i64)) [0], .val false (.sl 3 (.int .i64)) [0]], [.val false (.sl 57 (.pair (.int .i64) (.int .i64))) [none], .val false .bool []]⟩
def impl_Harmonic.F (k : Nat) (x : Args impl_Harmonic.sig.ps) : Option (Res impl_Harmonic.sig) := impl_Harmonic.f k x.1 x.2.1
def impl_Harmonic.ann (k : Nat) : Ann (Res impl_Harmonic.sig) := (.seq .nil (.seq .nil (.seq .nil (.seq (.seq .nil (.block (.loop impl_Harmonic.Sl1 (impl_Harmonic.l1 k) fun n1 => .nil))) (.seq (.seq .nil (.block (.loop impl_Harmonic.Sl2 (impl_Harmonic.l2 k) fun n1 => .nil))) (.seq .nil (.seq (.seq .nil (.block (.loop impl_Harmonic.Sl3 (impl_Harmonic.l3 k) fun n1 => (.seq .nil (.seq (.block (.seq .nil (.block (.loop impl_Harmonic.Sl4 (impl_Harmonic.l4 k (impl_Harmonic.l3 k n1)) fun n2 => .nil)))) .nil))))) .nil)))))))
def impl_Harmonic.ent : Ent := ⟨31, impl_Harmonic.sig, impl_Harmonic.F⟩
def impl_Harmonic.ctx (k : Nat) : Ctx := ⟨tds, [impl_within.ent, impl_isBudget.ent], k, 93⟩
theorem impl_Harmonic.runs (k : Nat) (x : Args impl_Harmonic.sig.ps) : impl_Harmonic.F k x = runF (impl_Harmonic.ctx k) impl_Harmonic.sig Try.f31 (Try.f31.body.getD .skip) (impl_Harmonic.ann k) x := by kernel_rfl
theorem impl_Harmonic.obls (k : Nat) : obl (impl_Harmonic.ctx k) 2 (Try.f31.body.getD .skip) (impl_Harmonic.ann k) (retK tds impl_Harmonic.sig Try.f31.results.toList) := ⟨trivial, ⟨⟨trivial, ⟨⟨trivial, trivial⟩, trivial⟩⟩, ⟨trivial, ⟨⟨trivial, ⟨⟨by kernel_rfl, fun x => by kernel_rfl⟩, fun n => ⟨fun x => by kernel_rfl, ⟨trivial, ⟨⟨trivial, trivial⟩, ⟨⟨trivial, trivial⟩, trivial⟩⟩⟩⟩⟩⟩, ⟨⟨trivial, ⟨⟨by kernel_rfl, fun x => by kernel_rfl⟩, fun n => ⟨fun x => by kernel_rfl, ⟨trivial, ⟨⟨trivial, trivial⟩, ⟨⟨trivial, ⟨trivial, ⟨⟨trivial, trivial⟩, trivial⟩⟩⟩, trivial⟩⟩⟩⟩⟩⟩, ⟨trivial, ⟨⟨trivial, ⟨⟨by kernel_rfl, fun x => by kernel_rfl⟩, fun n => ⟨fun x => by kernel_rfl, ⟨⟨trivial, ⟨trivial, trivial⟩⟩, ⟨⟨trivial, ⟨⟨by kernel_rfl, fun x => by kernel_rfl⟩, fun n => ⟨fun x => by kernel_rfl, ⟨trivial, ⟨⟨trivial, trivial⟩, ⟨⟨trivial, ⟨trivial, ⟨trivial, trivial⟩⟩⟩, trivial⟩⟩⟩⟩⟩⟩, trivial⟩⟩⟩⟩⟩, ⟨⟨trivial, ⟨⟨trivial, trivial⟩, trivial⟩⟩, ⟨trivial, trivial⟩⟩⟩⟩⟩⟩⟩⟩⟩
theorem impl_Harmonic.ok (k : Nat) : EntOk Try.prog k impl_Harmonic.ent := fn_ok (C := impl_Harmonic.ctx k) Try.func31 (by kernel_rfl) (by kernel_rfl) mixed tdsOk (.cons (impl_within.ok k) (.cons (impl_isBudget.ok k) EntsOk.nil)) (by kernel_rfl) (Nat.le_of_ble_eq_true (by kernel_rfl)) (by kernel_rfl) (impl_Harmonic.runs k) (impl_Harmonic.obls k)
/-! loop.example/g00200/laws.eqWindow -/
def laws_eqWindow.f (k : Nat) (a0 : Int × Int) (a1 : Int × Int) : Option (Bool) :=
  if ¬ a0.1 = a1.1 then (some false) else (if ¬ a0.2 = a1.2 then (some false) else (some true))
def laws_eqWindow.sig : Sig := ⟨[.val true (.pair (.int .i64) (.int .i64)) [], .val true (.pair (.int .i64) (.int .i64)) []], [.val false .bool []]⟩
def laws_eqWindow.F (k : Nat) (x : Args laws_eqWindow.sig.ps) : Option (Res laws_eqWindow.sig) := laws_eqWindow.f k x.1 x.2.1
def laws_eqWindow.ann (k : Nat) : Ann (Res laws_eqWindow.sig) := .nil
def laws_eqWindow.ent : Ent := ⟨83, laws_eqWindow.sig, laws_eqWindow.F⟩
def laws_eqWindow.ctx (k : Nat) : Ctx := ⟨tds, [], k, 15⟩
theorem laws_eqWindow.runs (k : Nat) (x : Args laws_eqWindow.sig.ps) : laws_eqWindow.F k x = runF (laws_eqWindow.ctx k) laws_eqWindow.sig Try.f83 (Try.f83.body.getD .skip) (laws_eqWindow.ann k) x := by kernel_rfl
theorem laws_eqWindow.obls (k : Nat) : obl (laws_eqWindow.ctx k) 0 (Try.f83.body.getD .skip) (laws_eqWindow.ann k) (retK tds laws_eqWindow.sig Try.f83.results.toList) := ⟨trivial, ⟨⟨trivial, ⟨⟨trivial, trivial⟩, trivial⟩⟩, ⟨⟨trivial, ⟨⟨trivial, trivial⟩, trivial⟩⟩, ⟨trivial, trivial⟩⟩⟩⟩
theorem laws_eqWindow.ok (k : Nat) : EntOk Try.prog k laws_eqWindow.ent := fn_ok (C := laws_eqWindow.ctx k) Try.func83 (by kernel_rfl) (by kernel_rfl) mixed tdsOk EntsOk.nil (by kernel_rfl) (Nat.le_of_ble_eq_true (by kernel_rfl)) (by kernel_rfl) (laws_eqWindow.runs k) (laws_eqWindow.obls k)
/-! loop.example/g00200/laws.eqWindowS -/
def laws_eqWindowS.l1 (k : Nat)  : Nat → Int × (List (Int × Int)) × (List (Int × Int)) × Unit → Option (Bool)
  | 0, _ => none
  | n + 1, (x1, x2, x3, _) => if x1 < (x2.length : Int) then (if 0 ≤ x1 then (if x1 < (x2.length : Int) then (if 0 ≤ x1 then (if x1 < (x3.length : Int) then ((laws_eqWindow.f k (el (.pair (.int .i64) (.int .i64)) x2 x1.toNat) (el (.pair (.int .i64) (.int .i64)) x3 x1.toNat)).bind fun t1 => (if ¬ t1 = true then (some false) else (laws_eqWindowS.l1 k n (w64 (x1 + 1), x2, x3, ())))) else none) else none) else none) else none) else (some true)
def laws_eqWindowS.f (k : Nat) (a0 : List (Int × Int)) (a1 : List (Int × Int)) : Option (Bool) :=
  if ¬ (a0.length : Int) = (a1.length : Int) then (some false) else (laws_eqWindowS.l1 k k (0, a0, a1, ()))
def laws_eqWindowS.Sl1 : Shape := ⟨[(0, false, [.own 0]), (1, false, [.own 1]), (5, false, [.int .i64])], [(0, .view false 57 (.pair (.int .i64) (.int .i64))), (1, .view false 57 (.pair (.int .i64) (.int .i64)))], 2⟩
def laws_eqWindowS.sig : Sig := ⟨[.val false (.sl 57 (.pair (.int .i64) (.int .i64))) [0], .val false (.sl 57 (.pair (.int .i64) (.int .i64))) [0]], [.val false .bool []]⟩
def laws_eqWindowS.F (k : Nat) (x : Args laws_eqWindowS.sig.ps) : Option (Res laws_eqWindowS.sig) := laws_eqWindowS.f k x.1 x.2.1
def laws_eqWindowS.ann (k : Nat) : Ann (Res laws_eqWindowS.sig) := (.seq .nil (.seq .nil (.seq (.seq .nil (.block (.loop laws_eqWindowS.Sl1 (laws_eqWindowS.l1 k) fun n1 => .nil))) .nil)))
def laws_eqWindowS.ent : Ent := ⟨32, laws_eqWindowS.sig, laws_eqWindowS.F⟩
def laws_eqWindowS.ctx (k : Nat) : Ctx := ⟨tds, [laws_eqWindow.ent], k, 27⟩
theorem laws_eqWindowS.runs (k : Nat) (x : Args laws_eqWindowS.sig.ps) : laws_eqWindowS.F k x = runF (laws_eqWindowS.ctx k) laws_eqWindowS.sig Try.f32 (Try.f32.body.getD .skip) (laws_eqWindowS.ann k) x := by kernel_rfl
theorem laws_eqWindowS.obls (k : Nat) : obl (laws_eqWindowS.ctx k) 2 (Try.f32.body.getD .skip) (laws_eqWindowS.ann k) (retK tds laws_eqWindowS.sig Try.f32.results.toList) := ⟨trivial, ⟨⟨trivial, ⟨⟨trivial, trivial⟩, trivial⟩⟩, ⟨⟨trivial, ⟨⟨by kernel_rfl, fun x => by kernel_rfl⟩, fun n => ⟨fun x => by kernel_rfl, ⟨⟨trivial, ⟨trivial, trivial⟩⟩, ⟨⟨trivial, ⟨⟨trivial, trivial⟩, trivial⟩⟩, trivial⟩⟩⟩⟩⟩, ⟨trivial, trivial⟩⟩⟩⟩
theorem laws_eqWindowS.ok (k : Nat) : EntOk Try.prog k laws_eqWindowS.ent := fn_ok (C := laws_eqWindowS.ctx k) Try.func32 (by kernel_rfl) (by kernel_rfl) mixed tdsOk (.cons (laws_eqWindow.ok k) EntsOk.nil) (by kernel_rfl) (Nat.le_of_ble_eq_true (by kernel_rfl)) (by kernel_rfl) (laws_eqWindowS.runs k) (laws_eqWindowS.obls k)
/-! loop.example/g00200/laws.eqIntS -/
def laws_eqIntS.l1 (k : Nat)  : Nat → Int × List Int × List Int × Unit → Option (Bool)
  | 0, _ => none
  | n + 1, (x1, x2, x3, _) => if x1 < (x2.length : Int) then (if 0 ≤ x1 then (if x1 < (x2.length : Int) then (if 0 ≤ x1 then (if x1 < (x3.length : Int) then (if ¬ (el (.int .i64) x2 x1.toNat) = (el (.int .i64) x3 x1.toNat) then (some false) else (laws_eqIntS.l1 k n (w64 (x1 + 1), x2, x3, ()))) else none) else none) else none) else none) else (some true)
def laws_eqIntS.f (k : Nat) (a0 : List Int) (a1 : List Int) : Option (Bool) :=
  if ¬ (a0.length : Int) = (a1.length : Int) then (some false) else (laws_eqIntS.l1 k k (0, a0, a1, ()))
def laws_eqIntS.Sl1 : Shape := ⟨[(0, false, [.own 0]), (1, false, [.own 1]), (5, false, [.int .i64])], [(0, .view false 3 (.int .i64)), (1, .view false 3 (.int .i64))], 2⟩
def laws_eqIntS.sig : Sig := ⟨[.val false (.sl 3 (.int .i64)) [0], .val false (.sl 3 (.int .i64)) [0]], [.val false .bool []]⟩
def laws_eqIntS.F (k : Nat) (x : Args laws_eqIntS.sig.ps) : Option (Res laws_eqIntS.sig) := laws_eqIntS.f k x.1 x.2.1
def laws_eqIntS.ann (k : Nat) : Ann (Res laws_eqIntS.sig) := (.seq .nil (.seq .nil (.seq (.seq .nil (.block (.loop laws_eqIntS.Sl1 (laws_eqIntS.l1 k) fun n1 => .nil))) .nil)))
def laws_eqIntS.ent : Ent := ⟨33, laws_eqIntS.sig, laws_eqIntS.F⟩
def laws_eqIntS.ctx (k : Nat) : Ctx := ⟨tds, [], k, 26⟩
theorem laws_eqIntS.runs (k : Nat) (x : Args laws_eqIntS.sig.ps) : laws_eqIntS.F k x = runF (laws_eqIntS.ctx k) laws_eqIntS.sig Try.f33 (Try.f33.body.getD .skip) (laws_eqIntS.ann k) x := by kernel_rfl
theorem laws_eqIntS.obls (k : Nat) : obl (laws_eqIntS.ctx k) 2 (Try.f33.body.getD .skip) (laws_eqIntS.ann k) (retK tds laws_eqIntS.sig Try.f33.results.toList) := ⟨trivial, ⟨⟨trivial, ⟨⟨trivial, trivial⟩, trivial⟩⟩, ⟨⟨trivial, ⟨⟨by kernel_rfl, fun x => by kernel_rfl⟩, fun n => ⟨fun x => by kernel_rfl, ⟨⟨trivial, ⟨trivial, trivial⟩⟩, ⟨⟨trivial, ⟨⟨trivial, trivial⟩, trivial⟩⟩, trivial⟩⟩⟩⟩⟩, ⟨trivial, trivial⟩⟩⟩⟩
theorem laws_eqIntS.ok (k : Nat) : EntOk Try.prog k laws_eqIntS.ent := fn_ok (C := laws_eqIntS.ctx k) Try.func33 (by kernel_rfl) (by kernel_rfl) mixed tdsOk EntsOk.nil (by kernel_rfl) (Nat.le_of_ble_eq_true (by kernel_rfl)) (by kernel_rfl) (laws_eqIntS.runs k) (laws_eqIntS.obls k)
/-! loop.example/g00200/laws.markIntS -/
def laws_markIntS.l1 (k : Nat)  : Nat → Int × Int × List Int × Unit → Option (Int × List Int)
  | 0, _ => none
  | n + 1, (x1, x2, x3, _) => if x2 < (x3.length : Int) then (if 0 ≤ x2 then (if x2 < (x3.length : Int) then (((some (x3.set x2.toNat x1))).bind fun y1 => (laws_markIntS.l1 k n (w64 (x1 + 1), w64 (x2 + 1), y1, ()))) else none) else none) else (some (x1, x3))
def laws_markIntS.f (k : Nat) (a0 : List Int) (a1 : Int) : Option (Int × List Int) :=
  laws_markIntS.l1 k k (a1, 0, a0, ())
def laws_markIntS.Sl1 : Shape := ⟨[(0, false, [.own 0]), (1, false, [.int .i64]), (5, false, [.int .i64])], [(0, .row 3 (.int .i64))], 1⟩
def laws_markIntS.sig : Sig := ⟨[.val false (.sl 3 (.int .i64)) [1], .val false (.int .i64) []], [.val false (.int .i64) []]⟩
def laws_markIntS.F (k : Nat) (x : Args laws_markIntS.sig.ps) : Option (Res laws_markIntS.sig) := laws_markIntS.f k x.1 x.2.1
def laws_markIntS.ann (k : Nat) : Ann (Res laws_markIntS.sig) := (.seq .nil (.seq (.seq .nil (.block (.loop laws_markIntS.Sl1 (laws_markIntS.l1 k) fun n1 => .nil))) .nil))
def laws_markIntS.ent : Ent := ⟨34, laws_markIntS.sig, laws_markIntS.F⟩
def laws_markIntS.ctx (k : Nat) : Ctx := ⟨tds, [], k, 19⟩
theorem laws_markIntS.runs (k : Nat) (x : Args laws_markIntS.sig.ps) : laws_markIntS.F k x = runF (laws_markIntS.ctx k) laws_markIntS.sig Try.f34 (Try.f34.body.getD .skip) (laws_markIntS.ann k) x := by kernel_rfl
theorem laws_markIntS.obls (k : Nat) : obl (laws_markIntS.ctx k) 1 (Try.f34.body.getD .skip) (laws_markIntS.ann k) (retK tds laws_markIntS.sig Try.f34.results.toList) := ⟨trivial, ⟨⟨trivial, ⟨⟨by kernel_rfl, fun x => by kernel_rfl⟩, fun n => ⟨fun x => by kernel_rfl, ⟨⟨trivial, ⟨trivial, trivial⟩⟩, ⟨⟨trivial, trivial⟩, trivial⟩⟩⟩⟩⟩, ⟨trivial, trivial⟩⟩⟩
theorem laws_markIntS.ok (k : Nat) : EntOk Try.prog k laws_markIntS.ent := fn_ok (C := laws_markIntS.ctx k) Try.func34 (by kernel_rfl) (by kernel_rfl) mixed tdsOk EntsOk.nil (by kernel_rfl) (Nat.le_of_ble_eq_true (by kernel_rfl)) (by kernel_rfl) (laws_markIntS.runs k) (laws_markIntS.obls k)
/-! loop.example/g00200/laws.markWindowS -/
def laws_markWindowS.l1 (k : Nat)  : Nat → Int × Int × (List (Int × Int)) × Unit → Option (Int × List (Int × Int))
  | 0, _ => none
  | n + 1, (x1, x2, x3, _) => if x2 < (x3.length : Int) then (if 0 ≤ x2 then (if x2 < (x3.length : Int) then (((some (x3.set x2.toNat (x1, (el (.pair (.int .i64) (.int .i64)) x3 x2.toNat).2)))).bind fun y1 => (if 0 ≤ x2 then (if x2 < (y1.length : Int) then (((some (y1.set x2.toNat ((el (.pair (.int .i64) (.int .i64)) y1 x2.toNat).1, w64 (x1 + 1))))).bind fun y2 => (laws_markWindowS.l1 k n (w64 ((w64 (x1 + 1)) + 1), w64 (x2 + 1), y2, ()))) else none) else none)) else none) else none) else (some (x1, x3))
def laws_markWindowS.f (k : Nat) (a0 : List (Int × Int)) (a1 : Int) : Option (Int × List (Int × Int)) :=
  laws_markWindowS.l1 k k (a1, 0, a0, ())
def laws_markWindowS.Sl1 : Shape := ⟨[(0, false, [.own 0]), (1, false, [.int .i64]), (5, false, [.int .i64])], [(0, .row 57 (.pair (.int .i64) (.int .i64)))], 1⟩
def laws_markWindowS.sig : Sig := ⟨[.val false (.sl 57 (.pair (.int .i64) (.int .i64))) [1], .val false (.int .i64) []], [.val false (.int .i64) []]⟩
def laws_markWindowS.F (k : Nat) (x : Args laws_markWindowS.sig.ps) : Option (Res laws_markWindowS.sig) := laws_markWindowS.f k x.1 x.2.1
def laws_markWindowS.ann (k : Nat) : Ann (Res laws_markWindowS.sig) := (.seq .nil (.seq (.seq .nil (.block (.loop laws_markWindowS.Sl1 (laws_markWindowS.l1 k) fun n1 => .nil))) .nil))
def laws_markWindowS.ent : Ent := ⟨35, laws_markWindowS.sig, laws_markWindowS.F⟩
def laws_markWindowS.ctx (k : Nat) : Ctx := ⟨tds, [], k, 27⟩
theorem laws_markWindowS.runs (k : Nat) (x : Args laws_markWindowS.sig.ps) : laws_markWindowS.F k x = runF (laws_markWindowS.ctx k) laws_markWindowS.sig Try.f35 (Try.f35.body.getD .skip) (laws_markWindowS.ann k) x := by kernel_rfl
theorem laws_markWindowS.obls (k : Nat) : obl (laws_markWindowS.ctx k) 1 (Try.f35.body.getD .skip) (laws_markWindowS.ann k) (retK tds laws_markWindowS.sig Try.f35.results.toList) := ⟨trivial, ⟨⟨trivial, ⟨⟨by kernel_rfl, fun x => by kernel_rfl⟩, fun n => ⟨fun x => by kernel_rfl, ⟨⟨trivial, ⟨trivial, trivial⟩⟩, ⟨⟨trivial, ⟨trivial, ⟨trivial, trivial⟩⟩⟩, trivial⟩⟩⟩⟩⟩, ⟨trivial, trivial⟩⟩⟩
theorem laws_markWindowS.ok (k : Nat) : EntOk Try.prog k laws_markWindowS.ent := fn_ok (C := laws_markWindowS.ctx k) Try.func35 (by kernel_rfl) (by kernel_rfl) mixed tdsOk EntsOk.nil (by kernel_rfl) (Nat.le_of_ble_eq_true (by kernel_rfl)) (by kernel_rfl) (laws_markWindowS.runs k) (laws_markWindowS.obls k)
/-! loop.example/g00200/laws.heldWindowS -/
def laws_heldWindowS.l1 (k : Nat)  : Nat → Int × Int × (List (Int × Int)) × Unit → Option (Int)
  | 0, _ => none
  | n + 1, (x1, x2, x3, _) => if x2 < (x3.length : Int) then (if 0 ≤ x2 then (if x2 < (x3.length : Int) then (if ¬ ((el (.pair (.int .i64) (.int .i64)) x3 x2.toNat).1) = x1 then (some (-1)) else (if 0 ≤ x2 then (if x2 < (x3.length : Int) then (if ¬ ((el (.pair (.int .i64) (.int .i64)) x3 x2.toNat).2) = (w64 (x1 + 1)) then (some (-1)) else (laws_heldWindowS.l1 k n (w64 ((w64 (x1 + 1)) + 1), w64 (x2 + 1), x3, ()))) else none) else none)) else none) else none) else (some x1)
def laws_heldWindowS.f (k : Nat) (a0 : List (Int × Int)) (a1 : Int) : Option (Int) :=
  laws_heldWindowS.l1 k k (a1, 0, a0, ())
def laws_heldWindowS.Sl1 : Shape := ⟨[(0, false, [.own 0]), (1, false, [.int .i64]), (5, false, [.int .i64])], [(0, .view false 57 (.pair (.int .i64) (.int .i64)))], 1⟩
def laws_heldWindowS.sig : Sig := ⟨[.val false (.sl 57 (.pair (.int .i64) (.int .i64))) [0], .val false (.int .i64) []], [.val false (.int .i64) []]⟩
def laws_heldWindowS.F (k : Nat) (x : Args laws_heldWindowS.sig.ps) : Option (Res laws_heldWindowS.sig) := laws_heldWindowS.f k x.1 x.2.1
def laws_heldWindowS.ann (k : Nat) : Ann (Res laws_heldWindowS.sig) := (.seq .nil (.seq (.seq .nil (.block (.loop laws_heldWindowS.Sl1 (laws_heldWindowS.l1 k) fun n1 => .nil))) .nil))
def laws_heldWindowS.ent : Ent := ⟨36, laws_heldWindowS.sig, laws_heldWindowS.F⟩
def laws_heldWindowS.ctx (k : Nat) : Ctx := ⟨tds, [], k, 31⟩
theorem laws_heldWindowS.runs (k : Nat) (x : Args laws_heldWindowS.sig.ps) : laws_heldWindowS.F k x = runF (laws_heldWindowS.ctx k) laws_heldWindowS.sig Try.f36 (Try.f36.body.getD .skip) (laws_heldWindowS.ann k) x := by kernel_rfl
theorem laws_heldWindowS.obls (k : Nat) : obl (laws_heldWindowS.ctx k) 1 (Try.f36.body.getD .skip) (laws_heldWindowS.ann k) (retK tds laws_heldWindowS.sig Try.f36.results.toList) := ⟨trivial, ⟨⟨trivial, ⟨⟨by kernel_rfl, fun x => by kernel_rfl⟩, fun n => ⟨fun x => by kernel_rfl, ⟨⟨trivial, ⟨trivial, trivial⟩⟩, ⟨⟨⟨trivial, ⟨⟨trivial, trivial⟩, trivial⟩⟩, ⟨trivial, ⟨⟨trivial, ⟨⟨trivial, trivial⟩, trivial⟩⟩, trivial⟩⟩⟩, trivial⟩⟩⟩⟩⟩, ⟨trivial, trivial⟩⟩⟩
theorem laws_heldWindowS.ok (k : Nat) : EntOk Try.prog k laws_heldWindowS.ent := fn_ok (C := laws_heldWindowS.ctx k) Try.func36 (by kernel_rfl) (by kernel_rfl) mixed tdsOk EntsOk.nil (by kernel_rfl) (Nat.le_of_ble_eq_true (by kernel_rfl)) (by kernel_rfl) (laws_heldWindowS.runs k) (laws_heldWindowS.obls k)
/-! loop.example/g00200/spec.l01PickInt -/
def spec_l01PickInt.f (k : Nat) (a0 : List Int × Int × Int) (a1 : List Int) : Option (Int × List Int × Int × Int) :=
  (spec_l01Below.f k a0 (a1.length : Int)).bind fun t1 => (if 0 ≤ t1.1 then (if t1.1 < (a1.length : Int) then (some (el (.int .i64) a1 t1.1.toNat, (a0.1, t1.2.2))) else none) else none)
def spec_l01PickInt.sig : Sig := ⟨[.ptr 147 (.pair (.sl 5 (.int .u8)) (.pair (.int .i64) (.int .i64))) [0], .val false (.sl 3 (.int .i64)) [0]], [.val false (.int .i64) []]⟩
def spec_l01PickInt.F (k : Nat) (x : Args spec_l01PickInt.sig.ps) : Option (Res spec_l01PickInt.sig) := spec_l01PickInt.f k x.1 x.2.1
def spec_l01PickInt.ann (k : Nat) : Ann (Res spec_l01PickInt.sig) := .nil
def spec_l01PickInt.ent : Ent := ⟨84, spec_l01PickInt.sig, spec_l01PickInt.F⟩
def spec_l01PickInt.ctx (k : Nat) : Ctx := ⟨tds, [spec_l01Below.ent], k, 12⟩
theorem spec_l01PickInt.runs (k : Nat) (x : Args spec_l01PickInt.sig.ps) : spec_l01PickInt.F k x = runF (spec_l01PickInt.ctx k) spec_l01PickInt.sig Try.f84 (Try.f84.body.getD .skip) (spec_l01PickInt.ann k) x := by kernel_rfl
theorem spec_l01PickInt.obls (k : Nat) : obl (spec_l01PickInt.ctx k) 3 (Try.f84.body.getD .skip) (spec_l01PickInt.ann k) (retK tds spec_l01PickInt.sig Try.f84.results.toList) := ⟨trivial, ⟨trivial, trivial⟩⟩
theorem spec_l01PickInt.ok (k : Nat) : EntOk Try.prog k spec_l01PickInt.ent := fn_ok (C := spec_l01PickInt.ctx k) Try.func84 (by kernel_rfl) (by kernel_rfl) mixed tdsOk (.cons (spec_l01Below.ok k) EntsOk.nil) (by kernel_rfl) (Nat.le_of_ble_eq_true (by kernel_rfl)) (by kernel_rfl) (spec_l01PickInt.runs k) (spec_l01PickInt.obls k)
/-! loop.example/g00200/spec.DrawHarmonic -/
def spec_DrawHarmonic.l1 (k : Nat)  : Nat → Int × Int × Int × List Int × List Int × List Int × Unit → Option (List Int × List Int)
  | 0, _ => none
  | n + 1, (x1, x2, x3, x4, x5, x6, _) => (spec_l01Below.f k (x4, (x2, x3)) 4).bind fun t4 => (if x1 < (w64 (1 + t4.1)) then (((some ([1, 2, 4, 4, 8] : List Int))).bind fun y5 => ((spec_l01PickInt.f k (x4, t4.2.2) y5).bind fun t6 => (((some ([t6.1] : List Int))).bind fun y7 => (if (x5.length + y7.length) * 8 ≤ 140737488355328 then (((some (x5 ++ y7))).bind fun y8 => ((spec_l01Below.f k (x4, t6.2.2) 50).bind fun t9 => (((some ([w64 (1 + t9.1)] : List Int))).bind fun y10 => (if (x6.length + y10.length) * 8 ≤ 140737488355328 then (((some (x6 ++ y10))).bind fun y11 => (spec_DrawHarmonic.l1 k n (w64 (x1 + 1), t9.2.2.1, t9.2.2.2, x4, y8, y11, ()))) else none)))) else none)))) else ((spec_l01Below.f k (x4, t4.2.2) 10).bind fun t12 => (if t12.1 = 0 then (((some ([0, 3, 8, 9] : List Int))).bind fun y13 => ((spec_l01PickInt.f k (x4, t12.2.2) y13).bind fun t14 => (if 0 ≤ 0 then (if 0 < (x5.length : Int) then (((some (x5.set 0 t14.1))).bind fun y15 => (some (y15, x6))) else none) else none))) else (if t12.1 = 1 then (((some ([0, 200, 201] : List Int))).bind fun y16 => ((spec_l01PickInt.f k (x4, t12.2.2) y16).bind fun t17 => (if 0 ≤ 0 then (if 0 < (x6.length : Int) then (((some (x6.set 0 t17.1))).bind fun y18 => (some (x5, y18))) else none) else none))) else (if t12.1 = 2 then (if 0 ≤ 1 then (if 1 ≤ (x6.length : Int) then (some (x5, x6.drop 1)) else none) else none) else (some (x5, x6)))))))
def spec_DrawHarmonic.f (k : Nat) (a0 : List Int) : Option (List Int × List Int) :=
  (spec_l01New.f k a0).bind fun t1 => (((some ([] : List Int))).bind fun y2 => (((some ([] : List Int))).bind fun y3 => (spec_DrawHarmonic.l1 k k (0, t1.2.1, t1.2.2, a0, y2, y3, ()))))
def spec_DrawHarmonic.Sl1 : Shape := ⟨[(4, false, [.ptr 1 0]), (5, false, [.own 2]), (6, false, [.own 3]), (7, false, [.int .i64])], [(1, .blk 147 [.own 0, .int .i64, .int .i64]), (0, .view false 5 (.int .u8)), (2, .row 3 (.int .i64)), (3, .row 3 (.int .i64))], 4⟩
def spec_DrawHarmonic.sig : Sig := ⟨[.val false (.sl 5 (.int .u8)) [0]], [.val false (.sl 3 (.int .i64)) [none], .val false (.sl 3 (.int .i64)) [none]]⟩
def spec_DrawHarmonic.F (k : Nat) (x : Args spec_DrawHarmonic.sig.ps) : Option (Res spec_DrawHarmonic.sig) := spec_DrawHarmonic.f k x.1
def spec_DrawHarmonic.ann (k : Nat) : Ann (Res spec_DrawHarmonic.sig) := (.seq .nil (.seq .nil (.seq .nil (.seq .nil (.seq (.seq .nil (.block (.loop spec_DrawHarmonic.Sl1 (spec_DrawHarmonic.l1 k) fun n1 => .nil))) .nil)))))
def spec_DrawHarmonic.ent : Ent := ⟨37, spec_DrawHarmonic.sig, spec_DrawHarmonic.F⟩
def spec_DrawHarmonic.ctx (k : Nat) : Ctx := ⟨tds, [spec_l01New.ent, spec_l01Below.ent, spec_l01PickInt.ent], k, 53⟩
theorem spec_DrawHarmonic.runs (k : Nat) (x : Args spec_DrawHarmonic.sig.ps) : spec_DrawHarmonic.F k x = runF (spec_DrawHarmonic.ctx k) spec_DrawHarmonic.sig Try.f37 (Try.f37.body.getD .skip) (spec_DrawHarmonic.ann k) x := by kernel_rfl
theorem spec_DrawHarmonic.obls (k : Nat) : obl (spec_DrawHarmonic.ctx k) 1 (Try.f37.body.getD .skip) (spec_DrawHarmonic.ann k) (retK tds spec_DrawHarmonic.sig Try.f37.results.toList) := ⟨trivial, ⟨trivial, ⟨trivial, ⟨trivial, ⟨⟨trivial, ⟨⟨by kernel_rfl, fun x => by kernel_rfl⟩, fun n => ⟨fun x => by kernel_rfl, ⟨⟨trivial, ⟨trivial, trivial⟩⟩, ⟨⟨trivial, trivial⟩, trivial⟩⟩⟩⟩⟩, ⟨⟨trivial, ⟨trivial, ⟨trivial, ⟨trivial, ⟨trivial, ⟨trivial, ⟨trivial, trivial⟩⟩⟩⟩⟩⟩⟩, ⟨trivial, trivial⟩⟩⟩⟩⟩⟩⟩
theorem spec_DrawHarmonic.ok (k : Nat) : EntOk Try.prog k spec_DrawHarmonic.ent := fn_ok (C := spec_DrawHarmonic.ctx k) Try.func37 (by kernel_rfl) (by kernel_rfl) mixed tdsOk (.cons (spec_l01New.ok k) (.cons (spec_l01Below.ok k) (.cons (spec_l01PickInt.ok k) EntsOk.nil))) (by kernel_rfl) (Nat.le_of_ble_eq_true (by kernel_rfl)) (by kernel_rfl) (spec_DrawHarmonic.runs k) (spec_DrawHarmonic.obls k)
/-! loop.example/g00200/impl.TimeOf -/
def impl_TimeOf.l1 (k : Nat)  : Nat → Int × Int × Int × Int × (List (Int × Int)) × Unit → Option (Int)
  | 0, _ => none
  | n + 1, (x1, x2, x3, x4, x5, _) => if x4 < x3 then (if 0 ≤ x4 then (if x4 < (x5.length : Int) then (if ((el (.pair (.int .i64) (.int .i64)) x5 x4.toNat).1) = x1 then (impl_TimeOf.l1 k n (x1, w64 (x2 + ((el (.pair (.int .i64) (.int .i64)) x5 x4.toNat).2)), x3, w64 (x4 + 1), x5, ())) else (impl_TimeOf.l1 k n (x1, x2, x3, w64 (x4 + 1), x5, ()))) else none) else none) else (some x2)
def impl_TimeOf.f (k : Nat) (a0 : List (Int × Int)) (a1 : Int) : Option (Int) :=
  impl_TimeOf.l1 k k (a1, 0, (a0.length : Int), 0, a0, ())
def impl_TimeOf.Sl1 : Shape := ⟨[(1, false, [.int .i64]), (5, false, [.int .i64]), (8, false, [.own 0]), (9, false, [.int .i64]), (10, false, [.int .i64])], [(0, .view false 57 (.pair (.int .i64) (.int .i64)))], 1⟩
def impl_TimeOf.sig : Sig := ⟨[.val false (.sl 57 (.pair (.int .i64) (.int .i64))) [0], .val false (.int .i64) []], [.val false (.int .i64) []]⟩
def impl_TimeOf.F (k : Nat) (x : Args impl_TimeOf.sig.ps) : Option (Res impl_TimeOf.sig) := impl_TimeOf.f k x.1 x.2.1
def impl_TimeOf.ann (k : Nat) : Ann (Res impl_TimeOf.sig) := (.seq .nil (.seq .nil (.seq (.seq .nil (.block (.loop impl_TimeOf.Sl1 (impl_TimeOf.l1 k) fun n1 => .nil))) .nil)))
def impl_TimeOf.ent : Ent := ⟨38, impl_TimeOf.sig, impl_TimeOf.F⟩
def impl_TimeOf.ctx (k : Nat) : Ctx := ⟨tds, [], k, 24⟩
theorem impl_TimeOf.runs (k : Nat) (x : Args impl_TimeOf.sig.ps) : impl_TimeOf.F k x = runF (impl_TimeOf.ctx k) impl_TimeOf.sig Try.f38 (Try.f38.body.getD .skip) (impl_TimeOf.ann k) x := by kernel_rfl
theorem impl_TimeOf.obls (k : Nat) : obl (impl_TimeOf.ctx k) 1 (Try.f38.body.getD .skip) (impl_TimeOf.ann k) (retK tds impl_TimeOf.sig Try.f38.results.toList) := ⟨trivial, ⟨trivial, ⟨⟨trivial, ⟨⟨by kernel_rfl, fun x => by kernel_rfl⟩, fun n => ⟨fun x => by kernel_rfl, ⟨trivial, ⟨⟨trivial, trivial⟩, ⟨⟨trivial, ⟨trivial, ⟨trivial, trivial⟩⟩⟩, trivial⟩⟩⟩⟩⟩⟩, ⟨trivial, trivial⟩⟩⟩⟩
theorem impl_TimeOf.ok (k : Nat) : EntOk Try.prog k impl_TimeOf.ent := fn_ok (C := impl_TimeOf.ctx k) Try.func38 (by kernel_rfl) (by kernel_rfl) mixed tdsOk EntsOk.nil (by kernel_rfl) (Nat.le_of_ble_eq_true (by kernel_rfl)) (by kernel_rfl) (impl_TimeOf.runs k) (impl_TimeOf.obls k)
/-! loop.example/g00200/impl.PlanOk -/
def impl_PlanOk.l1 (k : Nat)  : Nat → Int × Int × (List (Int × Int)) × Unit → Option (Bool)
  | 0, _ => none
  | n + 1, (x1, x2, x3, _) => if x2 < x1 then (if 0 ≤ x2 then (if x2 < (x3.length : Int) then ((impl_isPart.f k ((el (.pair (.int .i64) (.int .i64)) x3 x2.toNat).1)).bind fun t1 => (if ¬ t1 = true then (some false) else ((impl_isBudget.f k ((el (.pair (.int .i64) (.int .i64)) x3 x2.toNat).2)).bind fun t2 => (if ¬ t2 = true then (some false) else (impl_PlanOk.l1 k n (x1, w64 (x2 + 1), x3, ())))))) else none) else none) else ((impl_within.f k (x3.length : Int) 1 12).bind fun t3 => (some t3))
def impl_PlanOk.f (k : Nat) (a0 : List (Int × Int)) : Option (Bool) :=
  impl_PlanOk.l1 k k ((a0.length : Int), 0, a0, ())
def impl_PlanOk.Sl1 : Shape := ⟨[(0, false, [.own 0]), (5, false, [.own 0]), (6, false, [.int .i64]), (7, false, [.int .i64])], [(0, .view false 57 (.pair (.int .i64) (.int .i64)))], 1⟩
def impl_PlanOk.sig : Sig := ⟨[.val false (.sl 57 (.pair (.int .i64) (.int .i64))) [0]], [.val false .bool []]⟩
def impl_PlanOk.F (k : Nat) (x : Args impl_PlanOk.sig.ps) : Option (Res impl_PlanOk.sig) := impl_PlanOk.f k x.1
def impl_PlanOk.ann (k : Nat) : Ann (Res impl_PlanOk.sig) := (.seq .nil (.seq (.seq .nil (.block (.loop impl_PlanOk.Sl1 (impl_PlanOk.l1 k) fun n1 => .nil))) .nil))
def impl_PlanOk.ent : Ent := ⟨39, impl_PlanOk.sig, impl_PlanOk.F⟩
def impl_PlanOk.ctx (k : Nat) : Ctx := ⟨tds, [impl_isPart.ent, impl_within.ent, impl_isBudget.ent], k, 25⟩
theorem impl_PlanOk.runs (k : Nat) (x : Args impl_PlanOk.sig.ps) : impl_PlanOk.F k x = runF (impl_PlanOk.ctx k) impl_PlanOk.sig Try.f39 (Try.f39.body.getD .skip) (impl_PlanOk.ann k) x := by kernel_rfl
theorem impl_PlanOk.obls (k : Nat) : obl (impl_PlanOk.ctx k) 1 (Try.f39.body.getD .skip) (impl_PlanOk.ann k) (retK tds impl_PlanOk.sig Try.f39.results.toList) := ⟨trivial, ⟨⟨trivial, ⟨⟨by kernel_rfl, fun x => by kernel_rfl⟩, fun n => ⟨fun x => by kernel_rfl, ⟨trivial, ⟨⟨trivial, trivial⟩, ⟨⟨trivial, ⟨trivial, ⟨⟨trivial, trivial⟩, trivial⟩⟩⟩, trivial⟩⟩⟩⟩⟩⟩, ⟨trivial, trivial⟩⟩⟩
theorem impl_PlanOk.ok (k : Nat) : EntOk Try.prog k impl_PlanOk.ent := fn_ok (C := impl_PlanOk.ctx k) Try.func39 (by kernel_rfl) (by kernel_rfl) mixed tdsOk (.cons (impl_isPart.ok k) (.cons (impl_within.ok k) (.cons (impl_isBudget.ok k) EntsOk.nil))) (by kernel_rfl) (Nat.le_of_ble_eq_true (by kernel_rfl)) (by kernel_rfl) (impl_PlanOk.runs k) (impl_PlanOk.obls k)
/-! loop.example/g00200/spec.ReadSense -/
def spec_ReadSense.l1 (k : Nat)  : Nat → ByteArray × Int × Unit → Option (Int × Bool)
  | 0, _ => none
  | n + 1, (x1, x2, _) => if x2 < 16 then ((spec_SenseNames.f k x2).bind fun t1 => (if t1 = x1 then (some (x2, true)) else (spec_ReadSense.l1 k n (x1, w64 (x2 + 1), ())))) else (some (0, false))
def spec_ReadSense.f (k : Nat) (a0 : ByteArray) : Option (Int × Bool) :=
  spec_ReadSense.l1 k k (a0, 0, ())
def spec_ReadSense.Sl1 : Shape := ⟨[(0, false, [.str]), (4, false, [.int .i64])], [], 0⟩
def spec_ReadSense.sig : Sig := ⟨[.val false .str []], [.val false (.int .i64) [], .val false .bool []]⟩
def spec_ReadSense.F (k : Nat) (x : Args spec_ReadSense.sig.ps) : Option (Res spec_ReadSense.sig) := spec_ReadSense.f k x.1
def spec_ReadSense.ann (k : Nat) : Ann (Res spec_ReadSense.sig) := (.seq .nil (.seq (.seq .nil (.block (.loop spec_ReadSense.Sl1 (spec_ReadSense.l1 k) fun n1 => .nil))) .nil))
def spec_ReadSense.ent : Ent := ⟨40, spec_ReadSense.sig, spec_ReadSense.F⟩
def spec_ReadSense.ctx (k : Nat) : Ctx := ⟨tds, [spec_SenseNames.ent], k, 14⟩
theorem spec_ReadSense.runs (k : Nat) (x : Args spec_ReadSense.sig.ps) : spec_ReadSense.F k x = runF (spec_ReadSense.ctx k) spec_ReadSense.sig Try.f40 (Try.f40.body.getD .skip) (spec_ReadSense.ann k) x := by kernel_rfl
theorem spec_ReadSense.obls (k : Nat) : obl (spec_ReadSense.ctx k) 0 (Try.f40.body.getD .skip) (spec_ReadSense.ann k) (retK tds spec_ReadSense.sig Try.f40.results.toList) := ⟨trivial, ⟨⟨trivial, ⟨⟨by kernel_rfl, fun x => by kernel_rfl⟩, fun n => ⟨fun x => by kernel_rfl, ⟨⟨trivial, ⟨trivial, trivial⟩⟩, ⟨⟨trivial, ⟨⟨trivial, trivial⟩, trivial⟩⟩, trivial⟩⟩⟩⟩⟩, ⟨trivial, trivial⟩⟩⟩
theorem spec_ReadSense.ok (k : Nat) : EntOk Try.prog k spec_ReadSense.ent := fn_ok (C := spec_ReadSense.ctx k) Try.func40 (by kernel_rfl) (by kernel_rfl) mixed tdsOk (.cons (spec_SenseNames.ok k) EntsOk.nil) (by kernel_rfl) (Nat.le_of_ble_eq_true (by kernel_rfl)) (by kernel_rfl) (spec_ReadSense.runs k) (spec_ReadSense.obls k)
/-! loop.example/g00200/laws.szInstrS -/
def laws_szInstrS.f (k : Nat) (a0 : List (Int × Int)) (a1 : Int) : Option (Int) :=
  if (w64 (a1 - (a0.length : Int))) < 0 then (some (-1)) else (some (w64 (a1 - (a0.length : Int))))
def laws_szInstrS.sig : Sig := ⟨[.val false (.sl 117 (.pair (.int .i64) (.int .i64))) [0], .val false (.int .i64) []], [.val false (.int .i64) []]⟩
def laws_szInstrS.F (k : Nat) (x : Args laws_szInstrS.sig.ps) : Option (Res laws_szInstrS.sig) := laws_szInstrS.f k x.1 x.2.1
def laws_szInstrS.ann (k : Nat) : Ann (Res laws_szInstrS.sig) := .nil
def laws_szInstrS.ent : Ent := ⟨42, laws_szInstrS.sig, laws_szInstrS.F⟩
def laws_szInstrS.ctx (k : Nat) : Ctx := ⟨tds, [], k, 12⟩
theorem laws_szInstrS.runs (k : Nat) (x : Args laws_szInstrS.sig.ps) : laws_szInstrS.F k x = runF (laws_szInstrS.ctx k) laws_szInstrS.sig Try.f42 (Try.f42.body.getD .skip) (laws_szInstrS.ann k) x := by kernel_rfl
theorem laws_szInstrS.obls (k : Nat) : obl (laws_szInstrS.ctx k) 1 (Try.f42.body.getD .skip) (laws_szInstrS.ann k) (retK tds laws_szInstrS.sig Try.f42.results.toList) := ⟨trivial, ⟨trivial, ⟨⟨trivial, ⟨⟨trivial, trivial⟩, trivial⟩⟩, ⟨trivial, trivial⟩⟩⟩⟩
theorem laws_szInstrS.ok (k : Nat) : EntOk Try.prog k laws_szInstrS.ent := fn_ok (C := laws_szInstrS.ctx k) Try.func42 (by kernel_rfl) (by kernel_rfl) mixed tdsOk EntsOk.nil (by kernel_rfl) (Nat.le_of_ble_eq_true (by kernel_rfl)) (by kernel_rfl) (laws_szInstrS.runs k) (laws_szInstrS.obls k)
/-! loop.example/g00200/laws.toInstr -/
def laws_toInstr.f (k : Nat) (a0 : Int × Int) : Option (Int × Int) :=
  some a0
def laws_toInstr.sig : Sig := ⟨[.val true (.pair (.int .i64) (.int .i64)) []], [.val true (.pair (.int .i64) (.int .i64)) []]⟩
def laws_toInstr.F (k : Nat) (x : Args laws_toInstr.sig.ps) : Option (Res laws_toInstr.sig) := laws_toInstr.f k x.1
def laws_toInstr.ann (k : Nat) : Ann (Res laws_toInstr.sig) := .nil
def laws_toInstr.ent : Ent := ⟨88, laws_toInstr.sig, laws_toInstr.F⟩
def laws_toInstr.ctx (k : Nat) : Ctx := ⟨tds, [], k, 11⟩
theorem laws_toInstr.runs (k : Nat) (x : Args laws_toInstr.sig.ps) : laws_toInstr.F k x = runF (laws_toInstr.ctx k) laws_toInstr.sig Try.f88 (Try.f88.body.getD .skip) (laws_toInstr.ann k) x := by kernel_rfl
theorem laws_toInstr.obls (k : Nat) : obl (laws_toInstr.ctx k) 0 (Try.f88.body.getD .skip) (laws_toInstr.ann k) (retK tds laws_toInstr.sig Try.f88.results.toList) := ⟨trivial, ⟨trivial, ⟨trivial, ⟨trivial, ⟨trivial, trivial⟩⟩⟩⟩⟩
theorem laws_toInstr.ok (k : Nat) : EntOk Try.prog k laws_toInstr.ent := fn_ok (C := laws_toInstr.ctx k) Try.func88 (by kernel_rfl) (by kernel_rfl) mixed tdsOk EntsOk.nil (by kernel_rfl) (Nat.le_of_ble_eq_true (by kernel_rfl)) (by kernel_rfl) (laws_toInstr.runs k) (laws_toInstr.obls k)
/-! loop.example/g00200/laws.toInstrS -/
def laws_toInstrS.l1 (k : Nat)  : Nat → Int × (List (Int × Int)) × (List (Int × Int)) × Unit → Option (List (Int × Int))
  | 0, _ => none
  | n + 1, (x1, x2, x3, _) => if x1 < (x2.length : Int) then (if 0 ≤ x1 then (if x1 < (x2.length : Int) then ((laws_toInstr.f k (el (.pair (.int .i64) (.int .i64)) x2 x1.toNat)).bind fun t2 => (if 0 ≤ x1 then (if x1 < (x3.length : Int) then (((some (x3.set x1.toNat t2))).bind fun y3 => (laws_toInstrS.l1 k n (w64 (x1 + 1), x2, y3, ()))) else none) else none)) else none) else none) else (some x3)
def laws_toInstrS.f (k : Nat) (a0 : List (Int × Int)) : Option (List (Int × Int)) :=
  if (a0.length : Int) = (a0.length : Int) then (if 0 ≤ (a0.length : Int) then (if ((a0.length : Int)).toNat * 16 ≤ 281474976710656 then (((some (List.replicate ((a0.length : Int)).toNat (0, 0) : List (Int × Int)))).bind fun y1 => (laws_toInstrS.l1 k k (0, a0, y1, ()))) else none) else none) else none
def laws_toInstrS.Sl1 : Shape := ⟨[(0, false, [.own 0]), (3, false, [.own 1]), (4, false, [.int .i64])], [(0, .view false 117 (.pair (.int .i64) (.int .i64))), (1, .row 113 (.pair (.int .i64) (.int .i64)))], 2⟩
def laws_toInstrS.sig : Sig := ⟨[.val false (.sl 117 (.pair (.int .i64) (.int .i64))) [0]], [.val false (.sl 113 (.pair (.int .i64) (.int .i64))) [none]]⟩
def laws_toInstrS.F (k : Nat) (x : Args laws_toInstrS.sig.ps) : Option (Res laws_toInstrS.sig) := laws_toInstrS.f k x.1
def laws_toInstrS.ann (k : Nat) : Ann (Res laws_toInstrS.sig) := (.seq .nil (.seq .nil (.seq (.seq .nil (.block (.loop laws_toInstrS.Sl1 (laws_toInstrS.l1 k) fun n1 => .nil))) .nil)))
def laws_toInstrS.ent : Ent := ⟨44, laws_toInstrS.sig, laws_toInstrS.F⟩
def laws_toInstrS.ctx (k : Nat) : Ctx := ⟨tds, [laws_toInstr.ent], k, 23⟩
theorem laws_toInstrS.runs (k : Nat) (x : Args laws_toInstrS.sig.ps) : laws_toInstrS.F k x = runF (laws_toInstrS.ctx k) laws_toInstrS.sig Try.f44 (Try.f44.body.getD .skip) (laws_toInstrS.ann k) x := by kernel_rfl
theorem laws_toInstrS.obls (k : Nat) : obl (laws_toInstrS.ctx k) 1 (Try.f44.body.getD .skip) (laws_toInstrS.ann k) (retK tds laws_toInstrS.sig Try.f44.results.toList) := ⟨trivial, ⟨trivial, ⟨⟨trivial, ⟨⟨by kernel_rfl, fun x => by kernel_rfl⟩, fun n => ⟨fun x => by kernel_rfl, ⟨⟨trivial, ⟨trivial, trivial⟩⟩, ⟨trivial, trivial⟩⟩⟩⟩⟩, ⟨trivial, trivial⟩⟩⟩⟩
theorem laws_toInstrS.ok (k : Nat) : EntOk Try.prog k laws_toInstrS.ent := fn_ok (C := laws_toInstrS.ctx k) Try.func44 (by kernel_rfl) (by kernel_rfl) mixed tdsOk (.cons (laws_toInstr.ok k) EntsOk.nil) (by kernel_rfl) (Nat.le_of_ble_eq_true (by kernel_rfl)) (by kernel_rfl) (laws_toInstrS.runs k) (laws_toInstrS.obls k)
/-! loop.example/g00200/spec.l07Goes -/
def spec_l07Goes.f (k : Nat) (a0 : Int × Int) : Option (Bool) :=
  if a0.1 = 9 then (some true) else (some (decide (a0.1 = 10)))
def spec_l07Goes.sig : Sig := ⟨[.val true (.pair (.int .i64) (.int .i64)) []], [.val false .bool []]⟩
def spec_l07Goes.F (k : Nat) (x : Args spec_l07Goes.sig.ps) : Option (Res spec_l07Goes.sig) := spec_l07Goes.f k x.1
def spec_l07Goes.ann (k : Nat) : Ann (Res spec_l07Goes.sig) := .nil
def spec_l07Goes.ent : Ent := ⟨86, spec_l07Goes.sig, spec_l07Goes.F⟩
def spec_l07Goes.ctx (k : Nat) : Ctx := ⟨tds, [], k, 11⟩
theorem spec_l07Goes.runs (k : Nat) (x : Args spec_l07Goes.sig.ps) : spec_l07Goes.F k x = runF (spec_l07Goes.ctx k) spec_l07Goes.sig Try.f86 (Try.f86.body.getD .skip) (spec_l07Goes.ann k) x := by kernel_rfl
theorem spec_l07Goes.obls (k : Nat) : obl (spec_l07Goes.ctx k) 0 (Try.f86.body.getD .skip) (spec_l07Goes.ann k) (retK tds spec_l07Goes.sig Try.f86.results.toList) := ⟨trivial, ⟨trivial, trivial⟩⟩
theorem spec_l07Goes.ok (k : Nat) : EntOk Try.prog k spec_l07Goes.ent := fn_ok (C := spec_l07Goes.ctx k) Try.func86 (by kernel_rfl) (by kernel_rfl) mixed tdsOk EntsOk.nil (by kernel_rfl) (Nat.le_of_ble_eq_true (by kernel_rfl)) (by kernel_rfl) (spec_l07Goes.runs k) (spec_l07Goes.obls k)
/-! loop.example/g00200/spec.CodeOk -/
def spec_CodeOk.l1 (k : Nat)  : Nat → Int × (List (Int × Int)) × Unit → Option (Bool)
  | 0, _ => none
  | n + 1, (x1, x2, _) => if x1 < (x2.length : Int) then (if 0 ≤ x1 then (if x1 < (x2.length : Int) then ((spec_l01In.f k ((el (.pair (.int .i64) (.int .i64)) x2 x1.toNat).1) 0 255).bind fun t1 => (if ¬ t1 = true then (some false) else (if 0 ≤ x1 then (if x1 < (x2.length : Int) then ((spec_l01In.f k ((el (.pair (.int .i64) (.int .i64)) x2 x1.toNat).2) 0 255).bind fun t2 => (if ¬ t2 = true then (some false) else (spec_CodeOk.l1 k n (w64 (x1 + 1), x2, ())))) else none) else none))) else none) else none) else (some (decide ((x2.length : Int) ≤ 60)))
def spec_CodeOk.f (k : Nat) (a0 : List (Int × Int)) : Option (Bool) :=
  spec_CodeOk.l1 k k (0, a0, ())
def spec_CodeOk.Sl1 : Shape := ⟨[(0, false, [.own 0]), (3, false, [.int .i64])], [(0, .view false 113 (.pair (.int .i64) (.int .i64)))], 1⟩
def spec_CodeOk.sig : Sig := ⟨[.val false (.sl 113 (.pair (.int .i64) (.int .i64))) [0]], [.val false .bool []]⟩
def spec_CodeOk.F (k : Nat) (x : Args spec_CodeOk.sig.ps) : Option (Res spec_CodeOk.sig) := spec_CodeOk.f k x.1
def spec_CodeOk.ann (k : Nat) : Ann (Res spec_CodeOk.sig) := (.seq .nil (.seq (.seq .nil (.block (.loop spec_CodeOk.Sl1 (spec_CodeOk.l1 k) fun n1 => .nil))) .nil))
def spec_CodeOk.ent : Ent := ⟨113, spec_CodeOk.sig, spec_CodeOk.F⟩
def spec_CodeOk.ctx (k : Nat) : Ctx := ⟨tds, [spec_l01In.ent], k, 29⟩
theorem spec_CodeOk.runs (k : Nat) (x : Args spec_CodeOk.sig.ps) : spec_CodeOk.F k x = runF (spec_CodeOk.ctx k) spec_CodeOk.sig Try.f113 (Try.f113.body.getD .skip) (spec_CodeOk.ann k) x := by kernel_rfl
theorem spec_CodeOk.obls (k : Nat) : obl (spec_CodeOk.ctx k) 1 (Try.f113.body.getD .skip) (spec_CodeOk.ann k) (retK tds spec_CodeOk.sig Try.f113.results.toList) := ⟨trivial, ⟨⟨trivial, ⟨⟨by kernel_rfl, fun x => by kernel_rfl⟩, fun n => ⟨fun x => by kernel_rfl, ⟨⟨trivial, ⟨trivial, trivial⟩⟩, ⟨⟨trivial, ⟨⟨trivial, trivial⟩, trivial⟩⟩, trivial⟩⟩⟩⟩⟩, ⟨trivial, trivial⟩⟩⟩
theorem spec_CodeOk.ok (k : Nat) : EntOk Try.prog k spec_CodeOk.ent := fn_ok (C := spec_CodeOk.ctx k) Try.func113 (by kernel_rfl) (by kernel_rfl) mixed tdsOk (.cons (spec_l01In.ok k) EntsOk.nil) (by kernel_rfl) (Nat.le_of_ble_eq_true (by kernel_rfl)) (by kernel_rfl) (spec_CodeOk.runs k) (spec_CodeOk.obls k)
/-! loop.example/g00200/spec.Forward -/
def spec_Forward.l1 (k : Nat)  : Nat → Int × (List (Int × Int)) × Unit → Option (Bool)
  | 0, _ => none
  | n + 1, (x1, x2, _) => if x1 < (x2.length : Int) then (if 0 ≤ x1 then (if x1 < (x2.length : Int) then ((spec_l07Goes.f k (el (.pair (.int .i64) (.int .i64)) x2 x1.toNat)).bind fun t1 => (if t1 = true then (if 0 ≤ x1 then (if x1 < (x2.length : Int) then (if ((el (.pair (.int .i64) (.int .i64)) x2 x1.toNat).2) ≤ x1 then (some false) else (spec_Forward.l1 k n (w64 (x1 + 1), x2, ()))) else none) else none) else (spec_Forward.l1 k n (w64 (x1 + 1), x2, ())))) else none) else none) else ((spec_CodeOk.f k x2).bind fun t2 => (some t2))
def spec_Forward.f (k : Nat) (a0 : List (Int × Int)) : Option (Bool) :=
  spec_Forward.l1 k k (0, a0, ())
def spec_Forward.Sl1 : Shape := ⟨[(0, false, [.own 0]), (3, false, [.int .i64])], [(0, .view false 113 (.pair (.int .i64) (.int .i64)))], 1⟩
def spec_Forward.sig : Sig := ⟨[.val false (.sl 113 (.pair (.int .i64) (.int .i64))) [0]], [.val false .bool []]⟩
def spec_Forward.F (k : Nat) (x : Args spec_Forward.sig.ps) : Option (Res spec_Forward.sig) := spec_Forward.f k x.1
def spec_Forward.ann (k : Nat) : Ann (Res spec_Forward.sig) := (.seq .nil (.seq (.seq .nil (.block (.loop spec_Forward.Sl1 (spec_Forward.l1 k) fun n1 => .nil))) .nil))
def spec_Forward.ent : Ent := ⟨85, spec_Forward.sig, spec_Forward.F⟩
def spec_Forward.ctx (k : Nat) : Ctx := ⟨tds, [spec_l07Goes.ent, spec_CodeOk.ent], k, 26⟩
theorem spec_Forward.runs (k : Nat) (x : Args spec_Forward.sig.ps) : spec_Forward.F k x = runF (spec_Forward.ctx k) spec_Forward.sig Try.f85 (Try.f85.body.getD .skip) (spec_Forward.ann k) x := by kernel_rfl
theorem spec_Forward.obls (k : Nat) : obl (spec_Forward.ctx k) 1 (Try.f85.body.getD .skip) (spec_Forward.ann k) (retK tds spec_Forward.sig Try.f85.results.toList) := ⟨trivial, ⟨⟨trivial, ⟨⟨by kernel_rfl, fun x => by kernel_rfl⟩, fun n => ⟨fun x => by kernel_rfl, ⟨⟨trivial, ⟨trivial, trivial⟩⟩, ⟨⟨trivial, ⟨⟨trivial, trivial⟩, trivial⟩⟩, trivial⟩⟩⟩⟩⟩, ⟨trivial, trivial⟩⟩⟩
theorem spec_Forward.ok (k : Nat) : EntOk Try.prog k spec_Forward.ent := fn_ok (C := spec_Forward.ctx k) Try.func85 (by kernel_rfl) (by kernel_rfl) mixed tdsOk (.cons (spec_l07Goes.ok k) (.cons (spec_CodeOk.ok k) EntsOk.nil)) (by kernel_rfl) (Nat.le_of_ble_eq_true (by kernel_rfl)) (by kernel_rfl) (spec_Forward.runs k) (spec_Forward.obls k)
/-! loop.example/g00200/spec.CostOf -/
def spec_CostOf.j2 (k : Nat)  : Int × Bool × Unit → Option (Int)
  | (z1, z2, _) => if z2 = true then (some 3) else (if z1 = 13 then (some 4) else (if z1 = 14 then (some 4) else (some 1)))
def spec_CostOf.j1 (k : Nat)  : Int × Bool × Unit → Option (Int)
  | (z1, z2, _) => if z2 = true then (some 2) else (if z1 = 6 then (spec_CostOf.j2 k (z1, true, ())) else (spec_CostOf.j2 k (z1, decide (z1 = 7), ())))
def spec_CostOf.f (k : Nat) (a0 : Int) : Option (Int) :=
  if a0 = 2 then (spec_CostOf.j1 k (a0, true, ())) else (if a0 = 3 then (spec_CostOf.j1 k (a0, true, ())) else (if a0 = 15 then (spec_CostOf.j1 k (a0, true, ())) else (spec_CostOf.j1 k (a0, decide (a0 = 16), ()))))
def spec_CostOf.Sj1 : Shape := ⟨[(3, false, [.int .i64]), (4, false, [.bool])], [], 0⟩
def spec_CostOf.Sj2 : Shape := ⟨[(3, false, [.int .i64]), (9, false, [.bool])], [], 0⟩
def spec_CostOf.sig : Sig := ⟨[.val false (.int .i64) []], [.val false (.int .i64) []]⟩
def spec_CostOf.F (k : Nat) (x : Args spec_CostOf.sig.ps) : Option (Res spec_CostOf.sig) := spec_CostOf.f k x.1
def spec_CostOf.ann (k : Nat) : Ann (Res spec_CostOf.sig) := (.seq .nil (.seq (.seq .nil (.block (.join spec_CostOf.Sj1 (spec_CostOf.j1 k) .nil (.cond .nil (.join spec_CostOf.Sj2 (spec_CostOf.j2 k) .nil .nil))))) .nil))
def spec_CostOf.ent : Ent := ⟨87, spec_CostOf.sig, spec_CostOf.F⟩
def spec_CostOf.ctx (k : Nat) : Ctx := ⟨tds, [], k, 15⟩
theorem spec_CostOf.runs (k : Nat) (x : Args spec_CostOf.sig.ps) : spec_CostOf.F k x = runF (spec_CostOf.ctx k) spec_CostOf.sig Try.f87 (Try.f87.body.getD .skip) (spec_CostOf.ann k) x := by kernel_rfl
theorem spec_CostOf.obls (k : Nat) : obl (spec_CostOf.ctx k) 0 (Try.f87.body.getD .skip) (spec_CostOf.ann k) (retK tds spec_CostOf.sig Try.f87.results.toList) := ⟨trivial, ⟨⟨trivial, ⟨⟨by kernel_rfl, fun x => by kernel_rfl⟩, ⟨trivial, ⟨trivial, ⟨trivial, ⟨trivial, ⟨trivial, ⟨trivial, trivial⟩⟩⟩⟩⟩⟩, ⟨⟨trivial, trivial⟩, ⟨⟨by kernel_rfl, fun x => by kernel_rfl⟩, ⟨trivial, ⟨trivial, trivial⟩⟩, ⟨⟨trivial, trivial⟩, ⟨⟨trivial, ⟨trivial, trivial⟩⟩, ⟨⟨trivial, trivial⟩, trivial⟩⟩⟩⟩⟩⟩⟩, ⟨trivial, trivial⟩⟩⟩
theorem spec_CostOf.ok (k : Nat) : EntOk Try.prog k spec_CostOf.ent := fn_ok (C := spec_CostOf.ctx k) Try.func87 (by kernel_rfl) (by kernel_rfl) mixed tdsOk EntsOk.nil (by kernel_rfl) (Nat.le_of_ble_eq_true (by kernel_rfl)) (by kernel_rfl) (spec_CostOf.runs k) (spec_CostOf.obls k)
/-! loop.example/g00200/spec.WorstCost -/
def spec_WorstCost.j4 (k : Nat) (c0 : Int × (List (Int × Int)) × List Int × Unit → Option (Int × Bool)) : Int × Int × Int × Int × (List (Int × Int)) × List Int × Unit → Option (Int × Bool)
  | (z1, z2, z3, z4, z5, z6, _) => (spec_CostOf.f k z3).bind fun t4 => (if 0 ≤ z1 then (if z1 < (z6.length : Int) then (((some (z6.set z1.toNat (w64 (t4 + z2))))).bind fun y5 => (c0 (w64 (z1 - 1), z5, y5, ()))) else none) else none)
def spec_WorstCost.j2 (k : Nat) (c0 : Int × (List (Int × Int)) × List Int × Unit → Option (Int × Bool)) : Int × Int × Int × Int × (List (Int × Int)) × List Int × Unit → Option (Int × Bool)
  | (z1, z2, z3, z4, z5, z6, _) => if z3 = 0 then (spec_WorstCost.j4 k c0 (z1, 0, z3, z4, z5, z6, ())) else (spec_WorstCost.j4 k c0 (z1, z2, z3, z4, z5, z6, ()))
def spec_WorstCost.j3 (k : Nat) (c0 : Int × (List (Int × Int)) × List Int × Unit → Option (Int × Bool)) : Int × Int × Int × Int × Int × (List (Int × Int)) × List Int × Unit → Option (Int × Bool)
  | (z1, z2, z3, z4, z5, z6, z7, _) => if z4 = 9 then (spec_WorstCost.j2 k c0 (z1, z3, z4, z5, z6, z7, ())) else (if z2 < z3 then (spec_WorstCost.j2 k c0 (z1, z3, z4, z5, z6, z7, ())) else (spec_WorstCost.j2 k c0 (z1, z2, z4, z5, z6, z7, ())))
def spec_WorstCost.l1 (k : Nat)  : Nat → Int × (List (Int × Int)) × List Int × Unit → Option (Int × Bool)
  | 0, _ => none
  | n + 1, (x1, x2, x3, _) => if 0 ≤ x1 then (if 0 ≤ x1 then (if x1 < (x2.length : Int) then (if 0 ≤ w64 (x1 + 1) then (if w64 (x1 + 1) < (x3.length : Int) then ((spec_l07Goes.f k (el (.pair (.int .i64) (.int .i64)) x2 x1.toNat)).bind fun t3 => (if t3 = true then (if ((el (.pair (.int .i64) (.int .i64)) x2 x1.toNat).2) < (x2.length : Int) then (if 0 ≤ (el (.pair (.int .i64) (.int .i64)) x2 x1.toNat).2 then (if (el (.pair (.int .i64) (.int .i64)) x2 x1.toNat).2 < (x3.length : Int) then (spec_WorstCost.j3 k (spec_WorstCost.l1 k n) (x1, el (.int .i64) x3 ((w64 (x1 + 1)).toNat), el (.int .i64) x3 (((el (.pair (.int .i64) (.int .i64)) x2 x1.toNat).2).toNat), (el (.pair (.int .i64) (.int .i64)) x2 x1.toNat).1, (el (.pair (.int .i64) (.int .i64)) x2 x1.toNat).2, x2, x3, ())) else none) else none) else (spec_WorstCost.j3 k (spec_WorstCost.l1 k n) (x1, el (.int .i64) x3 ((w64 (x1 + 1)).toNat), 0, (el (.pair (.int .i64) (.int .i64)) x2 x1.toNat).1, (el (.pair (.int .i64) (.int .i64)) x2 x1.toNat).2, x2, x3, ()))) else (spec_WorstCost.j2 k (spec_WorstCost.l1 k n) (x1, el (.int .i64) x3 ((w64 (x1 + 1)).toNat), (el (.pair (.int .i64) (.int .i64)) x2 x1.toNat).1, (el (.pair (.int .i64) (.int .i64)) x2 x1.toNat).2, x2, x3, ())))) else none) else none) else none) else none) else (if 0 ≤ 0 then (if 0 < (x3.length : Int) then (some (el (.int .i64) x3 0, true)) else none) else none)
def spec_WorstCost.f (k : Nat) (a0 : List (Int × Int)) : Option (Int × Bool) :=
  (spec_Forward.f k a0).bind fun t1 => (if ¬ t1 = true then (some (0, false)) else (if w64 ((a0.length : Int) + 1) = w64 ((a0.length : Int) + 1) then (if 0 ≤ w64 ((a0.length : Int) + 1) then (if (w64 ((a0.length : Int) + 1)).toNat * 8 ≤ 281474976710656 then (((some (List.replicate (w64 ((a0.length : Int) + 1)).toNat 0 : List Int))).bind fun y2 => (spec_WorstCost.l1 k k (w64 ((a0.length : Int) - 1), a0, y2, ()))) else none) else none) else none))
def spec_WorstCost.Sl1 : Shape := ⟨[(0, false, [.own 0]), (4, false, [.own 1]), (5, false, [.int .i64])], [(0, .view false 113 (.pair (.int .i64) (.int .i64))), (1, .row 3 (.int .i64))], 2⟩
def spec_WorstCost.Sj2 : Shape := ⟨[(0, false, [.own 0]), (4, false, [.own 1]), (5, false, [.int .i64]), (6, false, [.ptr 2 0]), (7, false, [.int .i64])], [(2, .blk 113 [.int .i64, .int .i64]), (0, .view false 113 (.pair (.int .i64) (.int .i64))), (1, .row 3 (.int .i64))], 3⟩
def spec_WorstCost.Sj3 : Shape := ⟨[(0, false, [.own 0]), (4, false, [.own 1]), (5, false, [.int .i64]), (6, false, [.ptr 2 0]), (7, false, [.int .i64]), (8, false, [.int .i64])], [(2, .blk 113 [.int .i64, .int .i64]), (0, .view false 113 (.pair (.int .i64) (.int .i64))), (1, .row 3 (.int .i64))], 3⟩
def spec_WorstCost.Sj4 : Shape := ⟨[(0, false, [.own 0]), (4, false, [.own 1]), (5, false, [.int .i64]), (6, false, [.ptr 2 0]), (7, false, [.int .i64])], [(2, .blk 113 [.int .i64, .int .i64]), (0, .view false 113 (.pair (.int .i64) (.int .i64))), (1, .row 3 (.int .i64))], 3⟩
def spec_WorstCost.sig : Sig := ⟨[.val false (.sl 113 (.pair (.int .i64) (.int .i64))) [0]], [.val false (.int .i64) [], .val false .bool []]⟩
def spec_WorstCost.F (k : Nat) (x : Args spec_WorstCost.sig.ps) : Option (Res spec_WorstCost.sig) := spec_WorstCost.f k x.1
def spec_WorstCost.ann (k : Nat) : Ann (Res spec_WorstCost.sig) := (.seq .nil (.seq .nil (.seq .nil (.seq (.seq .nil (.block (.loop spec_WorstCost.Sl1 (spec_WorstCost.l1 k) fun n1 => (.seq .nil (.seq (.block (.seq .nil (.seq .nil (.join spec_WorstCost.Sj2 (spec_WorstCost.j2 k (spec_WorstCost.l1 k n1)) (.seq .nil (.cond (.seq .nil (.join spec_WorstCost.Sj3 (spec_WorstCost.j3 k (spec_WorstCost.l1 k n1)) .nil .nil)) .nil)) (.join spec_WorstCost.Sj4 (spec_WorstCost.j4 k (spec_WorstCost.l1 k n1)) .nil .nil))))) .nil))))) .nil))))
def spec_WorstCost.ent : Ent := ⟨43, spec_WorstCost.sig, spec_WorstCost.F⟩
def spec_WorstCost.ctx (k : Nat) : Ctx := ⟨tds, [spec_Forward.ent, spec_l07Goes.ent, spec_CostOf.ent], k, 67⟩
theorem spec_WorstCost.runs (k : Nat) (x : Args spec_WorstCost.sig.ps) : spec_WorstCost.F k x = runF (spec_WorstCost.ctx k) spec_WorstCost.sig Try.f43 (Try.f43.body.getD .skip) (spec_WorstCost.ann k) x := by kernel_rfl
theorem spec_WorstCost.obls (k : Nat) : obl (spec_WorstCost.ctx k) 1 (Try.f43.body.getD .skip) (spec_WorstCost.ann k) (retK tds spec_WorstCost.sig Try.f43.results.toList) := ⟨trivial, ⟨⟨trivial, ⟨⟨trivial, trivial⟩, trivial⟩⟩, ⟨trivial, ⟨⟨trivial, ⟨⟨by kernel_rfl, fun x => by kernel_rfl⟩, fun n => ⟨fun x => by kernel_rfl, ⟨⟨trivial, ⟨trivial, trivial⟩⟩, ⟨⟨trivial, ⟨trivial, ⟨⟨by kernel_rfl, fun x => by kernel_rfl⟩, ⟨trivial, ⟨⟨trivial, ⟨⟨by kernel_rfl, fun x => by kernel_rfl⟩, ⟨trivial, ⟨trivial, trivial⟩⟩, ⟨trivial, ⟨trivial, trivial⟩⟩⟩⟩, trivial⟩⟩, ⟨⟨by kernel_rfl, fun x => by kernel_rfl⟩, ⟨trivial, ⟨trivial, trivial⟩⟩, trivial⟩⟩⟩⟩, trivial⟩⟩⟩⟩⟩, ⟨trivial, trivial⟩⟩⟩⟩⟩
theorem spec_WorstCost.ok (k : Nat) : EntOk Try.prog k spec_WorstCost.ent := fn_ok (C := spec_WorstCost.ctx k) Try.func43 (by kernel_rfl) (by kernel_rfl) mixed tdsOk (.cons (spec_Forward.ok k) (.cons (spec_l07Goes.ok k) (.cons (spec_CostOf.ok k) EntsOk.nil))) (by kernel_rfl) (Nat.le_of_ble_eq_true (by kernel_rfl)) (by kernel_rfl) (spec_WorstCost.runs k) (spec_WorstCost.obls k)
/-! loop.example/g00200/impl.CodeOk -/
def impl_CodeOk.l1 (k : Nat)  : Nat → Int × Int × (List (Int × Int)) × Unit → Option (Bool)
  | 0, _ => none
  | n + 1, (x1, x2, x3, _) => if x2 < x1 then (if 0 ≤ x2 then (if x2 < (x3.length : Int) then ((impl_within.f k ((el (.pair (.int .i64) (.int .i64)) x3 x2.toNat).1) 0 255).bind fun t1 => (if ¬ t1 = true then (some false) else ((impl_within.f k ((el (.pair (.int .i64) (.int .i64)) x3 x2.toNat).2) 0 255).bind fun t2 => (if ¬ t2 = true then (some false) else (impl_CodeOk.l1 k n (x1, w64 (x2 + 1), x3, ())))))) else none) else none) else (some (decide ((x3.length : Int) ≤ 60)))
def impl_CodeOk.f (k : Nat) (a0 : List (Int × Int)) : Option (Bool) :=
  impl_CodeOk.l1 k k ((a0.length : Int), 0, a0, ())
def impl_CodeOk.Sl1 : Shape := ⟨[(0, false, [.own 0]), (5, false, [.own 0]), (6, false, [.int .i64]), (7, false, [.int .i64])], [(0, .view false 113 (.pair (.int .i64) (.int .i64)))], 1⟩
def impl_CodeOk.sig : Sig := ⟨[.val false (.sl 113 (.pair (.int .i64) (.int .i64))) [0]], [.val false .bool []]⟩
def impl_CodeOk.F (k : Nat) (x : Args impl_CodeOk.sig.ps) : Option (Res impl_CodeOk.sig) := impl_CodeOk.f k x.1
def impl_CodeOk.ann (k : Nat) : Ann (Res impl_CodeOk.sig) := (.seq .nil (.seq (.seq .nil (.block (.loop impl_CodeOk.Sl1 (impl_CodeOk.l1 k) fun n1 => .nil))) .nil))
def impl_CodeOk.ent : Ent := ⟨114, impl_CodeOk.sig, impl_CodeOk.F⟩
def impl_CodeOk.ctx (k : Nat) : Ctx := ⟨tds, [impl_within.ent], k, 25⟩
theorem impl_CodeOk.runs (k : Nat) (x : Args impl_CodeOk.sig.ps) : impl_CodeOk.F k x = runF (impl_CodeOk.ctx k) impl_CodeOk.sig Try.f114 (Try.f114.body.getD .skip) (impl_CodeOk.ann k) x := by kernel_rfl
theorem impl_CodeOk.obls (k : Nat) : obl (impl_CodeOk.ctx k) 1 (Try.f114.body.getD .skip) (impl_CodeOk.ann k) (retK tds impl_CodeOk.sig Try.f114.results.toList) := ⟨trivial, ⟨⟨trivial, ⟨⟨by kernel_rfl, fun x => by kernel_rfl⟩, fun n => ⟨fun x => by kernel_rfl, ⟨trivial, ⟨⟨trivial, trivial⟩, ⟨⟨trivial, ⟨trivial, ⟨⟨trivial, trivial⟩, trivial⟩⟩⟩, trivial⟩⟩⟩⟩⟩⟩, ⟨trivial, trivial⟩⟩⟩
theorem impl_CodeOk.ok (k : Nat) : EntOk Try.prog k impl_CodeOk.ent := fn_ok (C := impl_CodeOk.ctx k) Try.func114 (by kernel_rfl) (by kernel_rfl) mixed tdsOk (.cons (impl_within.ok k) EntsOk.nil) (by kernel_rfl) (Nat.le_of_ble_eq_true (by kernel_rfl)) (by kernel_rfl) (impl_CodeOk.runs k) (impl_CodeOk.obls k)
/-! loop.example/g00200/impl.Forward -/
def impl_Forward.l1 (k : Nat)  : Nat → Int × Int × (List (Int × Int)) × Unit → Option (Bool)
  | 0, _ => none
  | n + 1, (x1, x2, x3, _) => if x2 < x1 then (if 0 ≤ x2 then (if x2 < (x3.length : Int) then (if ((el (.pair (.int .i64) (.int .i64)) x3 x2.toNat).1) = 9 then (if ((el (.pair (.int .i64) (.int .i64)) x3 x2.toNat).2) ≤ x2 then (some false) else (impl_Forward.l1 k n (x1, w64 (x2 + 1), x3, ()))) else (if ((el (.pair (.int .i64) (.int .i64)) x3 x2.toNat).1) = 10 then (if ((el (.pair (.int .i64) (.int .i64)) x3 x2.toNat).2) ≤ x2 then (some false) else (impl_Forward.l1 k n (x1, w64 (x2 + 1), x3, ()))) else (impl_Forward.l1 k n (x1, w64 (x2 + 1), x3, ())))) else none) else none) else ((impl_CodeOk.f k x3).bind fun t1 => (some t1))
def impl_Forward.f (k : Nat) (a0 : List (Int × Int)) : Option (Bool) :=
  impl_Forward.l1 k k ((a0.length : Int), 0, a0, ())
def impl_Forward.Sl1 : Shape := ⟨[(0, false, [.own 0]), (5, false, [.own 0]), (6, false, [.int .i64]), (7, false, [.int .i64])], [(0, .view false 113 (.pair (.int .i64) (.int .i64)))], 1⟩
def impl_Forward.sig : Sig := ⟨[.val false (.sl 113 (.pair (.int .i64) (.int .i64))) [0]], [.val false .bool []]⟩
def impl_Forward.F (k : Nat) (x : Args impl_Forward.sig.ps) : Option (Res impl_Forward.sig) := impl_Forward.f k x.1
def impl_Forward.ann (k : Nat) : Ann (Res impl_Forward.sig) := (.seq .nil (.seq (.seq .nil (.block (.loop impl_Forward.Sl1 (impl_Forward.l1 k) fun n1 => .nil))) .nil))
def impl_Forward.ent : Ent := ⟨89, impl_Forward.sig, impl_Forward.F⟩
def impl_Forward.ctx (k : Nat) : Ctx := ⟨tds, [impl_CodeOk.ent], k, 29⟩
theorem impl_Forward.runs (k : Nat) (x : Args impl_Forward.sig.ps) : impl_Forward.F k x = runF (impl_Forward.ctx k) impl_Forward.sig Try.f89 (Try.f89.body.getD .skip) (impl_Forward.ann k) x := by kernel_rfl
theorem impl_Forward.obls (k : Nat) : obl (impl_Forward.ctx k) 1 (Try.f89.body.getD .skip) (impl_Forward.ann k) (retK tds impl_Forward.sig Try.f89.results.toList) := ⟨trivial, ⟨⟨trivial, ⟨⟨by kernel_rfl, fun x => by kernel_rfl⟩, fun n => ⟨fun x => by kernel_rfl, ⟨trivial, ⟨⟨trivial, trivial⟩, ⟨⟨trivial, ⟨trivial, ⟨⟨trivial, trivial⟩, trivial⟩⟩⟩, trivial⟩⟩⟩⟩⟩⟩, ⟨trivial, trivial⟩⟩⟩
theorem impl_Forward.ok (k : Nat) : EntOk Try.prog k impl_Forward.ent := fn_ok (C := impl_Forward.ctx k) Try.func89 (by kernel_rfl) (by kernel_rfl) mixed tdsOk (.cons (impl_CodeOk.ok k) EntsOk.nil) (by kernel_rfl) (Nat.le_of_ble_eq_true (by kernel_rfl)) (by kernel_rfl) (impl_Forward.runs k) (impl_Forward.obls k)
/-! loop.example/g00200/impl.CostOf -/
def impl_CostOf.j2 (k : Nat)  : Int × Bool × Unit → Option (Int)
  | (z1, z2, _) => if z2 = true then (some 3) else (if z1 = 13 then (some 4) else (if z1 = 14 then (some 4) else (some 1)))
def impl_CostOf.j1 (k : Nat)  : Int × Bool × Unit → Option (Int)
  | (z1, z2, _) => if z2 = true then (some 2) else (if z1 = 6 then (impl_CostOf.j2 k (z1, true, ())) else (impl_CostOf.j2 k (z1, decide (z1 = 7), ())))
def impl_CostOf.f (k : Nat) (a0 : Int) : Option (Int) :=
  if a0 = 2 then (impl_CostOf.j1 k (a0, true, ())) else (if a0 = 3 then (impl_CostOf.j1 k (a0, true, ())) else (if a0 = 15 then (impl_CostOf.j1 k (a0, true, ())) else (impl_CostOf.j1 k (a0, decide (a0 = 16), ()))))
def impl_CostOf.Sj1 : Shape := ⟨[(3, false, [.int .i64]), (4, false, [.bool])], [], 0⟩
def impl_CostOf.Sj2 : Shape := ⟨[(3, false, [.int .i64]), (9, false, [.bool])], [], 0⟩
def impl_CostOf.sig : Sig := ⟨[.val false (.int .i64) []], [.val false (.int .i64) []]⟩
def impl_CostOf.F (k : Nat) (x : Args impl_CostOf.sig.ps) : Option (Res impl_CostOf.sig) := impl_CostOf.f k x.1
def impl_CostOf.ann (k : Nat) : Ann (Res impl_CostOf.sig) := (.seq .nil (.seq (.seq .nil (.block (.join impl_CostOf.Sj1 (impl_CostOf.j1 k) .nil (.cond .nil (.join impl_CostOf.Sj2 (impl_CostOf.j2 k) .nil .nil))))) .nil))
def impl_CostOf.ent : Ent := ⟨90, impl_CostOf.sig, impl_CostOf.F⟩
def impl_CostOf.ctx (k : Nat) : Ctx := ⟨tds, [], k, 15⟩
theorem impl_CostOf.runs (k : Nat) (x : Args impl_CostOf.sig.ps) : impl_CostOf.F k x = runF (impl_CostOf.ctx k) impl_CostOf.sig Try.f90 (Try.f90.body.getD .skip) (impl_CostOf.ann k) x := by kernel_rfl
theorem impl_CostOf.obls (k : Nat) : obl (impl_CostOf.ctx k) 0 (Try.f90.body.getD .skip) (impl_CostOf.ann k) (retK tds impl_CostOf.sig Try.f90.results.toList) := ⟨trivial, ⟨⟨trivial, ⟨⟨by kernel_rfl, fun x => by kernel_rfl⟩, ⟨trivial, ⟨trivial, ⟨trivial, ⟨trivial, ⟨trivial, ⟨trivial, trivial⟩⟩⟩⟩⟩⟩, ⟨⟨trivial, trivial⟩, ⟨⟨by kernel_rfl, fun x => by kernel_rfl⟩, ⟨trivial, ⟨trivial, trivial⟩⟩, ⟨⟨trivial, trivial⟩, ⟨⟨trivial, ⟨trivial, trivial⟩⟩, ⟨⟨trivial, trivial⟩, trivial⟩⟩⟩⟩⟩⟩⟩, ⟨trivial, trivial⟩⟩⟩
theorem impl_CostOf.ok (k : Nat) : EntOk Try.prog k impl_CostOf.ent := fn_ok (C := impl_CostOf.ctx k) Try.func90 (by kernel_rfl) (by kernel_rfl) mixed tdsOk EntsOk.nil (by kernel_rfl) (Nat.le_of_ble_eq_true (by kernel_rfl)) (by kernel_rfl) (impl_CostOf.runs k) (impl_CostOf.obls k)
/-! loop.example/g00200/impl.WorstCost -/
def impl_WorstCost.j2 (k : Nat) (c0 : Int × (List (Int × Int)) × List Int × Unit → Option (Int × Bool)) : Int × Int × Int × Int × (List (Int × Int)) × List Int × Unit → Option (Int × Bool)
  | (z1, z2, z3, z4, z5, z6, _) => (impl_CostOf.f k z3).bind fun t3 => (if 0 ≤ z1 then (if z1 < (z6.length : Int) then (((some (z6.set z1.toNat (w64 (t3 + z2))))).bind fun y4 => (c0 (w64 (z1 - 1), z5, y4, ()))) else none) else none)
def impl_WorstCost.l1 (k : Nat)  : Nat → Int × (List (Int × Int)) × List Int × Unit → Option (Int × Bool)
  | 0, _ => none
  | n + 1, (x1, x2, x3, _) => if 0 ≤ x1 then (if 0 ≤ x1 then (if x1 < (x2.length : Int) then (if 0 ≤ w64 (x1 + 1) then (if w64 (x1 + 1) < (x3.length : Int) then (if ((el (.pair (.int .i64) (.int .i64)) x2 x1.toNat).1) = 0 then (impl_WorstCost.j2 k (impl_WorstCost.l1 k n) (x1, 0, (el (.pair (.int .i64) (.int .i64)) x2 x1.toNat).1, (el (.pair (.int .i64) (.int .i64)) x2 x1.toNat).2, x2, x3, ())) else (if ((el (.pair (.int .i64) (.int .i64)) x2 x1.toNat).1) = 9 then (if 0 ≤ (el (.pair (.int .i64) (.int .i64)) x2 x1.toNat).2 then (if (el (.pair (.int .i64) (.int .i64)) x2 x1.toNat).2 < (x3.length : Int) then (impl_WorstCost.j2 k (impl_WorstCost.l1 k n) (x1, el (.int .i64) x3 (((el (.pair (.int .i64) (.int .i64)) x2 x1.toNat).2).toNat), (el (.pair (.int .i64) (.int .i64)) x2 x1.toNat).1, (el (.pair (.int .i64) (.int .i64)) x2 x1.toNat).2, x2, x3, ())) else none) else none) else (if ((el (.pair (.int .i64) (.int .i64)) x2 x1.toNat).1) = 10 then (if 0 ≤ (el (.pair (.int .i64) (.int .i64)) x2 x1.toNat).2 then (if (el (.pair (.int .i64) (.int .i64)) x2 x1.toNat).2 < (x3.length : Int) then (impl_WorstCost.j2 k (impl_WorstCost.l1 k n) (x1, max (el (.int .i64) x3 ((w64 (x1 + 1)).toNat)) (el (.int .i64) x3 (((el (.pair (.int .i64) (.int .i64)) x2 x1.toNat).2).toNat)), (el (.pair (.int .i64) (.int .i64)) x2 x1.toNat).1, (el (.pair (.int .i64) (.int .i64)) x2 x1.toNat).2, x2, x3, ())) else none) else none) else (impl_WorstCost.j2 k (impl_WorstCost.l1 k n) (x1, el (.int .i64) x3 ((w64 (x1 + 1)).toNat), (el (.pair (.int .i64) (.int .i64)) x2 x1.toNat).1, (el (.pair (.int .i64) (.int .i64)) x2 x1.toNat).2, x2, x3, ()))))) else none) else none) else none) else none) else (if 0 ≤ 0 then (if 0 < (x3.length : Int) then (some (el (.int .i64) x3 0, true)) else none) else none)
def impl_WorstCost.f (k : Nat) (a0 : List (Int × Int)) : Option (Int × Bool) :=
  (impl_Forward.f k a0).bind fun t1 => (if ¬ t1 = true then (some (0, false)) else (if 257 = 257 then (if 0 ≤ 257 then (if 257 * 8 ≤ 281474976710656 then (((some (List.replicate 257 0 : List Int))).bind fun y2 => (impl_WorstCost.l1 k k (w64 ((a0.length : Int) - 1), a0, y2, ()))) else none) else none) else none))
def impl_WorstCost.Sl1 : Shape := ⟨[(0, false, [.own 0]), (4, false, [.own 1]), (5, false, [.int .i64])], [(0, .view false 113 (.pair (.int .i64) (.int .i64))), (1, .row 3 (.int .i64))], 2⟩
def impl_WorstCost.Sj2 : Shape := ⟨[(0, false, [.own 0]), (4, false, [.own 1]), (5, false, [.int .i64]), (6, false, [.ptr 2 0]), (7, false, [.int .i64])], [(2, .blk 113 [.int .i64, .int .i64]), (0, .view false 113 (.pair (.int .i64) (.int .i64))), (1, .row 3 (.int .i64))], 3⟩
def impl_WorstCost.sig : Sig := ⟨[.val false (.sl 113 (.pair (.int .i64) (.int .i64))) [0]], [.val false (.int .i64) [], .val false .bool []]⟩
def impl_WorstCost.F (k : Nat) (x : Args impl_WorstCost.sig.ps) : Option (Res impl_WorstCost.sig) := impl_WorstCost.f k x.1
def impl_WorstCost.ann (k : Nat) : Ann (Res impl_WorstCost.sig) := (.seq .nil (.seq .nil (.seq .nil (.seq (.seq .nil (.block (.loop impl_WorstCost.Sl1 (impl_WorstCost.l1 k) fun n1 => (.seq .nil (.seq (.block (.seq .nil (.seq .nil (.join impl_WorstCost.Sj2 (impl_WorstCost.j2 k (impl_WorstCost.l1 k n1)) .nil .nil)))) .nil))))) .nil))))
def impl_WorstCost.ent : Ent := ⟨45, impl_WorstCost.sig, impl_WorstCost.F⟩
def impl_WorstCost.ctx (k : Nat) : Ctx := ⟨tds, [impl_Forward.ent, impl_CostOf.ent], k, 59⟩
theorem impl_WorstCost.runs (k : Nat) (x : Args impl_WorstCost.sig.ps) : impl_WorstCost.F k x = runF (impl_WorstCost.ctx k) impl_WorstCost.sig Try.f45 (Try.f45.body.getD .skip) (impl_WorstCost.ann k) x := by kernel_rfl
theorem impl_WorstCost.obls (k : Nat) : obl (impl_WorstCost.ctx k) 1 (Try.f45.body.getD .skip) (impl_WorstCost.ann k) (retK tds impl_WorstCost.sig Try.f45.results.toList) := ⟨trivial, ⟨⟨trivial, ⟨⟨trivial, trivial⟩, trivial⟩⟩, ⟨trivial, ⟨⟨trivial, ⟨⟨by kernel_rfl, fun x => by kernel_rfl⟩, fun n => ⟨fun x => by kernel_rfl, ⟨⟨trivial, ⟨trivial, trivial⟩⟩, ⟨⟨trivial, ⟨trivial, ⟨⟨by kernel_rfl, fun x => by kernel_rfl⟩, ⟨trivial, ⟨trivial, ⟨trivial, ⟨trivial, ⟨trivial, ⟨trivial, ⟨trivial, trivial⟩⟩⟩⟩⟩⟩⟩, trivial⟩⟩⟩, trivial⟩⟩⟩⟩⟩, ⟨trivial, trivial⟩⟩⟩⟩⟩
theorem impl_WorstCost.ok (k : Nat) : EntOk Try.prog k impl_WorstCost.ent := fn_ok (C := impl_WorstCost.ctx k) Try.func45 (by kernel_rfl) (by kernel_rfl) mixed tdsOk (.cons (impl_Forward.ok k) (.cons (impl_CostOf.ok k) EntsOk.nil)) (by kernel_rfl) (Nat.le_of_ble_eq_true (by kernel_rfl)) (by kernel_rfl) (impl_WorstCost.runs k) (impl_WorstCost.obls k)
/-! loop.example/g00200/laws.eqInstr -/
def laws_eqInstr.f (k : Nat) (a0 : Int × Int) (a1 : Int × Int) : Option (Bool) :=
  if ¬ a0.1 = a1.1 then (some false) else (if ¬ a0.2 = a1.2 then (some false) else (some true))
def laws_eqInstr.sig : Sig := ⟨[.val true (.pair (.int .i64) (.int .i64)) [], .val true (.pair (.int .i64) (.int .i64)) []], [.val false .bool []]⟩
def laws_eqInstr.F (k : Nat) (x : Args laws_eqInstr.sig.ps) : Option (Res laws_eqInstr.sig) := laws_eqInstr.f k x.1 x.2.1
def laws_eqInstr.ann (k : Nat) : Ann (Res laws_eqInstr.sig) := .nil
def laws_eqInstr.ent : Ent := ⟨91, laws_eqInstr.sig, laws_eqInstr.F⟩
def laws_eqInstr.ctx (k : Nat) : Ctx := ⟨tds, [], k, 15⟩
theorem laws_eqInstr.runs (k : Nat) (x : Args laws_eqInstr.sig.ps) : laws_eqInstr.F k x = runF (laws_eqInstr.ctx k) laws_eqInstr.sig Try.f91 (Try.f91.body.getD .skip) (laws_eqInstr.ann k) x := by kernel_rfl
theorem laws_eqInstr.obls (k : Nat) : obl (laws_eqInstr.ctx k) 0 (Try.f91.body.getD .skip) (laws_eqInstr.ann k) (retK tds laws_eqInstr.sig Try.f91.results.toList) := ⟨trivial, ⟨⟨trivial, ⟨⟨trivial, trivial⟩, trivial⟩⟩, ⟨⟨trivial, ⟨⟨trivial, trivial⟩, trivial⟩⟩, ⟨trivial, trivial⟩⟩⟩⟩
theorem laws_eqInstr.ok (k : Nat) : EntOk Try.prog k laws_eqInstr.ent := fn_ok (C := laws_eqInstr.ctx k) Try.func91 (by kernel_rfl) (by kernel_rfl) mixed tdsOk EntsOk.nil (by kernel_rfl) (Nat.le_of_ble_eq_true (by kernel_rfl)) (by kernel_rfl) (laws_eqInstr.runs k) (laws_eqInstr.obls k)
/-! loop.example/g00200/laws.eqInstrS -/
def laws_eqInstrS.l1 (k : Nat)  : Nat → Int × (List (Int × Int)) × (List (Int × Int)) × Unit → Option (Bool)
  | 0, _ => none
  | n + 1, (x1, x2, x3, _) => if x1 < (x2.length : Int) then (if 0 ≤ x1 then (if x1 < (x2.length : Int) then (if 0 ≤ x1 then (if x1 < (x3.length : Int) then ((laws_eqInstr.f k (el (.pair (.int .i64) (.int .i64)) x2 x1.toNat) (el (.pair (.int .i64) (.int .i64)) x3 x1.toNat)).bind fun t1 => (if ¬ t1 = true then (some false) else (laws_eqInstrS.l1 k n (w64 (x1 + 1), x2, x3, ())))) else none) else none) else none) else none) else (some true)
def laws_eqInstrS.f (k : Nat) (a0 : List (Int × Int)) (a1 : List (Int × Int)) : Option (Bool) :=
  if ¬ (a0.length : Int) = (a1.length : Int) then (some false) else (laws_eqInstrS.l1 k k (0, a0, a1, ()))
def laws_eqInstrS.Sl1 : Shape := ⟨[(0, false, [.own 0]), (1, false, [.own 1]), (5, false, [.int .i64])], [(0, .view false 113 (.pair (.int .i64) (.int .i64))), (1, .view false 113 (.pair (.int .i64) (.int .i64)))], 2⟩
def laws_eqInstrS.sig : Sig := ⟨[.val false (.sl 113 (.pair (.int .i64) (.int .i64))) [0], .val false (.sl 113 (.pair (.int .i64) (.int .i64))) [0]], [.val false .bool []]⟩
def laws_eqInstrS.F (k : Nat) (x : Args laws_eqInstrS.sig.ps) : Option (Res laws_eqInstrS.sig) := laws_eqInstrS.f k x.1 x.2.1
def laws_eqInstrS.ann (k : Nat) : Ann (Res laws_eqInstrS.sig) := (.seq .nil (.seq .nil (.seq (.seq .nil (.block (.loop laws_eqInstrS.Sl1 (laws_eqInstrS.l1 k) fun n1 => .nil))) .nil)))
def laws_eqInstrS.ent : Ent := ⟨46, laws_eqInstrS.sig, laws_eqInstrS.F⟩
def laws_eqInstrS.ctx (k : Nat) : Ctx := ⟨tds, [laws_eqInstr.ent], k, 27⟩
theorem laws_eqInstrS.runs (k : Nat) (x : Args laws_eqInstrS.sig.ps) : laws_eqInstrS.F k x = runF (laws_eqInstrS.ctx k) laws_eqInstrS.sig Try.f46 (Try.f46.body.getD .skip) (laws_eqInstrS.ann k) x := by kernel_rfl
theorem laws_eqInstrS.obls (k : Nat) : obl (laws_eqInstrS.ctx k) 2 (Try.f46.body.getD .skip) (laws_eqInstrS.ann k) (retK tds laws_eqInstrS.sig Try.f46.results.toList) := ⟨trivial, ⟨⟨trivial, ⟨⟨trivial, trivial⟩, trivial⟩⟩, ⟨⟨trivial, ⟨⟨by kernel_rfl, fun x => by kernel_rfl⟩, fun n => ⟨fun x => by kernel_rfl, ⟨⟨trivial, ⟨trivial, trivial⟩⟩, ⟨⟨trivial, ⟨⟨trivial, trivial⟩, trivial⟩⟩, trivial⟩⟩⟩⟩⟩, ⟨trivial, trivial⟩⟩⟩⟩
theorem laws_eqInstrS.ok (k : Nat) : EntOk Try.prog k laws_eqInstrS.ent := fn_ok (C := laws_eqInstrS.ctx k) Try.func46 (by kernel_rfl) (by kernel_rfl) mixed tdsOk (.cons (laws_eqInstr.ok k) EntsOk.nil) (by kernel_rfl) (Nat.le_of_ble_eq_true (by kernel_rfl)) (by kernel_rfl) (laws_eqInstrS.runs k) (laws_eqInstrS.obls k)
/-! loop.example/g00200/spec.l08Port -/
def spec_l08Port.j1 (k : Nat)  : Int × Int × Int × Int × Int × Int × Int × Int × Int × Int × Int × Int × List Int × Unit → Option ((Int × Int × Int × Int × Int) × List Int × Int × Int)
  | (z1, z2, z3, z4, z5, z6, z7, z8, z9, z10, z11, z12, z13, _) => (spec_l01Once.f k (z13, (z1, z2)) 3).bind fun t4 => (if t4.1 = true then ((spec_l01Below.f k (z13, t4.2.2) 8).bind fun t5 => (some ((2, (z9, (z10, (1, w64 (1 + t5.1))))), (z13, t5.2.2)))) else (some ((z8, (z9, (z10, (z11, z12)))), (z13, t4.2.2))))
def spec_l08Port.f (k : Nat) (a0 : List Int × Int × Int) : Option ((Int × Int × Int × Int × Int) × List Int × Int × Int) :=
  (spec_l01Below.f k a0 3).bind fun t1 => ((spec_l01Below.f k (a0.1, t1.2.2) 3).bind fun t2 => ((spec_l01Below.f k (a0.1, t2.2.2) 3).bind fun t3 => (if (w64 (1 + t1.1)) = (w64 (1 + t2.1)) then (spec_l08Port.j1 k (t3.2.2.1, t3.2.2.2, 0, 0, 0, 0, 0, 1, w64 (1 + t1.1), w64 (1 + (Int.tmod (w64 (1 + t1.1)) 3)), w64 (1 + t3.1), 0, a0.1, ())) else (spec_l08Port.j1 k (t3.2.2.1, t3.2.2.2, 0, 0, 0, 0, 0, 1, w64 (1 + t1.1), w64 (1 + t2.1), w64 (1 + t3.1), 0, a0.1, ())))))
def spec_l08Port.Sj1 : Shape := ⟨[(0, false, [.ptr 0 0]), (2, false, [.ptr 2 0]), (3, false, [.ptr 3 0])], [(0, .blk 147 [.own 1, .int .i64, .int .i64]), (2, .blk 70 [.int .i64, .int .i64, .int .i64, .int .i64, .int .i64]), (3, .blk 70 [.int .i64, .int .i64, .int .i64, .int .i64, .int .i64]), (1, .view false 5 (.int .u8))], 4⟩
def spec_l08Port.sig : Sig := ⟨[.ptr 147 (.pair (.sl 5 (.int .u8)) (.pair (.int .i64) (.int .i64))) [0]], [.val true (.pair (.int .i64) (.pair (.int .i64) (.pair (.int .i64) (.pair (.int .i64) (.int .i64))))) []]⟩
def spec_l08Port.F (k : Nat) (x : Args spec_l08Port.sig.ps) : Option (Res spec_l08Port.sig) := spec_l08Port.f k x.1
def spec_l08Port.ann (k : Nat) : Ann (Res spec_l08Port.sig) := (.seq .nil (.seq .nil (.join spec_l08Port.Sj1 (spec_l08Port.j1 k) .nil .nil)))
def spec_l08Port.ent : Ent := ⟨115, spec_l08Port.sig, spec_l08Port.F⟩
def spec_l08Port.ctx (k : Nat) : Ctx := ⟨tds, [spec_l01Below.ent, spec_l01Once.ent], k, 33⟩
theorem spec_l08Port.runs (k : Nat) (x : Args spec_l08Port.sig.ps) : spec_l08Port.F k x = runF (spec_l08Port.ctx k) spec_l08Port.sig Try.f115 (Try.f115.body.getD .skip) (spec_l08Port.ann k) x := by kernel_rfl
theorem spec_l08Port.obls (k : Nat) : obl (spec_l08Port.ctx k) 2 (Try.f115.body.getD .skip) (spec_l08Port.ann k) (retK tds spec_l08Port.sig Try.f115.results.toList) := ⟨trivial, ⟨trivial, ⟨⟨by kernel_rfl, fun x => by kernel_rfl⟩, ⟨trivial, ⟨trivial, trivial⟩⟩, ⟨⟨trivial, ⟨⟨trivial, ⟨trivial, trivial⟩⟩, trivial⟩⟩, ⟨trivial, trivial⟩⟩⟩⟩⟩
theorem spec_l08Port.ok (k : Nat) : EntOk Try.prog k spec_l08Port.ent := fn_ok (C := spec_l08Port.ctx k) Try.func115 (by kernel_rfl) (by kernel_rfl) mixed tdsOk (.cons (spec_l01Below.ok k) (.cons (spec_l01Once.ok k) EntsOk.nil)) (by kernel_rfl) (Nat.le_of_ble_eq_true (by kernel_rfl)) (by kernel_rfl) (spec_l08Port.runs k) (spec_l08Port.obls k)
/-! loop.example/g00200/spec.l08Any -/
def spec_l08Any.f (k : Nat) (a0 : List Int × Int × Int) : Option ((Int × Int × Int × Int × Int) × List Int × Int × Int) :=
  (spec_l08Port.f k a0).bind fun t1 => ((spec_l01Below.f k (a0.1, t1.2.2) 16).bind fun t2 => (if t2.1 = 0 then ((spec_l01Below.f k (a0.1, t2.2.2) 4).bind fun t3 => (some ((t3.1, t1.1.2), (a0.1, t3.2.2)))) else (if t2.1 = 1 then (((some ([0, 4, 5] : List Int))).bind fun y4 => ((spec_l01PickInt.f k (a0.1, t2.2.2) y4).bind fun t5 => (some ((t1.1.1, (t5.1, t1.1.2.2)), (a0.1, t5.2.2))))) else (if t2.1 = 2 then (((some ([0, 6, 7] : List Int))).bind fun y6 => ((spec_l01PickInt.f k (a0.1, t2.2.2) y6).bind fun t7 => (some ((t1.1.1, (t1.1.2.1, (t1.1.2.2.1, (t7.1, t1.1.2.2.2.2)))), (a0.1, t7.2.2))))) else (if t2.1 = 3 then (((some ([0, 100, 101] : List Int))).bind fun y8 => ((spec_l01PickInt.f k (a0.1, t2.2.2) y8).bind fun t9 => (some ((t1.1.1, (t1.1.2.1, (t1.1.2.2.1, (t1.1.2.2.2.1, t9.1)))), (a0.1, t9.2.2))))) else (some (t1.1, (a0.1, t2.2.2))))))))
def spec_l08Any.sig : Sig := ⟨[.ptr 147 (.pair (.sl 5 (.int .u8)) (.pair (.int .i64) (.int .i64))) [0]], [.val true (.pair (.int .i64) (.pair (.int .i64) (.pair (.int .i64) (.pair (.int .i64) (.int .i64))))) []]⟩
def spec_l08Any.F (k : Nat) (x : Args spec_l08Any.sig.ps) : Option (Res spec_l08Any.sig) := spec_l08Any.f k x.1
def spec_l08Any.ann (k : Nat) : Ann (Res spec_l08Any.sig) := .nil
def spec_l08Any.ent : Ent := ⟨92, spec_l08Any.sig, spec_l08Any.F⟩
def spec_l08Any.ctx (k : Nat) : Ctx := ⟨tds, [spec_l01Below.ent, spec_l01PickInt.ent, spec_l08Port.ent], k, 32⟩
theorem spec_l08Any.runs (k : Nat) (x : Args spec_l08Any.sig.ps) : spec_l08Any.F k x = runF (spec_l08Any.ctx k) spec_l08Any.sig Try.f92 (Try.f92.body.getD .skip) (spec_l08Any.ann k) x := by kernel_rfl
theorem spec_l08Any.obls (k : Nat) : obl (spec_l08Any.ctx k) 2 (Try.f92.body.getD .skip) (spec_l08Any.ann k) (retK tds spec_l08Any.sig Try.f92.results.toList) := ⟨trivial, ⟨trivial, ⟨⟨trivial, ⟨trivial, ⟨trivial, ⟨trivial, ⟨trivial, ⟨trivial, ⟨trivial, ⟨trivial, ⟨trivial, trivial⟩⟩⟩⟩⟩⟩⟩⟩⟩, ⟨trivial, trivial⟩⟩⟩⟩
theorem spec_l08Any.ok (k : Nat) : EntOk Try.prog k spec_l08Any.ent := fn_ok (C := spec_l08Any.ctx k) Try.func92 (by kernel_rfl) (by kernel_rfl) mixed tdsOk (.cons (spec_l01Below.ok k) (.cons (spec_l01PickInt.ok k) (.cons (spec_l08Port.ok k) EntsOk.nil))) (by kernel_rfl) (Nat.le_of_ble_eq_true (by kernel_rfl)) (by kernel_rfl) (spec_l08Any.runs k) (spec_l08Any.obls k)
/-! loop.example/g00200/spec.l08Line -/
def spec_l08Line.l1 (k : Nat)  : Nat → Int × Int × Int × List Int × (List (Int × Int)) × (List (Int × Int)) × Unit → Option ((List (Int × Int)) × List Int × Int × Int)
  | 0, _ => none
  | n + 1, (x1, x2, x3, x4, x5, x6, _) => (spec_l01Below.f k (x4, (x2, x3)) 4).bind fun t1 => (if x1 < t1.1 then ((spec_l01Below.f k (x4, t1.2.2) 9).bind fun t2 => ((spec_l01Below.f k (x4, t2.2.2) 20).bind fun t3 => (((some ([(t2.1, t3.1)] : List (Int × Int)))).bind fun y4 => (if (x6.length + y4.length) * 16 ≤ 140737488355328 then (((some (x6 ++ y4))).bind fun y5 => (spec_l08Line.l1 k n (w64 (x1 + 1), t3.2.2.1, t3.2.2.2, x4, x5, y5, ()))) else none)))) else (some (x6, (x4, t1.2.2))))
def spec_l08Line.f (k : Nat) (a0 : List Int × Int × Int) : Option ((List (Int × Int)) × List Int × Int × Int) :=
  spec_l08Line.l1 k k (0, a0.2.1, a0.2.2, a0.1, [], [], ())
def spec_l08Line.Sl1 : Shape := ⟨[(0, false, [.ptr 0 0]), (2, false, [.ptr 2 0]), (3, false, [.ptr 4 0]), (4, false, [.int .i64])], [(0, .blk 147 [.own 1, .int .i64, .int .i64]), (2, .blk 73 [.own 3]), (4, .blk 73 [.own 5]), (1, .view false 5 (.int .u8)), (3, .row 123 (.pair (.int .i64) (.int .i64))), (5, .row 123 (.pair (.int .i64) (.int .i64)))], 6⟩
def spec_l08Line.sig : Sig := ⟨[.ptr 147 (.pair (.sl 5 (.int .u8)) (.pair (.int .i64) (.int .i64))) [0]], [.val true (.sl 123 (.pair (.int .i64) (.int .i64))) [none]]⟩
def spec_l08Line.F (k : Nat) (x : Args spec_l08Line.sig.ps) : Option (Res spec_l08Line.sig) := spec_l08Line.f k x.1
def spec_l08Line.ann (k : Nat) : Ann (Res spec_l08Line.sig) := (.seq .nil (.seq .nil (.seq (.seq .nil (.block (.loop spec_l08Line.Sl1 (spec_l08Line.l1 k) fun n1 => .nil))) .nil)))
def spec_l08Line.ent : Ent := ⟨93, spec_l08Line.sig, spec_l08Line.F⟩
def spec_l08Line.ctx (k : Nat) : Ctx := ⟨tds, [spec_l01Below.ent], k, 23⟩
theorem spec_l08Line.runs (k : Nat) (x : Args spec_l08Line.sig.ps) : spec_l08Line.F k x = runF (spec_l08Line.ctx k) spec_l08Line.sig Try.f93 (Try.f93.body.getD .skip) (spec_l08Line.ann k) x := by kernel_rfl
theorem spec_l08Line.obls (k : Nat) : obl (spec_l08Line.ctx k) 2 (Try.f93.body.getD .skip) (spec_l08Line.ann k) (retK tds spec_l08Line.sig Try.f93.results.toList) := ⟨trivial, ⟨trivial, ⟨⟨trivial, ⟨⟨by kernel_rfl, fun x => by kernel_rfl⟩, fun n => ⟨fun x => by kernel_rfl, ⟨⟨trivial, ⟨trivial, trivial⟩⟩, ⟨trivial, trivial⟩⟩⟩⟩⟩, ⟨trivial, trivial⟩⟩⟩⟩
theorem spec_l08Line.ok (k : Nat) : EntOk Try.prog k spec_l08Line.ent := fn_ok (C := spec_l08Line.ctx k) Try.func93 (by kernel_rfl) (by kernel_rfl) mixed tdsOk (.cons (spec_l01Below.ok k) EntsOk.nil) (by kernel_rfl) (Nat.le_of_ble_eq_true (by kernel_rfl)) (by kernel_rfl) (spec_l08Line.runs k) (spec_l08Line.obls k)
/-! loop.example/g00200/spec.DrawSendPort -/
def spec_DrawSendPort.f (k : Nat) (a0 : List Int) : Option ((Int × Int × Int × Int × Int) × (List (Int × Int)) × Int × Int) :=
  (spec_l01New.f k a0).bind fun t1 => ((spec_l08Any.f k (a0, t1.2)).bind fun t2 => ((spec_l08Line.f k (a0, t2.2.2)).bind fun t3 => ((spec_l01Below.f k (a0, t3.2.2) 99).bind fun t4 => ((spec_l01Below.f k (a0, t4.2.2) 30).bind fun t5 => (some (t2.1, t3.1, t4.1, t5.1))))))
def spec_DrawSendPort.sig : Sig := ⟨[.val false (.sl 5 (.int .u8)) [0]], [.val true (.pair (.int .i64) (.pair (.int .i64) (.pair (.int .i64) (.pair (.int .i64) (.int .i64))))) [], .val true (.sl 123 (.pair (.int .i64) (.int .i64))) [none], .val false (.int .i64) [], .val false (.int .i64) []]⟩
def spec_DrawSendPort.F (k : Nat) (x : Args spec_DrawSendPort.sig.ps) : Option (Res spec_DrawSendPort.sig) := spec_DrawSendPort.f k x.1
def spec_DrawSendPort.ann (k : Nat) : Ann (Res spec_DrawSendPort.sig) := .nil
def spec_DrawSendPort.ent : Ent := ⟨47, spec_DrawSendPort.sig, spec_DrawSendPort.F⟩
def spec_DrawSendPort.ctx (k : Nat) : Ctx := ⟨tds, [spec_l01New.ent, spec_l01Below.ent, spec_l08Any.ent, spec_l08Line.ent], k, 17⟩
theorem spec_DrawSendPort.runs (k : Nat) (x : Args spec_DrawSendPort.sig.ps) : spec_DrawSendPort.F k x = runF (spec_DrawSendPort.ctx k) spec_DrawSendPort.sig Try.f47 (Try.f47.body.getD .skip) (spec_DrawSendPort.ann k) x := by kernel_rfl
theorem spec_DrawSendPort.obls (k : Nat) : obl (spec_DrawSendPort.ctx k) 1 (Try.f47.body.getD .skip) (spec_DrawSendPort.ann k) (retK tds spec_DrawSendPort.sig Try.f47.results.toList) := ⟨trivial, ⟨trivial, ⟨trivial, trivial⟩⟩⟩
theorem spec_DrawSendPort.ok (k : Nat) : EntOk Try.prog k spec_DrawSendPort.ent := fn_ok (C := spec_DrawSendPort.ctx k) Try.func47 (by kernel_rfl) (by kernel_rfl) mixed tdsOk (.cons (spec_l01New.ok k) (.cons (spec_l01Below.ok k) (.cons (spec_l08Any.ok k) (.cons (spec_l08Line.ok k) EntsOk.nil)))) (by kernel_rfl) (Nat.le_of_ble_eq_true (by kernel_rfl)) (by kernel_rfl) (spec_DrawSendPort.runs k) (spec_DrawSendPort.obls k)
/-! loop.example/g00200/impl.copyLine -/
def impl_copyLine.f (k : Nat) (a0 : List (Int × Int)) : Option (List (Int × Int)) :=
  ((some ([] : List (Int × Int)))).bind fun y1 => (if (y1.length + a0.length) * 16 ≤ 140737488355328 then (((some (y1 ++ a0))).bind fun y2 => (some y2)) else none)
def impl_copyLine.sig : Sig := ⟨[.val true (.sl 123 (.pair (.int .i64) (.int .i64))) [0]], [.val true (.sl 123 (.pair (.int .i64) (.int .i64))) [none]]⟩
def impl_copyLine.F (k : Nat) (x : Args impl_copyLine.sig.ps) : Option (Res impl_copyLine.sig) := impl_copyLine.f k x.1
def impl_copyLine.ann (k : Nat) : Ann (Res impl_copyLine.sig) := .nil
def impl_copyLine.ent : Ent := ⟨94, impl_copyLine.sig, impl_copyLine.F⟩
def impl_copyLine.ctx (k : Nat) : Ctx := ⟨tds, [], k, 8⟩
theorem impl_copyLine.runs (k : Nat) (x : Args impl_copyLine.sig.ps) : impl_copyLine.F k x = runF (impl_copyLine.ctx k) impl_copyLine.sig Try.f94 (Try.f94.body.getD .skip) (impl_copyLine.ann k) x := by kernel_rfl
theorem impl_copyLine.obls (k : Nat) : obl (impl_copyLine.ctx k) 1 (Try.f94.body.getD .skip) (impl_copyLine.ann k) (retK tds impl_copyLine.sig Try.f94.results.toList) := ⟨trivial, ⟨trivial, trivial⟩⟩
theorem impl_copyLine.ok (k : Nat) : EntOk Try.prog k impl_copyLine.ent := fn_ok (C := impl_copyLine.ctx k) Try.func94 (by kernel_rfl) (by kernel_rfl) mixed tdsOk EntsOk.nil (by kernel_rfl) (Nat.le_of_ble_eq_true (by kernel_rfl)) (by kernel_rfl) (impl_copyLine.runs k) (impl_copyLine.obls k)
/-! loop.example/g00200/impl.PortOk -/
def impl_PortOk.f (k : Nat) (a0 : Int × Int × Int × Int × Int) : Option (Bool) :=
  (impl_isPart.f k a0.2.1).bind fun t1 => (if ¬ t1 = true then (some false) else ((impl_isPart.f k a0.2.2.1).bind fun t2 => (if ¬ t2 = true then (some false) else (if a0.2.1 = a0.2.2.1 then (some false) else (if a0.1 = 1 then ((impl_within.f k a0.2.2.2.1 1 6).bind fun t3 => (if t3 = true then (some (decide (a0.2.2.2.2 = 0))) else (some false))) else (if a0.1 = 2 then (if a0.2.2.2.1 = 1 then ((impl_within.f k a0.2.2.2.2 1 100).bind fun t4 => (some t4)) else (some false)) else (some false)))))))
def impl_PortOk.sig : Sig := ⟨[.val true (.pair (.int .i64) (.pair (.int .i64) (.pair (.int .i64) (.pair (.int .i64) (.int .i64))))) []], [.val false .bool []]⟩
def impl_PortOk.F (k : Nat) (x : Args impl_PortOk.sig.ps) : Option (Res impl_PortOk.sig) := impl_PortOk.f k x.1
def impl_PortOk.ann (k : Nat) : Ann (Res impl_PortOk.sig) := .nil
def impl_PortOk.ent : Ent := ⟨52, impl_PortOk.sig, impl_PortOk.F⟩
def impl_PortOk.ctx (k : Nat) : Ctx := ⟨tds, [impl_isPart.ent, impl_within.ent], k, 44⟩
theorem impl_PortOk.runs (k : Nat) (x : Args impl_PortOk.sig.ps) : impl_PortOk.F k x = runF (impl_PortOk.ctx k) impl_PortOk.sig Try.f52 (Try.f52.body.getD .skip) (impl_PortOk.ann k) x := by kernel_rfl
theorem impl_PortOk.obls (k : Nat) : obl (impl_PortOk.ctx k) 0 (Try.f52.body.getD .skip) (impl_PortOk.ann k) (retK tds impl_PortOk.sig Try.f52.results.toList) := ⟨trivial, ⟨⟨trivial, ⟨⟨trivial, trivial⟩, trivial⟩⟩, ⟨⟨trivial, ⟨⟨trivial, trivial⟩, trivial⟩⟩, ⟨trivial, trivial⟩⟩⟩⟩
theorem impl_PortOk.ok (k : Nat) : EntOk Try.prog k impl_PortOk.ent := fn_ok (C := impl_PortOk.ctx k) Try.func52 (by kernel_rfl) (by kernel_rfl) mixed tdsOk (.cons (impl_isPart.ok k) (.cons (impl_within.ok k) EntsOk.nil)) (by kernel_rfl) (Nat.le_of_ble_eq_true (by kernel_rfl)) (by kernel_rfl) (impl_PortOk.runs k) (impl_PortOk.obls k)
/-! loop.example/g00200/impl.SendPort -/
def impl_SendPort.j1 (k : Nat)  : Int × Int × (List (Int × Int)) × (List (Int × Int)) × Unit → Option ((List (Int × Int)) × Int)
  | (z1, z2, z3, z4, _) => ((some ([(z1, z2)] : List (Int × Int)))).bind fun y3 => (if (z4.length + y3.length) * 16 ≤ 140737488355328 then (((some (z4 ++ y3))).bind fun y4 => (some (y4, 0))) else none)
def impl_SendPort.f (k : Nat) (a0 : Int × Int × Int × Int × Int) (a1 : List (Int × Int)) (a2 : Int) (a3 : Int) : Option ((List (Int × Int)) × Int) :=
  (impl_copyLine.f k a1).bind fun t1 => ((impl_PortOk.f k a0).bind fun t2 => (if ¬ t2 = true then (some (t1, 1)) else (if a0.1 = 1 then (if a0.2.2.2.1 ≤ (a1.length : Int) then (some (t1, 1)) else (if a0.1 = 2 then (impl_SendPort.j1 k (a2, a3, [], [], ())) else (impl_SendPort.j1 k (a2, a3, [], t1, ())))) else (if a0.1 = 2 then (impl_SendPort.j1 k (a2, a3, [], [], ())) else (impl_SendPort.j1 k (a2, a3, [], t1, ()))))))
def impl_SendPort.Sj1 : Shape := ⟨[(2, false, [.int .i64]), (3, false, [.int .i64]), (8, false, [.ptr 1 0]), (10, false, [.ptr 3 0])], [(1, .blk 73 [.own 2]), (3, .blk 73 [.own 4]), (2, .row 123 (.pair (.int .i64) (.int .i64))), (4, .row 123 (.pair (.int .i64) (.int .i64)))], 5⟩
def impl_SendPort.sig : Sig := ⟨[.val true (.pair (.int .i64) (.pair (.int .i64) (.pair (.int .i64) (.pair (.int .i64) (.int .i64))))) [], .val true (.sl 123 (.pair (.int .i64) (.int .i64))) [0], .val false (.int .i64) [], .val false (.int .i64) []], [.val true (.sl 123 (.pair (.int .i64) (.int .i64))) [none], .val false (.int .i64) []]⟩
def impl_SendPort.F (k : Nat) (x : Args impl_SendPort.sig.ps) : Option (Res impl_SendPort.sig) := impl_SendPort.f k x.1 x.2.1 x.2.2.1 x.2.2.2.1
def impl_SendPort.ann (k : Nat) : Ann (Res impl_SendPort.sig) := (.seq .nil (.seq .nil (.join impl_SendPort.Sj1 (impl_SendPort.j1 k) .nil .nil)))
def impl_SendPort.ent : Ent := ⟨48, impl_SendPort.sig, impl_SendPort.F⟩
def impl_SendPort.ctx (k : Nat) : Ctx := ⟨tds, [impl_PortOk.ent, impl_copyLine.ent], k, 45⟩
theorem impl_SendPort.runs (k : Nat) (x : Args impl_SendPort.sig.ps) : impl_SendPort.F k x = runF (impl_SendPort.ctx k) impl_SendPort.sig Try.f48 (Try.f48.body.getD .skip) (impl_SendPort.ann k) x := by kernel_rfl
theorem impl_SendPort.obls (k : Nat) : obl (impl_SendPort.ctx k) 1 (Try.f48.body.getD .skip) (impl_SendPort.ann k) (retK tds impl_SendPort.sig Try.f48.results.toList) := ⟨trivial, ⟨trivial, ⟨⟨by kernel_rfl, fun x => by kernel_rfl⟩, ⟨trivial, ⟨⟨trivial, trivial⟩, ⟨trivial, ⟨trivial, trivial⟩⟩⟩⟩, ⟨trivial, ⟨trivial, trivial⟩⟩⟩⟩⟩
theorem impl_SendPort.ok (k : Nat) : EntOk Try.prog k impl_SendPort.ent := fn_ok (C := impl_SendPort.ctx k) Try.func48 (by kernel_rfl) (by kernel_rfl) mixed tdsOk (.cons (impl_PortOk.ok k) (.cons (impl_copyLine.ok k) EntsOk.nil)) (by kernel_rfl) (Nat.le_of_ble_eq_true (by kernel_rfl)) (by kernel_rfl) (impl_SendPort.runs k) (impl_SendPort.obls k)
/-! loop.example/g00200/spec.l08Copy -/
def spec_l08Copy.f (k : Nat) (a0 : List (Int × Int)) : Option (List (Int × Int)) :=
  ((some ([] : List (Int × Int)))).bind fun y1 => (if (y1.length + a0.length) * 16 ≤ 140737488355328 then (((some (y1 ++ a0))).bind fun y2 => (some y2)) else none)
def spec_l08Copy.sig : Sig := ⟨[.val true (.sl 123 (.pair (.int .i64) (.int .i64))) [0]], [.val true (.sl 123 (.pair (.int .i64) (.int .i64))) [none]]⟩
def spec_l08Copy.F (k : Nat) (x : Args spec_l08Copy.sig.ps) : Option (Res spec_l08Copy.sig) := spec_l08Copy.f k x.1
def spec_l08Copy.ann (k : Nat) : Ann (Res spec_l08Copy.sig) := .nil
def spec_l08Copy.ent : Ent := ⟨95, spec_l08Copy.sig, spec_l08Copy.F⟩
def spec_l08Copy.ctx (k : Nat) : Ctx := ⟨tds, [], k, 8⟩
theorem spec_l08Copy.runs (k : Nat) (x : Args spec_l08Copy.sig.ps) : spec_l08Copy.F k x = runF (spec_l08Copy.ctx k) spec_l08Copy.sig Try.f95 (Try.f95.body.getD .skip) (spec_l08Copy.ann k) x := by kernel_rfl
theorem spec_l08Copy.obls (k : Nat) : obl (spec_l08Copy.ctx k) 1 (Try.f95.body.getD .skip) (spec_l08Copy.ann k) (retK tds spec_l08Copy.sig Try.f95.results.toList) := ⟨trivial, ⟨trivial, trivial⟩⟩
theorem spec_l08Copy.ok (k : Nat) : EntOk Try.prog k spec_l08Copy.ent := fn_ok (C := spec_l08Copy.ctx k) Try.func95 (by kernel_rfl) (by kernel_rfl) mixed tdsOk EntsOk.nil (by kernel_rfl) (Nat.le_of_ble_eq_true (by kernel_rfl)) (by kernel_rfl) (spec_l08Copy.runs k) (spec_l08Copy.obls k)
/-! loop.example/g00200/spec.PortOk -/
def spec_PortOk.f (k : Nat) (a0 : Int × Int × Int × Int × Int) : Option (Bool) :=
  (spec_l01In.f k a0.2.1 1 4).bind fun t1 => (if ¬ t1 = true then (some false) else ((spec_l01In.f k a0.2.2.1 1 4).bind fun t2 => (if ¬ t2 = true then (some false) else (if a0.2.1 = a0.2.2.1 then (some false) else (if a0.1 = 1 then ((spec_l01In.f k a0.2.2.2.1 1 6).bind fun t3 => (if t3 = true then (some (decide (a0.2.2.2.2 = 0))) else (some false))) else (if a0.1 = 2 then (if a0.2.2.2.1 = 1 then ((spec_l01In.f k a0.2.2.2.2 1 100).bind fun t4 => (some t4)) else (some false)) else (some false)))))))
def spec_PortOk.sig : Sig := ⟨[.val true (.pair (.int .i64) (.pair (.int .i64) (.pair (.int .i64) (.pair (.int .i64) (.int .i64))))) []], [.val false .bool []]⟩
def spec_PortOk.F (k : Nat) (x : Args spec_PortOk.sig.ps) : Option (Res spec_PortOk.sig) := spec_PortOk.f k x.1
def spec_PortOk.ann (k : Nat) : Ann (Res spec_PortOk.sig) := .nil
def spec_PortOk.ent : Ent := ⟨53, spec_PortOk.sig, spec_PortOk.F⟩
def spec_PortOk.ctx (k : Nat) : Ctx := ⟨tds, [spec_l01In.ent], k, 44⟩
theorem spec_PortOk.runs (k : Nat) (x : Args spec_PortOk.sig.ps) : spec_PortOk.F k x = runF (spec_PortOk.ctx k) spec_PortOk.sig Try.f53 (Try.f53.body.getD .skip) (spec_PortOk.ann k) x := by kernel_rfl
theorem spec_PortOk.obls (k : Nat) : obl (spec_PortOk.ctx k) 0 (Try.f53.body.getD .skip) (spec_PortOk.ann k) (retK tds spec_PortOk.sig Try.f53.results.toList) := ⟨trivial, ⟨⟨trivial, ⟨⟨trivial, trivial⟩, trivial⟩⟩, ⟨⟨trivial, ⟨⟨trivial, trivial⟩, trivial⟩⟩, ⟨trivial, trivial⟩⟩⟩⟩
theorem spec_PortOk.ok (k : Nat) : EntOk Try.prog k spec_PortOk.ent := fn_ok (C := spec_PortOk.ctx k) Try.func53 (by kernel_rfl) (by kernel_rfl) mixed tdsOk (.cons (spec_l01In.ok k) EntsOk.nil) (by kernel_rfl) (Nat.le_of_ble_eq_true (by kernel_rfl)) (by kernel_rfl) (spec_PortOk.runs k) (spec_PortOk.obls k)
/-! loop.example/g00200/spec.SendPort -/
def spec_SendPort.f (k : Nat) (a0 : Int × Int × Int × Int × Int) (a1 : List (Int × Int)) (a2 : Int) (a3 : Int) : Option ((List (Int × Int)) × Int) :=
  (spec_l08Copy.f k a1).bind fun t1 => ((spec_PortOk.f k a0).bind fun t2 => (if t2 = true then (if a0.1 = 2 then (((some ([(a2, a3)] : List (Int × Int)))).bind fun y3 => (some (y3, 0))) else ((spec_PortOk.f k a0).bind fun t4 => (if ¬ t4 = true then (some (t1, 1)) else (if a0.2.2.2.1 ≤ (a1.length : Int) then (some (t1, 1)) else (((some ([(a2, a3)] : List (Int × Int)))).bind fun y5 => (if (t1.length + y5.length) * 16 ≤ 140737488355328 then (((some (t1 ++ y5))).bind fun y6 => (some (y6, 0))) else none)))))) else ((spec_PortOk.f k a0).bind fun t7 => (if ¬ t7 = true then (some (t1, 1)) else (if a0.2.2.2.1 ≤ (a1.length : Int) then (some (t1, 1)) else (((some ([(a2, a3)] : List (Int × Int)))).bind fun y8 => (if (t1.length + y8.length) * 16 ≤ 140737488355328 then (((some (t1 ++ y8))).bind fun y9 => (some (y9, 0))) else none)))))))
def spec_SendPort.sig : Sig := ⟨[.val true (.pair (.int .i64) (.pair (.int .i64) (.pair (.int .i64) (.pair (.int .i64) (.int .i64))))) [], .val true (.sl 123 (.pair (.int .i64) (.int .i64))) [0], .val false (.int .i64) [], .val false (.int .i64) []], [.val true (.sl 123 (.pair (.int .i64) (.int .i64))) [none], .val false (.int .i64) []]⟩
def spec_SendPort.F (k : Nat) (x : Args spec_SendPort.sig.ps) : Option (Res spec_SendPort.sig) := spec_SendPort.f k x.1 x.2.1 x.2.2.1 x.2.2.2.1
def spec_SendPort.ann (k : Nat) : Ann (Res spec_SendPort.sig) := .nil
def spec_SendPort.ent : Ent := ⟨49, spec_SendPort.sig, spec_SendPort.F⟩
def spec_SendPort.ctx (k : Nat) : Ctx := ⟨tds, [spec_PortOk.ent, spec_l08Copy.ent], k, 46⟩
theorem spec_SendPort.runs (k : Nat) (x : Args spec_SendPort.sig.ps) : spec_SendPort.F k x = runF (spec_SendPort.ctx k) spec_SendPort.sig Try.f49 (Try.f49.body.getD .skip) (spec_SendPort.ann k) x := by kernel_rfl
theorem spec_SendPort.obls (k : Nat) : obl (spec_SendPort.ctx k) 1 (Try.f49.body.getD .skip) (spec_SendPort.ann k) (retK tds spec_SendPort.sig Try.f49.results.toList) := ⟨trivial, ⟨trivial, ⟨trivial, ⟨⟨trivial, ⟨⟨trivial, trivial⟩, trivial⟩⟩, ⟨⟨trivial, ⟨⟨trivial, trivial⟩, trivial⟩⟩, ⟨trivial, ⟨trivial, trivial⟩⟩⟩⟩⟩⟩⟩
theorem spec_SendPort.ok (k : Nat) : EntOk Try.prog k spec_SendPort.ent := fn_ok (C := spec_SendPort.ctx k) Try.func49 (by kernel_rfl) (by kernel_rfl) mixed tdsOk (.cons (spec_PortOk.ok k) (.cons (spec_l08Copy.ok k) EntsOk.nil)) (by kernel_rfl) (Nat.le_of_ble_eq_true (by kernel_rfl)) (by kernel_rfl) (spec_SendPort.runs k) (spec_SendPort.obls k)
/-! loop.example/g00200/impl.TakePort -/
def impl_TakePort.f (k : Nat) (a0 : Int × Int × Int × Int × Int) (a1 : List (Int × Int)) (a2 : Int) : Option ((List (Int × Int)) × Int × Int) :=
  (impl_copyLine.f k a1).bind fun t1 => ((impl_PortOk.f k a0).bind fun t2 => (if ¬ t2 = true then (some (t1, 0, 2)) else (if (a1.length : Int) = 0 then (some (t1, 0, 2)) else (if 0 ≤ 0 then (if 0 < (a1.length : Int) then (if a0.1 = 1 then (if 0 ≤ 1 then (if 1 ≤ (t1.length : Int) then (some (t1.drop 1, (el (.pair (.int .i64) (.int .i64)) a1 0).1, 0)) else none) else none) else (if ((el (.pair (.int .i64) (.int .i64)) a1 0).2) < a2 then (if (IntKind.u64.wrap (a0.2.2.2.2)) < (IntKind.u64.wrap ((IntKind.u64.wrap (a2)) - (IntKind.u64.wrap ((el (.pair (.int .i64) (.int .i64)) a1 0).2)))) then (some (t1, (el (.pair (.int .i64) (.int .i64)) a1 0).1, 3)) else (some (t1, (el (.pair (.int .i64) (.int .i64)) a1 0).1, 0))) else (some (t1, (el (.pair (.int .i64) (.int .i64)) a1 0).1, 0)))) else none) else none))))
def impl_TakePort.sig : Sig := ⟨[.val true (.pair (.int .i64) (.pair (.int .i64) (.pair (.int .i64) (.pair (.int .i64) (.int .i64))))) [], .val true (.sl 123 (.pair (.int .i64) (.int .i64))) [0], .val false (.int .i64) []], [.val true (.sl 123 (.pair (.int .i64) (.int .i64))) [none], .val false (.int .i64) [], .val false (.int .i64) []]⟩
def impl_TakePort.F (k : Nat) (x : Args impl_TakePort.sig.ps) : Option (Res impl_TakePort.sig) := impl_TakePort.f k x.1 x.2.1 x.2.2.1
def impl_TakePort.ann (k : Nat) : Ann (Res impl_TakePort.sig) := .nil
def impl_TakePort.ent : Ent := ⟨50, impl_TakePort.sig, impl_TakePort.F⟩
def impl_TakePort.ctx (k : Nat) : Ctx := ⟨tds, [impl_PortOk.ent, impl_copyLine.ent], k, 58⟩
theorem impl_TakePort.runs (k : Nat) (x : Args impl_TakePort.sig.ps) : impl_TakePort.F k x = runF (impl_TakePort.ctx k) impl_TakePort.sig Try.f50 (Try.f50.body.getD .skip) (impl_TakePort.ann k) x := by kernel_rfl
theorem impl_TakePort.obls (k : Nat) : obl (impl_TakePort.ctx k) 1 (Try.f50.body.getD .skip) (impl_TakePort.ann k) (retK tds impl_TakePort.sig Try.f50.results.toList) := ⟨trivial, ⟨trivial, ⟨⟨trivial, ⟨⟨trivial, trivial⟩, trivial⟩⟩, ⟨trivial, ⟨⟨trivial, ⟨trivial, ⟨trivial, ⟨⟨trivial, trivial⟩, trivial⟩⟩⟩⟩, ⟨trivial, trivial⟩⟩⟩⟩⟩⟩
theorem impl_TakePort.ok (k : Nat) : EntOk Try.prog k impl_TakePort.ent := fn_ok (C := impl_TakePort.ctx k) Try.func50 (by kernel_rfl) (by kernel_rfl) mixed tdsOk (.cons (impl_PortOk.ok k) (.cons (impl_copyLine.ok k) EntsOk.nil)) (by kernel_rfl) (Nat.le_of_ble_eq_true (by kernel_rfl)) (by kernel_rfl) (impl_TakePort.runs k) (impl_TakePort.obls k)
/-! loop.example/g00200/spec.TakePort -/
def spec_TakePort.f (k : Nat) (a0 : Int × Int × Int × Int × Int) (a1 : List (Int × Int)) (a2 : Int) : Option ((List (Int × Int)) × Int × Int) :=
  (spec_l08Copy.f k a1).bind fun t1 => ((spec_PortOk.f k a0).bind fun t2 => (if ¬ t2 = true then (some (t1, 0, 2)) else (if (a1.length : Int) = 0 then (some (t1, 0, 2)) else (if 0 ≤ 0 then (if 0 < (a1.length : Int) then (if a0.1 = 1 then (((some ([] : List (Int × Int)))).bind fun y3 => (if 0 ≤ 1 then (if 1 ≤ (a1.length : Int) then (if (y3.length + (a1.drop 1).length) * 16 ≤ 140737488355328 then (((some (y3 ++ (a1.drop 1)))).bind fun y4 => (some (y4, (el (.pair (.int .i64) (.int .i64)) a1 0).1, 0))) else none) else none) else none)) else (if ((el (.pair (.int .i64) (.int .i64)) a1 0).2) < a2 then (if (w64 (a2 - ((el (.pair (.int .i64) (.int .i64)) a1 0).2))) < 0 then (some (t1, (el (.pair (.int .i64) (.int .i64)) a1 0).1, 3)) else (if a0.2.2.2.2 < (w64 (a2 - ((el (.pair (.int .i64) (.int .i64)) a1 0).2))) then (some (t1, (el (.pair (.int .i64) (.int .i64)) a1 0).1, 3)) else (some (t1, (el (.pair (.int .i64) (.int .i64)) a1 0).1, 0)))) else (some (t1, (el (.pair (.int .i64) (.int .i64)) a1 0).1, 0)))) else none) else none))))
def spec_TakePort.sig : Sig := ⟨[.val true (.pair (.int .i64) (.pair (.int .i64) (.pair (.int .i64) (.pair (.int .i64) (.int .i64))))) [], .val true (.sl 123 (.pair (.int .i64) (.int .i64))) [0], .val false (.int .i64) []], [.val true (.sl 123 (.pair (.int .i64) (.int .i64))) [none], .val false (.int .i64) [], .val false (.int .i64) []]⟩
def spec_TakePort.F (k : Nat) (x : Args spec_TakePort.sig.ps) : Option (Res spec_TakePort.sig) := spec_TakePort.f k x.1 x.2.1 x.2.2.1
def spec_TakePort.ann (k : Nat) : Ann (Res spec_TakePort.sig) := .nil
def spec_TakePort.ent : Ent := ⟨51, spec_TakePort.sig, spec_TakePort.F⟩
def spec_TakePort.ctx (k : Nat) : Ctx := ⟨tds, [spec_PortOk.ent, spec_l08Copy.ent], k, 65⟩
theorem spec_TakePort.runs (k : Nat) (x : Args spec_TakePort.sig.ps) : spec_TakePort.F k x = runF (spec_TakePort.ctx k) spec_TakePort.sig Try.f51 (Try.f51.body.getD .skip) (spec_TakePort.ann k) x := by kernel_rfl
theorem spec_TakePort.obls (k : Nat) : obl (spec_TakePort.ctx k) 1 (Try.f51.body.getD .skip) (spec_TakePort.ann k) (retK tds spec_TakePort.sig Try.f51.results.toList) := ⟨trivial, ⟨trivial, ⟨⟨trivial, ⟨⟨trivial, trivial⟩, trivial⟩⟩, ⟨trivial, ⟨⟨trivial, ⟨⟨trivial, ⟨trivial, trivial⟩⟩, trivial⟩⟩, ⟨⟨trivial, ⟨⟨trivial, trivial⟩, trivial⟩⟩, ⟨trivial, trivial⟩⟩⟩⟩⟩⟩⟩
theorem spec_TakePort.ok (k : Nat) : EntOk Try.prog k spec_TakePort.ent := fn_ok (C := spec_TakePort.ctx k) Try.func51 (by kernel_rfl) (by kernel_rfl) mixed tdsOk (.cons (spec_PortOk.ok k) (.cons (spec_l08Copy.ok k) EntsOk.nil)) (by kernel_rfl) (Nat.le_of_ble_eq_true (by kernel_rfl)) (by kernel_rfl) (spec_TakePort.runs k) (spec_TakePort.obls k)
/-! loop.example/g00200/laws.szMsgS -/
def laws_szMsgS.f (k : Nat) (a0 : List (Int × Int)) (a1 : Int) : Option (Int) :=
  if (w64 (a1 - (a0.length : Int))) < 0 then (some (-1)) else (some (w64 (a1 - (a0.length : Int))))
def laws_szMsgS.sig : Sig := ⟨[.val false (.sl 150 (.pair (.int .i64) (.int .i64))) [0], .val false (.int .i64) []], [.val false (.int .i64) []]⟩
def laws_szMsgS.F (k : Nat) (x : Args laws_szMsgS.sig.ps) : Option (Res laws_szMsgS.sig) := laws_szMsgS.f k x.1 x.2.1
def laws_szMsgS.ann (k : Nat) : Ann (Res laws_szMsgS.sig) := .nil
def laws_szMsgS.ent : Ent := ⟨96, laws_szMsgS.sig, laws_szMsgS.F⟩
def laws_szMsgS.ctx (k : Nat) : Ctx := ⟨tds, [], k, 12⟩
theorem laws_szMsgS.runs (k : Nat) (x : Args laws_szMsgS.sig.ps) : laws_szMsgS.F k x = runF (laws_szMsgS.ctx k) laws_szMsgS.sig Try.f96 (Try.f96.body.getD .skip) (laws_szMsgS.ann k) x := by kernel_rfl
theorem laws_szMsgS.obls (k : Nat) : obl (laws_szMsgS.ctx k) 1 (Try.f96.body.getD .skip) (laws_szMsgS.ann k) (retK tds laws_szMsgS.sig Try.f96.results.toList) := ⟨trivial, ⟨trivial, ⟨⟨trivial, ⟨⟨trivial, trivial⟩, trivial⟩⟩, ⟨trivial, trivial⟩⟩⟩⟩
theorem laws_szMsgS.ok (k : Nat) : EntOk Try.prog k laws_szMsgS.ent := fn_ok (C := laws_szMsgS.ctx k) Try.func96 (by kernel_rfl) (by kernel_rfl) mixed tdsOk EntsOk.nil (by kernel_rfl) (Nat.le_of_ble_eq_true (by kernel_rfl)) (by kernel_rfl) (laws_szMsgS.runs k) (laws_szMsgS.obls k)
/-! loop.example/g00200/laws.szLine -/
def laws_szLine.f (k : Nat) (a0 : List (Int × Int)) (a1 : Int) : Option (Int) :=
  (laws_szMsgS.f k a0 a1).bind fun t1 => (if t1 < 0 then (some (-1)) else (some t1))
def laws_szLine.sig : Sig := ⟨[.val true (.sl 150 (.pair (.int .i64) (.int .i64))) [0], .val false (.int .i64) []], [.val false (.int .i64) []]⟩
def laws_szLine.F (k : Nat) (x : Args laws_szLine.sig.ps) : Option (Res laws_szLine.sig) := laws_szLine.f k x.1 x.2.1
def laws_szLine.ann (k : Nat) : Ann (Res laws_szLine.sig) := .nil
def laws_szLine.ent : Ent := ⟨54, laws_szLine.sig, laws_szLine.F⟩
def laws_szLine.ctx (k : Nat) : Ctx := ⟨tds, [laws_szMsgS.ent], k, 12⟩
theorem laws_szLine.runs (k : Nat) (x : Args laws_szLine.sig.ps) : laws_szLine.F k x = runF (laws_szLine.ctx k) laws_szLine.sig Try.f54 (Try.f54.body.getD .skip) (laws_szLine.ann k) x := by kernel_rfl
theorem laws_szLine.obls (k : Nat) : obl (laws_szLine.ctx k) 1 (Try.f54.body.getD .skip) (laws_szLine.ann k) (retK tds laws_szLine.sig Try.f54.results.toList) := ⟨trivial, ⟨trivial, ⟨⟨trivial, ⟨⟨trivial, trivial⟩, trivial⟩⟩, ⟨trivial, trivial⟩⟩⟩⟩
theorem laws_szLine.ok (k : Nat) : EntOk Try.prog k laws_szLine.ent := fn_ok (C := laws_szLine.ctx k) Try.func54 (by kernel_rfl) (by kernel_rfl) mixed tdsOk (.cons (laws_szMsgS.ok k) EntsOk.nil) (by kernel_rfl) (Nat.le_of_ble_eq_true (by kernel_rfl)) (by kernel_rfl) (laws_szLine.runs k) (laws_szLine.obls k)
/-! loop.example/g00200/laws.toPort -/
def laws_toPort.f (k : Nat) (a0 : Int × Int × Int × Int × Int) : Option (Int × Int × Int × Int × Int) :=
  some a0
def laws_toPort.sig : Sig := ⟨[.val true (.pair (.int .i64) (.pair (.int .i64) (.pair (.int .i64) (.pair (.int .i64) (.int .i64))))) []], [.val true (.pair (.int .i64) (.pair (.int .i64) (.pair (.int .i64) (.pair (.int .i64) (.int .i64))))) []]⟩
def laws_toPort.F (k : Nat) (x : Args laws_toPort.sig.ps) : Option (Res laws_toPort.sig) := laws_toPort.f k x.1
def laws_toPort.ann (k : Nat) : Ann (Res laws_toPort.sig) := .nil
def laws_toPort.ent : Ent := ⟨55, laws_toPort.sig, laws_toPort.F⟩
def laws_toPort.ctx (k : Nat) : Ctx := ⟨tds, [], k, 20⟩
theorem laws_toPort.runs (k : Nat) (x : Args laws_toPort.sig.ps) : laws_toPort.F k x = runF (laws_toPort.ctx k) laws_toPort.sig Try.f55 (Try.f55.body.getD .skip) (laws_toPort.ann k) x := by kernel_rfl
theorem laws_toPort.obls (k : Nat) : obl (laws_toPort.ctx k) 0 (Try.f55.body.getD .skip) (laws_toPort.ann k) (retK tds laws_toPort.sig Try.f55.results.toList) := ⟨trivial, ⟨trivial, ⟨trivial, ⟨trivial, ⟨trivial, ⟨trivial, ⟨trivial, ⟨trivial, trivial⟩⟩⟩⟩⟩⟩⟩⟩
theorem laws_toPort.ok (k : Nat) : EntOk Try.prog k laws_toPort.ent := fn_ok (C := laws_toPort.ctx k) Try.func55 (by kernel_rfl) (by kernel_rfl) mixed tdsOk EntsOk.nil (by kernel_rfl) (Nat.le_of_ble_eq_true (by kernel_rfl)) (by kernel_rfl) (laws_toPort.runs k) (laws_toPort.obls k)
/-! loop.example/g00200/laws.toMsg -/
def laws_toMsg.f (k : Nat) (a0 : Int × Int) : Option (Int × Int) :=
  some a0
def laws_toMsg.sig : Sig := ⟨[.val true (.pair (.int .i64) (.int .i64)) []], [.val true (.pair (.int .i64) (.int .i64)) []]⟩
def laws_toMsg.F (k : Nat) (x : Args laws_toMsg.sig.ps) : Option (Res laws_toMsg.sig) := laws_toMsg.f k x.1
def laws_toMsg.ann (k : Nat) : Ann (Res laws_toMsg.sig) := .nil
def laws_toMsg.ent : Ent := ⟨116, laws_toMsg.sig, laws_toMsg.F⟩
def laws_toMsg.ctx (k : Nat) : Ctx := ⟨tds, [], k, 11⟩
theorem laws_toMsg.runs (k : Nat) (x : Args laws_toMsg.sig.ps) : laws_toMsg.F k x = runF (laws_toMsg.ctx k) laws_toMsg.sig Try.f116 (Try.f116.body.getD .skip) (laws_toMsg.ann k) x := by kernel_rfl
theorem laws_toMsg.obls (k : Nat) : obl (laws_toMsg.ctx k) 0 (Try.f116.body.getD .skip) (laws_toMsg.ann k) (retK tds laws_toMsg.sig Try.f116.results.toList) := ⟨trivial, ⟨trivial, ⟨trivial, ⟨trivial, ⟨trivial, trivial⟩⟩⟩⟩⟩
theorem laws_toMsg.ok (k : Nat) : EntOk Try.prog k laws_toMsg.ent := fn_ok (C := laws_toMsg.ctx k) Try.func116 (by kernel_rfl) (by kernel_rfl) mixed tdsOk EntsOk.nil (by kernel_rfl) (Nat.le_of_ble_eq_true (by kernel_rfl)) (by kernel_rfl) (laws_toMsg.runs k) (laws_toMsg.obls k)
/-! loop.example/g00200/laws.toMsgS -/
def laws_toMsgS.l1 (k : Nat)  : Nat → Int × (List (Int × Int)) × (List (Int × Int)) × Unit → Option (List (Int × Int))
  | 0, _ => none
  | n + 1, (x1, x2, x3, _) => if x1 < (x2.length : Int) then (if 0 ≤ x1 then (if x1 < (x2.length : Int) then ((laws_toMsg.f k (el (.pair (.int .i64) (.int .i64)) x2 x1.toNat)).bind fun t2 => (if 0 ≤ x1 then (if x1 < (x3.length : Int) then (((some (x3.set x1.toNat t2))).bind fun y3 => (laws_toMsgS.l1 k n (w64 (x1 + 1), x2, y3, ()))) else none) else none)) else none) else none) else (some x3)
def laws_toMsgS.f (k : Nat) (a0 : List (Int × Int)) : Option (List (Int × Int)) :=
  if (a0.length : Int) = (a0.length : Int) then (if 0 ≤ (a0.length : Int) then (if ((a0.length : Int)).toNat * 16 ≤ 281474976710656 then (((some (List.replicate ((a0.length : Int)).toNat (0, 0) : List (Int × Int)))).bind fun y1 => (laws_toMsgS.l1 k k (0, a0, y1, ()))) else none) else none) else none
def laws_toMsgS.Sl1 : Shape := ⟨[(0, false, [.own 0]), (3, false, [.own 1]), (4, false, [.int .i64])], [(0, .view false 150 (.pair (.int .i64) (.int .i64))), (1, .row 123 (.pair (.int .i64) (.int .i64)))], 2⟩
def laws_toMsgS.sig : Sig := ⟨[.val false (.sl 150 (.pair (.int .i64) (.int .i64))) [0]], [.val false (.sl 123 (.pair (.int .i64) (.int .i64))) [none]]⟩
def laws_toMsgS.F (k : Nat) (x : Args laws_toMsgS.sig.ps) : Option (Res laws_toMsgS.sig) := laws_toMsgS.f k x.1
def laws_toMsgS.ann (k : Nat) : Ann (Res laws_toMsgS.sig) := (.seq .nil (.seq .nil (.seq (.seq .nil (.block (.loop laws_toMsgS.Sl1 (laws_toMsgS.l1 k) fun n1 => .nil))) .nil)))
def laws_toMsgS.ent : Ent := ⟨97, laws_toMsgS.sig, laws_toMsgS.F⟩
def laws_toMsgS.ctx (k : Nat) : Ctx := ⟨tds, [laws_toMsg.ent], k, 23⟩
theorem laws_toMsgS.runs (k : Nat) (x : Args laws_toMsgS.sig.ps) : laws_toMsgS.F k x = runF (laws_toMsgS.ctx k) laws_toMsgS.sig Try.f97 (Try.f97.body.getD .skip) (laws_toMsgS.ann k) x := by kernel_rfl
theorem laws_toMsgS.obls (k : Nat) : obl (laws_toMsgS.ctx k) 1 (Try.f97.body.getD .skip) (laws_toMsgS.ann k) (retK tds laws_toMsgS.sig Try.f97.results.toList) := ⟨trivial, ⟨trivial, ⟨⟨trivial, ⟨⟨by kernel_rfl, fun x => by kernel_rfl⟩, fun n => ⟨fun x => by kernel_rfl, ⟨⟨trivial, ⟨trivial, trivial⟩⟩, ⟨trivial, trivial⟩⟩⟩⟩⟩, ⟨trivial, trivial⟩⟩⟩⟩
theorem laws_toMsgS.ok (k : Nat) : EntOk Try.prog k laws_toMsgS.ent := fn_ok (C := laws_toMsgS.ctx k) Try.func97 (by kernel_rfl) (by kernel_rfl) mixed tdsOk (.cons (laws_toMsg.ok k) EntsOk.nil) (by kernel_rfl) (Nat.le_of_ble_eq_true (by kernel_rfl)) (by kernel_rfl) (laws_toMsgS.runs k) (laws_toMsgS.obls k)
/-! loop.example/g00200/laws.toLine -/
def laws_toLine.f (k : Nat) (a0 : List (Int × Int)) : Option (List (Int × Int)) :=
  (laws_toMsgS.f k a0).bind fun t1 => (some t1)
def laws_toLine.sig : Sig := ⟨[.val true (.sl 150 (.pair (.int .i64) (.int .i64))) [0]], [.val true (.sl 123 (.pair (.int .i64) (.int .i64))) [none]]⟩
def laws_toLine.F (k : Nat) (x : Args laws_toLine.sig.ps) : Option (Res laws_toLine.sig) := laws_toLine.f k x.1
def laws_toLine.ann (k : Nat) : Ann (Res laws_toLine.sig) := .nil
def laws_toLine.ent : Ent := ⟨56, laws_toLine.sig, laws_toLine.F⟩
def laws_toLine.ctx (k : Nat) : Ctx := ⟨tds, [laws_toMsgS.ent], k, 9⟩
theorem laws_toLine.runs (k : Nat) (x : Args laws_toLine.sig.ps) : laws_toLine.F k x = runF (laws_toLine.ctx k) laws_toLine.sig Try.f56 (Try.f56.body.getD .skip) (laws_toLine.ann k) x := by kernel_rfl
theorem laws_toLine.obls (k : Nat) : obl (laws_toLine.ctx k) 1 (Try.f56.body.getD .skip) (laws_toLine.ann k) (retK tds laws_toLine.sig Try.f56.results.toList) := ⟨trivial, ⟨trivial, ⟨trivial, ⟨trivial, trivial⟩⟩⟩⟩
theorem laws_toLine.ok (k : Nat) : EntOk Try.prog k laws_toLine.ent := fn_ok (C := laws_toLine.ctx k) Try.func56 (by kernel_rfl) (by kernel_rfl) mixed tdsOk (.cons (laws_toMsgS.ok k) EntsOk.nil) (by kernel_rfl) (Nat.le_of_ble_eq_true (by kernel_rfl)) (by kernel_rfl) (laws_toLine.runs k) (laws_toLine.obls k)
/-! loop.example/g00200/laws.eqMsg -/
def laws_eqMsg.f (k : Nat) (a0 : Int × Int) (a1 : Int × Int) : Option (Bool) :=
  if ¬ a0.1 = a1.1 then (some false) else (if ¬ a0.2 = a1.2 then (some false) else (some true))
def laws_eqMsg.sig : Sig := ⟨[.val true (.pair (.int .i64) (.int .i64)) [], .val true (.pair (.int .i64) (.int .i64)) []], [.val false .bool []]⟩
def laws_eqMsg.F (k : Nat) (x : Args laws_eqMsg.sig.ps) : Option (Res laws_eqMsg.sig) := laws_eqMsg.f k x.1 x.2.1
def laws_eqMsg.ann (k : Nat) : Ann (Res laws_eqMsg.sig) := .nil
def laws_eqMsg.ent : Ent := ⟨117, laws_eqMsg.sig, laws_eqMsg.F⟩
def laws_eqMsg.ctx (k : Nat) : Ctx := ⟨tds, [], k, 15⟩
theorem laws_eqMsg.runs (k : Nat) (x : Args laws_eqMsg.sig.ps) : laws_eqMsg.F k x = runF (laws_eqMsg.ctx k) laws_eqMsg.sig Try.f117 (Try.f117.body.getD .skip) (laws_eqMsg.ann k) x := by kernel_rfl
theorem laws_eqMsg.obls (k : Nat) : obl (laws_eqMsg.ctx k) 0 (Try.f117.body.getD .skip) (laws_eqMsg.ann k) (retK tds laws_eqMsg.sig Try.f117.results.toList) := ⟨trivial, ⟨⟨trivial, ⟨⟨trivial, trivial⟩, trivial⟩⟩, ⟨⟨trivial, ⟨⟨trivial, trivial⟩, trivial⟩⟩, ⟨trivial, trivial⟩⟩⟩⟩
theorem laws_eqMsg.ok (k : Nat) : EntOk Try.prog k laws_eqMsg.ent := fn_ok (C := laws_eqMsg.ctx k) Try.func117 (by kernel_rfl) (by kernel_rfl) mixed tdsOk EntsOk.nil (by kernel_rfl) (Nat.le_of_ble_eq_true (by kernel_rfl)) (by kernel_rfl) (laws_eqMsg.runs k) (laws_eqMsg.obls k)
/-! loop.example/g00200/laws.eqMsgS -/
def laws_eqMsgS.l1 (k : Nat)  : Nat → Int × (List (Int × Int)) × (List (Int × Int)) × Unit → Option (Bool)
  | 0, _ => none
  | n + 1, (x1, x2, x3, _) => if x1 < (x2.length : Int) then (if 0 ≤ x1 then (if x1 < (x2.length : Int) then (if 0 ≤ x1 then (if x1 < (x3.length : Int) then ((laws_eqMsg.f k (el (.pair (.int .i64) (.int .i64)) x2 x1.toNat) (el (.pair (.int .i64) (.int .i64)) x3 x1.toNat)).bind fun t1 => (if ¬ t1 = true then (some false) else (laws_eqMsgS.l1 k n (w64 (x1 + 1), x2, x3, ())))) else none) else none) else none) else none) else (some true)
def laws_eqMsgS.f (k : Nat) (a0 : List (Int × Int)) (a1 : List (Int × Int)) : Option (Bool) :=
  if ¬ (a0.length : Int) = (a1.length : Int) then (some false) else (laws_eqMsgS.l1 k k (0, a0, a1, ()))
def laws_eqMsgS.Sl1 : Shape := ⟨[(0, false, [.own 0]), (1, false, [.own 1]), (5, false, [.int .i64])], [(0, .view false 123 (.pair (.int .i64) (.int .i64))), (1, .view false 123 (.pair (.int .i64) (.int .i64)))], 2⟩
def laws_eqMsgS.sig : Sig := ⟨[.val false (.sl 123 (.pair (.int .i64) (.int .i64))) [0], .val false (.sl 123 (.pair (.int .i64) (.int .i64))) [0]], [.val false .bool []]⟩
def laws_eqMsgS.F (k : Nat) (x : Args laws_eqMsgS.sig.ps) : Option (Res laws_eqMsgS.sig) := laws_eqMsgS.f k x.1 x.2.1
def laws_eqMsgS.ann (k : Nat) : Ann (Res laws_eqMsgS.sig) := (.seq .nil (.seq .nil (.seq (.seq .nil (.block (.loop laws_eqMsgS.Sl1 (laws_eqMsgS.l1 k) fun n1 => .nil))) .nil)))
def laws_eqMsgS.ent : Ent := ⟨98, laws_eqMsgS.sig, laws_eqMsgS.F⟩
def laws_eqMsgS.ctx (k : Nat) : Ctx := ⟨tds, [laws_eqMsg.ent], k, 27⟩
theorem laws_eqMsgS.runs (k : Nat) (x : Args laws_eqMsgS.sig.ps) : laws_eqMsgS.F k x = runF (laws_eqMsgS.ctx k) laws_eqMsgS.sig Try.f98 (Try.f98.body.getD .skip) (laws_eqMsgS.ann k) x := by kernel_rfl
theorem laws_eqMsgS.obls (k : Nat) : obl (laws_eqMsgS.ctx k) 2 (Try.f98.body.getD .skip) (laws_eqMsgS.ann k) (retK tds laws_eqMsgS.sig Try.f98.results.toList) := ⟨trivial, ⟨⟨trivial, ⟨⟨trivial, trivial⟩, trivial⟩⟩, ⟨⟨trivial, ⟨⟨by kernel_rfl, fun x => by kernel_rfl⟩, fun n => ⟨fun x => by kernel_rfl, ⟨⟨trivial, ⟨trivial, trivial⟩⟩, ⟨⟨trivial, ⟨⟨trivial, trivial⟩, trivial⟩⟩, trivial⟩⟩⟩⟩⟩, ⟨trivial, trivial⟩⟩⟩⟩
theorem laws_eqMsgS.ok (k : Nat) : EntOk Try.prog k laws_eqMsgS.ent := fn_ok (C := laws_eqMsgS.ctx k) Try.func98 (by kernel_rfl) (by kernel_rfl) mixed tdsOk (.cons (laws_eqMsg.ok k) EntsOk.nil) (by kernel_rfl) (Nat.le_of_ble_eq_true (by kernel_rfl)) (by kernel_rfl) (laws_eqMsgS.runs k) (laws_eqMsgS.obls k)
/-! loop.example/g00200/laws.eqLine -/
def laws_eqLine.f (k : Nat) (a0 : List (Int × Int)) (a1 : List (Int × Int)) : Option (Bool) :=
  (laws_eqMsgS.f k a0 a1).bind fun t1 => (if ¬ t1 = true then (some false) else (some true))
def laws_eqLine.sig : Sig := ⟨[.val true (.sl 123 (.pair (.int .i64) (.int .i64))) [0], .val true (.sl 123 (.pair (.int .i64) (.int .i64))) [0]], [.val false .bool []]⟩
def laws_eqLine.F (k : Nat) (x : Args laws_eqLine.sig.ps) : Option (Res laws_eqLine.sig) := laws_eqLine.f k x.1 x.2.1
def laws_eqLine.ann (k : Nat) : Ann (Res laws_eqLine.sig) := .nil
def laws_eqLine.ent : Ent := ⟨57, laws_eqLine.sig, laws_eqLine.F⟩
def laws_eqLine.ctx (k : Nat) : Ctx := ⟨tds, [laws_eqMsgS.ent], k, 11⟩
theorem laws_eqLine.runs (k : Nat) (x : Args laws_eqLine.sig.ps) : laws_eqLine.F k x = runF (laws_eqLine.ctx k) laws_eqLine.sig Try.f57 (Try.f57.body.getD .skip) (laws_eqLine.ann k) x := by kernel_rfl
theorem laws_eqLine.obls (k : Nat) : obl (laws_eqLine.ctx k) 2 (Try.f57.body.getD .skip) (laws_eqLine.ann k) (retK tds laws_eqLine.sig Try.f57.results.toList) := ⟨trivial, ⟨⟨trivial, ⟨⟨trivial, trivial⟩, trivial⟩⟩, ⟨trivial, trivial⟩⟩⟩
theorem laws_eqLine.ok (k : Nat) : EntOk Try.prog k laws_eqLine.ent := fn_ok (C := laws_eqLine.ctx k) Try.func57 (by kernel_rfl) (by kernel_rfl) mixed tdsOk (.cons (laws_eqMsgS.ok k) EntsOk.nil) (by kernel_rfl) (Nat.le_of_ble_eq_true (by kernel_rfl)) (by kernel_rfl) (laws_eqLine.runs k) (laws_eqLine.obls k)
/-! loop.example/g00200/laws.markMsgS -/
def laws_markMsgS.l1 (k : Nat)  : Nat → Int × Int × (List (Int × Int)) × Unit → Option (Int × List (Int × Int))
  | 0, _ => none
  | n + 1, (x1, x2, x3, _) => if x2 < (x3.length : Int) then (if 0 ≤ x2 then (if x2 < (x3.length : Int) then (((some (x3.set x2.toNat (x1, (el (.pair (.int .i64) (.int .i64)) x3 x2.toNat).2)))).bind fun y1 => (if 0 ≤ x2 then (if x2 < (y1.length : Int) then (((some (y1.set x2.toNat ((el (.pair (.int .i64) (.int .i64)) y1 x2.toNat).1, w64 (x1 + 1))))).bind fun y2 => (laws_markMsgS.l1 k n (w64 ((w64 (x1 + 1)) + 1), w64 (x2 + 1), y2, ()))) else none) else none)) else none) else none) else (some (x1, x3))
def laws_markMsgS.f (k : Nat) (a0 : List (Int × Int)) (a1 : Int) : Option (Int × List (Int × Int)) :=
  laws_markMsgS.l1 k k (a1, 0, a0, ())
def laws_markMsgS.Sl1 : Shape := ⟨[(0, false, [.own 0]), (1, false, [.int .i64]), (5, false, [.int .i64])], [(0, .row 123 (.pair (.int .i64) (.int .i64)))], 1⟩
def laws_markMsgS.sig : Sig := ⟨[.val false (.sl 123 (.pair (.int .i64) (.int .i64))) [1], .val false (.int .i64) []], [.val false (.int .i64) []]⟩
def laws_markMsgS.F (k : Nat) (x : Args laws_markMsgS.sig.ps) : Option (Res laws_markMsgS.sig) := laws_markMsgS.f k x.1 x.2.1
def laws_markMsgS.ann (k : Nat) : Ann (Res laws_markMsgS.sig) := (.seq .nil (.seq (.seq .nil (.block (.loop laws_markMsgS.Sl1 (laws_markMsgS.l1 k) fun n1 => .nil))) .nil))
def laws_markMsgS.ent : Ent := ⟨99, laws_markMsgS.sig, laws_markMsgS.F⟩
def laws_markMsgS.ctx (k : Nat) : Ctx := ⟨tds, [], k, 27⟩
theorem laws_markMsgS.runs (k : Nat) (x : Args laws_markMsgS.sig.ps) : laws_markMsgS.F k x = runF (laws_markMsgS.ctx k) laws_markMsgS.sig Try.f99 (Try.f99.body.getD .skip) (laws_markMsgS.ann k) x := by kernel_rfl
theorem laws_markMsgS.obls (k : Nat) : obl (laws_markMsgS.ctx k) 1 (Try.f99.body.getD .skip) (laws_markMsgS.ann k) (retK tds laws_markMsgS.sig Try.f99.results.toList) := ⟨trivial, ⟨⟨trivial, ⟨⟨by kernel_rfl, fun x => by kernel_rfl⟩, fun n => ⟨fun x => by kernel_rfl, ⟨⟨trivial, ⟨trivial, trivial⟩⟩, ⟨⟨trivial, ⟨trivial, ⟨trivial, trivial⟩⟩⟩, trivial⟩⟩⟩⟩⟩, ⟨trivial, trivial⟩⟩⟩
theorem laws_markMsgS.ok (k : Nat) : EntOk Try.prog k laws_markMsgS.ent := fn_ok (C := laws_markMsgS.ctx k) Try.func99 (by kernel_rfl) (by kernel_rfl) mixed tdsOk EntsOk.nil (by kernel_rfl) (Nat.le_of_ble_eq_true (by kernel_rfl)) (by kernel_rfl) (laws_markMsgS.runs k) (laws_markMsgS.obls k)
/-! loop.example/g00200/laws.markLine -/
def laws_markLine.f (k : Nat) (a0 : List (Int × Int)) (a1 : Int) : Option (Int × List (Int × Int)) :=
  (laws_markMsgS.f k a0 a1).bind fun t1 => (some (t1.1, t1.2))
def laws_markLine.sig : Sig := ⟨[.val true (.sl 123 (.pair (.int .i64) (.int .i64))) [1], .val false (.int .i64) []], [.val false (.int .i64) []]⟩
def laws_markLine.F (k : Nat) (x : Args laws_markLine.sig.ps) : Option (Res laws_markLine.sig) := laws_markLine.f k x.1 x.2.1
def laws_markLine.ann (k : Nat) : Ann (Res laws_markLine.sig) := .nil
def laws_markLine.ent : Ent := ⟨58, laws_markLine.sig, laws_markLine.F⟩
def laws_markLine.ctx (k : Nat) : Ctx := ⟨tds, [laws_markMsgS.ent], k, 10⟩
theorem laws_markLine.runs (k : Nat) (x : Args laws_markLine.sig.ps) : laws_markLine.F k x = runF (laws_markLine.ctx k) laws_markLine.sig Try.f58 (Try.f58.body.getD .skip) (laws_markLine.ann k) x := by kernel_rfl
theorem laws_markLine.obls (k : Nat) : obl (laws_markLine.ctx k) 1 (Try.f58.body.getD .skip) (laws_markLine.ann k) (retK tds laws_markLine.sig Try.f58.results.toList) := ⟨trivial, ⟨trivial, ⟨trivial, trivial⟩⟩⟩
theorem laws_markLine.ok (k : Nat) : EntOk Try.prog k laws_markLine.ent := fn_ok (C := laws_markLine.ctx k) Try.func58 (by kernel_rfl) (by kernel_rfl) mixed tdsOk (.cons (laws_markMsgS.ok k) EntsOk.nil) (by kernel_rfl) (Nat.le_of_ble_eq_true (by kernel_rfl)) (by kernel_rfl) (laws_markLine.runs k) (laws_markLine.obls k)
/-! loop.example/g00200/laws.heldMsgS -/
def laws_heldMsgS.l1 (k : Nat)  : Nat → Int × Int × (List (Int × Int)) × Unit → Option (Int)
  | 0, _ => none
  | n + 1, (x1, x2, x3, _) => if x2 < (x3.length : Int) then (if 0 ≤ x2 then (if x2 < (x3.length : Int) then (if ¬ ((el (.pair (.int .i64) (.int .i64)) x3 x2.toNat).1) = x1 then (some (-1)) else (if 0 ≤ x2 then (if x2 < (x3.length : Int) then (if ¬ ((el (.pair (.int .i64) (.int .i64)) x3 x2.toNat).2) = (w64 (x1 + 1)) then (some (-1)) else (laws_heldMsgS.l1 k n (w64 ((w64 (x1 + 1)) + 1), w64 (x2 + 1), x3, ()))) else none) else none)) else none) else none) else (some x1)
def laws_heldMsgS.f (k : Nat) (a0 : List (Int × Int)) (a1 : Int) : Option (Int) :=
  laws_heldMsgS.l1 k k (a1, 0, a0, ())
def laws_heldMsgS.Sl1 : Shape := ⟨[(0, false, [.own 0]), (1, false, [.int .i64]), (5, false, [.int .i64])], [(0, .view false 123 (.pair (.int .i64) (.int .i64)))], 1⟩
def laws_heldMsgS.sig : Sig := ⟨[.val false (.sl 123 (.pair (.int .i64) (.int .i64))) [0], .val false (.int .i64) []], [.val false (.int .i64) []]⟩
def laws_heldMsgS.F (k : Nat) (x : Args laws_heldMsgS.sig.ps) : Option (Res laws_heldMsgS.sig) := laws_heldMsgS.f k x.1 x.2.1
def laws_heldMsgS.ann (k : Nat) : Ann (Res laws_heldMsgS.sig) := (.seq .nil (.seq (.seq .nil (.block (.loop laws_heldMsgS.Sl1 (laws_heldMsgS.l1 k) fun n1 => .nil))) .nil))
def laws_heldMsgS.ent : Ent := ⟨100, laws_heldMsgS.sig, laws_heldMsgS.F⟩
def laws_heldMsgS.ctx (k : Nat) : Ctx := ⟨tds, [], k, 31⟩
theorem laws_heldMsgS.runs (k : Nat) (x : Args laws_heldMsgS.sig.ps) : laws_heldMsgS.F k x = runF (laws_heldMsgS.ctx k) laws_heldMsgS.sig Try.f100 (Try.f100.body.getD .skip) (laws_heldMsgS.ann k) x := by kernel_rfl
theorem laws_heldMsgS.obls (k : Nat) : obl (laws_heldMsgS.ctx k) 1 (Try.f100.body.getD .skip) (laws_heldMsgS.ann k) (retK tds laws_heldMsgS.sig Try.f100.results.toList) := ⟨trivial, ⟨⟨trivial, ⟨⟨by kernel_rfl, fun x => by kernel_rfl⟩, fun n => ⟨fun x => by kernel_rfl, ⟨⟨trivial, ⟨trivial, trivial⟩⟩, ⟨⟨⟨trivial, ⟨⟨trivial, trivial⟩, trivial⟩⟩, ⟨trivial, ⟨⟨trivial, ⟨⟨trivial, trivial⟩, trivial⟩⟩, trivial⟩⟩⟩, trivial⟩⟩⟩⟩⟩, ⟨trivial, trivial⟩⟩⟩
theorem laws_heldMsgS.ok (k : Nat) : EntOk Try.prog k laws_heldMsgS.ent := fn_ok (C := laws_heldMsgS.ctx k) Try.func100 (by kernel_rfl) (by kernel_rfl) mixed tdsOk EntsOk.nil (by kernel_rfl) (Nat.le_of_ble_eq_true (by kernel_rfl)) (by kernel_rfl) (laws_heldMsgS.runs k) (laws_heldMsgS.obls k)
/-! loop.example/g00200/laws.heldLine -/
def laws_heldLine.f (k : Nat) (a0 : List (Int × Int)) (a1 : Int) : Option (Int) :=
  (laws_heldMsgS.f k a0 a1).bind fun t1 => (if t1 < 0 then (some (-1)) else (some t1))
def laws_heldLine.sig : Sig := ⟨[.val true (.sl 123 (.pair (.int .i64) (.int .i64))) [0], .val false (.int .i64) []], [.val false (.int .i64) []]⟩
def laws_heldLine.F (k : Nat) (x : Args laws_heldLine.sig.ps) : Option (Res laws_heldLine.sig) := laws_heldLine.f k x.1 x.2.1
def laws_heldLine.ann (k : Nat) : Ann (Res laws_heldLine.sig) := .nil
def laws_heldLine.ent : Ent := ⟨59, laws_heldLine.sig, laws_heldLine.F⟩
def laws_heldLine.ctx (k : Nat) : Ctx := ⟨tds, [laws_heldMsgS.ent], k, 12⟩
theorem laws_heldLine.runs (k : Nat) (x : Args laws_heldLine.sig.ps) : laws_heldLine.F k x = runF (laws_heldLine.ctx k) laws_heldLine.sig Try.f59 (Try.f59.body.getD .skip) (laws_heldLine.ann k) x := by kernel_rfl
theorem laws_heldLine.obls (k : Nat) : obl (laws_heldLine.ctx k) 1 (Try.f59.body.getD .skip) (laws_heldLine.ann k) (retK tds laws_heldLine.sig Try.f59.results.toList) := ⟨trivial, ⟨trivial, ⟨⟨trivial, ⟨⟨trivial, trivial⟩, trivial⟩⟩, ⟨trivial, trivial⟩⟩⟩⟩
theorem laws_heldLine.ok (k : Nat) : EntOk Try.prog k laws_heldLine.ent := fn_ok (C := laws_heldLine.ctx k) Try.func59 (by kernel_rfl) (by kernel_rfl) mixed tdsOk (.cons (laws_heldMsgS.ok k) EntsOk.nil) (by kernel_rfl) (Nat.le_of_ble_eq_true (by kernel_rfl)) (by kernel_rfl) (laws_heldLine.runs k) (laws_heldLine.obls k)
/-! loop.example/g00200/spec.DrawPlaces -/
def spec_DrawPlaces.l1 (k : Nat)  : Nat → Int × Int × Int × List Int × List Int × Unit → Option (List Int)
  | 0, _ => none
  | n + 1, (x1, x2, x3, x4, x5, _) => if x1 < 12 then ((spec_l01Below.f k (x4, (x2, x3)) 10000).bind fun t4 => (((some ([t4.1] : List Int))).bind fun y5 => (if (x5.length + y5.length) * 8 ≤ 140737488355328 then (((some (x5 ++ y5))).bind fun y6 => (spec_DrawPlaces.l1 k n (w64 (x1 + 1), t4.2.2.1, t4.2.2.2, x4, y6, ()))) else none))) else (some x5)
def spec_DrawPlaces.f (k : Nat) (a0 : List Int) : Option (List Int) :=
  (spec_l01New.f k a0).bind fun t1 => ((spec_l01Byte.f k (a0, t1.2)).bind fun t2 => (((some ([] : List Int))).bind fun y3 => (spec_DrawPlaces.l1 k k (0, t2.2.2.1, t2.2.2.2, a0, y3, ()))))
def spec_DrawPlaces.Sl1 : Shape := ⟨[(3, false, [.ptr 1 0]), (4, false, [.own 2]), (5, false, [.int .i64])], [(1, .blk 147 [.own 0, .int .i64, .int .i64]), (0, .view false 5 (.int .u8)), (2, .row 3 (.int .i64))], 3⟩
def spec_DrawPlaces.sig : Sig := ⟨[.val false (.sl 5 (.int .u8)) [0]], [.val false (.sl 3 (.int .i64)) [none]]⟩
def spec_DrawPlaces.F (k : Nat) (x : Args spec_DrawPlaces.sig.ps) : Option (Res spec_DrawPlaces.sig) := spec_DrawPlaces.f k x.1
def spec_DrawPlaces.ann (k : Nat) : Ann (Res spec_DrawPlaces.sig) := (.seq .nil (.seq .nil (.seq .nil (.seq .nil (.seq (.seq .nil (.block (.loop spec_DrawPlaces.Sl1 (spec_DrawPlaces.l1 k) fun n1 => .nil))) .nil)))))
def spec_DrawPlaces.ent : Ent := ⟨60, spec_DrawPlaces.sig, spec_DrawPlaces.F⟩
def spec_DrawPlaces.ctx (k : Nat) : Ctx := ⟨tds, [spec_l01New.ent, spec_l01Below.ent, spec_l01Byte.ent], k, 21⟩
theorem spec_DrawPlaces.runs (k : Nat) (x : Args spec_DrawPlaces.sig.ps) : spec_DrawPlaces.F k x = runF (spec_DrawPlaces.ctx k) spec_DrawPlaces.sig Try.f60 (Try.f60.body.getD .skip) (spec_DrawPlaces.ann k) x := by kernel_rfl
theorem spec_DrawPlaces.obls (k : Nat) : obl (spec_DrawPlaces.ctx k) 1 (Try.f60.body.getD .skip) (spec_DrawPlaces.ann k) (retK tds spec_DrawPlaces.sig Try.f60.results.toList) := ⟨trivial, ⟨trivial, ⟨trivial, ⟨trivial, ⟨⟨trivial, ⟨⟨by kernel_rfl, fun x => by kernel_rfl⟩, fun n => ⟨fun x => by kernel_rfl, ⟨⟨trivial, ⟨trivial, trivial⟩⟩, ⟨trivial, trivial⟩⟩⟩⟩⟩, ⟨trivial, trivial⟩⟩⟩⟩⟩⟩
theorem spec_DrawPlaces.ok (k : Nat) : EntOk Try.prog k spec_DrawPlaces.ent := fn_ok (C := spec_DrawPlaces.ctx k) Try.func60 (by kernel_rfl) (by kernel_rfl) mixed tdsOk (.cons (spec_l01New.ok k) (.cons (spec_l01Below.ok k) (.cons (spec_l01Byte.ok k) EntsOk.nil))) (by kernel_rfl) (Nat.le_of_ble_eq_true (by kernel_rfl)) (by kernel_rfl) (spec_DrawPlaces.runs k) (spec_DrawPlaces.obls k)
/-! loop.example/g00200/impl.Has -/
def impl_Has.f (k : Nat) (a0 : Int) (a1 : Int) : Option (Bool) :=
  if a1 = 1 then ((impl_SenseOk.f k a0).bind fun t1 => (if t1 = true then (some (decide (¬ (bits .and .i64 a0 a1) = 0))) else (some false))) else (if a1 = 2 then ((impl_SenseOk.f k a0).bind fun t2 => (if t2 = true then (some (decide (¬ (bits .and .i64 a0 a1) = 0))) else (some false))) else (if a1 = 4 then ((impl_SenseOk.f k a0).bind fun t3 => (if t3 = true then (some (decide (¬ (bits .and .i64 a0 a1) = 0))) else (some false))) else ((impl_SenseOk.f k a0).bind fun t4 => (if t4 = true then (if a1 = 8 then (some (decide (¬ (bits .and .i64 a0 a1) = 0))) else (some false)) else (some false)))))
def impl_Has.sig : Sig := ⟨[.val false (.int .i64) [], .val false (.int .i64) []], [.val false .bool []]⟩
def impl_Has.F (k : Nat) (x : Args impl_Has.sig.ps) : Option (Res impl_Has.sig) := impl_Has.f k x.1 x.2.1
def impl_Has.ann (k : Nat) : Ann (Res impl_Has.sig) := .nil
def impl_Has.ent : Ent := ⟨61, impl_Has.sig, impl_Has.F⟩
def impl_Has.ctx (k : Nat) : Ctx := ⟨tds, [impl_SenseOk.ent], k, 31⟩
theorem impl_Has.runs (k : Nat) (x : Args impl_Has.sig.ps) : impl_Has.F k x = runF (impl_Has.ctx k) impl_Has.sig Try.f61 (Try.f61.body.getD .skip) (impl_Has.ann k) x := by kernel_rfl
theorem impl_Has.obls (k : Nat) : obl (impl_Has.ctx k) 0 (Try.f61.body.getD .skip) (impl_Has.ann k) (retK tds impl_Has.sig Try.f61.results.toList) := ⟨trivial, ⟨trivial, ⟨trivial, trivial⟩⟩⟩
theorem impl_Has.ok (k : Nat) : EntOk Try.prog k impl_Has.ent := fn_ok (C := impl_Has.ctx k) Try.func61 (by kernel_rfl) (by kernel_rfl) mixed tdsOk (.cons (impl_SenseOk.ok k) EntsOk.nil) (by kernel_rfl) (Nat.le_of_ble_eq_true (by kernel_rfl)) (by kernel_rfl) (impl_Has.runs k) (impl_Has.obls k)
/-! loop.example/g00200/spec.l01Pick -/
def spec_l01Pick.f (k : Nat) (a0 : List Int × Int × Int) (a1 : List ByteArray) : Option (ByteArray × List Int × Int × Int) :=
  (spec_l01Below.f k a0 (a1.length : Int)).bind fun t1 => (if 0 ≤ t1.1 then (if t1.1 < (a1.length : Int) then (some (el .str a1 t1.1.toNat, (a0.1, t1.2.2))) else none) else none)
def spec_l01Pick.sig : Sig := ⟨[.ptr 147 (.pair (.sl 5 (.int .u8)) (.pair (.int .i64) (.int .i64))) [0], .val false (.sl 9 .str) [0]], [.val false .str []]⟩
def spec_l01Pick.F (k : Nat) (x : Args spec_l01Pick.sig.ps) : Option (Res spec_l01Pick.sig) := spec_l01Pick.f k x.1 x.2.1
def spec_l01Pick.ann (k : Nat) : Ann (Res spec_l01Pick.sig) := .nil
def spec_l01Pick.ent : Ent := ⟨103, spec_l01Pick.sig, spec_l01Pick.F⟩
def spec_l01Pick.ctx (k : Nat) : Ctx := ⟨tds, [spec_l01Below.ent], k, 12⟩
theorem spec_l01Pick.runs (k : Nat) (x : Args spec_l01Pick.sig.ps) : spec_l01Pick.F k x = runF (spec_l01Pick.ctx k) spec_l01Pick.sig Try.f103 (Try.f103.body.getD .skip) (spec_l01Pick.ann k) x := by kernel_rfl
theorem spec_l01Pick.obls (k : Nat) : obl (spec_l01Pick.ctx k) 3 (Try.f103.body.getD .skip) (spec_l01Pick.ann k) (retK tds spec_l01Pick.sig Try.f103.results.toList) := ⟨trivial, ⟨trivial, trivial⟩⟩
theorem spec_l01Pick.ok (k : Nat) : EntOk Try.prog k spec_l01Pick.ent := fn_ok (C := spec_l01Pick.ctx k) Try.func103 (by kernel_rfl) (by kernel_rfl) mixed tdsOk (.cons (spec_l01Below.ok k) EntsOk.nil) (by kernel_rfl) (Nat.le_of_ble_eq_true (by kernel_rfl)) (by kernel_rfl) (spec_l01Pick.runs k) (spec_l01Pick.obls k)
/-! loop.example/g00200/spec.DrawReadSense -/
def spec_DrawReadSense.f (k : Nat) (a0 : List Int) : Option (ByteArray) :=
  (spec_l01New.f k a0).bind fun t1 => ((spec_l01Once.f k (a0, t1.2) 3).bind fun t2 => (if t2.1 = true then (((some ([(⟨#[]⟩ : ByteArray), (⟨#[110, 111, 110, 101]⟩ : ByteArray), (⟨#[97, 105, 114, 44, 98, 108, 111, 99, 107]⟩ : ByteArray), (⟨#[98, 108, 111, 99, 107, 44, 97, 105, 114]⟩ : ByteArray), (⟨#[100, 111, 111, 114, 44]⟩ : ByteArray), (⟨#[112, 111, 119, 101, 114]⟩ : ByteArray), (⟨#[110, 111, 110, 101, 44, 97, 105, 114]⟩ : ByteArray)] : List ByteArray))).bind fun y3 => ((spec_l01Pick.f k (a0, t2.2.2) y3).bind fun t4 => (some t4.1))) else ((spec_l01Below.f k (a0, t2.2.2) 16).bind fun t5 => ((spec_SenseNames.f k t5.1).bind fun t6 => (some t6)))))
def spec_DrawReadSense.sig : Sig := ⟨[.val false (.sl 5 (.int .u8)) [0]], [.val false .str []]⟩
def spec_DrawReadSense.F (k : Nat) (x : Args spec_DrawReadSense.sig.ps) : Option (Res spec_DrawReadSense.sig) := spec_DrawReadSense.f k x.1
def spec_DrawReadSense.ann (k : Nat) : Ann (Res spec_DrawReadSense.sig) := .nil
def spec_DrawReadSense.ent : Ent := ⟨62, spec_DrawReadSense.sig, spec_DrawReadSense.F⟩
def spec_DrawReadSense.ctx (k : Nat) : Ctx := ⟨tds, [spec_SenseNames.ent, spec_l01New.ent, spec_l01Below.ent, spec_l01Once.ent, spec_l01Pick.ent], k, 14⟩
theorem spec_DrawReadSense.runs (k : Nat) (x : Args spec_DrawReadSense.sig.ps) : spec_DrawReadSense.F k x = runF (spec_DrawReadSense.ctx k) spec_DrawReadSense.sig Try.f62 (Try.f62.body.getD .skip) (spec_DrawReadSense.ann k) x := by kernel_rfl
theorem spec_DrawReadSense.obls (k : Nat) : obl (spec_DrawReadSense.ctx k) 1 (Try.f62.body.getD .skip) (spec_DrawReadSense.ann k) (retK tds spec_DrawReadSense.sig Try.f62.results.toList) := ⟨trivial, ⟨trivial, ⟨⟨trivial, ⟨⟨trivial, trivial⟩, trivial⟩⟩, ⟨trivial, trivial⟩⟩⟩⟩
theorem spec_DrawReadSense.ok (k : Nat) : EntOk Try.prog k spec_DrawReadSense.ent := fn_ok (C := spec_DrawReadSense.ctx k) Try.func62 (by kernel_rfl) (by kernel_rfl) mixed tdsOk (.cons (spec_SenseNames.ok k) (.cons (spec_l01New.ok k) (.cons (spec_l01Below.ok k) (.cons (spec_l01Once.ok k) (.cons (spec_l01Pick.ok k) EntsOk.nil))))) (by kernel_rfl) (Nat.le_of_ble_eq_true (by kernel_rfl)) (by kernel_rfl) (spec_DrawReadSense.runs k) (spec_DrawReadSense.obls k)
end Go.Proofs.Ytgihjaonapngdaa.QA
