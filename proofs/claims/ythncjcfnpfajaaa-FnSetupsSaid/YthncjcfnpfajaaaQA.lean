/- The plain functions of Go functions, and that each Go function does what its plain function tells. Printed by a program of this session (gen.py). -/
import Derived.Test.YthncjcfnpfajaaaProg
import Derived.Test.YthncjcfnpfajaaaAbDa
import Derived.KernelRfl
namespace Go.Proofs.Ythncjcfnpfajaaa.QA
open Go Go.Proofs Go.Proofs.YthncjcfnpfajaaaA
set_option linter.unusedVariables false
set_option maxRecDepth 100000
def tds : List (Nat × TD) := [(2, ⟨.int .i64, 1, 8, (.int .i64), false, false⟩),
  (3, ⟨.int .i64, 1, 8, (.int .i64), false, false⟩),
  (4, ⟨.bool, 1, 1, .bool, false, false⟩),
  (5, ⟨.int .u8, 1, 1, (.int .u8), false, false⟩),
  (6, ⟨.int .u8, 1, 1, (.int .u8), false, false⟩),
  (7, ⟨.struct [(0, 2), (1, 3), (2, 4), (3, 6)], 4, 24, (.pair (.int .i64) (.pair (.int .i64) (.pair .bool (.int .u8)))), true, false⟩),
  (8, ⟨.struct [(0, 2), (1, 3), (2, 4), (3, 6)], 4, 24, (.pair (.int .i64) (.pair (.int .i64) (.pair .bool (.int .u8)))), true, false⟩),
  (9, ⟨.str, 1, 16, .str, false, false⟩),
  (10, ⟨.str, 1, 16, .str, false, false⟩),
  (11, ⟨.str, 1, 16, .str, false, false⟩),
  (12, ⟨.int .u64, 1, 8, (.int .u64), false, false⟩),
  (13, ⟨.struct [(0, 9), (1, 12)], 2, 24, (.pair .str (.int .u64)), true, false⟩),
  (14, ⟨.struct [(0, 9), (1, 12)], 2, 24, (.pair .str (.int .u64)), true, false⟩),
  (21, ⟨.int .i32, 1, 4, (.int .i32), false, false⟩),
  (22, ⟨.slice 46, 1, 24, (.sl 46 (.pair (.int .i64) (.int .i64))), false, false⟩),
  (23, ⟨.slice 48, 1, 24, (.sl 48 (.pair (.int .i64) (.int .i64))), false, false⟩),
  (24, ⟨.slice 50, 1, 24, (.sl 50 (.pair (.int .i64) (.pair (.int .i64) (.pair (.int .i64) (.pair (.int .i64) (.int .i64)))))), false, false⟩),
  (25, ⟨.slice 52, 1, 24, (.sl 52 (.pair (.int .i64) (.pair (.int .i64) (.int .i64)))), false, false⟩),
  (26, ⟨.slice 9, 1, 24, (.sl 9 .str), false, false⟩),
  (27, ⟨.struct [(0, 22), (1, 23), (2, 24), (3, 25), (4, 26)], 5, 120, (.pair (.sl 46 (.pair (.int .i64) (.int .i64))) (.pair (.sl 48 (.pair (.int .i64) (.int .i64))) (.pair (.sl 50 (.pair (.int .i64) (.pair (.int .i64) (.pair (.int .i64) (.pair (.int .i64) (.int .i64)))))) (.pair (.sl 52 (.pair (.int .i64) (.pair (.int .i64) (.int .i64)))) (.sl 9 .str))))), true, false⟩),
  (28, ⟨.struct [(0, 22), (1, 23), (2, 24), (3, 25), (4, 26)], 5, 120, (.pair (.sl 46 (.pair (.int .i64) (.int .i64))) (.pair (.sl 48 (.pair (.int .i64) (.int .i64))) (.pair (.sl 50 (.pair (.int .i64) (.pair (.int .i64) (.pair (.int .i64) (.pair (.int .i64) (.int .i64)))))) (.pair (.sl 52 (.pair (.int .i64) (.pair (.int .i64) (.int .i64)))) (.sl 9 .str))))), true, false⟩),
  (34, ⟨.slice 5, 1, 24, (.sl 5 (.int .u8)), false, false⟩),
  (42, ⟨.struct [(0, 9), (1, 3), (2, 4)], 3, 32, (.pair .str (.pair (.int .i64) .bool)), true, false⟩),
  (43, ⟨.struct [(0, 9), (1, 3), (2, 4)], 3, 32, (.pair .str (.pair (.int .i64) .bool)), true, false⟩),
  (45, ⟨.struct [(0, 3), (1, 3)], 2, 16, (.pair (.int .i64) (.int .i64)), true, false⟩),
  (46, ⟨.struct [(0, 3), (1, 3)], 2, 16, (.pair (.int .i64) (.int .i64)), true, false⟩),
  (47, ⟨.struct [(0, 3), (1, 3)], 2, 16, (.pair (.int .i64) (.int .i64)), true, false⟩),
  (48, ⟨.struct [(0, 3), (1, 3)], 2, 16, (.pair (.int .i64) (.int .i64)), true, false⟩),
  (49, ⟨.struct [(0, 3), (1, 3), (2, 3), (3, 3), (4, 3)], 5, 40, (.pair (.int .i64) (.pair (.int .i64) (.pair (.int .i64) (.pair (.int .i64) (.int .i64))))), true, false⟩),
  (50, ⟨.struct [(0, 3), (1, 3), (2, 3), (3, 3), (4, 3)], 5, 40, (.pair (.int .i64) (.pair (.int .i64) (.pair (.int .i64) (.pair (.int .i64) (.int .i64))))), true, false⟩),
  (51, ⟨.struct [(0, 3), (1, 3), (2, 3)], 3, 24, (.pair (.int .i64) (.pair (.int .i64) (.int .i64))), true, false⟩),
  (52, ⟨.struct [(0, 3), (1, 3), (2, 3)], 3, 24, (.pair (.int .i64) (.pair (.int .i64) (.int .i64))), true, false⟩),
  (55, ⟨.struct [(0, 9), (1, 3), (2, 4)], 3, 32, (.pair .str (.pair (.int .i64) .bool)), true, false⟩),
  (56, ⟨.struct [(0, 9), (1, 3), (2, 4)], 3, 32, (.pair .str (.pair (.int .i64) .bool)), true, false⟩),
  (77, ⟨.slice 108, 1, 24, (.sl 108 (.pair (.int .i64) (.int .i64))), false, false⟩),
  (102, ⟨.struct [(0, 34), (1, 3), (2, 3)], 3, 40, (.pair (.sl 5 (.int .u8)) (.pair (.int .i64) (.int .i64))), true, false⟩),
  (103, ⟨.struct [(0, 34), (1, 3), (2, 3)], 3, 40, (.pair (.sl 5 (.int .u8)) (.pair (.int .i64) (.int .i64))), true, false⟩),
  (104, ⟨.slice 3, 1, 24, (.sl 3 (.int .i64)), false, false⟩),
  (107, ⟨.struct [(0, 3), (1, 3)], 2, 16, (.pair (.int .i64) (.int .i64)), true, false⟩),
  (108, ⟨.struct [(0, 3), (1, 3)], 2, 16, (.pair (.int .i64) (.int .i64)), true, false⟩),
  (120, ⟨.int .u64, 1, 8, (.int .u64), false, false⟩),
  (126, ⟨.int .u32, 1, 4, (.int .u32), false, false⟩),
  (127, ⟨.int .u8, 1, 1, (.int .u8), false, false⟩),
  (128, ⟨.int .u8, 1, 1, (.int .u8), false, false⟩),
  (131, ⟨.int .i32, 1, 4, (.int .i32), false, false⟩),
  (132, ⟨.int .i32, 1, 4, (.int .i32), false, false⟩)]
theorem mixed : Try.prog.follows .mixedOrders = true := by kernel_rfl
theorem tdsOk : TdsOk Try.prog tds := tds_ok (by kernel_rfl) (by kernel_rfl)
def w64 (z : Int) : Int := IntKind.i64.wrap z
@[reducible] def TyP : Ty := .pair (.int .i64) (.pair (.pair (.int .i64) (.sl 3 (.int .i64))) (.pair (.int .i64) (.pair (.int .i64) (.int .i64))))
@[reducible] def Ty5 : Ty := .pair (.int .i64) (.pair (.int .i64) (.pair (.int .i64) (.pair (.int .i64) (.int .i64))))
@[reducible] def Ty3 : Ty := .pair (.int .i64) (.pair (.int .i64) (.int .i64))
@[reducible] def Ty2 : Ty := .pair (.int .i64) (.int .i64)
@[reducible] def TyI : Ty := .int .i64
@[reducible] def DeP : Type := List (Int × (Int × List Int) × Int × Int × Int)
@[reducible] def De5 : Type := List (Int × Int × Int × Int × Int)
@[reducible] def De3 : Type := List (Int × Int × Int)
@[reducible] def De2 : Type := List (Int × Int)
@[reducible] def DeB : Type := List ByteArray
@[reducible] def DeI : Type := List Int
@[reducible] def DeL : Type := List De2
@[reducible] def DeS : Type := De2 × De2 × De5 × De3 × DeB
@[reducible] def DeK : Type := DeS × DeI × DeP × DeL × DeI × Int × Bool × De5
/-! loop.example/g00200/laws.big -/
def laws_big.f (k : Nat) (a0 : DeI) : Option (Bool) :=
  some (decide (1048576 < (a0.length : Int)))
def laws_big.sig : Sig := ⟨[.val false (.sl 5 (.int .u8)) [0]], [.val false .bool []]⟩
def laws_big.F : FT laws_big.sig := fun k x => laws_big.f k x.1
def laws_big.ann : AT laws_big.sig := fun k => .nil
def laws_big.ent : Ent := ⟨10, laws_big.sig, laws_big.F⟩
def laws_big.ctx (k : Nat) : Ctx := ⟨tds, [], k, 6⟩
theorem laws_big.runs : RunsT laws_big.sig laws_big.ctx Try.f10 laws_big.ann laws_big.F := fun k x => by kernel_rfl
theorem laws_big.obls : OblT tds laws_big.sig laws_big.ctx 1 Try.f10 laws_big.ann := fun k => ⟨tr, ⟨tr, tr⟩⟩
theorem laws_big.ok (k : Nat) : EntOk Try.prog k laws_big.ent := fn_ok (C := laws_big.ctx k) Try.func10 (by kernel_rfl) (by kernel_rfl) mixed tdsOk EntsOk.nil (by kernel_rfl) (leB (by kernel_rfl)) (by kernel_rfl) (laws_big.runs k) (laws_big.obls k)
/-! loop.example/g00200/spec.l01New -/
def spec_l01New.l1 (k : Nat)  : Nat → Int × Int × DeI × Unit → Option (DeI × Int × Int)
  | 0, _ => none
  | n + 1, (x1, x2, x3, _) => if x2 < (x3.length : Int) then (if x2 < 4000 then (if 0 ≤ x2 then (if x2 < (x3.length : Int) then (spec_l01New.l1 k n (bits .and .i64 (w64 ((w64 ((w64 (x1 * 131)) + (w64 (el (.int .u8) x3 x2.toNat)))) + 7)) 1073741823, w64 (x2 + 1), x3, ())) else none) else none) else (some (x3, (0, x1)))) else (some (x3, (0, x1)))
def spec_l01New.f (k : Nat) (a0 : DeI) : Option (DeI × Int × Int) :=
  spec_l01New.l1 k k (w64 (37101 + (a0.length : Int)), 0, a0, ())
def spec_l01New.Sl1 : Shape := ⟨[(0, false, [.own 0]), (3, false, [.int .i64]), (4, false, [.int .i64])], [(0, .view false 5 (.int .u8))], 1⟩
def spec_l01New.sig : Sig := ⟨[.val false (.sl 5 (.int .u8)) [0]], [.ptr 103 (.pair (.sl 5 (.int .u8)) Ty2) [some 0]]⟩
def spec_l01New.F : FT spec_l01New.sig := fun k x => spec_l01New.f k x.1
def spec_l01New.ann : AT spec_l01New.sig := fun k => (.seq .nil (.seq .nil (.seq (.seq .nil (.block (.loop spec_l01New.Sl1 (spec_l01New.l1 k) fun n1 => .nil))) .nil)))
def spec_l01New.ent : Ent := ⟨36, spec_l01New.sig, spec_l01New.F⟩
def spec_l01New.ctx (k : Nat) : Ctx := ⟨tds, [], k, 32⟩
theorem spec_l01New.runs : RunsT spec_l01New.sig spec_l01New.ctx Try.f36 spec_l01New.ann spec_l01New.F := fun k x => by kernel_rfl
theorem spec_l01New.obls : OblT tds spec_l01New.sig spec_l01New.ctx 1 Try.f36 spec_l01New.ann := fun k => ⟨tr, ⟨tr, ⟨⟨tr, ⟨⟨by kernel_rfl, fun x => by kernel_rfl⟩, fun n => ⟨fun x => by kernel_rfl, ⟨⟨tr, ⟨tr, tr⟩⟩, ⟨tr, tr⟩⟩⟩⟩⟩, ⟨tr, tr⟩⟩⟩⟩
theorem spec_l01New.ok (k : Nat) : EntOk Try.prog k spec_l01New.ent := fn_ok (C := spec_l01New.ctx k) Try.func36 (by kernel_rfl) (by kernel_rfl) mixed tdsOk EntsOk.nil (by kernel_rfl) (leB (by kernel_rfl)) (by kernel_rfl) (spec_l01New.runs k) (spec_l01New.obls k)
/-! loop.example/g00200/spec.l01Byte -/
def spec_l01Byte.f (k : Nat) (a0 : DeI × Int × Int) : Option (Int × DeI × Int × Int) :=
  if a0.2.1 < (a0.1.length : Int) then (if 0 ≤ a0.2.1 then (if a0.2.1 < (a0.1.length : Int) then (some (bits .and .i64 (w64 ((bits .and .i64 (bits .xor .i64 ((w64 ((w64 (a0.2.2 * 6364136223846793005)) + 1442695040888963407)) / 8589934592) ((w64 ((w64 (a0.2.2 * 6364136223846793005)) + 1442695040888963407)) / 35184372088832)) 255) + (w64 (el (.int .u8) a0.1 a0.2.1.toNat)))) 255, (a0.1, (w64 (a0.2.1 + 1), w64 ((w64 (a0.2.2 * 6364136223846793005)) + 1442695040888963407))))) else none) else none) else (some (bits .and .i64 (bits .xor .i64 ((w64 ((w64 (a0.2.2 * 6364136223846793005)) + 1442695040888963407)) / 8589934592) ((w64 ((w64 (a0.2.2 * 6364136223846793005)) + 1442695040888963407)) / 35184372088832)) 255, (a0.1, (a0.2.1, w64 ((w64 (a0.2.2 * 6364136223846793005)) + 1442695040888963407)))))
def spec_l01Byte.sig : Sig := ⟨[.ptr 103 (.pair (.sl 5 (.int .u8)) Ty2) [0]], [.val false TyI []]⟩
def spec_l01Byte.F : FT spec_l01Byte.sig := fun k x => spec_l01Byte.f k x.1
def spec_l01Byte.ann : AT spec_l01Byte.sig := fun k => .nil
def spec_l01Byte.ent : Ent := ⟨87, spec_l01Byte.sig, spec_l01Byte.F⟩
def spec_l01Byte.ctx (k : Nat) : Ctx := ⟨tds, [], k, 58⟩
theorem spec_l01Byte.runs : RunsT spec_l01Byte.sig spec_l01Byte.ctx Try.f87 spec_l01Byte.ann spec_l01Byte.F := fun k x => by kernel_rfl
theorem spec_l01Byte.obls : OblT tds spec_l01Byte.sig spec_l01Byte.ctx 2 Try.f87 spec_l01Byte.ann := fun k => ⟨tr, ⟨tr, ⟨tr, ⟨⟨tr, ⟨⟨tr, tr⟩, tr⟩⟩, ⟨tr, tr⟩⟩⟩⟩⟩
theorem spec_l01Byte.ok (k : Nat) : EntOk Try.prog k spec_l01Byte.ent := fn_ok (C := spec_l01Byte.ctx k) Try.func87 (by kernel_rfl) (by kernel_rfl) mixed tdsOk EntsOk.nil (by kernel_rfl) (leB (by kernel_rfl)) (by kernel_rfl) (spec_l01Byte.runs k) (spec_l01Byte.obls k)
/-! loop.example/g00200/spec.l01Below -/
def spec_l01Below.f (k : Nat) (a0 : DeI × Int × Int) (a1 : Int) : Option (Int × DeI × Int × Int) :=
  if a1 ≤ 0 then (some (0, a0)) else (if a1 ≤ 256 then ((spec_l01Byte.f k a0).bind fun t1 => (if ¬ a1 = 0 then (some (Int.tmod t1.1 a1, (a0.1, t1.2.2))) else none)) else ((spec_l01Byte.f k a0).bind fun t2 => ((spec_l01Byte.f k (a0.1, t2.2.2)).bind fun t3 => ((spec_l01Byte.f k (a0.1, t3.2.2)).bind fun t4 => ((spec_l01Byte.f k (a0.1, t4.2.2)).bind fun t5 => (if ¬ a1 = 0 then (some (Int.tmod (w64 ((w64 ((w64 ((w64 (t2.1 * 16777216)) + (w64 (t3.1 * 65536)))) + (w64 (t4.1 * 256)))) + t5.1)) a1, (a0.1, t5.2.2))) else none))))))
def spec_l01Below.sig : Sig := ⟨[.ptr 103 (.pair (.sl 5 (.int .u8)) Ty2) [0], .val false TyI []], [.val false TyI []]⟩
def spec_l01Below.F : FT spec_l01Below.sig := fun k x => spec_l01Below.f k x.1 x.2.1
def spec_l01Below.ann : AT spec_l01Below.sig := fun k => .nil
def spec_l01Below.ent : Ent := ⟨65, spec_l01Below.sig, spec_l01Below.F⟩
def spec_l01Below.ctx (k : Nat) : Ctx := ⟨tds, [spec_l01Byte.ent], k, 37⟩
theorem spec_l01Below.runs : RunsT spec_l01Below.sig spec_l01Below.ctx Try.f65 spec_l01Below.ann spec_l01Below.F := fun k x => by kernel_rfl
theorem spec_l01Below.obls : OblT tds spec_l01Below.sig spec_l01Below.ctx 2 Try.f65 spec_l01Below.ann := fun k => ⟨tr, ⟨⟨tr, ⟨⟨tr, tr⟩, tr⟩⟩, ⟨⟨tr, ⟨⟨tr, tr⟩, tr⟩⟩, ⟨tr, ⟨tr, ⟨tr, ⟨tr, ⟨tr, tr⟩⟩⟩⟩⟩⟩⟩⟩
theorem spec_l01Below.ok (k : Nat) : EntOk Try.prog k spec_l01Below.ent := fn_ok (C := spec_l01Below.ctx k) Try.func65 (by kernel_rfl) (by kernel_rfl) mixed tdsOk (.cons (spec_l01Byte.ok k) EntsOk.nil) (by kernel_rfl) (leB (by kernel_rfl)) (by kernel_rfl) (spec_l01Below.runs k) (spec_l01Below.obls k)
/-! loop.example/g00200/spec.l04Regions -/
def spec_l04Regions.j2 (k : Nat) (c0 : Int × Int × Int × Int × DeI × De2 × Unit → Option (De2 × DeI × Int × Int)) : Int × Int × Int × Int × Int × DeI × De2 × Unit → Option (De2 × DeI × Int × Int)
  | (z1, z2, z3, z4, z5, z6, z7, _) => (spec_l01Below.f k (z6, (z2, z3)) 3).bind fun t7 => (c0 (w64 ((w64 (z4 + z5)) + t7.1), w64 (z1 + 1), t7.2.2.1, t7.2.2.2, z6, z7, ()))
def spec_l04Regions.l1 (k : Nat)  : Nat → Int × Int × Int × Int × DeI × De2 × Unit → Option (De2 × DeI × Int × Int)
  | 0, _ => none
  | n + 1, (x1, x2, x3, x4, x5, x6, _) => (spec_l01Below.f k (x5, (x3, x4)) 4).bind fun t3 => (if x2 < (w64 (1 + t3.1)) then ((spec_l01Below.f k (x5, t3.2.2) 14).bind fun t4 => (if (w64 (x1 + (w64 (1 + t4.1)))) ≤ 64 then (((some ([(x1, w64 (1 + t4.1))] : De2))).bind fun y5 => (if (x6.length + y5.length) * 16 ≤ 140737488355328 then (((some (x6 ++ y5))).bind fun y6 => (spec_l04Regions.j2 k (spec_l04Regions.l1 k n) (x2, t4.2.2.1, t4.2.2.2, x1, w64 (1 + t4.1), x5, y6, ()))) else none)) else (spec_l04Regions.j2 k (spec_l04Regions.l1 k n) (x2, t4.2.2.1, t4.2.2.2, x1, w64 (1 + t4.1), x5, x6, ())))) else (some (x6, (x5, t3.2.2))))
def spec_l04Regions.f (k : Nat) (a0 : DeI × Int × Int) : Option (De2 × DeI × Int × Int) :=
  ((some ([] : De2))).bind fun y1 => ((spec_l01Below.f k a0 6).bind fun t2 => (spec_l04Regions.l1 k k (t2.1, 0, t2.2.2.1, t2.2.2.2, a0.1, y1, ())))
def spec_l04Regions.Sl1 : Shape := ⟨[(0, false, [.ptr 0 0]), (3, false, [.own 2]), (4, false, [.int .i64]), (5, false, [.int .i64])], [(0, .blk 103 [.own 1, .int .i64, .int .i64]), (1, .view false 5 (.int .u8)), (2, .row 46 Ty2)], 3⟩
def spec_l04Regions.Sj2 : Shape := ⟨[(0, false, [.ptr 0 0]), (3, false, [.own 2]), (5, false, [.int .i64]), (6, false, [.ptr 3 0])], [(0, .blk 103 [.own 1, .int .i64, .int .i64]), (3, .blk 46 [.int .i64, .int .i64]), (1, .view false 5 (.int .u8)), (2, .row 46 Ty2)], 4⟩
def spec_l04Regions.sig : Sig := ⟨[.ptr 103 (.pair (.sl 5 (.int .u8)) Ty2) [0]], [.val false (.sl 46 Ty2) [none]]⟩
def spec_l04Regions.F : FT spec_l04Regions.sig := fun k x => spec_l04Regions.f k x.1
def spec_l04Regions.ann : AT spec_l04Regions.sig := fun k => (.seq .nil (.seq .nil (.seq .nil (.seq (.seq .nil (.block (.loop spec_l04Regions.Sl1 (spec_l04Regions.l1 k) fun n1 => (.seq .nil (.seq (.block (.seq .nil (.join spec_l04Regions.Sj2 (spec_l04Regions.j2 k (spec_l04Regions.l1 k n1)) .nil .nil))) .nil))))) .nil))))
def spec_l04Regions.ent : Ent := ⟨81, spec_l04Regions.sig, spec_l04Regions.F⟩
def spec_l04Regions.ctx (k : Nat) : Ctx := ⟨tds, [spec_l01Below.ent], k, 41⟩
theorem spec_l04Regions.runs : RunsT spec_l04Regions.sig spec_l04Regions.ctx Try.f81 spec_l04Regions.ann spec_l04Regions.F := fun k x => by kernel_rfl
theorem spec_l04Regions.obls : OblT tds spec_l04Regions.sig spec_l04Regions.ctx 2 Try.f81 spec_l04Regions.ann := fun k => ⟨tr, ⟨tr, ⟨tr, ⟨⟨tr, ⟨⟨by kernel_rfl, fun x => by kernel_rfl⟩, fun n => ⟨fun x => by kernel_rfl, ⟨⟨tr, ⟨tr, tr⟩⟩, ⟨⟨tr, ⟨⟨by kernel_rfl, fun x => by kernel_rfl⟩, ⟨tr, ⟨tr, tr⟩⟩, tr⟩⟩, tr⟩⟩⟩⟩⟩, ⟨tr, tr⟩⟩⟩⟩⟩
theorem spec_l04Regions.ok (k : Nat) : EntOk Try.prog k spec_l04Regions.ent := fn_ok (C := spec_l04Regions.ctx k) Try.func81 (by kernel_rfl) (by kernel_rfl) mixed tdsOk (.cons (spec_l01Below.ok k) EntsOk.nil) (by kernel_rfl) (leB (by kernel_rfl)) (by kernel_rfl) (spec_l04Regions.runs k) (spec_l04Regions.obls k)
/-! loop.example/g00200/spec.l09Plan -/
def spec_l09Plan.l1 (k : Nat)  : Nat → Int × Int × Int × Int × DeI × De2 × Unit → Option (De2 × DeI × Int × Int)
  | 0, _ => none
  | n + 1, (x1, x2, x3, x4, x5, x6, _) => (spec_l01Below.f k (x5, (x3, x4)) 5).bind fun t2 => (if x2 < (w64 (1 + t2.1)) then ((spec_l01Below.f k (x5, t2.2.2) x1).bind fun t3 => ((spec_l01Below.f k (x5, t3.2.2) 40).bind fun t4 => (((some ([(w64 (1 + t3.1), w64 (1 + t4.1))] : De2))).bind fun y5 => (if (x6.length + y5.length) * 16 ≤ 140737488355328 then (((some (x6 ++ y5))).bind fun y6 => (spec_l09Plan.l1 k n (x1, w64 (x2 + 1), t4.2.2.1, t4.2.2.2, x5, y6, ()))) else none)))) else (some (x6, (x5, t2.2.2))))
def spec_l09Plan.f (k : Nat) (a0 : DeI × Int × Int) (a1 : Int) : Option (De2 × DeI × Int × Int) :=
  ((some ([] : De2))).bind fun y1 => (spec_l09Plan.l1 k k (a1, 0, a0.2.1, a0.2.2, a0.1, y1, ()))
def spec_l09Plan.Sl1 : Shape := ⟨[(0, false, [.ptr 0 0]), (1, false, [.int .i64]), (5, false, [.own 2]), (6, false, [.int .i64])], [(0, .blk 103 [.own 1, .int .i64, .int .i64]), (1, .view false 5 (.int .u8)), (2, .row 48 Ty2)], 3⟩
def spec_l09Plan.sig : Sig := ⟨[.ptr 103 (.pair (.sl 5 (.int .u8)) Ty2) [0], .val false TyI []], [.val false (.sl 48 Ty2) [none]]⟩
def spec_l09Plan.F : FT spec_l09Plan.sig := fun k x => spec_l09Plan.f k x.1 x.2.1
def spec_l09Plan.ann : AT spec_l09Plan.sig := fun k => (.seq .nil (.seq .nil (.seq (.seq .nil (.block (.loop spec_l09Plan.Sl1 (spec_l09Plan.l1 k) fun n1 => .nil))) .nil)))
def spec_l09Plan.ent : Ent := ⟨82, spec_l09Plan.sig, spec_l09Plan.F⟩
def spec_l09Plan.ctx (k : Nat) : Ctx := ⟨tds, [spec_l01Below.ent], k, 27⟩
theorem spec_l09Plan.runs : RunsT spec_l09Plan.sig spec_l09Plan.ctx Try.f82 spec_l09Plan.ann spec_l09Plan.F := fun k x => by kernel_rfl
theorem spec_l09Plan.obls : OblT tds spec_l09Plan.sig spec_l09Plan.ctx 2 Try.f82 spec_l09Plan.ann := fun k => ⟨tr, ⟨tr, ⟨⟨tr, ⟨⟨by kernel_rfl, fun x => by kernel_rfl⟩, fun n => ⟨fun x => by kernel_rfl, ⟨⟨tr, ⟨tr, tr⟩⟩, ⟨tr, tr⟩⟩⟩⟩⟩, ⟨tr, tr⟩⟩⟩⟩
theorem spec_l09Plan.ok (k : Nat) : EntOk Try.prog k spec_l09Plan.ent := fn_ok (C := spec_l09Plan.ctx k) Try.func82 (by kernel_rfl) (by kernel_rfl) mixed tdsOk (.cons (spec_l01Below.ok k) EntsOk.nil) (by kernel_rfl) (leB (by kernel_rfl)) (by kernel_rfl) (spec_l09Plan.runs k) (spec_l09Plan.obls k)
/-! loop.example/g00200/spec.l01Once -/
def spec_l01Once.f (k : Nat) (a0 : DeI × Int × Int) (a1 : Int) : Option (Bool × DeI × Int × Int) :=
  (spec_l01Below.f k a0 a1).bind fun t1 => (some (decide (t1.1 = 0), (a0.1, t1.2.2)))
def spec_l01Once.sig : Sig := ⟨[.ptr 103 (.pair (.sl 5 (.int .u8)) Ty2) [0], .val false TyI []], [.val false .bool []]⟩
def spec_l01Once.F : FT spec_l01Once.sig := fun k x => spec_l01Once.f k x.1 x.2.1
def spec_l01Once.ann : AT spec_l01Once.sig := fun k => .nil
def spec_l01Once.ent : Ent := ⟨51, spec_l01Once.sig, spec_l01Once.F⟩
def spec_l01Once.ctx (k : Nat) : Ctx := ⟨tds, [spec_l01Below.ent], k, 9⟩
theorem spec_l01Once.runs : RunsT spec_l01Once.sig spec_l01Once.ctx Try.f51 spec_l01Once.ann spec_l01Once.F := fun k x => by kernel_rfl
theorem spec_l01Once.obls : OblT tds spec_l01Once.sig spec_l01Once.ctx 2 Try.f51 spec_l01Once.ann := fun k => ⟨tr, ⟨tr, tr⟩⟩
theorem spec_l01Once.ok (k : Nat) : EntOk Try.prog k spec_l01Once.ent := fn_ok (C := spec_l01Once.ctx k) Try.func51 (by kernel_rfl) (by kernel_rfl) mixed tdsOk (.cons (spec_l01Below.ok k) EntsOk.nil) (by kernel_rfl) (leB (by kernel_rfl)) (by kernel_rfl) (spec_l01Once.runs k) (spec_l01Once.obls k)
/-! loop.example/g00200/spec.l01In -/
def spec_l01In.f (k : Nat) (a0 : Int) (a1 : Int) (a2 : Int) : Option (Bool) :=
  if a1 ≤ a0 then (some (decide (a0 ≤ a2))) else (some false)
def spec_l01In.sig : Sig := ⟨[.val false TyI [], .val false TyI [], .val false TyI []], [.val false .bool []]⟩
def spec_l01In.F : FT spec_l01In.sig := fun k x => spec_l01In.f k x.1 x.2.1 x.2.2.1
def spec_l01In.ann : AT spec_l01In.sig := fun k => .nil
def spec_l01In.ent : Ent := ⟨71, spec_l01In.sig, spec_l01In.F⟩
def spec_l01In.ctx (k : Nat) : Ctx := ⟨tds, [], k, 15⟩
theorem spec_l01In.runs : RunsT spec_l01In.sig spec_l01In.ctx Try.f71 spec_l01In.ann spec_l01In.F := fun k x => by kernel_rfl
theorem spec_l01In.obls : OblT tds spec_l01In.sig spec_l01In.ctx 0 Try.f71 spec_l01In.ann := fun k => ⟨tr, ⟨tr, tr⟩⟩
theorem spec_l01In.ok (k : Nat) : EntOk Try.prog k spec_l01In.ent := fn_ok (C := spec_l01In.ctx k) Try.func71 (by kernel_rfl) (by kernel_rfl) mixed tdsOk EntsOk.nil (by kernel_rfl) (leB (by kernel_rfl)) (by kernel_rfl) (spec_l01In.runs k) (spec_l01In.obls k)
/-! loop.example/g00200/spec.RulesOk -/
def spec_RulesOk.l2 (k : Nat) (c0 : Int × De3 × Unit → Option (Bool)) : Nat → Int × Int × Int × Int × Int × De3 × Unit → Option (Bool)
  | 0, _ => none
  | n + 1, (x1, x2, x3, x4, x5, x6, _) => if x2 < x1 then (if 0 ≤ x2 then (if x2 < (x6.length : Int) then (if ((el Ty3 x6 x2.toNat).1) = x3 then (if 0 ≤ x2 then (if x2 < (x6.length : Int) then (if (((el Ty3 x6 x2.toNat).2).1) = x4 then (some false) else (spec_RulesOk.l2 k c0 n (x1, w64 (x2 + 1), x3, x4, x5, x6, ()))) else none) else none) else (spec_RulesOk.l2 k c0 n (x1, w64 (x2 + 1), x3, x4, x5, x6, ()))) else none) else none) else (c0 (w64 (x1 + 1), x6, ()))
def spec_RulesOk.l1 (k : Nat)  : Nat → Int × De3 × Unit → Option (Bool)
  | 0, _ => none
  | n + 1, (x1, x2, _) => if x1 < (x2.length : Int) then (if 0 ≤ x1 then (if x1 < (x2.length : Int) then ((spec_l01In.f k ((el Ty3 x2 x1.toNat).1) 1 4).bind fun t1 => (if ¬ t1 = true then (some false) else ((spec_l01In.f k (((el Ty3 x2 x1.toNat).2).1) 1 2).bind fun t2 => (if ¬ t2 = true then (some false) else ((spec_l01In.f k (((el Ty3 x2 x1.toNat).2).2) 0 4).bind fun t3 => (if ¬ t3 = true then (some false) else (if (((el Ty3 x2 x1.toNat).2).1) = 1 then (if (((el Ty3 x2 x1.toNat).2).2) = 0 then (some false) else (spec_RulesOk.l2 k (spec_RulesOk.l1 k n) k (x1, 0, (el Ty3 x2 x1.toNat).1, ((el Ty3 x2 x1.toNat).2).1, ((el Ty3 x2 x1.toNat).2).2, x2, ()))) else (spec_RulesOk.l2 k (spec_RulesOk.l1 k n) k (x1, 0, (el Ty3 x2 x1.toNat).1, ((el Ty3 x2 x1.toNat).2).1, ((el Ty3 x2 x1.toNat).2).2, x2, ()))))))))) else none) else none) else (some (decide ((x2.length : Int) ≤ 8)))
def spec_RulesOk.f (k : Nat) (a0 : De3) : Option (Bool) :=
  spec_RulesOk.l1 k k (0, a0, ())
def spec_RulesOk.Sl1 : Shape := ⟨[(0, false, [.own 0]), (3, false, [.int .i64])], [(0, .view false 52 Ty3)], 1⟩
def spec_RulesOk.Sl2 : Shape := ⟨[(0, false, [.own 0]), (3, false, [.int .i64]), (4, false, [.ptr 1 0]), (5, false, [.int .i64])], [(1, .blk 52 [.int .i64, .int .i64, .int .i64]), (0, .view false 52 Ty3)], 2⟩
def spec_RulesOk.sig : Sig := ⟨[.val false (.sl 52 Ty3) [0]], [.val false .bool []]⟩
def spec_RulesOk.F : FT spec_RulesOk.sig := fun k x => spec_RulesOk.f k x.1
def spec_RulesOk.ann : AT spec_RulesOk.sig := fun k => (.seq .nil (.seq (.seq .nil (.block (.loop spec_RulesOk.Sl1 (spec_RulesOk.l1 k) fun n1 => (.seq .nil (.seq (.block (.seq .nil (.seq .nil (.seq .nil (.block (.loop spec_RulesOk.Sl2 (spec_RulesOk.l2 k (spec_RulesOk.l1 k n1)) fun n2 => .nil)))))) .nil))))) .nil))
def spec_RulesOk.ent : Ent := ⟨42, spec_RulesOk.sig, spec_RulesOk.F⟩
def spec_RulesOk.ctx (k : Nat) : Ctx := ⟨tds, [spec_l01In.ent], k, 68⟩
theorem spec_RulesOk.runs : RunsT spec_RulesOk.sig spec_RulesOk.ctx Try.f42 spec_RulesOk.ann spec_RulesOk.F := fun k x => by kernel_rfl
theorem spec_RulesOk.obls : OblT tds spec_RulesOk.sig spec_RulesOk.ctx 1 Try.f42 spec_RulesOk.ann := fun k => ⟨tr, ⟨⟨tr, ⟨⟨by kernel_rfl, fun x => by kernel_rfl⟩, fun n => ⟨fun x => by kernel_rfl, ⟨⟨tr, ⟨tr, tr⟩⟩, ⟨⟨tr, ⟨⟨tr, ⟨⟨tr, tr⟩, tr⟩⟩, ⟨tr, ⟨⟨by kernel_rfl, fun x => by kernel_rfl⟩, fun n => ⟨fun x => by kernel_rfl, ⟨⟨tr, ⟨tr, tr⟩⟩, ⟨⟨tr, ⟨⟨tr, tr⟩, tr⟩⟩, tr⟩⟩⟩⟩⟩⟩⟩, tr⟩⟩⟩⟩⟩, ⟨tr, tr⟩⟩⟩
theorem spec_RulesOk.ok (k : Nat) : EntOk Try.prog k spec_RulesOk.ent := fn_ok (C := spec_RulesOk.ctx k) Try.func42 (by kernel_rfl) (by kernel_rfl) mixed tdsOk (.cons (spec_l01In.ok k) EntsOk.nil) (by kernel_rfl) (leB (by kernel_rfl)) (by kernel_rfl) (spec_RulesOk.runs k) (spec_RulesOk.obls k)
/-! loop.example/g00200/spec.l10Rules -/
def spec_l10Rules.j2 (k : Nat) (c0 : Int × Int × Int × Int × DeI × De3 × Unit → Option (De3 × DeI × Int × Int)) : Int × Int × Int × Int × Int × Int × Int × DeI × De3 × Unit → Option (De3 × DeI × Int × Int)
  | (z1, z2, z3, z4, z5, z6, z7, z8, z9, _) => ((some ([] : De3))).bind fun y7 => (if (y7.length + z9.length) * 24 ≤ 140737488355328 then (((some (y7 ++ z9))).bind fun y8 => (((some ([(z5, (z6, z7))] : De3))).bind fun y9 => (if (y8.length + y9.length) * 24 ≤ 140737488355328 then (((some (y8 ++ y9))).bind fun y10 => ((spec_RulesOk.f k y10).bind fun t11 => (if t11 = true then (c0 (z1, w64 (z2 + 1), z3, z4, z8, y10, ())) else (c0 (z1, w64 (z2 + 1), z3, z4, z8, z9, ()))))) else none))) else none)
def spec_l10Rules.l1 (k : Nat)  : Nat → Int × Int × Int × Int × DeI × De3 × Unit → Option (De3 × DeI × Int × Int)
  | 0, _ => none
  | n + 1, (x1, x2, x3, x4, x5, x6, _) => (spec_l01Below.f k (x5, (x3, x4)) 6).bind fun t2 => (if x2 < t2.1 then ((spec_l01Below.f k (x5, t2.2.2) x1).bind fun t3 => ((spec_l01Below.f k (x5, t3.2.2) 2).bind fun t4 => ((spec_l01Below.f k (x5, t4.2.2) 3).bind fun t5 => ((spec_l01Once.f k (x5, t5.2.2) 8).bind fun t6 => (if t6.1 = true then (spec_l10Rules.j2 k (spec_l10Rules.l1 k n) (x1, x2, t6.2.2.1, t6.2.2.2, w64 (1 + t3.1), w64 (1 + t4.1), 4, x5, x6, ())) else (spec_l10Rules.j2 k (spec_l10Rules.l1 k n) (x1, x2, t6.2.2.1, t6.2.2.2, w64 (1 + t3.1), w64 (1 + t4.1), w64 (1 + t5.1), x5, x6, ()))))))) else (some (x6, (x5, t2.2.2))))
def spec_l10Rules.f (k : Nat) (a0 : DeI × Int × Int) (a1 : Int) : Option (De3 × DeI × Int × Int) :=
  ((some ([] : De3))).bind fun y1 => (spec_l10Rules.l1 k k (a1, 0, a0.2.1, a0.2.2, a0.1, y1, ()))
def spec_l10Rules.Sl1 : Shape := ⟨[(0, false, [.ptr 0 0]), (1, false, [.int .i64]), (5, false, [.own 2]), (6, false, [.int .i64])], [(0, .blk 103 [.own 1, .int .i64, .int .i64]), (1, .view false 5 (.int .u8)), (2, .row 52 Ty3)], 3⟩
def spec_l10Rules.Sj2 : Shape := ⟨[(0, false, [.ptr 0 0]), (1, false, [.int .i64]), (5, false, [.own 2]), (6, false, [.int .i64]), (7, false, [.ptr 3 0])], [(0, .blk 103 [.own 1, .int .i64, .int .i64]), (3, .blk 52 [.int .i64, .int .i64, .int .i64]), (1, .view false 5 (.int .u8)), (2, .row 52 Ty3)], 4⟩
def spec_l10Rules.sig : Sig := ⟨[.ptr 103 (.pair (.sl 5 (.int .u8)) Ty2) [0], .val false TyI []], [.val false (.sl 52 Ty3) [none]]⟩
def spec_l10Rules.F : FT spec_l10Rules.sig := fun k x => spec_l10Rules.f k x.1 x.2.1
def spec_l10Rules.ann : AT spec_l10Rules.sig := fun k => (.seq .nil (.seq .nil (.seq (.seq .nil (.block (.loop spec_l10Rules.Sl1 (spec_l10Rules.l1 k) fun n1 => (.seq .nil (.seq (.block (.seq .nil (.join spec_l10Rules.Sj2 (spec_l10Rules.j2 k (spec_l10Rules.l1 k n1)) .nil .nil))) .nil))))) .nil)))
def spec_l10Rules.ent : Ent := ⟨83, spec_l10Rules.sig, spec_l10Rules.F⟩
def spec_l10Rules.ctx (k : Nat) : Ctx := ⟨tds, [spec_RulesOk.ent, spec_l01Once.ent, spec_l01Below.ent], k, 40⟩
theorem spec_l10Rules.runs : RunsT spec_l10Rules.sig spec_l10Rules.ctx Try.f83 spec_l10Rules.ann spec_l10Rules.F := fun k x => by kernel_rfl
theorem spec_l10Rules.obls : OblT tds spec_l10Rules.sig spec_l10Rules.ctx 2 Try.f83 spec_l10Rules.ann := fun k => ⟨tr, ⟨tr, ⟨⟨tr, ⟨⟨by kernel_rfl, fun x => by kernel_rfl⟩, fun n => ⟨fun x => by kernel_rfl, ⟨⟨tr, ⟨tr, tr⟩⟩, ⟨⟨tr, ⟨⟨by kernel_rfl, fun x => by kernel_rfl⟩, ⟨tr, ⟨tr, tr⟩⟩, ⟨tr, ⟨tr, ⟨tr, tr⟩⟩⟩⟩⟩, tr⟩⟩⟩⟩⟩, ⟨tr, tr⟩⟩⟩⟩
theorem spec_l10Rules.ok (k : Nat) : EntOk Try.prog k spec_l10Rules.ent := fn_ok (C := spec_l10Rules.ctx k) Try.func83 (by kernel_rfl) (by kernel_rfl) mixed tdsOk (.cons (spec_RulesOk.ok k) (.cons (spec_l01Once.ok k) (.cons (spec_l01Below.ok k) EntsOk.nil))) (by kernel_rfl) (leB (by kernel_rfl)) (by kernel_rfl) (spec_l10Rules.runs k) (spec_l10Rules.obls k)
/-! loop.example/g00200/spec.l08Port -/
def spec_l08Port.j1 (k : Nat)  : Int × Int × Int × Int × Int × Int × Int × Int × Int × Int × Int × Int × DeI × Unit → Option ((Int × Int × Int × Int × Int) × DeI × Int × Int)
  | (z1, z2, z3, z4, z5, z6, z7, z8, z9, z10, z11, z12, z13, _) => (spec_l01Once.f k (z13, (z1, z2)) 3).bind fun t4 => (if t4.1 = true then ((spec_l01Below.f k (z13, t4.2.2) 8).bind fun t5 => (some ((2, (z9, (z10, (1, w64 (1 + t5.1))))), (z13, t5.2.2)))) else (some ((z8, (z9, (z10, (z11, z12)))), (z13, t4.2.2))))
def spec_l08Port.f (k : Nat) (a0 : DeI × Int × Int) : Option ((Int × Int × Int × Int × Int) × DeI × Int × Int) :=
  (spec_l01Below.f k a0 3).bind fun t1 => ((spec_l01Below.f k (a0.1, t1.2.2) 3).bind fun t2 => ((spec_l01Below.f k (a0.1, t2.2.2) 3).bind fun t3 => (if (w64 (1 + t1.1)) = (w64 (1 + t2.1)) then (spec_l08Port.j1 k (t3.2.2.1, t3.2.2.2, 0, 0, 0, 0, 0, 1, w64 (1 + t1.1), w64 (1 + (Int.tmod (w64 (1 + t1.1)) 3)), w64 (1 + t3.1), 0, a0.1, ())) else (spec_l08Port.j1 k (t3.2.2.1, t3.2.2.2, 0, 0, 0, 0, 0, 1, w64 (1 + t1.1), w64 (1 + t2.1), w64 (1 + t3.1), 0, a0.1, ())))))
def spec_l08Port.Sj1 : Shape := ⟨[(0, false, [.ptr 0 0]), (2, false, [.ptr 2 0]), (3, false, [.ptr 3 0])], [(0, .blk 103 [.own 1, .int .i64, .int .i64]), (2, .blk 50 [.int .i64, .int .i64, .int .i64, .int .i64, .int .i64]), (3, .blk 50 [.int .i64, .int .i64, .int .i64, .int .i64, .int .i64]), (1, .view false 5 (.int .u8))], 4⟩
def spec_l08Port.sig : Sig := ⟨[.ptr 103 (.pair (.sl 5 (.int .u8)) Ty2) [0]], [.val true Ty5 []]⟩
def spec_l08Port.F : FT spec_l08Port.sig := fun k x => spec_l08Port.f k x.1
def spec_l08Port.ann : AT spec_l08Port.sig := fun k => (.seq .nil (.seq .nil (.join spec_l08Port.Sj1 (spec_l08Port.j1 k) .nil .nil)))
def spec_l08Port.ent : Ent := ⟨84, spec_l08Port.sig, spec_l08Port.F⟩
def spec_l08Port.ctx (k : Nat) : Ctx := ⟨tds, [spec_l01Once.ent, spec_l01Below.ent], k, 33⟩
theorem spec_l08Port.runs : RunsT spec_l08Port.sig spec_l08Port.ctx Try.f84 spec_l08Port.ann spec_l08Port.F := fun k x => by kernel_rfl
theorem spec_l08Port.obls : OblT tds spec_l08Port.sig spec_l08Port.ctx 2 Try.f84 spec_l08Port.ann := fun k => ⟨tr, ⟨tr, ⟨⟨by kernel_rfl, fun x => by kernel_rfl⟩, ⟨tr, ⟨tr, tr⟩⟩, ⟨⟨tr, ⟨⟨tr, ⟨tr, tr⟩⟩, tr⟩⟩, ⟨tr, tr⟩⟩⟩⟩⟩
theorem spec_l08Port.ok (k : Nat) : EntOk Try.prog k spec_l08Port.ent := fn_ok (C := spec_l08Port.ctx k) Try.func84 (by kernel_rfl) (by kernel_rfl) mixed tdsOk (.cons (spec_l01Once.ok k) (.cons (spec_l01Below.ok k) EntsOk.nil)) (by kernel_rfl) (leB (by kernel_rfl)) (by kernel_rfl) (spec_l08Port.runs k) (spec_l08Port.obls k)
/-! loop.example/g00200/spec.l01PickInt -/
def spec_l01PickInt.f (k : Nat) (a0 : DeI × Int × Int) (a1 : DeI) : Option (Int × DeI × Int × Int) :=
  (spec_l01Below.f k a0 (a1.length : Int)).bind fun t1 => (if 0 ≤ t1.1 then (if t1.1 < (a1.length : Int) then (some (el TyI a1 t1.1.toNat, (a0.1, t1.2.2))) else none) else none)
def spec_l01PickInt.sig : Sig := ⟨[.ptr 103 (.pair (.sl 5 (.int .u8)) Ty2) [0], .val false (.sl 3 TyI) [0]], [.val false TyI []]⟩
def spec_l01PickInt.F : FT spec_l01PickInt.sig := fun k x => spec_l01PickInt.f k x.1 x.2.1
def spec_l01PickInt.ann : AT spec_l01PickInt.sig := fun k => .nil
def spec_l01PickInt.ent : Ent := ⟨88, spec_l01PickInt.sig, spec_l01PickInt.F⟩
def spec_l01PickInt.ctx (k : Nat) : Ctx := ⟨tds, [spec_l01Below.ent], k, 12⟩
theorem spec_l01PickInt.runs : RunsT spec_l01PickInt.sig spec_l01PickInt.ctx Try.f88 spec_l01PickInt.ann spec_l01PickInt.F := fun k x => by kernel_rfl
theorem spec_l01PickInt.obls : OblT tds spec_l01PickInt.sig spec_l01PickInt.ctx 3 Try.f88 spec_l01PickInt.ann := fun k => ⟨tr, ⟨tr, tr⟩⟩
theorem spec_l01PickInt.ok (k : Nat) : EntOk Try.prog k spec_l01PickInt.ent := fn_ok (C := spec_l01PickInt.ctx k) Try.func88 (by kernel_rfl) (by kernel_rfl) mixed tdsOk (.cons (spec_l01Below.ok k) EntsOk.nil) (by kernel_rfl) (leB (by kernel_rfl)) (by kernel_rfl) (spec_l01PickInt.runs k) (spec_l01PickInt.obls k)
/-! loop.example/g00200/spec.l05Instr -/
def spec_l05Instr.j2 (k : Nat)  : Int × Int × Int × Int × Int × Int × DeI × Unit → Option ((Int × Int) × DeI × Int × Int)
  | (z1, z2, z3, z4, z5, z6, z7, _) => (spec_l01Once.f k (z7, (z1, z2)) 40).bind fun t7 => (if t7.1 = true then ((spec_l01Below.f k (z7, t7.2.2) 256).bind fun t8 => (some ((t8.1, z6), (z7, t8.2.2)))) else (some ((z5, z6), (z7, t7.2.2))))
def spec_l05Instr.j1 (k : Nat)  : Int × Int × Int × Int × Int × Int × DeI × Unit → Option ((Int × Int) × DeI × Int × Int)
  | (z1, z2, z3, z4, z5, z6, z7, _) => if z5 = 9 then ((spec_l01Below.f k (z7, (z1, z2)) 14).bind fun t5 => (spec_l05Instr.j2 k (t5.2.2.1, t5.2.2.2, z3, z4, z5, t5.1, z7, ()))) else (if z5 = 10 then ((spec_l01Below.f k (z7, (z1, z2)) 14).bind fun t6 => (spec_l05Instr.j2 k (t6.2.2.1, t6.2.2.2, z3, z4, z5, t6.1, z7, ()))) else (spec_l05Instr.j2 k (z1, z2, z3, z4, z5, z6, z7, ())))
def spec_l05Instr.f (k : Nat) (a0 : DeI × Int × Int) : Option ((Int × Int) × DeI × Int × Int) :=
  ((some ([0, 1, 1, 1, 1, 1, 2, 3, 3, 4, 5, 6, 7, 8, 9, 10, 11, 12, 13, 14, 15, 16, 17] : DeI))).bind fun y1 => ((spec_l01PickInt.f k a0 y1).bind fun t2 => ((spec_l01Below.f k (a0.1, t2.2.2) 4).bind fun t3 => (if t2.1 = 1 then ((spec_l01Below.f k (a0.1, t3.2.2) 8).bind fun t4 => (spec_l05Instr.j1 k (t4.2.2.1, t4.2.2.2, 0, 0, t2.1, t4.1, a0.1, ()))) else (spec_l05Instr.j1 k (t3.2.2.1, t3.2.2.2, 0, 0, t2.1, t3.1, a0.1, ())))))
def spec_l05Instr.Sj1 : Shape := ⟨[(0, false, [.ptr 0 0]), (2, false, [.ptr 2 0]), (3, false, [.ptr 3 0])], [(0, .blk 103 [.own 1, .int .i64, .int .i64]), (2, .blk 108 [.int .i64, .int .i64]), (3, .blk 108 [.int .i64, .int .i64]), (1, .view false 5 (.int .u8))], 4⟩
def spec_l05Instr.Sj2 : Shape := ⟨[(0, false, [.ptr 0 0]), (2, false, [.ptr 2 0]), (3, false, [.ptr 3 0])], [(0, .blk 103 [.own 1, .int .i64, .int .i64]), (2, .blk 108 [.int .i64, .int .i64]), (3, .blk 108 [.int .i64, .int .i64]), (1, .view false 5 (.int .u8))], 4⟩
def spec_l05Instr.sig : Sig := ⟨[.ptr 103 (.pair (.sl 5 (.int .u8)) Ty2) [0]], [.val true Ty2 []]⟩
def spec_l05Instr.F : FT spec_l05Instr.sig := fun k x => spec_l05Instr.f k x.1
def spec_l05Instr.ann : AT spec_l05Instr.sig := fun k => (.seq .nil (.seq .nil (.join spec_l05Instr.Sj1 (spec_l05Instr.j1 k) .nil (.join spec_l05Instr.Sj2 (spec_l05Instr.j2 k) .nil .nil))))
def spec_l05Instr.ent : Ent := ⟨90, spec_l05Instr.sig, spec_l05Instr.F⟩
def spec_l05Instr.ctx (k : Nat) : Ctx := ⟨tds, [spec_l01Once.ent, spec_l01Below.ent, spec_l01PickInt.ent], k, 33⟩
theorem spec_l05Instr.runs : RunsT spec_l05Instr.sig spec_l05Instr.ctx Try.f90 spec_l05Instr.ann spec_l05Instr.F := fun k x => by kernel_rfl
theorem spec_l05Instr.obls : OblT tds spec_l05Instr.sig spec_l05Instr.ctx 2 Try.f90 spec_l05Instr.ann := fun k => ⟨tr, ⟨tr, ⟨⟨by kernel_rfl, fun x => by kernel_rfl⟩, ⟨tr, ⟨tr, tr⟩⟩, ⟨⟨by kernel_rfl, fun x => by kernel_rfl⟩, ⟨tr, ⟨tr, tr⟩⟩, ⟨⟨tr, ⟨tr, tr⟩⟩, ⟨tr, tr⟩⟩⟩⟩⟩⟩
theorem spec_l05Instr.ok (k : Nat) : EntOk Try.prog k spec_l05Instr.ent := fn_ok (C := spec_l05Instr.ctx k) Try.func90 (by kernel_rfl) (by kernel_rfl) mixed tdsOk (.cons (spec_l01Once.ok k) (.cons (spec_l01Below.ok k) (.cons (spec_l01PickInt.ok k) EntsOk.nil))) (by kernel_rfl) (leB (by kernel_rfl)) (by kernel_rfl) (spec_l05Instr.runs k) (spec_l05Instr.obls k)
/-! loop.example/g00200/spec.l05Code -/
def spec_l05Code.l1 (k : Nat)  : Nat → Int × Int × Int × DeI × De2 × Unit → Option (De2 × DeI × Int × Int)
  | 0, _ => none
  | n + 1, (x1, x2, x3, x4, x5, _) => (spec_l01Below.f k (x4, (x2, x3)) 16).bind fun t2 => (if x1 < t2.1 then ((spec_l01Below.f k (x4, t2.2.2) 6).bind fun t3 => (if t3.1 = 0 then ((spec_l01Below.f k (x4, t3.2.2) 5).bind fun t4 => ((spec_l01Below.f k (x4, t4.2.2) 9).bind fun t5 => (((some ([(1, t4.1), (1, t5.1), (3, 0)] : De2))).bind fun y6 => (if (x5.length + y6.length) * 16 ≤ 140737488355328 then (((some (x5 ++ y6))).bind fun y7 => (spec_l05Code.l1 k n (w64 (x1 + 1), t5.2.2.1, t5.2.2.2, x4, y7, ()))) else none)))) else (if t3.1 = 1 then ((spec_l01Below.f k (x4, t3.2.2) 5).bind fun t8 => ((spec_l01Below.f k (x4, t8.2.2) 2).bind fun t9 => (((some ([(1, t8.1), (2, 0), (16, t9.1)] : De2))).bind fun y10 => (if (x5.length + y10.length) * 16 ≤ 140737488355328 then (((some (x5 ++ y10))).bind fun y11 => (spec_l05Code.l1 k n (w64 (x1 + 1), t9.2.2.1, t9.2.2.2, x4, y11, ()))) else none)))) else (if t3.1 = 2 then ((spec_l01Below.f k (x4, t3.2.2) 3).bind fun t12 => ((spec_l01Below.f k (x4, t12.2.2) 3).bind fun t13 => (((some ([(15, t12.1), (13, t13.1), (12, 0)] : De2))).bind fun y14 => (if (x5.length + y14.length) * 16 ≤ 140737488355328 then (((some (x5 ++ y14))).bind fun y15 => (spec_l05Code.l1 k n (w64 (x1 + 1), t13.2.2.1, t13.2.2.2, x4, y15, ()))) else none)))) else ((spec_l05Instr.f k (x4, t3.2.2)).bind fun t16 => (((some ([t16.1] : De2))).bind fun y17 => (if (x5.length + y17.length) * 16 ≤ 140737488355328 then (((some (x5 ++ y17))).bind fun y18 => (spec_l05Code.l1 k n (w64 (x1 + 1), t16.2.2.1, t16.2.2.2, x4, y18, ()))) else none))))))) else ((spec_l01Once.f k (x4, t2.2.2) 2).bind fun t19 => (if t19.1 = true then (((some ([(0, 0)] : De2))).bind fun y20 => (if (x5.length + y20.length) * 16 ≤ 140737488355328 then (((some (x5 ++ y20))).bind fun y21 => (some (y21, (x4, t19.2.2)))) else none)) else (some (x5, (x4, t19.2.2))))))
def spec_l05Code.f (k : Nat) (a0 : DeI × Int × Int) : Option (De2 × DeI × Int × Int) :=
  ((some ([] : De2))).bind fun y1 => (spec_l05Code.l1 k k (0, a0.2.1, a0.2.2, a0.1, y1, ()))
def spec_l05Code.Sl1 : Shape := ⟨[(0, false, [.ptr 0 0]), (3, false, [.own 2]), (4, false, [.int .i64])], [(0, .blk 103 [.own 1, .int .i64, .int .i64]), (1, .view false 5 (.int .u8)), (2, .row 108 Ty2)], 3⟩
def spec_l05Code.sig : Sig := ⟨[.ptr 103 (.pair (.sl 5 (.int .u8)) Ty2) [0]], [.val false (.sl 108 Ty2) [none]]⟩
def spec_l05Code.F : FT spec_l05Code.sig := fun k x => spec_l05Code.f k x.1
def spec_l05Code.ann : AT spec_l05Code.sig := fun k => (.seq .nil (.seq .nil (.seq (.seq .nil (.block (.loop spec_l05Code.Sl1 (spec_l05Code.l1 k) fun n1 => .nil))) .nil)))
def spec_l05Code.ent : Ent := ⟨86, spec_l05Code.sig, spec_l05Code.F⟩
def spec_l05Code.ctx (k : Nat) : Ctx := ⟨tds, [spec_l01Once.ent, spec_l01Below.ent, spec_l05Instr.ent], k, 62⟩
theorem spec_l05Code.runs : RunsT spec_l05Code.sig spec_l05Code.ctx Try.f86 spec_l05Code.ann spec_l05Code.F := fun k x => by kernel_rfl
theorem spec_l05Code.obls : OblT tds spec_l05Code.sig spec_l05Code.ctx 2 Try.f86 spec_l05Code.ann := fun k => ⟨tr, ⟨tr, ⟨⟨tr, ⟨⟨by kernel_rfl, fun x => by kernel_rfl⟩, fun n => ⟨fun x => by kernel_rfl, ⟨⟨tr, ⟨tr, tr⟩⟩, ⟨⟨tr, ⟨tr, ⟨tr, ⟨tr, ⟨tr, ⟨tr, ⟨tr, tr⟩⟩⟩⟩⟩⟩⟩, tr⟩⟩⟩⟩⟩, ⟨⟨tr, ⟨tr, tr⟩⟩, ⟨tr, tr⟩⟩⟩⟩⟩
theorem spec_l05Code.ok (k : Nat) : EntOk Try.prog k spec_l05Code.ent := fn_ok (C := spec_l05Code.ctx k) Try.func86 (by kernel_rfl) (by kernel_rfl) mixed tdsOk (.cons (spec_l01Once.ok k) (.cons (spec_l01Below.ok k) (.cons (spec_l05Instr.ok k) EntsOk.nil))) (by kernel_rfl) (leB (by kernel_rfl)) (by kernel_rfl) (spec_l05Code.runs k) (spec_l05Code.obls k)
/-! loop.example/g00200/spec.CodeOk -/
def spec_CodeOk.l1 (k : Nat)  : Nat → Int × De2 × Unit → Option (Bool)
  | 0, _ => none
  | n + 1, (x1, x2, _) => if x1 < (x2.length : Int) then (if 0 ≤ x1 then (if x1 < (x2.length : Int) then ((spec_l01In.f k ((el Ty2 x2 x1.toNat).1) 0 255).bind fun t1 => (if ¬ t1 = true then (some false) else (if 0 ≤ x1 then (if x1 < (x2.length : Int) then ((spec_l01In.f k ((el Ty2 x2 x1.toNat).2) 0 255).bind fun t2 => (if ¬ t2 = true then (some false) else (spec_CodeOk.l1 k n (w64 (x1 + 1), x2, ())))) else none) else none))) else none) else none) else (some (decide ((x2.length : Int) ≤ 60)))
def spec_CodeOk.f (k : Nat) (a0 : De2) : Option (Bool) :=
  spec_CodeOk.l1 k k (0, a0, ())
def spec_CodeOk.Sl1 : Shape := ⟨[(0, false, [.own 0]), (3, false, [.int .i64])], [(0, .view false 108 Ty2)], 1⟩
def spec_CodeOk.sig : Sig := ⟨[.val false (.sl 108 Ty2) [0]], [.val false .bool []]⟩
def spec_CodeOk.F : FT spec_CodeOk.sig := fun k x => spec_CodeOk.f k x.1
def spec_CodeOk.ann : AT spec_CodeOk.sig := fun k => (.seq .nil (.seq (.seq .nil (.block (.loop spec_CodeOk.Sl1 (spec_CodeOk.l1 k) fun n1 => .nil))) .nil))
def spec_CodeOk.ent : Ent := ⟨89, spec_CodeOk.sig, spec_CodeOk.F⟩
def spec_CodeOk.ctx (k : Nat) : Ctx := ⟨tds, [spec_l01In.ent], k, 29⟩
theorem spec_CodeOk.runs : RunsT spec_CodeOk.sig spec_CodeOk.ctx Try.f89 spec_CodeOk.ann spec_CodeOk.F := fun k x => by kernel_rfl
theorem spec_CodeOk.obls : OblT tds spec_CodeOk.sig spec_CodeOk.ctx 1 Try.f89 spec_CodeOk.ann := fun k => ⟨tr, ⟨⟨tr, ⟨⟨by kernel_rfl, fun x => by kernel_rfl⟩, fun n => ⟨fun x => by kernel_rfl, ⟨⟨tr, ⟨tr, tr⟩⟩, ⟨⟨tr, ⟨⟨tr, tr⟩, tr⟩⟩, tr⟩⟩⟩⟩⟩, ⟨tr, tr⟩⟩⟩
theorem spec_CodeOk.ok (k : Nat) : EntOk Try.prog k spec_CodeOk.ent := fn_ok (C := spec_CodeOk.ctx k) Try.func89 (by kernel_rfl) (by kernel_rfl) mixed tdsOk (.cons (spec_l01In.ok k) EntsOk.nil) (by kernel_rfl) (leB (by kernel_rfl)) (by kernel_rfl) (spec_CodeOk.runs k) (spec_CodeOk.obls k)
/-! loop.example/g00200/spec.CodeText -/
def spec_CodeText.l1 (k : Nat)  : Nat → Int × De2 × DeI × Unit → Option (ByteArray × Bool)
  | 0, _ => none
  | n + 1, (x1, x2, x3, _) => if x1 < (x2.length : Int) then (if 0 ≤ x1 then (if x1 < (x2.length : Int) then (if 0 ≤ x1 then (if x1 < (x2.length : Int) then (((some ([IntKind.u8.wrap ((el Ty2 x2 x1.toNat).1), IntKind.u8.wrap ((el Ty2 x2 x1.toNat).2)] : DeI))).bind fun y3 => (if (x3.length + y3.length) * 1 ≤ 140737488355328 then (((some (x3 ++ y3))).bind fun y4 => (spec_CodeText.l1 k n (w64 (x1 + 1), x2, y4, ()))) else none)) else none) else none) else none) else none) else (some (chrs x3, true))
def spec_CodeText.f (k : Nat) (a0 : De2) : Option (ByteArray × Bool) :=
  (spec_CodeOk.f k a0).bind fun t1 => (if ¬ t1 = true then (some ((⟨#[]⟩ : ByteArray), false)) else (((some ([] : DeI))).bind fun y2 => (spec_CodeText.l1 k k (0, a0, y2, ()))))
def spec_CodeText.Sl1 : Shape := ⟨[(0, false, [.own 0]), (4, false, [.own 1]), (5, false, [.int .i64])], [(0, .view false 108 Ty2), (1, .row 5 (.int .u8))], 2⟩
def spec_CodeText.sig : Sig := ⟨[.val false (.sl 108 Ty2) [0]], [.val false .str [], .val false .bool []]⟩
def spec_CodeText.F : FT spec_CodeText.sig := fun k x => spec_CodeText.f k x.1
def spec_CodeText.ann : AT spec_CodeText.sig := fun k => (.seq .nil (.seq .nil (.seq .nil (.seq (.seq .nil (.block (.loop spec_CodeText.Sl1 (spec_CodeText.l1 k) fun n1 => .nil))) .nil))))
def spec_CodeText.ent : Ent := ⟨85, spec_CodeText.sig, spec_CodeText.F⟩
def spec_CodeText.ctx (k : Nat) : Ctx := ⟨tds, [spec_CodeOk.ent], k, 33⟩
theorem spec_CodeText.runs : RunsT spec_CodeText.sig spec_CodeText.ctx Try.f85 spec_CodeText.ann spec_CodeText.F := fun k x => by kernel_rfl
theorem spec_CodeText.obls : OblT tds spec_CodeText.sig spec_CodeText.ctx 1 Try.f85 spec_CodeText.ann := fun k => ⟨tr, ⟨⟨tr, ⟨⟨tr, tr⟩, tr⟩⟩, ⟨tr, ⟨⟨tr, ⟨⟨by kernel_rfl, fun x => by kernel_rfl⟩, fun n => ⟨fun x => by kernel_rfl, ⟨⟨tr, ⟨tr, tr⟩⟩, ⟨tr, tr⟩⟩⟩⟩⟩, ⟨tr, tr⟩⟩⟩⟩⟩
theorem spec_CodeText.ok (k : Nat) : EntOk Try.prog k spec_CodeText.ent := fn_ok (C := spec_CodeText.ctx k) Try.func85 (by kernel_rfl) (by kernel_rfl) mixed tdsOk (.cons (spec_CodeOk.ok k) EntsOk.nil) (by kernel_rfl) (leB (by kernel_rfl)) (by kernel_rfl) (spec_CodeText.runs k) (spec_CodeText.obls k)
/-! loop.example/g00200/spec.l11Setup -/
def spec_l11Setup.l2 (k : Nat)  : Nat → Int × Int × Int × Int × DeI × De2 × De2 × De5 × De3 × DeB × De2 × De2 × De5 × De3 × DeB × Unit → Option (DeS × DeI × Int × Int)
  | 0, _ => none
  | n + 1, (x1, x2, x3, x4, x5, x6, x7, x8, x9, x10, x11, x12, x13, x14, x15, _) => if x2 < x1 then ((spec_l05Code.f k (x5, (x3, x4))).bind fun t8 => ((spec_CodeText.f k t8.1).bind fun t9 => (((some ([t9.1] : DeB))).bind fun y10 => (if (x15.length + y10.length) * 16 ≤ 140737488355328 then (((some (x15 ++ y10))).bind fun y11 => (spec_l11Setup.l2 k n (x1, w64 (x2 + 1), t8.2.2.1, t8.2.2.2, x5, x6, x7, x8, x9, x10, x11, x12, x13, x14, y11, ()))) else none)))) else (some ((x11, (x12, (x13, (x14, x15)))), (x5, (x3, x4))))
def spec_l11Setup.l1 (k : Nat)  : Nat → Int × Int × Int × Int × DeI × De2 × De2 × De5 × De3 × DeB × De2 × De2 × De5 × De3 × DeB × Unit → Option (DeS × DeI × Int × Int)
  | 0, _ => none
  | n + 1, (x1, x2, x3, x4, x5, x6, x7, x8, x9, x10, x11, x12, x13, x14, x15, _) => (spec_l01Below.f k (x5, (x3, x4)) 4).bind fun t4 => (if x2 < t4.1 then ((spec_l08Port.f k (x5, t4.2.2)).bind fun t5 => (if t5.1.2.1 ≤ x1 then (if t5.1.2.2.1 ≤ x1 then (((some ([t5.1] : De5))).bind fun y6 => (if (x13.length + y6.length) * 40 ≤ 140737488355328 then (((some (x13 ++ y6))).bind fun y7 => (spec_l11Setup.l1 k n (x1, w64 (x2 + 1), t5.2.2.1, t5.2.2.2, x5, x6, x7, x8, x9, x10, x11, x12, y7, x14, x15, ()))) else none)) else (spec_l11Setup.l1 k n (x1, w64 (x2 + 1), t5.2.2.1, t5.2.2.2, x5, x6, x7, x8, x9, x10, x11, x12, x13, x14, x15, ()))) else (spec_l11Setup.l1 k n (x1, w64 (x2 + 1), t5.2.2.1, t5.2.2.2, x5, x6, x7, x8, x9, x10, x11, x12, x13, x14, x15, ())))) else (spec_l11Setup.l2 k k (x1, 0, t4.2.2.1, t4.2.2.2, x5, x6, x7, x8, x9, x10, x11, x12, x13, x14, x15, ())))
def spec_l11Setup.f (k : Nat) (a0 : DeI × Int × Int) : Option (DeS × DeI × Int × Int) :=
  (spec_l04Regions.f k a0).bind fun t1 => ((spec_l09Plan.f k (a0.1, t1.2.2) (t1.1.length : Int)).bind fun t2 => ((spec_l10Rules.f k (a0.1, t2.2.2) (t1.1.length : Int)).bind fun t3 => (spec_l11Setup.l1 k k ((t1.1.length : Int), 0, t3.2.2.1, t3.2.2.2, a0.1, [], [], [], [], [], t1.1, t2.1, [], t3.1, [], ()))))
def spec_l11Setup.Sl1 : Shape := ⟨[(0, false, [.ptr 0 0]), (2, false, [.ptr 2 0]), (3, false, [.ptr 8 0]), (4, false, [.int .i64]), (5, false, [.int .i64])], [(0, .blk 103 [.own 1, .int .i64, .int .i64]), (2, .blk 28 [.own 3, .own 4, .own 5, .own 6, .own 7]), (8, .blk 28 [.own 9, .own 10, .own 11, .own 12, .own 13]), (1, .view false 5 (.int .u8)), (3, .row 46 Ty2), (4, .row 48 Ty2), (5, .row 50 Ty5), (6, .row 52 Ty3), (7, .row 9 .str), (9, .row 46 Ty2), (10, .row 48 Ty2), (11, .row 50 Ty5), (12, .row 52 Ty3), (13, .row 9 .str)], 14⟩
def spec_l11Setup.Sl2 : Shape := ⟨[(0, false, [.ptr 0 0]), (2, false, [.ptr 2 0]), (3, false, [.ptr 8 0]), (4, false, [.int .i64]), (7, false, [.int .i64])], [(0, .blk 103 [.own 1, .int .i64, .int .i64]), (2, .blk 28 [.own 3, .own 4, .own 5, .own 6, .own 7]), (8, .blk 28 [.own 9, .own 10, .own 11, .own 12, .own 13]), (1, .view false 5 (.int .u8)), (3, .row 46 Ty2), (4, .row 48 Ty2), (5, .row 50 Ty5), (6, .row 52 Ty3), (7, .row 9 .str), (9, .row 46 Ty2), (10, .row 48 Ty2), (11, .row 50 Ty5), (12, .row 52 Ty3), (13, .row 9 .str)], 14⟩
def spec_l11Setup.sig : Sig := ⟨[.ptr 103 (.pair (.sl 5 (.int .u8)) Ty2) [0]], [.val true (.pair (.sl 46 Ty2) (.pair (.sl 48 Ty2) (.pair (.sl 50 Ty5) (.pair (.sl 52 Ty3) (.sl 9 .str))))) [none, none, none, none, none]]⟩
def spec_l11Setup.F : FT spec_l11Setup.sig := fun k x => spec_l11Setup.f k x.1
def spec_l11Setup.ann : AT spec_l11Setup.sig := fun k => (.seq .nil (.seq .nil (.seq .nil (.seq .nil (.seq .nil (.seq (.seq .nil (.block (.loop spec_l11Setup.Sl1 (spec_l11Setup.l1 k) fun n1 => .nil))) (.seq (.seq .nil (.block (.loop spec_l11Setup.Sl2 (spec_l11Setup.l2 k) fun n1 => .nil))) .nil)))))))
def spec_l11Setup.ent : Ent := ⟨64, spec_l11Setup.sig, spec_l11Setup.F⟩
def spec_l11Setup.ctx (k : Nat) : Ctx := ⟨tds, [spec_l01Below.ent, spec_l04Regions.ent, spec_l09Plan.ent, spec_l10Rules.ent, spec_l08Port.ent, spec_CodeText.ent, spec_l05Code.ent], k, 66⟩
theorem spec_l11Setup.runs : RunsT spec_l11Setup.sig spec_l11Setup.ctx Try.f64 spec_l11Setup.ann spec_l11Setup.F := fun k x => by kernel_rfl
theorem spec_l11Setup.obls : OblT tds spec_l11Setup.sig spec_l11Setup.ctx 2 Try.f64 spec_l11Setup.ann := fun k => ⟨tr, ⟨tr, ⟨tr, ⟨tr, ⟨tr, ⟨⟨tr, ⟨⟨by kernel_rfl, fun x => by kernel_rfl⟩, fun n => ⟨fun x => by kernel_rfl, ⟨⟨tr, ⟨tr, tr⟩⟩, ⟨⟨tr, ⟨tr, ⟨tr, tr⟩⟩⟩, tr⟩⟩⟩⟩⟩, ⟨⟨tr, ⟨⟨by kernel_rfl, fun x => by kernel_rfl⟩, fun n => ⟨fun x => by kernel_rfl, ⟨⟨tr, ⟨tr, tr⟩⟩, ⟨⟨tr, tr⟩, tr⟩⟩⟩⟩⟩, ⟨tr, tr⟩⟩⟩⟩⟩⟩⟩⟩
theorem spec_l11Setup.ok (k : Nat) : EntOk Try.prog k spec_l11Setup.ent := fn_ok (C := spec_l11Setup.ctx k) Try.func64 (by kernel_rfl) (by kernel_rfl) mixed tdsOk (.cons (spec_l01Below.ok k) (.cons (spec_l04Regions.ok k) (.cons (spec_l09Plan.ok k) (.cons (spec_l10Rules.ok k) (.cons (spec_l08Port.ok k) (.cons (spec_CodeText.ok k) (.cons (spec_l05Code.ok k) EntsOk.nil))))))) (by kernel_rfl) (leB (by kernel_rfl)) (by kernel_rfl) (spec_l11Setup.runs k) (spec_l11Setup.obls k)
/-! loop.example/g00200/spec.l04Any -/
def spec_l04Any.f (k : Nat) (a0 : DeI × Int × Int) : Option (De2 × DeI × Int × Int) :=
  (spec_l04Regions.f k a0).bind fun t1 => ((spec_l01Below.f k (a0.1, t1.2.2) (t1.1.length : Int)).bind fun t2 => ((spec_l01Below.f k (a0.1, t2.2.2) 12).bind fun t3 => (if t3.1 = 0 then (((some ([(-1), 0, 63, 64, (-9223372036854775808)] : DeI))).bind fun y4 => ((spec_l01PickInt.f k (a0.1, t3.2.2) y4).bind fun t5 => (if 0 ≤ t2.1 then (if t2.1 < (t1.1.length : Int) then (((some (t1.1.set t2.1.toNat (t5.1, (el Ty2 t1.1 t2.1.toNat).2)))).bind fun y6 => (some (y6, (a0.1, t5.2.2)))) else none) else none))) else (if t3.1 = 1 then (((some ([0, 64, 65, 9223372036854775807] : DeI))).bind fun y7 => ((spec_l01PickInt.f k (a0.1, t3.2.2) y7).bind fun t8 => (if 0 ≤ t2.1 then (if t2.1 < (t1.1.length : Int) then (((some (t1.1.set t2.1.toNat ((el Ty2 t1.1 t2.1.toNat).1, t8.1)))).bind fun y9 => (some (y9, (a0.1, t8.2.2)))) else none) else none))) else (if t3.1 = 2 then (if 0 ≤ t2.1 then (if t2.1 < (t1.1.length : Int) then (((some ([(el Ty2 t1.1 t2.1.toNat)] : De2))).bind fun y10 => (if (t1.1.length + y10.length) * 16 ≤ 140737488355328 then (((some (t1.1 ++ y10))).bind fun y11 => (some (y11, (a0.1, t3.2.2)))) else none)) else none) else none) else (if t3.1 = 3 then (((some ([] : De2))).bind fun y12 => (some (y12, (a0.1, t3.2.2)))) else (some (t1.1, (a0.1, t3.2.2)))))))))
def spec_l04Any.sig : Sig := ⟨[.ptr 103 (.pair (.sl 5 (.int .u8)) Ty2) [0]], [.val false (.sl 46 Ty2) [none]]⟩
def spec_l04Any.F : FT spec_l04Any.sig := fun k x => spec_l04Any.f k x.1
def spec_l04Any.ann : AT spec_l04Any.sig := fun k => .nil
def spec_l04Any.ent : Ent := ⟨66, spec_l04Any.sig, spec_l04Any.F⟩
def spec_l04Any.ctx (k : Nat) : Ctx := ⟨tds, [spec_l01Below.ent, spec_l04Regions.ent, spec_l01PickInt.ent], k, 44⟩
theorem spec_l04Any.runs : RunsT spec_l04Any.sig spec_l04Any.ctx Try.f66 spec_l04Any.ann spec_l04Any.F := fun k x => by kernel_rfl
theorem spec_l04Any.obls : OblT tds spec_l04Any.sig spec_l04Any.ctx 2 Try.f66 spec_l04Any.ann := fun k => ⟨tr, ⟨tr, ⟨tr, ⟨⟨tr, ⟨tr, ⟨tr, ⟨tr, ⟨tr, ⟨tr, ⟨tr, ⟨tr, ⟨tr, tr⟩⟩⟩⟩⟩⟩⟩⟩⟩, ⟨tr, tr⟩⟩⟩⟩⟩
theorem spec_l04Any.ok (k : Nat) : EntOk Try.prog k spec_l04Any.ent := fn_ok (C := spec_l04Any.ctx k) Try.func66 (by kernel_rfl) (by kernel_rfl) mixed tdsOk (.cons (spec_l01Below.ok k) (.cons (spec_l04Regions.ok k) (.cons (spec_l01PickInt.ok k) EntsOk.nil))) (by kernel_rfl) (leB (by kernel_rfl)) (by kernel_rfl) (spec_l04Any.runs k) (spec_l04Any.obls k)
/-! loop.example/g00200/spec.l09Any -/
def spec_l09Any.l1 (k : Nat)  : Nat → Int × Int × DeI × De2 × Unit → Option (De2 × DeI × Int × Int)
  | 0, _ => none
  | n + 1, (x1, x2, x3, x4, _) => (spec_l01Below.f k (x3, (x1, x2)) 2).bind fun t10 => (if (x4.length : Int) < (w64 (12 + t10.1)) then (((some ([(1, 1)] : De2))).bind fun y11 => (if (x4.length + y11.length) * 16 ≤ 140737488355328 then (((some (x4 ++ y11))).bind fun y12 => (spec_l09Any.l1 k n (t10.2.2.1, t10.2.2.2, x3, y12, ()))) else none)) else (some (x4, (x3, t10.2.2))))
def spec_l09Any.f (k : Nat) (a0 : DeI × Int × Int) : Option (De2 × DeI × Int × Int) :=
  (spec_l09Plan.f k a0 4).bind fun t1 => ((spec_l01Below.f k (a0.1, t1.2.2) 12).bind fun t2 => (if t2.1 = 0 then (((some ([0, 4, 5] : DeI))).bind fun y3 => ((spec_l01PickInt.f k (a0.1, t2.2.2) y3).bind fun t4 => (if 0 ≤ 0 then (if 0 < (t1.1.length : Int) then (((some (t1.1.set 0 (t4.1, (el Ty2 t1.1 0).2)))).bind fun y5 => (some (y5, (a0.1, t4.2.2)))) else none) else none))) else (if t2.1 = 1 then (((some ([0, 200, 201] : DeI))).bind fun y6 => ((spec_l01PickInt.f k (a0.1, t2.2.2) y6).bind fun t7 => (if 0 ≤ 0 then (if 0 < (t1.1.length : Int) then (((some (t1.1.set 0 ((el Ty2 t1.1 0).1, t7.1)))).bind fun y8 => (some (y8, (a0.1, t7.2.2)))) else none) else none))) else (if t2.1 = 2 then (((some ([] : De2))).bind fun y9 => (some (y9, (a0.1, t2.2.2)))) else (if t2.1 = 3 then (spec_l09Any.l1 k k (t2.2.2.1, t2.2.2.2, a0.1, t1.1, ())) else (some (t1.1, (a0.1, t2.2.2))))))))
def spec_l09Any.Sl1 : Shape := ⟨[(0, false, [.ptr 0 0]), (3, false, [.own 2])], [(0, .blk 103 [.own 1, .int .i64, .int .i64]), (1, .view false 5 (.int .u8)), (2, .row 48 Ty2)], 3⟩
def spec_l09Any.sig : Sig := ⟨[.ptr 103 (.pair (.sl 5 (.int .u8)) Ty2) [0]], [.val false (.sl 48 Ty2) [none]]⟩
def spec_l09Any.F : FT spec_l09Any.sig := fun k x => spec_l09Any.f k x.1
def spec_l09Any.ann : AT spec_l09Any.sig := fun k => (.seq .nil (.seq .nil (.seq (.seq .nil (.block (.seq .nil (.cond .nil (.seq .nil (.cond .nil (.seq .nil (.cond .nil (.seq .nil (.cond (.block (.loop spec_l09Any.Sl1 (spec_l09Any.l1 k) fun n1 => .nil)) .nil)))))))))) .nil)))
def spec_l09Any.ent : Ent := ⟨67, spec_l09Any.sig, spec_l09Any.F⟩
def spec_l09Any.ctx (k : Nat) : Ctx := ⟨tds, [spec_l01Below.ent, spec_l09Plan.ent, spec_l01PickInt.ent], k, 40⟩
theorem spec_l09Any.runs : RunsT spec_l09Any.sig spec_l09Any.ctx Try.f67 spec_l09Any.ann spec_l09Any.F := fun k x => by kernel_rfl
theorem spec_l09Any.obls : OblT tds spec_l09Any.sig spec_l09Any.ctx 2 Try.f67 spec_l09Any.ann := fun k => ⟨tr, ⟨tr, ⟨⟨tr, ⟨tr, ⟨tr, ⟨tr, ⟨tr, ⟨tr, ⟨tr, ⟨tr, ⟨⟨⟨by kernel_rfl, fun x => by kernel_rfl⟩, fun n => ⟨fun x => by kernel_rfl, ⟨⟨tr, ⟨tr, tr⟩⟩, tr⟩⟩⟩, tr⟩⟩⟩⟩⟩⟩⟩⟩⟩, ⟨tr, tr⟩⟩⟩⟩
theorem spec_l09Any.ok (k : Nat) : EntOk Try.prog k spec_l09Any.ent := fn_ok (C := spec_l09Any.ctx k) Try.func67 (by kernel_rfl) (by kernel_rfl) mixed tdsOk (.cons (spec_l01Below.ok k) (.cons (spec_l09Plan.ok k) (.cons (spec_l01PickInt.ok k) EntsOk.nil))) (by kernel_rfl) (leB (by kernel_rfl)) (by kernel_rfl) (spec_l09Any.runs k) (spec_l09Any.obls k)
/-! loop.example/g00200/spec.l08Any -/
def spec_l08Any.f (k : Nat) (a0 : DeI × Int × Int) : Option ((Int × Int × Int × Int × Int) × DeI × Int × Int) :=
  (spec_l08Port.f k a0).bind fun t1 => ((spec_l01Below.f k (a0.1, t1.2.2) 16).bind fun t2 => (if t2.1 = 0 then ((spec_l01Below.f k (a0.1, t2.2.2) 4).bind fun t3 => (some ((t3.1, t1.1.2), (a0.1, t3.2.2)))) else (if t2.1 = 1 then (((some ([0, 4, 5] : DeI))).bind fun y4 => ((spec_l01PickInt.f k (a0.1, t2.2.2) y4).bind fun t5 => (some ((t1.1.1, (t5.1, t1.1.2.2)), (a0.1, t5.2.2))))) else (if t2.1 = 2 then (((some ([0, 6, 7] : DeI))).bind fun y6 => ((spec_l01PickInt.f k (a0.1, t2.2.2) y6).bind fun t7 => (some ((t1.1.1, (t1.1.2.1, (t1.1.2.2.1, (t7.1, t1.1.2.2.2.2)))), (a0.1, t7.2.2))))) else (if t2.1 = 3 then (((some ([0, 100, 101] : DeI))).bind fun y8 => ((spec_l01PickInt.f k (a0.1, t2.2.2) y8).bind fun t9 => (some ((t1.1.1, (t1.1.2.1, (t1.1.2.2.1, (t1.1.2.2.2.1, t9.1)))), (a0.1, t9.2.2))))) else (some (t1.1, (a0.1, t2.2.2))))))))
def spec_l08Any.sig : Sig := ⟨[.ptr 103 (.pair (.sl 5 (.int .u8)) Ty2) [0]], [.val true Ty5 []]⟩
def spec_l08Any.F : FT spec_l08Any.sig := fun k x => spec_l08Any.f k x.1
def spec_l08Any.ann : AT spec_l08Any.sig := fun k => .nil
def spec_l08Any.ent : Ent := ⟨68, spec_l08Any.sig, spec_l08Any.F⟩
def spec_l08Any.ctx (k : Nat) : Ctx := ⟨tds, [spec_l01Below.ent, spec_l08Port.ent, spec_l01PickInt.ent], k, 32⟩
theorem spec_l08Any.runs : RunsT spec_l08Any.sig spec_l08Any.ctx Try.f68 spec_l08Any.ann spec_l08Any.F := fun k x => by kernel_rfl
theorem spec_l08Any.obls : OblT tds spec_l08Any.sig spec_l08Any.ctx 2 Try.f68 spec_l08Any.ann := fun k => ⟨tr, ⟨tr, ⟨⟨tr, ⟨tr, ⟨tr, ⟨tr, ⟨tr, ⟨tr, ⟨tr, ⟨tr, ⟨tr, tr⟩⟩⟩⟩⟩⟩⟩⟩⟩, ⟨tr, tr⟩⟩⟩⟩
theorem spec_l08Any.ok (k : Nat) : EntOk Try.prog k spec_l08Any.ent := fn_ok (C := spec_l08Any.ctx k) Try.func68 (by kernel_rfl) (by kernel_rfl) mixed tdsOk (.cons (spec_l01Below.ok k) (.cons (spec_l08Port.ok k) (.cons (spec_l01PickInt.ok k) EntsOk.nil))) (by kernel_rfl) (leB (by kernel_rfl)) (by kernel_rfl) (spec_l08Any.runs k) (spec_l08Any.obls k)
/-! loop.example/g00200/spec.l10Any -/
def spec_l10Any.f (k : Nat) (a0 : DeI × Int × Int) : Option (De3 × DeI × Int × Int) :=
  (spec_l10Rules.f k a0 4).bind fun t1 => ((spec_l01Once.f k (a0.1, t1.2.2) 4).bind fun t2 => (if t2.1 = true then ((spec_l01Below.f k (a0.1, t2.2.2) 6).bind fun t3 => ((spec_l01Below.f k (a0.1, t3.2.2) 4).bind fun t4 => ((spec_l01Below.f k (a0.1, t4.2.2) 6).bind fun t5 => (((some ([(t3.1, (t4.1, t5.1))] : De3))).bind fun y6 => (if (t1.1.length + y6.length) * 24 ≤ 140737488355328 then (((some (t1.1 ++ y6))).bind fun y7 => (some (y7, (a0.1, t5.2.2)))) else none))))) else (some (t1.1, (a0.1, t2.2.2)))))
def spec_l10Any.sig : Sig := ⟨[.ptr 103 (.pair (.sl 5 (.int .u8)) Ty2) [0]], [.val false (.sl 52 Ty3) [none]]⟩
def spec_l10Any.F : FT spec_l10Any.sig := fun k x => spec_l10Any.f k x.1
def spec_l10Any.ann : AT spec_l10Any.sig := fun k => .nil
def spec_l10Any.ent : Ent := ⟨69, spec_l10Any.sig, spec_l10Any.F⟩
def spec_l10Any.ctx (k : Nat) : Ctx := ⟨tds, [spec_l01Once.ent, spec_l01Below.ent, spec_l10Rules.ent], k, 19⟩
theorem spec_l10Any.runs : RunsT spec_l10Any.sig spec_l10Any.ctx Try.f69 spec_l10Any.ann spec_l10Any.F := fun k x => by kernel_rfl
theorem spec_l10Any.obls : OblT tds spec_l10Any.sig spec_l10Any.ctx 2 Try.f69 spec_l10Any.ann := fun k => ⟨tr, ⟨tr, ⟨⟨tr, ⟨tr, tr⟩⟩, ⟨tr, tr⟩⟩⟩⟩
theorem spec_l10Any.ok (k : Nat) : EntOk Try.prog k spec_l10Any.ent := fn_ok (C := spec_l10Any.ctx k) Try.func69 (by kernel_rfl) (by kernel_rfl) mixed tdsOk (.cons (spec_l01Once.ok k) (.cons (spec_l01Below.ok k) (.cons (spec_l10Rules.ok k) EntsOk.nil))) (by kernel_rfl) (leB (by kernel_rfl)) (by kernel_rfl) (spec_l10Any.runs k) (spec_l10Any.obls k)
/-! loop.example/g00200/spec.l11Any -/
def spec_l11Any.l1 (k : Nat)  : Nat → Int × Int × DeI × De2 × De2 × De5 × De3 × DeB × De2 × De2 × De5 × De3 × DeB × Unit → Option (DeS × DeI × Int × Int)
  | 0, _ => none
  | n + 1, (x1, x2, x3, x4, x5, x6, x7, x8, x9, x10, x11, x12, x13, _) => (spec_l01Below.f k (x3, (x1, x2)) 2).bind fun t12 => (if (x11.length : Int) < (w64 (6 + t12.1)) then (((some ([(1, (1, (2, (1, 0))))] : De5))).bind fun y13 => (if (x11.length + y13.length) * 40 ≤ 140737488355328 then (((some (x11 ++ y13))).bind fun y14 => (spec_l11Any.l1 k n (t12.2.2.1, t12.2.2.2, x3, x4, x5, x6, x7, x8, x9, x10, y14, x12, x13, ()))) else none)) else (some ((x9, (x10, (x11, (x12, x13)))), (x3, t12.2.2))))
def spec_l11Any.f (k : Nat) (a0 : DeI × Int × Int) : Option (DeS × DeI × Int × Int) :=
  (spec_l11Setup.f k a0).bind fun t1 => ((spec_l01Below.f k (a0.1, t1.2.2) 16).bind fun t2 => (if t2.1 = 0 then ((spec_l04Any.f k (a0.1, t2.2.2)).bind fun t3 => (some ((t3.1, t1.1.2), (a0.1, t3.2.2)))) else (if t2.1 = 1 then ((spec_l09Any.f k (a0.1, t2.2.2)).bind fun t4 => (some ((t1.1.1, (t4.1, t1.1.2.2)), (a0.1, t4.2.2)))) else (if t2.1 = 2 then ((spec_l08Any.f k (a0.1, t2.2.2)).bind fun t5 => (((some ([t5.1] : De5))).bind fun y6 => (if (t1.1.2.2.1.length + y6.length) * 40 ≤ 140737488355328 then (((some (t1.1.2.2.1 ++ y6))).bind fun y7 => (some ((t1.1.1, (t1.1.2.1, (y7, t1.1.2.2.2))), (a0.1, t5.2.2)))) else none))) else (if t2.1 = 3 then ((spec_l10Any.f k (a0.1, t2.2.2)).bind fun t8 => (some ((t1.1.1, (t1.1.2.1, (t1.1.2.2.1, (t8.1, t1.1.2.2.2.2)))), (a0.1, t8.2.2)))) else (if t2.1 = 4 then (((some ([(⟨#[120]⟩ : ByteArray)] : DeB))).bind fun y9 => (if (t1.1.2.2.2.2.length + y9.length) * 16 ≤ 140737488355328 then (((some (t1.1.2.2.2.2 ++ y9))).bind fun y10 => (some ((t1.1.1, (t1.1.2.1, (t1.1.2.2.1, (t1.1.2.2.2.1, y10)))), (a0.1, t2.2.2)))) else none)) else (if t2.1 = 5 then (if 0 ≤ 0 then (if 0 < (t1.1.2.2.2.2.length : Int) then (if (el .str t1.1.2.2.2.2 0).size + (⟨#[120]⟩ : ByteArray).size ≤ 9223372036854775807 then (if 0 ≤ 0 then (if 0 < (t1.1.2.2.2.2.length : Int) then (((some (t1.1.2.2.2.2.set 0 ((el .str t1.1.2.2.2.2 0) ++ (⟨#[120]⟩ : ByteArray))))).bind fun y11 => (some ((t1.1.1, (t1.1.2.1, (t1.1.2.2.1, (t1.1.2.2.2.1, y11)))), (a0.1, t2.2.2)))) else none) else none) else none) else none) else none) else (if t2.1 = 6 then (spec_l11Any.l1 k k (t2.2.2.1, t2.2.2.2, a0.1, [], [], [], [], [], t1.1.1, t1.1.2.1, t1.1.2.2.1, t1.1.2.2.2.1, t1.1.2.2.2.2, ())) else (some (t1.1, (a0.1, t2.2.2)))))))))))
def spec_l11Any.Sl1 : Shape := ⟨[(0, false, [.ptr 0 0]), (2, false, [.ptr 2 0]), (3, false, [.ptr 8 0])], [(0, .blk 103 [.own 1, .int .i64, .int .i64]), (2, .blk 28 [.own 3, .own 4, .own 5, .own 6, .own 7]), (8, .blk 28 [.own 9, .own 10, .own 11, .own 12, .own 13]), (1, .view false 5 (.int .u8)), (3, .row 46 Ty2), (4, .row 48 Ty2), (5, .row 50 Ty5), (6, .row 52 Ty3), (7, .row 9 .str), (9, .row 46 Ty2), (10, .row 48 Ty2), (11, .row 50 Ty5), (12, .row 52 Ty3), (13, .row 9 .str)], 14⟩
def spec_l11Any.sig : Sig := ⟨[.ptr 103 (.pair (.sl 5 (.int .u8)) Ty2) [0]], [.val true (.pair (.sl 46 Ty2) (.pair (.sl 48 Ty2) (.pair (.sl 50 Ty5) (.pair (.sl 52 Ty3) (.sl 9 .str))))) [none, none, none, none, none]]⟩
def spec_l11Any.F : FT spec_l11Any.sig := fun k x => spec_l11Any.f k x.1
def spec_l11Any.ann : AT spec_l11Any.sig := fun k => (.seq .nil (.seq .nil (.seq (.seq .nil (.block (.seq .nil (.cond .nil (.seq .nil (.cond .nil (.seq .nil (.cond .nil (.seq .nil (.cond .nil (.seq .nil (.cond .nil (.seq .nil (.cond .nil (.seq .nil (.cond (.block (.loop spec_l11Any.Sl1 (spec_l11Any.l1 k) fun n1 => .nil)) .nil)))))))))))))))) .nil)))
def spec_l11Any.ent : Ent := ⟨35, spec_l11Any.sig, spec_l11Any.F⟩
def spec_l11Any.ctx (k : Nat) : Ctx := ⟨tds, [spec_l11Setup.ent, spec_l01Below.ent, spec_l04Any.ent, spec_l09Any.ent, spec_l08Any.ent, spec_l10Any.ent], k, 65⟩
theorem spec_l11Any.runs : RunsT spec_l11Any.sig spec_l11Any.ctx Try.f35 spec_l11Any.ann spec_l11Any.F := fun k x => by kernel_rfl
theorem spec_l11Any.obls : OblT tds spec_l11Any.sig spec_l11Any.ctx 2 Try.f35 spec_l11Any.ann := fun k => ⟨tr, ⟨tr, ⟨⟨tr, ⟨tr, ⟨tr, ⟨tr, ⟨tr, ⟨tr, ⟨tr, ⟨tr, ⟨tr, ⟨tr, ⟨tr, ⟨tr, ⟨tr, ⟨tr, ⟨⟨⟨by kernel_rfl, fun x => by kernel_rfl⟩, fun n => ⟨fun x => by kernel_rfl, ⟨⟨tr, ⟨tr, tr⟩⟩, tr⟩⟩⟩, tr⟩⟩⟩⟩⟩⟩⟩⟩⟩⟩⟩⟩⟩⟩⟩, ⟨tr, tr⟩⟩⟩⟩
theorem spec_l11Any.ok (k : Nat) : EntOk Try.prog k spec_l11Any.ent := fn_ok (C := spec_l11Any.ctx k) Try.func35 (by kernel_rfl) (by kernel_rfl) mixed tdsOk (.cons (spec_l11Setup.ok k) (.cons (spec_l01Below.ok k) (.cons (spec_l04Any.ok k) (.cons (spec_l09Any.ok k) (.cons (spec_l08Any.ok k) (.cons (spec_l10Any.ok k) EntsOk.nil)))))) (by kernel_rfl) (leB (by kernel_rfl)) (by kernel_rfl) (spec_l11Any.runs k) (spec_l11Any.obls k)
/-! loop.example/g00200/spec.DrawSetupText -/
def spec_DrawSetupText.f (k : Nat) (a0 : DeI) : Option DeS :=
  (spec_l01New.f k a0).bind fun t1 => ((spec_l11Any.f k (a0, t1.2)).bind fun t2 => (some t2.1))
def spec_DrawSetupText.sig : Sig := ⟨[.val false (.sl 5 (.int .u8)) [0]], [.val true (.pair (.sl 46 Ty2) (.pair (.sl 48 Ty2) (.pair (.sl 50 Ty5) (.pair (.sl 52 Ty3) (.sl 9 .str))))) [none, none, none, none, none]]⟩
def spec_DrawSetupText.F : FT spec_DrawSetupText.sig := fun k x => spec_DrawSetupText.f k x.1
def spec_DrawSetupText.ann : AT spec_DrawSetupText.sig := fun k => .nil
def spec_DrawSetupText.ent : Ent := ⟨11, spec_DrawSetupText.sig, spec_DrawSetupText.F⟩
def spec_DrawSetupText.ctx (k : Nat) : Ctx := ⟨tds, [spec_l11Any.ent, spec_l01New.ent], k, 6⟩
theorem spec_DrawSetupText.runs : RunsT spec_DrawSetupText.sig spec_DrawSetupText.ctx Try.f11 spec_DrawSetupText.ann spec_DrawSetupText.F := fun k x => by kernel_rfl
theorem spec_DrawSetupText.obls : OblT tds spec_DrawSetupText.sig spec_DrawSetupText.ctx 1 Try.f11 spec_DrawSetupText.ann := fun k => ⟨tr, ⟨tr, tr⟩⟩
theorem spec_DrawSetupText.ok (k : Nat) : EntOk Try.prog k spec_DrawSetupText.ent := fn_ok (C := spec_DrawSetupText.ctx k) Try.func11 (by kernel_rfl) (by kernel_rfl) mixed tdsOk (.cons (spec_l11Any.ok k) (.cons (spec_l01New.ok k) EntsOk.nil)) (by kernel_rfl) (leB (by kernel_rfl)) (by kernel_rfl) (spec_DrawSetupText.runs k) (spec_DrawSetupText.obls k)
/-! loop.example/g00200/impl.within -/
def impl_within.f (k : Nat) (a0 : Int) (a1 : Int) (a2 : Int) : Option (Bool) :=
  if a1 ≤ a0 then (some (decide (a0 ≤ a2))) else (some false)
def impl_within.sig : Sig := ⟨[.val false TyI [], .val false TyI [], .val false TyI []], [.val false .bool []]⟩
def impl_within.F : FT impl_within.sig := fun k x => impl_within.f k x.1 x.2.1 x.2.2.1
def impl_within.ann : AT impl_within.sig := fun k => .nil
def impl_within.ent : Ent := ⟨72, impl_within.sig, impl_within.F⟩
def impl_within.ctx (k : Nat) : Ctx := ⟨tds, [], k, 15⟩
theorem impl_within.runs : RunsT impl_within.sig impl_within.ctx Try.f72 impl_within.ann impl_within.F := fun k x => by kernel_rfl
theorem impl_within.obls : OblT tds impl_within.sig impl_within.ctx 0 Try.f72 impl_within.ann := fun k => ⟨tr, ⟨tr, tr⟩⟩
theorem impl_within.ok (k : Nat) : EntOk Try.prog k impl_within.ent := fn_ok (C := impl_within.ctx k) Try.func72 (by kernel_rfl) (by kernel_rfl) mixed tdsOk EntsOk.nil (by kernel_rfl) (leB (by kernel_rfl)) (by kernel_rfl) (impl_within.runs k) (impl_within.obls k)
/-! loop.example/g00200/impl.RegionsOk -/
def impl_RegionsOk.l2 (k : Nat) (c0 : Int × Int × De2 × Unit → Option (Bool)) : Nat → Int × Int × Int × Int × Int × Int × De2 × De2 × Unit → Option (Bool)
  | 0, _ => none
  | n + 1, (x1, x2, x3, x4, x5, x6, x7, x8, _) => if x4 < x3 then (if 0 ≤ x4 then (if x4 < (x8.length : Int) then (if x5 < (w64 (((el Ty2 x8 x4.toNat).1) + ((el Ty2 x8 x4.toNat).2))) then (if ((el Ty2 x8 x4.toNat).1) < (w64 (x5 + x6)) then (some false) else (impl_RegionsOk.l2 k c0 n (x1, x2, x3, w64 (x4 + 1), x5, x6, x7, x8, ()))) else (impl_RegionsOk.l2 k c0 n (x1, x2, x3, w64 (x4 + 1), x5, x6, x7, x8, ()))) else none) else none) else (c0 (x1, w64 (x2 + 1), x7, ()))
def impl_RegionsOk.l1 (k : Nat)  : Nat → Int × Int × De2 × Unit → Option (Bool)
  | 0, _ => none
  | n + 1, (x1, x2, x3, _) => if x2 < x1 then (if 0 ≤ x2 then (if x2 < (x3.length : Int) then (if ((el Ty2 x3 x2.toNat).1) < 0 then (some false) else (if ((el Ty2 x3 x2.toNat).2) < 1 then (some false) else (if 64 < ((el Ty2 x3 x2.toNat).2) then (some false) else (if (w64 (64 - ((el Ty2 x3 x2.toNat).2))) < ((el Ty2 x3 x2.toNat).1) then (some false) else (if 0 ≤ x2 then (if x2 ≤ (x3.length : Int) then (impl_RegionsOk.l2 k (impl_RegionsOk.l1 k n) k (x1, x2, ((x2.toNat : Nat) : Int), 0, (el Ty2 x3 x2.toNat).1, (el Ty2 x3 x2.toNat).2, x3, x3.take x2.toNat, ())) else none) else none))))) else none) else none) else ((impl_within.f k (x3.length : Int) 1 4).bind fun t1 => (some t1))
def impl_RegionsOk.f (k : Nat) (a0 : De2) : Option (Bool) :=
  impl_RegionsOk.l1 k k ((a0.length : Int), 0, a0, ())
def impl_RegionsOk.Sl1 : Shape := ⟨[(0, false, [.own 0]), (7, false, [.own 0]), (8, false, [.int .i64]), (9, false, [.int .i64])], [(0, .view false 46 Ty2)], 1⟩
def impl_RegionsOk.Sl2 : Shape := ⟨[(0, false, [.own 0]), (4, false, [.ptr 1 0]), (7, false, [.own 0]), (8, false, [.int .i64]), (9, false, [.int .i64]), (37, false, [.own 2]), (38, false, [.int .i64]), (39, false, [.int .i64])], [(1, .blk 46 [.int .i64, .int .i64]), (0, .view false 46 Ty2), (2, .view false 46 Ty2)], 3⟩
def impl_RegionsOk.sig : Sig := ⟨[.val false (.sl 46 Ty2) [0]], [.val false .bool []]⟩
def impl_RegionsOk.F : FT impl_RegionsOk.sig := fun k x => impl_RegionsOk.f k x.1
def impl_RegionsOk.ann : AT impl_RegionsOk.sig := fun k => (.seq .nil (.seq (.seq .nil (.block (.loop impl_RegionsOk.Sl1 (impl_RegionsOk.l1 k) fun n1 => (.seq .nil (.seq .nil (.seq (.block (.seq .nil (.seq .nil (.seq .nil (.block (.loop impl_RegionsOk.Sl2 (impl_RegionsOk.l2 k (impl_RegionsOk.l1 k n1)) fun n2 => .nil)))))) .nil)))))) .nil))
def impl_RegionsOk.ent : Ent := ⟨45, impl_RegionsOk.sig, impl_RegionsOk.F⟩
def impl_RegionsOk.ctx (k : Nat) : Ctx := ⟨tds, [impl_within.ent], k, 66⟩
theorem impl_RegionsOk.runs : RunsT impl_RegionsOk.sig impl_RegionsOk.ctx Try.f45 impl_RegionsOk.ann impl_RegionsOk.F := fun k x => by kernel_rfl
theorem impl_RegionsOk.obls : OblT tds impl_RegionsOk.sig impl_RegionsOk.ctx 1 Try.f45 impl_RegionsOk.ann := fun k => ⟨tr, ⟨⟨tr, ⟨⟨by kernel_rfl, fun x => by kernel_rfl⟩, fun n => ⟨fun x => by kernel_rfl, ⟨tr, ⟨⟨tr, tr⟩, ⟨⟨tr, ⟨⟨tr, ⟨⟨tr, tr⟩, tr⟩⟩, ⟨tr, ⟨⟨by kernel_rfl, fun x => by kernel_rfl⟩, fun n => ⟨fun x => by kernel_rfl, ⟨tr, ⟨⟨tr, tr⟩, ⟨⟨tr, ⟨tr, ⟨⟨tr, tr⟩, tr⟩⟩⟩, tr⟩⟩⟩⟩⟩⟩⟩⟩, tr⟩⟩⟩⟩⟩⟩, ⟨tr, tr⟩⟩⟩
theorem impl_RegionsOk.ok (k : Nat) : EntOk Try.prog k impl_RegionsOk.ent := fn_ok (C := impl_RegionsOk.ctx k) Try.func45 (by kernel_rfl) (by kernel_rfl) mixed tdsOk (.cons (impl_within.ok k) EntsOk.nil) (by kernel_rfl) (leB (by kernel_rfl)) (by kernel_rfl) (impl_RegionsOk.runs k) (impl_RegionsOk.obls k)
/-! loop.example/g00200/impl.isPart -/
def impl_isPart.f (k : Nat) (a0 : Int) : Option (Bool) :=
  (impl_within.f k a0 1 4).bind fun t1 => (some t1)
def impl_isPart.sig : Sig := ⟨[.val false TyI []], [.val false .bool []]⟩
def impl_isPart.F : FT impl_isPart.sig := fun k x => impl_isPart.f k x.1
def impl_isPart.ann : AT impl_isPart.sig := fun k => .nil
def impl_isPart.ent : Ent := ⟨73, impl_isPart.sig, impl_isPart.F⟩
def impl_isPart.ctx (k : Nat) : Ctx := ⟨tds, [impl_within.ent], k, 5⟩
theorem impl_isPart.runs : RunsT impl_isPart.sig impl_isPart.ctx Try.f73 impl_isPart.ann impl_isPart.F := fun k x => by kernel_rfl
theorem impl_isPart.obls : OblT tds impl_isPart.sig impl_isPart.ctx 0 Try.f73 impl_isPart.ann := fun k => ⟨tr, ⟨tr, tr⟩⟩
theorem impl_isPart.ok (k : Nat) : EntOk Try.prog k impl_isPart.ent := fn_ok (C := impl_isPart.ctx k) Try.func73 (by kernel_rfl) (by kernel_rfl) mixed tdsOk (.cons (impl_within.ok k) EntsOk.nil) (by kernel_rfl) (leB (by kernel_rfl)) (by kernel_rfl) (impl_isPart.runs k) (impl_isPart.obls k)
/-! loop.example/g00200/impl.isBudget -/
def impl_isBudget.f (k : Nat) (a0 : Int) : Option (Bool) :=
  (impl_within.f k a0 1 200).bind fun t1 => (some t1)
def impl_isBudget.sig : Sig := ⟨[.val false TyI []], [.val false .bool []]⟩
def impl_isBudget.F : FT impl_isBudget.sig := fun k x => impl_isBudget.f k x.1
def impl_isBudget.ann : AT impl_isBudget.sig := fun k => .nil
def impl_isBudget.ent : Ent := ⟨74, impl_isBudget.sig, impl_isBudget.F⟩
def impl_isBudget.ctx (k : Nat) : Ctx := ⟨tds, [impl_within.ent], k, 5⟩
theorem impl_isBudget.runs : RunsT impl_isBudget.sig impl_isBudget.ctx Try.f74 impl_isBudget.ann impl_isBudget.F := fun k x => by kernel_rfl
theorem impl_isBudget.obls : OblT tds impl_isBudget.sig impl_isBudget.ctx 0 Try.f74 impl_isBudget.ann := fun k => ⟨tr, ⟨tr, tr⟩⟩
theorem impl_isBudget.ok (k : Nat) : EntOk Try.prog k impl_isBudget.ent := fn_ok (C := impl_isBudget.ctx k) Try.func74 (by kernel_rfl) (by kernel_rfl) mixed tdsOk (.cons (impl_within.ok k) EntsOk.nil) (by kernel_rfl) (leB (by kernel_rfl)) (by kernel_rfl) (impl_isBudget.runs k) (impl_isBudget.obls k)
/-! loop.example/g00200/impl.PlanOk -/
def impl_PlanOk.l1 (k : Nat)  : Nat → Int × Int × De2 × Unit → Option (Bool)
  | 0, _ => none
  | n + 1, (x1, x2, x3, _) => if x2 < x1 then (if 0 ≤ x2 then (if x2 < (x3.length : Int) then ((impl_isPart.f k ((el Ty2 x3 x2.toNat).1)).bind fun t1 => (if ¬ t1 = true then (some false) else ((impl_isBudget.f k ((el Ty2 x3 x2.toNat).2)).bind fun t2 => (if ¬ t2 = true then (some false) else (impl_PlanOk.l1 k n (x1, w64 (x2 + 1), x3, ())))))) else none) else none) else ((impl_within.f k (x3.length : Int) 1 12).bind fun t3 => (some t3))
def impl_PlanOk.f (k : Nat) (a0 : De2) : Option (Bool) :=
  impl_PlanOk.l1 k k ((a0.length : Int), 0, a0, ())
def impl_PlanOk.Sl1 : Shape := ⟨[(0, false, [.own 0]), (5, false, [.own 0]), (6, false, [.int .i64]), (7, false, [.int .i64])], [(0, .view false 48 Ty2)], 1⟩
def impl_PlanOk.sig : Sig := ⟨[.val false (.sl 48 Ty2) [0]], [.val false .bool []]⟩
def impl_PlanOk.F : FT impl_PlanOk.sig := fun k x => impl_PlanOk.f k x.1
def impl_PlanOk.ann : AT impl_PlanOk.sig := fun k => (.seq .nil (.seq (.seq .nil (.block (.loop impl_PlanOk.Sl1 (impl_PlanOk.l1 k) fun n1 => .nil))) .nil))
def impl_PlanOk.ent : Ent := ⟨46, impl_PlanOk.sig, impl_PlanOk.F⟩
def impl_PlanOk.ctx (k : Nat) : Ctx := ⟨tds, [impl_within.ent, impl_isPart.ent, impl_isBudget.ent], k, 25⟩
theorem impl_PlanOk.runs : RunsT impl_PlanOk.sig impl_PlanOk.ctx Try.f46 impl_PlanOk.ann impl_PlanOk.F := fun k x => by kernel_rfl
theorem impl_PlanOk.obls : OblT tds impl_PlanOk.sig impl_PlanOk.ctx 1 Try.f46 impl_PlanOk.ann := fun k => ⟨tr, ⟨⟨tr, ⟨⟨by kernel_rfl, fun x => by kernel_rfl⟩, fun n => ⟨fun x => by kernel_rfl, ⟨tr, ⟨⟨tr, tr⟩, ⟨⟨tr, ⟨tr, ⟨⟨tr, tr⟩, tr⟩⟩⟩, tr⟩⟩⟩⟩⟩⟩, ⟨tr, tr⟩⟩⟩
theorem impl_PlanOk.ok (k : Nat) : EntOk Try.prog k impl_PlanOk.ent := fn_ok (C := impl_PlanOk.ctx k) Try.func46 (by kernel_rfl) (by kernel_rfl) mixed tdsOk (.cons (impl_within.ok k) (.cons (impl_isPart.ok k) (.cons (impl_isBudget.ok k) EntsOk.nil))) (by kernel_rfl) (leB (by kernel_rfl)) (by kernel_rfl) (impl_PlanOk.runs k) (impl_PlanOk.obls k)
/-! loop.example/g00200/impl.PortOk -/
def impl_PortOk.f (k : Nat) (a0 : Int × Int × Int × Int × Int) : Option (Bool) :=
  (impl_isPart.f k a0.2.1).bind fun t1 => (if ¬ t1 = true then (some false) else ((impl_isPart.f k a0.2.2.1).bind fun t2 => (if ¬ t2 = true then (some false) else (if a0.2.1 = a0.2.2.1 then (some false) else (if a0.1 = 1 then ((impl_within.f k a0.2.2.2.1 1 6).bind fun t3 => (if t3 = true then (some (decide (a0.2.2.2.2 = 0))) else (some false))) else (if a0.1 = 2 then (if a0.2.2.2.1 = 1 then ((impl_within.f k a0.2.2.2.2 1 100).bind fun t4 => (some t4)) else (some false)) else (some false)))))))
def impl_PortOk.sig : Sig := ⟨[.val true Ty5 []], [.val false .bool []]⟩
def impl_PortOk.F : FT impl_PortOk.sig := fun k x => impl_PortOk.f k x.1
def impl_PortOk.ann : AT impl_PortOk.sig := fun k => .nil
def impl_PortOk.ent : Ent := ⟨75, impl_PortOk.sig, impl_PortOk.F⟩
def impl_PortOk.ctx (k : Nat) : Ctx := ⟨tds, [impl_within.ent, impl_isPart.ent], k, 44⟩
theorem impl_PortOk.runs : RunsT impl_PortOk.sig impl_PortOk.ctx Try.f75 impl_PortOk.ann impl_PortOk.F := fun k x => by kernel_rfl
theorem impl_PortOk.obls : OblT tds impl_PortOk.sig impl_PortOk.ctx 0 Try.f75 impl_PortOk.ann := fun k => ⟨tr, ⟨⟨tr, ⟨⟨tr, tr⟩, tr⟩⟩, ⟨⟨tr, ⟨⟨tr, tr⟩, tr⟩⟩, ⟨tr, tr⟩⟩⟩⟩
theorem impl_PortOk.ok (k : Nat) : EntOk Try.prog k impl_PortOk.ent := fn_ok (C := impl_PortOk.ctx k) Try.func75 (by kernel_rfl) (by kernel_rfl) mixed tdsOk (.cons (impl_within.ok k) (.cons (impl_isPart.ok k) EntsOk.nil)) (by kernel_rfl) (leB (by kernel_rfl)) (by kernel_rfl) (impl_PortOk.runs k) (impl_PortOk.obls k)
/-! loop.example/g00200/impl.portsOk -/
def impl_portsOk.l1 (k : Nat)  : Nat → Int × Int × De5 × Unit → Option (Bool)
  | 0, _ => none
  | n + 1, (x1, x2, x3, _) => if x2 < x1 then (if 0 ≤ x2 then (if x2 < (x3.length : Int) then ((impl_PortOk.f k ((el Ty5 x3 x2.toNat).1, (((el Ty5 x3 x2.toNat).2).1, ((((el Ty5 x3 x2.toNat).2).2).1, ((((el Ty5 x3 x2.toNat).2).2).2))))).bind fun t1 => (if ¬ t1 = true then (some false) else (impl_portsOk.l1 k n (x1, w64 (x2 + 1), x3, ())))) else none) else none) else (some (decide ((x3.length : Int) ≤ 6)))
def impl_portsOk.f (k : Nat) (a0 : De5) : Option (Bool) :=
  impl_portsOk.l1 k k ((a0.length : Int), 0, a0, ())
def impl_portsOk.Sl1 : Shape := ⟨[(0, false, [.own 0]), (5, false, [.own 0]), (6, false, [.int .i64]), (7, false, [.int .i64])], [(0, .view false 50 Ty5)], 1⟩
def impl_portsOk.sig : Sig := ⟨[.val false (.sl 50 Ty5) [0]], [.val false .bool []]⟩
def impl_portsOk.F : FT impl_portsOk.sig := fun k x => impl_portsOk.f k x.1
def impl_portsOk.ann : AT impl_portsOk.sig := fun k => (.seq .nil (.seq (.seq .nil (.block (.loop impl_portsOk.Sl1 (impl_portsOk.l1 k) fun n1 => .nil))) .nil))
def impl_portsOk.ent : Ent := ⟨47, impl_portsOk.sig, impl_portsOk.F⟩
def impl_portsOk.ctx (k : Nat) : Ctx := ⟨tds, [impl_PortOk.ent], k, 18⟩
theorem impl_portsOk.runs : RunsT impl_portsOk.sig impl_portsOk.ctx Try.f47 impl_portsOk.ann impl_portsOk.F := fun k x => by kernel_rfl
theorem impl_portsOk.obls : OblT tds impl_portsOk.sig impl_portsOk.ctx 1 Try.f47 impl_portsOk.ann := fun k => ⟨tr, ⟨⟨tr, ⟨⟨by kernel_rfl, fun x => by kernel_rfl⟩, fun n => ⟨fun x => by kernel_rfl, ⟨tr, ⟨⟨tr, tr⟩, ⟨⟨tr, ⟨tr, ⟨⟨tr, tr⟩, tr⟩⟩⟩, tr⟩⟩⟩⟩⟩⟩, ⟨tr, tr⟩⟩⟩
theorem impl_portsOk.ok (k : Nat) : EntOk Try.prog k impl_portsOk.ent := fn_ok (C := impl_portsOk.ctx k) Try.func47 (by kernel_rfl) (by kernel_rfl) mixed tdsOk (.cons (impl_PortOk.ok k) EntsOk.nil) (by kernel_rfl) (leB (by kernel_rfl)) (by kernel_rfl) (impl_portsOk.runs k) (impl_portsOk.obls k)
/-! loop.example/g00200/impl.ruleFor -/
def impl_ruleFor.l1 (k : Nat)  : Nat → Int × Int × Int × Int × De3 × Unit → Option (Int)
  | 0, _ => none
  | n + 1, (x1, x2, x3, x4, x5, _) => if x4 < x3 then (if 0 ≤ x4 then (if x4 < (x5.length : Int) then (if ((el Ty3 x5 x4.toNat).1) = x1 then (if (((el Ty3 x5 x4.toNat).2).1) = x2 then (some x4) else (impl_ruleFor.l1 k n (x1, x2, x3, w64 (x4 + 1), x5, ()))) else (impl_ruleFor.l1 k n (x1, x2, x3, w64 (x4 + 1), x5, ()))) else none) else none) else (some (-1))
def impl_ruleFor.f (k : Nat) (a0 : De3) (a1 : Int) (a2 : Int) : Option (Int) :=
  impl_ruleFor.l1 k k (a1, a2, (a0.length : Int), 0, a0, ())
def impl_ruleFor.Sl1 : Shape := ⟨[(1, false, [.int .i64]), (2, false, [.int .i64]), (9, false, [.own 0]), (10, false, [.int .i64]), (11, false, [.int .i64])], [(0, .view false 52 Ty3)], 1⟩
def impl_ruleFor.sig : Sig := ⟨[.val false (.sl 52 Ty3) [0], .val false TyI [], .val false TyI []], [.val false TyI []]⟩
def impl_ruleFor.F : FT impl_ruleFor.sig := fun k x => impl_ruleFor.f k x.1 x.2.1 x.2.2.1
def impl_ruleFor.ann : AT impl_ruleFor.sig := fun k => (.seq .nil (.seq (.seq .nil (.block (.loop impl_ruleFor.Sl1 (impl_ruleFor.l1 k) fun n1 => .nil))) .nil))
def impl_ruleFor.ent : Ent := ⟨76, impl_ruleFor.sig, impl_ruleFor.F⟩
def impl_ruleFor.ctx (k : Nat) : Ctx := ⟨tds, [], k, 28⟩
theorem impl_ruleFor.runs : RunsT impl_ruleFor.sig impl_ruleFor.ctx Try.f76 impl_ruleFor.ann impl_ruleFor.F := fun k x => by kernel_rfl
theorem impl_ruleFor.obls : OblT tds impl_ruleFor.sig impl_ruleFor.ctx 1 Try.f76 impl_ruleFor.ann := fun k => ⟨tr, ⟨⟨tr, ⟨⟨by kernel_rfl, fun x => by kernel_rfl⟩, fun n => ⟨fun x => by kernel_rfl, ⟨tr, ⟨⟨tr, tr⟩, ⟨⟨tr, ⟨tr, ⟨⟨tr, tr⟩, tr⟩⟩⟩, tr⟩⟩⟩⟩⟩⟩, ⟨tr, tr⟩⟩⟩
theorem impl_ruleFor.ok (k : Nat) : EntOk Try.prog k impl_ruleFor.ent := fn_ok (C := impl_ruleFor.ctx k) Try.func76 (by kernel_rfl) (by kernel_rfl) mixed tdsOk EntsOk.nil (by kernel_rfl) (leB (by kernel_rfl)) (by kernel_rfl) (impl_ruleFor.runs k) (impl_ruleFor.obls k)
/-! loop.example/g00200/impl.RulesOk -/
def impl_RulesOk.l1 (k : Nat)  : Nat → Int × Int × De3 × Unit → Option (Bool)
  | 0, _ => none
  | n + 1, (x1, x2, x3, _) => if x2 < x1 then (if 0 ≤ x2 then (if x2 < (x3.length : Int) then ((impl_isPart.f k ((el Ty3 x3 x2.toNat).1)).bind fun t1 => (if ¬ t1 = true then (some false) else ((impl_within.f k (((el Ty3 x3 x2.toNat).2).1) 1 2).bind fun t2 => (if ¬ t2 = true then (some false) else ((impl_within.f k (((el Ty3 x3 x2.toNat).2).2) 0 4).bind fun t3 => (if ¬ t3 = true then (some false) else ((impl_ruleFor.f k x3 ((el Ty3 x3 x2.toNat).1) (((el Ty3 x3 x2.toNat).2).1)).bind fun t4 => (if ¬ t4 = x2 then (some false) else (if (((el Ty3 x3 x2.toNat).2).1) = 1 then (if (((el Ty3 x3 x2.toNat).2).2) = 0 then (some false) else (impl_RulesOk.l1 k n (x1, w64 (x2 + 1), x3, ()))) else (impl_RulesOk.l1 k n (x1, w64 (x2 + 1), x3, ()))))))))))) else none) else none) else (some (decide ((x3.length : Int) ≤ 8)))
def impl_RulesOk.f (k : Nat) (a0 : De3) : Option (Bool) :=
  impl_RulesOk.l1 k k ((a0.length : Int), 0, a0, ())
def impl_RulesOk.Sl1 : Shape := ⟨[(0, false, [.own 0]), (5, false, [.own 0]), (6, false, [.int .i64]), (7, false, [.int .i64])], [(0, .view false 52 Ty3)], 1⟩
def impl_RulesOk.sig : Sig := ⟨[.val false (.sl 52 Ty3) [0]], [.val false .bool []]⟩
def impl_RulesOk.F : FT impl_RulesOk.sig := fun k x => impl_RulesOk.f k x.1
def impl_RulesOk.ann : AT impl_RulesOk.sig := fun k => (.seq .nil (.seq (.seq .nil (.block (.loop impl_RulesOk.Sl1 (impl_RulesOk.l1 k) fun n1 => .nil))) .nil))
def impl_RulesOk.ent : Ent := ⟨48, impl_RulesOk.sig, impl_RulesOk.F⟩
def impl_RulesOk.ctx (k : Nat) : Ctx := ⟨tds, [impl_within.ent, impl_isPart.ent, impl_ruleFor.ent], k, 50⟩
theorem impl_RulesOk.runs : RunsT impl_RulesOk.sig impl_RulesOk.ctx Try.f48 impl_RulesOk.ann impl_RulesOk.F := fun k x => by kernel_rfl
theorem impl_RulesOk.obls : OblT tds impl_RulesOk.sig impl_RulesOk.ctx 1 Try.f48 impl_RulesOk.ann := fun k => ⟨tr, ⟨⟨tr, ⟨⟨by kernel_rfl, fun x => by kernel_rfl⟩, fun n => ⟨fun x => by kernel_rfl, ⟨tr, ⟨⟨tr, tr⟩, ⟨⟨tr, ⟨⟨tr, ⟨⟨tr, tr⟩, tr⟩⟩, ⟨tr, ⟨⟨tr, tr⟩, tr⟩⟩⟩⟩, tr⟩⟩⟩⟩⟩⟩, ⟨tr, tr⟩⟩⟩
theorem impl_RulesOk.ok (k : Nat) : EntOk Try.prog k impl_RulesOk.ent := fn_ok (C := impl_RulesOk.ctx k) Try.func48 (by kernel_rfl) (by kernel_rfl) mixed tdsOk (.cons (impl_within.ok k) (.cons (impl_isPart.ok k) (.cons (impl_ruleFor.ok k) EntsOk.nil))) (by kernel_rfl) (leB (by kernel_rfl)) (by kernel_rfl) (impl_RulesOk.runs k) (impl_RulesOk.obls k)
/-! loop.example/g00200/impl.ReadCode -/
def impl_ReadCode.l1 (k : Nat)  : Nat → ByteArray × Int × De2 × Unit → Option (De2 × Bool)
  | 0, _ => none
  | n + 1, (x1, x2, x3, _) => if x2 < (x1.size : Int) then (if 0 ≤ x2 then (if x2 < (x1.size : Int) then (if 0 ≤ w64 (x2 + 1) then (if w64 (x2 + 1) < (x1.size : Int) then (((some ([(w64 (bt x1 x2), w64 (bt x1 (w64 (x2 + 1))))] : De2))).bind fun y2 => (if (x3.length + y2.length) * 16 ≤ 140737488355328 then (((some (x3 ++ y2))).bind fun y3 => (impl_ReadCode.l1 k n (x1, w64 (x2 + 2), y3, ()))) else none)) else none) else none) else none) else none) else (some (x3, true))
def impl_ReadCode.f (k : Nat) (a0 : ByteArray) : Option (De2 × Bool) :=
  if ¬ (Int.tmod (a0.size : Int) 2) = 0 then (some ([], false)) else (if 120 < (a0.size : Int) then (some ([], false)) else (((some ([] : De2))).bind fun y1 => (impl_ReadCode.l1 k k (a0, 0, y1, ()))))
def impl_ReadCode.Sl1 : Shape := ⟨[(0, false, [.str]), (4, false, [.own 0]), (5, false, [.int .i64])], [(0, .row 108 Ty2)], 1⟩
def impl_ReadCode.sig : Sig := ⟨[.val false .str []], [.val false (.sl 108 Ty2) [none], .val false .bool []]⟩
def impl_ReadCode.F : FT impl_ReadCode.sig := fun k x => impl_ReadCode.f k x.1
def impl_ReadCode.ann : AT impl_ReadCode.sig := fun k => (.seq .nil (.seq .nil (.seq .nil (.seq (.seq .nil (.block (.loop impl_ReadCode.Sl1 (impl_ReadCode.l1 k) fun n1 => .nil))) .nil))))
def impl_ReadCode.ent : Ent := ⟨77, impl_ReadCode.sig, impl_ReadCode.F⟩
def impl_ReadCode.ctx (k : Nat) : Ctx := ⟨tds, [], k, 36⟩
theorem impl_ReadCode.runs : RunsT impl_ReadCode.sig impl_ReadCode.ctx Try.f77 impl_ReadCode.ann impl_ReadCode.F := fun k x => by kernel_rfl
theorem impl_ReadCode.obls : OblT tds impl_ReadCode.sig impl_ReadCode.ctx 0 Try.f77 impl_ReadCode.ann := fun k => ⟨tr, ⟨⟨tr, ⟨⟨tr, tr⟩, tr⟩⟩, ⟨tr, ⟨⟨tr, ⟨⟨by kernel_rfl, fun x => by kernel_rfl⟩, fun n => ⟨fun x => by kernel_rfl, ⟨⟨tr, ⟨tr, tr⟩⟩, ⟨tr, tr⟩⟩⟩⟩⟩, ⟨tr, tr⟩⟩⟩⟩⟩
theorem impl_ReadCode.ok (k : Nat) : EntOk Try.prog k impl_ReadCode.ent := fn_ok (C := impl_ReadCode.ctx k) Try.func77 (by kernel_rfl) (by kernel_rfl) mixed tdsOk EntsOk.nil (by kernel_rfl) (leB (by kernel_rfl)) (by kernel_rfl) (impl_ReadCode.runs k) (impl_ReadCode.obls k)
/-! loop.example/g00200/impl.codesOk -/
def impl_codesOk.l1 (k : Nat)  : Nat → Int × Int × Int × DeB × Unit → Option (Bool)
  | 0, _ => none
  | n + 1, (x1, x2, x3, x4, _) => if x3 < x2 then (if 0 ≤ x3 then (if x3 < (x4.length : Int) then ((impl_ReadCode.f k (el .str x4 x3.toNat)).bind fun t1 => (if ¬ t1.2 = true then (some false) else (impl_codesOk.l1 k n (x1, x2, w64 (x3 + 1), x4, ())))) else none) else none) else (some (decide ((x4.length : Int) = x1)))
def impl_codesOk.f (k : Nat) (a0 : DeB) (a1 : Int) : Option (Bool) :=
  impl_codesOk.l1 k k (a1, (a0.length : Int), 0, a0, ())
def impl_codesOk.Sl1 : Shape := ⟨[(0, false, [.own 0]), (1, false, [.int .i64]), (9, false, [.own 0]), (10, false, [.int .i64]), (11, false, [.int .i64])], [(0, .view false 9 .str)], 1⟩
def impl_codesOk.sig : Sig := ⟨[.val false (.sl 9 .str) [0], .val false TyI []], [.val false .bool []]⟩
def impl_codesOk.F : FT impl_codesOk.sig := fun k x => impl_codesOk.f k x.1 x.2.1
def impl_codesOk.ann : AT impl_codesOk.sig := fun k => (.seq .nil (.seq (.seq .nil (.block (.loop impl_codesOk.Sl1 (impl_codesOk.l1 k) fun n1 => .nil))) .nil))
def impl_codesOk.ent : Ent := ⟨49, impl_codesOk.sig, impl_codesOk.F⟩
def impl_codesOk.ctx (k : Nat) : Ctx := ⟨tds, [impl_ReadCode.ent], k, 27⟩
theorem impl_codesOk.runs : RunsT impl_codesOk.sig impl_codesOk.ctx Try.f49 impl_codesOk.ann impl_codesOk.F := fun k x => by kernel_rfl
theorem impl_codesOk.obls : OblT tds impl_codesOk.sig impl_codesOk.ctx 1 Try.f49 impl_codesOk.ann := fun k => ⟨tr, ⟨⟨tr, ⟨⟨by kernel_rfl, fun x => by kernel_rfl⟩, fun n => ⟨fun x => by kernel_rfl, ⟨tr, ⟨⟨tr, tr⟩, ⟨⟨tr, ⟨tr, ⟨tr, ⟨⟨tr, tr⟩, tr⟩⟩⟩⟩, tr⟩⟩⟩⟩⟩⟩, ⟨tr, tr⟩⟩⟩
theorem impl_codesOk.ok (k : Nat) : EntOk Try.prog k impl_codesOk.ent := fn_ok (C := impl_codesOk.ctx k) Try.func49 (by kernel_rfl) (by kernel_rfl) mixed tdsOk (.cons (impl_ReadCode.ok k) EntsOk.nil) (by kernel_rfl) (leB (by kernel_rfl)) (by kernel_rfl) (impl_codesOk.runs k) (impl_codesOk.obls k)
/-! loop.example/g00200/impl.partsOk -/
def impl_partsOk.l3 (k : Nat)  : Nat → Int × Int × Int × De2 × De2 × De5 × De3 × DeB × Unit → Option (Bool)
  | 0, _ => none
  | n + 1, (x1, x2, x3, x4, x5, x6, x7, x8, _) => if x3 < x2 then (if 0 ≤ x3 then (if x3 < (x7.length : Int) then (impl_partsOk.l3 k n (max x1 ((el Ty3 x7 x3.toNat).1), x2, w64 (x3 + 1), x4, x5, x6, x7, x8, ())) else none) else none) else (some (decide (x1 ≤ (x4.length : Int))))
def impl_partsOk.l2 (k : Nat)  : Nat → Int × Int × Int × De2 × De2 × De5 × De3 × DeB × Unit → Option (Bool)
  | 0, _ => none
  | n + 1, (x1, x2, x3, x4, x5, x6, x7, x8, _) => if x3 < x2 then (if 0 ≤ x3 then (if x3 < (x6.length : Int) then (impl_partsOk.l2 k n (max (max x1 (((el Ty5 x6 x3.toNat).2).1)) ((((el Ty5 x6 x3.toNat).2).2).1), x2, w64 (x3 + 1), x4, x5, x6, x7, x8, ())) else none) else none) else (impl_partsOk.l3 k k (x1, (x7.length : Int), 0, x4, x5, x6, x7, x8, ()))
def impl_partsOk.l1 (k : Nat)  : Nat → Int × Int × Int × De2 × De2 × De5 × De3 × DeB × Unit → Option (Bool)
  | 0, _ => none
  | n + 1, (x1, x2, x3, x4, x5, x6, x7, x8, _) => if x3 < x2 then (if 0 ≤ x3 then (if x3 < (x5.length : Int) then (impl_partsOk.l1 k n (max x1 ((el Ty2 x5 x3.toNat).1), x2, w64 (x3 + 1), x4, x5, x6, x7, x8, ())) else none) else none) else (impl_partsOk.l2 k k (x1, (x6.length : Int), 0, x4, x5, x6, x7, x8, ()))
def impl_partsOk.f (k : Nat) (a0 : De2 × De2 × De5 × De3 × DeB) : Option (Bool) :=
  impl_partsOk.l1 k k (0, (a0.2.1.length : Int), 0, a0.1, a0.2.1, a0.2.2.1, a0.2.2.2.1, a0.2.2.2.2, ())
def impl_partsOk.Sl1 : Shape := ⟨[(1, false, [.ptr 5 0]), (3, false, [.int .i64]), (11, false, [.own 1]), (12, false, [.int .i64]), (13, false, [.int .i64])], [(5, .blk 28 [.own 0, .own 1, .own 2, .own 3, .own 4]), (0, .view false 46 Ty2), (1, .view false 48 Ty2), (2, .view false 50 Ty5), (3, .view false 52 Ty3), (4, .view false 9 .str)], 6⟩
def impl_partsOk.Sl2 : Shape := ⟨[(1, false, [.ptr 5 0]), (3, false, [.int .i64]), (23, false, [.own 2]), (24, false, [.int .i64]), (25, false, [.int .i64])], [(5, .blk 28 [.own 0, .own 1, .own 2, .own 3, .own 4]), (0, .view false 46 Ty2), (1, .view false 48 Ty2), (2, .view false 50 Ty5), (3, .view false 52 Ty3), (4, .view false 9 .str)], 6⟩
def impl_partsOk.Sl3 : Shape := ⟨[(1, false, [.ptr 5 0]), (3, false, [.int .i64]), (37, false, [.own 3]), (38, false, [.int .i64]), (39, false, [.int .i64])], [(5, .blk 28 [.own 0, .own 1, .own 2, .own 3, .own 4]), (0, .view false 46 Ty2), (1, .view false 48 Ty2), (2, .view false 50 Ty5), (3, .view false 52 Ty3), (4, .view false 9 .str)], 6⟩
def impl_partsOk.sig : Sig := ⟨[.val true (.pair (.sl 46 Ty2) (.pair (.sl 48 Ty2) (.pair (.sl 50 Ty5) (.pair (.sl 52 Ty3) (.sl 9 .str))))) [0, 0, 0, 0, 0]], [.val false .bool []]⟩
def impl_partsOk.F : FT impl_partsOk.sig := fun k x => impl_partsOk.f k x.1
def impl_partsOk.ann : AT impl_partsOk.sig := fun k => (.seq .nil (.seq .nil (.seq (.seq .nil (.block (.loop impl_partsOk.Sl1 (impl_partsOk.l1 k) fun n1 => .nil))) (.seq (.seq .nil (.block (.loop impl_partsOk.Sl2 (impl_partsOk.l2 k) fun n1 => .nil))) (.seq (.seq .nil (.block (.loop impl_partsOk.Sl3 (impl_partsOk.l3 k) fun n1 => .nil))) .nil)))))
def impl_partsOk.ent : Ent := ⟨50, impl_partsOk.sig, impl_partsOk.F⟩
def impl_partsOk.ctx (k : Nat) : Ctx := ⟨tds, [], k, 53⟩
theorem impl_partsOk.runs : RunsT impl_partsOk.sig impl_partsOk.ctx Try.f50 impl_partsOk.ann impl_partsOk.F := fun k x => by kernel_rfl
theorem impl_partsOk.obls : OblT tds impl_partsOk.sig impl_partsOk.ctx 5 Try.f50 impl_partsOk.ann := fun k => ⟨tr, ⟨tr, ⟨⟨tr, ⟨⟨by kernel_rfl, fun x => by kernel_rfl⟩, fun n => ⟨fun x => by kernel_rfl, ⟨tr, ⟨⟨tr, tr⟩, ⟨⟨tr, tr⟩, tr⟩⟩⟩⟩⟩⟩, ⟨⟨tr, ⟨⟨by kernel_rfl, fun x => by kernel_rfl⟩, fun n => ⟨fun x => by kernel_rfl, ⟨tr, ⟨⟨tr, tr⟩, ⟨⟨tr, tr⟩, tr⟩⟩⟩⟩⟩⟩, ⟨⟨tr, ⟨⟨by kernel_rfl, fun x => by kernel_rfl⟩, fun n => ⟨fun x => by kernel_rfl, ⟨tr, ⟨⟨tr, tr⟩, ⟨⟨tr, tr⟩, tr⟩⟩⟩⟩⟩⟩, ⟨tr, tr⟩⟩⟩⟩⟩⟩
theorem impl_partsOk.ok (k : Nat) : EntOk Try.prog k impl_partsOk.ent := fn_ok (C := impl_partsOk.ctx k) Try.func50 (by kernel_rfl) (by kernel_rfl) mixed tdsOk EntsOk.nil (by kernel_rfl) (leB (by kernel_rfl)) (by kernel_rfl) (impl_partsOk.runs k) (impl_partsOk.obls k)
/-! loop.example/g00200/impl.SetupFault -/
def impl_SetupFault.f (k : Nat) (a0 : De2 × De2 × De5 × De3 × DeB) : Option (Int) :=
  (impl_RegionsOk.f k a0.1).bind fun t1 => (if ¬ t1 = true then (some 1) else ((impl_PlanOk.f k a0.2.1).bind fun t2 => (if ¬ t2 = true then (some 2) else ((impl_portsOk.f k a0.2.2.1).bind fun t3 => (if ¬ t3 = true then (some 3) else ((impl_RulesOk.f k a0.2.2.2.1).bind fun t4 => (if ¬ t4 = true then (some 4) else ((impl_codesOk.f k a0.2.2.2.2 (a0.1.length : Int)).bind fun t5 => (if ¬ t5 = true then (some 5) else ((impl_partsOk.f k a0).bind fun t6 => (if ¬ t6 = true then (some 6) else (some 0))))))))))))
def impl_SetupFault.sig : Sig := ⟨[.val true (.pair (.sl 46 Ty2) (.pair (.sl 48 Ty2) (.pair (.sl 50 Ty5) (.pair (.sl 52 Ty3) (.sl 9 .str))))) [0, 0, 0, 0, 0]], [.val false TyI []]⟩
def impl_SetupFault.F : FT impl_SetupFault.sig := fun k x => impl_SetupFault.f k x.1
def impl_SetupFault.ann : AT impl_SetupFault.sig := fun k => .nil
def impl_SetupFault.ent : Ent := ⟨14, impl_SetupFault.sig, impl_SetupFault.F⟩
def impl_SetupFault.ctx (k : Nat) : Ctx := ⟨tds, [impl_RegionsOk.ent, impl_PlanOk.ent, impl_portsOk.ent, impl_RulesOk.ent, impl_codesOk.ent, impl_partsOk.ent], k, 35⟩
theorem impl_SetupFault.runs : RunsT impl_SetupFault.sig impl_SetupFault.ctx Try.f14 impl_SetupFault.ann impl_SetupFault.F := fun k x => by kernel_rfl
theorem impl_SetupFault.obls : OblT tds impl_SetupFault.sig impl_SetupFault.ctx 5 Try.f14 impl_SetupFault.ann := fun k => ⟨tr, ⟨⟨tr, ⟨⟨tr, tr⟩, ⟨tr, ⟨⟨tr, tr⟩, ⟨tr, ⟨⟨tr, tr⟩, ⟨tr, ⟨⟨tr, tr⟩, ⟨tr, ⟨⟨tr, tr⟩, ⟨tr, ⟨⟨tr, tr⟩, tr⟩⟩⟩⟩⟩⟩⟩⟩⟩⟩⟩⟩, ⟨tr, tr⟩⟩⟩
theorem impl_SetupFault.ok (k : Nat) : EntOk Try.prog k impl_SetupFault.ent := fn_ok (C := impl_SetupFault.ctx k) Try.func14 (by kernel_rfl) (by kernel_rfl) mixed tdsOk (.cons (impl_RegionsOk.ok k) (.cons (impl_PlanOk.ok k) (.cons (impl_portsOk.ok k) (.cons (impl_RulesOk.ok k) (.cons (impl_codesOk.ok k) (.cons (impl_partsOk.ok k) EntsOk.nil)))))) (by kernel_rfl) (leB (by kernel_rfl)) (by kernel_rfl) (impl_SetupFault.runs k) (impl_SetupFault.obls k)
/-! loop.example/g00200/impl.VarText -/
def impl_VarText.l1 (k : Nat)  : Nat → Int × DeI × Unit → Option (ByteArray × Bool)
  | 0, _ => none
  | n + 1, (x1, x2, _) => if 127 < x1 then (((some ([IntKind.u8.wrap (w64 ((Int.tmod x1 128) + 128))] : DeI))).bind fun y3 => (if (x2.length + y3.length) * 1 ≤ 140737488355328 then (((some (x2 ++ y3))).bind fun y4 => (impl_VarText.l1 k n (w64 (Int.tdiv x1 128), y4, ()))) else none)) else (((some ([IntKind.u8.wrap (x1)] : DeI))).bind fun y5 => (if (x2.length + y5.length) * 1 ≤ 140737488355328 then (((some (x2 ++ y5))).bind fun y6 => (some (chrs y6, true))) else none))
def impl_VarText.f (k : Nat) (a0 : Int) : Option (ByteArray × Bool) :=
  (impl_within.f k a0 0 1000000000).bind fun t1 => (if ¬ t1 = true then (some ((⟨#[]⟩ : ByteArray), false)) else (((some ([] : DeI))).bind fun y2 => (impl_VarText.l1 k k (a0, y2, ()))))
def impl_VarText.Sl1 : Shape := ⟨[(0, false, [.int .i64]), (4, false, [.own 0])], [(0, .row 5 (.int .u8))], 1⟩
def impl_VarText.sig : Sig := ⟨[.val false TyI []], [.val false .str [], .val false .bool []]⟩
def impl_VarText.F : FT impl_VarText.sig := fun k x => impl_VarText.f k x.1
def impl_VarText.ann : AT impl_VarText.sig := fun k => (.seq .nil (.seq .nil (.seq .nil (.seq (.block (.loop impl_VarText.Sl1 (impl_VarText.l1 k) fun n1 => .nil)) .nil))))
def impl_VarText.ent : Ent := ⟨70, impl_VarText.sig, impl_VarText.F⟩
def impl_VarText.ctx (k : Nat) : Ctx := ⟨tds, [impl_within.ent], k, 26⟩
theorem impl_VarText.runs : RunsT impl_VarText.sig impl_VarText.ctx Try.f70 impl_VarText.ann impl_VarText.F := fun k x => by kernel_rfl
theorem impl_VarText.obls : OblT tds impl_VarText.sig impl_VarText.ctx 0 Try.f70 impl_VarText.ann := fun k => ⟨tr, ⟨⟨tr, ⟨⟨tr, tr⟩, tr⟩⟩, ⟨tr, ⟨⟨⟨by kernel_rfl, fun x => by kernel_rfl⟩, fun n => ⟨fun x => by kernel_rfl, ⟨⟨tr, ⟨tr, tr⟩⟩, ⟨tr, tr⟩⟩⟩⟩, ⟨tr, tr⟩⟩⟩⟩⟩
theorem impl_VarText.ok (k : Nat) : EntOk Try.prog k impl_VarText.ent := fn_ok (C := impl_VarText.ctx k) Try.func70 (by kernel_rfl) (by kernel_rfl) mixed tdsOk (.cons (impl_within.ok k) EntsOk.nil) (by kernel_rfl) (leB (by kernel_rfl)) (by kernel_rfl) (impl_VarText.runs k) (impl_VarText.obls k)
/-! loop.example/g00200/impl.numbers -/
def impl_numbers.l1 (k : Nat)  : Nat → ByteArray × Int × Int × DeI × Unit → Option (ByteArray)
  | 0, _ => none
  | n + 1, (x1, x2, x3, x4, _) => if x3 < x2 then (if 0 ≤ x3 then (if x3 < (x4.length : Int) then ((impl_VarText.f k (el TyI x4 x3.toNat)).bind fun t1 => (if x1.size + t1.1.size ≤ 9223372036854775807 then (impl_numbers.l1 k n (x1 ++ t1.1, x2, w64 (x3 + 1), x4, ())) else none)) else none) else none) else (some x1)
def impl_numbers.f (k : Nat) (a0 : DeI) : Option (ByteArray) :=
  impl_numbers.l1 k k ((⟨#[]⟩ : ByteArray), (a0.length : Int), 0, a0, ())
def impl_numbers.Sl1 : Shape := ⟨[(3, false, [.str]), (8, false, [.own 0]), (9, false, [.int .i64]), (10, false, [.int .i64])], [(0, .view false 3 TyI)], 1⟩
def impl_numbers.sig : Sig := ⟨[.val false (.sl 3 TyI) [0]], [.val false .str []]⟩
def impl_numbers.F : FT impl_numbers.sig := fun k x => impl_numbers.f k x.1
def impl_numbers.ann : AT impl_numbers.sig := fun k => (.seq .nil (.seq .nil (.seq (.seq .nil (.block (.loop impl_numbers.Sl1 (impl_numbers.l1 k) fun n1 => .nil))) .nil)))
def impl_numbers.ent : Ent := ⟨37, impl_numbers.sig, impl_numbers.F⟩
def impl_numbers.ctx (k : Nat) : Ctx := ⟨tds, [impl_VarText.ent], k, 24⟩
theorem impl_numbers.runs : RunsT impl_numbers.sig impl_numbers.ctx Try.f37 impl_numbers.ann impl_numbers.F := fun k x => by kernel_rfl
theorem impl_numbers.obls : OblT tds impl_numbers.sig impl_numbers.ctx 1 Try.f37 impl_numbers.ann := fun k => ⟨tr, ⟨tr, ⟨⟨tr, ⟨⟨by kernel_rfl, fun x => by kernel_rfl⟩, fun n => ⟨fun x => by kernel_rfl, ⟨tr, ⟨⟨tr, tr⟩, ⟨⟨tr, ⟨tr, tr⟩⟩, tr⟩⟩⟩⟩⟩⟩, ⟨tr, tr⟩⟩⟩⟩
theorem impl_numbers.ok (k : Nat) : EntOk Try.prog k impl_numbers.ent := fn_ok (C := impl_numbers.ctx k) Try.func37 (by kernel_rfl) (by kernel_rfl) mixed tdsOk (.cons (impl_VarText.ok k) EntsOk.nil) (by kernel_rfl) (leB (by kernel_rfl)) (by kernel_rfl) (impl_numbers.runs k) (impl_numbers.obls k)
/-! loop.example/g00200/impl.ShortText -/
def impl_ShortText.f (k : Nat) (a0 : ByteArray) : Option (ByteArray × Bool) :=
  if 20000 < (a0.size : Int) then (some ((⟨#[]⟩ : ByteArray), false)) else ((impl_VarText.f k (a0.size : Int)).bind fun t1 => (if t1.1.size + a0.size ≤ 9223372036854775807 then (some (t1.1 ++ a0, true)) else none))
def impl_ShortText.sig : Sig := ⟨[.val false .str []], [.val false .str [], .val false .bool []]⟩
def impl_ShortText.F : FT impl_ShortText.sig := fun k x => impl_ShortText.f k x.1
def impl_ShortText.ann : AT impl_ShortText.sig := fun k => .nil
def impl_ShortText.ent : Ent := ⟨38, impl_ShortText.sig, impl_ShortText.F⟩
def impl_ShortText.ctx (k : Nat) : Ctx := ⟨tds, [impl_VarText.ent], k, 18⟩
theorem impl_ShortText.runs : RunsT impl_ShortText.sig impl_ShortText.ctx Try.f38 impl_ShortText.ann impl_ShortText.F := fun k x => by kernel_rfl
theorem impl_ShortText.obls : OblT tds impl_ShortText.sig impl_ShortText.ctx 0 Try.f38 impl_ShortText.ann := fun k => ⟨tr, ⟨⟨tr, ⟨⟨tr, tr⟩, tr⟩⟩, ⟨tr, ⟨tr, tr⟩⟩⟩⟩
theorem impl_ShortText.ok (k : Nat) : EntOk Try.prog k impl_ShortText.ent := fn_ok (C := impl_ShortText.ctx k) Try.func38 (by kernel_rfl) (by kernel_rfl) mixed tdsOk (.cons (impl_VarText.ok k) EntsOk.nil) (by kernel_rfl) (leB (by kernel_rfl)) (by kernel_rfl) (impl_ShortText.runs k) (impl_ShortText.obls k)
/-! loop.example/g00200/impl.SetupText -/
def impl_SetupText.l5 (k : Nat)  : Nat → ByteArray × Int × Int × DeB × Unit → Option (ByteArray × Bool)
  | 0, _ => none
  | n + 1, (x1, x2, x3, x4, _) => if x3 < x2 then (if 0 ≤ x3 then (if x3 < (x4.length : Int) then ((impl_ShortText.f k (el .str x4 x3.toNat)).bind fun t18 => (if x1.size + t18.1.size ≤ 9223372036854775807 then (impl_SetupText.l5 k n (x1 ++ t18.1, x2, w64 (x3 + 1), x4, ())) else none)) else none) else none) else (some (x1, true))
def impl_SetupText.l4 (k : Nat)  : Nat → ByteArray × Int × Int × De2 × De2 × De5 × De3 × DeB × Unit → Option (ByteArray × Bool)
  | 0, _ => none
  | n + 1, (x1, x2, x3, x4, x5, x6, x7, x8, _) => if x3 < x2 then (if 0 ≤ x3 then (if x3 < (x7.length : Int) then (((some ([(el Ty3 x7 x3.toNat).1, ((el Ty3 x7 x3.toNat).2).1, ((el Ty3 x7 x3.toNat).2).2] : DeI))).bind fun y16 => ((impl_numbers.f k y16).bind fun t17 => (if x1.size + t17.size ≤ 9223372036854775807 then (impl_SetupText.l4 k n (x1 ++ t17, x2, w64 (x3 + 1), x4, x5, x6, x7, x8, ())) else none))) else none) else none) else (impl_SetupText.l5 k k (x1, (x8.length : Int), 0, x8, ()))
def impl_SetupText.l3 (k : Nat)  : Nat → ByteArray × Int × Int × De2 × De2 × De5 × De3 × DeB × Unit → Option (ByteArray × Bool)
  | 0, _ => none
  | n + 1, (x1, x2, x3, x4, x5, x6, x7, x8, _) => if x3 < x2 then (if 0 ≤ x3 then (if x3 < (x6.length : Int) then (((some ([(el Ty5 x6 x3.toNat).1, ((el Ty5 x6 x3.toNat).2).1, (((el Ty5 x6 x3.toNat).2).2).1, ((((el Ty5 x6 x3.toNat).2).2).2).1, ((((el Ty5 x6 x3.toNat).2).2).2).2] : DeI))).bind fun y12 => ((impl_numbers.f k y12).bind fun t13 => (if x1.size + t13.size ≤ 9223372036854775807 then (impl_SetupText.l3 k n (x1 ++ t13, x2, w64 (x3 + 1), x4, x5, x6, x7, x8, ())) else none))) else none) else none) else (((some ([(x7.length : Int)] : DeI))).bind fun y14 => ((impl_numbers.f k y14).bind fun t15 => (if x1.size + t15.size ≤ 9223372036854775807 then (impl_SetupText.l4 k k (x1 ++ t15, (x7.length : Int), 0, x4, x5, x6, x7, x8, ())) else none)))
def impl_SetupText.l2 (k : Nat)  : Nat → ByteArray × Int × Int × De2 × De2 × De5 × De3 × DeB × Unit → Option (ByteArray × Bool)
  | 0, _ => none
  | n + 1, (x1, x2, x3, x4, x5, x6, x7, x8, _) => if x3 < x2 then (if 0 ≤ x3 then (if x3 < (x5.length : Int) then (((some ([(el Ty2 x5 x3.toNat).1, (el Ty2 x5 x3.toNat).2] : DeI))).bind fun y8 => ((impl_numbers.f k y8).bind fun t9 => (if x1.size + t9.size ≤ 9223372036854775807 then (impl_SetupText.l2 k n (x1 ++ t9, x2, w64 (x3 + 1), x4, x5, x6, x7, x8, ())) else none))) else none) else none) else (((some ([(x6.length : Int)] : DeI))).bind fun y10 => ((impl_numbers.f k y10).bind fun t11 => (if x1.size + t11.size ≤ 9223372036854775807 then (impl_SetupText.l3 k k (x1 ++ t11, (x6.length : Int), 0, x4, x5, x6, x7, x8, ())) else none)))
def impl_SetupText.l1 (k : Nat)  : Nat → ByteArray × Int × Int × De2 × De2 × De5 × De3 × DeB × Unit → Option (ByteArray × Bool)
  | 0, _ => none
  | n + 1, (x1, x2, x3, x4, x5, x6, x7, x8, _) => if x3 < x2 then (if 0 ≤ x3 then (if x3 < (x4.length : Int) then (((some ([(el Ty2 x4 x3.toNat).1, (el Ty2 x4 x3.toNat).2] : DeI))).bind fun y4 => ((impl_numbers.f k y4).bind fun t5 => (if x1.size + t5.size ≤ 9223372036854775807 then (impl_SetupText.l1 k n (x1 ++ t5, x2, w64 (x3 + 1), x4, x5, x6, x7, x8, ())) else none))) else none) else none) else (((some ([(x5.length : Int)] : DeI))).bind fun y6 => ((impl_numbers.f k y6).bind fun t7 => (if x1.size + t7.size ≤ 9223372036854775807 then (impl_SetupText.l2 k k (x1 ++ t7, (x5.length : Int), 0, x4, x5, x6, x7, x8, ())) else none)))
def impl_SetupText.f (k : Nat) (a0 : De2 × De2 × De5 × De3 × DeB) : Option (ByteArray × Bool) :=
  (impl_SetupFault.f k a0).bind fun t1 => (if ¬ t1 = 0 then (some ((⟨#[]⟩ : ByteArray), false)) else (((some ([(a0.1.length : Int)] : DeI))).bind fun y2 => ((impl_numbers.f k y2).bind fun t3 => (impl_SetupText.l1 k k (t3, (a0.1.length : Int), 0, a0.1, a0.2.1, a0.2.2.1, a0.2.2.2.1, a0.2.2.2.2, ())))))
def impl_SetupText.Sl1 : Shape := ⟨[(1, false, [.ptr 5 0]), (4, false, [.str]), (26, false, [.own 0]), (27, false, [.int .i64]), (28, false, [.int .i64])], [(5, .blk 28 [.own 0, .own 1, .own 2, .own 3, .own 4]), (0, .view false 46 Ty2), (1, .view false 48 Ty2), (2, .view false 50 Ty5), (3, .view false 52 Ty3), (4, .view false 9 .str)], 6⟩
def impl_SetupText.Sl2 : Shape := ⟨[(1, false, [.ptr 5 0]), (4, false, [.str]), (49, false, [.own 1]), (50, false, [.int .i64]), (51, false, [.int .i64])], [(5, .blk 28 [.own 0, .own 1, .own 2, .own 3, .own 4]), (0, .view false 46 Ty2), (1, .view false 48 Ty2), (2, .view false 50 Ty5), (3, .view false 52 Ty3), (4, .view false 9 .str)], 6⟩
def impl_SetupText.Sl3 : Shape := ⟨[(1, false, [.ptr 5 0]), (4, false, [.str]), (72, false, [.own 2]), (73, false, [.int .i64]), (74, false, [.int .i64])], [(5, .blk 28 [.own 0, .own 1, .own 2, .own 3, .own 4]), (0, .view false 46 Ty2), (1, .view false 48 Ty2), (2, .view false 50 Ty5), (3, .view false 52 Ty3), (4, .view false 9 .str)], 6⟩
def impl_SetupText.Sl4 : Shape := ⟨[(1, false, [.ptr 5 0]), (4, false, [.str]), (101, false, [.own 3]), (102, false, [.int .i64]), (103, false, [.int .i64])], [(5, .blk 28 [.own 0, .own 1, .own 2, .own 3, .own 4]), (0, .view false 46 Ty2), (1, .view false 48 Ty2), (2, .view false 50 Ty5), (3, .view false 52 Ty3), (4, .view false 9 .str)], 6⟩
def impl_SetupText.Sl5 : Shape := ⟨[(4, false, [.str]), (119, false, [.own 4]), (120, false, [.int .i64]), (121, false, [.int .i64])], [(4, .view false 9 .str)], 5⟩
def impl_SetupText.sig : Sig := ⟨[.val true (.pair (.sl 46 Ty2) (.pair (.sl 48 Ty2) (.pair (.sl 50 Ty5) (.pair (.sl 52 Ty3) (.sl 9 .str))))) [0, 0, 0, 0, 0]], [.val false .str [], .val false .bool []]⟩
def impl_SetupText.F : FT impl_SetupText.sig := fun k x => impl_SetupText.f k x.1
def impl_SetupText.ann : AT impl_SetupText.sig := fun k => (.seq .nil (.seq .nil (.seq .nil (.seq (.seq .nil (.block (.loop impl_SetupText.Sl1 (impl_SetupText.l1 k) fun n1 => .nil))) (.seq .nil (.seq (.seq .nil (.block (.loop impl_SetupText.Sl2 (impl_SetupText.l2 k) fun n1 => .nil))) (.seq .nil (.seq (.seq .nil (.block (.loop impl_SetupText.Sl3 (impl_SetupText.l3 k) fun n1 => .nil))) (.seq .nil (.seq (.seq .nil (.block (.loop impl_SetupText.Sl4 (impl_SetupText.l4 k) fun n1 => .nil))) (.seq (.seq .nil (.block (.loop impl_SetupText.Sl5 (impl_SetupText.l5 k) fun n1 => .nil))) .nil)))))))))))
def impl_SetupText.ent : Ent := ⟨12, impl_SetupText.sig, impl_SetupText.F⟩
def impl_SetupText.ctx (k : Nat) : Ctx := ⟨tds, [impl_SetupFault.ent, impl_numbers.ent, impl_ShortText.ent], k, 135⟩
theorem impl_SetupText.runs : RunsT impl_SetupText.sig impl_SetupText.ctx Try.f12 impl_SetupText.ann impl_SetupText.F := fun k x => by kernel_rfl
theorem impl_SetupText.obls : OblT tds impl_SetupText.sig impl_SetupText.ctx 5 Try.f12 impl_SetupText.ann := fun k => ⟨tr, ⟨⟨tr, ⟨⟨tr, tr⟩, tr⟩⟩, ⟨tr, ⟨⟨tr, ⟨⟨by kernel_rfl, fun x => by kernel_rfl⟩, fun n => ⟨fun x => by kernel_rfl, ⟨tr, ⟨⟨tr, tr⟩, ⟨⟨tr, tr⟩, tr⟩⟩⟩⟩⟩⟩, ⟨tr, ⟨⟨tr, ⟨⟨by kernel_rfl, fun x => by kernel_rfl⟩, fun n => ⟨fun x => by kernel_rfl, ⟨tr, ⟨⟨tr, tr⟩, ⟨⟨tr, tr⟩, tr⟩⟩⟩⟩⟩⟩, ⟨tr, ⟨⟨tr, ⟨⟨by kernel_rfl, fun x => by kernel_rfl⟩, fun n => ⟨fun x => by kernel_rfl, ⟨tr, ⟨⟨tr, tr⟩, ⟨⟨tr, tr⟩, tr⟩⟩⟩⟩⟩⟩, ⟨tr, ⟨⟨tr, ⟨⟨by kernel_rfl, fun x => by kernel_rfl⟩, fun n => ⟨fun x => by kernel_rfl, ⟨tr, ⟨⟨tr, tr⟩, ⟨⟨tr, tr⟩, tr⟩⟩⟩⟩⟩⟩, ⟨⟨tr, ⟨⟨by kernel_rfl, fun x => by kernel_rfl⟩, fun n => ⟨fun x => by kernel_rfl, ⟨tr, ⟨⟨tr, tr⟩, ⟨⟨tr, ⟨tr, tr⟩⟩, tr⟩⟩⟩⟩⟩⟩, ⟨tr, tr⟩⟩⟩⟩⟩⟩⟩⟩⟩⟩⟩⟩
theorem impl_SetupText.ok (k : Nat) : EntOk Try.prog k impl_SetupText.ent := fn_ok (C := impl_SetupText.ctx k) Try.func12 (by kernel_rfl) (by kernel_rfl) mixed tdsOk (.cons (impl_SetupFault.ok k) (.cons (impl_numbers.ok k) (.cons (impl_ShortText.ok k) EntsOk.nil))) (by kernel_rfl) (leB (by kernel_rfl)) (by kernel_rfl) (impl_SetupText.runs k) (impl_SetupText.obls k)
/-! loop.example/g00200/impl.ReadVar -/
def impl_ReadVar.l1 (k : Nat)  : Nat → ByteArray × Int × Int × Int × Unit → Option (Int × Int × Bool)
  | 0, _ => none
  | n + 1, (x1, x2, x3, x4, _) => if x4 < 5 then (if (w64 (x2 + x4)) < (x1.size : Int) then (if 0 ≤ w64 (x2 + x4) then (if w64 (x2 + x4) < (x1.size : Int) then (if 0 ≤ (w64 (7 * x4)) then (if 127 < (w64 (bt x1 (w64 (x2 + x4)))) then (impl_ReadVar.l1 k n (x1, x2, w64 (x3 + (w64 ((Int.tmod (w64 (bt x1 (w64 (x2 + x4)))) 128) * ((2 ^ (min (w64 (7 * x4)).toNat 64) : Nat) : Int)))), w64 (x4 + 1), ())) else (if 0 < x4 then (if (w64 (bt x1 (w64 (x2 + x4)))) = 0 then (some (0, 0, false)) else (if 1000000000 < (w64 (x3 + (w64 ((Int.tmod (w64 (bt x1 (w64 (x2 + x4)))) 128) * ((2 ^ (min (w64 (7 * x4)).toNat 64) : Nat) : Int))))) then (some (0, 0, false)) else (some (w64 (x3 + (w64 ((Int.tmod (w64 (bt x1 (w64 (x2 + x4)))) 128) * ((2 ^ (min (w64 (7 * x4)).toNat 64) : Nat) : Int)))), w64 ((w64 (x2 + x4)) + 1), true)))) else (if 1000000000 < (w64 (x3 + (w64 ((Int.tmod (w64 (bt x1 (w64 (x2 + x4)))) 128) * ((2 ^ (min (w64 (7 * x4)).toNat 64) : Nat) : Int))))) then (some (0, 0, false)) else (some (w64 (x3 + (w64 ((Int.tmod (w64 (bt x1 (w64 (x2 + x4)))) 128) * ((2 ^ (min (w64 (7 * x4)).toNat 64) : Nat) : Int)))), w64 ((w64 (x2 + x4)) + 1), true))))) else none) else none) else none) else (some (0, 0, false))) else (some (0, 0, false))
def impl_ReadVar.f (k : Nat) (a0 : ByteArray) (a1 : Int) : Option (Int × Int × Bool) :=
  (impl_within.f k a1 0 (a0.size : Int)).bind fun t1 => (if ¬ t1 = true then (some (0, 0, false)) else (impl_ReadVar.l1 k k (a0, a1, 0, 0, ())))
def impl_ReadVar.Sl1 : Shape := ⟨[(0, false, [.str]), (1, false, [.int .i64]), (7, false, [.int .i64]), (8, false, [.int .i64])], [], 0⟩
def impl_ReadVar.sig : Sig := ⟨[.val false .str [], .val false TyI []], [.val false TyI [], .val false TyI [], .val false .bool []]⟩
def impl_ReadVar.F : FT impl_ReadVar.sig := fun k x => impl_ReadVar.f k x.1 x.2.1
def impl_ReadVar.ann : AT impl_ReadVar.sig := fun k => (.seq .nil (.seq .nil (.seq .nil (.seq (.seq .nil (.block (.loop impl_ReadVar.Sl1 (impl_ReadVar.l1 k) fun n1 => .nil))) .nil))))
def impl_ReadVar.ent : Ent := ⟨79, impl_ReadVar.sig, impl_ReadVar.F⟩
def impl_ReadVar.ctx (k : Nat) : Ctx := ⟨tds, [impl_within.ent], k, 57⟩
theorem impl_ReadVar.runs : RunsT impl_ReadVar.sig impl_ReadVar.ctx Try.f79 impl_ReadVar.ann impl_ReadVar.F := fun k x => by kernel_rfl
theorem impl_ReadVar.obls : OblT tds impl_ReadVar.sig impl_ReadVar.ctx 0 Try.f79 impl_ReadVar.ann := fun k => ⟨tr, ⟨⟨tr, ⟨⟨tr, tr⟩, tr⟩⟩, ⟨tr, ⟨⟨tr, ⟨⟨by kernel_rfl, fun x => by kernel_rfl⟩, fun n => ⟨fun x => by kernel_rfl, ⟨⟨tr, ⟨tr, tr⟩⟩, ⟨⟨tr, ⟨tr, ⟨⟨tr, ⟨tr, tr⟩⟩, ⟨⟨tr, ⟨⟨tr, tr⟩, tr⟩⟩, ⟨tr, tr⟩⟩⟩⟩⟩, tr⟩⟩⟩⟩⟩, ⟨tr, tr⟩⟩⟩⟩⟩
theorem impl_ReadVar.ok (k : Nat) : EntOk Try.prog k impl_ReadVar.ent := fn_ok (C := impl_ReadVar.ctx k) Try.func79 (by kernel_rfl) (by kernel_rfl) mixed tdsOk (.cons (impl_within.ok k) EntsOk.nil) (by kernel_rfl) (leB (by kernel_rfl)) (by kernel_rfl) (impl_ReadVar.runs k) (impl_ReadVar.obls k)
/-! (*loop.example/g00200/impl.reader).number -/
def impl_reader_number.f (k : Nat) (a0 : ByteArray × Int × Bool) : Option (Int × ByteArray × Int × Bool) :=
  (impl_ReadVar.f k a0.1 a0.2.1).bind fun t1 => (if a0.2.2 = true then (some (0, (a0.1, (a0.2.1, true)))) else (if ¬ t1.2.2 = true then (some (0, (a0.1, (a0.2.1, true)))) else (some (t1.1, (a0.1, (t1.2.1, a0.2.2))))))
def impl_reader_number.sig : Sig := ⟨[.ptr 56 (.pair .str (.pair TyI .bool)) []], [.val false TyI []]⟩
def impl_reader_number.F : FT impl_reader_number.sig := fun k x => impl_reader_number.f k x.1
def impl_reader_number.ann : AT impl_reader_number.sig := fun k => .nil
def impl_reader_number.ent : Ent := ⟨57, impl_reader_number.sig, impl_reader_number.F⟩
def impl_reader_number.ctx (k : Nat) : Ctx := ⟨tds, [impl_ReadVar.ent], k, 35⟩
theorem impl_reader_number.runs : RunsT impl_reader_number.sig impl_reader_number.ctx Try.f57 impl_reader_number.ann impl_reader_number.F := fun k x => by kernel_rfl
theorem impl_reader_number.obls : OblT tds impl_reader_number.sig impl_reader_number.ctx 1 Try.f57 impl_reader_number.ann := fun k => ⟨tr, ⟨tr, ⟨⟨tr, ⟨⟨tr, ⟨tr, tr⟩⟩, tr⟩⟩, ⟨tr, ⟨tr, tr⟩⟩⟩⟩⟩
theorem impl_reader_number.ok (k : Nat) : EntOk Try.prog k impl_reader_number.ent := fn_ok (C := impl_reader_number.ctx k) Try.func57 (by kernel_rfl) (by kernel_rfl) mixed tdsOk (.cons (impl_ReadVar.ok k) EntsOk.nil) (by kernel_rfl) (leB (by kernel_rfl)) (by kernel_rfl) (impl_reader_number.runs k) (impl_reader_number.obls k)
/-! (*loop.example/g00200/impl.reader).count -/
def impl_reader_count.f (k : Nat) (a0 : ByteArray × Int × Bool) (a1 : Int) : Option (Int × ByteArray × Int × Bool) :=
  (impl_reader_number.f k a0).bind fun t1 => (if a1 < t1.1 then (some (0, (t1.2.1, (t1.2.2.1, true)))) else (some (t1.1, t1.2)))
def impl_reader_count.sig : Sig := ⟨[.ptr 56 (.pair .str (.pair TyI .bool)) [], .val false TyI []], [.val false TyI []]⟩
def impl_reader_count.F : FT impl_reader_count.sig := fun k x => impl_reader_count.f k x.1 x.2.1
def impl_reader_count.ann : AT impl_reader_count.sig := fun k => .nil
def impl_reader_count.ent : Ent := ⟨56, impl_reader_count.sig, impl_reader_count.F⟩
def impl_reader_count.ctx (k : Nat) : Ctx := ⟨tds, [impl_reader_number.ent], k, 15⟩
theorem impl_reader_count.runs : RunsT impl_reader_count.sig impl_reader_count.ctx Try.f56 impl_reader_count.ann impl_reader_count.F := fun k x => by kernel_rfl
theorem impl_reader_count.obls : OblT tds impl_reader_count.sig impl_reader_count.ctx 1 Try.f56 impl_reader_count.ann := fun k => ⟨tr, ⟨tr, ⟨⟨tr, ⟨⟨tr, ⟨tr, tr⟩⟩, tr⟩⟩, ⟨tr, tr⟩⟩⟩⟩
theorem impl_reader_count.ok (k : Nat) : EntOk Try.prog k impl_reader_count.ent := fn_ok (C := impl_reader_count.ctx k) Try.func56 (by kernel_rfl) (by kernel_rfl) mixed tdsOk (.cons (impl_reader_number.ok k) EntsOk.nil) (by kernel_rfl) (leB (by kernel_rfl)) (by kernel_rfl) (impl_reader_count.runs k) (impl_reader_count.obls k)
/-! loop.example/g00200/impl.ReadShort -/
def impl_ReadShort.f (k : Nat) (a0 : ByteArray) (a1 : Int) : Option (ByteArray × Int × Bool) :=
  (impl_ReadVar.f k a0 a1).bind fun t1 => (if ¬ t1.2.2 = true then (some ((⟨#[]⟩ : ByteArray), 0, false)) else (if 20000 < t1.1 then (some ((⟨#[]⟩ : ByteArray), 0, false)) else (if (w64 ((a0.size : Int) - t1.2.1)) < t1.1 then (some ((⟨#[]⟩ : ByteArray), 0, false)) else (if 0 ≤ t1.2.1 then (if t1.2.1 ≤ w64 (t1.2.1 + t1.1) then (if w64 (t1.2.1 + t1.1) ≤ (a0.size : Int) then (some (a0.extract t1.2.1.toNat ((w64 (t1.2.1 + t1.1)).toNat), w64 (t1.2.1 + t1.1), true)) else none) else none) else none))))
def impl_ReadShort.sig : Sig := ⟨[.val false .str [], .val false TyI []], [.val false .str [], .val false TyI [], .val false .bool []]⟩
def impl_ReadShort.F : FT impl_ReadShort.sig := fun k x => impl_ReadShort.f k x.1 x.2.1
def impl_ReadShort.ann : AT impl_ReadShort.sig := fun k => .nil
def impl_ReadShort.ent : Ent := ⟨80, impl_ReadShort.sig, impl_ReadShort.F⟩
def impl_ReadShort.ctx (k : Nat) : Ctx := ⟨tds, [impl_ReadVar.ent], k, 40⟩
theorem impl_ReadShort.runs : RunsT impl_ReadShort.sig impl_ReadShort.ctx Try.f80 impl_ReadShort.ann impl_ReadShort.F := fun k x => by kernel_rfl
theorem impl_ReadShort.obls : OblT tds impl_ReadShort.sig impl_ReadShort.ctx 0 Try.f80 impl_ReadShort.ann := fun k => ⟨tr, ⟨tr, ⟨⟨tr, ⟨⟨tr, tr⟩, tr⟩⟩, ⟨tr, tr⟩⟩⟩⟩
theorem impl_ReadShort.ok (k : Nat) : EntOk Try.prog k impl_ReadShort.ent := fn_ok (C := impl_ReadShort.ctx k) Try.func80 (by kernel_rfl) (by kernel_rfl) mixed tdsOk (.cons (impl_ReadVar.ok k) EntsOk.nil) (by kernel_rfl) (leB (by kernel_rfl)) (by kernel_rfl) (impl_ReadShort.runs k) (impl_ReadShort.obls k)
/-! (*loop.example/g00200/impl.reader).short -/
def impl_reader_short.f (k : Nat) (a0 : ByteArray × Int × Bool) : Option (ByteArray × ByteArray × Int × Bool) :=
  (impl_ReadShort.f k a0.1 a0.2.1).bind fun t1 => (if a0.2.2 = true then (some ((⟨#[]⟩ : ByteArray), (a0.1, (a0.2.1, true)))) else (if ¬ t1.2.2 = true then (some ((⟨#[]⟩ : ByteArray), (a0.1, (a0.2.1, true)))) else (some (t1.1, (a0.1, (t1.2.1, a0.2.2))))))
def impl_reader_short.sig : Sig := ⟨[.ptr 56 (.pair .str (.pair TyI .bool)) []], [.val false .str []]⟩
def impl_reader_short.F : FT impl_reader_short.sig := fun k x => impl_reader_short.f k x.1
def impl_reader_short.ann : AT impl_reader_short.sig := fun k => .nil
def impl_reader_short.ent : Ent := ⟨58, impl_reader_short.sig, impl_reader_short.F⟩
def impl_reader_short.ctx (k : Nat) : Ctx := ⟨tds, [impl_ReadShort.ent], k, 35⟩
theorem impl_reader_short.runs : RunsT impl_reader_short.sig impl_reader_short.ctx Try.f58 impl_reader_short.ann impl_reader_short.F := fun k x => by kernel_rfl
theorem impl_reader_short.obls : OblT tds impl_reader_short.sig impl_reader_short.ctx 1 Try.f58 impl_reader_short.ann := fun k => ⟨tr, ⟨tr, ⟨⟨tr, ⟨⟨tr, ⟨tr, tr⟩⟩, tr⟩⟩, ⟨tr, ⟨tr, tr⟩⟩⟩⟩⟩
theorem impl_reader_short.ok (k : Nat) : EntOk Try.prog k impl_reader_short.ent := fn_ok (C := impl_reader_short.ctx k) Try.func58 (by kernel_rfl) (by kernel_rfl) mixed tdsOk (.cons (impl_ReadShort.ok k) EntsOk.nil) (by kernel_rfl) (leB (by kernel_rfl)) (by kernel_rfl) (impl_reader_short.runs k) (impl_reader_short.obls k)
/-! (*loop.example/g00200/impl.reader).setup -/
def impl_reader_setup.l5 (k : Nat)  : Nat → Int × Int × ByteArray × Int × Bool × De2 × De2 × De5 × De3 × DeB × De2 × De2 × De5 × De3 × DeB × Unit → Option (DeS × ByteArray × Int × Bool)
  | 0, _ => none
  | n + 1, (x1, x2, x3, x4, x5, x6, x7, x8, x9, x10, x11, x12, x13, x14, x15, _) => if x2 < x1 then ((impl_reader_short.f k (x3, (x4, x5))).bind fun t25 => (((some ([t25.1] : DeB))).bind fun y26 => (if (x15.length + y26.length) * 16 ≤ 140737488355328 then (((some (x15 ++ y26))).bind fun y27 => (impl_reader_setup.l5 k n (x1, w64 (x2 + 1), t25.2.1, t25.2.2.1, t25.2.2.2, x6, x7, x8, x9, x10, x11, x12, x13, x14, y27, ()))) else none))) else (some ((x11, (x12, (x13, (x14, x15)))), (x3, (x4, x5))))
def impl_reader_setup.l4 (k : Nat)  : Nat → Int × Int × Int × ByteArray × Int × Bool × De2 × De2 × De5 × De3 × DeB × De2 × De2 × De5 × De3 × DeB × Unit → Option (DeS × ByteArray × Int × Bool)
  | 0, _ => none
  | n + 1, (x1, x2, x3, x4, x5, x6, x7, x8, x9, x10, x11, x12, x13, x14, x15, x16, _) => if x3 < x2 then ((impl_reader_number.f k (x4, (x5, x6))).bind fun t20 => ((impl_reader_number.f k t20.2).bind fun t21 => ((impl_reader_number.f k t21.2).bind fun t22 => (((some ([(t20.1, (t21.1, t22.1))] : De3))).bind fun y23 => (if (x15.length + y23.length) * 24 ≤ 140737488355328 then (((some (x15 ++ y23))).bind fun y24 => (impl_reader_setup.l4 k n (x1, x2, w64 (x3 + 1), t22.2.1, t22.2.2.1, t22.2.2.2, x7, x8, x9, x10, x11, x12, x13, x14, y24, x16, ()))) else none))))) else (impl_reader_setup.l5 k k (x1, 0, x4, x5, x6, x7, x8, x9, x10, x11, x12, x13, x14, x15, x16, ()))
def impl_reader_setup.l3 (k : Nat)  : Nat → Int × Int × Int × ByteArray × Int × Bool × De2 × De2 × De5 × De3 × DeB × De2 × De2 × De5 × De3 × DeB × Unit → Option (DeS × ByteArray × Int × Bool)
  | 0, _ => none
  | n + 1, (x1, x2, x3, x4, x5, x6, x7, x8, x9, x10, x11, x12, x13, x14, x15, x16, _) => if x3 < x2 then ((impl_reader_number.f k (x4, (x5, x6))).bind fun t12 => ((impl_reader_number.f k t12.2).bind fun t13 => ((impl_reader_number.f k t13.2).bind fun t14 => ((impl_reader_number.f k t14.2).bind fun t15 => ((impl_reader_number.f k t15.2).bind fun t16 => (((some ([(t12.1, (t13.1, (t14.1, (t15.1, t16.1))))] : De5))).bind fun y17 => (if (x14.length + y17.length) * 40 ≤ 140737488355328 then (((some (x14 ++ y17))).bind fun y18 => (impl_reader_setup.l3 k n (x1, x2, w64 (x3 + 1), t16.2.1, t16.2.2.1, t16.2.2.2, x7, x8, x9, x10, x11, x12, x13, y18, x15, x16, ()))) else none))))))) else ((impl_reader_count.f k (x4, (x5, x6)) 8).bind fun t19 => (impl_reader_setup.l4 k k (x1, t19.1, 0, t19.2.1, t19.2.2.1, t19.2.2.2, x7, x8, x9, x10, x11, x12, x13, x14, x15, x16, ())))
def impl_reader_setup.l2 (k : Nat)  : Nat → Int × Int × Int × ByteArray × Int × Bool × De2 × De2 × De5 × De3 × DeB × De2 × De2 × De5 × De3 × DeB × Unit → Option (DeS × ByteArray × Int × Bool)
  | 0, _ => none
  | n + 1, (x1, x2, x3, x4, x5, x6, x7, x8, x9, x10, x11, x12, x13, x14, x15, x16, _) => if x3 < x2 then ((impl_reader_number.f k (x4, (x5, x6))).bind fun t7 => ((impl_reader_number.f k t7.2).bind fun t8 => (((some ([(t7.1, t8.1)] : De2))).bind fun y9 => (if (x13.length + y9.length) * 16 ≤ 140737488355328 then (((some (x13 ++ y9))).bind fun y10 => (impl_reader_setup.l2 k n (x1, x2, w64 (x3 + 1), t8.2.1, t8.2.2.1, t8.2.2.2, x7, x8, x9, x10, x11, x12, y10, x14, x15, x16, ()))) else none)))) else ((impl_reader_count.f k (x4, (x5, x6)) 6).bind fun t11 => (impl_reader_setup.l3 k k (x1, t11.1, 0, t11.2.1, t11.2.2.1, t11.2.2.2, x7, x8, x9, x10, x11, x12, x13, x14, x15, x16, ())))
def impl_reader_setup.l1 (k : Nat)  : Nat → Int × Int × Int × ByteArray × Int × Bool × De2 × De2 × De5 × De3 × DeB × De2 × De2 × De5 × De3 × DeB × Unit → Option (DeS × ByteArray × Int × Bool)
  | 0, _ => none
  | n + 1, (x1, x2, x3, x4, x5, x6, x7, x8, x9, x10, x11, x12, x13, x14, x15, x16, _) => if x3 < x2 then ((impl_reader_number.f k (x4, (x5, x6))).bind fun t2 => ((impl_reader_number.f k t2.2).bind fun t3 => (((some ([(t2.1, t3.1)] : De2))).bind fun y4 => (if (x12.length + y4.length) * 16 ≤ 140737488355328 then (((some (x12 ++ y4))).bind fun y5 => (impl_reader_setup.l1 k n (x1, x2, w64 (x3 + 1), t3.2.1, t3.2.2.1, t3.2.2.2, x7, x8, x9, x10, x11, y5, x13, x14, x15, x16, ()))) else none)))) else ((impl_reader_count.f k (x4, (x5, x6)) 12).bind fun t6 => (impl_reader_setup.l2 k k (x1, t6.1, 0, t6.2.1, t6.2.2.1, t6.2.2.2, x7, x8, x9, x10, x11, x12, x13, x14, x15, x16, ())))
def impl_reader_setup.f (k : Nat) (a0 : ByteArray × Int × Bool) : Option (DeS × ByteArray × Int × Bool) :=
  (impl_reader_count.f k a0 4).bind fun t1 => (impl_reader_setup.l1 k k (t1.1, t1.1, 0, t1.2.1, t1.2.2.1, t1.2.2.2, [], [], [], [], [], [], [], [], [], [], ()))
def impl_reader_setup.Sl1 : Shape := ⟨[(0, false, [.ptr 0 0]), (2, false, [.ptr 1 0]), (3, false, [.ptr 7 0]), (4, false, [.int .i64]), (16, false, [.int .i64]), (17, false, [.int .i64])], [(0, .blk 56 [.str, .int .i64, .bool]), (1, .blk 28 [.own 2, .own 3, .own 4, .own 5, .own 6]), (7, .blk 28 [.own 8, .own 9, .own 10, .own 11, .own 12]), (2, .row 46 Ty2), (3, .row 48 Ty2), (4, .row 50 Ty5), (5, .row 52 Ty3), (6, .row 9 .str), (8, .row 46 Ty2), (9, .row 48 Ty2), (10, .row 50 Ty5), (11, .row 52 Ty3), (12, .row 9 .str)], 13⟩
def impl_reader_setup.Sl2 : Shape := ⟨[(0, false, [.ptr 0 0]), (2, false, [.ptr 1 0]), (3, false, [.ptr 7 0]), (4, false, [.int .i64]), (35, false, [.int .i64]), (36, false, [.int .i64])], [(0, .blk 56 [.str, .int .i64, .bool]), (1, .blk 28 [.own 2, .own 3, .own 4, .own 5, .own 6]), (7, .blk 28 [.own 8, .own 9, .own 10, .own 11, .own 12]), (2, .row 46 Ty2), (3, .row 48 Ty2), (4, .row 50 Ty5), (5, .row 52 Ty3), (6, .row 9 .str), (8, .row 46 Ty2), (9, .row 48 Ty2), (10, .row 50 Ty5), (11, .row 52 Ty3), (12, .row 9 .str)], 13⟩
def impl_reader_setup.Sl3 : Shape := ⟨[(0, false, [.ptr 0 0]), (2, false, [.ptr 1 0]), (3, false, [.ptr 7 0]), (4, false, [.int .i64]), (54, false, [.int .i64]), (55, false, [.int .i64])], [(0, .blk 56 [.str, .int .i64, .bool]), (1, .blk 28 [.own 2, .own 3, .own 4, .own 5, .own 6]), (7, .blk 28 [.own 8, .own 9, .own 10, .own 11, .own 12]), (2, .row 46 Ty2), (3, .row 48 Ty2), (4, .row 50 Ty5), (5, .row 52 Ty3), (6, .row 9 .str), (8, .row 46 Ty2), (9, .row 48 Ty2), (10, .row 50 Ty5), (11, .row 52 Ty3), (12, .row 9 .str)], 13⟩
def impl_reader_setup.Sl4 : Shape := ⟨[(0, false, [.ptr 0 0]), (2, false, [.ptr 1 0]), (3, false, [.ptr 7 0]), (4, false, [.int .i64]), (82, false, [.int .i64]), (83, false, [.int .i64])], [(0, .blk 56 [.str, .int .i64, .bool]), (1, .blk 28 [.own 2, .own 3, .own 4, .own 5, .own 6]), (7, .blk 28 [.own 8, .own 9, .own 10, .own 11, .own 12]), (2, .row 46 Ty2), (3, .row 48 Ty2), (4, .row 50 Ty5), (5, .row 52 Ty3), (6, .row 9 .str), (8, .row 46 Ty2), (9, .row 48 Ty2), (10, .row 50 Ty5), (11, .row 52 Ty3), (12, .row 9 .str)], 13⟩
def impl_reader_setup.Sl5 : Shape := ⟨[(0, false, [.ptr 0 0]), (2, false, [.ptr 1 0]), (3, false, [.ptr 7 0]), (102, false, [.int .i64]), (103, false, [.int .i64])], [(0, .blk 56 [.str, .int .i64, .bool]), (1, .blk 28 [.own 2, .own 3, .own 4, .own 5, .own 6]), (7, .blk 28 [.own 8, .own 9, .own 10, .own 11, .own 12]), (2, .row 46 Ty2), (3, .row 48 Ty2), (4, .row 50 Ty5), (5, .row 52 Ty3), (6, .row 9 .str), (8, .row 46 Ty2), (9, .row 48 Ty2), (10, .row 50 Ty5), (11, .row 52 Ty3), (12, .row 9 .str)], 13⟩
def impl_reader_setup.sig : Sig := ⟨[.ptr 56 (.pair .str (.pair TyI .bool)) []], [.val true (.pair (.sl 46 Ty2) (.pair (.sl 48 Ty2) (.pair (.sl 50 Ty5) (.pair (.sl 52 Ty3) (.sl 9 .str))))) [none, none, none, none, none]]⟩
def impl_reader_setup.F : FT impl_reader_setup.sig := fun k x => impl_reader_setup.f k x.1
def impl_reader_setup.ann : AT impl_reader_setup.sig := fun k => (.seq .nil (.seq .nil (.seq .nil (.seq (.seq .nil (.block (.loop impl_reader_setup.Sl1 (impl_reader_setup.l1 k) fun n1 => .nil))) (.seq .nil (.seq (.seq .nil (.block (.loop impl_reader_setup.Sl2 (impl_reader_setup.l2 k) fun n1 => .nil))) (.seq .nil (.seq (.seq .nil (.block (.loop impl_reader_setup.Sl3 (impl_reader_setup.l3 k) fun n1 => .nil))) (.seq .nil (.seq (.seq .nil (.block (.loop impl_reader_setup.Sl4 (impl_reader_setup.l4 k) fun n1 => .nil))) (.seq (.seq .nil (.block (.loop impl_reader_setup.Sl5 (impl_reader_setup.l5 k) fun n1 => .nil))) .nil)))))))))))
def impl_reader_setup.ent : Ent := ⟨19, impl_reader_setup.sig, impl_reader_setup.F⟩
def impl_reader_setup.ctx (k : Nat) : Ctx := ⟨tds, [impl_reader_count.ent, impl_reader_number.ent, impl_reader_short.ent], k, 115⟩
theorem impl_reader_setup.runs : RunsT impl_reader_setup.sig impl_reader_setup.ctx Try.f19 impl_reader_setup.ann impl_reader_setup.F := fun k x => by kernel_rfl
theorem impl_reader_setup.obls : OblT tds impl_reader_setup.sig impl_reader_setup.ctx 1 Try.f19 impl_reader_setup.ann := fun k => ⟨tr, ⟨tr, ⟨tr, ⟨⟨tr, ⟨⟨by kernel_rfl, fun x => by kernel_rfl⟩, fun n => ⟨fun x => by kernel_rfl, ⟨tr, ⟨⟨tr, tr⟩, ⟨⟨tr, ⟨tr, ⟨tr, tr⟩⟩⟩, tr⟩⟩⟩⟩⟩⟩, ⟨tr, ⟨⟨tr, ⟨⟨by kernel_rfl, fun x => by kernel_rfl⟩, fun n => ⟨fun x => by kernel_rfl, ⟨tr, ⟨⟨tr, tr⟩, ⟨⟨tr, ⟨tr, ⟨tr, tr⟩⟩⟩, tr⟩⟩⟩⟩⟩⟩, ⟨tr, ⟨⟨tr, ⟨⟨by kernel_rfl, fun x => by kernel_rfl⟩, fun n => ⟨fun x => by kernel_rfl, ⟨tr, ⟨⟨tr, tr⟩, ⟨⟨tr, ⟨tr, ⟨tr, ⟨tr, ⟨tr, ⟨tr, tr⟩⟩⟩⟩⟩⟩, tr⟩⟩⟩⟩⟩⟩, ⟨tr, ⟨⟨tr, ⟨⟨by kernel_rfl, fun x => by kernel_rfl⟩, fun n => ⟨fun x => by kernel_rfl, ⟨tr, ⟨⟨tr, tr⟩, ⟨⟨tr, ⟨tr, ⟨tr, ⟨tr, tr⟩⟩⟩⟩, tr⟩⟩⟩⟩⟩⟩, ⟨⟨tr, ⟨⟨by kernel_rfl, fun x => by kernel_rfl⟩, fun n => ⟨fun x => by kernel_rfl, ⟨tr, ⟨⟨tr, tr⟩, ⟨⟨tr, tr⟩, tr⟩⟩⟩⟩⟩⟩, ⟨tr, tr⟩⟩⟩⟩⟩⟩⟩⟩⟩⟩⟩⟩
theorem impl_reader_setup.ok (k : Nat) : EntOk Try.prog k impl_reader_setup.ent := fn_ok (C := impl_reader_setup.ctx k) Try.func19 (by kernel_rfl) (by kernel_rfl) mixed tdsOk (.cons (impl_reader_count.ok k) (.cons (impl_reader_number.ok k) (.cons (impl_reader_short.ok k) EntsOk.nil))) (by kernel_rfl) (leB (by kernel_rfl)) (by kernel_rfl) (impl_reader_setup.runs k) (impl_reader_setup.obls k)
/-! loop.example/g00200/impl.ReadSetup -/
def impl_ReadSetup.f (k : Nat) (a0 : ByteArray) : Option (DeS × Bool) :=
  (impl_reader_setup.f k (a0, (0, false))).bind fun t1 => (if t1.2.2.2 = true then (some (([], ([], ([], ([], [])))), false)) else (if ¬ t1.2.2.1 = (a0.size : Int) then (some (([], ([], ([], ([], [])))), false)) else ((impl_SetupFault.f k t1.1).bind fun t2 => (if ¬ t2 = 0 then (some (([], ([], ([], ([], [])))), false)) else (some (t1.1, true))))))
def impl_ReadSetup.sig : Sig := ⟨[.val false .str []], [.val true (.pair (.sl 46 Ty2) (.pair (.sl 48 Ty2) (.pair (.sl 50 Ty5) (.pair (.sl 52 Ty3) (.sl 9 .str))))) [none, none, none, none, none], .val false .bool []]⟩
def impl_ReadSetup.F : FT impl_ReadSetup.sig := fun k x => impl_ReadSetup.f k x.1
def impl_ReadSetup.ann : AT impl_ReadSetup.sig := fun k => .nil
def impl_ReadSetup.ent : Ent := ⟨6, impl_ReadSetup.sig, impl_ReadSetup.F⟩
def impl_ReadSetup.ctx (k : Nat) : Ctx := ⟨tds, [impl_SetupFault.ent, impl_reader_setup.ent], k, 31⟩
theorem impl_ReadSetup.runs : RunsT impl_ReadSetup.sig impl_ReadSetup.ctx Try.f6 impl_ReadSetup.ann impl_ReadSetup.F := fun k x => by kernel_rfl
theorem impl_ReadSetup.obls : OblT tds impl_ReadSetup.sig impl_ReadSetup.ctx 0 Try.f6 impl_ReadSetup.ann := fun k => ⟨tr, ⟨tr, ⟨tr, ⟨⟨tr, ⟨⟨tr, tr⟩, tr⟩⟩, ⟨tr, tr⟩⟩⟩⟩⟩
theorem impl_ReadSetup.ok (k : Nat) : EntOk Try.prog k impl_ReadSetup.ent := fn_ok (C := impl_ReadSetup.ctx k) Try.func6 (by kernel_rfl) (by kernel_rfl) mixed tdsOk (.cons (impl_SetupFault.ok k) (.cons (impl_reader_setup.ok k) EntsOk.nil)) (by kernel_rfl) (leB (by kernel_rfl)) (by kernel_rfl) (impl_ReadSetup.runs k) (impl_ReadSetup.obls k)
/-! loop.example/g00200/spec.RegionsOk -/
def spec_RegionsOk.l2 (k : Nat) (c0 : Int × De2 × Unit → Option (Bool)) : Nat → Int × Int × Int × Int × De2 × Unit → Option (Bool)
  | 0, _ => none
  | n + 1, (x1, x2, x3, x4, x5, _) => if x2 < x1 then (if 0 ≤ x2 then (if x2 < (x5.length : Int) then (if 0 ≤ x2 then (if x2 < (x5.length : Int) then (if x3 < (w64 (((el Ty2 x5 x2.toNat).1) + ((el Ty2 x5 x2.toNat).2))) then (if 0 ≤ x2 then (if x2 < (x5.length : Int) then (if ((el Ty2 x5 x2.toNat).1) < (w64 (x3 + x4)) then (some false) else (spec_RegionsOk.l2 k c0 n (x1, w64 (x2 + 1), x3, x4, x5, ()))) else none) else none) else (spec_RegionsOk.l2 k c0 n (x1, w64 (x2 + 1), x3, x4, x5, ()))) else none) else none) else none) else none) else (c0 (w64 (x1 + 1), x5, ()))
def spec_RegionsOk.l1 (k : Nat)  : Nat → Int × De2 × Unit → Option (Bool)
  | 0, _ => none
  | n + 1, (x1, x2, _) => if x1 < (x2.length : Int) then (if 0 ≤ x1 then (if x1 < (x2.length : Int) then ((spec_l01In.f k ((el Ty2 x2 x1.toNat).1) 0 63).bind fun t1 => (if ¬ t1 = true then (some false) else ((spec_l01In.f k ((el Ty2 x2 x1.toNat).2) 1 (w64 (64 - ((el Ty2 x2 x1.toNat).1)))).bind fun t2 => (if ¬ t2 = true then (some false) else (spec_RegionsOk.l2 k (spec_RegionsOk.l1 k n) k (x1, 0, (el Ty2 x2 x1.toNat).1, (el Ty2 x2 x1.toNat).2, x2, ())))))) else none) else none) else ((spec_l01In.f k (x2.length : Int) 1 4).bind fun t3 => (some t3))
def spec_RegionsOk.f (k : Nat) (a0 : De2) : Option (Bool) :=
  spec_RegionsOk.l1 k k (0, a0, ())
def spec_RegionsOk.Sl1 : Shape := ⟨[(0, false, [.own 0]), (3, false, [.int .i64])], [(0, .view false 46 Ty2)], 1⟩
def spec_RegionsOk.Sl2 : Shape := ⟨[(0, false, [.own 0]), (3, false, [.int .i64]), (4, false, [.ptr 1 0]), (5, false, [.int .i64])], [(1, .blk 46 [.int .i64, .int .i64]), (0, .view false 46 Ty2)], 2⟩
def spec_RegionsOk.sig : Sig := ⟨[.val false (.sl 46 Ty2) [0]], [.val false .bool []]⟩
def spec_RegionsOk.F : FT spec_RegionsOk.sig := fun k x => spec_RegionsOk.f k x.1
def spec_RegionsOk.ann : AT spec_RegionsOk.sig := fun k => (.seq .nil (.seq (.seq .nil (.block (.loop spec_RegionsOk.Sl1 (spec_RegionsOk.l1 k) fun n1 => (.seq .nil (.seq (.block (.seq .nil (.seq .nil (.seq .nil (.block (.loop spec_RegionsOk.Sl2 (spec_RegionsOk.l2 k (spec_RegionsOk.l1 k n1)) fun n2 => .nil)))))) .nil))))) .nil))
def spec_RegionsOk.ent : Ent := ⟨39, spec_RegionsOk.sig, spec_RegionsOk.F⟩
def spec_RegionsOk.ctx (k : Nat) : Ctx := ⟨tds, [spec_l01In.ent], k, 64⟩
theorem spec_RegionsOk.runs : RunsT spec_RegionsOk.sig spec_RegionsOk.ctx Try.f39 spec_RegionsOk.ann spec_RegionsOk.F := fun k x => by kernel_rfl
theorem spec_RegionsOk.obls : OblT tds spec_RegionsOk.sig spec_RegionsOk.ctx 1 Try.f39 spec_RegionsOk.ann := fun k => ⟨tr, ⟨⟨tr, ⟨⟨by kernel_rfl, fun x => by kernel_rfl⟩, fun n => ⟨fun x => by kernel_rfl, ⟨⟨tr, ⟨tr, tr⟩⟩, ⟨⟨tr, ⟨⟨tr, ⟨⟨tr, tr⟩, tr⟩⟩, ⟨tr, ⟨⟨by kernel_rfl, fun x => by kernel_rfl⟩, fun n => ⟨fun x => by kernel_rfl, ⟨⟨tr, ⟨tr, tr⟩⟩, ⟨⟨tr, ⟨⟨tr, tr⟩, tr⟩⟩, tr⟩⟩⟩⟩⟩⟩⟩, tr⟩⟩⟩⟩⟩, ⟨tr, tr⟩⟩⟩
theorem spec_RegionsOk.ok (k : Nat) : EntOk Try.prog k spec_RegionsOk.ent := fn_ok (C := spec_RegionsOk.ctx k) Try.func39 (by kernel_rfl) (by kernel_rfl) mixed tdsOk (.cons (spec_l01In.ok k) EntsOk.nil) (by kernel_rfl) (leB (by kernel_rfl)) (by kernel_rfl) (spec_RegionsOk.runs k) (spec_RegionsOk.obls k)
/-! loop.example/g00200/spec.PlanOk -/
def spec_PlanOk.l1 (k : Nat)  : Nat → Int × De2 × Unit → Option (Bool)
  | 0, _ => none
  | n + 1, (x1, x2, _) => if x1 < (x2.length : Int) then (if 0 ≤ x1 then (if x1 < (x2.length : Int) then ((spec_l01In.f k ((el Ty2 x2 x1.toNat).1) 1 4).bind fun t1 => (if ¬ t1 = true then (some false) else (if 0 ≤ x1 then (if x1 < (x2.length : Int) then ((spec_l01In.f k ((el Ty2 x2 x1.toNat).2) 1 200).bind fun t2 => (if ¬ t2 = true then (some false) else (spec_PlanOk.l1 k n (w64 (x1 + 1), x2, ())))) else none) else none))) else none) else none) else ((spec_l01In.f k (x2.length : Int) 1 12).bind fun t3 => (some t3))
def spec_PlanOk.f (k : Nat) (a0 : De2) : Option (Bool) :=
  spec_PlanOk.l1 k k (0, a0, ())
def spec_PlanOk.Sl1 : Shape := ⟨[(0, false, [.own 0]), (3, false, [.int .i64])], [(0, .view false 48 Ty2)], 1⟩
def spec_PlanOk.sig : Sig := ⟨[.val false (.sl 48 Ty2) [0]], [.val false .bool []]⟩
def spec_PlanOk.F : FT spec_PlanOk.sig := fun k x => spec_PlanOk.f k x.1
def spec_PlanOk.ann : AT spec_PlanOk.sig := fun k => (.seq .nil (.seq (.seq .nil (.block (.loop spec_PlanOk.Sl1 (spec_PlanOk.l1 k) fun n1 => .nil))) .nil))
def spec_PlanOk.ent : Ent := ⟨40, spec_PlanOk.sig, spec_PlanOk.F⟩
def spec_PlanOk.ctx (k : Nat) : Ctx := ⟨tds, [spec_l01In.ent], k, 29⟩
theorem spec_PlanOk.runs : RunsT spec_PlanOk.sig spec_PlanOk.ctx Try.f40 spec_PlanOk.ann spec_PlanOk.F := fun k x => by kernel_rfl
theorem spec_PlanOk.obls : OblT tds spec_PlanOk.sig spec_PlanOk.ctx 1 Try.f40 spec_PlanOk.ann := fun k => ⟨tr, ⟨⟨tr, ⟨⟨by kernel_rfl, fun x => by kernel_rfl⟩, fun n => ⟨fun x => by kernel_rfl, ⟨⟨tr, ⟨tr, tr⟩⟩, ⟨⟨tr, ⟨⟨tr, tr⟩, tr⟩⟩, tr⟩⟩⟩⟩⟩, ⟨tr, tr⟩⟩⟩
theorem spec_PlanOk.ok (k : Nat) : EntOk Try.prog k spec_PlanOk.ent := fn_ok (C := spec_PlanOk.ctx k) Try.func40 (by kernel_rfl) (by kernel_rfl) mixed tdsOk (.cons (spec_l01In.ok k) EntsOk.nil) (by kernel_rfl) (leB (by kernel_rfl)) (by kernel_rfl) (spec_PlanOk.runs k) (spec_PlanOk.obls k)
/-! loop.example/g00200/spec.PortOk -/
def spec_PortOk.f (k : Nat) (a0 : Int × Int × Int × Int × Int) : Option (Bool) :=
  (spec_l01In.f k a0.2.1 1 4).bind fun t1 => (if ¬ t1 = true then (some false) else ((spec_l01In.f k a0.2.2.1 1 4).bind fun t2 => (if ¬ t2 = true then (some false) else (if a0.2.1 = a0.2.2.1 then (some false) else (if a0.1 = 1 then ((spec_l01In.f k a0.2.2.2.1 1 6).bind fun t3 => (if t3 = true then (some (decide (a0.2.2.2.2 = 0))) else (some false))) else (if a0.1 = 2 then (if a0.2.2.2.1 = 1 then ((spec_l01In.f k a0.2.2.2.2 1 100).bind fun t4 => (some t4)) else (some false)) else (some false)))))))
def spec_PortOk.sig : Sig := ⟨[.val true Ty5 []], [.val false .bool []]⟩
def spec_PortOk.F : FT spec_PortOk.sig := fun k x => spec_PortOk.f k x.1
def spec_PortOk.ann : AT spec_PortOk.sig := fun k => .nil
def spec_PortOk.ent : Ent := ⟨41, spec_PortOk.sig, spec_PortOk.F⟩
def spec_PortOk.ctx (k : Nat) : Ctx := ⟨tds, [spec_l01In.ent], k, 44⟩
theorem spec_PortOk.runs : RunsT spec_PortOk.sig spec_PortOk.ctx Try.f41 spec_PortOk.ann spec_PortOk.F := fun k x => by kernel_rfl
theorem spec_PortOk.obls : OblT tds spec_PortOk.sig spec_PortOk.ctx 0 Try.f41 spec_PortOk.ann := fun k => ⟨tr, ⟨⟨tr, ⟨⟨tr, tr⟩, tr⟩⟩, ⟨⟨tr, ⟨⟨tr, tr⟩, tr⟩⟩, ⟨tr, tr⟩⟩⟩⟩
theorem spec_PortOk.ok (k : Nat) : EntOk Try.prog k spec_PortOk.ent := fn_ok (C := spec_PortOk.ctx k) Try.func41 (by kernel_rfl) (by kernel_rfl) mixed tdsOk (.cons (spec_l01In.ok k) EntsOk.nil) (by kernel_rfl) (leB (by kernel_rfl)) (by kernel_rfl) (spec_PortOk.runs k) (spec_PortOk.obls k)
/-! loop.example/g00200/spec.ReadCode -/
def spec_ReadCode.l1 (k : Nat)  : Nat → ByteArray × Int × De2 × Unit → Option (De2 × Bool)
  | 0, _ => none
  | n + 1, (x1, x2, x3, _) => if x2 < (x1.size : Int) then (if 0 ≤ x2 then (if x2 < (x1.size : Int) then (if 0 ≤ w64 (x2 + 1) then (if w64 (x2 + 1) < (x1.size : Int) then (((some ([(w64 (bt x1 x2), w64 (bt x1 (w64 (x2 + 1))))] : De2))).bind fun y2 => (if (x3.length + y2.length) * 16 ≤ 140737488355328 then (((some (x3 ++ y2))).bind fun y3 => (spec_ReadCode.l1 k n (x1, w64 (x2 + 2), y3, ()))) else none)) else none) else none) else none) else none) else (some (x3, true))
def spec_ReadCode.f (k : Nat) (a0 : ByteArray) : Option (De2 × Bool) :=
  ((some ([] : De2))).bind fun y1 => (if ¬ (Int.tmod (a0.size : Int) 2) = 0 then (some (y1, false)) else (if 120 < (a0.size : Int) then (some (y1, false)) else (spec_ReadCode.l1 k k (a0, 0, y1, ()))))
def spec_ReadCode.Sl1 : Shape := ⟨[(0, false, [.str]), (4, false, [.own 0]), (5, false, [.int .i64])], [(0, .row 108 Ty2)], 1⟩
def spec_ReadCode.sig : Sig := ⟨[.val false .str []], [.val false (.sl 108 Ty2) [none], .val false .bool []]⟩
def spec_ReadCode.F : FT spec_ReadCode.sig := fun k x => spec_ReadCode.f k x.1
def spec_ReadCode.ann : AT spec_ReadCode.sig := fun k => (.seq .nil (.seq .nil (.seq .nil (.seq (.seq .nil (.block (.loop spec_ReadCode.Sl1 (spec_ReadCode.l1 k) fun n1 => .nil))) .nil))))
def spec_ReadCode.ent : Ent := ⟨43, spec_ReadCode.sig, spec_ReadCode.F⟩
def spec_ReadCode.ctx (k : Nat) : Ctx := ⟨tds, [], k, 37⟩
theorem spec_ReadCode.runs : RunsT spec_ReadCode.sig spec_ReadCode.ctx Try.f43 spec_ReadCode.ann spec_ReadCode.F := fun k x => by kernel_rfl
theorem spec_ReadCode.obls : OblT tds spec_ReadCode.sig spec_ReadCode.ctx 0 Try.f43 spec_ReadCode.ann := fun k => ⟨tr, ⟨tr, ⟨⟨tr, ⟨⟨tr, tr⟩, tr⟩⟩, ⟨⟨tr, ⟨⟨by kernel_rfl, fun x => by kernel_rfl⟩, fun n => ⟨fun x => by kernel_rfl, ⟨⟨tr, ⟨tr, tr⟩⟩, ⟨tr, tr⟩⟩⟩⟩⟩, ⟨tr, tr⟩⟩⟩⟩⟩
theorem spec_ReadCode.ok (k : Nat) : EntOk Try.prog k spec_ReadCode.ent := fn_ok (C := spec_ReadCode.ctx k) Try.func43 (by kernel_rfl) (by kernel_rfl) mixed tdsOk EntsOk.nil (by kernel_rfl) (leB (by kernel_rfl)) (by kernel_rfl) (spec_ReadCode.runs k) (spec_ReadCode.obls k)
/-! loop.example/g00200/spec.l11Parts -/
def spec_l11Parts.l3 (k : Nat)  : Nat → Int × Int × De2 × De2 × De5 × De3 × DeB × Unit → Option (Int)
  | 0, _ => none
  | n + 1, (x1, x2, x3, x4, x5, x6, x7, _) => if x2 < (x6.length : Int) then (if 0 ≤ x2 then (if x2 < (x6.length : Int) then (if x1 < ((el Ty3 x6 x2.toNat).1) then (some 6) else (spec_l11Parts.l3 k n (x1, w64 (x2 + 1), x3, x4, x5, x6, x7, ()))) else none) else none) else (some 0)
def spec_l11Parts.l2 (k : Nat)  : Nat → Int × Int × De2 × De2 × De5 × De3 × DeB × Unit → Option (Int)
  | 0, _ => none
  | n + 1, (x1, x2, x3, x4, x5, x6, x7, _) => if x2 < (x5.length : Int) then (if 0 ≤ x2 then (if x2 < (x5.length : Int) then (if x1 < (((el Ty5 x5 x2.toNat).2).1) then (some 6) else (if 0 ≤ x2 then (if x2 < (x5.length : Int) then (if x1 < ((((el Ty5 x5 x2.toNat).2).2).1) then (some 6) else (spec_l11Parts.l2 k n (x1, w64 (x2 + 1), x3, x4, x5, x6, x7, ()))) else none) else none)) else none) else none) else (spec_l11Parts.l3 k k (x1, 0, x3, x4, x5, x6, x7, ()))
def spec_l11Parts.l1 (k : Nat)  : Nat → Int × Int × De2 × De2 × De5 × De3 × DeB × Unit → Option (Int)
  | 0, _ => none
  | n + 1, (x1, x2, x3, x4, x5, x6, x7, _) => if x2 < (x4.length : Int) then (if 0 ≤ x2 then (if x2 < (x4.length : Int) then (if x1 < ((el Ty2 x4 x2.toNat).1) then (some 6) else (spec_l11Parts.l1 k n (x1, w64 (x2 + 1), x3, x4, x5, x6, x7, ()))) else none) else none) else (spec_l11Parts.l2 k k (x1, 0, x3, x4, x5, x6, x7, ()))
def spec_l11Parts.f (k : Nat) (a0 : De2 × De2 × De5 × De3 × DeB) : Option (Int) :=
  spec_l11Parts.l1 k k ((a0.1.length : Int), 0, a0.1, a0.2.1, a0.2.2.1, a0.2.2.2.1, a0.2.2.2.2, ())
def spec_l11Parts.Sl1 : Shape := ⟨[(1, false, [.ptr 5 0]), (3, false, [.int .i64]), (4, false, [.int .i64])], [(5, .blk 28 [.own 0, .own 1, .own 2, .own 3, .own 4]), (0, .view false 46 Ty2), (1, .view false 48 Ty2), (2, .view false 50 Ty5), (3, .view false 52 Ty3), (4, .view false 9 .str)], 6⟩
def spec_l11Parts.Sl2 : Shape := ⟨[(1, false, [.ptr 5 0]), (3, false, [.int .i64]), (5, false, [.int .i64])], [(5, .blk 28 [.own 0, .own 1, .own 2, .own 3, .own 4]), (0, .view false 46 Ty2), (1, .view false 48 Ty2), (2, .view false 50 Ty5), (3, .view false 52 Ty3), (4, .view false 9 .str)], 6⟩
def spec_l11Parts.Sl3 : Shape := ⟨[(1, false, [.ptr 5 0]), (3, false, [.int .i64]), (6, false, [.int .i64])], [(5, .blk 28 [.own 0, .own 1, .own 2, .own 3, .own 4]), (0, .view false 46 Ty2), (1, .view false 48 Ty2), (2, .view false 50 Ty5), (3, .view false 52 Ty3), (4, .view false 9 .str)], 6⟩
def spec_l11Parts.sig : Sig := ⟨[.val true (.pair (.sl 46 Ty2) (.pair (.sl 48 Ty2) (.pair (.sl 50 Ty5) (.pair (.sl 52 Ty3) (.sl 9 .str))))) [0, 0, 0, 0, 0]], [.val false TyI []]⟩
def spec_l11Parts.F : FT spec_l11Parts.sig := fun k x => spec_l11Parts.f k x.1
def spec_l11Parts.ann : AT spec_l11Parts.sig := fun k => (.seq .nil (.seq .nil (.seq (.seq .nil (.block (.loop spec_l11Parts.Sl1 (spec_l11Parts.l1 k) fun n1 => .nil))) (.seq (.seq .nil (.block (.loop spec_l11Parts.Sl2 (spec_l11Parts.l2 k) fun n1 => .nil))) (.seq (.seq .nil (.block (.loop spec_l11Parts.Sl3 (spec_l11Parts.l3 k) fun n1 => .nil))) .nil)))))
def spec_l11Parts.ent : Ent := ⟨44, spec_l11Parts.sig, spec_l11Parts.F⟩
def spec_l11Parts.ctx (k : Nat) : Ctx := ⟨tds, [], k, 65⟩
theorem spec_l11Parts.runs : RunsT spec_l11Parts.sig spec_l11Parts.ctx Try.f44 spec_l11Parts.ann spec_l11Parts.F := fun k x => by kernel_rfl
theorem spec_l11Parts.obls : OblT tds spec_l11Parts.sig spec_l11Parts.ctx 5 Try.f44 spec_l11Parts.ann := fun k => ⟨tr, ⟨tr, ⟨⟨tr, ⟨⟨by kernel_rfl, fun x => by kernel_rfl⟩, fun n => ⟨fun x => by kernel_rfl, ⟨⟨tr, ⟨tr, tr⟩⟩, ⟨⟨tr, ⟨⟨tr, tr⟩, tr⟩⟩, tr⟩⟩⟩⟩⟩, ⟨⟨tr, ⟨⟨by kernel_rfl, fun x => by kernel_rfl⟩, fun n => ⟨fun x => by kernel_rfl, ⟨⟨tr, ⟨tr, tr⟩⟩, ⟨⟨tr, ⟨⟨tr, tr⟩, tr⟩⟩, tr⟩⟩⟩⟩⟩, ⟨⟨tr, ⟨⟨by kernel_rfl, fun x => by kernel_rfl⟩, fun n => ⟨fun x => by kernel_rfl, ⟨⟨tr, ⟨tr, tr⟩⟩, ⟨⟨tr, ⟨⟨tr, tr⟩, tr⟩⟩, tr⟩⟩⟩⟩⟩, ⟨tr, tr⟩⟩⟩⟩⟩⟩
theorem spec_l11Parts.ok (k : Nat) : EntOk Try.prog k spec_l11Parts.ent := fn_ok (C := spec_l11Parts.ctx k) Try.func44 (by kernel_rfl) (by kernel_rfl) mixed tdsOk EntsOk.nil (by kernel_rfl) (leB (by kernel_rfl)) (by kernel_rfl) (spec_l11Parts.runs k) (spec_l11Parts.obls k)
/-! loop.example/g00200/spec.SetupFault -/
def spec_SetupFault.l2 (k : Nat)  : Nat → Int × De2 × De2 × De5 × De3 × DeB × Unit → Option (Int)
  | 0, _ => none
  | n + 1, (x1, x2, x3, x4, x5, x6, _) => if x1 < (x6.length : Int) then (if 0 ≤ x1 then (if x1 < (x6.length : Int) then ((spec_ReadCode.f k (el .str x6 x1.toNat)).bind fun t5 => (if ¬ t5.2 = true then (some 5) else (spec_SetupFault.l2 k n (w64 (x1 + 1), x2, x3, x4, x5, x6, ())))) else none) else none) else ((spec_l11Parts.f k (x2, (x3, (x4, (x5, x6))))).bind fun t6 => (some t6))
def spec_SetupFault.l1 (k : Nat)  : Nat → Int × De2 × De2 × De5 × De3 × DeB × Unit → Option (Int)
  | 0, _ => none
  | n + 1, (x1, x2, x3, x4, x5, x6, _) => if x1 < (x4.length : Int) then (if 0 ≤ x1 then (if x1 < (x4.length : Int) then ((spec_PortOk.f k ((el Ty5 x4 x1.toNat).1, (((el Ty5 x4 x1.toNat).2).1, ((((el Ty5 x4 x1.toNat).2).2).1, ((((el Ty5 x4 x1.toNat).2).2).2))))).bind fun t3 => (if ¬ t3 = true then (some 3) else (if 6 ≤ x1 then (some 3) else (spec_SetupFault.l1 k n (w64 (x1 + 1), x2, x3, x4, x5, x6, ()))))) else none) else none) else ((spec_RulesOk.f k x5).bind fun t4 => (if ¬ t4 = true then (some 4) else (if ¬ (x6.length : Int) = (x2.length : Int) then (some 5) else (spec_SetupFault.l2 k k (0, x2, x3, x4, x5, x6, ())))))
def spec_SetupFault.f (k : Nat) (a0 : De2 × De2 × De5 × De3 × DeB) : Option (Int) :=
  (spec_RegionsOk.f k a0.1).bind fun t1 => (if ¬ t1 = true then (some 1) else ((spec_PlanOk.f k a0.2.1).bind fun t2 => (if ¬ t2 = true then (some 2) else (spec_SetupFault.l1 k k (0, a0.1, a0.2.1, a0.2.2.1, a0.2.2.2.1, a0.2.2.2.2, ())))))
def spec_SetupFault.Sl1 : Shape := ⟨[(1, false, [.ptr 5 0]), (3, false, [.int .i64])], [(5, .blk 28 [.own 0, .own 1, .own 2, .own 3, .own 4]), (0, .view false 46 Ty2), (1, .view false 48 Ty2), (2, .view false 50 Ty5), (3, .view false 52 Ty3), (4, .view false 9 .str)], 6⟩
def spec_SetupFault.Sl2 : Shape := ⟨[(1, false, [.ptr 5 0]), (4, false, [.int .i64])], [(5, .blk 28 [.own 0, .own 1, .own 2, .own 3, .own 4]), (0, .view false 46 Ty2), (1, .view false 48 Ty2), (2, .view false 50 Ty5), (3, .view false 52 Ty3), (4, .view false 9 .str)], 6⟩
def spec_SetupFault.sig : Sig := ⟨[.val true (.pair (.sl 46 Ty2) (.pair (.sl 48 Ty2) (.pair (.sl 50 Ty5) (.pair (.sl 52 Ty3) (.sl 9 .str))))) [0, 0, 0, 0, 0]], [.val false TyI []]⟩
def spec_SetupFault.F : FT spec_SetupFault.sig := fun k x => spec_SetupFault.f k x.1
def spec_SetupFault.ann : AT spec_SetupFault.sig := fun k => (.seq .nil (.seq .nil (.seq .nil (.seq (.seq .nil (.block (.loop spec_SetupFault.Sl1 (spec_SetupFault.l1 k) fun n1 => .nil))) (.seq .nil (.seq .nil (.seq (.seq .nil (.block (.loop spec_SetupFault.Sl2 (spec_SetupFault.l2 k) fun n1 => .nil))) .nil)))))))
def spec_SetupFault.ent : Ent := ⟨13, spec_SetupFault.sig, spec_SetupFault.F⟩
def spec_SetupFault.ctx (k : Nat) : Ctx := ⟨tds, [spec_RegionsOk.ent, spec_PlanOk.ent, spec_PortOk.ent, spec_RulesOk.ent, spec_ReadCode.ent, spec_l11Parts.ent], k, 64⟩
theorem spec_SetupFault.runs : RunsT spec_SetupFault.sig spec_SetupFault.ctx Try.f13 spec_SetupFault.ann spec_SetupFault.F := fun k x => by kernel_rfl
theorem spec_SetupFault.obls : OblT tds spec_SetupFault.sig spec_SetupFault.ctx 5 Try.f13 spec_SetupFault.ann := fun k => ⟨tr, ⟨⟨tr, ⟨⟨tr, tr⟩, tr⟩⟩, ⟨⟨tr, ⟨⟨tr, tr⟩, tr⟩⟩, ⟨⟨tr, ⟨⟨by kernel_rfl, fun x => by kernel_rfl⟩, fun n => ⟨fun x => by kernel_rfl, ⟨⟨tr, ⟨tr, tr⟩⟩, ⟨⟨tr, ⟨⟨tr, tr⟩, tr⟩⟩, tr⟩⟩⟩⟩⟩, ⟨⟨tr, ⟨⟨tr, tr⟩, tr⟩⟩, ⟨⟨tr, ⟨⟨tr, tr⟩, tr⟩⟩, ⟨⟨tr, ⟨⟨by kernel_rfl, fun x => by kernel_rfl⟩, fun n => ⟨fun x => by kernel_rfl, ⟨⟨tr, ⟨tr, tr⟩⟩, ⟨⟨tr, ⟨tr, ⟨⟨tr, tr⟩, tr⟩⟩⟩, tr⟩⟩⟩⟩⟩, ⟨tr, tr⟩⟩⟩⟩⟩⟩⟩⟩
theorem spec_SetupFault.ok (k : Nat) : EntOk Try.prog k spec_SetupFault.ent := fn_ok (C := spec_SetupFault.ctx k) Try.func13 (by kernel_rfl) (by kernel_rfl) mixed tdsOk (.cons (spec_RegionsOk.ok k) (.cons (spec_PlanOk.ok k) (.cons (spec_PortOk.ok k) (.cons (spec_RulesOk.ok k) (.cons (spec_ReadCode.ok k) (.cons (spec_l11Parts.ok k) EntsOk.nil)))))) (by kernel_rfl) (leB (by kernel_rfl)) (by kernel_rfl) (spec_SetupFault.runs k) (spec_SetupFault.obls k)
/-! loop.example/g00200/spec.l01Var -/
def spec_l01Var.l1 (k : Nat)  : Nat → Int × DeI × Unit → Option (ByteArray)
  | 0, _ => none
  | n + 1, (x1, x2, _) => if 127 < x1 then (((some ([IntKind.u8.wrap (w64 ((Int.tmod x1 128) + 128))] : DeI))).bind fun y2 => (if (x2.length + y2.length) * 1 ≤ 140737488355328 then (((some (x2 ++ y2))).bind fun y3 => (spec_l01Var.l1 k n (w64 (Int.tdiv x1 128), y3, ()))) else none)) else (((some ([IntKind.u8.wrap (x1)] : DeI))).bind fun y4 => (if (x2.length + y4.length) * 1 ≤ 140737488355328 then (((some (x2 ++ y4))).bind fun y5 => (some (chrs y5))) else none))
def spec_l01Var.f (k : Nat) (a0 : Int) : Option (ByteArray) :=
  ((some ([] : DeI))).bind fun y1 => (spec_l01Var.l1 k k (a0, y1, ()))
def spec_l01Var.Sl1 : Shape := ⟨[(0, false, [.int .i64]), (3, false, [.own 0])], [(0, .row 5 (.int .u8))], 1⟩
def spec_l01Var.sig : Sig := ⟨[.val false TyI []], [.val false .str []]⟩
def spec_l01Var.F : FT spec_l01Var.sig := fun k x => spec_l01Var.f k x.1
def spec_l01Var.ann : AT spec_l01Var.sig := fun k => (.seq .nil (.seq .nil (.seq (.block (.loop spec_l01Var.Sl1 (spec_l01Var.l1 k) fun n1 => .nil)) .nil)))
def spec_l01Var.ent : Ent := ⟨55, spec_l01Var.sig, spec_l01Var.F⟩
def spec_l01Var.ctx (k : Nat) : Ctx := ⟨tds, [], k, 22⟩
theorem spec_l01Var.runs : RunsT spec_l01Var.sig spec_l01Var.ctx Try.f55 spec_l01Var.ann spec_l01Var.F := fun k x => by kernel_rfl
theorem spec_l01Var.obls : OblT tds spec_l01Var.sig spec_l01Var.ctx 0 Try.f55 spec_l01Var.ann := fun k => ⟨tr, ⟨tr, ⟨⟨⟨by kernel_rfl, fun x => by kernel_rfl⟩, fun n => ⟨fun x => by kernel_rfl, ⟨⟨tr, ⟨tr, tr⟩⟩, ⟨tr, tr⟩⟩⟩⟩, ⟨tr, tr⟩⟩⟩⟩
theorem spec_l01Var.ok (k : Nat) : EntOk Try.prog k spec_l01Var.ent := fn_ok (C := spec_l01Var.ctx k) Try.func55 (by kernel_rfl) (by kernel_rfl) mixed tdsOk EntsOk.nil (by kernel_rfl) (leB (by kernel_rfl)) (by kernel_rfl) (spec_l01Var.runs k) (spec_l01Var.obls k)
/-! loop.example/g00200/spec.SetupText -/
def spec_SetupText.l5 (k : Nat)  : Nat → ByteArray × Int × De2 × De2 × De5 × De3 × DeB × Unit → Option (ByteArray × Bool)
  | 0, _ => none
  | n + 1, (x1, x2, x3, x4, x5, x6, x7, _) => if x2 < (x7.length : Int) then (if 0 ≤ x2 then (if x2 < (x7.length : Int) then ((spec_l01Var.f k ((el .str x7 x2.toNat).size : Int)).bind fun t18 => (if x1.size + t18.size ≤ 9223372036854775807 then (if 0 ≤ x2 then (if x2 < (x7.length : Int) then (if (x1 ++ t18).size + (el .str x7 x2.toNat).size ≤ 9223372036854775807 then (spec_SetupText.l5 k n ((x1 ++ t18) ++ (el .str x7 x2.toNat), w64 (x2 + 1), x3, x4, x5, x6, x7, ())) else none) else none) else none) else none)) else none) else none) else (some (x1, true))
def spec_SetupText.l4 (k : Nat)  : Nat → ByteArray × Int × De2 × De2 × De5 × De3 × DeB × Unit → Option (ByteArray × Bool)
  | 0, _ => none
  | n + 1, (x1, x2, x3, x4, x5, x6, x7, _) => if x2 < (x6.length : Int) then (if 0 ≤ x2 then (if x2 < (x6.length : Int) then ((spec_l01Var.f k ((el Ty3 x6 x2.toNat).1)).bind fun t15 => (if x1.size + t15.size ≤ 9223372036854775807 then (if 0 ≤ x2 then (if x2 < (x6.length : Int) then ((spec_l01Var.f k (((el Ty3 x6 x2.toNat).2).1)).bind fun t16 => (if (x1 ++ t15).size + t16.size ≤ 9223372036854775807 then (if 0 ≤ x2 then (if x2 < (x6.length : Int) then ((spec_l01Var.f k (((el Ty3 x6 x2.toNat).2).2)).bind fun t17 => (if ((x1 ++ t15) ++ t16).size + t17.size ≤ 9223372036854775807 then (spec_SetupText.l4 k n (((x1 ++ t15) ++ t16) ++ t17, w64 (x2 + 1), x3, x4, x5, x6, x7, ())) else none)) else none) else none) else none)) else none) else none) else none)) else none) else none) else (spec_SetupText.l5 k k (x1, 0, x3, x4, x5, x6, x7, ()))
def spec_SetupText.l3 (k : Nat)  : Nat → ByteArray × Int × De2 × De2 × De5 × De3 × DeB × Unit → Option (ByteArray × Bool)
  | 0, _ => none
  | n + 1, (x1, x2, x3, x4, x5, x6, x7, _) => if x2 < (x5.length : Int) then (if 0 ≤ x2 then (if x2 < (x5.length : Int) then ((spec_l01Var.f k ((el Ty5 x5 x2.toNat).1)).bind fun t9 => (if x1.size + t9.size ≤ 9223372036854775807 then ((spec_l01Var.f k (((el Ty5 x5 x2.toNat).2).1)).bind fun t10 => (if (x1 ++ t9).size + t10.size ≤ 9223372036854775807 then ((spec_l01Var.f k ((((el Ty5 x5 x2.toNat).2).2).1)).bind fun t11 => (if ((x1 ++ t9) ++ t10).size + t11.size ≤ 9223372036854775807 then ((spec_l01Var.f k (((((el Ty5 x5 x2.toNat).2).2).2).1)).bind fun t12 => (if (((x1 ++ t9) ++ t10) ++ t11).size + t12.size ≤ 9223372036854775807 then ((spec_l01Var.f k (((((el Ty5 x5 x2.toNat).2).2).2).2)).bind fun t13 => (if ((((x1 ++ t9) ++ t10) ++ t11) ++ t12).size + t13.size ≤ 9223372036854775807 then (spec_SetupText.l3 k n (((((x1 ++ t9) ++ t10) ++ t11) ++ t12) ++ t13, w64 (x2 + 1), x3, x4, x5, x6, x7, ())) else none)) else none)) else none)) else none)) else none)) else none) else none) else ((spec_l01Var.f k (x6.length : Int)).bind fun t14 => (if x1.size + t14.size ≤ 9223372036854775807 then (spec_SetupText.l4 k k (x1 ++ t14, 0, x3, x4, x5, x6, x7, ())) else none))
def spec_SetupText.l2 (k : Nat)  : Nat → ByteArray × Int × De2 × De2 × De5 × De3 × DeB × Unit → Option (ByteArray × Bool)
  | 0, _ => none
  | n + 1, (x1, x2, x3, x4, x5, x6, x7, _) => if x2 < (x4.length : Int) then (if 0 ≤ x2 then (if x2 < (x4.length : Int) then ((spec_l01Var.f k ((el Ty2 x4 x2.toNat).1)).bind fun t6 => (if x1.size + t6.size ≤ 9223372036854775807 then (if 0 ≤ x2 then (if x2 < (x4.length : Int) then ((spec_l01Var.f k ((el Ty2 x4 x2.toNat).2)).bind fun t7 => (if (x1 ++ t6).size + t7.size ≤ 9223372036854775807 then (spec_SetupText.l2 k n ((x1 ++ t6) ++ t7, w64 (x2 + 1), x3, x4, x5, x6, x7, ())) else none)) else none) else none) else none)) else none) else none) else ((spec_l01Var.f k (x5.length : Int)).bind fun t8 => (if x1.size + t8.size ≤ 9223372036854775807 then (spec_SetupText.l3 k k (x1 ++ t8, 0, x3, x4, x5, x6, x7, ())) else none))
def spec_SetupText.l1 (k : Nat)  : Nat → ByteArray × Int × De2 × De2 × De5 × De3 × DeB × Unit → Option (ByteArray × Bool)
  | 0, _ => none
  | n + 1, (x1, x2, x3, x4, x5, x6, x7, _) => if x2 < (x3.length : Int) then (if 0 ≤ x2 then (if x2 < (x3.length : Int) then ((spec_l01Var.f k ((el Ty2 x3 x2.toNat).1)).bind fun t3 => (if x1.size + t3.size ≤ 9223372036854775807 then (if 0 ≤ x2 then (if x2 < (x3.length : Int) then ((spec_l01Var.f k ((el Ty2 x3 x2.toNat).2)).bind fun t4 => (if (x1 ++ t3).size + t4.size ≤ 9223372036854775807 then (spec_SetupText.l1 k n ((x1 ++ t3) ++ t4, w64 (x2 + 1), x3, x4, x5, x6, x7, ())) else none)) else none) else none) else none)) else none) else none) else ((spec_l01Var.f k (x4.length : Int)).bind fun t5 => (if x1.size + t5.size ≤ 9223372036854775807 then (spec_SetupText.l2 k k (x1 ++ t5, 0, x3, x4, x5, x6, x7, ())) else none))
def spec_SetupText.f (k : Nat) (a0 : De2 × De2 × De5 × De3 × DeB) : Option (ByteArray × Bool) :=
  (spec_SetupFault.f k a0).bind fun t1 => (if ¬ t1 = 0 then (some ((⟨#[]⟩ : ByteArray), false)) else ((spec_l01Var.f k (a0.1.length : Int)).bind fun t2 => (spec_SetupText.l1 k k (t2, 0, a0.1, a0.2.1, a0.2.2.1, a0.2.2.2.1, a0.2.2.2.2, ()))))
def spec_SetupText.Sl1 : Shape := ⟨[(1, false, [.ptr 5 0]), (4, false, [.str]), (5, false, [.int .i64])], [(5, .blk 28 [.own 0, .own 1, .own 2, .own 3, .own 4]), (0, .view false 46 Ty2), (1, .view false 48 Ty2), (2, .view false 50 Ty5), (3, .view false 52 Ty3), (4, .view false 9 .str)], 6⟩
def spec_SetupText.Sl2 : Shape := ⟨[(1, false, [.ptr 5 0]), (4, false, [.str]), (6, false, [.int .i64])], [(5, .blk 28 [.own 0, .own 1, .own 2, .own 3, .own 4]), (0, .view false 46 Ty2), (1, .view false 48 Ty2), (2, .view false 50 Ty5), (3, .view false 52 Ty3), (4, .view false 9 .str)], 6⟩
def spec_SetupText.Sl3 : Shape := ⟨[(1, false, [.ptr 5 0]), (4, false, [.str]), (7, false, [.int .i64])], [(5, .blk 28 [.own 0, .own 1, .own 2, .own 3, .own 4]), (0, .view false 46 Ty2), (1, .view false 48 Ty2), (2, .view false 50 Ty5), (3, .view false 52 Ty3), (4, .view false 9 .str)], 6⟩
def spec_SetupText.Sl4 : Shape := ⟨[(1, false, [.ptr 5 0]), (4, false, [.str]), (9, false, [.int .i64])], [(5, .blk 28 [.own 0, .own 1, .own 2, .own 3, .own 4]), (0, .view false 46 Ty2), (1, .view false 48 Ty2), (2, .view false 50 Ty5), (3, .view false 52 Ty3), (4, .view false 9 .str)], 6⟩
def spec_SetupText.Sl5 : Shape := ⟨[(1, false, [.ptr 5 0]), (4, false, [.str]), (10, false, [.int .i64])], [(5, .blk 28 [.own 0, .own 1, .own 2, .own 3, .own 4]), (0, .view false 46 Ty2), (1, .view false 48 Ty2), (2, .view false 50 Ty5), (3, .view false 52 Ty3), (4, .view false 9 .str)], 6⟩
def spec_SetupText.sig : Sig := ⟨[.val true (.pair (.sl 46 Ty2) (.pair (.sl 48 Ty2) (.pair (.sl 50 Ty5) (.pair (.sl 52 Ty3) (.sl 9 .str))))) [0, 0, 0, 0, 0]], [.val false .str [], .val false .bool []]⟩
def spec_SetupText.F : FT spec_SetupText.sig := fun k x => spec_SetupText.f k x.1
def spec_SetupText.ann : AT spec_SetupText.sig := fun k => (.seq .nil (.seq .nil (.seq .nil (.seq (.seq .nil (.block (.loop spec_SetupText.Sl1 (spec_SetupText.l1 k) fun n1 => .nil))) (.seq .nil (.seq (.seq .nil (.block (.loop spec_SetupText.Sl2 (spec_SetupText.l2 k) fun n1 => .nil))) (.seq .nil (.seq (.seq .nil (.block (.loop spec_SetupText.Sl3 (spec_SetupText.l3 k) fun n1 => .nil))) (.seq .nil (.seq (.seq .nil (.block (.loop spec_SetupText.Sl4 (spec_SetupText.l4 k) fun n1 => .nil))) (.seq (.seq .nil (.block (.loop spec_SetupText.Sl5 (spec_SetupText.l5 k) fun n1 => .nil))) .nil)))))))))))
def spec_SetupText.ent : Ent := ⟨18, spec_SetupText.sig, spec_SetupText.F⟩
def spec_SetupText.ctx (k : Nat) : Ctx := ⟨tds, [spec_SetupFault.ent, spec_l01Var.ent], k, 172⟩
theorem spec_SetupText.runs : RunsT spec_SetupText.sig spec_SetupText.ctx Try.f18 spec_SetupText.ann spec_SetupText.F := fun k x => by kernel_rfl
theorem spec_SetupText.obls : OblT tds spec_SetupText.sig spec_SetupText.ctx 5 Try.f18 spec_SetupText.ann := fun k => ⟨tr, ⟨⟨tr, ⟨⟨tr, tr⟩, tr⟩⟩, ⟨tr, ⟨⟨tr, ⟨⟨by kernel_rfl, fun x => by kernel_rfl⟩, fun n => ⟨fun x => by kernel_rfl, ⟨⟨tr, ⟨tr, tr⟩⟩, ⟨tr, tr⟩⟩⟩⟩⟩, ⟨tr, ⟨⟨tr, ⟨⟨by kernel_rfl, fun x => by kernel_rfl⟩, fun n => ⟨fun x => by kernel_rfl, ⟨⟨tr, ⟨tr, tr⟩⟩, ⟨tr, tr⟩⟩⟩⟩⟩, ⟨tr, ⟨⟨tr, ⟨⟨by kernel_rfl, fun x => by kernel_rfl⟩, fun n => ⟨fun x => by kernel_rfl, ⟨⟨tr, ⟨tr, tr⟩⟩, ⟨⟨tr, tr⟩, tr⟩⟩⟩⟩⟩, ⟨tr, ⟨⟨tr, ⟨⟨by kernel_rfl, fun x => by kernel_rfl⟩, fun n => ⟨fun x => by kernel_rfl, ⟨⟨tr, ⟨tr, tr⟩⟩, ⟨tr, tr⟩⟩⟩⟩⟩, ⟨⟨tr, ⟨⟨by kernel_rfl, fun x => by kernel_rfl⟩, fun n => ⟨fun x => by kernel_rfl, ⟨⟨tr, ⟨tr, tr⟩⟩, ⟨tr, tr⟩⟩⟩⟩⟩, ⟨tr, tr⟩⟩⟩⟩⟩⟩⟩⟩⟩⟩⟩⟩
theorem spec_SetupText.ok (k : Nat) : EntOk Try.prog k spec_SetupText.ent := fn_ok (C := spec_SetupText.ctx k) Try.func18 (by kernel_rfl) (by kernel_rfl) mixed tdsOk (.cons (spec_SetupFault.ok k) (.cons (spec_l01Var.ok k) EntsOk.nil)) (by kernel_rfl) (leB (by kernel_rfl)) (by kernel_rfl) (spec_SetupText.runs k) (spec_SetupText.obls k)
/-! loop.example/g00200/spec.l01Text -/
def spec_l01Text.l2 (k : Nat)  : Nat → Int × Int × Int × Int × DeI × DeI × Unit → Option (ByteArray × DeI × Int × Int)
  | 0, _ => none
  | n + 1, (x1, x2, x3, x4, x5, x6, _) => if x2 < x1 then ((spec_l01Byte.f k (x5, (x3, x4))).bind fun t2 => (((some ([IntKind.u8.wrap (t2.1)] : DeI))).bind fun y3 => (if (x6.length + y3.length) * 1 ≤ 140737488355328 then (((some (x6 ++ y3))).bind fun y4 => (spec_l01Text.l2 k n (x1, w64 (x2 + 1), t2.2.2.1, t2.2.2.2, x5, y4, ()))) else none))) else (some (chrs x6, (x5, (x3, x4))))
def spec_l01Text.j1 (k : Nat)  : Int × Int × Int × DeI × Unit → Option (ByteArray × DeI × Int × Int)
  | (z1, z2, z3, z4, _) => ((some ([] : DeI))).bind fun y1 => (spec_l01Text.l2 k k (z1, 0, z2, z3, z4, y1, ()))
def spec_l01Text.f (k : Nat) (a0 : DeI × Int × Int) (a1 : Int) : Option (ByteArray × DeI × Int × Int) :=
  if 5000 < a1 then (spec_l01Text.j1 k (5000, a0.2.1, a0.2.2, a0.1, ())) else (spec_l01Text.j1 k (a1, a0.2.1, a0.2.2, a0.1, ()))
def spec_l01Text.Sj1 : Shape := ⟨[(0, false, [.ptr 0 0]), (1, false, [.int .i64])], [(0, .blk 103 [.own 1, .int .i64, .int .i64]), (1, .view false 5 (.int .u8))], 2⟩
def spec_l01Text.Sl2 : Shape := ⟨[(0, false, [.ptr 0 0]), (1, false, [.int .i64]), (5, false, [.own 2]), (6, false, [.int .i64])], [(0, .blk 103 [.own 1, .int .i64, .int .i64]), (1, .view false 5 (.int .u8)), (2, .row 5 (.int .u8))], 3⟩
def spec_l01Text.sig : Sig := ⟨[.ptr 103 (.pair (.sl 5 (.int .u8)) Ty2) [0], .val false TyI []], [.val false .str []]⟩
def spec_l01Text.F : FT spec_l01Text.sig := fun k x => spec_l01Text.f k x.1 x.2.1
def spec_l01Text.ann : AT spec_l01Text.sig := fun k => (.seq .nil (.join spec_l01Text.Sj1 (spec_l01Text.j1 k) .nil (.seq .nil (.seq (.seq .nil (.block (.loop spec_l01Text.Sl2 (spec_l01Text.l2 k) fun n1 => .nil))) .nil))))
def spec_l01Text.ent : Ent := ⟨78, spec_l01Text.sig, spec_l01Text.F⟩
def spec_l01Text.ctx (k : Nat) : Ctx := ⟨tds, [spec_l01Byte.ent], k, 23⟩
theorem spec_l01Text.runs : RunsT spec_l01Text.sig spec_l01Text.ctx Try.f78 spec_l01Text.ann spec_l01Text.F := fun k x => by kernel_rfl
theorem spec_l01Text.obls : OblT tds spec_l01Text.sig spec_l01Text.ctx 2 Try.f78 spec_l01Text.ann := fun k => ⟨tr, ⟨⟨by kernel_rfl, fun x => by kernel_rfl⟩, ⟨tr, ⟨tr, tr⟩⟩, ⟨tr, ⟨⟨tr, ⟨⟨by kernel_rfl, fun x => by kernel_rfl⟩, fun n => ⟨fun x => by kernel_rfl, ⟨⟨tr, ⟨tr, tr⟩⟩, ⟨tr, tr⟩⟩⟩⟩⟩, ⟨tr, tr⟩⟩⟩⟩⟩
theorem spec_l01Text.ok (k : Nat) : EntOk Try.prog k spec_l01Text.ent := fn_ok (C := spec_l01Text.ctx k) Try.func78 (by kernel_rfl) (by kernel_rfl) mixed tdsOk (.cons (spec_l01Byte.ok k) EntsOk.nil) (by kernel_rfl) (leB (by kernel_rfl)) (by kernel_rfl) (spec_l01Text.runs k) (spec_l01Text.obls k)
/-! loop.example/g00200/spec.l02Spoilt -/
def spec_l02Spoilt.j1 (k : Nat)  : ByteArray × Bool × Int × Int × DeI × Unit → Option (ByteArray × DeI × Int × Int)
  | (z1, z2, z3, z4, z5, _) => if z2 = true then (if 0 < (z1.size : Int) then ((spec_l01Below.f k (z5, (z3, z4)) (z1.size : Int)).bind fun t4 => (if 0 ≤ t4.1 then (if t4.1 ≤ (z1.size : Int) then ((spec_l01Text.f k (z5, t4.2.2) 1).bind fun t5 => (if (z1.extract 0 t4.1.toNat).size + t5.1.size ≤ 9223372036854775807 then (if 0 ≤ w64 (t4.1 + 1) then (if w64 (t4.1 + 1) ≤ (z1.size : Int) then (if ((z1.extract 0 t4.1.toNat) ++ t5.1).size + (z1.extract ((w64 (t4.1 + 1)).toNat) z1.size).size ≤ 9223372036854775807 then (some (((z1.extract 0 t4.1.toNat) ++ t5.1) ++ (z1.extract ((w64 (t4.1 + 1)).toNat) z1.size), (z5, t5.2.2))) else none) else none) else none) else none)) else none) else none)) else (some (z1, (z5, (z3, z4))))) else (some (z1, (z5, (z3, z4))))
def spec_l02Spoilt.f (k : Nat) (a0 : DeI × Int × Int) (a1 : ByteArray) : Option (ByteArray × DeI × Int × Int) :=
  (spec_l01Below.f k a0 12).bind fun t1 => (if t1.1 = 0 then ((spec_l01Text.f k (a0.1, t1.2.2) 1).bind fun t2 => (if a1.size + t2.1.size ≤ 9223372036854775807 then (some (a1 ++ t2.1, (a0.1, t2.2.2))) else none)) else (if t1.1 = 1 then ((spec_l01Below.f k (a0.1, t1.2.2) (w64 ((a1.size : Int) + 1))).bind fun t3 => (if 0 ≤ t3.1 then (if t3.1 ≤ (a1.size : Int) then (some (a1.extract 0 t3.1.toNat, (a0.1, t3.2.2))) else none) else none)) else (if t1.1 = 2 then (spec_l02Spoilt.j1 k (a1, true, t1.2.2.1, t1.2.2.2, a0.1, ())) else (spec_l02Spoilt.j1 k (a1, decide (t1.1 = 3), t1.2.2.1, t1.2.2.2, a0.1, ())))))
def spec_l02Spoilt.Sj1 : Shape := ⟨[(0, false, [.ptr 0 0]), (1, false, [.str]), (23, false, [.bool])], [(0, .blk 103 [.own 1, .int .i64, .int .i64]), (1, .view false 5 (.int .u8))], 2⟩
def spec_l02Spoilt.sig : Sig := ⟨[.ptr 103 (.pair (.sl 5 (.int .u8)) Ty2) [0], .val false .str []], [.val false .str []]⟩
def spec_l02Spoilt.F : FT spec_l02Spoilt.sig := fun k x => spec_l02Spoilt.f k x.1 x.2.1
def spec_l02Spoilt.ann : AT spec_l02Spoilt.sig := fun k => (.seq .nil (.seq (.seq .nil (.block (.seq .nil (.cond .nil (.seq .nil (.cond .nil (.join spec_l02Spoilt.Sj1 (spec_l02Spoilt.j1 k) .nil .nil))))))) .nil))
def spec_l02Spoilt.ent : Ent := ⟨52, spec_l02Spoilt.sig, spec_l02Spoilt.F⟩
def spec_l02Spoilt.ctx (k : Nat) : Ctx := ⟨tds, [spec_l01Below.ent, spec_l01Text.ent], k, 45⟩
theorem spec_l02Spoilt.runs : RunsT spec_l02Spoilt.sig spec_l02Spoilt.ctx Try.f52 spec_l02Spoilt.ann spec_l02Spoilt.F := fun k x => by kernel_rfl
theorem spec_l02Spoilt.obls : OblT tds spec_l02Spoilt.sig spec_l02Spoilt.ctx 2 Try.f52 spec_l02Spoilt.ann := fun k => ⟨tr, ⟨⟨tr, ⟨tr, ⟨⟨tr, tr⟩, ⟨tr, ⟨⟨tr, tr⟩, ⟨⟨by kernel_rfl, fun x => by kernel_rfl⟩, ⟨tr, ⟨tr, tr⟩⟩, ⟨⟨tr, ⟨⟨tr, ⟨tr, tr⟩⟩, tr⟩⟩, tr⟩⟩⟩⟩⟩⟩⟩, ⟨tr, tr⟩⟩⟩
theorem spec_l02Spoilt.ok (k : Nat) : EntOk Try.prog k spec_l02Spoilt.ent := fn_ok (C := spec_l02Spoilt.ctx k) Try.func52 (by kernel_rfl) (by kernel_rfl) mixed tdsOk (.cons (spec_l01Below.ok k) (.cons (spec_l01Text.ok k) EntsOk.nil)) (by kernel_rfl) (leB (by kernel_rfl)) (by kernel_rfl) (spec_l02Spoilt.runs k) (spec_l02Spoilt.obls k)
/-! loop.example/g00200/spec.DrawReadSetup -/
def spec_DrawReadSetup.f (k : Nat) (a0 : DeI) : Option (ByteArray) :=
  (spec_l01New.f k a0).bind fun t1 => ((spec_l11Any.f k (a0, t1.2)).bind fun t2 => ((spec_SetupText.f k t2.1).bind fun t3 => ((spec_l01Once.f k (a0, t2.2.2) 2).bind fun t4 => (if t4.1 = true then ((spec_l02Spoilt.f k (a0, t4.2.2) t3.1).bind fun t5 => (some t5.1)) else (some t3.1)))))
def spec_DrawReadSetup.sig : Sig := ⟨[.val false (.sl 5 (.int .u8)) [0]], [.val false .str []]⟩
def spec_DrawReadSetup.F : FT spec_DrawReadSetup.sig := fun k x => spec_DrawReadSetup.f k x.1
def spec_DrawReadSetup.ann : AT spec_DrawReadSetup.sig := fun k => .nil
def spec_DrawReadSetup.ent : Ent := ⟨15, spec_DrawReadSetup.sig, spec_DrawReadSetup.F⟩
def spec_DrawReadSetup.ctx (k : Nat) : Ctx := ⟨tds, [spec_SetupText.ent, spec_l11Any.ent, spec_l01New.ent, spec_l01Once.ent, spec_l02Spoilt.ent], k, 20⟩
theorem spec_DrawReadSetup.runs : RunsT spec_DrawReadSetup.sig spec_DrawReadSetup.ctx Try.f15 spec_DrawReadSetup.ann spec_DrawReadSetup.F := fun k x => by kernel_rfl
theorem spec_DrawReadSetup.obls : OblT tds spec_DrawReadSetup.sig spec_DrawReadSetup.ctx 1 Try.f15 spec_DrawReadSetup.ann := fun k => ⟨tr, ⟨tr, ⟨tr, ⟨⟨tr, ⟨⟨tr, tr⟩, tr⟩⟩, ⟨tr, tr⟩⟩⟩⟩⟩
theorem spec_DrawReadSetup.ok (k : Nat) : EntOk Try.prog k spec_DrawReadSetup.ent := fn_ok (C := spec_DrawReadSetup.ctx k) Try.func15 (by kernel_rfl) (by kernel_rfl) mixed tdsOk (.cons (spec_SetupText.ok k) (.cons (spec_l11Any.ok k) (.cons (spec_l01New.ok k) (.cons (spec_l01Once.ok k) (.cons (spec_l02Spoilt.ok k) EntsOk.nil))))) (by kernel_rfl) (leB (by kernel_rfl)) (by kernel_rfl) (spec_DrawReadSetup.runs k) (spec_DrawReadSetup.obls k)
/-! loop.example/g00200/spec.ReadVar -/
def spec_ReadVar.l1 (k : Nat)  : Nat → ByteArray × Int × Int × Int × Int × Unit → Option (Int × Int × Bool)
  | 0, _ => none
  | n + 1, (x1, x2, x3, x4, x5, _) => if x5 < (x1.size : Int) then (if x5 < (w64 (x2 + 5)) then (if 0 ≤ x5 then (if x5 < (x1.size : Int) then (if 0 ≤ x5 then (if x5 < (x1.size : Int) then (if (bt x1 x5) < 128 then (if 1000000000 < (w64 (x3 + (w64 ((Int.tmod (w64 (bt x1 x5)) 128) * x4)))) then (some (0, 0, false)) else ((spec_l01Var.f k (w64 (x3 + (w64 ((Int.tmod (w64 (bt x1 x5)) 128) * x4))))).bind fun t2 => (if 0 ≤ x2 then (if x2 ≤ w64 (x5 + 1) then (if w64 (x5 + 1) ≤ (x1.size : Int) then (if ¬ t2 = (x1.extract x2.toNat ((w64 (x5 + 1)).toNat)) then (some (0, 0, false)) else (some (w64 (x3 + (w64 ((Int.tmod (w64 (bt x1 x5)) 128) * x4))), w64 (x5 + 1), true))) else none) else none) else none))) else (spec_ReadVar.l1 k n (x1, x2, w64 (x3 + (w64 ((Int.tmod (w64 (bt x1 x5)) 128) * x4))), w64 (x4 * 128), w64 (x5 + 1), ()))) else none) else none) else none) else none) else (some (0, 0, false))) else (some (0, 0, false))
def spec_ReadVar.f (k : Nat) (a0 : ByteArray) (a1 : Int) : Option (Int × Int × Bool) :=
  (spec_l01In.f k a1 0 (a0.size : Int)).bind fun t1 => (if ¬ t1 = true then (some (0, 0, false)) else (spec_ReadVar.l1 k k (a0, a1, 0, 1, a1, ())))
def spec_ReadVar.Sl1 : Shape := ⟨[(0, false, [.str]), (1, false, [.int .i64]), (7, false, [.int .i64]), (8, false, [.int .i64]), (9, false, [.int .i64])], [], 0⟩
def spec_ReadVar.sig : Sig := ⟨[.val false .str [], .val false TyI []], [.val false TyI [], .val false TyI [], .val false .bool []]⟩
def spec_ReadVar.F : FT spec_ReadVar.sig := fun k x => spec_ReadVar.f k x.1 x.2.1
def spec_ReadVar.ann : AT spec_ReadVar.sig := fun k => (.seq .nil (.seq .nil (.seq .nil (.seq .nil (.seq (.seq .nil (.block (.loop spec_ReadVar.Sl1 (spec_ReadVar.l1 k) fun n1 => .nil))) .nil)))))
def spec_ReadVar.ent : Ent := ⟨53, spec_ReadVar.sig, spec_ReadVar.F⟩
def spec_ReadVar.ctx (k : Nat) : Ctx := ⟨tds, [spec_l01Var.ent, spec_l01In.ent], k, 58⟩
theorem spec_ReadVar.runs : RunsT spec_ReadVar.sig spec_ReadVar.ctx Try.f53 spec_ReadVar.ann spec_ReadVar.F := fun k x => by kernel_rfl
theorem spec_ReadVar.obls : OblT tds spec_ReadVar.sig spec_ReadVar.ctx 0 Try.f53 spec_ReadVar.ann := fun k => ⟨tr, ⟨⟨tr, ⟨⟨tr, tr⟩, tr⟩⟩, ⟨tr, ⟨tr, ⟨⟨tr, ⟨⟨by kernel_rfl, fun x => by kernel_rfl⟩, fun n => ⟨fun x => by kernel_rfl, ⟨⟨tr, ⟨tr, tr⟩⟩, ⟨⟨tr, ⟨tr, ⟨tr, ⟨⟨⟨tr, ⟨⟨tr, tr⟩, tr⟩⟩, ⟨tr, tr⟩⟩, tr⟩⟩⟩⟩, tr⟩⟩⟩⟩⟩, ⟨tr, tr⟩⟩⟩⟩⟩⟩
theorem spec_ReadVar.ok (k : Nat) : EntOk Try.prog k spec_ReadVar.ent := fn_ok (C := spec_ReadVar.ctx k) Try.func53 (by kernel_rfl) (by kernel_rfl) mixed tdsOk (.cons (spec_l01Var.ok k) (.cons (spec_l01In.ok k) EntsOk.nil)) (by kernel_rfl) (leB (by kernel_rfl)) (by kernel_rfl) (spec_ReadVar.runs k) (spec_ReadVar.obls k)
/-! loop.example/g00200/spec.l11Var -/
def spec_l11Var.f (k : Nat) (a0 : ByteArray × Int × Bool) : Option (Int × ByteArray × Int × Bool) :=
  (spec_ReadVar.f k a0.1 a0.2.1).bind fun t1 => (if a0.2.2 = true then (some (0, (a0.1, (a0.2.1, true)))) else (if ¬ t1.2.2 = true then (some (0, (a0.1, (a0.2.1, true)))) else (some (t1.1, (a0.1, (t1.2.1, a0.2.2))))))
def spec_l11Var.sig : Sig := ⟨[.ptr 43 (.pair .str (.pair TyI .bool)) []], [.val false TyI []]⟩
def spec_l11Var.F : FT spec_l11Var.sig := fun k x => spec_l11Var.f k x.1
def spec_l11Var.ann : AT spec_l11Var.sig := fun k => .nil
def spec_l11Var.ent : Ent := ⟨16, spec_l11Var.sig, spec_l11Var.F⟩
def spec_l11Var.ctx (k : Nat) : Ctx := ⟨tds, [spec_ReadVar.ent], k, 35⟩
theorem spec_l11Var.runs : RunsT spec_l11Var.sig spec_l11Var.ctx Try.f16 spec_l11Var.ann spec_l11Var.F := fun k x => by kernel_rfl
theorem spec_l11Var.obls : OblT tds spec_l11Var.sig spec_l11Var.ctx 1 Try.f16 spec_l11Var.ann := fun k => ⟨tr, ⟨tr, ⟨⟨tr, ⟨⟨tr, ⟨tr, tr⟩⟩, tr⟩⟩, ⟨tr, ⟨tr, tr⟩⟩⟩⟩⟩
theorem spec_l11Var.ok (k : Nat) : EntOk Try.prog k spec_l11Var.ent := fn_ok (C := spec_l11Var.ctx k) Try.func16 (by kernel_rfl) (by kernel_rfl) mixed tdsOk (.cons (spec_ReadVar.ok k) EntsOk.nil) (by kernel_rfl) (leB (by kernel_rfl)) (by kernel_rfl) (spec_l11Var.runs k) (spec_l11Var.obls k)
/-! loop.example/g00200/spec.ReadShort -/
def spec_ReadShort.f (k : Nat) (a0 : ByteArray) (a1 : Int) : Option (ByteArray × Int × Bool) :=
  (spec_ReadVar.f k a0 a1).bind fun t1 => (if ¬ t1.2.2 = true then (some ((⟨#[]⟩ : ByteArray), 0, false)) else (if 20000 < t1.1 then (some ((⟨#[]⟩ : ByteArray), 0, false)) else (if (w64 ((a0.size : Int) - t1.2.1)) < t1.1 then (some ((⟨#[]⟩ : ByteArray), 0, false)) else (if 0 ≤ t1.2.1 then (if t1.2.1 ≤ w64 (t1.2.1 + t1.1) then (if w64 (t1.2.1 + t1.1) ≤ (a0.size : Int) then (some (a0.extract t1.2.1.toNat ((w64 (t1.2.1 + t1.1)).toNat), w64 (t1.2.1 + t1.1), true)) else none) else none) else none))))
def spec_ReadShort.sig : Sig := ⟨[.val false .str [], .val false TyI []], [.val false .str [], .val false TyI [], .val false .bool []]⟩
def spec_ReadShort.F : FT spec_ReadShort.sig := fun k x => spec_ReadShort.f k x.1 x.2.1
def spec_ReadShort.ann : AT spec_ReadShort.sig := fun k => .nil
def spec_ReadShort.ent : Ent := ⟨54, spec_ReadShort.sig, spec_ReadShort.F⟩
def spec_ReadShort.ctx (k : Nat) : Ctx := ⟨tds, [spec_ReadVar.ent], k, 40⟩
theorem spec_ReadShort.runs : RunsT spec_ReadShort.sig spec_ReadShort.ctx Try.f54 spec_ReadShort.ann spec_ReadShort.F := fun k x => by kernel_rfl
theorem spec_ReadShort.obls : OblT tds spec_ReadShort.sig spec_ReadShort.ctx 0 Try.f54 spec_ReadShort.ann := fun k => ⟨tr, ⟨tr, ⟨⟨tr, ⟨⟨tr, tr⟩, tr⟩⟩, ⟨tr, tr⟩⟩⟩⟩
theorem spec_ReadShort.ok (k : Nat) : EntOk Try.prog k spec_ReadShort.ent := fn_ok (C := spec_ReadShort.ctx k) Try.func54 (by kernel_rfl) (by kernel_rfl) mixed tdsOk (.cons (spec_ReadVar.ok k) EntsOk.nil) (by kernel_rfl) (leB (by kernel_rfl)) (by kernel_rfl) (spec_ReadShort.runs k) (spec_ReadShort.obls k)
/-! loop.example/g00200/spec.l11Short -/
def spec_l11Short.f (k : Nat) (a0 : ByteArray × Int × Bool) : Option (ByteArray × ByteArray × Int × Bool) :=
  (spec_ReadShort.f k a0.1 a0.2.1).bind fun t1 => (if a0.2.2 = true then (some ((⟨#[]⟩ : ByteArray), (a0.1, (a0.2.1, true)))) else (if ¬ t1.2.2 = true then (some ((⟨#[]⟩ : ByteArray), (a0.1, (a0.2.1, true)))) else (some (t1.1, (a0.1, (t1.2.1, a0.2.2))))))
def spec_l11Short.sig : Sig := ⟨[.ptr 43 (.pair .str (.pair TyI .bool)) []], [.val false .str []]⟩
def spec_l11Short.F : FT spec_l11Short.sig := fun k x => spec_l11Short.f k x.1
def spec_l11Short.ann : AT spec_l11Short.sig := fun k => .nil
def spec_l11Short.ent : Ent := ⟨17, spec_l11Short.sig, spec_l11Short.F⟩
def spec_l11Short.ctx (k : Nat) : Ctx := ⟨tds, [spec_ReadShort.ent], k, 35⟩
theorem spec_l11Short.runs : RunsT spec_l11Short.sig spec_l11Short.ctx Try.f17 spec_l11Short.ann spec_l11Short.F := fun k x => by kernel_rfl
theorem spec_l11Short.obls : OblT tds spec_l11Short.sig spec_l11Short.ctx 1 Try.f17 spec_l11Short.ann := fun k => ⟨tr, ⟨tr, ⟨⟨tr, ⟨⟨tr, ⟨tr, tr⟩⟩, tr⟩⟩, ⟨tr, ⟨tr, tr⟩⟩⟩⟩⟩
theorem spec_l11Short.ok (k : Nat) : EntOk Try.prog k spec_l11Short.ent := fn_ok (C := spec_l11Short.ctx k) Try.func17 (by kernel_rfl) (by kernel_rfl) mixed tdsOk (.cons (spec_ReadShort.ok k) EntsOk.nil) (by kernel_rfl) (leB (by kernel_rfl)) (by kernel_rfl) (spec_l11Short.runs k) (spec_l11Short.obls k)
/-! loop.example/g00200/spec.ReadSetup -/
def spec_ReadSetup.l5 (k : Nat)  : Nat → ByteArray × Int × ByteArray × Int × Bool × De2 × De2 × De5 × De3 × DeB × De2 × De2 × De5 × De3 × DeB × Unit → Option (DeS × Bool)
  | 0, _ => none
  | n + 1, (x1, x2, x3, x4, x5, x6, x7, x8, x9, x10, x11, x12, x13, x14, x15, _) => if x2 < (x11.length : Int) then (if ¬ x5 = true then ((spec_l11Short.f k (x3, (x4, x5))).bind fun t31 => (((some ([t31.1] : DeB))).bind fun y32 => (if (x15.length + y32.length) * 16 ≤ 140737488355328 then (((some (x15 ++ y32))).bind fun y33 => (spec_ReadSetup.l5 k n (x1, w64 (x2 + 1), t31.2.1, t31.2.2.1, t31.2.2.2, x6, x7, x8, x9, x10, x11, x12, x13, x14, y33, ()))) else none))) else ((spec_SetupText.f k (x11, (x12, (x13, (x14, x15))))).bind fun t34 => (if x5 = true then (some (([], ([], ([], ([], [])))), false)) else (if ¬ t34.2 = true then (some (([], ([], ([], ([], [])))), false)) else (if ¬ t34.1 = x1 then (some (([], ([], ([], ([], [])))), false)) else (some ((x11, (x12, (x13, (x14, x15)))), true))))))) else ((spec_SetupText.f k (x11, (x12, (x13, (x14, x15))))).bind fun t35 => (if x5 = true then (some (([], ([], ([], ([], [])))), false)) else (if ¬ t35.2 = true then (some (([], ([], ([], ([], [])))), false)) else (if ¬ t35.1 = x1 then (some (([], ([], ([], ([], [])))), false)) else (some ((x11, (x12, (x13, (x14, x15)))), true))))))
def spec_ReadSetup.l4 (k : Nat)  : Nat → ByteArray × Int × Int × ByteArray × Int × Bool × De2 × De2 × De5 × De3 × DeB × De2 × De2 × De5 × De3 × DeB × Unit → Option (DeS × Bool)
  | 0, _ => none
  | n + 1, (x1, x2, x3, x4, x5, x6, x7, x8, x9, x10, x11, x12, x13, x14, x15, x16, _) => if x3 < x2 then (if x3 < 50 then (if ¬ x6 = true then ((spec_l11Var.f k (x4, (x5, x6))).bind fun t26 => ((spec_l11Var.f k t26.2).bind fun t27 => ((spec_l11Var.f k t27.2).bind fun t28 => (((some ([(t26.1, (t27.1, t28.1))] : De3))).bind fun y29 => (if (x15.length + y29.length) * 24 ≤ 140737488355328 then (((some (x15 ++ y29))).bind fun y30 => (spec_ReadSetup.l4 k n (x1, x2, w64 (x3 + 1), t28.2.1, t28.2.2.1, t28.2.2.2, x7, x8, x9, x10, x11, x12, x13, x14, y30, x16, ()))) else none))))) else (spec_ReadSetup.l5 k k (x1, 0, x4, x5, x6, x7, x8, x9, x10, x11, x12, x13, x14, x15, x16, ()))) else (spec_ReadSetup.l5 k k (x1, 0, x4, x5, x6, x7, x8, x9, x10, x11, x12, x13, x14, x15, x16, ()))) else (spec_ReadSetup.l5 k k (x1, 0, x4, x5, x6, x7, x8, x9, x10, x11, x12, x13, x14, x15, x16, ()))
def spec_ReadSetup.l3 (k : Nat)  : Nat → ByteArray × Int × Int × ByteArray × Int × Bool × De2 × De2 × De5 × De3 × DeB × De2 × De2 × De5 × De3 × DeB × Unit → Option (DeS × Bool)
  | 0, _ => none
  | n + 1, (x1, x2, x3, x4, x5, x6, x7, x8, x9, x10, x11, x12, x13, x14, x15, x16, _) => if x3 < x2 then (if x3 < 50 then (if ¬ x6 = true then ((spec_l11Var.f k (x4, (x5, x6))).bind fun t16 => ((spec_l11Var.f k t16.2).bind fun t17 => ((spec_l11Var.f k t17.2).bind fun t18 => ((spec_l11Var.f k t18.2).bind fun t19 => ((spec_l11Var.f k t19.2).bind fun t20 => (((some ([(t16.1, (t17.1, (t18.1, (t19.1, t20.1))))] : De5))).bind fun y21 => (if (x14.length + y21.length) * 40 ≤ 140737488355328 then (((some (x14 ++ y21))).bind fun y22 => (spec_ReadSetup.l3 k n (x1, x2, w64 (x3 + 1), t20.2.1, t20.2.2.1, t20.2.2.2, x7, x8, x9, x10, x11, x12, x13, y22, x15, x16, ()))) else none))))))) else ((spec_l11Var.f k (x4, (x5, x6))).bind fun t23 => (spec_ReadSetup.l4 k k (x1, t23.1, 0, t23.2.1, t23.2.2.1, t23.2.2.2, x7, x8, x9, x10, x11, x12, x13, x14, x15, x16, ())))) else ((spec_l11Var.f k (x4, (x5, x6))).bind fun t24 => (spec_ReadSetup.l4 k k (x1, t24.1, 0, t24.2.1, t24.2.2.1, t24.2.2.2, x7, x8, x9, x10, x11, x12, x13, x14, x15, x16, ())))) else ((spec_l11Var.f k (x4, (x5, x6))).bind fun t25 => (spec_ReadSetup.l4 k k (x1, t25.1, 0, t25.2.1, t25.2.2.1, t25.2.2.2, x7, x8, x9, x10, x11, x12, x13, x14, x15, x16, ())))
def spec_ReadSetup.l2 (k : Nat)  : Nat → ByteArray × Int × Int × ByteArray × Int × Bool × De2 × De2 × De5 × De3 × DeB × De2 × De2 × De5 × De3 × DeB × Unit → Option (DeS × Bool)
  | 0, _ => none
  | n + 1, (x1, x2, x3, x4, x5, x6, x7, x8, x9, x10, x11, x12, x13, x14, x15, x16, _) => if x3 < x2 then (if x3 < 50 then (if ¬ x6 = true then ((spec_l11Var.f k (x4, (x5, x6))).bind fun t9 => ((spec_l11Var.f k t9.2).bind fun t10 => (((some ([(t9.1, t10.1)] : De2))).bind fun y11 => (if (x13.length + y11.length) * 16 ≤ 140737488355328 then (((some (x13 ++ y11))).bind fun y12 => (spec_ReadSetup.l2 k n (x1, x2, w64 (x3 + 1), t10.2.1, t10.2.2.1, t10.2.2.2, x7, x8, x9, x10, x11, x12, y12, x14, x15, x16, ()))) else none)))) else ((spec_l11Var.f k (x4, (x5, x6))).bind fun t13 => (spec_ReadSetup.l3 k k (x1, t13.1, 0, t13.2.1, t13.2.2.1, t13.2.2.2, x7, x8, x9, x10, x11, x12, x13, x14, x15, x16, ())))) else ((spec_l11Var.f k (x4, (x5, x6))).bind fun t14 => (spec_ReadSetup.l3 k k (x1, t14.1, 0, t14.2.1, t14.2.2.1, t14.2.2.2, x7, x8, x9, x10, x11, x12, x13, x14, x15, x16, ())))) else ((spec_l11Var.f k (x4, (x5, x6))).bind fun t15 => (spec_ReadSetup.l3 k k (x1, t15.1, 0, t15.2.1, t15.2.2.1, t15.2.2.2, x7, x8, x9, x10, x11, x12, x13, x14, x15, x16, ())))
def spec_ReadSetup.l1 (k : Nat)  : Nat → ByteArray × Int × Int × ByteArray × Int × Bool × De2 × De2 × De5 × De3 × DeB × De2 × De2 × De5 × De3 × DeB × Unit → Option (DeS × Bool)
  | 0, _ => none
  | n + 1, (x1, x2, x3, x4, x5, x6, x7, x8, x9, x10, x11, x12, x13, x14, x15, x16, _) => if x3 < x2 then (if x3 < 50 then (if ¬ x6 = true then ((spec_l11Var.f k (x4, (x5, x6))).bind fun t2 => ((spec_l11Var.f k t2.2).bind fun t3 => (((some ([(t2.1, t3.1)] : De2))).bind fun y4 => (if (x12.length + y4.length) * 16 ≤ 140737488355328 then (((some (x12 ++ y4))).bind fun y5 => (spec_ReadSetup.l1 k n (x1, x2, w64 (x3 + 1), t3.2.1, t3.2.2.1, t3.2.2.2, x7, x8, x9, x10, x11, y5, x13, x14, x15, x16, ()))) else none)))) else ((spec_l11Var.f k (x4, (x5, x6))).bind fun t6 => (spec_ReadSetup.l2 k k (x1, t6.1, 0, t6.2.1, t6.2.2.1, t6.2.2.2, x7, x8, x9, x10, x11, x12, x13, x14, x15, x16, ())))) else ((spec_l11Var.f k (x4, (x5, x6))).bind fun t7 => (spec_ReadSetup.l2 k k (x1, t7.1, 0, t7.2.1, t7.2.2.1, t7.2.2.2, x7, x8, x9, x10, x11, x12, x13, x14, x15, x16, ())))) else ((spec_l11Var.f k (x4, (x5, x6))).bind fun t8 => (spec_ReadSetup.l2 k k (x1, t8.1, 0, t8.2.1, t8.2.2.1, t8.2.2.2, x7, x8, x9, x10, x11, x12, x13, x14, x15, x16, ())))
def spec_ReadSetup.f (k : Nat) (a0 : ByteArray) : Option (DeS × Bool) :=
  (spec_l11Var.f k (a0, (0, false))).bind fun t1 => (spec_ReadSetup.l1 k k (a0, t1.1, 0, t1.2.1, t1.2.2.1, t1.2.2.2, [], [], [], [], [], [], [], [], [], [], ()))
def spec_ReadSetup.Sl1 : Shape := ⟨[(0, false, [.str]), (2, false, [.ptr 0 0]), (4, false, [.ptr 6 0]), (5, false, [.ptr 7 0]), (6, false, [.int .i64]), (7, false, [.int .i64])], [(0, .blk 28 [.own 1, .own 2, .own 3, .own 4, .own 5]), (6, .blk 43 [.str, .int .i64, .bool]), (7, .blk 28 [.own 8, .own 9, .own 10, .own 11, .own 12]), (1, .row 46 Ty2), (2, .row 48 Ty2), (3, .row 50 Ty5), (4, .row 52 Ty3), (5, .row 9 .str), (8, .row 46 Ty2), (9, .row 48 Ty2), (10, .row 50 Ty5), (11, .row 52 Ty3), (12, .row 9 .str)], 13⟩
def spec_ReadSetup.Sl2 : Shape := ⟨[(0, false, [.str]), (2, false, [.ptr 0 0]), (4, false, [.ptr 6 0]), (5, false, [.ptr 7 0]), (6, false, [.int .i64]), (9, false, [.int .i64])], [(0, .blk 28 [.own 1, .own 2, .own 3, .own 4, .own 5]), (6, .blk 43 [.str, .int .i64, .bool]), (7, .blk 28 [.own 8, .own 9, .own 10, .own 11, .own 12]), (1, .row 46 Ty2), (2, .row 48 Ty2), (3, .row 50 Ty5), (4, .row 52 Ty3), (5, .row 9 .str), (8, .row 46 Ty2), (9, .row 48 Ty2), (10, .row 50 Ty5), (11, .row 52 Ty3), (12, .row 9 .str)], 13⟩
def spec_ReadSetup.Sl3 : Shape := ⟨[(0, false, [.str]), (2, false, [.ptr 0 0]), (4, false, [.ptr 6 0]), (5, false, [.ptr 7 0]), (6, false, [.int .i64]), (11, false, [.int .i64])], [(0, .blk 28 [.own 1, .own 2, .own 3, .own 4, .own 5]), (6, .blk 43 [.str, .int .i64, .bool]), (7, .blk 28 [.own 8, .own 9, .own 10, .own 11, .own 12]), (1, .row 46 Ty2), (2, .row 48 Ty2), (3, .row 50 Ty5), (4, .row 52 Ty3), (5, .row 9 .str), (8, .row 46 Ty2), (9, .row 48 Ty2), (10, .row 50 Ty5), (11, .row 52 Ty3), (12, .row 9 .str)], 13⟩
def spec_ReadSetup.Sl4 : Shape := ⟨[(0, false, [.str]), (2, false, [.ptr 0 0]), (4, false, [.ptr 6 0]), (5, false, [.ptr 7 0]), (6, false, [.int .i64]), (13, false, [.int .i64])], [(0, .blk 28 [.own 1, .own 2, .own 3, .own 4, .own 5]), (6, .blk 43 [.str, .int .i64, .bool]), (7, .blk 28 [.own 8, .own 9, .own 10, .own 11, .own 12]), (1, .row 46 Ty2), (2, .row 48 Ty2), (3, .row 50 Ty5), (4, .row 52 Ty3), (5, .row 9 .str), (8, .row 46 Ty2), (9, .row 48 Ty2), (10, .row 50 Ty5), (11, .row 52 Ty3), (12, .row 9 .str)], 13⟩
def spec_ReadSetup.Sl5 : Shape := ⟨[(0, false, [.str]), (2, false, [.ptr 0 0]), (4, false, [.ptr 6 0]), (5, false, [.ptr 7 0]), (15, false, [.int .i64])], [(0, .blk 28 [.own 1, .own 2, .own 3, .own 4, .own 5]), (6, .blk 43 [.str, .int .i64, .bool]), (7, .blk 28 [.own 8, .own 9, .own 10, .own 11, .own 12]), (1, .row 46 Ty2), (2, .row 48 Ty2), (3, .row 50 Ty5), (4, .row 52 Ty3), (5, .row 9 .str), (8, .row 46 Ty2), (9, .row 48 Ty2), (10, .row 50 Ty5), (11, .row 52 Ty3), (12, .row 9 .str)], 13⟩
def spec_ReadSetup.sig : Sig := ⟨[.val false .str []], [.val true (.pair (.sl 46 Ty2) (.pair (.sl 48 Ty2) (.pair (.sl 50 Ty5) (.pair (.sl 52 Ty3) (.sl 9 .str))))) [none, none, none, none, none], .val false .bool []]⟩
def spec_ReadSetup.F : FT spec_ReadSetup.sig := fun k x => spec_ReadSetup.f k x.1
def spec_ReadSetup.ann : AT spec_ReadSetup.sig := fun k => (.seq .nil (.seq .nil (.seq .nil (.seq .nil (.seq (.seq .nil (.block (.loop spec_ReadSetup.Sl1 (spec_ReadSetup.l1 k) fun n1 => .nil))) (.seq .nil (.seq (.seq .nil (.block (.loop spec_ReadSetup.Sl2 (spec_ReadSetup.l2 k) fun n1 => .nil))) (.seq .nil (.seq (.seq .nil (.block (.loop spec_ReadSetup.Sl3 (spec_ReadSetup.l3 k) fun n1 => .nil))) (.seq .nil (.seq (.seq .nil (.block (.loop spec_ReadSetup.Sl4 (spec_ReadSetup.l4 k) fun n1 => .nil))) (.seq (.seq .nil (.block (.loop spec_ReadSetup.Sl5 (spec_ReadSetup.l5 k) fun n1 => .nil))) .nil))))))))))))
def spec_ReadSetup.ent : Ent := ⟨5, spec_ReadSetup.sig, spec_ReadSetup.F⟩
def spec_ReadSetup.ctx (k : Nat) : Ctx := ⟨tds, [spec_l11Var.ent, spec_l11Short.ent, spec_SetupText.ent], k, 195⟩
theorem spec_ReadSetup.runs : RunsT spec_ReadSetup.sig spec_ReadSetup.ctx Try.f5 spec_ReadSetup.ann spec_ReadSetup.F := fun k x => by kernel_rfl
theorem spec_ReadSetup.obls : OblT tds spec_ReadSetup.sig spec_ReadSetup.ctx 0 Try.f5 spec_ReadSetup.ann := fun k => ⟨tr, ⟨tr, ⟨tr, ⟨tr, ⟨⟨tr, ⟨⟨by kernel_rfl, fun x => by kernel_rfl⟩, fun n => ⟨fun x => by kernel_rfl, ⟨⟨tr, ⟨tr, tr⟩⟩, ⟨⟨tr, ⟨tr, tr⟩⟩, tr⟩⟩⟩⟩⟩, ⟨tr, ⟨⟨tr, ⟨⟨by kernel_rfl, fun x => by kernel_rfl⟩, fun n => ⟨fun x => by kernel_rfl, ⟨⟨tr, ⟨tr, tr⟩⟩, ⟨⟨tr, ⟨tr, tr⟩⟩, tr⟩⟩⟩⟩⟩, ⟨tr, ⟨⟨tr, ⟨⟨by kernel_rfl, fun x => by kernel_rfl⟩, fun n => ⟨fun x => by kernel_rfl, ⟨⟨tr, ⟨tr, tr⟩⟩, ⟨⟨tr, ⟨tr, ⟨tr, ⟨tr, ⟨tr, tr⟩⟩⟩⟩⟩, tr⟩⟩⟩⟩⟩, ⟨tr, ⟨⟨tr, ⟨⟨by kernel_rfl, fun x => by kernel_rfl⟩, fun n => ⟨fun x => by kernel_rfl, ⟨⟨tr, ⟨tr, tr⟩⟩, ⟨⟨tr, ⟨tr, ⟨tr, tr⟩⟩⟩, tr⟩⟩⟩⟩⟩, ⟨⟨tr, ⟨⟨by kernel_rfl, fun x => by kernel_rfl⟩, fun n => ⟨fun x => by kernel_rfl, ⟨⟨tr, ⟨tr, tr⟩⟩, ⟨tr, tr⟩⟩⟩⟩⟩, ⟨tr, ⟨⟨tr, ⟨⟨tr, tr⟩, tr⟩⟩, ⟨tr, tr⟩⟩⟩⟩⟩⟩⟩⟩⟩⟩⟩⟩⟩⟩⟩
theorem spec_ReadSetup.ok (k : Nat) : EntOk Try.prog k spec_ReadSetup.ent := fn_ok (C := spec_ReadSetup.ctx k) Try.func5 (by kernel_rfl) (by kernel_rfl) mixed tdsOk (.cons (spec_l11Var.ok k) (.cons (spec_l11Short.ok k) (.cons (spec_SetupText.ok k) EntsOk.nil))) (by kernel_rfl) (leB (by kernel_rfl)) (by kernel_rfl) (spec_ReadSetup.runs k) (spec_ReadSetup.obls k)
end Go.Proofs.Ythncjcfnpfajaaa.QA
