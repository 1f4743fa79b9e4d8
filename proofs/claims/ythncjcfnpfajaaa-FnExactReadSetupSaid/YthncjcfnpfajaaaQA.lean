/- The plain functions of Go functions, and that each Go function does what its plain function tells. Printed by a program of this session (gen.py). -/
import Derived.Test.YthncjcfnpfajaaaProg
import Derived.Test.YthncjcfnpfajaaaAbDa
import Derived.KernelRfl
namespace Go.Proofs.Ythncjcfnpfajaaa.QA
open Go Go.Proofs Go.Proofs.YthncjcfnpfajaaaA
set_option linter.unusedVariables false
set_option maxRecDepth 100000
def tds : List (Nat × TD) := [(2, ⟨.int .i64, 1, 8, (.int .i64), false, false⟩),
  (3, ⟨.int .i64, 1, 8, (.int .i64), false, false⟩),
  (4, ⟨.bool, 1, 1, .bool, false, false⟩),
  (5, ⟨.int .u8, 1, 1, (.int .u8), false, false⟩),
  (6, ⟨.int .u8, 1, 1, (.int .u8), false, false⟩),
  (7, ⟨.struct [(0, 2), (1, 3), (2, 4), (3, 6)], 4, 24, (.pair (.int .i64) (.pair (.int .i64) (.pair .bool (.int .u8)))), true, false⟩),
  (8, ⟨.struct [(0, 2), (1, 3), (2, 4), (3, 6)], 4, 24, (.pair (.int .i64) (.pair (.int .i64) (.pair .bool (.int .u8)))), true, false⟩),
  (9, ⟨.str, 1, 16, .str, false, false⟩),
  (10, ⟨.str, 1, 16, .str, false, false⟩),
  (11, ⟨.str, 1, 16, .str, false, false⟩),
  (12, ⟨.int .u64, 1, 8, (.int .u64), false, false⟩),
  (13, ⟨.struct [(0, 9), (1, 12)], 2, 24, (.pair .str (.int .u64)), true, false⟩),
  (14, ⟨.struct [(0, 9), (1, 12)], 2, 24, (.pair .str (.int .u64)), true, false⟩),
  (21, ⟨.int .i32, 1, 4, (.int .i32), false, false⟩),
  (22, ⟨.slice 46, 1, 24, (.sl 46 (.pair (.int .i64) (.int .i64))), false, false⟩),
  (23, ⟨.slice 48, 1, 24, (.sl 48 (.pair (.int .i64) (.int .i64))), false, false⟩),
  (24, ⟨.slice 50, 1, 24, (.sl 50 (.pair (.int .i64) (.pair (.int .i64) (.pair (.int .i64) (.pair (.int .i64) (.int .i64)))))), false, false⟩),
  (25, ⟨.slice 52, 1, 24, (.sl 52 (.pair (.int .i64) (.pair (.int .i64) (.int .i64)))), false, false⟩),
  (26, ⟨.slice 9, 1, 24, (.sl 9 .str), false, false⟩),
  (27, ⟨.struct [(0, 22), (1, 23), (2, 24), (3, 25), (4, 26)], 5, 120, (.pair (.sl 46 (.pair (.int .i64) (.int .i64))) (.pair (.sl 48 (.pair (.int .i64) (.int .i64))) (.pair (.sl 50 (.pair (.int .i64) (.pair (.int .i64) (.pair (.int .i64) (.pair (.int .i64) (.int .i64)))))) (.pair (.sl 52 (.pair (.int .i64) (.pair (.int .i64) (.int .i64)))) (.sl 9 .str))))), true, false⟩),
  (28, ⟨.struct [(0, 22), (1, 23), (2, 24), (3, 25), (4, 26)], 5, 120, (.pair (.sl 46 (.pair (.int .i64) (.int .i64))) (.pair (.sl 48 (.pair (.int .i64) (.int .i64))) (.pair (.sl 50 (.pair (.int .i64) (.pair (.int .i64) (.pair (.int .i64) (.pair (.int .i64) (.int .i64)))))) (.pair (.sl 52 (.pair (.int .i64) (.pair (.int .i64) (.int .i64)))) (.sl 9 .str))))), true, false⟩),
  (34, ⟨.slice 5, 1, 24, (.sl 5 (.int .u8)), false, false⟩),
  (42, ⟨.struct [(0, 9), (1, 3), (2, 4)], 3, 32, (.pair .str (.pair (.int .i64) .bool)), true, false⟩),
  (43, ⟨.struct [(0, 9), (1, 3), (2, 4)], 3, 32, (.pair .str (.pair (.int .i64) .bool)), true, false⟩),
  (45, ⟨.struct [(0, 3), (1, 3)], 2, 16, (.pair (.int .i64) (.int .i64)), true, false⟩),
  (46, ⟨.struct [(0, 3), (1, 3)], 2, 16, (.pair (.int .i64) (.int .i64)), true, false⟩),
  (47, ⟨.struct [(0, 3), (1, 3)], 2, 16, (.pair (.int .i64) (.int .i64)), true, false⟩),
  (48, ⟨.struct [(0, 3), (1, 3)], 2, 16, (.pair (.int .i64) (.int .i64)), true, false⟩),
  (49, ⟨.struct [(0, 3), (1, 3), (2, 3), (3, 3), (4, 3)], 5, 40, (.pair (.int .i64) (.pair (.int .i64) (.pair (.int .i64) (.pair (.int .i64) (.int .i64))))), true, false⟩),
  (50, ⟨.struct [(0, 3), (1, 3), (2, 3), (3, 3), (4, 3)], 5, 40, (.pair (.int .i64) (.pair (.int .i64) (.pair (.int .i64) (.pair (.int .i64) (.int .i64))))), true, false⟩),
  (51, ⟨.struct [(0, 3), (1, 3), (2, 3)], 3, 24, (.pair (.int .i64) (.pair (.int .i64) (.int .i64))), true, false⟩),
  (52, ⟨.struct [(0, 3), (1, 3), (2, 3)], 3, 24, (.pair (.int .i64) (.pair (.int .i64) (.int .i64))), true, false⟩),
  (55, ⟨.struct [(0, 9), (1, 3), (2, 4)], 3, 32, (.pair .str (.pair (.int .i64) .bool)), true, false⟩),
  (56, ⟨.struct [(0, 9), (1, 3), (2, 4)], 3, 32, (.pair .str (.pair (.int .i64) .bool)), true, false⟩),
  (77, ⟨.slice 108, 1, 24, (.sl 108 (.pair (.int .i64) (.int .i64))), false, false⟩),
  (102, ⟨.struct [(0, 34), (1, 3), (2, 3)], 3, 40, (.pair (.sl 5 (.int .u8)) (.pair (.int .i64) (.int .i64))), true, false⟩),
  (103, ⟨.struct [(0, 34), (1, 3), (2, 3)], 3, 40, (.pair (.sl 5 (.int .u8)) (.pair (.int .i64) (.int .i64))), true, false⟩),
  (104, ⟨.slice 3, 1, 24, (.sl 3 (.int .i64)), false, false⟩),
  (107, ⟨.struct [(0, 3), (1, 3)], 2, 16, (.pair (.int .i64) (.int .i64)), true, false⟩),
  (108, ⟨.struct [(0, 3), (1, 3)], 2, 16, (.pair (.int .i64) (.int .i64)), true, false⟩),
  (120, ⟨.int .u64, 1, 8, (.int .u64), false, false⟩),
  (126, ⟨.int .u32, 1, 4, (.int .u32), false, false⟩),
  (127, ⟨.int .u8, 1, 1, (.int .u8), false, false⟩),
  (128, ⟨.int .u8, 1, 1, (.int .u8), false, false⟩),
  (131, ⟨.int .i32, 1, 4, (.int .i32), false, false⟩),
  (132, ⟨.int .i32, 1, 4, (.int .i32), false, false⟩)]
theorem mixed : Try.prog.follows .mixedOrders = true := by kernel_rfl
theorem tdsOk : TdsOk Try.prog tds := tds_ok (by kernel_rfl) (by kernel_rfl)
def w64 (z : Int) : Int := IntKind.i64.wrap z
@[reducible] def TyP : Ty := .pair (.int .i64) (.pair (.pair (.int .i64) (.sl 3 (.int .i64))) (.pair (.int .i64) (.pair (.int .i64) (.int .i64))))
@[reducible] def Ty5 : Ty := .pair (.int .i64) (.pair (.int .i64) (.pair (.int .i64) (.pair (.int .i64) (.int .i64))))
@[reducible] def Ty3 : Ty := .pair (.int .i64) (.pair (.int .i64) (.int .i64))
@[reducible] def Ty2 : Ty := .pair (.int .i64) (.int .i64)
@[reducible] def TyI : Ty := .int .i64
@[reducible] def DeP : Type := List (Int × (Int × List Int) × Int × Int × Int)
@[reducible] def De5 : Type := List (Int × Int × Int × Int × Int)
@[reducible] def De3 : Type := List (Int × Int × Int)
@[reducible] def De2 : Type := List (Int × Int)
@[reducible] def DeB : Type := List ByteArray
@[reducible] def DeI : Type := List Int
@[reducible] def DeL : Type := List De2
@[reducible] def DeS : Type := De2 × De2 × De5 × De3 × DeB
@[reducible] def DeK : Type := DeS × DeI × DeP × DeL × DeI × Int × Bool × De5
/-! loop.example/g00200/spec.l01In -/
def spec_l01In.f (k : Nat) (a0 : Int) (a1 : Int) (a2 : Int) : Option (Bool) :=
  if a1 ≤ a0 then (some (decide (a0 ≤ a2))) else (some false)
def spec_l01In.sig : Sig := ⟨[.val false TyI [], .val false TyI [], .val false TyI []], [.val false .bool []]⟩
def spec_l01In.F : FT spec_l01In.sig := fun k x => spec_l01In.f k x.1 x.2.1 x.2.2.1
def spec_l01In.ann : AT spec_l01In.sig := fun k => .nil
def spec_l01In.ent : Ent := ⟨71, spec_l01In.sig, spec_l01In.F⟩
def spec_l01In.ctx (k : Nat) : Ctx := ⟨tds, [], k, 15⟩
theorem spec_l01In.runs : RunsT spec_l01In.sig spec_l01In.ctx Try.f71 spec_l01In.ann spec_l01In.F := fun k x => by kernel_rfl
theorem spec_l01In.obls : OblT tds spec_l01In.sig spec_l01In.ctx 0 Try.f71 spec_l01In.ann := fun k => ⟨tr, ⟨tr, tr⟩⟩
theorem spec_l01In.ok (k : Nat) : EntOk Try.prog k spec_l01In.ent := fn_ok (C := spec_l01In.ctx k) Try.func71 (by kernel_rfl) (by kernel_rfl) mixed tdsOk EntsOk.nil (by kernel_rfl) (leB (by kernel_rfl)) (by kernel_rfl) (spec_l01In.runs k) (spec_l01In.obls k)
/-! loop.example/g00200/spec.l01Var -/
def spec_l01Var.l1 (k : Nat)  : Nat → Int × DeI × Unit → Option (ByteArray)
  | 0, _ => none
  | n + 1, (x1, x2, _) => if 127 < x1 then (((some ([IntKind.u8.wrap (w64 ((Int.tmod x1 128) + 128))] : DeI))).bind fun y2 => (if (x2.length + y2.length) * 1 ≤ 140737488355328 then (((some (x2 ++ y2))).bind fun y3 => (spec_l01Var.l1 k n (w64 (Int.tdiv x1 128), y3, ()))) else none)) else (((some ([IntKind.u8.wrap (x1)] : DeI))).bind fun y4 => (if (x2.length + y4.length) * 1 ≤ 140737488355328 then (((some (x2 ++ y4))).bind fun y5 => (some (chrs y5))) else none))
def spec_l01Var.f (k : Nat) (a0 : Int) : Option (ByteArray) :=
  ((some ([] : DeI))).bind fun y1 => (spec_l01Var.l1 k k (a0, y1, ()))
def spec_l01Var.Sl1 : Shape := ⟨[(0, false, [.int .i64]), (3, false, [.own 0])], [(0, .row 5 (.int .u8))], 1⟩
def spec_l01Var.sig : Sig := ⟨[.val false TyI []], [.val false .str []]⟩
def spec_l01Var.F : FT spec_l01Var.sig := fun k x => spec_l01Var.f k x.1
def spec_l01Var.ann : AT spec_l01Var.sig := fun k => (.seq .nil (.seq .nil (.seq (.block (.loop spec_l01Var.Sl1 (spec_l01Var.l1 k) fun n1 => .nil)) .nil)))
def spec_l01Var.ent : Ent := ⟨55, spec_l01Var.sig, spec_l01Var.F⟩
def spec_l01Var.ctx (k : Nat) : Ctx := ⟨tds, [], k, 22⟩
theorem spec_l01Var.runs : RunsT spec_l01Var.sig spec_l01Var.ctx Try.f55 spec_l01Var.ann spec_l01Var.F := fun k x => by kernel_rfl
theorem spec_l01Var.obls : OblT tds spec_l01Var.sig spec_l01Var.ctx 0 Try.f55 spec_l01Var.ann := fun k => ⟨tr, ⟨tr, ⟨⟨⟨by kernel_rfl, fun x => by kernel_rfl⟩, fun n => ⟨fun x => by kernel_rfl, ⟨⟨tr, ⟨tr, tr⟩⟩, ⟨tr, tr⟩⟩⟩⟩, ⟨tr, tr⟩⟩⟩⟩
theorem spec_l01Var.ok (k : Nat) : EntOk Try.prog k spec_l01Var.ent := fn_ok (C := spec_l01Var.ctx k) Try.func55 (by kernel_rfl) (by kernel_rfl) mixed tdsOk EntsOk.nil (by kernel_rfl) (leB (by kernel_rfl)) (by kernel_rfl) (spec_l01Var.runs k) (spec_l01Var.obls k)
/-! loop.example/g00200/spec.ReadVar -/
def spec_ReadVar.l1 (k : Nat)  : Nat → ByteArray × Int × Int × Int × Int × Unit → Option (Int × Int × Bool)
  | 0, _ => none
  | n + 1, (x1, x2, x3, x4, x5, _) => if x5 < (x1.size : Int) then (if x5 < (w64 (x2 + 5)) then (if 0 ≤ x5 then (if x5 < (x1.size : Int) then (if 0 ≤ x5 then (if x5 < (x1.size : Int) then (if (bt x1 x5) < 128 then (if 1000000000 < (w64 (x3 + (w64 ((Int.tmod (w64 (bt x1 x5)) 128) * x4)))) then (some (0, 0, false)) else ((spec_l01Var.f k (w64 (x3 + (w64 ((Int.tmod (w64 (bt x1 x5)) 128) * x4))))).bind fun t2 => (if 0 ≤ x2 then (if x2 ≤ w64 (x5 + 1) then (if w64 (x5 + 1) ≤ (x1.size : Int) then (if ¬ t2 = (x1.extract x2.toNat ((w64 (x5 + 1)).toNat)) then (some (0, 0, false)) else (some (w64 (x3 + (w64 ((Int.tmod (w64 (bt x1 x5)) 128) * x4))), w64 (x5 + 1), true))) else none) else none) else none))) else (spec_ReadVar.l1 k n (x1, x2, w64 (x3 + (w64 ((Int.tmod (w64 (bt x1 x5)) 128) * x4))), w64 (x4 * 128), w64 (x5 + 1), ()))) else none) else none) else none) else none) else (some (0, 0, false))) else (some (0, 0, false))
def spec_ReadVar.f (k : Nat) (a0 : ByteArray) (a1 : Int) : Option (Int × Int × Bool) :=
  (spec_l01In.f k a1 0 (a0.size : Int)).bind fun t1 => (if ¬ t1 = true then (some (0, 0, false)) else (spec_ReadVar.l1 k k (a0, a1, 0, 1, a1, ())))
def spec_ReadVar.Sl1 : Shape := ⟨[(0, false, [.str]), (1, false, [.int .i64]), (7, false, [.int .i64]), (8, false, [.int .i64]), (9, false, [.int .i64])], [], 0⟩
def spec_ReadVar.sig : Sig := ⟨[.val false .str [], .val false TyI []], [.val false TyI [], .val false TyI [], .val false .bool []]⟩
def spec_ReadVar.F : FT spec_ReadVar.sig := fun k x => spec_ReadVar.f k x.1 x.2.1
def spec_ReadVar.ann : AT spec_ReadVar.sig := fun k => (.seq .nil (.seq .nil (.seq .nil (.seq .nil (.seq (.seq .nil (.block (.loop spec_ReadVar.Sl1 (spec_ReadVar.l1 k) fun n1 => .nil))) .nil)))))
def spec_ReadVar.ent : Ent := ⟨53, spec_ReadVar.sig, spec_ReadVar.F⟩
def spec_ReadVar.ctx (k : Nat) : Ctx := ⟨tds, [spec_l01Var.ent, spec_l01In.ent], k, 58⟩
theorem spec_ReadVar.runs : RunsT spec_ReadVar.sig spec_ReadVar.ctx Try.f53 spec_ReadVar.ann spec_ReadVar.F := fun k x => by kernel_rfl
theorem spec_ReadVar.obls : OblT tds spec_ReadVar.sig spec_ReadVar.ctx 0 Try.f53 spec_ReadVar.ann := fun k => ⟨tr, ⟨⟨tr, ⟨⟨tr, tr⟩, tr⟩⟩, ⟨tr, ⟨tr, ⟨⟨tr, ⟨⟨by kernel_rfl, fun x => by kernel_rfl⟩, fun n => ⟨fun x => by kernel_rfl, ⟨⟨tr, ⟨tr, tr⟩⟩, ⟨⟨tr, ⟨tr, ⟨tr, ⟨⟨⟨tr, ⟨⟨tr, tr⟩, tr⟩⟩, ⟨tr, tr⟩⟩, tr⟩⟩⟩⟩, tr⟩⟩⟩⟩⟩, ⟨tr, tr⟩⟩⟩⟩⟩⟩
theorem spec_ReadVar.ok (k : Nat) : EntOk Try.prog k spec_ReadVar.ent := fn_ok (C := spec_ReadVar.ctx k) Try.func53 (by kernel_rfl) (by kernel_rfl) mixed tdsOk (.cons (spec_l01Var.ok k) (.cons (spec_l01In.ok k) EntsOk.nil)) (by kernel_rfl) (leB (by kernel_rfl)) (by kernel_rfl) (spec_ReadVar.runs k) (spec_ReadVar.obls k)
/-! loop.example/g00200/spec.l11Var -/
def spec_l11Var.f (k : Nat) (a0 : ByteArray × Int × Bool) : Option (Int × ByteArray × Int × Bool) :=
  (spec_ReadVar.f k a0.1 a0.2.1).bind fun t1 => (if a0.2.2 = true then (some (0, (a0.1, (a0.2.1, true)))) else (if ¬ t1.2.2 = true then (some (0, (a0.1, (a0.2.1, true)))) else (some (t1.1, (a0.1, (t1.2.1, a0.2.2))))))
def spec_l11Var.sig : Sig := ⟨[.ptr 43 (.pair .str (.pair TyI .bool)) []], [.val false TyI []]⟩
def spec_l11Var.F : FT spec_l11Var.sig := fun k x => spec_l11Var.f k x.1
def spec_l11Var.ann : AT spec_l11Var.sig := fun k => .nil
def spec_l11Var.ent : Ent := ⟨16, spec_l11Var.sig, spec_l11Var.F⟩
def spec_l11Var.ctx (k : Nat) : Ctx := ⟨tds, [spec_ReadVar.ent], k, 35⟩
theorem spec_l11Var.runs : RunsT spec_l11Var.sig spec_l11Var.ctx Try.f16 spec_l11Var.ann spec_l11Var.F := fun k x => by kernel_rfl
theorem spec_l11Var.obls : OblT tds spec_l11Var.sig spec_l11Var.ctx 1 Try.f16 spec_l11Var.ann := fun k => ⟨tr, ⟨tr, ⟨⟨tr, ⟨⟨tr, ⟨tr, tr⟩⟩, tr⟩⟩, ⟨tr, ⟨tr, tr⟩⟩⟩⟩⟩
theorem spec_l11Var.ok (k : Nat) : EntOk Try.prog k spec_l11Var.ent := fn_ok (C := spec_l11Var.ctx k) Try.func16 (by kernel_rfl) (by kernel_rfl) mixed tdsOk (.cons (spec_ReadVar.ok k) EntsOk.nil) (by kernel_rfl) (leB (by kernel_rfl)) (by kernel_rfl) (spec_l11Var.runs k) (spec_l11Var.obls k)
/-! loop.example/g00200/spec.ReadShort -/
def spec_ReadShort.f (k : Nat) (a0 : ByteArray) (a1 : Int) : Option (ByteArray × Int × Bool) :=
  (spec_ReadVar.f k a0 a1).bind fun t1 => (if ¬ t1.2.2 = true then (some ((⟨#[]⟩ : ByteArray), 0, false)) else (if 20000 < t1.1 then (some ((⟨#[]⟩ : ByteArray), 0, false)) else (if (w64 ((a0.size : Int) - t1.2.1)) < t1.1 then (some ((⟨#[]⟩ : ByteArray), 0, false)) else (if 0 ≤ t1.2.1 then (if t1.2.1 ≤ w64 (t1.2.1 + t1.1) then (if w64 (t1.2.1 + t1.1) ≤ (a0.size : Int) then (some (a0.extract t1.2.1.toNat ((w64 (t1.2.1 + t1.1)).toNat), w64 (t1.2.1 + t1.1), true)) else none) else none) else none))))
def spec_ReadShort.sig : Sig := ⟨[.val false .str [], .val false TyI []], [.val false .str [], .val false TyI [], .val false .bool []]⟩
def spec_ReadShort.F : FT spec_ReadShort.sig := fun k x => spec_ReadShort.f k x.1 x.2.1
def spec_ReadShort.ann : AT spec_ReadShort.sig := fun k => .nil
def spec_ReadShort.ent : Ent := ⟨54, spec_ReadShort.sig, spec_ReadShort.F⟩
def spec_ReadShort.ctx (k : Nat) : Ctx := ⟨tds, [spec_ReadVar.ent], k, 40⟩
theorem spec_ReadShort.runs : RunsT spec_ReadShort.sig spec_ReadShort.ctx Try.f54 spec_ReadShort.ann spec_ReadShort.F := fun k x => by kernel_rfl
theorem spec_ReadShort.obls : OblT tds spec_ReadShort.sig spec_ReadShort.ctx 0 Try.f54 spec_ReadShort.ann := fun k => ⟨tr, ⟨tr, ⟨⟨tr, ⟨⟨tr, tr⟩, tr⟩⟩, ⟨tr, tr⟩⟩⟩⟩
theorem spec_ReadShort.ok (k : Nat) : EntOk Try.prog k spec_ReadShort.ent := fn_ok (C := spec_ReadShort.ctx k) Try.func54 (by kernel_rfl) (by kernel_rfl) mixed tdsOk (.cons (spec_ReadVar.ok k) EntsOk.nil) (by kernel_rfl) (leB (by kernel_rfl)) (by kernel_rfl) (spec_ReadShort.runs k) (spec_ReadShort.obls k)
/-! loop.example/g00200/spec.l11Short -/
def spec_l11Short.f (k : Nat) (a0 : ByteArray × Int × Bool) : Option (ByteArray × ByteArray × Int × Bool) :=
  (spec_ReadShort.f k a0.1 a0.2.1).bind fun t1 => (if a0.2.2 = true then (some ((⟨#[]⟩ : ByteArray), (a0.1, (a0.2.1, true)))) else (if ¬ t1.2.2 = true then (some ((⟨#[]⟩ : ByteArray), (a0.1, (a0.2.1, true)))) else (some (t1.1, (a0.1, (t1.2.1, a0.2.2))))))
def spec_l11Short.sig : Sig := ⟨[.ptr 43 (.pair .str (.pair TyI .bool)) []], [.val false .str []]⟩
def spec_l11Short.F : FT spec_l11Short.sig := fun k x => spec_l11Short.f k x.1
def spec_l11Short.ann : AT spec_l11Short.sig := fun k => .nil
def spec_l11Short.ent : Ent := ⟨17, spec_l11Short.sig, spec_l11Short.F⟩
def spec_l11Short.ctx (k : Nat) : Ctx := ⟨tds, [spec_ReadShort.ent], k, 35⟩
theorem spec_l11Short.runs : RunsT spec_l11Short.sig spec_l11Short.ctx Try.f17 spec_l11Short.ann spec_l11Short.F := fun k x => by kernel_rfl
theorem spec_l11Short.obls : OblT tds spec_l11Short.sig spec_l11Short.ctx 1 Try.f17 spec_l11Short.ann := fun k => ⟨tr, ⟨tr, ⟨⟨tr, ⟨⟨tr, ⟨tr, tr⟩⟩, tr⟩⟩, ⟨tr, ⟨tr, tr⟩⟩⟩⟩⟩
theorem spec_l11Short.ok (k : Nat) : EntOk Try.prog k spec_l11Short.ent := fn_ok (C := spec_l11Short.ctx k) Try.func17 (by kernel_rfl) (by kernel_rfl) mixed tdsOk (.cons (spec_ReadShort.ok k) EntsOk.nil) (by kernel_rfl) (leB (by kernel_rfl)) (by kernel_rfl) (spec_l11Short.runs k) (spec_l11Short.obls k)
/-! loop.example/g00200/spec.RegionsOk -/
def spec_RegionsOk.l2 (k : Nat) (c0 : Int × De2 × Unit → Option (Bool)) : Nat → Int × Int × Int × Int × De2 × Unit → Option (Bool)
  | 0, _ => none
  | n + 1, (x1, x2, x3, x4, x5, _) => if x2 < x1 then (if 0 ≤ x2 then (if x2 < (x5.length : Int) then (if 0 ≤ x2 then (if x2 < (x5.length : Int) then (if x3 < (w64 (((el Ty2 x5 x2.toNat).1) + ((el Ty2 x5 x2.toNat).2))) then (if 0 ≤ x2 then (if x2 < (x5.length : Int) then (if ((el Ty2 x5 x2.toNat).1) < (w64 (x3 + x4)) then (some false) else (spec_RegionsOk.l2 k c0 n (x1, w64 (x2 + 1), x3, x4, x5, ()))) else none) else none) else (spec_RegionsOk.l2 k c0 n (x1, w64 (x2 + 1), x3, x4, x5, ()))) else none) else none) else none) else none) else (c0 (w64 (x1 + 1), x5, ()))
def spec_RegionsOk.l1 (k : Nat)  : Nat → Int × De2 × Unit → Option (Bool)
  | 0, _ => none
  | n + 1, (x1, x2, _) => if x1 < (x2.length : Int) then (if 0 ≤ x1 then (if x1 < (x2.length : Int) then ((spec_l01In.f k ((el Ty2 x2 x1.toNat).1) 0 63).bind fun t1 => (if ¬ t1 = true then (some false) else ((spec_l01In.f k ((el Ty2 x2 x1.toNat).2) 1 (w64 (64 - ((el Ty2 x2 x1.toNat).1)))).bind fun t2 => (if ¬ t2 = true then (some false) else (spec_RegionsOk.l2 k (spec_RegionsOk.l1 k n) k (x1, 0, (el Ty2 x2 x1.toNat).1, (el Ty2 x2 x1.toNat).2, x2, ())))))) else none) else none) else ((spec_l01In.f k (x2.length : Int) 1 4).bind fun t3 => (some t3))
def spec_RegionsOk.f (k : Nat) (a0 : De2) : Option (Bool) :=
  spec_RegionsOk.l1 k k (0, a0, ())
def spec_RegionsOk.Sl1 : Shape := ⟨[(0, false, [.own 0]), (3, false, [.int .i64])], [(0, .view false 46 Ty2)], 1⟩
def spec_RegionsOk.Sl2 : Shape := ⟨[(0, false, [.own 0]), (3, false, [.int .i64]), (4, false, [.ptr 1 0]), (5, false, [.int .i64])], [(1, .blk 46 [.int .i64, .int .i64]), (0, .view false 46 Ty2)], 2⟩
def spec_RegionsOk.sig : Sig := ⟨[.val false (.sl 46 Ty2) [0]], [.val false .bool []]⟩
def spec_RegionsOk.F : FT spec_RegionsOk.sig := fun k x => spec_RegionsOk.f k x.1
def spec_RegionsOk.ann : AT spec_RegionsOk.sig := fun k => (.seq .nil (.seq (.seq .nil (.block (.loop spec_RegionsOk.Sl1 (spec_RegionsOk.l1 k) fun n1 => (.seq .nil (.seq (.block (.seq .nil (.seq .nil (.seq .nil (.block (.loop spec_RegionsOk.Sl2 (spec_RegionsOk.l2 k (spec_RegionsOk.l1 k n1)) fun n2 => .nil)))))) .nil))))) .nil))
def spec_RegionsOk.ent : Ent := ⟨39, spec_RegionsOk.sig, spec_RegionsOk.F⟩
def spec_RegionsOk.ctx (k : Nat) : Ctx := ⟨tds, [spec_l01In.ent], k, 64⟩
theorem spec_RegionsOk.runs : RunsT spec_RegionsOk.sig spec_RegionsOk.ctx Try.f39 spec_RegionsOk.ann spec_RegionsOk.F := fun k x => by kernel_rfl
theorem spec_RegionsOk.obls : OblT tds spec_RegionsOk.sig spec_RegionsOk.ctx 1 Try.f39 spec_RegionsOk.ann := fun k => ⟨tr, ⟨⟨tr, ⟨⟨by kernel_rfl, fun x => by kernel_rfl⟩, fun n => ⟨fun x => by kernel_rfl, ⟨⟨tr, ⟨tr, tr⟩⟩, ⟨⟨tr, ⟨⟨tr, ⟨⟨tr, tr⟩, tr⟩⟩, ⟨tr, ⟨⟨by kernel_rfl, fun x => by kernel_rfl⟩, fun n => ⟨fun x => by kernel_rfl, ⟨⟨tr, ⟨tr, tr⟩⟩, ⟨⟨tr, ⟨⟨tr, tr⟩, tr⟩⟩, tr⟩⟩⟩⟩⟩⟩⟩, tr⟩⟩⟩⟩⟩, ⟨tr, tr⟩⟩⟩
theorem spec_RegionsOk.ok (k : Nat) : EntOk Try.prog k spec_RegionsOk.ent := fn_ok (C := spec_RegionsOk.ctx k) Try.func39 (by kernel_rfl) (by kernel_rfl) mixed tdsOk (.cons (spec_l01In.ok k) EntsOk.nil) (by kernel_rfl) (leB (by kernel_rfl)) (by kernel_rfl) (spec_RegionsOk.runs k) (spec_RegionsOk.obls k)
/-! loop.example/g00200/spec.PlanOk -/
def spec_PlanOk.l1 (k : Nat)  : Nat → Int × De2 × Unit → Option (Bool)
  | 0, _ => none
  | n + 1, (x1, x2, _) => if x1 < (x2.length : Int) then (if 0 ≤ x1 then (if x1 < (x2.length : Int) then ((spec_l01In.f k ((el Ty2 x2 x1.toNat).1) 1 4).bind fun t1 => (if ¬ t1 = true then (some false) else (if 0 ≤ x1 then (if x1 < (x2.length : Int) then ((spec_l01In.f k ((el Ty2 x2 x1.toNat).2) 1 200).bind fun t2 => (if ¬ t2 = true then (some false) else (spec_PlanOk.l1 k n (w64 (x1 + 1), x2, ())))) else none) else none))) else none) else none) else ((spec_l01In.f k (x2.length : Int) 1 12).bind fun t3 => (some t3))
def spec_PlanOk.f (k : Nat) (a0 : De2) : Option (Bool) :=
  spec_PlanOk.l1 k k (0, a0, ())
def spec_PlanOk.Sl1 : Shape := ⟨[(0, false, [.own 0]), (3, false, [.int .i64])], [(0, .view false 48 Ty2)], 1⟩
def spec_PlanOk.sig : Sig := ⟨[.val false (.sl 48 Ty2) [0]], [.val false .bool []]⟩
def spec_PlanOk.F : FT spec_PlanOk.sig := fun k x => spec_PlanOk.f k x.1
def spec_PlanOk.ann : AT spec_PlanOk.sig := fun k => (.seq .nil (.seq (.seq .nil (.block (.loop spec_PlanOk.Sl1 (spec_PlanOk.l1 k) fun n1 => .nil))) .nil))
def spec_PlanOk.ent : Ent := ⟨40, spec_PlanOk.sig, spec_PlanOk.F⟩
def spec_PlanOk.ctx (k : Nat) : Ctx := ⟨tds, [spec_l01In.ent], k, 29⟩
theorem spec_PlanOk.runs : RunsT spec_PlanOk.sig spec_PlanOk.ctx Try.f40 spec_PlanOk.ann spec_PlanOk.F := fun k x => by kernel_rfl
theorem spec_PlanOk.obls : OblT tds spec_PlanOk.sig spec_PlanOk.ctx 1 Try.f40 spec_PlanOk.ann := fun k => ⟨tr, ⟨⟨tr, ⟨⟨by kernel_rfl, fun x => by kernel_rfl⟩, fun n => ⟨fun x => by kernel_rfl, ⟨⟨tr, ⟨tr, tr⟩⟩, ⟨⟨tr, ⟨⟨tr, tr⟩, tr⟩⟩, tr⟩⟩⟩⟩⟩, ⟨tr, tr⟩⟩⟩
theorem spec_PlanOk.ok (k : Nat) : EntOk Try.prog k spec_PlanOk.ent := fn_ok (C := spec_PlanOk.ctx k) Try.func40 (by kernel_rfl) (by kernel_rfl) mixed tdsOk (.cons (spec_l01In.ok k) EntsOk.nil) (by kernel_rfl) (leB (by kernel_rfl)) (by kernel_rfl) (spec_PlanOk.runs k) (spec_PlanOk.obls k)
/-! loop.example/g00200/spec.PortOk -/
def spec_PortOk.f (k : Nat) (a0 : Int × Int × Int × Int × Int) : Option (Bool) :=
  (spec_l01In.f k a0.2.1 1 4).bind fun t1 => (if ¬ t1 = true then (some false) else ((spec_l01In.f k a0.2.2.1 1 4).bind fun t2 => (if ¬ t2 = true then (some false) else (if a0.2.1 = a0.2.2.1 then (some false) else (if a0.1 = 1 then ((spec_l01In.f k a0.2.2.2.1 1 6).bind fun t3 => (if t3 = true then (some (decide (a0.2.2.2.2 = 0))) else (some false))) else (if a0.1 = 2 then (if a0.2.2.2.1 = 1 then ((spec_l01In.f k a0.2.2.2.2 1 100).bind fun t4 => (some t4)) else (some false)) else (some false)))))))
def spec_PortOk.sig : Sig := ⟨[.val true Ty5 []], [.val false .bool []]⟩
def spec_PortOk.F : FT spec_PortOk.sig := fun k x => spec_PortOk.f k x.1
def spec_PortOk.ann : AT spec_PortOk.sig := fun k => .nil
def spec_PortOk.ent : Ent := ⟨41, spec_PortOk.sig, spec_PortOk.F⟩
def spec_PortOk.ctx (k : Nat) : Ctx := ⟨tds, [spec_l01In.ent], k, 44⟩
theorem spec_PortOk.runs : RunsT spec_PortOk.sig spec_PortOk.ctx Try.f41 spec_PortOk.ann spec_PortOk.F := fun k x => by kernel_rfl
theorem spec_PortOk.obls : OblT tds spec_PortOk.sig spec_PortOk.ctx 0 Try.f41 spec_PortOk.ann := fun k => ⟨tr, ⟨⟨tr, ⟨⟨tr, tr⟩, tr⟩⟩, ⟨⟨tr, ⟨⟨tr, tr⟩, tr⟩⟩, ⟨tr, tr⟩⟩⟩⟩
theorem spec_PortOk.ok (k : Nat) : EntOk Try.prog k spec_PortOk.ent := fn_ok (C := spec_PortOk.ctx k) Try.func41 (by kernel_rfl) (by kernel_rfl) mixed tdsOk (.cons (spec_l01In.ok k) EntsOk.nil) (by kernel_rfl) (leB (by kernel_rfl)) (by kernel_rfl) (spec_PortOk.runs k) (spec_PortOk.obls k)
/-! loop.example/g00200/spec.RulesOk -/
def spec_RulesOk.l2 (k : Nat) (c0 : Int × De3 × Unit → Option (Bool)) : Nat → Int × Int × Int × Int × Int × De3 × Unit → Option (Bool)
  | 0, _ => none
  | n + 1, (x1, x2, x3, x4, x5, x6, _) => if x2 < x1 then (if 0 ≤ x2 then (if x2 < (x6.length : Int) then (if ((el Ty3 x6 x2.toNat).1) = x3 then (if 0 ≤ x2 then (if x2 < (x6.length : Int) then (if (((el Ty3 x6 x2.toNat).2).1) = x4 then (some false) else (spec_RulesOk.l2 k c0 n (x1, w64 (x2 + 1), x3, x4, x5, x6, ()))) else none) else none) else (spec_RulesOk.l2 k c0 n (x1, w64 (x2 + 1), x3, x4, x5, x6, ()))) else none) else none) else (c0 (w64 (x1 + 1), x6, ()))
def spec_RulesOk.l1 (k : Nat)  : Nat → Int × De3 × Unit → Option (Bool)
  | 0, _ => none
  | n + 1, (x1, x2, _) => if x1 < (x2.length : Int) then (if 0 ≤ x1 then (if x1 < (x2.length : Int) then ((spec_l01In.f k ((el Ty3 x2 x1.toNat).1) 1 4).bind fun t1 => (if ¬ t1 = true then (some false) else ((spec_l01In.f k (((el Ty3 x2 x1.toNat).2).1) 1 2).bind fun t2 => (if ¬ t2 = true then (some false) else ((spec_l01In.f k (((el Ty3 x2 x1.toNat).2).2) 0 4).bind fun t3 => (if ¬ t3 = true then (some false) else (if (((el Ty3 x2 x1.toNat).2).1) = 1 then (if (((el Ty3 x2 x1.toNat).2).2) = 0 then (some false) else (spec_RulesOk.l2 k (spec_RulesOk.l1 k n) k (x1, 0, (el Ty3 x2 x1.toNat).1, ((el Ty3 x2 x1.toNat).2).1, ((el Ty3 x2 x1.toNat).2).2, x2, ()))) else (spec_RulesOk.l2 k (spec_RulesOk.l1 k n) k (x1, 0, (el Ty3 x2 x1.toNat).1, ((el Ty3 x2 x1.toNat).2).1, ((el Ty3 x2 x1.toNat).2).2, x2, ()))))))))) else none) else none) else (some (decide ((x2.length : Int) ≤ 8)))
def spec_RulesOk.f (k : Nat) (a0 : De3) : Option (Bool) :=
  spec_RulesOk.l1 k k (0, a0, ())
def spec_RulesOk.Sl1 : Shape := ⟨[(0, false, [.own 0]), (3, false, [.int .i64])], [(0, .view false 52 Ty3)], 1⟩
def spec_RulesOk.Sl2 : Shape := ⟨[(0, false, [.own 0]), (3, false, [.int .i64]), (4, false, [.ptr 1 0]), (5, false, [.int .i64])], [(1, .blk 52 [.int .i64, .int .i64, .int .i64]), (0, .view false 52 Ty3)], 2⟩
def spec_RulesOk.sig : Sig := ⟨[.val false (.sl 52 Ty3) [0]], [.val false .bool []]⟩
def spec_RulesOk.F : FT spec_RulesOk.sig := fun k x => spec_RulesOk.f k x.1
def spec_RulesOk.ann : AT spec_RulesOk.sig := fun k => (.seq .nil (.seq (.seq .nil (.block (.loop spec_RulesOk.Sl1 (spec_RulesOk.l1 k) fun n1 => (.seq .nil (.seq (.block (.seq .nil (.seq .nil (.seq .nil (.block (.loop spec_RulesOk.Sl2 (spec_RulesOk.l2 k (spec_RulesOk.l1 k n1)) fun n2 => .nil)))))) .nil))))) .nil))
def spec_RulesOk.ent : Ent := ⟨42, spec_RulesOk.sig, spec_RulesOk.F⟩
def spec_RulesOk.ctx (k : Nat) : Ctx := ⟨tds, [spec_l01In.ent], k, 68⟩
theorem spec_RulesOk.runs : RunsT spec_RulesOk.sig spec_RulesOk.ctx Try.f42 spec_RulesOk.ann spec_RulesOk.F := fun k x => by kernel_rfl
theorem spec_RulesOk.obls : OblT tds spec_RulesOk.sig spec_RulesOk.ctx 1 Try.f42 spec_RulesOk.ann := fun k => ⟨tr, ⟨⟨tr, ⟨⟨by kernel_rfl, fun x => by kernel_rfl⟩, fun n => ⟨fun x => by kernel_rfl, ⟨⟨tr, ⟨tr, tr⟩⟩, ⟨⟨tr, ⟨⟨tr, ⟨⟨tr, tr⟩, tr⟩⟩, ⟨tr, ⟨⟨by kernel_rfl, fun x => by kernel_rfl⟩, fun n => ⟨fun x => by kernel_rfl, ⟨⟨tr, ⟨tr, tr⟩⟩, ⟨⟨tr, ⟨⟨tr, tr⟩, tr⟩⟩, tr⟩⟩⟩⟩⟩⟩⟩, tr⟩⟩⟩⟩⟩, ⟨tr, tr⟩⟩⟩
theorem spec_RulesOk.ok (k : Nat) : EntOk Try.prog k spec_RulesOk.ent := fn_ok (C := spec_RulesOk.ctx k) Try.func42 (by kernel_rfl) (by kernel_rfl) mixed tdsOk (.cons (spec_l01In.ok k) EntsOk.nil) (by kernel_rfl) (leB (by kernel_rfl)) (by kernel_rfl) (spec_RulesOk.runs k) (spec_RulesOk.obls k)
/-! loop.example/g00200/spec.ReadCode -/
def spec_ReadCode.l1 (k : Nat)  : Nat → ByteArray × Int × De2 × Unit → Option (De2 × Bool)
  | 0, _ => none
  | n + 1, (x1, x2, x3, _) => if x2 < (x1.size : Int) then (if 0 ≤ x2 then (if x2 < (x1.size : Int) then (if 0 ≤ w64 (x2 + 1) then (if w64 (x2 + 1) < (x1.size : Int) then (((some ([(w64 (bt x1 x2), w64 (bt x1 (w64 (x2 + 1))))] : De2))).bind fun y2 => (if (x3.length + y2.length) * 16 ≤ 140737488355328 then (((some (x3 ++ y2))).bind fun y3 => (spec_ReadCode.l1 k n (x1, w64 (x2 + 2), y3, ()))) else none)) else none) else none) else none) else none) else (some (x3, true))
def spec_ReadCode.f (k : Nat) (a0 : ByteArray) : Option (De2 × Bool) :=
  ((some ([] : De2))).bind fun y1 => (if ¬ (Int.tmod (a0.size : Int) 2) = 0 then (some (y1, false)) else (if 120 < (a0.size : Int) then (some (y1, false)) else (spec_ReadCode.l1 k k (a0, 0, y1, ()))))
def spec_ReadCode.Sl1 : Shape := ⟨[(0, false, [.str]), (4, false, [.own 0]), (5, false, [.int .i64])], [(0, .row 108 Ty2)], 1⟩
def spec_ReadCode.sig : Sig := ⟨[.val false .str []], [.val false (.sl 108 Ty2) [none], .val false .bool []]⟩
def spec_ReadCode.F : FT spec_ReadCode.sig := fun k x => spec_ReadCode.f k x.1
def spec_ReadCode.ann : AT spec_ReadCode.sig := fun k => (.seq .nil (.seq .nil (.seq .nil (.seq (.seq .nil (.block (.loop spec_ReadCode.Sl1 (spec_ReadCode.l1 k) fun n1 => .nil))) .nil))))
def spec_ReadCode.ent : Ent := ⟨43, spec_ReadCode.sig, spec_ReadCode.F⟩
def spec_ReadCode.ctx (k : Nat) : Ctx := ⟨tds, [], k, 37⟩
theorem spec_ReadCode.runs : RunsT spec_ReadCode.sig spec_ReadCode.ctx Try.f43 spec_ReadCode.ann spec_ReadCode.F := fun k x => by kernel_rfl
theorem spec_ReadCode.obls : OblT tds spec_ReadCode.sig spec_ReadCode.ctx 0 Try.f43 spec_ReadCode.ann := fun k => ⟨tr, ⟨tr, ⟨⟨tr, ⟨⟨tr, tr⟩, tr⟩⟩, ⟨⟨tr, ⟨⟨by kernel_rfl, fun x => by kernel_rfl⟩, fun n => ⟨fun x => by kernel_rfl, ⟨⟨tr, ⟨tr, tr⟩⟩, ⟨tr, tr⟩⟩⟩⟩⟩, ⟨tr, tr⟩⟩⟩⟩⟩
theorem spec_ReadCode.ok (k : Nat) : EntOk Try.prog k spec_ReadCode.ent := fn_ok (C := spec_ReadCode.ctx k) Try.func43 (by kernel_rfl) (by kernel_rfl) mixed tdsOk EntsOk.nil (by kernel_rfl) (leB (by kernel_rfl)) (by kernel_rfl) (spec_ReadCode.runs k) (spec_ReadCode.obls k)
/-! loop.example/g00200/spec.l11Parts -/
def spec_l11Parts.l3 (k : Nat)  : Nat → Int × Int × De2 × De2 × De5 × De3 × DeB × Unit → Option (Int)
  | 0, _ => none
  | n + 1, (x1, x2, x3, x4, x5, x6, x7, _) => if x2 < (x6.length : Int) then (if 0 ≤ x2 then (if x2 < (x6.length : Int) then (if x1 < ((el Ty3 x6 x2.toNat).1) then (some 6) else (spec_l11Parts.l3 k n (x1, w64 (x2 + 1), x3, x4, x5, x6, x7, ()))) else none) else none) else (some 0)
def spec_l11Parts.l2 (k : Nat)  : Nat → Int × Int × De2 × De2 × De5 × De3 × DeB × Unit → Option (Int)
  | 0, _ => none
  | n + 1, (x1, x2, x3, x4, x5, x6, x7, _) => if x2 < (x5.length : Int) then (if 0 ≤ x2 then (if x2 < (x5.length : Int) then (if x1 < (((el Ty5 x5 x2.toNat).2).1) then (some 6) else (if 0 ≤ x2 then (if x2 < (x5.length : Int) then (if x1 < ((((el Ty5 x5 x2.toNat).2).2).1) then (some 6) else (spec_l11Parts.l2 k n (x1, w64 (x2 + 1), x3, x4, x5, x6, x7, ()))) else none) else none)) else none) else none) else (spec_l11Parts.l3 k k (x1, 0, x3, x4, x5, x6, x7, ()))
def spec_l11Parts.l1 (k : Nat)  : Nat → Int × Int × De2 × De2 × De5 × De3 × DeB × Unit → Option (Int)
  | 0, _ => none
  | n + 1, (x1, x2, x3, x4, x5, x6, x7, _) => if x2 < (x4.length : Int) then (if 0 ≤ x2 then (if x2 < (x4.length : Int) then (if x1 < ((el Ty2 x4 x2.toNat).1) then (some 6) else (spec_l11Parts.l1 k n (x1, w64 (x2 + 1), x3, x4, x5, x6, x7, ()))) else none) else none) else (spec_l11Parts.l2 k k (x1, 0, x3, x4, x5, x6, x7, ()))
def spec_l11Parts.f (k : Nat) (a0 : De2 × De2 × De5 × De3 × DeB) : Option (Int) :=
  spec_l11Parts.l1 k k ((a0.1.length : Int), 0, a0.1, a0.2.1, a0.2.2.1, a0.2.2.2.1, a0.2.2.2.2, ())
def spec_l11Parts.Sl1 : Shape := ⟨[(1, false, [.ptr 5 0]), (3, false, [.int .i64]), (4, false, [.int .i64])], [(5, .blk 28 [.own 0, .own 1, .own 2, .own 3, .own 4]), (0, .view false 46 Ty2), (1, .view false 48 Ty2), (2, .view false 50 Ty5), (3, .view false 52 Ty3), (4, .view false 9 .str)], 6⟩
def spec_l11Parts.Sl2 : Shape := ⟨[(1, false, [.ptr 5 0]), (3, false, [.int .i64]), (5, false, [.int .i64])], [(5, .blk 28 [.own 0, .own 1, .own 2, .own 3, .own 4]), (0, .view false 46 Ty2), (1, .view false 48 Ty2), (2, .view false 50 Ty5), (3, .view false 52 Ty3), (4, .view false 9 .str)], 6⟩
def spec_l11Parts.Sl3 : Shape := ⟨[(1, false, [.ptr 5 0]), (3, false, [.int .i64]), (6, false, [.int .i64])], [(5, .blk 28 [.own 0, .own 1, .own 2, .own 3, .own 4]), (0, .view false 46 Ty2), (1, .view false 48 Ty2), (2, .view false 50 Ty5), (3, .view false 52 Ty3), (4, .view false 9 .str)], 6⟩
def spec_l11Parts.sig : Sig := ⟨[.val true (.pair (.sl 46 Ty2) (.pair (.sl 48 Ty2) (.pair (.sl 50 Ty5) (.pair (.sl 52 Ty3) (.sl 9 .str))))) [0, 0, 0, 0, 0]], [.val false TyI []]⟩
def spec_l11Parts.F : FT spec_l11Parts.sig := fun k x => spec_l11Parts.f k x.1
def spec_l11Parts.ann : AT spec_l11Parts.sig := fun k => (.seq .nil (.seq .nil (.seq (.seq .nil (.block (.loop spec_l11Parts.Sl1 (spec_l11Parts.l1 k) fun n1 => .nil))) (.seq (.seq .nil (.block (.loop spec_l11Parts.Sl2 (spec_l11Parts.l2 k) fun n1 => .nil))) (.seq (.seq .nil (.block (.loop spec_l11Parts.Sl3 (spec_l11Parts.l3 k) fun n1 => .nil))) .nil)))))
def spec_l11Parts.ent : Ent := ⟨44, spec_l11Parts.sig, spec_l11Parts.F⟩
def spec_l11Parts.ctx (k : Nat) : Ctx := ⟨tds, [], k, 65⟩
theorem spec_l11Parts.runs : RunsT spec_l11Parts.sig spec_l11Parts.ctx Try.f44 spec_l11Parts.ann spec_l11Parts.F := fun k x => by kernel_rfl
theorem spec_l11Parts.obls : OblT tds spec_l11Parts.sig spec_l11Parts.ctx 5 Try.f44 spec_l11Parts.ann := fun k => ⟨tr, ⟨tr, ⟨⟨tr, ⟨⟨by kernel_rfl, fun x => by kernel_rfl⟩, fun n => ⟨fun x => by kernel_rfl, ⟨⟨tr, ⟨tr, tr⟩⟩, ⟨⟨tr, ⟨⟨tr, tr⟩, tr⟩⟩, tr⟩⟩⟩⟩⟩, ⟨⟨tr, ⟨⟨by kernel_rfl, fun x => by kernel_rfl⟩, fun n => ⟨fun x => by kernel_rfl, ⟨⟨tr, ⟨tr, tr⟩⟩, ⟨⟨tr, ⟨⟨tr, tr⟩, tr⟩⟩, tr⟩⟩⟩⟩⟩, ⟨⟨tr, ⟨⟨by kernel_rfl, fun x => by kernel_rfl⟩, fun n => ⟨fun x => by kernel_rfl, ⟨⟨tr, ⟨tr, tr⟩⟩, ⟨⟨tr, ⟨⟨tr, tr⟩, tr⟩⟩, tr⟩⟩⟩⟩⟩, ⟨tr, tr⟩⟩⟩⟩⟩⟩
theorem spec_l11Parts.ok (k : Nat) : EntOk Try.prog k spec_l11Parts.ent := fn_ok (C := spec_l11Parts.ctx k) Try.func44 (by kernel_rfl) (by kernel_rfl) mixed tdsOk EntsOk.nil (by kernel_rfl) (leB (by kernel_rfl)) (by kernel_rfl) (spec_l11Parts.runs k) (spec_l11Parts.obls k)
/-! loop.example/g00200/spec.SetupFault -/
def spec_SetupFault.l2 (k : Nat)  : Nat → Int × De2 × De2 × De5 × De3 × DeB × Unit → Option (Int)
  | 0, _ => none
  | n + 1, (x1, x2, x3, x4, x5, x6, _) => if x1 < (x6.length : Int) then (if 0 ≤ x1 then (if x1 < (x6.length : Int) then ((spec_ReadCode.f k (el .str x6 x1.toNat)).bind fun t5 => (if ¬ t5.2 = true then (some 5) else (spec_SetupFault.l2 k n (w64 (x1 + 1), x2, x3, x4, x5, x6, ())))) else none) else none) else ((spec_l11Parts.f k (x2, (x3, (x4, (x5, x6))))).bind fun t6 => (some t6))
def spec_SetupFault.l1 (k : Nat)  : Nat → Int × De2 × De2 × De5 × De3 × DeB × Unit → Option (Int)
  | 0, _ => none
  | n + 1, (x1, x2, x3, x4, x5, x6, _) => if x1 < (x4.length : Int) then (if 0 ≤ x1 then (if x1 < (x4.length : Int) then ((spec_PortOk.f k ((el Ty5 x4 x1.toNat).1, (((el Ty5 x4 x1.toNat).2).1, ((((el Ty5 x4 x1.toNat).2).2).1, ((((el Ty5 x4 x1.toNat).2).2).2))))).bind fun t3 => (if ¬ t3 = true then (some 3) else (if 6 ≤ x1 then (some 3) else (spec_SetupFault.l1 k n (w64 (x1 + 1), x2, x3, x4, x5, x6, ()))))) else none) else none) else ((spec_RulesOk.f k x5).bind fun t4 => (if ¬ t4 = true then (some 4) else (if ¬ (x6.length : Int) = (x2.length : Int) then (some 5) else (spec_SetupFault.l2 k k (0, x2, x3, x4, x5, x6, ())))))
def spec_SetupFault.f (k : Nat) (a0 : De2 × De2 × De5 × De3 × DeB) : Option (Int) :=
  (spec_RegionsOk.f k a0.1).bind fun t1 => (if ¬ t1 = true then (some 1) else ((spec_PlanOk.f k a0.2.1).bind fun t2 => (if ¬ t2 = true then (some 2) else (spec_SetupFault.l1 k k (0, a0.1, a0.2.1, a0.2.2.1, a0.2.2.2.1, a0.2.2.2.2, ())))))
def spec_SetupFault.Sl1 : Shape := ⟨[(1, false, [.ptr 5 0]), (3, false, [.int .i64])], [(5, .blk 28 [.own 0, .own 1, .own 2, .own 3, .own 4]), (0, .view false 46 Ty2), (1, .view false 48 Ty2), (2, .view false 50 Ty5), (3, .view false 52 Ty3), (4, .view false 9 .str)], 6⟩
def spec_SetupFault.Sl2 : Shape := ⟨[(1, false, [.ptr 5 0]), (4, false, [.int .i64])], [(5, .blk 28 [.own 0, .own 1, .own 2, .own 3, .own 4]), (0, .view false 46 Ty2), (1, .view false 48 Ty2), (2, .view false 50 Ty5), (3, .view false 52 Ty3), (4, .view false 9 .str)], 6⟩
def spec_SetupFault.sig : Sig := ⟨[.val true (.pair (.sl 46 Ty2) (.pair (.sl 48 Ty2) (.pair (.sl 50 Ty5) (.pair (.sl 52 Ty3) (.sl 9 .str))))) [0, 0, 0, 0, 0]], [.val false TyI []]⟩
def spec_SetupFault.F : FT spec_SetupFault.sig := fun k x => spec_SetupFault.f k x.1
def spec_SetupFault.ann : AT spec_SetupFault.sig := fun k => (.seq .nil (.seq .nil (.seq .nil (.seq (.seq .nil (.block (.loop spec_SetupFault.Sl1 (spec_SetupFault.l1 k) fun n1 => .nil))) (.seq .nil (.seq .nil (.seq (.seq .nil (.block (.loop spec_SetupFault.Sl2 (spec_SetupFault.l2 k) fun n1 => .nil))) .nil)))))))
def spec_SetupFault.ent : Ent := ⟨13, spec_SetupFault.sig, spec_SetupFault.F⟩
def spec_SetupFault.ctx (k : Nat) : Ctx := ⟨tds, [spec_RegionsOk.ent, spec_PlanOk.ent, spec_PortOk.ent, spec_RulesOk.ent, spec_ReadCode.ent, spec_l11Parts.ent], k, 64⟩
theorem spec_SetupFault.runs : RunsT spec_SetupFault.sig spec_SetupFault.ctx Try.f13 spec_SetupFault.ann spec_SetupFault.F := fun k x => by kernel_rfl
theorem spec_SetupFault.obls : OblT tds spec_SetupFault.sig spec_SetupFault.ctx 5 Try.f13 spec_SetupFault.ann := fun k => ⟨tr, ⟨⟨tr, ⟨⟨tr, tr⟩, tr⟩⟩, ⟨⟨tr, ⟨⟨tr, tr⟩, tr⟩⟩, ⟨⟨tr, ⟨⟨by kernel_rfl, fun x => by kernel_rfl⟩, fun n => ⟨fun x => by kernel_rfl, ⟨⟨tr, ⟨tr, tr⟩⟩, ⟨⟨tr, ⟨⟨tr, tr⟩, tr⟩⟩, tr⟩⟩⟩⟩⟩, ⟨⟨tr, ⟨⟨tr, tr⟩, tr⟩⟩, ⟨⟨tr, ⟨⟨tr, tr⟩, tr⟩⟩, ⟨⟨tr, ⟨⟨by kernel_rfl, fun x => by kernel_rfl⟩, fun n => ⟨fun x => by kernel_rfl, ⟨⟨tr, ⟨tr, tr⟩⟩, ⟨⟨tr, ⟨tr, ⟨⟨tr, tr⟩, tr⟩⟩⟩, tr⟩⟩⟩⟩⟩, ⟨tr, tr⟩⟩⟩⟩⟩⟩⟩⟩
theorem spec_SetupFault.ok (k : Nat) : EntOk Try.prog k spec_SetupFault.ent := fn_ok (C := spec_SetupFault.ctx k) Try.func13 (by kernel_rfl) (by kernel_rfl) mixed tdsOk (.cons (spec_RegionsOk.ok k) (.cons (spec_PlanOk.ok k) (.cons (spec_PortOk.ok k) (.cons (spec_RulesOk.ok k) (.cons (spec_ReadCode.ok k) (.cons (spec_l11Parts.ok k) EntsOk.nil)))))) (by kernel_rfl) (leB (by kernel_rfl)) (by kernel_rfl) (spec_SetupFault.runs k) (spec_SetupFault.obls k)
/-! loop.example/g00200/spec.SetupText -/
def spec_SetupText.l5 (k : Nat)  : Nat → ByteArray × Int × De2 × De2 × De5 × De3 × DeB × Unit → Option (ByteArray × Bool)
  | 0, _ => none
  | n + 1, (x1, x2, x3, x4, x5, x6, x7, _) => if x2 < (x7.length : Int) then (if 0 ≤ x2 then (if x2 < (x7.length : Int) then ((spec_l01Var.f k ((el .str x7 x2.toNat).size : Int)).bind fun t18 => (if x1.size + t18.size ≤ 9223372036854775807 then (if 0 ≤ x2 then (if x2 < (x7.length : Int) then (if (x1 ++ t18).size + (el .str x7 x2.toNat).size ≤ 9223372036854775807 then (spec_SetupText.l5 k n ((x1 ++ t18) ++ (el .str x7 x2.toNat), w64 (x2 + 1), x3, x4, x5, x6, x7, ())) else none) else none) else none) else none)) else none) else none) else (some (x1, true))
def spec_SetupText.l4 (k : Nat)  : Nat → ByteArray × Int × De2 × De2 × De5 × De3 × DeB × Unit → Option (ByteArray × Bool)
  | 0, _ => none
  | n + 1, (x1, x2, x3, x4, x5, x6, x7, _) => if x2 < (x6.length : Int) then (if 0 ≤ x2 then (if x2 < (x6.length : Int) then ((spec_l01Var.f k ((el Ty3 x6 x2.toNat).1)).bind fun t15 => (if x1.size + t15.size ≤ 9223372036854775807 then (if 0 ≤ x2 then (if x2 < (x6.length : Int) then ((spec_l01Var.f k (((el Ty3 x6 x2.toNat).2).1)).bind fun t16 => (if (x1 ++ t15).size + t16.size ≤ 9223372036854775807 then (if 0 ≤ x2 then (if x2 < (x6.length : Int) then ((spec_l01Var.f k (((el Ty3 x6 x2.toNat).2).2)).bind fun t17 => (if ((x1 ++ t15) ++ t16).size + t17.size ≤ 9223372036854775807 then (spec_SetupText.l4 k n (((x1 ++ t15) ++ t16) ++ t17, w64 (x2 + 1), x3, x4, x5, x6, x7, ())) else none)) else none) else none) else none)) else none) else none) else none)) else none) else none) else (spec_SetupText.l5 k k (x1, 0, x3, x4, x5, x6, x7, ()))
def spec_SetupText.l3 (k : Nat)  : Nat → ByteArray × Int × De2 × De2 × De5 × De3 × DeB × Unit → Option (ByteArray × Bool)
  | 0, _ => none
  | n + 1, (x1, x2, x3, x4, x5, x6, x7, _) => if x2 < (x5.length : Int) then (if 0 ≤ x2 then (if x2 < (x5.length : Int) then ((spec_l01Var.f k ((el Ty5 x5 x2.toNat).1)).bind fun t9 => (if x1.size + t9.size ≤ 9223372036854775807 then ((spec_l01Var.f k (((el Ty5 x5 x2.toNat).2).1)).bind fun t10 => (if (x1 ++ t9).size + t10.size ≤ 9223372036854775807 then ((spec_l01Var.f k ((((el Ty5 x5 x2.toNat).2).2).1)).bind fun t11 => (if ((x1 ++ t9) ++ t10).size + t11.size ≤ 9223372036854775807 then ((spec_l01Var.f k (((((el Ty5 x5 x2.toNat).2).2).2).1)).bind fun t12 => (if (((x1 ++ t9) ++ t10) ++ t11).size + t12.size ≤ 9223372036854775807 then ((spec_l01Var.f k (((((el Ty5 x5 x2.toNat).2).2).2).2)).bind fun t13 => (if ((((x1 ++ t9) ++ t10) ++ t11) ++ t12).size + t13.size ≤ 9223372036854775807 then (spec_SetupText.l3 k n (((((x1 ++ t9) ++ t10) ++ t11) ++ t12) ++ t13, w64 (x2 + 1), x3, x4, x5, x6, x7, ())) else none)) else none)) else none)) else none)) else none)) else none) else none) else ((spec_l01Var.f k (x6.length : Int)).bind fun t14 => (if x1.size + t14.size ≤ 9223372036854775807 then (spec_SetupText.l4 k k (x1 ++ t14, 0, x3, x4, x5, x6, x7, ())) else none))
def spec_SetupText.l2 (k : Nat)  : Nat → ByteArray × Int × De2 × De2 × De5 × De3 × DeB × Unit → Option (ByteArray × Bool)
  | 0, _ => none
  | n + 1, (x1, x2, x3, x4, x5, x6, x7, _) => if x2 < (x4.length : Int) then (if 0 ≤ x2 then (if x2 < (x4.length : Int) then ((spec_l01Var.f k ((el Ty2 x4 x2.toNat).1)).bind fun t6 => (if x1.size + t6.size ≤ 9223372036854775807 then (if 0 ≤ x2 then (if x2 < (x4.length : Int) then ((spec_l01Var.f k ((el Ty2 x4 x2.toNat).2)).bind fun t7 => (if (x1 ++ t6).size + t7.size ≤ 9223372036854775807 then (spec_SetupText.l2 k n ((x1 ++ t6) ++ t7, w64 (x2 + 1), x3, x4, x5, x6, x7, ())) else none)) else none) else none) else none)) else none) else none) else ((spec_l01Var.f k (x5.length : Int)).bind fun t8 => (if x1.size + t8.size ≤ 9223372036854775807 then (spec_SetupText.l3 k k (x1 ++ t8, 0, x3, x4, x5, x6, x7, ())) else none))
def spec_SetupText.l1 (k : Nat)  : Nat → ByteArray × Int × De2 × De2 × De5 × De3 × DeB × Unit → Option (ByteArray × Bool)
  | 0, _ => none
  | n + 1, (x1, x2, x3, x4, x5, x6, x7, _) => if x2 < (x3.length : Int) then (if 0 ≤ x2 then (if x2 < (x3.length : Int) then ((spec_l01Var.f k ((el Ty2 x3 x2.toNat).1)).bind fun t3 => (if x1.size + t3.size ≤ 9223372036854775807 then (if 0 ≤ x2 then (if x2 < (x3.length : Int) then ((spec_l01Var.f k ((el Ty2 x3 x2.toNat).2)).bind fun t4 => (if (x1 ++ t3).size + t4.size ≤ 9223372036854775807 then (spec_SetupText.l1 k n ((x1 ++ t3) ++ t4, w64 (x2 + 1), x3, x4, x5, x6, x7, ())) else none)) else none) else none) else none)) else none) else none) else ((spec_l01Var.f k (x4.length : Int)).bind fun t5 => (if x1.size + t5.size ≤ 9223372036854775807 then (spec_SetupText.l2 k k (x1 ++ t5, 0, x3, x4, x5, x6, x7, ())) else none))
def spec_SetupText.f (k : Nat) (a0 : De2 × De2 × De5 × De3 × DeB) : Option (ByteArray × Bool) :=
  (spec_SetupFault.f k a0).bind fun t1 => (if ¬ t1 = 0 then (some ((⟨#[]⟩ : ByteArray), false)) else ((spec_l01Var.f k (a0.1.length : Int)).bind fun t2 => (spec_SetupText.l1 k k (t2, 0, a0.1, a0.2.1, a0.2.2.1, a0.2.2.2.1, a0.2.2.2.2, ()))))
def spec_SetupText.Sl1 : Shape := ⟨[(1, false, [.ptr 5 0]), (4, false, [.str]), (5, false, [.int .i64])], [(5, .blk 28 [.own 0, .own 1, .own 2, .own 3, .own 4]), (0, .view false 46 Ty2), (1, .view false 48 Ty2), (2, .view false 50 Ty5), (3, .view false 52 Ty3), (4, .view false 9 .str)], 6⟩
def spec_SetupText.Sl2 : Shape := ⟨[(1, false, [.ptr 5 0]), (4, false, [.str]), (6, false, [.int .i64])], [(5, .blk 28 [.own 0, .own 1, .own 2, .own 3, .own 4]), (0, .view false 46 Ty2), (1, .view false 48 Ty2), (2, .view false 50 Ty5), (3, .view false 52 Ty3), (4, .view false 9 .str)], 6⟩
def spec_SetupText.Sl3 : Shape := ⟨[(1, false, [.ptr 5 0]), (4, false, [.str]), (7, false, [.int .i64])], [(5, .blk 28 [.own 0, .own 1, .own 2, .own 3, .own 4]), (0, .view false 46 Ty2), (1, .view false 48 Ty2), (2, .view false 50 Ty5), (3, .view false 52 Ty3), (4, .view false 9 .str)], 6⟩
def spec_SetupText.Sl4 : Shape := ⟨[(1, false, [.ptr 5 0]), (4, false, [.str]), (9, false, [.int .i64])], [(5, .blk 28 [.own 0, .own 1, .own 2, .own 3, .own 4]), (0, .view false 46 Ty2), (1, .view false 48 Ty2), (2, .view false 50 Ty5), (3, .view false 52 Ty3), (4, .view false 9 .str)], 6⟩
def spec_SetupText.Sl5 : Shape := ⟨[(1, false, [.ptr 5 0]), (4, false, [.str]), (10, false, [.int .i64])], [(5, .blk 28 [.own 0, .own 1, .own 2, .own 3, .own 4]), (0, .view false 46 Ty2), (1, .view false 48 Ty2), (2, .view false 50 Ty5), (3, .view false 52 Ty3), (4, .view false 9 .str)], 6⟩
def spec_SetupText.sig : Sig := ⟨[.val true (.pair (.sl 46 Ty2) (.pair (.sl 48 Ty2) (.pair (.sl 50 Ty5) (.pair (.sl 52 Ty3) (.sl 9 .str))))) [0, 0, 0, 0, 0]], [.val false .str [], .val false .bool []]⟩
def spec_SetupText.F : FT spec_SetupText.sig := fun k x => spec_SetupText.f k x.1
def spec_SetupText.ann : AT spec_SetupText.sig := fun k => (.seq .nil (.seq .nil (.seq .nil (.seq (.seq .nil (.block (.loop spec_SetupText.Sl1 (spec_SetupText.l1 k) fun n1 => .nil))) (.seq .nil (.seq (.seq .nil (.block (.loop spec_SetupText.Sl2 (spec_SetupText.l2 k) fun n1 => .nil))) (.seq .nil (.seq (.seq .nil (.block (.loop spec_SetupText.Sl3 (spec_SetupText.l3 k) fun n1 => .nil))) (.seq .nil (.seq (.seq .nil (.block (.loop spec_SetupText.Sl4 (spec_SetupText.l4 k) fun n1 => .nil))) (.seq (.seq .nil (.block (.loop spec_SetupText.Sl5 (spec_SetupText.l5 k) fun n1 => .nil))) .nil)))))))))))
def spec_SetupText.ent : Ent := ⟨18, spec_SetupText.sig, spec_SetupText.F⟩
def spec_SetupText.ctx (k : Nat) : Ctx := ⟨tds, [spec_SetupFault.ent, spec_l01Var.ent], k, 172⟩
theorem spec_SetupText.runs : RunsT spec_SetupText.sig spec_SetupText.ctx Try.f18 spec_SetupText.ann spec_SetupText.F := fun k x => by kernel_rfl
theorem spec_SetupText.obls : OblT tds spec_SetupText.sig spec_SetupText.ctx 5 Try.f18 spec_SetupText.ann := fun k => ⟨tr, ⟨⟨tr, ⟨⟨tr, tr⟩, tr⟩⟩, ⟨tr, ⟨⟨tr, ⟨⟨by kernel_rfl, fun x => by kernel_rfl⟩, fun n => ⟨fun x => by kernel_rfl, ⟨⟨tr, ⟨tr, tr⟩⟩, ⟨tr, tr⟩⟩⟩⟩⟩, ⟨tr, ⟨⟨tr, ⟨⟨by kernel_rfl, fun x => by kernel_rfl⟩, fun n => ⟨fun x => by kernel_rfl, ⟨⟨tr, ⟨tr, tr⟩⟩, ⟨tr, tr⟩⟩⟩⟩⟩, ⟨tr, ⟨⟨tr, ⟨⟨by kernel_rfl, fun x => by kernel_rfl⟩, fun n => ⟨fun x => by kernel_rfl, ⟨⟨tr, ⟨tr, tr⟩⟩, ⟨⟨tr, tr⟩, tr⟩⟩⟩⟩⟩, ⟨tr, ⟨⟨tr, ⟨⟨by kernel_rfl, fun x => by kernel_rfl⟩, fun n => ⟨fun x => by kernel_rfl, ⟨⟨tr, ⟨tr, tr⟩⟩, ⟨tr, tr⟩⟩⟩⟩⟩, ⟨⟨tr, ⟨⟨by kernel_rfl, fun x => by kernel_rfl⟩, fun n => ⟨fun x => by kernel_rfl, ⟨⟨tr, ⟨tr, tr⟩⟩, ⟨tr, tr⟩⟩⟩⟩⟩, ⟨tr, tr⟩⟩⟩⟩⟩⟩⟩⟩⟩⟩⟩⟩
theorem spec_SetupText.ok (k : Nat) : EntOk Try.prog k spec_SetupText.ent := fn_ok (C := spec_SetupText.ctx k) Try.func18 (by kernel_rfl) (by kernel_rfl) mixed tdsOk (.cons (spec_SetupFault.ok k) (.cons (spec_l01Var.ok k) EntsOk.nil)) (by kernel_rfl) (leB (by kernel_rfl)) (by kernel_rfl) (spec_SetupText.runs k) (spec_SetupText.obls k)
/-! loop.example/g00200/spec.ReadSetup -/
def spec_ReadSetup.l5 (k : Nat)  : Nat → ByteArray × Int × ByteArray × Int × Bool × De2 × De2 × De5 × De3 × DeB × De2 × De2 × De5 × De3 × DeB × Unit → Option (DeS × Bool)
  | 0, _ => none
  | n + 1, (x1, x2, x3, x4, x5, x6, x7, x8, x9, x10, x11, x12, x13, x14, x15, _) => if x2 < (x11.length : Int) then (if ¬ x5 = true then ((spec_l11Short.f k (x3, (x4, x5))).bind fun t31 => (((some ([t31.1] : DeB))).bind fun y32 => (if (x15.length + y32.length) * 16 ≤ 140737488355328 then (((some (x15 ++ y32))).bind fun y33 => (spec_ReadSetup.l5 k n (x1, w64 (x2 + 1), t31.2.1, t31.2.2.1, t31.2.2.2, x6, x7, x8, x9, x10, x11, x12, x13, x14, y33, ()))) else none))) else ((spec_SetupText.f k (x11, (x12, (x13, (x14, x15))))).bind fun t34 => (if x5 = true then (some (([], ([], ([], ([], [])))), false)) else (if ¬ t34.2 = true then (some (([], ([], ([], ([], [])))), false)) else (if ¬ t34.1 = x1 then (some (([], ([], ([], ([], [])))), false)) else (some ((x11, (x12, (x13, (x14, x15)))), true))))))) else ((spec_SetupText.f k (x11, (x12, (x13, (x14, x15))))).bind fun t35 => (if x5 = true then (some (([], ([], ([], ([], [])))), false)) else (if ¬ t35.2 = true then (some (([], ([], ([], ([], [])))), false)) else (if ¬ t35.1 = x1 then (some (([], ([], ([], ([], [])))), false)) else (some ((x11, (x12, (x13, (x14, x15)))), true))))))
def spec_ReadSetup.l4 (k : Nat)  : Nat → ByteArray × Int × Int × ByteArray × Int × Bool × De2 × De2 × De5 × De3 × DeB × De2 × De2 × De5 × De3 × DeB × Unit → Option (DeS × Bool)
  | 0, _ => none
  | n + 1, (x1, x2, x3, x4, x5, x6, x7, x8, x9, x10, x11, x12, x13, x14, x15, x16, _) => if x3 < x2 then (if x3 < 50 then (if ¬ x6 = true then ((spec_l11Var.f k (x4, (x5, x6))).bind fun t26 => ((spec_l11Var.f k t26.2).bind fun t27 => ((spec_l11Var.f k t27.2).bind fun t28 => (((some ([(t26.1, (t27.1, t28.1))] : De3))).bind fun y29 => (if (x15.length + y29.length) * 24 ≤ 140737488355328 then (((some (x15 ++ y29))).bind fun y30 => (spec_ReadSetup.l4 k n (x1, x2, w64 (x3 + 1), t28.2.1, t28.2.2.1, t28.2.2.2, x7, x8, x9, x10, x11, x12, x13, x14, y30, x16, ()))) else none))))) else (spec_ReadSetup.l5 k k (x1, 0, x4, x5, x6, x7, x8, x9, x10, x11, x12, x13, x14, x15, x16, ()))) else (spec_ReadSetup.l5 k k (x1, 0, x4, x5, x6, x7, x8, x9, x10, x11, x12, x13, x14, x15, x16, ()))) else (spec_ReadSetup.l5 k k (x1, 0, x4, x5, x6, x7, x8, x9, x10, x11, x12, x13, x14, x15, x16, ()))
def spec_ReadSetup.l3 (k : Nat)  : Nat → ByteArray × Int × Int × ByteArray × Int × Bool × De2 × De2 × De5 × De3 × DeB × De2 × De2 × De5 × De3 × DeB × Unit → Option (DeS × Bool)
  | 0, _ => none
  | n + 1, (x1, x2, x3, x4, x5, x6, x7, x8, x9, x10, x11, x12, x13, x14, x15, x16, _) => if x3 < x2 then (if x3 < 50 then (if ¬ x6 = true then ((spec_l11Var.f k (x4, (x5, x6))).bind fun t16 => ((spec_l11Var.f k t16.2).bind fun t17 => ((spec_l11Var.f k t17.2).bind fun t18 => ((spec_l11Var.f k t18.2).bind fun t19 => ((spec_l11Var.f k t19.2).bind fun t20 => (((some ([(t16.1, (t17.1, (t18.1, (t19.1, t20.1))))] : De5))).bind fun y21 => (if (x14.length + y21.length) * 40 ≤ 140737488355328 then (((some (x14 ++ y21))).bind fun y22 => (spec_ReadSetup.l3 k n (x1, x2, w64 (x3 + 1), t20.2.1, t20.2.2.1, t20.2.2.2, x7, x8, x9, x10, x11, x12, x13, y22, x15, x16, ()))) else none))))))) else ((spec_l11Var.f k (x4, (x5, x6))).bind fun t23 => (spec_ReadSetup.l4 k k (x1, t23.1, 0, t23.2.1, t23.2.2.1, t23.2.2.2, x7, x8, x9, x10, x11, x12, x13, x14, x15, x16, ())))) else ((spec_l11Var.f k (x4, (x5, x6))).bind fun t24 => (spec_ReadSetup.l4 k k (x1, t24.1, 0, t24.2.1, t24.2.2.1, t24.2.2.2, x7, x8, x9, x10, x11, x12, x13, x14, x15, x16, ())))) else ((spec_l11Var.f k (x4, (x5, x6))).bind fun t25 => (spec_ReadSetup.l4 k k (x1, t25.1, 0, t25.2.1, t25.2.2.1, t25.2.2.2, x7, x8, x9, x10, x11, x12, x13, x14, x15, x16, ())))
def spec_ReadSetup.l2 (k : Nat)  : Nat → ByteArray × Int × Int × ByteArray × Int × Bool × De2 × De2 × De5 × De3 × DeB × De2 × De2 × De5 × De3 × DeB × Unit → Option (DeS × Bool)
  | 0, _ => none
  | n + 1, (x1, x2, x3, x4, x5, x6, x7, x8, x9, x10, x11, x12, x13, x14, x15, x16, _) => if x3 < x2 then (if x3 < 50 then (if ¬ x6 = true then ((spec_l11Var.f k (x4, (x5, x6))).bind fun t9 => ((spec_l11Var.f k t9.2).bind fun t10 => (((some ([(t9.1, t10.1)] : De2))).bind fun y11 => (if (x13.length + y11.length) * 16 ≤ 140737488355328 then (((some (x13 ++ y11))).bind fun y12 => (spec_ReadSetup.l2 k n (x1, x2, w64 (x3 + 1), t10.2.1, t10.2.2.1, t10.2.2.2, x7, x8, x9, x10, x11, x12, y12, x14, x15, x16, ()))) else none)))) else ((spec_l11Var.f k (x4, (x5, x6))).bind fun t13 => (spec_ReadSetup.l3 k k (x1, t13.1, 0, t13.2.1, t13.2.2.1, t13.2.2.2, x7, x8, x9, x10, x11, x12, x13, x14, x15, x16, ())))) else ((spec_l11Var.f k (x4, (x5, x6))).bind fun t14 => (spec_ReadSetup.l3 k k (x1, t14.1, 0, t14.2.1, t14.2.2.1, t14.2.2.2, x7, x8, x9, x10, x11, x12, x13, x14, x15, x16, ())))) else ((spec_l11Var.f k (x4, (x5, x6))).bind fun t15 => (spec_ReadSetup.l3 k k (x1, t15.1, 0, t15.2.1, t15.2.2.1, t15.2.2.2, x7, x8, x9, x10, x11, x12, x13, x14, x15, x16, ())))
def spec_ReadSetup.l1 (k : Nat)  : Nat → ByteArray × Int × Int × ByteArray × Int × Bool × De2 × De2 × De5 × De3 × DeB × De2 × De2 × De5 × De3 × DeB × Unit → Option (DeS × Bool)
  | 0, _ => none
  | n + 1, (x1, x2, x3, x4, x5, x6, x7, x8, x9, x10, x11, x12, x13, x14, x15, x16, _) => if x3 < x2 then (if x3 < 50 then (if ¬ x6 = true then ((spec_l11Var.f k (x4, (x5, x6))).bind fun t2 => ((spec_l11Var.f k t2.2).bind fun t3 => (((some ([(t2.1, t3.1)] : De2))).bind fun y4 => (if (x12.length + y4.length) * 16 ≤ 140737488355328 then (((some (x12 ++ y4))).bind fun y5 => (spec_ReadSetup.l1 k n (x1, x2, w64 (x3 + 1), t3.2.1, t3.2.2.1, t3.2.2.2, x7, x8, x9, x10, x11, y5, x13, x14, x15, x16, ()))) else none)))) else ((spec_l11Var.f k (x4, (x5, x6))).bind fun t6 => (spec_ReadSetup.l2 k k (x1, t6.1, 0, t6.2.1, t6.2.2.1, t6.2.2.2, x7, x8, x9, x10, x11, x12, x13, x14, x15, x16, ())))) else ((spec_l11Var.f k (x4, (x5, x6))).bind fun t7 => (spec_ReadSetup.l2 k k (x1, t7.1, 0, t7.2.1, t7.2.2.1, t7.2.2.2, x7, x8, x9, x10, x11, x12, x13, x14, x15, x16, ())))) else ((spec_l11Var.f k (x4, (x5, x6))).bind fun t8 => (spec_ReadSetup.l2 k k (x1, t8.1, 0, t8.2.1, t8.2.2.1, t8.2.2.2, x7, x8, x9, x10, x11, x12, x13, x14, x15, x16, ())))
def spec_ReadSetup.f (k : Nat) (a0 : ByteArray) : Option (DeS × Bool) :=
  (spec_l11Var.f k (a0, (0, false))).bind fun t1 => (spec_ReadSetup.l1 k k (a0, t1.1, 0, t1.2.1, t1.2.2.1, t1.2.2.2, [], [], [], [], [], [], [], [], [], [], ()))
def spec_ReadSetup.Sl1 : Shape := ⟨[(0, false, [.str]), (2, false, [.ptr 0 0]), (4, false, [.ptr 6 0]), (5, false, [.ptr 7 0]), (6, false, [.int .i64]), (7, false, [.int .i64])], [(0, .blk 28 [.own 1, .own 2, .own 3, .own 4, .own 5]), (6, .blk 43 [.str, .int .i64, .bool]), (7, .blk 28 [.own 8, .own 9, .own 10, .own 11, .own 12]), (1, .row 46 Ty2), (2, .row 48 Ty2), (3, .row 50 Ty5), (4, .row 52 Ty3), (5, .row 9 .str), (8, .row 46 Ty2), (9, .row 48 Ty2), (10, .row 50 Ty5), (11, .row 52 Ty3), (12, .row 9 .str)], 13⟩
def spec_ReadSetup.Sl2 : Shape := ⟨[(0, false, [.str]), (2, false, [.ptr 0 0]), (4, false, [.ptr 6 0]), (5, false, [.ptr 7 0]), (6, false, [.int .i64]), (9, false, [.int .i64])], [(0, .blk 28 [.own 1, .own 2, .own 3, .own 4, .own 5]), (6, .blk 43 [.str, .int .i64, .bool]), (7, .blk 28 [.own 8, .own 9, .own 10, .own 11, .own 12]), (1, .row 46 Ty2), (2, .row 48 Ty2), (3, .row 50 Ty5), (4, .row 52 Ty3), (5, .row 9 .str), (8, .row 46 Ty2), (9, .row 48 Ty2), (10, .row 50 Ty5), (11, .row 52 Ty3), (12, .row 9 .str)], 13⟩
def spec_ReadSetup.Sl3 : Shape := ⟨[(0, false, [.str]), (2, false, [.ptr 0 0]), (4, false, [.ptr 6 0]), (5, false, [.ptr 7 0]), (6, false, [.int .i64]), (11, false, [.int .i64])], [(0, .blk 28 [.own 1, .own 2, .own 3, .own 4, .own 5]), (6, .blk 43 [.str, .int .i64, .bool]), (7, .blk 28 [.own 8, .own 9, .own 10, .own 11, .own 12]), (1, .row 46 Ty2), (2, .row 48 Ty2), (3, .row 50 Ty5), (4, .row 52 Ty3), (5, .row 9 .str), (8, .row 46 Ty2), (9, .row 48 Ty2), (10, .row 50 Ty5), (11, .row 52 Ty3), (12, .row 9 .str)], 13⟩
def spec_ReadSetup.Sl4 : Shape := ⟨[(0, false, [.str]), (2, false, [.ptr 0 0]), (4, false, [.ptr 6 0]), (5, false, [.ptr 7 0]), (6, false, [.int .i64]), (13, false, [.int .i64])], [(0, .blk 28 [.own 1, .own 2, .own 3, .own 4, .own 5]), (6, .blk 43 [.str, .int .i64, .bool]), (7, .blk 28 [.own 8, .own 9, .own 10, .own 11, .own 12]), (1, .row 46 Ty2), (2, .row 48 Ty2), (3, .row 50 Ty5), (4, .row 52 Ty3), (5, .row 9 .str), (8, .row 46 Ty2), (9, .row 48 Ty2), (10, .row 50 Ty5), (11, .row 52 Ty3), (12, .row 9 .str)], 13⟩
def spec_ReadSetup.Sl5 : Shape := ⟨[(0, false, [.str]), (2, false, [.ptr 0 0]), (4, false, [.ptr 6 0]), (5, false, [.ptr 7 0]), (15, false, [.int .i64])], [(0, .blk 28 [.own 1, .own 2, .own 3, .own 4, .own 5]), (6, .blk 43 [.str, .int .i64, .bool]), (7, .blk 28 [.own 8, .own 9, .own 10, .own 11, .own 12]), (1, .row 46 Ty2), (2, .row 48 Ty2), (3, .row 50 Ty5), (4, .row 52 Ty3), (5, .row 9 .str), (8, .row 46 Ty2), (9, .row 48 Ty2), (10, .row 50 Ty5), (11, .row 52 Ty3), (12, .row 9 .str)], 13⟩
def spec_ReadSetup.sig : Sig := ⟨[.val false .str []], [.val true (.pair (.sl 46 Ty2) (.pair (.sl 48 Ty2) (.pair (.sl 50 Ty5) (.pair (.sl 52 Ty3) (.sl 9 .str))))) [none, none, none, none, none], .val false .bool []]⟩
def spec_ReadSetup.F : FT spec_ReadSetup.sig := fun k x => spec_ReadSetup.f k x.1
def spec_ReadSetup.ann : AT spec_ReadSetup.sig := fun k => (.seq .nil (.seq .nil (.seq .nil (.seq .nil (.seq (.seq .nil (.block (.loop spec_ReadSetup.Sl1 (spec_ReadSetup.l1 k) fun n1 => .nil))) (.seq .nil (.seq (.seq .nil (.block (.loop spec_ReadSetup.Sl2 (spec_ReadSetup.l2 k) fun n1 => .nil))) (.seq .nil (.seq (.seq .nil (.block (.loop spec_ReadSetup.Sl3 (spec_ReadSetup.l3 k) fun n1 => .nil))) (.seq .nil (.seq (.seq .nil (.block (.loop spec_ReadSetup.Sl4 (spec_ReadSetup.l4 k) fun n1 => .nil))) (.seq (.seq .nil (.block (.loop spec_ReadSetup.Sl5 (spec_ReadSetup.l5 k) fun n1 => .nil))) .nil))))))))))))
def spec_ReadSetup.ent : Ent := ⟨5, spec_ReadSetup.sig, spec_ReadSetup.F⟩
def spec_ReadSetup.ctx (k : Nat) : Ctx := ⟨tds, [spec_l11Var.ent, spec_l11Short.ent, spec_SetupText.ent], k, 195⟩
theorem spec_ReadSetup.runs : RunsT spec_ReadSetup.sig spec_ReadSetup.ctx Try.f5 spec_ReadSetup.ann spec_ReadSetup.F := fun k x => by kernel_rfl
theorem spec_ReadSetup.obls : OblT tds spec_ReadSetup.sig spec_ReadSetup.ctx 0 Try.f5 spec_ReadSetup.ann := fun k => ⟨tr, ⟨tr, ⟨tr, ⟨tr, ⟨⟨tr, ⟨⟨by kernel_rfl, fun x => by kernel_rfl⟩, fun n => ⟨fun x => by kernel_rfl, ⟨⟨tr, ⟨tr, tr⟩⟩, ⟨⟨tr, ⟨tr, tr⟩⟩, tr⟩⟩⟩⟩⟩, ⟨tr, ⟨⟨tr, ⟨⟨by kernel_rfl, fun x => by kernel_rfl⟩, fun n => ⟨fun x => by kernel_rfl, ⟨⟨tr, ⟨tr, tr⟩⟩, ⟨⟨tr, ⟨tr, tr⟩⟩, tr⟩⟩⟩⟩⟩, ⟨tr, ⟨⟨tr, ⟨⟨by kernel_rfl, fun x => by kernel_rfl⟩, fun n => ⟨fun x => by kernel_rfl, ⟨⟨tr, ⟨tr, tr⟩⟩, ⟨⟨tr, ⟨tr, ⟨tr, ⟨tr, ⟨tr, tr⟩⟩⟩⟩⟩, tr⟩⟩⟩⟩⟩, ⟨tr, ⟨⟨tr, ⟨⟨by kernel_rfl, fun x => by kernel_rfl⟩, fun n => ⟨fun x => by kernel_rfl, ⟨⟨tr, ⟨tr, tr⟩⟩, ⟨⟨tr, ⟨tr, ⟨tr, tr⟩⟩⟩, tr⟩⟩⟩⟩⟩, ⟨⟨tr, ⟨⟨by kernel_rfl, fun x => by kernel_rfl⟩, fun n => ⟨fun x => by kernel_rfl, ⟨⟨tr, ⟨tr, tr⟩⟩, ⟨tr, tr⟩⟩⟩⟩⟩, ⟨tr, ⟨⟨tr, ⟨⟨tr, tr⟩, tr⟩⟩, ⟨tr, tr⟩⟩⟩⟩⟩⟩⟩⟩⟩⟩⟩⟩⟩⟩⟩
theorem spec_ReadSetup.ok (k : Nat) : EntOk Try.prog k spec_ReadSetup.ent := fn_ok (C := spec_ReadSetup.ctx k) Try.func5 (by kernel_rfl) (by kernel_rfl) mixed tdsOk (.cons (spec_l11Var.ok k) (.cons (spec_l11Short.ok k) (.cons (spec_SetupText.ok k) EntsOk.nil))) (by kernel_rfl) (leB (by kernel_rfl)) (by kernel_rfl) (spec_ReadSetup.runs k) (spec_ReadSetup.obls k)
/-! loop.example/g00200/impl.within -/
def impl_within.f (k : Nat) (a0 : Int) (a1 : Int) (a2 : Int) : Option (Bool) :=
  if a1 ≤ a0 then (some (decide (a0 ≤ a2))) else (some false)
def impl_within.sig : Sig := ⟨[.val false TyI [], .val false TyI [], .val false TyI []], [.val false .bool []]⟩
def impl_within.F : FT impl_within.sig := fun k x => impl_within.f k x.1 x.2.1 x.2.2.1
def impl_within.ann : AT impl_within.sig := fun k => .nil
def impl_within.ent : Ent := ⟨72, impl_within.sig, impl_within.F⟩
def impl_within.ctx (k : Nat) : Ctx := ⟨tds, [], k, 15⟩
theorem impl_within.runs : RunsT impl_within.sig impl_within.ctx Try.f72 impl_within.ann impl_within.F := fun k x => by kernel_rfl
theorem impl_within.obls : OblT tds impl_within.sig impl_within.ctx 0 Try.f72 impl_within.ann := fun k => ⟨tr, ⟨tr, tr⟩⟩
theorem impl_within.ok (k : Nat) : EntOk Try.prog k impl_within.ent := fn_ok (C := impl_within.ctx k) Try.func72 (by kernel_rfl) (by kernel_rfl) mixed tdsOk EntsOk.nil (by kernel_rfl) (leB (by kernel_rfl)) (by kernel_rfl) (impl_within.runs k) (impl_within.obls k)
/-! loop.example/g00200/impl.ReadVar -/
def impl_ReadVar.l1 (k : Nat)  : Nat → ByteArray × Int × Int × Int × Unit → Option (Int × Int × Bool)
  | 0, _ => none
  | n + 1, (x1, x2, x3, x4, _) => if x4 < 5 then (if (w64 (x2 + x4)) < (x1.size : Int) then (if 0 ≤ w64 (x2 + x4) then (if w64 (x2 + x4) < (x1.size : Int) then (if 0 ≤ (w64 (7 * x4)) then (if 127 < (w64 (bt x1 (w64 (x2 + x4)))) then (impl_ReadVar.l1 k n (x1, x2, w64 (x3 + (w64 ((Int.tmod (w64 (bt x1 (w64 (x2 + x4)))) 128) * ((2 ^ (min (w64 (7 * x4)).toNat 64) : Nat) : Int)))), w64 (x4 + 1), ())) else (if 0 < x4 then (if (w64 (bt x1 (w64 (x2 + x4)))) = 0 then (some (0, 0, false)) else (if 1000000000 < (w64 (x3 + (w64 ((Int.tmod (w64 (bt x1 (w64 (x2 + x4)))) 128) * ((2 ^ (min (w64 (7 * x4)).toNat 64) : Nat) : Int))))) then (some (0, 0, false)) else (some (w64 (x3 + (w64 ((Int.tmod (w64 (bt x1 (w64 (x2 + x4)))) 128) * ((2 ^ (min (w64 (7 * x4)).toNat 64) : Nat) : Int)))), w64 ((w64 (x2 + x4)) + 1), true)))) else (if 1000000000 < (w64 (x3 + (w64 ((Int.tmod (w64 (bt x1 (w64 (x2 + x4)))) 128) * ((2 ^ (min (w64 (7 * x4)).toNat 64) : Nat) : Int))))) then (some (0, 0, false)) else (some (w64 (x3 + (w64 ((Int.tmod (w64 (bt x1 (w64 (x2 + x4)))) 128) * ((2 ^ (min (w64 (7 * x4)).toNat 64) : Nat) : Int)))), w64 ((w64 (x2 + x4)) + 1), true))))) else none) else none) else none) else (some (0, 0, false))) else (some (0, 0, false))
def impl_ReadVar.f (k : Nat) (a0 : ByteArray) (a1 : Int) : Option (Int × Int × Bool) :=
  (impl_within.f k a1 0 (a0.size : Int)).bind fun t1 => (if ¬ t1 = true then (some (0, 0, false)) else (impl_ReadVar.l1 k k (a0, a1, 0, 0, ())))
def impl_ReadVar.Sl1 : Shape := ⟨[(0, false, [.str]), (1, false, [.int .i64]), (7, false, [.int .i64]), (8, false, [.int .i64])], [], 0⟩
def impl_ReadVar.sig : Sig := ⟨[.val false .str [], .val false TyI []], [.val false TyI [], .val false TyI [], .val false .bool []]⟩
def impl_ReadVar.F : FT impl_ReadVar.sig := fun k x => impl_ReadVar.f k x.1 x.2.1
def impl_ReadVar.ann : AT impl_ReadVar.sig := fun k => (.seq .nil (.seq .nil (.seq .nil (.seq (.seq .nil (.block (.loop impl_ReadVar.Sl1 (impl_ReadVar.l1 k) fun n1 => .nil))) .nil))))
def impl_ReadVar.ent : Ent := ⟨79, impl_ReadVar.sig, impl_ReadVar.F⟩
def impl_ReadVar.ctx (k : Nat) : Ctx := ⟨tds, [impl_within.ent], k, 57⟩
theorem impl_ReadVar.runs : RunsT impl_ReadVar.sig impl_ReadVar.ctx Try.f79 impl_ReadVar.ann impl_ReadVar.F := fun k x => by kernel_rfl
theorem impl_ReadVar.obls : OblT tds impl_ReadVar.sig impl_ReadVar.ctx 0 Try.f79 impl_ReadVar.ann := fun k => ⟨tr, ⟨⟨tr, ⟨⟨tr, tr⟩, tr⟩⟩, ⟨tr, ⟨⟨tr, ⟨⟨by kernel_rfl, fun x => by kernel_rfl⟩, fun n => ⟨fun x => by kernel_rfl, ⟨⟨tr, ⟨tr, tr⟩⟩, ⟨⟨tr, ⟨tr, ⟨⟨tr, ⟨tr, tr⟩⟩, ⟨⟨tr, ⟨⟨tr, tr⟩, tr⟩⟩, ⟨tr, tr⟩⟩⟩⟩⟩, tr⟩⟩⟩⟩⟩, ⟨tr, tr⟩⟩⟩⟩⟩
theorem impl_ReadVar.ok (k : Nat) : EntOk Try.prog k impl_ReadVar.ent := fn_ok (C := impl_ReadVar.ctx k) Try.func79 (by kernel_rfl) (by kernel_rfl) mixed tdsOk (.cons (impl_within.ok k) EntsOk.nil) (by kernel_rfl) (leB (by kernel_rfl)) (by kernel_rfl) (impl_ReadVar.runs k) (impl_ReadVar.obls k)
/-! (*loop.example/g00200/impl.reader).number -/
def impl_reader_number.f (k : Nat) (a0 : ByteArray × Int × Bool) : Option (Int × ByteArray × Int × Bool) :=
  (impl_ReadVar.f k a0.1 a0.2.1).bind fun t1 => (if a0.2.2 = true then (some (0, (a0.1, (a0.2.1, true)))) else (if ¬ t1.2.2 = true then (some (0, (a0.1, (a0.2.1, true)))) else (some (t1.1, (a0.1, (t1.2.1, a0.2.2))))))
def impl_reader_number.sig : Sig := ⟨[.ptr 56 (.pair .str (.pair TyI .bool)) []], [.val false TyI []]⟩
def impl_reader_number.F : FT impl_reader_number.sig := fun k x => impl_reader_number.f k x.1
def impl_reader_number.ann : AT impl_reader_number.sig := fun k => .nil
def impl_reader_number.ent : Ent := ⟨57, impl_reader_number.sig, impl_reader_number.F⟩
def impl_reader_number.ctx (k : Nat) : Ctx := ⟨tds, [impl_ReadVar.ent], k, 35⟩
theorem impl_reader_number.runs : RunsT impl_reader_number.sig impl_reader_number.ctx Try.f57 impl_reader_number.ann impl_reader_number.F := fun k x => by kernel_rfl
theorem impl_reader_number.obls : OblT tds impl_reader_number.sig impl_reader_number.ctx 1 Try.f57 impl_reader_number.ann := fun k => ⟨tr, ⟨tr, ⟨⟨tr, ⟨⟨tr, ⟨tr, tr⟩⟩, tr⟩⟩, ⟨tr, ⟨tr, tr⟩⟩⟩⟩⟩
theorem impl_reader_number.ok (k : Nat) : EntOk Try.prog k impl_reader_number.ent := fn_ok (C := impl_reader_number.ctx k) Try.func57 (by kernel_rfl) (by kernel_rfl) mixed tdsOk (.cons (impl_ReadVar.ok k) EntsOk.nil) (by kernel_rfl) (leB (by kernel_rfl)) (by kernel_rfl) (impl_reader_number.runs k) (impl_reader_number.obls k)
/-! (*loop.example/g00200/impl.reader).count -/
def impl_reader_count.f (k : Nat) (a0 : ByteArray × Int × Bool) (a1 : Int) : Option (Int × ByteArray × Int × Bool) :=
  (impl_reader_number.f k a0).bind fun t1 => (if a1 < t1.1 then (some (0, (t1.2.1, (t1.2.2.1, true)))) else (some (t1.1, t1.2)))
def impl_reader_count.sig : Sig := ⟨[.ptr 56 (.pair .str (.pair TyI .bool)) [], .val false TyI []], [.val false TyI []]⟩
def impl_reader_count.F : FT impl_reader_count.sig := fun k x => impl_reader_count.f k x.1 x.2.1
def impl_reader_count.ann : AT impl_reader_count.sig := fun k => .nil
def impl_reader_count.ent : Ent := ⟨56, impl_reader_count.sig, impl_reader_count.F⟩
def impl_reader_count.ctx (k : Nat) : Ctx := ⟨tds, [impl_reader_number.ent], k, 15⟩
theorem impl_reader_count.runs : RunsT impl_reader_count.sig impl_reader_count.ctx Try.f56 impl_reader_count.ann impl_reader_count.F := fun k x => by kernel_rfl
theorem impl_reader_count.obls : OblT tds impl_reader_count.sig impl_reader_count.ctx 1 Try.f56 impl_reader_count.ann := fun k => ⟨tr, ⟨tr, ⟨⟨tr, ⟨⟨tr, ⟨tr, tr⟩⟩, tr⟩⟩, ⟨tr, tr⟩⟩⟩⟩
theorem impl_reader_count.ok (k : Nat) : EntOk Try.prog k impl_reader_count.ent := fn_ok (C := impl_reader_count.ctx k) Try.func56 (by kernel_rfl) (by kernel_rfl) mixed tdsOk (.cons (impl_reader_number.ok k) EntsOk.nil) (by kernel_rfl) (leB (by kernel_rfl)) (by kernel_rfl) (impl_reader_count.runs k) (impl_reader_count.obls k)
/-! loop.example/g00200/impl.ReadShort -/
def impl_ReadShort.f (k : Nat) (a0 : ByteArray) (a1 : Int) : Option (ByteArray × Int × Bool) :=
  (impl_ReadVar.f k a0 a1).bind fun t1 => (if ¬ t1.2.2 = true then (some ((⟨#[]⟩ : ByteArray), 0, false)) else (if 20000 < t1.1 then (some ((⟨#[]⟩ : ByteArray), 0, false)) else (if (w64 ((a0.size : Int) - t1.2.1)) < t1.1 then (some ((⟨#[]⟩ : ByteArray), 0, false)) else (if 0 ≤ t1.2.1 then (if t1.2.1 ≤ w64 (t1.2.1 + t1.1) then (if w64 (t1.2.1 + t1.1) ≤ (a0.size : Int) then (some (a0.extract t1.2.1.toNat ((w64 (t1.2.1 + t1.1)).toNat), w64 (t1.2.1 + t1.1), true)) else none) else none) else none))))
def impl_ReadShort.sig : Sig := ⟨[.val false .str [], .val false TyI []], [.val false .str [], .val false TyI [], .val false .bool []]⟩
def impl_ReadShort.F : FT impl_ReadShort.sig := fun k x => impl_ReadShort.f k x.1 x.2.1
def impl_ReadShort.ann : AT impl_ReadShort.sig := fun k => .nil
def impl_ReadShort.ent : Ent := ⟨80, impl_ReadShort.sig, impl_ReadShort.F⟩
def impl_ReadShort.ctx (k : Nat) : Ctx := ⟨tds, [impl_ReadVar.ent], k, 40⟩
theorem impl_ReadShort.runs : RunsT impl_ReadShort.sig impl_ReadShort.ctx Try.f80 impl_ReadShort.ann impl_ReadShort.F := fun k x => by kernel_rfl
theorem impl_ReadShort.obls : OblT tds impl_ReadShort.sig impl_ReadShort.ctx 0 Try.f80 impl_ReadShort.ann := fun k => ⟨tr, ⟨tr, ⟨⟨tr, ⟨⟨tr, tr⟩, tr⟩⟩, ⟨tr, tr⟩⟩⟩⟩
theorem impl_ReadShort.ok (k : Nat) : EntOk Try.prog k impl_ReadShort.ent := fn_ok (C := impl_ReadShort.ctx k) Try.func80 (by kernel_rfl) (by kernel_rfl) mixed tdsOk (.cons (impl_ReadVar.ok k) EntsOk.nil) (by kernel_rfl) (leB (by kernel_rfl)) (by kernel_rfl) (impl_ReadShort.runs k) (impl_ReadShort.obls k)
/-! (*loop.example/g00200/impl.reader).short -/
def impl_reader_short.f (k : Nat) (a0 : ByteArray × Int × Bool) : Option (ByteArray × ByteArray × Int × Bool) :=
  (impl_ReadShort.f k a0.1 a0.2.1).bind fun t1 => (if a0.2.2 = true then (some ((⟨#[]⟩ : ByteArray), (a0.1, (a0.2.1, true)))) else (if ¬ t1.2.2 = true then (some ((⟨#[]⟩ : ByteArray), (a0.1, (a0.2.1, true)))) else (some (t1.1, (a0.1, (t1.2.1, a0.2.2))))))
def impl_reader_short.sig : Sig := ⟨[.ptr 56 (.pair .str (.pair TyI .bool)) []], [.val false .str []]⟩
def impl_reader_short.F : FT impl_reader_short.sig := fun k x => impl_reader_short.f k x.1
def impl_reader_short.ann : AT impl_reader_short.sig := fun k => .nil
def impl_reader_short.ent : Ent := ⟨58, impl_reader_short.sig, impl_reader_short.F⟩
def impl_reader_short.ctx (k : Nat) : Ctx := ⟨tds, [impl_ReadShort.ent], k, 35⟩
theorem impl_reader_short.runs : RunsT impl_reader_short.sig impl_reader_short.ctx Try.f58 impl_reader_short.ann impl_reader_short.F := fun k x => by kernel_rfl
theorem impl_reader_short.obls : OblT tds impl_reader_short.sig impl_reader_short.ctx 1 Try.f58 impl_reader_short.ann := fun k => ⟨tr, ⟨tr, ⟨⟨tr, ⟨⟨tr, ⟨tr, tr⟩⟩, tr⟩⟩, ⟨tr, ⟨tr, tr⟩⟩⟩⟩⟩
theorem impl_reader_short.ok (k : Nat) : EntOk Try.prog k impl_reader_short.ent := fn_ok (C := impl_reader_short.ctx k) Try.func58 (by kernel_rfl) (by kernel_rfl) mixed tdsOk (.cons (impl_ReadShort.ok k) EntsOk.nil) (by kernel_rfl) (leB (by kernel_rfl)) (by kernel_rfl) (impl_reader_short.runs k) (impl_reader_short.obls k)
/-! (*loop.example/g00200/impl.reader).setup -/
def impl_reader_setup.l5 (k : Nat)  : Nat → Int × Int × ByteArray × Int × Bool × De2 × De2 × De5 × De3 × DeB × De2 × De2 × De5 × De3 × DeB × Unit → Option (DeS × ByteArray × Int × Bool)
  | 0, _ => none
  | n + 1, (x1, x2, x3, x4, x5, x6, x7, x8, x9, x10, x11, x12, x13, x14, x15, _) => if x2 < x1 then ((impl_reader_short.f k (x3, (x4, x5))).bind fun t25 => (((some ([t25.1] : DeB))).bind fun y26 => (if (x15.length + y26.length) * 16 ≤ 140737488355328 then (((some (x15 ++ y26))).bind fun y27 => (impl_reader_setup.l5 k n (x1, w64 (x2 + 1), t25.2.1, t25.2.2.1, t25.2.2.2, x6, x7, x8, x9, x10, x11, x12, x13, x14, y27, ()))) else none))) else (some ((x11, (x12, (x13, (x14, x15)))), (x3, (x4, x5))))
def impl_reader_setup.l4 (k : Nat)  : Nat → Int × Int × Int × ByteArray × Int × Bool × De2 × De2 × De5 × De3 × DeB × De2 × De2 × De5 × De3 × DeB × Unit → Option (DeS × ByteArray × Int × Bool)
  | 0, _ => none
  | n + 1, (x1, x2, x3, x4, x5, x6, x7, x8, x9, x10, x11, x12, x13, x14, x15, x16, _) => if x3 < x2 then ((impl_reader_number.f k (x4, (x5, x6))).bind fun t20 => ((impl_reader_number.f k t20.2).bind fun t21 => ((impl_reader_number.f k t21.2).bind fun t22 => (((some ([(t20.1, (t21.1, t22.1))] : De3))).bind fun y23 => (if (x15.length + y23.length) * 24 ≤ 140737488355328 then (((some (x15 ++ y23))).bind fun y24 => (impl_reader_setup.l4 k n (x1, x2, w64 (x3 + 1), t22.2.1, t22.2.2.1, t22.2.2.2, x7, x8, x9, x10, x11, x12, x13, x14, y24, x16, ()))) else none))))) else (impl_reader_setup.l5 k k (x1, 0, x4, x5, x6, x7, x8, x9, x10, x11, x12, x13, x14, x15, x16, ()))
def impl_reader_setup.l3 (k : Nat)  : Nat → Int × Int × Int × ByteArray × Int × Bool × De2 × De2 × De5 × De3 × DeB × De2 × De2 × De5 × De3 × DeB × Unit → Option (DeS × ByteArray × Int × Bool)
  | 0, _ => none
  | n + 1, (x1, x2, x3, x4, x5, x6, x7, x8, x9, x10, x11, x12, x13, x14, x15, x16, _) => if x3 < x2 then ((impl_reader_number.f k (x4, (x5, x6))).bind fun t12 => ((impl_reader_number.f k t12.2).bind fun t13 => ((impl_reader_number.f k t13.2).bind fun t14 => ((impl_reader_number.f k t14.2).bind fun t15 => ((impl_reader_number.f k t15.2).bind fun t16 => (((some ([(t12.1, (t13.1, (t14.1, (t15.1, t16.1))))] : De5))).bind fun y17 => (if (x14.length + y17.length) * 40 ≤ 140737488355328 then (((some (x14 ++ y17))).bind fun y18 => (impl_reader_setup.l3 k n (x1, x2, w64 (x3 + 1), t16.2.1, t16.2.2.1, t16.2.2.2, x7, x8, x9, x10, x11, x12, x13, y18, x15, x16, ()))) else none))))))) else ((impl_reader_count.f k (x4, (x5, x6)) 8).bind fun t19 => (impl_reader_setup.l4 k k (x1, t19.1, 0, t19.2.1, t19.2.2.1, t19.2.2.2, x7, x8, x9, x10, x11, x12, x13, x14, x15, x16, ())))
def impl_reader_setup.l2 (k : Nat)  : Nat → Int × Int × Int × ByteArray × Int × Bool × De2 × De2 × De5 × De3 × DeB × De2 × De2 × De5 × De3 × DeB × Unit → Option (DeS × ByteArray × Int × Bool)
  | 0, _ => none
  | n + 1, (x1, x2, x3, x4, x5, x6, x7, x8, x9, x10, x11, x12, x13, x14, x15, x16, _) => if x3 < x2 then ((impl_reader_number.f k (x4, (x5, x6))).bind fun t7 => ((impl_reader_number.f k t7.2).bind fun t8 => (((some ([(t7.1, t8.1)] : De2))).bind fun y9 => (if (x13.length + y9.length) * 16 ≤ 140737488355328 then (((some (x13 ++ y9))).bind fun y10 => (impl_reader_setup.l2 k n (x1, x2, w64 (x3 + 1), t8.2.1, t8.2.2.1, t8.2.2.2, x7, x8, x9, x10, x11, x12, y10, x14, x15, x16, ()))) else none)))) else ((impl_reader_count.f k (x4, (x5, x6)) 6).bind fun t11 => (impl_reader_setup.l3 k k (x1, t11.1, 0, t11.2.1, t11.2.2.1, t11.2.2.2, x7, x8, x9, x10, x11, x12, x13, x14, x15, x16, ())))
def impl_reader_setup.l1 (k : Nat)  : Nat → Int × Int × Int × ByteArray × Int × Bool × De2 × De2 × De5 × De3 × DeB × De2 × De2 × De5 × De3 × DeB × Unit → Option (DeS × ByteArray × Int × Bool)
  | 0, _ => none
  | n + 1, (x1, x2, x3, x4, x5, x6, x7, x8, x9, x10, x11, x12, x13, x14, x15, x16, _) => if x3 < x2 then ((impl_reader_number.f k (x4, (x5, x6))).bind fun t2 => ((impl_reader_number.f k t2.2).bind fun t3 => (((some ([(t2.1, t3.1)] : De2))).bind fun y4 => (if (x12.length + y4.length) * 16 ≤ 140737488355328 then (((some (x12 ++ y4))).bind fun y5 => (impl_reader_setup.l1 k n (x1, x2, w64 (x3 + 1), t3.2.1, t3.2.2.1, t3.2.2.2, x7, x8, x9, x10, x11, y5, x13, x14, x15, x16, ()))) else none)))) else ((impl_reader_count.f k (x4, (x5, x6)) 12).bind fun t6 => (impl_reader_setup.l2 k k (x1, t6.1, 0, t6.2.1, t6.2.2.1, t6.2.2.2, x7, x8, x9, x10, x11, x12, x13, x14, x15, x16, ())))
def impl_reader_setup.f (k : Nat) (a0 : ByteArray × Int × Bool) : Option (DeS × ByteArray × Int × Bool) :=
  (impl_reader_count.f k a0 4).bind fun t1 => (impl_reader_setup.l1 k k (t1.1, t1.1, 0, t1.2.1, t1.2.2.1, t1.2.2.2, [], [], [], [], [], [], [], [], [], [], ()))
def impl_reader_setup.Sl1 : Shape := ⟨[(0, false, [.ptr 0 0]), (2, false, [.ptr 1 0]), (3, false, [.ptr 7 0]), (4, false, [.int .i64]), (16, false, [.int .i64]), (17, false, [.int .i64])], [(0, .blk 56 [.str, .int .i64, .bool]), (1, .blk 28 [.own 2, .own 3, .own 4, .own 5, .own 6]), (7, .blk 28 [.own 8, .own 9, .own 10, .own 11, .own 12]), (2, .row 46 Ty2), (3, .row 48 Ty2), (4, .row 50 Ty5), (5, .row 52 Ty3), (6, .row 9 .str), (8, .row 46 Ty2), (9, .row 48 Ty2), (10, .row 50 Ty5), (11, .row 52 Ty3), (12, .row 9 .str)], 13⟩
def impl_reader_setup.Sl2 : Shape := ⟨[(0, false, [.ptr 0 0]), (2, false, [.ptr 1 0]), (3, false, [.ptr 7 0]), (4, false, [.int .i64]), (35, false, [.int .i64]), (36, false, [.int .i64])], [(0, .blk 56 [.str, .int .i64, .bool]), (1, .blk 28 [.own 2, .own 3, .own 4, .own 5, .own 6]), (7, .blk 28 [.own 8, .own 9, .own 10, .own 11, .own 12]), (2, .row 46 Ty2), (3, .row 48 Ty2), (4, .row 50 Ty5), (5, .row 52 Ty3), (6, .row 9 .str), (8, .row 46 Ty2), (9, .row 48 Ty2), (10, .row 50 Ty5), (11, .row 52 Ty3), (12, .row 9 .str)], 13⟩
def impl_reader_setup.Sl3 : Shape := ⟨[(0, false, [.ptr 0 0]), (2, false, [.ptr 1 0]), (3, false, [.ptr 7 0]), (4, false, [.int .i64]), (54, false, [.int .i64]), (55, false, [.int .i64])], [(0, .blk 56 [.str, .int .i64, .bool]), (1, .blk 28 [.own 2, .own 3, .own 4, .own 5, .own 6]), (7, .blk 28 [.own 8, .own 9, .own 10, .own 11, .own 12]), (2, .row 46 Ty2), (3, .row 48 Ty2), (4, .row 50 Ty5), (5, .row 52 Ty3), (6, .row 9 .str), (8, .row 46 Ty2), (9, .row 48 Ty2), (10, .row 50 Ty5), (11, .row 52 Ty3), (12, .row 9 .str)], 13⟩
def impl_reader_setup.Sl4 : Shape := ⟨[(0, false, [.ptr 0 0]), (2, false, [.ptr 1 0]), (3, false, [.ptr 7 0]), (4, false, [.int .i64]), (82, false, [.int .i64]), (83, false, [.int .i64])], [(0, .blk 56 [.str, .int .i64, .bool]), (1, .blk 28 [.own 2, .own 3, .own 4, .own 5, .own 6]), (7, .blk 28 [.own 8, .own 9, .own 10, .own 11, .own 12]), (2, .row 46 Ty2), (3, .row 48 Ty2), (4, .row 50 Ty5), (5, .row 52 Ty3), (6, .row 9 .str), (8, .row 46 Ty2), (9, .row 48 Ty2), (10, .row 50 Ty5), (11, .row 52 Ty3), (12, .row 9 .str)], 13⟩
def impl_reader_setup.Sl5 : Shape := ⟨[(0, false, [.ptr 0 0]), (2, false, [.ptr 1 0]), (3, false, [.ptr 7 0]), (102, false, [.int .i64]), (103, false, [.int .i64])], [(0, .blk 56 [.str, .int .i64, .bool]), (1, .blk 28 [.own 2, .own 3, .own 4, .own 5, .own 6]), (7, .blk 28 [.own 8, .own 9, .own 10, .own 11, .own 12]), (2, .row 46 Ty2), (3, .row 48 Ty2), (4, .row 50 Ty5), (5, .row 52 Ty3), (6, .row 9 .str), (8, .row 46 Ty2), (9, .row 48 Ty2), (10, .row 50 Ty5), (11, .row 52 Ty3), (12, .row 9 .str)], 13⟩
def impl_reader_setup.sig : Sig := ⟨[.ptr 56 (.pair .str (.pair TyI .bool)) []], [.val true (.pair (.sl 46 Ty2) (.pair (.sl 48 Ty2) (.pair (.sl 50 Ty5) (.pair (.sl 52 Ty3) (.sl 9 .str))))) [none, none, none, none, none]]⟩
def impl_reader_setup.F : FT impl_reader_setup.sig := fun k x => impl_reader_setup.f k x.1
def impl_reader_setup.ann : AT impl_reader_setup.sig := fun k => (.seq .nil (.seq .nil (.seq .nil (.seq (.seq .nil (.block (.loop impl_reader_setup.Sl1 (impl_reader_setup.l1 k) fun n1 => .nil))) (.seq .nil (.seq (.seq .nil (.block (.loop impl_reader_setup.Sl2 (impl_reader_setup.l2 k) fun n1 => .nil))) (.seq .nil (.seq (.seq .nil (.block (.loop impl_reader_setup.Sl3 (impl_reader_setup.l3 k) fun n1 => .nil))) (.seq .nil (.seq (.seq .nil (.block (.loop impl_reader_setup.Sl4 (impl_reader_setup.l4 k) fun n1 => .nil))) (.seq (.seq .nil (.block (.loop impl_reader_setup.Sl5 (impl_reader_setup.l5 k) fun n1 => .nil))) .nil)))))))))))
def impl_reader_setup.ent : Ent := ⟨19, impl_reader_setup.sig, impl_reader_setup.F⟩
def impl_reader_setup.ctx (k : Nat) : Ctx := ⟨tds, [impl_reader_count.ent, impl_reader_number.ent, impl_reader_short.ent], k, 115⟩
theorem impl_reader_setup.runs : RunsT impl_reader_setup.sig impl_reader_setup.ctx Try.f19 impl_reader_setup.ann impl_reader_setup.F := fun k x => by kernel_rfl
theorem impl_reader_setup.obls : OblT tds impl_reader_setup.sig impl_reader_setup.ctx 1 Try.f19 impl_reader_setup.ann := fun k => ⟨tr, ⟨tr, ⟨tr, ⟨⟨tr, ⟨⟨by kernel_rfl, fun x => by kernel_rfl⟩, fun n => ⟨fun x => by kernel_rfl, ⟨tr, ⟨⟨tr, tr⟩, ⟨⟨tr, ⟨tr, ⟨tr, tr⟩⟩⟩, tr⟩⟩⟩⟩⟩⟩, ⟨tr, ⟨⟨tr, ⟨⟨by kernel_rfl, fun x => by kernel_rfl⟩, fun n => ⟨fun x => by kernel_rfl, ⟨tr, ⟨⟨tr, tr⟩, ⟨⟨tr, ⟨tr, ⟨tr, tr⟩⟩⟩, tr⟩⟩⟩⟩⟩⟩, ⟨tr, ⟨⟨tr, ⟨⟨by kernel_rfl, fun x => by kernel_rfl⟩, fun n => ⟨fun x => by kernel_rfl, ⟨tr, ⟨⟨tr, tr⟩, ⟨⟨tr, ⟨tr, ⟨tr, ⟨tr, ⟨tr, ⟨tr, tr⟩⟩⟩⟩⟩⟩, tr⟩⟩⟩⟩⟩⟩, ⟨tr, ⟨⟨tr, ⟨⟨by kernel_rfl, fun x => by kernel_rfl⟩, fun n => ⟨fun x => by kernel_rfl, ⟨tr, ⟨⟨tr, tr⟩, ⟨⟨tr, ⟨tr, ⟨tr, ⟨tr, tr⟩⟩⟩⟩, tr⟩⟩⟩⟩⟩⟩, ⟨⟨tr, ⟨⟨by kernel_rfl, fun x => by kernel_rfl⟩, fun n => ⟨fun x => by kernel_rfl, ⟨tr, ⟨⟨tr, tr⟩, ⟨⟨tr, tr⟩, tr⟩⟩⟩⟩⟩⟩, ⟨tr, tr⟩⟩⟩⟩⟩⟩⟩⟩⟩⟩⟩⟩
theorem impl_reader_setup.ok (k : Nat) : EntOk Try.prog k impl_reader_setup.ent := fn_ok (C := impl_reader_setup.ctx k) Try.func19 (by kernel_rfl) (by kernel_rfl) mixed tdsOk (.cons (impl_reader_count.ok k) (.cons (impl_reader_number.ok k) (.cons (impl_reader_short.ok k) EntsOk.nil))) (by kernel_rfl) (leB (by kernel_rfl)) (by kernel_rfl) (impl_reader_setup.runs k) (impl_reader_setup.obls k)
/-! loop.example/g00200/impl.RegionsOk -/
def impl_RegionsOk.l2 (k : Nat) (c0 : Int × Int × De2 × Unit → Option (Bool)) : Nat → Int × Int × Int × Int × Int × Int × De2 × De2 × Unit → Option (Bool)
  | 0, _ => none
  | n + 1, (x1, x2, x3, x4, x5, x6, x7, x8, _) => if x4 < x3 then (if 0 ≤ x4 then (if x4 < (x8.length : Int) then (if x5 < (w64 (((el Ty2 x8 x4.toNat).1) + ((el Ty2 x8 x4.toNat).2))) then (if ((el Ty2 x8 x4.toNat).1) < (w64 (x5 + x6)) then (some false) else (impl_RegionsOk.l2 k c0 n (x1, x2, x3, w64 (x4 + 1), x5, x6, x7, x8, ()))) else (impl_RegionsOk.l2 k c0 n (x1, x2, x3, w64 (x4 + 1), x5, x6, x7, x8, ()))) else none) else none) else (c0 (x1, w64 (x2 + 1), x7, ()))
def impl_RegionsOk.l1 (k : Nat)  : Nat → Int × Int × De2 × Unit → Option (Bool)
  | 0, _ => none
  | n + 1, (x1, x2, x3, _) => if x2 < x1 then (if 0 ≤ x2 then (if x2 < (x3.length : Int) then (if ((el Ty2 x3 x2.toNat).1) < 0 then (some false) else (if ((el Ty2 x3 x2.toNat).2) < 1 then (some false) else (if 64 < ((el Ty2 x3 x2.toNat).2) then (some false) else (if (w64 (64 - ((el Ty2 x3 x2.toNat).2))) < ((el Ty2 x3 x2.toNat).1) then (some false) else (if 0 ≤ x2 then (if x2 ≤ (x3.length : Int) then (impl_RegionsOk.l2 k (impl_RegionsOk.l1 k n) k (x1, x2, ((x2.toNat : Nat) : Int), 0, (el Ty2 x3 x2.toNat).1, (el Ty2 x3 x2.toNat).2, x3, x3.take x2.toNat, ())) else none) else none))))) else none) else none) else ((impl_within.f k (x3.length : Int) 1 4).bind fun t1 => (some t1))
def impl_RegionsOk.f (k : Nat) (a0 : De2) : Option (Bool) :=
  impl_RegionsOk.l1 k k ((a0.length : Int), 0, a0, ())
def impl_RegionsOk.Sl1 : Shape := ⟨[(0, false, [.own 0]), (7, false, [.own 0]), (8, false, [.int .i64]), (9, false, [.int .i64])], [(0, .view false 46 Ty2)], 1⟩
def impl_RegionsOk.Sl2 : Shape := ⟨[(0, false, [.own 0]), (4, false, [.ptr 1 0]), (7, false, [.own 0]), (8, false, [.int .i64]), (9, false, [.int .i64]), (37, false, [.own 2]), (38, false, [.int .i64]), (39, false, [.int .i64])], [(1, .blk 46 [.int .i64, .int .i64]), (0, .view false 46 Ty2), (2, .view false 46 Ty2)], 3⟩
def impl_RegionsOk.sig : Sig := ⟨[.val false (.sl 46 Ty2) [0]], [.val false .bool []]⟩
def impl_RegionsOk.F : FT impl_RegionsOk.sig := fun k x => impl_RegionsOk.f k x.1
def impl_RegionsOk.ann : AT impl_RegionsOk.sig := fun k => (.seq .nil (.seq (.seq .nil (.block (.loop impl_RegionsOk.Sl1 (impl_RegionsOk.l1 k) fun n1 => (.seq .nil (.seq .nil (.seq (.block (.seq .nil (.seq .nil (.seq .nil (.block (.loop impl_RegionsOk.Sl2 (impl_RegionsOk.l2 k (impl_RegionsOk.l1 k n1)) fun n2 => .nil)))))) .nil)))))) .nil))
def impl_RegionsOk.ent : Ent := ⟨45, impl_RegionsOk.sig, impl_RegionsOk.F⟩
def impl_RegionsOk.ctx (k : Nat) : Ctx := ⟨tds, [impl_within.ent], k, 66⟩
theorem impl_RegionsOk.runs : RunsT impl_RegionsOk.sig impl_RegionsOk.ctx Try.f45 impl_RegionsOk.ann impl_RegionsOk.F := fun k x => by kernel_rfl
theorem impl_RegionsOk.obls : OblT tds impl_RegionsOk.sig impl_RegionsOk.ctx 1 Try.f45 impl_RegionsOk.ann := fun k => ⟨tr, ⟨⟨tr, ⟨⟨by kernel_rfl, fun x => by kernel_rfl⟩, fun n => ⟨fun x => by kernel_rfl, ⟨tr, ⟨⟨tr, tr⟩, ⟨⟨tr, ⟨⟨tr, ⟨⟨tr, tr⟩, tr⟩⟩, ⟨tr, ⟨⟨by kernel_rfl, fun x => by kernel_rfl⟩, fun n => ⟨fun x => by kernel_rfl, ⟨tr, ⟨⟨tr, tr⟩, ⟨⟨tr, ⟨tr, ⟨⟨tr, tr⟩, tr⟩⟩⟩, tr⟩⟩⟩⟩⟩⟩⟩⟩, tr⟩⟩⟩⟩⟩⟩, ⟨tr, tr⟩⟩⟩
theorem impl_RegionsOk.ok (k : Nat) : EntOk Try.prog k impl_RegionsOk.ent := fn_ok (C := impl_RegionsOk.ctx k) Try.func45 (by kernel_rfl) (by kernel_rfl) mixed tdsOk (.cons (impl_within.ok k) EntsOk.nil) (by kernel_rfl) (leB (by kernel_rfl)) (by kernel_rfl) (impl_RegionsOk.runs k) (impl_RegionsOk.obls k)
/-! loop.example/g00200/impl.isPart -/
def impl_isPart.f (k : Nat) (a0 : Int) : Option (Bool) :=
  (impl_within.f k a0 1 4).bind fun t1 => (some t1)
def impl_isPart.sig : Sig := ⟨[.val false TyI []], [.val false .bool []]⟩
def impl_isPart.F : FT impl_isPart.sig := fun k x => impl_isPart.f k x.1
def impl_isPart.ann : AT impl_isPart.sig := fun k => .nil
def impl_isPart.ent : Ent := ⟨73, impl_isPart.sig, impl_isPart.F⟩
def impl_isPart.ctx (k : Nat) : Ctx := ⟨tds, [impl_within.ent], k, 5⟩
theorem impl_isPart.runs : RunsT impl_isPart.sig impl_isPart.ctx Try.f73 impl_isPart.ann impl_isPart.F := fun k x => by kernel_rfl
theorem impl_isPart.obls : OblT tds impl_isPart.sig impl_isPart.ctx 0 Try.f73 impl_isPart.ann := fun k => ⟨tr, ⟨tr, tr⟩⟩
theorem impl_isPart.ok (k : Nat) : EntOk Try.prog k impl_isPart.ent := fn_ok (C := impl_isPart.ctx k) Try.func73 (by kernel_rfl) (by kernel_rfl) mixed tdsOk (.cons (impl_within.ok k) EntsOk.nil) (by kernel_rfl) (leB (by kernel_rfl)) (by kernel_rfl) (impl_isPart.runs k) (impl_isPart.obls k)
/-! loop.example/g00200/impl.isBudget -/
def impl_isBudget.f (k : Nat) (a0 : Int) : Option (Bool) :=
  (impl_within.f k a0 1 200).bind fun t1 => (some t1)
def impl_isBudget.sig : Sig := ⟨[.val false TyI []], [.val false .bool []]⟩
def impl_isBudget.F : FT impl_isBudget.sig := fun k x => impl_isBudget.f k x.1
def impl_isBudget.ann : AT impl_isBudget.sig := fun k => .nil
def impl_isBudget.ent : Ent := ⟨74, impl_isBudget.sig, impl_isBudget.F⟩
def impl_isBudget.ctx (k : Nat) : Ctx := ⟨tds, [impl_within.ent], k, 5⟩
theorem impl_isBudget.runs : RunsT impl_isBudget.sig impl_isBudget.ctx Try.f74 impl_isBudget.ann impl_isBudget.F := fun k x => by kernel_rfl
theorem impl_isBudget.obls : OblT tds impl_isBudget.sig impl_isBudget.ctx 0 Try.f74 impl_isBudget.ann := fun k => ⟨tr, ⟨tr, tr⟩⟩
theorem impl_isBudget.ok (k : Nat) : EntOk Try.prog k impl_isBudget.ent := fn_ok (C := impl_isBudget.ctx k) Try.func74 (by kernel_rfl) (by kernel_rfl) mixed tdsOk (.cons (impl_within.ok k) EntsOk.nil) (by kernel_rfl) (leB (by kernel_rfl)) (by kernel_rfl) (impl_isBudget.runs k) (impl_isBudget.obls k)
/-! loop.example/g00200/impl.PlanOk -/
def impl_PlanOk.l1 (k : Nat)  : Nat → Int × Int × De2 × Unit → Option (Bool)
  | 0, _ => none
  | n + 1, (x1, x2, x3, _) => if x2 < x1 then (if 0 ≤ x2 then (if x2 < (x3.length : Int) then ((impl_isPart.f k ((el Ty2 x3 x2.toNat).1)).bind fun t1 => (if ¬ t1 = true then (some false) else ((impl_isBudget.f k ((el Ty2 x3 x2.toNat).2)).bind fun t2 => (if ¬ t2 = true then (some false) else (impl_PlanOk.l1 k n (x1, w64 (x2 + 1), x3, ())))))) else none) else none) else ((impl_within.f k (x3.length : Int) 1 12).bind fun t3 => (some t3))
def impl_PlanOk.f (k : Nat) (a0 : De2) : Option (Bool) :=
  impl_PlanOk.l1 k k ((a0.length : Int), 0, a0, ())
def impl_PlanOk.Sl1 : Shape := ⟨[(0, false, [.own 0]), (5, false, [.own 0]), (6, false, [.int .i64]), (7, false, [.int .i64])], [(0, .view false 48 Ty2)], 1⟩
def impl_PlanOk.sig : Sig := ⟨[.val false (.sl 48 Ty2) [0]], [.val false .bool []]⟩
def impl_PlanOk.F : FT impl_PlanOk.sig := fun k x => impl_PlanOk.f k x.1
def impl_PlanOk.ann : AT impl_PlanOk.sig := fun k => (.seq .nil (.seq (.seq .nil (.block (.loop impl_PlanOk.Sl1 (impl_PlanOk.l1 k) fun n1 => .nil))) .nil))
def impl_PlanOk.ent : Ent := ⟨46, impl_PlanOk.sig, impl_PlanOk.F⟩
def impl_PlanOk.ctx (k : Nat) : Ctx := ⟨tds, [impl_within.ent, impl_isPart.ent, impl_isBudget.ent], k, 25⟩
theorem impl_PlanOk.runs : RunsT impl_PlanOk.sig impl_PlanOk.ctx Try.f46 impl_PlanOk.ann impl_PlanOk.F := fun k x => by kernel_rfl
theorem impl_PlanOk.obls : OblT tds impl_PlanOk.sig impl_PlanOk.ctx 1 Try.f46 impl_PlanOk.ann := fun k => ⟨tr, ⟨⟨tr, ⟨⟨by kernel_rfl, fun x => by kernel_rfl⟩, fun n => ⟨fun x => by kernel_rfl, ⟨tr, ⟨⟨tr, tr⟩, ⟨⟨tr, ⟨tr, ⟨⟨tr, tr⟩, tr⟩⟩⟩, tr⟩⟩⟩⟩⟩⟩, ⟨tr, tr⟩⟩⟩
theorem impl_PlanOk.ok (k : Nat) : EntOk Try.prog k impl_PlanOk.ent := fn_ok (C := impl_PlanOk.ctx k) Try.func46 (by kernel_rfl) (by kernel_rfl) mixed tdsOk (.cons (impl_within.ok k) (.cons (impl_isPart.ok k) (.cons (impl_isBudget.ok k) EntsOk.nil))) (by kernel_rfl) (leB (by kernel_rfl)) (by kernel_rfl) (impl_PlanOk.runs k) (impl_PlanOk.obls k)
/-! loop.example/g00200/impl.PortOk -/
def impl_PortOk.f (k : Nat) (a0 : Int × Int × Int × Int × Int) : Option (Bool) :=
  (impl_isPart.f k a0.2.1).bind fun t1 => (if ¬ t1 = true then (some false) else ((impl_isPart.f k a0.2.2.1).bind fun t2 => (if ¬ t2 = true then (some false) else (if a0.2.1 = a0.2.2.1 then (some false) else (if a0.1 = 1 then ((impl_within.f k a0.2.2.2.1 1 6).bind fun t3 => (if t3 = true then (some (decide (a0.2.2.2.2 = 0))) else (some false))) else (if a0.1 = 2 then (if a0.2.2.2.1 = 1 then ((impl_within.f k a0.2.2.2.2 1 100).bind fun t4 => (some t4)) else (some false)) else (some false)))))))
def impl_PortOk.sig : Sig := ⟨[.val true Ty5 []], [.val false .bool []]⟩
def impl_PortOk.F : FT impl_PortOk.sig := fun k x => impl_PortOk.f k x.1
def impl_PortOk.ann : AT impl_PortOk.sig := fun k => .nil
def impl_PortOk.ent : Ent := ⟨75, impl_PortOk.sig, impl_PortOk.F⟩
def impl_PortOk.ctx (k : Nat) : Ctx := ⟨tds, [impl_within.ent, impl_isPart.ent], k, 44⟩
theorem impl_PortOk.runs : RunsT impl_PortOk.sig impl_PortOk.ctx Try.f75 impl_PortOk.ann impl_PortOk.F := fun k x => by kernel_rfl
theorem impl_PortOk.obls : OblT tds impl_PortOk.sig impl_PortOk.ctx 0 Try.f75 impl_PortOk.ann := fun k => ⟨tr, ⟨⟨tr, ⟨⟨tr, tr⟩, tr⟩⟩, ⟨⟨tr, ⟨⟨tr, tr⟩, tr⟩⟩, ⟨tr, tr⟩⟩⟩⟩
theorem impl_PortOk.ok (k : Nat) : EntOk Try.prog k impl_PortOk.ent := fn_ok (C := impl_PortOk.ctx k) Try.func75 (by kernel_rfl) (by kernel_rfl) mixed tdsOk (.cons (impl_within.ok k) (.cons (impl_isPart.ok k) EntsOk.nil)) (by kernel_rfl) (leB (by kernel_rfl)) (by kernel_rfl) (impl_PortOk.runs k) (impl_PortOk.obls k)
/-! loop.example/g00200/impl.portsOk -/
def impl_portsOk.l1 (k : Nat)  : Nat → Int × Int × De5 × Unit → Option (Bool)
  | 0, _ => none
  | n + 1, (x1, x2, x3, _) => if x2 < x1 then (if 0 ≤ x2 then (if x2 < (x3.length : Int) then ((impl_PortOk.f k ((el Ty5 x3 x2.toNat).1, (((el Ty5 x3 x2.toNat).2).1, ((((el Ty5 x3 x2.toNat).2).2).1, ((((el Ty5 x3 x2.toNat).2).2).2))))).bind fun t1 => (if ¬ t1 = true then (some false) else (impl_portsOk.l1 k n (x1, w64 (x2 + 1), x3, ())))) else none) else none) else (some (decide ((x3.length : Int) ≤ 6)))
def impl_portsOk.f (k : Nat) (a0 : De5) : Option (Bool) :=
  impl_portsOk.l1 k k ((a0.length : Int), 0, a0, ())
def impl_portsOk.Sl1 : Shape := ⟨[(0, false, [.own 0]), (5, false, [.own 0]), (6, false, [.int .i64]), (7, false, [.int .i64])], [(0, .view false 50 Ty5)], 1⟩
def impl_portsOk.sig : Sig := ⟨[.val false (.sl 50 Ty5) [0]], [.val false .bool []]⟩
def impl_portsOk.F : FT impl_portsOk.sig := fun k x => impl_portsOk.f k x.1
def impl_portsOk.ann : AT impl_portsOk.sig := fun k => (.seq .nil (.seq (.seq .nil (.block (.loop impl_portsOk.Sl1 (impl_portsOk.l1 k) fun n1 => .nil))) .nil))
def impl_portsOk.ent : Ent := ⟨47, impl_portsOk.sig, impl_portsOk.F⟩
def impl_portsOk.ctx (k : Nat) : Ctx := ⟨tds, [impl_PortOk.ent], k, 18⟩
theorem impl_portsOk.runs : RunsT impl_portsOk.sig impl_portsOk.ctx Try.f47 impl_portsOk.ann impl_portsOk.F := fun k x => by kernel_rfl
theorem impl_portsOk.obls : OblT tds impl_portsOk.sig impl_portsOk.ctx 1 Try.f47 impl_portsOk.ann := fun k => ⟨tr, ⟨⟨tr, ⟨⟨by kernel_rfl, fun x => by kernel_rfl⟩, fun n => ⟨fun x => by kernel_rfl, ⟨tr, ⟨⟨tr, tr⟩, ⟨⟨tr, ⟨tr, ⟨⟨tr, tr⟩, tr⟩⟩⟩, tr⟩⟩⟩⟩⟩⟩, ⟨tr, tr⟩⟩⟩
theorem impl_portsOk.ok (k : Nat) : EntOk Try.prog k impl_portsOk.ent := fn_ok (C := impl_portsOk.ctx k) Try.func47 (by kernel_rfl) (by kernel_rfl) mixed tdsOk (.cons (impl_PortOk.ok k) EntsOk.nil) (by kernel_rfl) (leB (by kernel_rfl)) (by kernel_rfl) (impl_portsOk.runs k) (impl_portsOk.obls k)
/-! loop.example/g00200/impl.ruleFor -/
def impl_ruleFor.l1 (k : Nat)  : Nat → Int × Int × Int × Int × De3 × Unit → Option (Int)
  | 0, _ => none
  | n + 1, (x1, x2, x3, x4, x5, _) => if x4 < x3 then (if 0 ≤ x4 then (if x4 < (x5.length : Int) then (if ((el Ty3 x5 x4.toNat).1) = x1 then (if (((el Ty3 x5 x4.toNat).2).1) = x2 then (some x4) else (impl_ruleFor.l1 k n (x1, x2, x3, w64 (x4 + 1), x5, ()))) else (impl_ruleFor.l1 k n (x1, x2, x3, w64 (x4 + 1), x5, ()))) else none) else none) else (some (-1))
def impl_ruleFor.f (k : Nat) (a0 : De3) (a1 : Int) (a2 : Int) : Option (Int) :=
  impl_ruleFor.l1 k k (a1, a2, (a0.length : Int), 0, a0, ())
def impl_ruleFor.Sl1 : Shape := ⟨[(1, false, [.int .i64]), (2, false, [.int .i64]), (9, false, [.own 0]), (10, false, [.int .i64]), (11, false, [.int .i64])], [(0, .view false 52 Ty3)], 1⟩
def impl_ruleFor.sig : Sig := ⟨[.val false (.sl 52 Ty3) [0], .val false TyI [], .val false TyI []], [.val false TyI []]⟩
def impl_ruleFor.F : FT impl_ruleFor.sig := fun k x => impl_ruleFor.f k x.1 x.2.1 x.2.2.1
def impl_ruleFor.ann : AT impl_ruleFor.sig := fun k => (.seq .nil (.seq (.seq .nil (.block (.loop impl_ruleFor.Sl1 (impl_ruleFor.l1 k) fun n1 => .nil))) .nil))
def impl_ruleFor.ent : Ent := ⟨76, impl_ruleFor.sig, impl_ruleFor.F⟩
def impl_ruleFor.ctx (k : Nat) : Ctx := ⟨tds, [], k, 28⟩
theorem impl_ruleFor.runs : RunsT impl_ruleFor.sig impl_ruleFor.ctx Try.f76 impl_ruleFor.ann impl_ruleFor.F := fun k x => by kernel_rfl
theorem impl_ruleFor.obls : OblT tds impl_ruleFor.sig impl_ruleFor.ctx 1 Try.f76 impl_ruleFor.ann := fun k => ⟨tr, ⟨⟨tr, ⟨⟨by kernel_rfl, fun x => by kernel_rfl⟩, fun n => ⟨fun x => by kernel_rfl, ⟨tr, ⟨⟨tr, tr⟩, ⟨⟨tr, ⟨tr, ⟨⟨tr, tr⟩, tr⟩⟩⟩, tr⟩⟩⟩⟩⟩⟩, ⟨tr, tr⟩⟩⟩
theorem impl_ruleFor.ok (k : Nat) : EntOk Try.prog k impl_ruleFor.ent := fn_ok (C := impl_ruleFor.ctx k) Try.func76 (by kernel_rfl) (by kernel_rfl) mixed tdsOk EntsOk.nil (by kernel_rfl) (leB (by kernel_rfl)) (by kernel_rfl) (impl_ruleFor.runs k) (impl_ruleFor.obls k)
/-! loop.example/g00200/impl.RulesOk -/
def impl_RulesOk.l1 (k : Nat)  : Nat → Int × Int × De3 × Unit → Option (Bool)
  | 0, _ => none
  | n + 1, (x1, x2, x3, _) => if x2 < x1 then (if 0 ≤ x2 then (if x2 < (x3.length : Int) then ((impl_isPart.f k ((el Ty3 x3 x2.toNat).1)).bind fun t1 => (if ¬ t1 = true then (some false) else ((impl_within.f k (((el Ty3 x3 x2.toNat).2).1) 1 2).bind fun t2 => (if ¬ t2 = true then (some false) else ((impl_within.f k (((el Ty3 x3 x2.toNat).2).2) 0 4).bind fun t3 => (if ¬ t3 = true then (some false) else ((impl_ruleFor.f k x3 ((el Ty3 x3 x2.toNat).1) (((el Ty3 x3 x2.toNat).2).1)).bind fun t4 => (if ¬ t4 = x2 then (some false) else (if (((el Ty3 x3 x2.toNat).2).1) = 1 then (if (((el Ty3 x3 x2.toNat).2).2) = 0 then (some false) else (impl_RulesOk.l1 k n (x1, w64 (x2 + 1), x3, ()))) else (impl_RulesOk.l1 k n (x1, w64 (x2 + 1), x3, ()))))))))))) else none) else none) else (some (decide ((x3.length : Int) ≤ 8)))
def impl_RulesOk.f (k : Nat) (a0 : De3) : Option (Bool) :=
  impl_RulesOk.l1 k k ((a0.length : Int), 0, a0, ())
def impl_RulesOk.Sl1 : Shape := ⟨[(0, false, [.own 0]), (5, false, [.own 0]), (6, false, [.int .i64]), (7, false, [.int .i64])], [(0, .view false 52 Ty3)], 1⟩
def impl_RulesOk.sig : Sig := ⟨[.val false (.sl 52 Ty3) [0]], [.val false .bool []]⟩
def impl_RulesOk.F : FT impl_RulesOk.sig := fun k x => impl_RulesOk.f k x.1
def impl_RulesOk.ann : AT impl_RulesOk.sig := fun k => (.seq .nil (.seq (.seq .nil (.block (.loop impl_RulesOk.Sl1 (impl_RulesOk.l1 k) fun n1 => .nil))) .nil))
def impl_RulesOk.ent : Ent := ⟨48, impl_RulesOk.sig, impl_RulesOk.F⟩
def impl_RulesOk.ctx (k : Nat) : Ctx := ⟨tds, [impl_within.ent, impl_isPart.ent, impl_ruleFor.ent], k, 50⟩
theorem impl_RulesOk.runs : RunsT impl_RulesOk.sig impl_RulesOk.ctx Try.f48 impl_RulesOk.ann impl_RulesOk.F := fun k x => by kernel_rfl
theorem impl_RulesOk.obls : OblT tds impl_RulesOk.sig impl_RulesOk.ctx 1 Try.f48 impl_RulesOk.ann := fun k => ⟨tr, ⟨⟨tr, ⟨⟨by kernel_rfl, fun x => by kernel_rfl⟩, fun n => ⟨fun x => by kernel_rfl, ⟨tr, ⟨⟨tr, tr⟩, ⟨⟨tr, ⟨⟨tr, ⟨⟨tr, tr⟩, tr⟩⟩, ⟨tr, ⟨⟨tr, tr⟩, tr⟩⟩⟩⟩, tr⟩⟩⟩⟩⟩⟩, ⟨tr, tr⟩⟩⟩
theorem impl_RulesOk.ok (k : Nat) : EntOk Try.prog k impl_RulesOk.ent := fn_ok (C := impl_RulesOk.ctx k) Try.func48 (by kernel_rfl) (by kernel_rfl) mixed tdsOk (.cons (impl_within.ok k) (.cons (impl_isPart.ok k) (.cons (impl_ruleFor.ok k) EntsOk.nil))) (by kernel_rfl) (leB (by kernel_rfl)) (by kernel_rfl) (impl_RulesOk.runs k) (impl_RulesOk.obls k)
/-! loop.example/g00200/impl.ReadCode -/
def impl_ReadCode.l1 (k : Nat)  : Nat → ByteArray × Int × De2 × Unit → Option (De2 × Bool)
  | 0, _ => none
  | n + 1, (x1, x2, x3, _) => if x2 < (x1.size : Int) then (if 0 ≤ x2 then (if x2 < (x1.size : Int) then (if 0 ≤ w64 (x2 + 1) then (if w64 (x2 + 1) < (x1.size : Int) then (((some ([(w64 (bt x1 x2), w64 (bt x1 (w64 (x2 + 1))))] : De2))).bind fun y2 => (if (x3.length + y2.length) * 16 ≤ 140737488355328 then (((some (x3 ++ y2))).bind fun y3 => (impl_ReadCode.l1 k n (x1, w64 (x2 + 2), y3, ()))) else none)) else none) else none) else none) else none) else (some (x3, true))
def impl_ReadCode.f (k : Nat) (a0 : ByteArray) : Option (De2 × Bool) :=
  if ¬ (Int.tmod (a0.size : Int) 2) = 0 then (some ([], false)) else (if 120 < (a0.size : Int) then (some ([], false)) else (((some ([] : De2))).bind fun y1 => (impl_ReadCode.l1 k k (a0, 0, y1, ()))))
def impl_ReadCode.Sl1 : Shape := ⟨[(0, false, [.str]), (4, false, [.own 0]), (5, false, [.int .i64])], [(0, .row 108 Ty2)], 1⟩
def impl_ReadCode.sig : Sig := ⟨[.val false .str []], [.val false (.sl 108 Ty2) [none], .val false .bool []]⟩
def impl_ReadCode.F : FT impl_ReadCode.sig := fun k x => impl_ReadCode.f k x.1
def impl_ReadCode.ann : AT impl_ReadCode.sig := fun k => (.seq .nil (.seq .nil (.seq .nil (.seq (.seq .nil (.block (.loop impl_ReadCode.Sl1 (impl_ReadCode.l1 k) fun n1 => .nil))) .nil))))
def impl_ReadCode.ent : Ent := ⟨77, impl_ReadCode.sig, impl_ReadCode.F⟩
def impl_ReadCode.ctx (k : Nat) : Ctx := ⟨tds, [], k, 36⟩
theorem impl_ReadCode.runs : RunsT impl_ReadCode.sig impl_ReadCode.ctx Try.f77 impl_ReadCode.ann impl_ReadCode.F := fun k x => by kernel_rfl
theorem impl_ReadCode.obls : OblT tds impl_ReadCode.sig impl_ReadCode.ctx 0 Try.f77 impl_ReadCode.ann := fun k => ⟨tr, ⟨⟨tr, ⟨⟨tr, tr⟩, tr⟩⟩, ⟨tr, ⟨⟨tr, ⟨⟨by kernel_rfl, fun x => by kernel_rfl⟩, fun n => ⟨fun x => by kernel_rfl, ⟨⟨tr, ⟨tr, tr⟩⟩, ⟨tr, tr⟩⟩⟩⟩⟩, ⟨tr, tr⟩⟩⟩⟩⟩
theorem impl_ReadCode.ok (k : Nat) : EntOk Try.prog k impl_ReadCode.ent := fn_ok (C := impl_ReadCode.ctx k) Try.func77 (by kernel_rfl) (by kernel_rfl) mixed tdsOk EntsOk.nil (by kernel_rfl) (leB (by kernel_rfl)) (by kernel_rfl) (impl_ReadCode.runs k) (impl_ReadCode.obls k)
/-! loop.example/g00200/impl.codesOk -/
def impl_codesOk.l1 (k : Nat)  : Nat → Int × Int × Int × DeB × Unit → Option (Bool)
  | 0, _ => none
  | n + 1, (x1, x2, x3, x4, _) => if x3 < x2 then (if 0 ≤ x3 then (if x3 < (x4.length : Int) then ((impl_ReadCode.f k (el .str x4 x3.toNat)).bind fun t1 => (if ¬ t1.2 = true then (some false) else (impl_codesOk.l1 k n (x1, x2, w64 (x3 + 1), x4, ())))) else none) else none) else (some (decide ((x4.length : Int) = x1)))
def impl_codesOk.f (k : Nat) (a0 : DeB) (a1 : Int) : Option (Bool) :=
  impl_codesOk.l1 k k (a1, (a0.length : Int), 0, a0, ())
def impl_codesOk.Sl1 : Shape := ⟨[(0, false, [.own 0]), (1, false, [.int .i64]), (9, false, [.own 0]), (10, false, [.int .i64]), (11, false, [.int .i64])], [(0, .view false 9 .str)], 1⟩
def impl_codesOk.sig : Sig := ⟨[.val false (.sl 9 .str) [0], .val false TyI []], [.val false .bool []]⟩
def impl_codesOk.F : FT impl_codesOk.sig := fun k x => impl_codesOk.f k x.1 x.2.1
def impl_codesOk.ann : AT impl_codesOk.sig := fun k => (.seq .nil (.seq (.seq .nil (.block (.loop impl_codesOk.Sl1 (impl_codesOk.l1 k) fun n1 => .nil))) .nil))
def impl_codesOk.ent : Ent := ⟨49, impl_codesOk.sig, impl_codesOk.F⟩
def impl_codesOk.ctx (k : Nat) : Ctx := ⟨tds, [impl_ReadCode.ent], k, 27⟩
theorem impl_codesOk.runs : RunsT impl_codesOk.sig impl_codesOk.ctx Try.f49 impl_codesOk.ann impl_codesOk.F := fun k x => by kernel_rfl
theorem impl_codesOk.obls : OblT tds impl_codesOk.sig impl_codesOk.ctx 1 Try.f49 impl_codesOk.ann := fun k => ⟨tr, ⟨⟨tr, ⟨⟨by kernel_rfl, fun x => by kernel_rfl⟩, fun n => ⟨fun x => by kernel_rfl, ⟨tr, ⟨⟨tr, tr⟩, ⟨⟨tr, ⟨tr, ⟨tr, ⟨⟨tr, tr⟩, tr⟩⟩⟩⟩, tr⟩⟩⟩⟩⟩⟩, ⟨tr, tr⟩⟩⟩
theorem impl_codesOk.ok (k : Nat) : EntOk Try.prog k impl_codesOk.ent := fn_ok (C := impl_codesOk.ctx k) Try.func49 (by kernel_rfl) (by kernel_rfl) mixed tdsOk (.cons (impl_ReadCode.ok k) EntsOk.nil) (by kernel_rfl) (leB (by kernel_rfl)) (by kernel_rfl) (impl_codesOk.runs k) (impl_codesOk.obls k)
/-! loop.example/g00200/impl.partsOk -/
def impl_partsOk.l3 (k : Nat)  : Nat → Int × Int × Int × De2 × De2 × De5 × De3 × DeB × Unit → Option (Bool)
  | 0, _ => none
  | n + 1, (x1, x2, x3, x4, x5, x6, x7, x8, _) => if x3 < x2 then (if 0 ≤ x3 then (if x3 < (x7.length : Int) then (impl_partsOk.l3 k n (max x1 ((el Ty3 x7 x3.toNat).1), x2, w64 (x3 + 1), x4, x5, x6, x7, x8, ())) else none) else none) else (some (decide (x1 ≤ (x4.length : Int))))
def impl_partsOk.l2 (k : Nat)  : Nat → Int × Int × Int × De2 × De2 × De5 × De3 × DeB × Unit → Option (Bool)
  | 0, _ => none
  | n + 1, (x1, x2, x3, x4, x5, x6, x7, x8, _) => if x3 < x2 then (if 0 ≤ x3 then (if x3 < (x6.length : Int) then (impl_partsOk.l2 k n (max (max x1 (((el Ty5 x6 x3.toNat).2).1)) ((((el Ty5 x6 x3.toNat).2).2).1), x2, w64 (x3 + 1), x4, x5, x6, x7, x8, ())) else none) else none) else (impl_partsOk.l3 k k (x1, (x7.length : Int), 0, x4, x5, x6, x7, x8, ()))
def impl_partsOk.l1 (k : Nat)  : Nat → Int × Int × Int × De2 × De2 × De5 × De3 × DeB × Unit → Option (Bool)
  | 0, _ => none
  | n + 1, (x1, x2, x3, x4, x5, x6, x7, x8, _) => if x3 < x2 then (if 0 ≤ x3 then (if x3 < (x5.length : Int) then (impl_partsOk.l1 k n (max x1 ((el Ty2 x5 x3.toNat).1), x2, w64 (x3 + 1), x4, x5, x6, x7, x8, ())) else none) else none) else (impl_partsOk.l2 k k (x1, (x6.length : Int), 0, x4, x5, x6, x7, x8, ()))
def impl_partsOk.f (k : Nat) (a0 : De2 × De2 × De5 × De3 × DeB) : Option (Bool) :=
  impl_partsOk.l1 k k (0, (a0.2.1.length : Int), 0, a0.1, a0.2.1, a0.2.2.1, a0.2.2.2.1, a0.2.2.2.2, ())
def impl_partsOk.Sl1 : Shape := ⟨[(1, false, [.ptr 5 0]), (3, false, [.int .i64]), (11, false, [.own 1]), (12, false, [.int .i64]), (13, false, [.int .i64])], [(5, .blk 28 [.own 0, .own 1, .own 2, .own 3, .own 4]), (0, .view false 46 Ty2), (1, .view false 48 Ty2), (2, .view false 50 Ty5), (3, .view false 52 Ty3), (4, .view false 9 .str)], 6⟩
def impl_partsOk.Sl2 : Shape := ⟨[(1, false, [.ptr 5 0]), (3, false, [.int .i64]), (23, false, [.own 2]), (24, false, [.int .i64]), (25, false, [.int .i64])], [(5, .blk 28 [.own 0, .own 1, .own 2, .own 3, .own 4]), (0, .view false 46 Ty2), (1, .view false 48 Ty2), (2, .view false 50 Ty5), (3, .view false 52 Ty3), (4, .view false 9 .str)], 6⟩
def impl_partsOk.Sl3 : Shape := ⟨[(1, false, [.ptr 5 0]), (3, false, [.int .i64]), (37, false, [.own 3]), (38, false, [.int .i64]), (39, false, [.int .i64])], [(5, .blk 28 [.own 0, .own 1, .own 2, .own 3, .own 4]), (0, .view false 46 Ty2), (1, .view false 48 Ty2), (2, .view false 50 Ty5), (3, .view false 52 Ty3), (4, .view false 9 .str)], 6⟩
def impl_partsOk.sig : Sig := ⟨[.val true (.pair (.sl 46 Ty2) (.pair (.sl 48 Ty2) (.pair (.sl 50 Ty5) (.pair (.sl 52 Ty3) (.sl 9 .str))))) [0, 0, 0, 0, 0]], [.val false .bool []]⟩
def impl_partsOk.F : FT impl_partsOk.sig := fun k x => impl_partsOk.f k x.1
def impl_partsOk.ann : AT impl_partsOk.sig := fun k => (.seq .nil (.seq .nil (.seq (.seq .nil (.block (.loop impl_partsOk.Sl1 (impl_partsOk.l1 k) fun n1 => .nil))) (.seq (.seq .nil (.block (.loop impl_partsOk.Sl2 (impl_partsOk.l2 k) fun n1 => .nil))) (.seq (.seq .nil (.block (.loop impl_partsOk.Sl3 (impl_partsOk.l3 k) fun n1 => .nil))) .nil)))))
def impl_partsOk.ent : Ent := ⟨50, impl_partsOk.sig, impl_partsOk.F⟩
def impl_partsOk.ctx (k : Nat) : Ctx := ⟨tds, [], k, 53⟩
theorem impl_partsOk.runs : RunsT impl_partsOk.sig impl_partsOk.ctx Try.f50 impl_partsOk.ann impl_partsOk.F := fun k x => by kernel_rfl
theorem impl_partsOk.obls : OblT tds impl_partsOk.sig impl_partsOk.ctx 5 Try.f50 impl_partsOk.ann := fun k => ⟨tr, ⟨tr, ⟨⟨tr, ⟨⟨by kernel_rfl, fun x => by kernel_rfl⟩, fun n => ⟨fun x => by kernel_rfl, ⟨tr, ⟨⟨tr, tr⟩, ⟨⟨tr, tr⟩, tr⟩⟩⟩⟩⟩⟩, ⟨⟨tr, ⟨⟨by kernel_rfl, fun x => by kernel_rfl⟩, fun n => ⟨fun x => by kernel_rfl, ⟨tr, ⟨⟨tr, tr⟩, ⟨⟨tr, tr⟩, tr⟩⟩⟩⟩⟩⟩, ⟨⟨tr, ⟨⟨by kernel_rfl, fun x => by kernel_rfl⟩, fun n => ⟨fun x => by kernel_rfl, ⟨tr, ⟨⟨tr, tr⟩, ⟨⟨tr, tr⟩, tr⟩⟩⟩⟩⟩⟩, ⟨tr, tr⟩⟩⟩⟩⟩⟩
theorem impl_partsOk.ok (k : Nat) : EntOk Try.prog k impl_partsOk.ent := fn_ok (C := impl_partsOk.ctx k) Try.func50 (by kernel_rfl) (by kernel_rfl) mixed tdsOk EntsOk.nil (by kernel_rfl) (leB (by kernel_rfl)) (by kernel_rfl) (impl_partsOk.runs k) (impl_partsOk.obls k)
/-! loop.example/g00200/impl.SetupFault -/
def impl_SetupFault.f (k : Nat) (a0 : De2 × De2 × De5 × De3 × DeB) : Option (Int) :=
  (impl_RegionsOk.f k a0.1).bind fun t1 => (if ¬ t1 = true then (some 1) else ((impl_PlanOk.f k a0.2.1).bind fun t2 => (if ¬ t2 = true then (some 2) else ((impl_portsOk.f k a0.2.2.1).bind fun t3 => (if ¬ t3 = true then (some 3) else ((impl_RulesOk.f k a0.2.2.2.1).bind fun t4 => (if ¬ t4 = true then (some 4) else ((impl_codesOk.f k a0.2.2.2.2 (a0.1.length : Int)).bind fun t5 => (if ¬ t5 = true then (some 5) else ((impl_partsOk.f k a0).bind fun t6 => (if ¬ t6 = true then (some 6) else (some 0))))))))))))
def impl_SetupFault.sig : Sig := ⟨[.val true (.pair (.sl 46 Ty2) (.pair (.sl 48 Ty2) (.pair (.sl 50 Ty5) (.pair (.sl 52 Ty3) (.sl 9 .str))))) [0, 0, 0, 0, 0]], [.val false TyI []]⟩
def impl_SetupFault.F : FT impl_SetupFault.sig := fun k x => impl_SetupFault.f k x.1
def impl_SetupFault.ann : AT impl_SetupFault.sig := fun k => .nil
def impl_SetupFault.ent : Ent := ⟨14, impl_SetupFault.sig, impl_SetupFault.F⟩
def impl_SetupFault.ctx (k : Nat) : Ctx := ⟨tds, [impl_RegionsOk.ent, impl_PlanOk.ent, impl_portsOk.ent, impl_RulesOk.ent, impl_codesOk.ent, impl_partsOk.ent], k, 35⟩
theorem impl_SetupFault.runs : RunsT impl_SetupFault.sig impl_SetupFault.ctx Try.f14 impl_SetupFault.ann impl_SetupFault.F := fun k x => by kernel_rfl
theorem impl_SetupFault.obls : OblT tds impl_SetupFault.sig impl_SetupFault.ctx 5 Try.f14 impl_SetupFault.ann := fun k => ⟨tr, ⟨⟨tr, ⟨⟨tr, tr⟩, ⟨tr, ⟨⟨tr, tr⟩, ⟨tr, ⟨⟨tr, tr⟩, ⟨tr, ⟨⟨tr, tr⟩, ⟨tr, ⟨⟨tr, tr⟩, ⟨tr, ⟨⟨tr, tr⟩, tr⟩⟩⟩⟩⟩⟩⟩⟩⟩⟩⟩⟩, ⟨tr, tr⟩⟩⟩
theorem impl_SetupFault.ok (k : Nat) : EntOk Try.prog k impl_SetupFault.ent := fn_ok (C := impl_SetupFault.ctx k) Try.func14 (by kernel_rfl) (by kernel_rfl) mixed tdsOk (.cons (impl_RegionsOk.ok k) (.cons (impl_PlanOk.ok k) (.cons (impl_portsOk.ok k) (.cons (impl_RulesOk.ok k) (.cons (impl_codesOk.ok k) (.cons (impl_partsOk.ok k) EntsOk.nil)))))) (by kernel_rfl) (leB (by kernel_rfl)) (by kernel_rfl) (impl_SetupFault.runs k) (impl_SetupFault.obls k)
/-! loop.example/g00200/impl.ReadSetup -/
def impl_ReadSetup.f (k : Nat) (a0 : ByteArray) : Option (DeS × Bool) :=
  (impl_reader_setup.f k (a0, (0, false))).bind fun t1 => (if t1.2.2.2 = true then (some (([], ([], ([], ([], [])))), false)) else (if ¬ t1.2.2.1 = (a0.size : Int) then (some (([], ([], ([], ([], [])))), false)) else ((impl_SetupFault.f k t1.1).bind fun t2 => (if ¬ t2 = 0 then (some (([], ([], ([], ([], [])))), false)) else (some (t1.1, true))))))
def impl_ReadSetup.sig : Sig := ⟨[.val false .str []], [.val true (.pair (.sl 46 Ty2) (.pair (.sl 48 Ty2) (.pair (.sl 50 Ty5) (.pair (.sl 52 Ty3) (.sl 9 .str))))) [none, none, none, none, none], .val false .bool []]⟩
def impl_ReadSetup.F : FT impl_ReadSetup.sig := fun k x => impl_ReadSetup.f k x.1
def impl_ReadSetup.ann : AT impl_ReadSetup.sig := fun k => .nil
def impl_ReadSetup.ent : Ent := ⟨6, impl_ReadSetup.sig, impl_ReadSetup.F⟩
def impl_ReadSetup.ctx (k : Nat) : Ctx := ⟨tds, [impl_SetupFault.ent, impl_reader_setup.ent], k, 31⟩
theorem impl_ReadSetup.runs : RunsT impl_ReadSetup.sig impl_ReadSetup.ctx Try.f6 impl_ReadSetup.ann impl_ReadSetup.F := fun k x => by kernel_rfl
theorem impl_ReadSetup.obls : OblT tds impl_ReadSetup.sig impl_ReadSetup.ctx 0 Try.f6 impl_ReadSetup.ann := fun k => ⟨tr, ⟨tr, ⟨tr, ⟨⟨tr, ⟨⟨tr, tr⟩, tr⟩⟩, ⟨tr, tr⟩⟩⟩⟩⟩
theorem impl_ReadSetup.ok (k : Nat) : EntOk Try.prog k impl_ReadSetup.ent := fn_ok (C := impl_ReadSetup.ctx k) Try.func6 (by kernel_rfl) (by kernel_rfl) mixed tdsOk (.cons (impl_SetupFault.ok k) (.cons (impl_reader_setup.ok k) EntsOk.nil)) (by kernel_rfl) (leB (by kernel_rfl)) (by kernel_rfl) (impl_ReadSetup.runs k) (impl_ReadSetup.obls k)
/-! loop.example/g00200/laws.eqRegion -/
def laws_eqRegion.f (k : Nat) (a0 : Int × Int) (a1 : Int × Int) : Option (Bool) :=
  if ¬ a0.1 = a1.1 then (some false) else (if ¬ a0.2 = a1.2 then (some false) else (some true))
def laws_eqRegion.sig : Sig := ⟨[.val true Ty2 [], .val true Ty2 []], [.val false .bool []]⟩
def laws_eqRegion.F : FT laws_eqRegion.sig := fun k x => laws_eqRegion.f k x.1 x.2.1
def laws_eqRegion.ann : AT laws_eqRegion.sig := fun k => .nil
def laws_eqRegion.ent : Ent := ⟨59, laws_eqRegion.sig, laws_eqRegion.F⟩
def laws_eqRegion.ctx (k : Nat) : Ctx := ⟨tds, [], k, 15⟩
theorem laws_eqRegion.runs : RunsT laws_eqRegion.sig laws_eqRegion.ctx Try.f59 laws_eqRegion.ann laws_eqRegion.F := fun k x => by kernel_rfl
theorem laws_eqRegion.obls : OblT tds laws_eqRegion.sig laws_eqRegion.ctx 0 Try.f59 laws_eqRegion.ann := fun k => ⟨tr, ⟨⟨tr, ⟨⟨tr, tr⟩, tr⟩⟩, ⟨⟨tr, ⟨⟨tr, tr⟩, tr⟩⟩, ⟨tr, tr⟩⟩⟩⟩
theorem laws_eqRegion.ok (k : Nat) : EntOk Try.prog k laws_eqRegion.ent := fn_ok (C := laws_eqRegion.ctx k) Try.func59 (by kernel_rfl) (by kernel_rfl) mixed tdsOk EntsOk.nil (by kernel_rfl) (leB (by kernel_rfl)) (by kernel_rfl) (laws_eqRegion.runs k) (laws_eqRegion.obls k)
/-! loop.example/g00200/laws.eqRegionS -/
def laws_eqRegionS.l1 (k : Nat)  : Nat → Int × De2 × De2 × Unit → Option (Bool)
  | 0, _ => none
  | n + 1, (x1, x2, x3, _) => if x1 < (x2.length : Int) then (if 0 ≤ x1 then (if x1 < (x2.length : Int) then (if 0 ≤ x1 then (if x1 < (x3.length : Int) then ((laws_eqRegion.f k (el Ty2 x2 x1.toNat) (el Ty2 x3 x1.toNat)).bind fun t1 => (if ¬ t1 = true then (some false) else (laws_eqRegionS.l1 k n (w64 (x1 + 1), x2, x3, ())))) else none) else none) else none) else none) else (some true)
def laws_eqRegionS.f (k : Nat) (a0 : De2) (a1 : De2) : Option (Bool) :=
  if ¬ (a0.length : Int) = (a1.length : Int) then (some false) else (laws_eqRegionS.l1 k k (0, a0, a1, ()))
def laws_eqRegionS.Sl1 : Shape := ⟨[(0, false, [.own 0]), (1, false, [.own 1]), (5, false, [.int .i64])], [(0, .view false 46 Ty2), (1, .view false 46 Ty2)], 2⟩
def laws_eqRegionS.sig : Sig := ⟨[.val false (.sl 46 Ty2) [0], .val false (.sl 46 Ty2) [0]], [.val false .bool []]⟩
def laws_eqRegionS.F : FT laws_eqRegionS.sig := fun k x => laws_eqRegionS.f k x.1 x.2.1
def laws_eqRegionS.ann : AT laws_eqRegionS.sig := fun k => (.seq .nil (.seq .nil (.seq (.seq .nil (.block (.loop laws_eqRegionS.Sl1 (laws_eqRegionS.l1 k) fun n1 => .nil))) .nil)))
def laws_eqRegionS.ent : Ent := ⟨20, laws_eqRegionS.sig, laws_eqRegionS.F⟩
def laws_eqRegionS.ctx (k : Nat) : Ctx := ⟨tds, [laws_eqRegion.ent], k, 27⟩
theorem laws_eqRegionS.runs : RunsT laws_eqRegionS.sig laws_eqRegionS.ctx Try.f20 laws_eqRegionS.ann laws_eqRegionS.F := fun k x => by kernel_rfl
theorem laws_eqRegionS.obls : OblT tds laws_eqRegionS.sig laws_eqRegionS.ctx 2 Try.f20 laws_eqRegionS.ann := fun k => ⟨tr, ⟨⟨tr, ⟨⟨tr, tr⟩, tr⟩⟩, ⟨⟨tr, ⟨⟨by kernel_rfl, fun x => by kernel_rfl⟩, fun n => ⟨fun x => by kernel_rfl, ⟨⟨tr, ⟨tr, tr⟩⟩, ⟨⟨tr, ⟨⟨tr, tr⟩, tr⟩⟩, tr⟩⟩⟩⟩⟩, ⟨tr, tr⟩⟩⟩⟩
theorem laws_eqRegionS.ok (k : Nat) : EntOk Try.prog k laws_eqRegionS.ent := fn_ok (C := laws_eqRegionS.ctx k) Try.func20 (by kernel_rfl) (by kernel_rfl) mixed tdsOk (.cons (laws_eqRegion.ok k) EntsOk.nil) (by kernel_rfl) (leB (by kernel_rfl)) (by kernel_rfl) (laws_eqRegionS.runs k) (laws_eqRegionS.obls k)
/-! loop.example/g00200/laws.eqWindow -/
def laws_eqWindow.f (k : Nat) (a0 : Int × Int) (a1 : Int × Int) : Option (Bool) :=
  if ¬ a0.1 = a1.1 then (some false) else (if ¬ a0.2 = a1.2 then (some false) else (some true))
def laws_eqWindow.sig : Sig := ⟨[.val true Ty2 [], .val true Ty2 []], [.val false .bool []]⟩
def laws_eqWindow.F : FT laws_eqWindow.sig := fun k x => laws_eqWindow.f k x.1 x.2.1
def laws_eqWindow.ann : AT laws_eqWindow.sig := fun k => .nil
def laws_eqWindow.ent : Ent := ⟨60, laws_eqWindow.sig, laws_eqWindow.F⟩
def laws_eqWindow.ctx (k : Nat) : Ctx := ⟨tds, [], k, 15⟩
theorem laws_eqWindow.runs : RunsT laws_eqWindow.sig laws_eqWindow.ctx Try.f60 laws_eqWindow.ann laws_eqWindow.F := fun k x => by kernel_rfl
theorem laws_eqWindow.obls : OblT tds laws_eqWindow.sig laws_eqWindow.ctx 0 Try.f60 laws_eqWindow.ann := fun k => ⟨tr, ⟨⟨tr, ⟨⟨tr, tr⟩, tr⟩⟩, ⟨⟨tr, ⟨⟨tr, tr⟩, tr⟩⟩, ⟨tr, tr⟩⟩⟩⟩
theorem laws_eqWindow.ok (k : Nat) : EntOk Try.prog k laws_eqWindow.ent := fn_ok (C := laws_eqWindow.ctx k) Try.func60 (by kernel_rfl) (by kernel_rfl) mixed tdsOk EntsOk.nil (by kernel_rfl) (leB (by kernel_rfl)) (by kernel_rfl) (laws_eqWindow.runs k) (laws_eqWindow.obls k)
/-! loop.example/g00200/laws.eqWindowS -/
def laws_eqWindowS.l1 (k : Nat)  : Nat → Int × De2 × De2 × Unit → Option (Bool)
  | 0, _ => none
  | n + 1, (x1, x2, x3, _) => if x1 < (x2.length : Int) then (if 0 ≤ x1 then (if x1 < (x2.length : Int) then (if 0 ≤ x1 then (if x1 < (x3.length : Int) then ((laws_eqWindow.f k (el Ty2 x2 x1.toNat) (el Ty2 x3 x1.toNat)).bind fun t1 => (if ¬ t1 = true then (some false) else (laws_eqWindowS.l1 k n (w64 (x1 + 1), x2, x3, ())))) else none) else none) else none) else none) else (some true)
def laws_eqWindowS.f (k : Nat) (a0 : De2) (a1 : De2) : Option (Bool) :=
  if ¬ (a0.length : Int) = (a1.length : Int) then (some false) else (laws_eqWindowS.l1 k k (0, a0, a1, ()))
def laws_eqWindowS.Sl1 : Shape := ⟨[(0, false, [.own 0]), (1, false, [.own 1]), (5, false, [.int .i64])], [(0, .view false 48 Ty2), (1, .view false 48 Ty2)], 2⟩
def laws_eqWindowS.sig : Sig := ⟨[.val false (.sl 48 Ty2) [0], .val false (.sl 48 Ty2) [0]], [.val false .bool []]⟩
def laws_eqWindowS.F : FT laws_eqWindowS.sig := fun k x => laws_eqWindowS.f k x.1 x.2.1
def laws_eqWindowS.ann : AT laws_eqWindowS.sig := fun k => (.seq .nil (.seq .nil (.seq (.seq .nil (.block (.loop laws_eqWindowS.Sl1 (laws_eqWindowS.l1 k) fun n1 => .nil))) .nil)))
def laws_eqWindowS.ent : Ent := ⟨21, laws_eqWindowS.sig, laws_eqWindowS.F⟩
def laws_eqWindowS.ctx (k : Nat) : Ctx := ⟨tds, [laws_eqWindow.ent], k, 27⟩
theorem laws_eqWindowS.runs : RunsT laws_eqWindowS.sig laws_eqWindowS.ctx Try.f21 laws_eqWindowS.ann laws_eqWindowS.F := fun k x => by kernel_rfl
theorem laws_eqWindowS.obls : OblT tds laws_eqWindowS.sig laws_eqWindowS.ctx 2 Try.f21 laws_eqWindowS.ann := fun k => ⟨tr, ⟨⟨tr, ⟨⟨tr, tr⟩, tr⟩⟩, ⟨⟨tr, ⟨⟨by kernel_rfl, fun x => by kernel_rfl⟩, fun n => ⟨fun x => by kernel_rfl, ⟨⟨tr, ⟨tr, tr⟩⟩, ⟨⟨tr, ⟨⟨tr, tr⟩, tr⟩⟩, tr⟩⟩⟩⟩⟩, ⟨tr, tr⟩⟩⟩⟩
theorem laws_eqWindowS.ok (k : Nat) : EntOk Try.prog k laws_eqWindowS.ent := fn_ok (C := laws_eqWindowS.ctx k) Try.func21 (by kernel_rfl) (by kernel_rfl) mixed tdsOk (.cons (laws_eqWindow.ok k) EntsOk.nil) (by kernel_rfl) (leB (by kernel_rfl)) (by kernel_rfl) (laws_eqWindowS.runs k) (laws_eqWindowS.obls k)
/-! loop.example/g00200/laws.eqPort -/
def laws_eqPort.f (k : Nat) (a0 : Int × Int × Int × Int × Int) (a1 : Int × Int × Int × Int × Int) : Option (Bool) :=
  if ¬ a0.1 = a1.1 then (some false) else (if ¬ a0.2.1 = a1.2.1 then (some false) else (if ¬ a0.2.2.1 = a1.2.2.1 then (some false) else (if ¬ a0.2.2.2.1 = a1.2.2.2.1 then (some false) else (if ¬ a0.2.2.2.2 = a1.2.2.2.2 then (some false) else (some true)))))
def laws_eqPort.sig : Sig := ⟨[.val true Ty5 [], .val true Ty5 []], [.val false .bool []]⟩
def laws_eqPort.F : FT laws_eqPort.sig := fun k x => laws_eqPort.f k x.1 x.2.1
def laws_eqPort.ann : AT laws_eqPort.sig := fun k => .nil
def laws_eqPort.ent : Ent := ⟨61, laws_eqPort.sig, laws_eqPort.F⟩
def laws_eqPort.ctx (k : Nat) : Ctx := ⟨tds, [], k, 30⟩
theorem laws_eqPort.runs : RunsT laws_eqPort.sig laws_eqPort.ctx Try.f61 laws_eqPort.ann laws_eqPort.F := fun k x => by kernel_rfl
theorem laws_eqPort.obls : OblT tds laws_eqPort.sig laws_eqPort.ctx 0 Try.f61 laws_eqPort.ann := fun k => ⟨tr, ⟨⟨tr, ⟨⟨tr, tr⟩, tr⟩⟩, ⟨⟨tr, ⟨⟨tr, tr⟩, tr⟩⟩, ⟨⟨tr, ⟨⟨tr, tr⟩, tr⟩⟩, ⟨⟨tr, ⟨⟨tr, tr⟩, tr⟩⟩, ⟨⟨tr, ⟨⟨tr, tr⟩, tr⟩⟩, ⟨tr, tr⟩⟩⟩⟩⟩⟩⟩
theorem laws_eqPort.ok (k : Nat) : EntOk Try.prog k laws_eqPort.ent := fn_ok (C := laws_eqPort.ctx k) Try.func61 (by kernel_rfl) (by kernel_rfl) mixed tdsOk EntsOk.nil (by kernel_rfl) (leB (by kernel_rfl)) (by kernel_rfl) (laws_eqPort.runs k) (laws_eqPort.obls k)
/-! loop.example/g00200/laws.eqPortS -/
def laws_eqPortS.l1 (k : Nat)  : Nat → Int × De5 × De5 × Unit → Option (Bool)
  | 0, _ => none
  | n + 1, (x1, x2, x3, _) => if x1 < (x2.length : Int) then (if 0 ≤ x1 then (if x1 < (x2.length : Int) then (if 0 ≤ x1 then (if x1 < (x3.length : Int) then ((laws_eqPort.f k ((el Ty5 x2 x1.toNat).1, (((el Ty5 x2 x1.toNat).2).1, ((((el Ty5 x2 x1.toNat).2).2).1, ((((el Ty5 x2 x1.toNat).2).2).2)))) ((el Ty5 x3 x1.toNat).1, (((el Ty5 x3 x1.toNat).2).1, ((((el Ty5 x3 x1.toNat).2).2).1, ((((el Ty5 x3 x1.toNat).2).2).2))))).bind fun t1 => (if ¬ t1 = true then (some false) else (laws_eqPortS.l1 k n (w64 (x1 + 1), x2, x3, ())))) else none) else none) else none) else none) else (some true)
def laws_eqPortS.f (k : Nat) (a0 : De5) (a1 : De5) : Option (Bool) :=
  if ¬ (a0.length : Int) = (a1.length : Int) then (some false) else (laws_eqPortS.l1 k k (0, a0, a1, ()))
def laws_eqPortS.Sl1 : Shape := ⟨[(0, false, [.own 0]), (1, false, [.own 1]), (5, false, [.int .i64])], [(0, .view false 50 Ty5), (1, .view false 50 Ty5)], 2⟩
def laws_eqPortS.sig : Sig := ⟨[.val false (.sl 50 Ty5) [0], .val false (.sl 50 Ty5) [0]], [.val false .bool []]⟩
def laws_eqPortS.F : FT laws_eqPortS.sig := fun k x => laws_eqPortS.f k x.1 x.2.1
def laws_eqPortS.ann : AT laws_eqPortS.sig := fun k => (.seq .nil (.seq .nil (.seq (.seq .nil (.block (.loop laws_eqPortS.Sl1 (laws_eqPortS.l1 k) fun n1 => .nil))) .nil)))
def laws_eqPortS.ent : Ent := ⟨22, laws_eqPortS.sig, laws_eqPortS.F⟩
def laws_eqPortS.ctx (k : Nat) : Ctx := ⟨tds, [laws_eqPort.ent], k, 27⟩
theorem laws_eqPortS.runs : RunsT laws_eqPortS.sig laws_eqPortS.ctx Try.f22 laws_eqPortS.ann laws_eqPortS.F := fun k x => by kernel_rfl
theorem laws_eqPortS.obls : OblT tds laws_eqPortS.sig laws_eqPortS.ctx 2 Try.f22 laws_eqPortS.ann := fun k => ⟨tr, ⟨⟨tr, ⟨⟨tr, tr⟩, tr⟩⟩, ⟨⟨tr, ⟨⟨by kernel_rfl, fun x => by kernel_rfl⟩, fun n => ⟨fun x => by kernel_rfl, ⟨⟨tr, ⟨tr, tr⟩⟩, ⟨⟨tr, ⟨⟨tr, tr⟩, tr⟩⟩, tr⟩⟩⟩⟩⟩, ⟨tr, tr⟩⟩⟩⟩
theorem laws_eqPortS.ok (k : Nat) : EntOk Try.prog k laws_eqPortS.ent := fn_ok (C := laws_eqPortS.ctx k) Try.func22 (by kernel_rfl) (by kernel_rfl) mixed tdsOk (.cons (laws_eqPort.ok k) EntsOk.nil) (by kernel_rfl) (leB (by kernel_rfl)) (by kernel_rfl) (laws_eqPortS.runs k) (laws_eqPortS.obls k)
/-! loop.example/g00200/laws.eqRule -/
def laws_eqRule.f (k : Nat) (a0 : Int × Int × Int) (a1 : Int × Int × Int) : Option (Bool) :=
  if ¬ a0.1 = a1.1 then (some false) else (if ¬ a0.2.1 = a1.2.1 then (some false) else (if ¬ a0.2.2 = a1.2.2 then (some false) else (some true)))
def laws_eqRule.sig : Sig := ⟨[.val true Ty3 [], .val true Ty3 []], [.val false .bool []]⟩
def laws_eqRule.F : FT laws_eqRule.sig := fun k x => laws_eqRule.f k x.1 x.2.1
def laws_eqRule.ann : AT laws_eqRule.sig := fun k => .nil
def laws_eqRule.ent : Ent := ⟨62, laws_eqRule.sig, laws_eqRule.F⟩
def laws_eqRule.ctx (k : Nat) : Ctx := ⟨tds, [], k, 20⟩
theorem laws_eqRule.runs : RunsT laws_eqRule.sig laws_eqRule.ctx Try.f62 laws_eqRule.ann laws_eqRule.F := fun k x => by kernel_rfl
theorem laws_eqRule.obls : OblT tds laws_eqRule.sig laws_eqRule.ctx 0 Try.f62 laws_eqRule.ann := fun k => ⟨tr, ⟨⟨tr, ⟨⟨tr, tr⟩, tr⟩⟩, ⟨⟨tr, ⟨⟨tr, tr⟩, tr⟩⟩, ⟨⟨tr, ⟨⟨tr, tr⟩, tr⟩⟩, ⟨tr, tr⟩⟩⟩⟩⟩
theorem laws_eqRule.ok (k : Nat) : EntOk Try.prog k laws_eqRule.ent := fn_ok (C := laws_eqRule.ctx k) Try.func62 (by kernel_rfl) (by kernel_rfl) mixed tdsOk EntsOk.nil (by kernel_rfl) (leB (by kernel_rfl)) (by kernel_rfl) (laws_eqRule.runs k) (laws_eqRule.obls k)
/-! loop.example/g00200/laws.eqRuleS -/
def laws_eqRuleS.l1 (k : Nat)  : Nat → Int × De3 × De3 × Unit → Option (Bool)
  | 0, _ => none
  | n + 1, (x1, x2, x3, _) => if x1 < (x2.length : Int) then (if 0 ≤ x1 then (if x1 < (x2.length : Int) then (if 0 ≤ x1 then (if x1 < (x3.length : Int) then ((laws_eqRule.f k ((el Ty3 x2 x1.toNat).1, ((el Ty3 x2 x1.toNat).2)) ((el Ty3 x3 x1.toNat).1, ((el Ty3 x3 x1.toNat).2))).bind fun t1 => (if ¬ t1 = true then (some false) else (laws_eqRuleS.l1 k n (w64 (x1 + 1), x2, x3, ())))) else none) else none) else none) else none) else (some true)
def laws_eqRuleS.f (k : Nat) (a0 : De3) (a1 : De3) : Option (Bool) :=
  if ¬ (a0.length : Int) = (a1.length : Int) then (some false) else (laws_eqRuleS.l1 k k (0, a0, a1, ()))
def laws_eqRuleS.Sl1 : Shape := ⟨[(0, false, [.own 0]), (1, false, [.own 1]), (5, false, [.int .i64])], [(0, .view false 52 Ty3), (1, .view false 52 Ty3)], 2⟩
def laws_eqRuleS.sig : Sig := ⟨[.val false (.sl 52 Ty3) [0], .val false (.sl 52 Ty3) [0]], [.val false .bool []]⟩
def laws_eqRuleS.F : FT laws_eqRuleS.sig := fun k x => laws_eqRuleS.f k x.1 x.2.1
def laws_eqRuleS.ann : AT laws_eqRuleS.sig := fun k => (.seq .nil (.seq .nil (.seq (.seq .nil (.block (.loop laws_eqRuleS.Sl1 (laws_eqRuleS.l1 k) fun n1 => .nil))) .nil)))
def laws_eqRuleS.ent : Ent := ⟨23, laws_eqRuleS.sig, laws_eqRuleS.F⟩
def laws_eqRuleS.ctx (k : Nat) : Ctx := ⟨tds, [laws_eqRule.ent], k, 27⟩
theorem laws_eqRuleS.runs : RunsT laws_eqRuleS.sig laws_eqRuleS.ctx Try.f23 laws_eqRuleS.ann laws_eqRuleS.F := fun k x => by kernel_rfl
theorem laws_eqRuleS.obls : OblT tds laws_eqRuleS.sig laws_eqRuleS.ctx 2 Try.f23 laws_eqRuleS.ann := fun k => ⟨tr, ⟨⟨tr, ⟨⟨tr, tr⟩, tr⟩⟩, ⟨⟨tr, ⟨⟨by kernel_rfl, fun x => by kernel_rfl⟩, fun n => ⟨fun x => by kernel_rfl, ⟨⟨tr, ⟨tr, tr⟩⟩, ⟨⟨tr, ⟨⟨tr, tr⟩, tr⟩⟩, tr⟩⟩⟩⟩⟩, ⟨tr, tr⟩⟩⟩⟩
theorem laws_eqRuleS.ok (k : Nat) : EntOk Try.prog k laws_eqRuleS.ent := fn_ok (C := laws_eqRuleS.ctx k) Try.func23 (by kernel_rfl) (by kernel_rfl) mixed tdsOk (.cons (laws_eqRule.ok k) EntsOk.nil) (by kernel_rfl) (leB (by kernel_rfl)) (by kernel_rfl) (laws_eqRuleS.runs k) (laws_eqRuleS.obls k)
/-! loop.example/g00200/laws.eqStringS -/
def laws_eqStringS.l1 (k : Nat)  : Nat → Int × DeB × DeB × Unit → Option (Bool)
  | 0, _ => none
  | n + 1, (x1, x2, x3, _) => if x1 < (x2.length : Int) then (if 0 ≤ x1 then (if x1 < (x2.length : Int) then (if 0 ≤ x1 then (if x1 < (x3.length : Int) then (if ¬ (el .str x2 x1.toNat) = (el .str x3 x1.toNat) then (some false) else (laws_eqStringS.l1 k n (w64 (x1 + 1), x2, x3, ()))) else none) else none) else none) else none) else (some true)
def laws_eqStringS.f (k : Nat) (a0 : DeB) (a1 : DeB) : Option (Bool) :=
  if ¬ (a0.length : Int) = (a1.length : Int) then (some false) else (laws_eqStringS.l1 k k (0, a0, a1, ()))
def laws_eqStringS.Sl1 : Shape := ⟨[(0, false, [.own 0]), (1, false, [.own 1]), (5, false, [.int .i64])], [(0, .view false 9 .str), (1, .view false 9 .str)], 2⟩
def laws_eqStringS.sig : Sig := ⟨[.val false (.sl 9 .str) [0], .val false (.sl 9 .str) [0]], [.val false .bool []]⟩
def laws_eqStringS.F : FT laws_eqStringS.sig := fun k x => laws_eqStringS.f k x.1 x.2.1
def laws_eqStringS.ann : AT laws_eqStringS.sig := fun k => (.seq .nil (.seq .nil (.seq (.seq .nil (.block (.loop laws_eqStringS.Sl1 (laws_eqStringS.l1 k) fun n1 => .nil))) .nil)))
def laws_eqStringS.ent : Ent := ⟨24, laws_eqStringS.sig, laws_eqStringS.F⟩
def laws_eqStringS.ctx (k : Nat) : Ctx := ⟨tds, [], k, 26⟩
theorem laws_eqStringS.runs : RunsT laws_eqStringS.sig laws_eqStringS.ctx Try.f24 laws_eqStringS.ann laws_eqStringS.F := fun k x => by kernel_rfl
theorem laws_eqStringS.obls : OblT tds laws_eqStringS.sig laws_eqStringS.ctx 2 Try.f24 laws_eqStringS.ann := fun k => ⟨tr, ⟨⟨tr, ⟨⟨tr, tr⟩, tr⟩⟩, ⟨⟨tr, ⟨⟨by kernel_rfl, fun x => by kernel_rfl⟩, fun n => ⟨fun x => by kernel_rfl, ⟨⟨tr, ⟨tr, tr⟩⟩, ⟨⟨tr, ⟨⟨tr, tr⟩, tr⟩⟩, tr⟩⟩⟩⟩⟩, ⟨tr, tr⟩⟩⟩⟩
theorem laws_eqStringS.ok (k : Nat) : EntOk Try.prog k laws_eqStringS.ent := fn_ok (C := laws_eqStringS.ctx k) Try.func24 (by kernel_rfl) (by kernel_rfl) mixed tdsOk EntsOk.nil (by kernel_rfl) (leB (by kernel_rfl)) (by kernel_rfl) (laws_eqStringS.runs k) (laws_eqStringS.obls k)
/-! loop.example/g00200/laws.eqSetup -/
def laws_eqSetup.f (k : Nat) (a0 : De2 × De2 × De5 × De3 × DeB) (a1 : De2 × De2 × De5 × De3 × DeB) : Option (Bool) :=
  (laws_eqRegionS.f k a0.1 a1.1).bind fun t1 => (if ¬ t1 = true then (some false) else ((laws_eqWindowS.f k a0.2.1 a1.2.1).bind fun t2 => (if ¬ t2 = true then (some false) else ((laws_eqPortS.f k a0.2.2.1 a1.2.2.1).bind fun t3 => (if ¬ t3 = true then (some false) else ((laws_eqRuleS.f k a0.2.2.2.1 a1.2.2.2.1).bind fun t4 => (if ¬ t4 = true then (some false) else ((laws_eqStringS.f k a0.2.2.2.2 a1.2.2.2.2).bind fun t5 => (if ¬ t5 = true then (some false) else (some true))))))))))
def laws_eqSetup.sig : Sig := ⟨[.val true (.pair (.sl 46 Ty2) (.pair (.sl 48 Ty2) (.pair (.sl 50 Ty5) (.pair (.sl 52 Ty3) (.sl 9 .str))))) [0, 0, 0, 0, 0], .val true (.pair (.sl 46 Ty2) (.pair (.sl 48 Ty2) (.pair (.sl 50 Ty5) (.pair (.sl 52 Ty3) (.sl 9 .str))))) [0, 0, 0, 0, 0]], [.val false .bool []]⟩
def laws_eqSetup.F : FT laws_eqSetup.sig := fun k x => laws_eqSetup.f k x.1 x.2.1
def laws_eqSetup.ann : AT laws_eqSetup.sig := fun k => .nil
def laws_eqSetup.ent : Ent := ⟨7, laws_eqSetup.sig, laws_eqSetup.F⟩
def laws_eqSetup.ctx (k : Nat) : Ctx := ⟨tds, [laws_eqRegionS.ent, laws_eqWindowS.ent, laws_eqPortS.ent, laws_eqRuleS.ent, laws_eqStringS.ent], k, 35⟩
theorem laws_eqSetup.runs : RunsT laws_eqSetup.sig laws_eqSetup.ctx Try.f7 laws_eqSetup.ann laws_eqSetup.F := fun k x => by kernel_rfl
theorem laws_eqSetup.obls : OblT tds laws_eqSetup.sig laws_eqSetup.ctx 10 Try.f7 laws_eqSetup.ann := fun k => ⟨tr, ⟨⟨tr, ⟨⟨tr, tr⟩, tr⟩⟩, ⟨⟨tr, ⟨⟨tr, tr⟩, tr⟩⟩, ⟨⟨tr, ⟨⟨tr, tr⟩, tr⟩⟩, ⟨⟨tr, ⟨⟨tr, tr⟩, tr⟩⟩, ⟨⟨tr, ⟨⟨tr, tr⟩, tr⟩⟩, ⟨tr, tr⟩⟩⟩⟩⟩⟩⟩
theorem laws_eqSetup.ok (k : Nat) : EntOk Try.prog k laws_eqSetup.ent := fn_ok (C := laws_eqSetup.ctx k) Try.func7 (by kernel_rfl) (by kernel_rfl) mixed tdsOk (.cons (laws_eqRegionS.ok k) (.cons (laws_eqWindowS.ok k) (.cons (laws_eqPortS.ok k) (.cons (laws_eqRuleS.ok k) (.cons (laws_eqStringS.ok k) EntsOk.nil))))) (by kernel_rfl) (leB (by kernel_rfl)) (by kernel_rfl) (laws_eqSetup.runs k) (laws_eqSetup.obls k)
/-! loop.example/g00200/laws.markRegionS -/
def laws_markRegionS.l1 (k : Nat)  : Nat → Int × Int × De2 × Unit → Option (Int × De2)
  | 0, _ => none
  | n + 1, (x1, x2, x3, _) => if x2 < (x3.length : Int) then (if 0 ≤ x2 then (if x2 < (x3.length : Int) then (((some (x3.set x2.toNat (x1, (el Ty2 x3 x2.toNat).2)))).bind fun y1 => (if 0 ≤ x2 then (if x2 < (y1.length : Int) then (((some (y1.set x2.toNat ((el Ty2 y1 x2.toNat).1, w64 (x1 + 1))))).bind fun y2 => (laws_markRegionS.l1 k n (w64 ((w64 (x1 + 1)) + 1), w64 (x2 + 1), y2, ()))) else none) else none)) else none) else none) else (some (x1, x3))
def laws_markRegionS.f (k : Nat) (a0 : De2) (a1 : Int) : Option (Int × De2) :=
  laws_markRegionS.l1 k k (a1, 0, a0, ())
def laws_markRegionS.Sl1 : Shape := ⟨[(0, false, [.own 0]), (1, false, [.int .i64]), (5, false, [.int .i64])], [(0, .row 46 Ty2)], 1⟩
def laws_markRegionS.sig : Sig := ⟨[.val false (.sl 46 Ty2) [1], .val false TyI []], [.val false TyI []]⟩
def laws_markRegionS.F : FT laws_markRegionS.sig := fun k x => laws_markRegionS.f k x.1 x.2.1
def laws_markRegionS.ann : AT laws_markRegionS.sig := fun k => (.seq .nil (.seq (.seq .nil (.block (.loop laws_markRegionS.Sl1 (laws_markRegionS.l1 k) fun n1 => .nil))) .nil))
def laws_markRegionS.ent : Ent := ⟨25, laws_markRegionS.sig, laws_markRegionS.F⟩
def laws_markRegionS.ctx (k : Nat) : Ctx := ⟨tds, [], k, 27⟩
theorem laws_markRegionS.runs : RunsT laws_markRegionS.sig laws_markRegionS.ctx Try.f25 laws_markRegionS.ann laws_markRegionS.F := fun k x => by kernel_rfl
theorem laws_markRegionS.obls : OblT tds laws_markRegionS.sig laws_markRegionS.ctx 1 Try.f25 laws_markRegionS.ann := fun k => ⟨tr, ⟨⟨tr, ⟨⟨by kernel_rfl, fun x => by kernel_rfl⟩, fun n => ⟨fun x => by kernel_rfl, ⟨⟨tr, ⟨tr, tr⟩⟩, ⟨⟨tr, ⟨tr, ⟨tr, tr⟩⟩⟩, tr⟩⟩⟩⟩⟩, ⟨tr, tr⟩⟩⟩
theorem laws_markRegionS.ok (k : Nat) : EntOk Try.prog k laws_markRegionS.ent := fn_ok (C := laws_markRegionS.ctx k) Try.func25 (by kernel_rfl) (by kernel_rfl) mixed tdsOk EntsOk.nil (by kernel_rfl) (leB (by kernel_rfl)) (by kernel_rfl) (laws_markRegionS.runs k) (laws_markRegionS.obls k)
/-! loop.example/g00200/laws.markWindowS -/
def laws_markWindowS.l1 (k : Nat)  : Nat → Int × Int × De2 × Unit → Option (Int × De2)
  | 0, _ => none
  | n + 1, (x1, x2, x3, _) => if x2 < (x3.length : Int) then (if 0 ≤ x2 then (if x2 < (x3.length : Int) then (((some (x3.set x2.toNat (x1, (el Ty2 x3 x2.toNat).2)))).bind fun y1 => (if 0 ≤ x2 then (if x2 < (y1.length : Int) then (((some (y1.set x2.toNat ((el Ty2 y1 x2.toNat).1, w64 (x1 + 1))))).bind fun y2 => (laws_markWindowS.l1 k n (w64 ((w64 (x1 + 1)) + 1), w64 (x2 + 1), y2, ()))) else none) else none)) else none) else none) else (some (x1, x3))
def laws_markWindowS.f (k : Nat) (a0 : De2) (a1 : Int) : Option (Int × De2) :=
  laws_markWindowS.l1 k k (a1, 0, a0, ())
def laws_markWindowS.Sl1 : Shape := ⟨[(0, false, [.own 0]), (1, false, [.int .i64]), (5, false, [.int .i64])], [(0, .row 48 Ty2)], 1⟩
def laws_markWindowS.sig : Sig := ⟨[.val false (.sl 48 Ty2) [1], .val false TyI []], [.val false TyI []]⟩
def laws_markWindowS.F : FT laws_markWindowS.sig := fun k x => laws_markWindowS.f k x.1 x.2.1
def laws_markWindowS.ann : AT laws_markWindowS.sig := fun k => (.seq .nil (.seq (.seq .nil (.block (.loop laws_markWindowS.Sl1 (laws_markWindowS.l1 k) fun n1 => .nil))) .nil))
def laws_markWindowS.ent : Ent := ⟨26, laws_markWindowS.sig, laws_markWindowS.F⟩
def laws_markWindowS.ctx (k : Nat) : Ctx := ⟨tds, [], k, 27⟩
theorem laws_markWindowS.runs : RunsT laws_markWindowS.sig laws_markWindowS.ctx Try.f26 laws_markWindowS.ann laws_markWindowS.F := fun k x => by kernel_rfl
theorem laws_markWindowS.obls : OblT tds laws_markWindowS.sig laws_markWindowS.ctx 1 Try.f26 laws_markWindowS.ann := fun k => ⟨tr, ⟨⟨tr, ⟨⟨by kernel_rfl, fun x => by kernel_rfl⟩, fun n => ⟨fun x => by kernel_rfl, ⟨⟨tr, ⟨tr, tr⟩⟩, ⟨⟨tr, ⟨tr, ⟨tr, tr⟩⟩⟩, tr⟩⟩⟩⟩⟩, ⟨tr, tr⟩⟩⟩
theorem laws_markWindowS.ok (k : Nat) : EntOk Try.prog k laws_markWindowS.ent := fn_ok (C := laws_markWindowS.ctx k) Try.func26 (by kernel_rfl) (by kernel_rfl) mixed tdsOk EntsOk.nil (by kernel_rfl) (leB (by kernel_rfl)) (by kernel_rfl) (laws_markWindowS.runs k) (laws_markWindowS.obls k)
/-! loop.example/g00200/laws.markPortS -/
def laws_markPortS.l1 (k : Nat)  : Nat → Int × Int × De5 × Unit → Option (Int × De5)
  | 0, _ => none
  | n + 1, (x1, x2, x3, _) => if x2 < (x3.length : Int) then (if 0 ≤ x2 then (if x2 < (x3.length : Int) then (((some (x3.set x2.toNat (x1, (el Ty5 x3 x2.toNat).2)))).bind fun y1 => (if 0 ≤ x2 then (if x2 < (y1.length : Int) then (((some (y1.set x2.toNat ((el Ty5 y1 x2.toNat).1, (w64 (x1 + 1), ((el Ty5 y1 x2.toNat).2).2))))).bind fun y2 => (if 0 ≤ x2 then (if x2 < (y2.length : Int) then (((some (y2.set x2.toNat ((el Ty5 y2 x2.toNat).1, (((el Ty5 y2 x2.toNat).2).1, (w64 ((w64 (x1 + 1)) + 1), (((el Ty5 y2 x2.toNat).2).2).2)))))).bind fun y3 => (if 0 ≤ x2 then (if x2 < (y3.length : Int) then (((some (y3.set x2.toNat ((el Ty5 y3 x2.toNat).1, (((el Ty5 y3 x2.toNat).2).1, ((((el Ty5 y3 x2.toNat).2).2).1, (w64 ((w64 ((w64 (x1 + 1)) + 1)) + 1), ((((el Ty5 y3 x2.toNat).2).2).2).2))))))).bind fun y4 => (if 0 ≤ x2 then (if x2 < (y4.length : Int) then (((some (y4.set x2.toNat ((el Ty5 y4 x2.toNat).1, (((el Ty5 y4 x2.toNat).2).1, ((((el Ty5 y4 x2.toNat).2).2).1, (((((el Ty5 y4 x2.toNat).2).2).2).1, w64 ((w64 ((w64 ((w64 (x1 + 1)) + 1)) + 1)) + 1)))))))).bind fun y5 => (laws_markPortS.l1 k n (w64 ((w64 ((w64 ((w64 ((w64 (x1 + 1)) + 1)) + 1)) + 1)) + 1), w64 (x2 + 1), y5, ()))) else none) else none)) else none) else none)) else none) else none)) else none) else none)) else none) else none) else (some (x1, x3))
def laws_markPortS.f (k : Nat) (a0 : De5) (a1 : Int) : Option (Int × De5) :=
  laws_markPortS.l1 k k (a1, 0, a0, ())
def laws_markPortS.Sl1 : Shape := ⟨[(0, false, [.own 0]), (1, false, [.int .i64]), (5, false, [.int .i64])], [(0, .row 50 Ty5)], 1⟩
def laws_markPortS.sig : Sig := ⟨[.val false (.sl 50 Ty5) [1], .val false TyI []], [.val false TyI []]⟩
def laws_markPortS.F : FT laws_markPortS.sig := fun k x => laws_markPortS.f k x.1 x.2.1
def laws_markPortS.ann : AT laws_markPortS.sig := fun k => (.seq .nil (.seq (.seq .nil (.block (.loop laws_markPortS.Sl1 (laws_markPortS.l1 k) fun n1 => .nil))) .nil))
def laws_markPortS.ent : Ent := ⟨27, laws_markPortS.sig, laws_markPortS.F⟩
def laws_markPortS.ctx (k : Nat) : Ctx := ⟨tds, [], k, 48⟩
theorem laws_markPortS.runs : RunsT laws_markPortS.sig laws_markPortS.ctx Try.f27 laws_markPortS.ann laws_markPortS.F := fun k x => by kernel_rfl
theorem laws_markPortS.obls : OblT tds laws_markPortS.sig laws_markPortS.ctx 1 Try.f27 laws_markPortS.ann := fun k => ⟨tr, ⟨⟨tr, ⟨⟨by kernel_rfl, fun x => by kernel_rfl⟩, fun n => ⟨fun x => by kernel_rfl, ⟨⟨tr, ⟨tr, tr⟩⟩, ⟨⟨tr, ⟨tr, ⟨tr, ⟨tr, ⟨tr, ⟨tr, ⟨tr, ⟨tr, ⟨tr, tr⟩⟩⟩⟩⟩⟩⟩⟩⟩, tr⟩⟩⟩⟩⟩, ⟨tr, tr⟩⟩⟩
theorem laws_markPortS.ok (k : Nat) : EntOk Try.prog k laws_markPortS.ent := fn_ok (C := laws_markPortS.ctx k) Try.func27 (by kernel_rfl) (by kernel_rfl) mixed tdsOk EntsOk.nil (by kernel_rfl) (leB (by kernel_rfl)) (by kernel_rfl) (laws_markPortS.runs k) (laws_markPortS.obls k)
/-! loop.example/g00200/laws.markRuleS -/
def laws_markRuleS.l1 (k : Nat)  : Nat → Int × Int × De3 × Unit → Option (Int × De3)
  | 0, _ => none
  | n + 1, (x1, x2, x3, _) => if x2 < (x3.length : Int) then (if 0 ≤ x2 then (if x2 < (x3.length : Int) then (((some (x3.set x2.toNat (x1, (el Ty3 x3 x2.toNat).2)))).bind fun y1 => (if 0 ≤ x2 then (if x2 < (y1.length : Int) then (((some (y1.set x2.toNat ((el Ty3 y1 x2.toNat).1, (w64 (x1 + 1), ((el Ty3 y1 x2.toNat).2).2))))).bind fun y2 => (if 0 ≤ x2 then (if x2 < (y2.length : Int) then (((some (y2.set x2.toNat ((el Ty3 y2 x2.toNat).1, (((el Ty3 y2 x2.toNat).2).1, w64 ((w64 (x1 + 1)) + 1)))))).bind fun y3 => (laws_markRuleS.l1 k n (w64 ((w64 ((w64 (x1 + 1)) + 1)) + 1), w64 (x2 + 1), y3, ()))) else none) else none)) else none) else none)) else none) else none) else (some (x1, x3))
def laws_markRuleS.f (k : Nat) (a0 : De3) (a1 : Int) : Option (Int × De3) :=
  laws_markRuleS.l1 k k (a1, 0, a0, ())
def laws_markRuleS.Sl1 : Shape := ⟨[(0, false, [.own 0]), (1, false, [.int .i64]), (5, false, [.int .i64])], [(0, .row 52 Ty3)], 1⟩
def laws_markRuleS.sig : Sig := ⟨[.val false (.sl 52 Ty3) [1], .val false TyI []], [.val false TyI []]⟩
def laws_markRuleS.F : FT laws_markRuleS.sig := fun k x => laws_markRuleS.f k x.1 x.2.1
def laws_markRuleS.ann : AT laws_markRuleS.sig := fun k => (.seq .nil (.seq (.seq .nil (.block (.loop laws_markRuleS.Sl1 (laws_markRuleS.l1 k) fun n1 => .nil))) .nil))
def laws_markRuleS.ent : Ent := ⟨28, laws_markRuleS.sig, laws_markRuleS.F⟩
def laws_markRuleS.ctx (k : Nat) : Ctx := ⟨tds, [], k, 34⟩
theorem laws_markRuleS.runs : RunsT laws_markRuleS.sig laws_markRuleS.ctx Try.f28 laws_markRuleS.ann laws_markRuleS.F := fun k x => by kernel_rfl
theorem laws_markRuleS.obls : OblT tds laws_markRuleS.sig laws_markRuleS.ctx 1 Try.f28 laws_markRuleS.ann := fun k => ⟨tr, ⟨⟨tr, ⟨⟨by kernel_rfl, fun x => by kernel_rfl⟩, fun n => ⟨fun x => by kernel_rfl, ⟨⟨tr, ⟨tr, tr⟩⟩, ⟨⟨tr, ⟨tr, ⟨tr, ⟨tr, ⟨tr, tr⟩⟩⟩⟩⟩, tr⟩⟩⟩⟩⟩, ⟨tr, tr⟩⟩⟩
theorem laws_markRuleS.ok (k : Nat) : EntOk Try.prog k laws_markRuleS.ent := fn_ok (C := laws_markRuleS.ctx k) Try.func28 (by kernel_rfl) (by kernel_rfl) mixed tdsOk EntsOk.nil (by kernel_rfl) (leB (by kernel_rfl)) (by kernel_rfl) (laws_markRuleS.runs k) (laws_markRuleS.obls k)
/-! loop.example/g00200/laws.markText -/
def laws_markText.l1 (k : Nat)  : Nat → Int × ByteArray × Unit → Option (ByteArray)
  | 0, _ => none
  | n + 1, (x1, x2, _) => if 0 < x1 then (((some ([IntKind.u8.wrap (w64 (48 + (Int.tmod x1 10)))] : DeI))).bind fun y1 => (if (chrs y1).size + x2.size ≤ 9223372036854775807 then (laws_markText.l1 k n (w64 (Int.tdiv x1 10), (chrs y1) ++ x2, ())) else none)) else (if (⟨#[109]⟩ : ByteArray).size + x2.size ≤ 9223372036854775807 then (some ((⟨#[109]⟩ : ByteArray) ++ x2)) else none)
def laws_markText.f (k : Nat) (a0 : Int) : Option (ByteArray) :=
  if a0 ≤ 0 then (some (⟨#[109, 48]⟩ : ByteArray)) else (laws_markText.l1 k k (a0, (⟨#[]⟩ : ByteArray), ()))
def laws_markText.Sl1 : Shape := ⟨[(0, false, [.int .i64]), (3, false, [.str])], [], 0⟩
def laws_markText.sig : Sig := ⟨[.val false TyI []], [.val false .str []]⟩
def laws_markText.F : FT laws_markText.sig := fun k x => laws_markText.f k x.1
def laws_markText.ann : AT laws_markText.sig := fun k => (.seq .nil (.seq .nil (.seq .nil (.seq (.block (.loop laws_markText.Sl1 (laws_markText.l1 k) fun n1 => .nil)) .nil))))
def laws_markText.ent : Ent := ⟨63, laws_markText.sig, laws_markText.F⟩
def laws_markText.ctx (k : Nat) : Ctx := ⟨tds, [], k, 20⟩
theorem laws_markText.runs : RunsT laws_markText.sig laws_markText.ctx Try.f63 laws_markText.ann laws_markText.F := fun k x => by kernel_rfl
theorem laws_markText.obls : OblT tds laws_markText.sig laws_markText.ctx 0 Try.f63 laws_markText.ann := fun k => ⟨tr, ⟨⟨tr, ⟨⟨tr, tr⟩, tr⟩⟩, ⟨tr, ⟨⟨⟨by kernel_rfl, fun x => by kernel_rfl⟩, fun n => ⟨fun x => by kernel_rfl, ⟨⟨tr, ⟨tr, tr⟩⟩, ⟨tr, tr⟩⟩⟩⟩, ⟨tr, tr⟩⟩⟩⟩⟩
theorem laws_markText.ok (k : Nat) : EntOk Try.prog k laws_markText.ent := fn_ok (C := laws_markText.ctx k) Try.func63 (by kernel_rfl) (by kernel_rfl) mixed tdsOk EntsOk.nil (by kernel_rfl) (leB (by kernel_rfl)) (by kernel_rfl) (laws_markText.runs k) (laws_markText.obls k)
/-! loop.example/g00200/laws.markStringS -/
def laws_markStringS.l1 (k : Nat)  : Nat → Int × Int × DeB × Unit → Option (Int × DeB)
  | 0, _ => none
  | n + 1, (x1, x2, x3, _) => if x2 < (x3.length : Int) then ((laws_markText.f k x1).bind fun t1 => (if 0 ≤ x2 then (if x2 < (x3.length : Int) then (((some (x3.set x2.toNat t1))).bind fun y2 => (laws_markStringS.l1 k n (w64 (x1 + 1), w64 (x2 + 1), y2, ()))) else none) else none)) else (some (x1, x3))
def laws_markStringS.f (k : Nat) (a0 : DeB) (a1 : Int) : Option (Int × DeB) :=
  laws_markStringS.l1 k k (a1, 0, a0, ())
def laws_markStringS.Sl1 : Shape := ⟨[(0, false, [.own 0]), (1, false, [.int .i64]), (5, false, [.int .i64])], [(0, .row 9 .str)], 1⟩
def laws_markStringS.sig : Sig := ⟨[.val false (.sl 9 .str) [1], .val false TyI []], [.val false TyI []]⟩
def laws_markStringS.F : FT laws_markStringS.sig := fun k x => laws_markStringS.f k x.1 x.2.1
def laws_markStringS.ann : AT laws_markStringS.sig := fun k => (.seq .nil (.seq (.seq .nil (.block (.loop laws_markStringS.Sl1 (laws_markStringS.l1 k) fun n1 => .nil))) .nil))
def laws_markStringS.ent : Ent := ⟨29, laws_markStringS.sig, laws_markStringS.F⟩
def laws_markStringS.ctx (k : Nat) : Ctx := ⟨tds, [laws_markText.ent], k, 20⟩
theorem laws_markStringS.runs : RunsT laws_markStringS.sig laws_markStringS.ctx Try.f29 laws_markStringS.ann laws_markStringS.F := fun k x => by kernel_rfl
theorem laws_markStringS.obls : OblT tds laws_markStringS.sig laws_markStringS.ctx 1 Try.f29 laws_markStringS.ann := fun k => ⟨tr, ⟨⟨tr, ⟨⟨by kernel_rfl, fun x => by kernel_rfl⟩, fun n => ⟨fun x => by kernel_rfl, ⟨⟨tr, ⟨tr, tr⟩⟩, ⟨⟨tr, tr⟩, tr⟩⟩⟩⟩⟩, ⟨tr, tr⟩⟩⟩
theorem laws_markStringS.ok (k : Nat) : EntOk Try.prog k laws_markStringS.ent := fn_ok (C := laws_markStringS.ctx k) Try.func29 (by kernel_rfl) (by kernel_rfl) mixed tdsOk (.cons (laws_markText.ok k) EntsOk.nil) (by kernel_rfl) (leB (by kernel_rfl)) (by kernel_rfl) (laws_markStringS.runs k) (laws_markStringS.obls k)
/-! loop.example/g00200/laws.markSetup -/
def laws_markSetup.f (k : Nat) (a0 : De2 × De2 × De5 × De3 × DeB) (a1 : Int) : Option (Int × De2 × De2 × De5 × De3 × DeB) :=
  (laws_markRegionS.f k a0.1 a1).bind fun t1 => ((laws_markWindowS.f k a0.2.1 t1.1).bind fun t2 => ((laws_markPortS.f k a0.2.2.1 t2.1).bind fun t3 => ((laws_markRuleS.f k a0.2.2.2.1 t3.1).bind fun t4 => ((laws_markStringS.f k a0.2.2.2.2 t4.1).bind fun t5 => (some (t5.1, t1.2, t2.2, t3.2, t4.2, t5.2))))))
def laws_markSetup.sig : Sig := ⟨[.val true (.pair (.sl 46 Ty2) (.pair (.sl 48 Ty2) (.pair (.sl 50 Ty5) (.pair (.sl 52 Ty3) (.sl 9 .str))))) [1, 1, 1, 1, 1], .val false TyI []], [.val false TyI []]⟩
def laws_markSetup.F : FT laws_markSetup.sig := fun k x => laws_markSetup.f k x.1 x.2.1
def laws_markSetup.ann : AT laws_markSetup.sig := fun k => .nil
def laws_markSetup.ent : Ent := ⟨8, laws_markSetup.sig, laws_markSetup.F⟩
def laws_markSetup.ctx (k : Nat) : Ctx := ⟨tds, [laws_markRegionS.ent, laws_markWindowS.ent, laws_markPortS.ent, laws_markRuleS.ent, laws_markStringS.ent], k, 26⟩
theorem laws_markSetup.runs : RunsT laws_markSetup.sig laws_markSetup.ctx Try.f8 laws_markSetup.ann laws_markSetup.F := fun k x => by kernel_rfl
theorem laws_markSetup.obls : OblT tds laws_markSetup.sig laws_markSetup.ctx 5 Try.f8 laws_markSetup.ann := fun k => ⟨tr, ⟨tr, ⟨tr, ⟨tr, ⟨tr, ⟨tr, ⟨tr, tr⟩⟩⟩⟩⟩⟩⟩
theorem laws_markSetup.ok (k : Nat) : EntOk Try.prog k laws_markSetup.ent := fn_ok (C := laws_markSetup.ctx k) Try.func8 (by kernel_rfl) (by kernel_rfl) mixed tdsOk (.cons (laws_markRegionS.ok k) (.cons (laws_markWindowS.ok k) (.cons (laws_markPortS.ok k) (.cons (laws_markRuleS.ok k) (.cons (laws_markStringS.ok k) EntsOk.nil))))) (by kernel_rfl) (leB (by kernel_rfl)) (by kernel_rfl) (laws_markSetup.runs k) (laws_markSetup.obls k)
/-! loop.example/g00200/laws.heldRegionS -/
def laws_heldRegionS.l1 (k : Nat)  : Nat → Int × Int × De2 × Unit → Option (Int)
  | 0, _ => none
  | n + 1, (x1, x2, x3, _) => if x2 < (x3.length : Int) then (if 0 ≤ x2 then (if x2 < (x3.length : Int) then (if ¬ ((el Ty2 x3 x2.toNat).1) = x1 then (some (-1)) else (if 0 ≤ x2 then (if x2 < (x3.length : Int) then (if ¬ ((el Ty2 x3 x2.toNat).2) = (w64 (x1 + 1)) then (some (-1)) else (laws_heldRegionS.l1 k n (w64 ((w64 (x1 + 1)) + 1), w64 (x2 + 1), x3, ()))) else none) else none)) else none) else none) else (some x1)
def laws_heldRegionS.f (k : Nat) (a0 : De2) (a1 : Int) : Option (Int) :=
  laws_heldRegionS.l1 k k (a1, 0, a0, ())
def laws_heldRegionS.Sl1 : Shape := ⟨[(0, false, [.own 0]), (1, false, [.int .i64]), (5, false, [.int .i64])], [(0, .view false 46 Ty2)], 1⟩
def laws_heldRegionS.sig : Sig := ⟨[.val false (.sl 46 Ty2) [0], .val false TyI []], [.val false TyI []]⟩
def laws_heldRegionS.F : FT laws_heldRegionS.sig := fun k x => laws_heldRegionS.f k x.1 x.2.1
def laws_heldRegionS.ann : AT laws_heldRegionS.sig := fun k => (.seq .nil (.seq (.seq .nil (.block (.loop laws_heldRegionS.Sl1 (laws_heldRegionS.l1 k) fun n1 => .nil))) .nil))
def laws_heldRegionS.ent : Ent := ⟨30, laws_heldRegionS.sig, laws_heldRegionS.F⟩
def laws_heldRegionS.ctx (k : Nat) : Ctx := ⟨tds, [], k, 31⟩
theorem laws_heldRegionS.runs : RunsT laws_heldRegionS.sig laws_heldRegionS.ctx Try.f30 laws_heldRegionS.ann laws_heldRegionS.F := fun k x => by kernel_rfl
theorem laws_heldRegionS.obls : OblT tds laws_heldRegionS.sig laws_heldRegionS.ctx 1 Try.f30 laws_heldRegionS.ann := fun k => ⟨tr, ⟨⟨tr, ⟨⟨by kernel_rfl, fun x => by kernel_rfl⟩, fun n => ⟨fun x => by kernel_rfl, ⟨⟨tr, ⟨tr, tr⟩⟩, ⟨⟨⟨tr, ⟨⟨tr, tr⟩, tr⟩⟩, ⟨tr, ⟨⟨tr, ⟨⟨tr, tr⟩, tr⟩⟩, tr⟩⟩⟩, tr⟩⟩⟩⟩⟩, ⟨tr, tr⟩⟩⟩
theorem laws_heldRegionS.ok (k : Nat) : EntOk Try.prog k laws_heldRegionS.ent := fn_ok (C := laws_heldRegionS.ctx k) Try.func30 (by kernel_rfl) (by kernel_rfl) mixed tdsOk EntsOk.nil (by kernel_rfl) (leB (by kernel_rfl)) (by kernel_rfl) (laws_heldRegionS.runs k) (laws_heldRegionS.obls k)
/-! loop.example/g00200/laws.heldWindowS -/
def laws_heldWindowS.l1 (k : Nat)  : Nat → Int × Int × De2 × Unit → Option (Int)
  | 0, _ => none
  | n + 1, (x1, x2, x3, _) => if x2 < (x3.length : Int) then (if 0 ≤ x2 then (if x2 < (x3.length : Int) then (if ¬ ((el Ty2 x3 x2.toNat).1) = x1 then (some (-1)) else (if 0 ≤ x2 then (if x2 < (x3.length : Int) then (if ¬ ((el Ty2 x3 x2.toNat).2) = (w64 (x1 + 1)) then (some (-1)) else (laws_heldWindowS.l1 k n (w64 ((w64 (x1 + 1)) + 1), w64 (x2 + 1), x3, ()))) else none) else none)) else none) else none) else (some x1)
def laws_heldWindowS.f (k : Nat) (a0 : De2) (a1 : Int) : Option (Int) :=
  laws_heldWindowS.l1 k k (a1, 0, a0, ())
def laws_heldWindowS.Sl1 : Shape := ⟨[(0, false, [.own 0]), (1, false, [.int .i64]), (5, false, [.int .i64])], [(0, .view false 48 Ty2)], 1⟩
def laws_heldWindowS.sig : Sig := ⟨[.val false (.sl 48 Ty2) [0], .val false TyI []], [.val false TyI []]⟩
def laws_heldWindowS.F : FT laws_heldWindowS.sig := fun k x => laws_heldWindowS.f k x.1 x.2.1
def laws_heldWindowS.ann : AT laws_heldWindowS.sig := fun k => (.seq .nil (.seq (.seq .nil (.block (.loop laws_heldWindowS.Sl1 (laws_heldWindowS.l1 k) fun n1 => .nil))) .nil))
def laws_heldWindowS.ent : Ent := ⟨31, laws_heldWindowS.sig, laws_heldWindowS.F⟩
def laws_heldWindowS.ctx (k : Nat) : Ctx := ⟨tds, [], k, 31⟩
theorem laws_heldWindowS.runs : RunsT laws_heldWindowS.sig laws_heldWindowS.ctx Try.f31 laws_heldWindowS.ann laws_heldWindowS.F := fun k x => by kernel_rfl
theorem laws_heldWindowS.obls : OblT tds laws_heldWindowS.sig laws_heldWindowS.ctx 1 Try.f31 laws_heldWindowS.ann := fun k => ⟨tr, ⟨⟨tr, ⟨⟨by kernel_rfl, fun x => by kernel_rfl⟩, fun n => ⟨fun x => by kernel_rfl, ⟨⟨tr, ⟨tr, tr⟩⟩, ⟨⟨⟨tr, ⟨⟨tr, tr⟩, tr⟩⟩, ⟨tr, ⟨⟨tr, ⟨⟨tr, tr⟩, tr⟩⟩, tr⟩⟩⟩, tr⟩⟩⟩⟩⟩, ⟨tr, tr⟩⟩⟩
theorem laws_heldWindowS.ok (k : Nat) : EntOk Try.prog k laws_heldWindowS.ent := fn_ok (C := laws_heldWindowS.ctx k) Try.func31 (by kernel_rfl) (by kernel_rfl) mixed tdsOk EntsOk.nil (by kernel_rfl) (leB (by kernel_rfl)) (by kernel_rfl) (laws_heldWindowS.runs k) (laws_heldWindowS.obls k)
/-! loop.example/g00200/laws.heldPortS -/
def laws_heldPortS.l1 (k : Nat)  : Nat → Int × Int × De5 × Unit → Option (Int)
  | 0, _ => none
  | n + 1, (x1, x2, x3, _) => if x2 < (x3.length : Int) then (if 0 ≤ x2 then (if x2 < (x3.length : Int) then (if ¬ ((el Ty5 x3 x2.toNat).1) = x1 then (some (-1)) else (if 0 ≤ x2 then (if x2 < (x3.length : Int) then (if ¬ (((el Ty5 x3 x2.toNat).2).1) = (w64 (x1 + 1)) then (some (-1)) else (if 0 ≤ x2 then (if x2 < (x3.length : Int) then (if ¬ ((((el Ty5 x3 x2.toNat).2).2).1) = (w64 ((w64 (x1 + 1)) + 1)) then (some (-1)) else (if 0 ≤ x2 then (if x2 < (x3.length : Int) then (if ¬ (((((el Ty5 x3 x2.toNat).2).2).2).1) = (w64 ((w64 ((w64 (x1 + 1)) + 1)) + 1)) then (some (-1)) else (if 0 ≤ x2 then (if x2 < (x3.length : Int) then (if ¬ (((((el Ty5 x3 x2.toNat).2).2).2).2) = (w64 ((w64 ((w64 ((w64 (x1 + 1)) + 1)) + 1)) + 1)) then (some (-1)) else (laws_heldPortS.l1 k n (w64 ((w64 ((w64 ((w64 ((w64 (x1 + 1)) + 1)) + 1)) + 1)) + 1), w64 (x2 + 1), x3, ()))) else none) else none)) else none) else none)) else none) else none)) else none) else none)) else none) else none) else (some x1)
def laws_heldPortS.f (k : Nat) (a0 : De5) (a1 : Int) : Option (Int) :=
  laws_heldPortS.l1 k k (a1, 0, a0, ())
def laws_heldPortS.Sl1 : Shape := ⟨[(0, false, [.own 0]), (1, false, [.int .i64]), (5, false, [.int .i64])], [(0, .view false 50 Ty5)], 1⟩
def laws_heldPortS.sig : Sig := ⟨[.val false (.sl 50 Ty5) [0], .val false TyI []], [.val false TyI []]⟩
def laws_heldPortS.F : FT laws_heldPortS.sig := fun k x => laws_heldPortS.f k x.1 x.2.1
def laws_heldPortS.ann : AT laws_heldPortS.sig := fun k => (.seq .nil (.seq (.seq .nil (.block (.loop laws_heldPortS.Sl1 (laws_heldPortS.l1 k) fun n1 => .nil))) .nil))
def laws_heldPortS.ent : Ent := ⟨32, laws_heldPortS.sig, laws_heldPortS.F⟩
def laws_heldPortS.ctx (k : Nat) : Ctx := ⟨tds, [], k, 58⟩
theorem laws_heldPortS.runs : RunsT laws_heldPortS.sig laws_heldPortS.ctx Try.f32 laws_heldPortS.ann laws_heldPortS.F := fun k x => by kernel_rfl
theorem laws_heldPortS.obls : OblT tds laws_heldPortS.sig laws_heldPortS.ctx 1 Try.f32 laws_heldPortS.ann := fun k => ⟨tr, ⟨⟨tr, ⟨⟨by kernel_rfl, fun x => by kernel_rfl⟩, fun n => ⟨fun x => by kernel_rfl, ⟨⟨tr, ⟨tr, tr⟩⟩, ⟨⟨⟨tr, ⟨⟨tr, tr⟩, tr⟩⟩, ⟨tr, ⟨⟨tr, ⟨⟨tr, tr⟩, tr⟩⟩, ⟨tr, ⟨⟨tr, ⟨⟨tr, tr⟩, tr⟩⟩, ⟨tr, ⟨⟨tr, ⟨⟨tr, tr⟩, tr⟩⟩, ⟨tr, ⟨⟨tr, ⟨⟨tr, tr⟩, tr⟩⟩, tr⟩⟩⟩⟩⟩⟩⟩⟩⟩, tr⟩⟩⟩⟩⟩, ⟨tr, tr⟩⟩⟩
theorem laws_heldPortS.ok (k : Nat) : EntOk Try.prog k laws_heldPortS.ent := fn_ok (C := laws_heldPortS.ctx k) Try.func32 (by kernel_rfl) (by kernel_rfl) mixed tdsOk EntsOk.nil (by kernel_rfl) (leB (by kernel_rfl)) (by kernel_rfl) (laws_heldPortS.runs k) (laws_heldPortS.obls k)
/-! loop.example/g00200/laws.heldRuleS -/
def laws_heldRuleS.l1 (k : Nat)  : Nat → Int × Int × De3 × Unit → Option (Int)
  | 0, _ => none
  | n + 1, (x1, x2, x3, _) => if x2 < (x3.length : Int) then (if 0 ≤ x2 then (if x2 < (x3.length : Int) then (if ¬ ((el Ty3 x3 x2.toNat).1) = x1 then (some (-1)) else (if 0 ≤ x2 then (if x2 < (x3.length : Int) then (if ¬ (((el Ty3 x3 x2.toNat).2).1) = (w64 (x1 + 1)) then (some (-1)) else (if 0 ≤ x2 then (if x2 < (x3.length : Int) then (if ¬ (((el Ty3 x3 x2.toNat).2).2) = (w64 ((w64 (x1 + 1)) + 1)) then (some (-1)) else (laws_heldRuleS.l1 k n (w64 ((w64 ((w64 (x1 + 1)) + 1)) + 1), w64 (x2 + 1), x3, ()))) else none) else none)) else none) else none)) else none) else none) else (some x1)
def laws_heldRuleS.f (k : Nat) (a0 : De3) (a1 : Int) : Option (Int) :=
  laws_heldRuleS.l1 k k (a1, 0, a0, ())
def laws_heldRuleS.Sl1 : Shape := ⟨[(0, false, [.own 0]), (1, false, [.int .i64]), (5, false, [.int .i64])], [(0, .view false 52 Ty3)], 1⟩
def laws_heldRuleS.sig : Sig := ⟨[.val false (.sl 52 Ty3) [0], .val false TyI []], [.val false TyI []]⟩
def laws_heldRuleS.F : FT laws_heldRuleS.sig := fun k x => laws_heldRuleS.f k x.1 x.2.1
def laws_heldRuleS.ann : AT laws_heldRuleS.sig := fun k => (.seq .nil (.seq (.seq .nil (.block (.loop laws_heldRuleS.Sl1 (laws_heldRuleS.l1 k) fun n1 => .nil))) .nil))
def laws_heldRuleS.ent : Ent := ⟨33, laws_heldRuleS.sig, laws_heldRuleS.F⟩
def laws_heldRuleS.ctx (k : Nat) : Ctx := ⟨tds, [], k, 40⟩
theorem laws_heldRuleS.runs : RunsT laws_heldRuleS.sig laws_heldRuleS.ctx Try.f33 laws_heldRuleS.ann laws_heldRuleS.F := fun k x => by kernel_rfl
theorem laws_heldRuleS.obls : OblT tds laws_heldRuleS.sig laws_heldRuleS.ctx 1 Try.f33 laws_heldRuleS.ann := fun k => ⟨tr, ⟨⟨tr, ⟨⟨by kernel_rfl, fun x => by kernel_rfl⟩, fun n => ⟨fun x => by kernel_rfl, ⟨⟨tr, ⟨tr, tr⟩⟩, ⟨⟨⟨tr, ⟨⟨tr, tr⟩, tr⟩⟩, ⟨tr, ⟨⟨tr, ⟨⟨tr, tr⟩, tr⟩⟩, ⟨tr, ⟨⟨tr, ⟨⟨tr, tr⟩, tr⟩⟩, tr⟩⟩⟩⟩⟩, tr⟩⟩⟩⟩⟩, ⟨tr, tr⟩⟩⟩
theorem laws_heldRuleS.ok (k : Nat) : EntOk Try.prog k laws_heldRuleS.ent := fn_ok (C := laws_heldRuleS.ctx k) Try.func33 (by kernel_rfl) (by kernel_rfl) mixed tdsOk EntsOk.nil (by kernel_rfl) (leB (by kernel_rfl)) (by kernel_rfl) (laws_heldRuleS.runs k) (laws_heldRuleS.obls k)
/-! loop.example/g00200/laws.heldStringS -/
def laws_heldStringS.l1 (k : Nat)  : Nat → Int × Int × DeB × Unit → Option (Int)
  | 0, _ => none
  | n + 1, (x1, x2, x3, _) => if x2 < (x3.length : Int) then (if 0 ≤ x2 then (if x2 < (x3.length : Int) then ((laws_markText.f k x1).bind fun t1 => (if ¬ (el .str x3 x2.toNat) = t1 then (some (-1)) else (laws_heldStringS.l1 k n (w64 (x1 + 1), w64 (x2 + 1), x3, ())))) else none) else none) else (some x1)
def laws_heldStringS.f (k : Nat) (a0 : DeB) (a1 : Int) : Option (Int) :=
  laws_heldStringS.l1 k k (a1, 0, a0, ())
def laws_heldStringS.Sl1 : Shape := ⟨[(0, false, [.own 0]), (1, false, [.int .i64]), (5, false, [.int .i64])], [(0, .view false 9 .str)], 1⟩
def laws_heldStringS.sig : Sig := ⟨[.val false (.sl 9 .str) [0], .val false TyI []], [.val false TyI []]⟩
def laws_heldStringS.F : FT laws_heldStringS.sig := fun k x => laws_heldStringS.f k x.1 x.2.1
def laws_heldStringS.ann : AT laws_heldStringS.sig := fun k => (.seq .nil (.seq (.seq .nil (.block (.loop laws_heldStringS.Sl1 (laws_heldStringS.l1 k) fun n1 => .nil))) .nil))
def laws_heldStringS.ent : Ent := ⟨34, laws_heldStringS.sig, laws_heldStringS.F⟩
def laws_heldStringS.ctx (k : Nat) : Ctx := ⟨tds, [laws_markText.ent], k, 22⟩
theorem laws_heldStringS.runs : RunsT laws_heldStringS.sig laws_heldStringS.ctx Try.f34 laws_heldStringS.ann laws_heldStringS.F := fun k x => by kernel_rfl
theorem laws_heldStringS.obls : OblT tds laws_heldStringS.sig laws_heldStringS.ctx 1 Try.f34 laws_heldStringS.ann := fun k => ⟨tr, ⟨⟨tr, ⟨⟨by kernel_rfl, fun x => by kernel_rfl⟩, fun n => ⟨fun x => by kernel_rfl, ⟨⟨tr, ⟨tr, tr⟩⟩, ⟨⟨⟨tr, ⟨⟨tr, tr⟩, tr⟩⟩, tr⟩, tr⟩⟩⟩⟩⟩, ⟨tr, tr⟩⟩⟩
theorem laws_heldStringS.ok (k : Nat) : EntOk Try.prog k laws_heldStringS.ent := fn_ok (C := laws_heldStringS.ctx k) Try.func34 (by kernel_rfl) (by kernel_rfl) mixed tdsOk (.cons (laws_markText.ok k) EntsOk.nil) (by kernel_rfl) (leB (by kernel_rfl)) (by kernel_rfl) (laws_heldStringS.runs k) (laws_heldStringS.obls k)
/-! loop.example/g00200/laws.heldSetup -/
def laws_heldSetup.f (k : Nat) (a0 : De2 × De2 × De5 × De3 × DeB) (a1 : Int) : Option (Int) :=
  (laws_heldRegionS.f k a0.1 a1).bind fun t1 => (if t1 < 0 then (some (-1)) else ((laws_heldWindowS.f k a0.2.1 t1).bind fun t2 => (if t2 < 0 then (some (-1)) else ((laws_heldPortS.f k a0.2.2.1 t2).bind fun t3 => (if t3 < 0 then (some (-1)) else ((laws_heldRuleS.f k a0.2.2.2.1 t3).bind fun t4 => (if t4 < 0 then (some (-1)) else ((laws_heldStringS.f k a0.2.2.2.2 t4).bind fun t5 => (if t5 < 0 then (some (-1)) else (some t5))))))))))
def laws_heldSetup.sig : Sig := ⟨[.val true (.pair (.sl 46 Ty2) (.pair (.sl 48 Ty2) (.pair (.sl 50 Ty5) (.pair (.sl 52 Ty3) (.sl 9 .str))))) [0, 0, 0, 0, 0], .val false TyI []], [.val false TyI []]⟩
def laws_heldSetup.F : FT laws_heldSetup.sig := fun k x => laws_heldSetup.f k x.1 x.2.1
def laws_heldSetup.ann : AT laws_heldSetup.sig := fun k => .nil
def laws_heldSetup.ent : Ent := ⟨9, laws_heldSetup.sig, laws_heldSetup.F⟩
def laws_heldSetup.ctx (k : Nat) : Ctx := ⟨tds, [laws_heldRegionS.ent, laws_heldWindowS.ent, laws_heldPortS.ent, laws_heldRuleS.ent, laws_heldStringS.ent], k, 36⟩
theorem laws_heldSetup.runs : RunsT laws_heldSetup.sig laws_heldSetup.ctx Try.f9 laws_heldSetup.ann laws_heldSetup.F := fun k x => by kernel_rfl
theorem laws_heldSetup.obls : OblT tds laws_heldSetup.sig laws_heldSetup.ctx 5 Try.f9 laws_heldSetup.ann := fun k => ⟨tr, ⟨tr, ⟨⟨tr, ⟨⟨tr, tr⟩, tr⟩⟩, ⟨tr, ⟨⟨tr, ⟨⟨tr, tr⟩, tr⟩⟩, ⟨tr, ⟨⟨tr, ⟨⟨tr, tr⟩, tr⟩⟩, ⟨tr, ⟨⟨tr, ⟨⟨tr, tr⟩, tr⟩⟩, ⟨tr, ⟨⟨tr, ⟨⟨tr, tr⟩, tr⟩⟩, ⟨tr, tr⟩⟩⟩⟩⟩⟩⟩⟩⟩⟩⟩⟩
theorem laws_heldSetup.ok (k : Nat) : EntOk Try.prog k laws_heldSetup.ent := fn_ok (C := laws_heldSetup.ctx k) Try.func9 (by kernel_rfl) (by kernel_rfl) mixed tdsOk (.cons (laws_heldRegionS.ok k) (.cons (laws_heldWindowS.ok k) (.cons (laws_heldPortS.ok k) (.cons (laws_heldRuleS.ok k) (.cons (laws_heldStringS.ok k) EntsOk.nil))))) (by kernel_rfl) (leB (by kernel_rfl)) (by kernel_rfl) (laws_heldSetup.runs k) (laws_heldSetup.obls k)
end Go.Proofs.Ythncjcfnpfajaaa.QA
