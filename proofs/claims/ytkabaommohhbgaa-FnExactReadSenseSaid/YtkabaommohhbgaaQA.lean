/- The plain functions of Go functions, and that each Go function does what its plain function tells. Printed by a program of this session (gen.py). -/
import Derived.Test.YtkabaommohhbgaaProg
import Derived.Test.YtkabaommohhbgaaAbDa
import Derived.KernelRfl
import Derived.Test.YtkabaommohhbgaaAbJoin
import Derived.Test.YtkabaommohhbgaaShelf
namespace Go.Proofs.Ytkabaommohhbgaa.QA
open Go Go.Proofs Go.Proofs.YtkabaommohhbgaaA
set_option linter.unusedVariables false
set_option maxRecDepth 100000
def tds : List (Nat × TD) := [(2, ⟨.int .i64, 1, 8, (.int .i64), false, false⟩),
  (3, ⟨.int .i64, 1, 8, (.int .i64), false, false⟩),
  (4, ⟨.bool, 1, 1, .bool, false, false⟩),
  (5, ⟨.int .u8, 1, 1, (.int .u8), false, false⟩),
  (6, ⟨.int .u8, 1, 1, (.int .u8), false, false⟩),
  (7, ⟨.struct [(0, 2), (1, 3), (2, 4), (3, 6)], 4, 24, (.pair (.int .i64) (.pair (.int .i64) (.pair .bool (.int .u8)))), true, false⟩),
  (8, ⟨.struct [(0, 2), (1, 3), (2, 4), (3, 6)], 4, 24, (.pair (.int .i64) (.pair (.int .i64) (.pair .bool (.int .u8)))), true, false⟩),
  (9, ⟨.str, 1, 16, .str, false, false⟩),
  (10, ⟨.str, 1, 16, .str, false, false⟩),
  (11, ⟨.str, 1, 16, .str, false, false⟩),
  (12, ⟨.int .u64, 1, 8, (.int .u64), false, false⟩),
  (13, ⟨.struct [(0, 9), (1, 12)], 2, 24, (.pair .str (.int .u64)), true, false⟩),
  (14, ⟨.struct [(0, 9), (1, 12)], 2, 24, (.pair .str (.int .u64)), true, false⟩),
  (21, ⟨.int .i32, 1, 4, (.int .i32), false, false⟩),
  (27, ⟨.slice 5, 1, 24, (.sl 5 (.int .u8)), false, false⟩),
  (29, ⟨.slice 3, 1, 24, (.sl 3 (.int .i64)), false, false⟩),
  (33, ⟨.slice 9, 1, 24, (.sl 9 .str), false, false⟩),
  (51, ⟨.struct [(0, 27), (1, 3), (2, 3)], 3, 40, (.pair (.sl 5 (.int .u8)) (.pair (.int .i64) (.int .i64))), true, false⟩),
  (52, ⟨.struct [(0, 27), (1, 3), (2, 3)], 3, 40, (.pair (.sl 5 (.int .u8)) (.pair (.int .i64) (.int .i64))), true, false⟩),
  (53, ⟨.int .u64, 1, 8, (.int .u64), false, false⟩),
  (64, ⟨.int .u32, 1, 4, (.int .u32), false, false⟩),
  (65, ⟨.int .u8, 1, 1, (.int .u8), false, false⟩),
  (66, ⟨.int .u8, 1, 1, (.int .u8), false, false⟩),
  (68, ⟨.int .i32, 1, 4, (.int .i32), false, false⟩),
  (69, ⟨.int .i32, 1, 4, (.int .i32), false, false⟩)]
theorem mixed : Try.prog.follows .mixedOrders = true := by kernel_rfl
theorem tdsOk : TdsOk Try.prog tds := tds_ok (by kernel_rfl) (by kernel_rfl)
def w64 (z : Int) : Int := IntKind.i64.wrap z
@[reducible] def TyP : Ty := .pair (.int .i64) (.pair (.pair (.int .i64) (.sl 3 (.int .i64))) (.pair (.int .i64) (.pair (.int .i64) (.int .i64))))
@[reducible] def Ty5 : Ty := .pair (.int .i64) (.pair (.int .i64) (.pair (.int .i64) (.pair (.int .i64) (.int .i64))))
@[reducible] def Ty3 : Ty := .pair (.int .i64) (.pair (.int .i64) (.int .i64))
@[reducible] def Ty2 : Ty := .pair (.int .i64) (.int .i64)
@[reducible] def TyI : Ty := .int .i64
@[reducible] def DeP : Type := List (Int × (Int × List Int) × Int × Int × Int)
@[reducible] def De5 : Type := List (Int × Int × Int × Int × Int)
@[reducible] def De3 : Type := List (Int × Int × Int)
@[reducible] def De2 : Type := List (Int × Int)
@[reducible] def DeB : Type := List ByteArray
@[reducible] def DeI : Type := List Int
@[reducible] def DeL : Type := List De2
@[reducible] def DeS : Type := De2 × De2 × De5 × De3 × DeB
@[reducible] def DeK : Type := DeS × DeI × DeP × DeL × DeI × Int × Bool × De5
/-! loop.example/g00200/spec.l01In -/
def spec_l01In.f (k : Nat) (a0 : Int) (a1 : Int) (a2 : Int) : Option (Bool) :=
  if a1 ≤ a0 then (some (decide (a0 ≤ a2))) else (some false)
def spec_l01In.sig : Sig := ⟨[.val false TyI [], .val false TyI [], .val false TyI []], [.val false .bool []]⟩
def spec_l01In.F : FT spec_l01In.sig := fun k x => spec_l01In.f k x.1 x.2.1 x.2.2.1
def spec_l01In.ann : AT spec_l01In.sig := fun k => .nil
def spec_l01In.ent : Ent := ⟨24, spec_l01In.sig, spec_l01In.F⟩
def spec_l01In.ctx (k : Nat) : Ctx := ⟨tds, [], k, 15⟩
theorem spec_l01In.runs : RunsT spec_l01In.sig spec_l01In.ctx Try.f24 spec_l01In.ann spec_l01In.F := fun k x => by kernel_rfl
theorem spec_l01In.obls : OblT tds spec_l01In.sig spec_l01In.ctx 0 Try.f24 spec_l01In.ann := fun k => ⟨tr, ⟨tr, tr⟩⟩
theorem spec_l01In.ok (k : Nat) : EntOk Try.prog k spec_l01In.ent := fn_ok (C := spec_l01In.ctx k) Try.func24 (by kernel_rfl) (by kernel_rfl) mixed tdsOk EntsOk.nil (by kernel_rfl) (leB (by kernel_rfl)) (by kernel_rfl) (spec_l01In.runs k) (spec_l01In.obls k)
/-! loop.example/g00200/spec.SenseOk -/
def spec_SenseOk.f (k : Nat) (a0 : Int) : Option (Bool) :=
  (spec_l01In.f k a0 0 15).bind fun t1 => (some t1)
def spec_SenseOk.sig : Sig := ⟨[.val false TyI []], [.val false .bool []]⟩
def spec_SenseOk.F : FT spec_SenseOk.sig := fun k x => spec_SenseOk.f k x.1
def spec_SenseOk.ann : AT spec_SenseOk.sig := fun k => .nil
def spec_SenseOk.ent : Ent := ⟨15, spec_SenseOk.sig, spec_SenseOk.F⟩
def spec_SenseOk.ctx (k : Nat) : Ctx := ⟨tds, [spec_l01In.ent], k, 5⟩
theorem spec_SenseOk.runs : RunsT spec_SenseOk.sig spec_SenseOk.ctx Try.f15 spec_SenseOk.ann spec_SenseOk.F := fun k x => by kernel_rfl
theorem spec_SenseOk.obls : OblT tds spec_SenseOk.sig spec_SenseOk.ctx 0 Try.f15 spec_SenseOk.ann := fun k => ⟨tr, ⟨tr, tr⟩⟩
theorem spec_SenseOk.ok (k : Nat) : EntOk Try.prog k spec_SenseOk.ent := fn_ok (C := spec_SenseOk.ctx k) Try.func15 (by kernel_rfl) (by kernel_rfl) mixed tdsOk (.cons (spec_l01In.ok k) EntsOk.nil) (by kernel_rfl) (leB (by kernel_rfl)) (by kernel_rfl) (spec_SenseOk.runs k) (spec_SenseOk.obls k)
/-! loop.example/g00200/spec.Has -/
def spec_Has.f (k : Nat) (a0 : Int) (a1 : Int) : Option (Bool) :=
  (spec_SenseOk.f k a0).bind fun t1 => (if ¬ t1 = true then (some false) else (if ¬ a1 = 1 then (if ¬ a1 = 2 then (if ¬ a1 = 4 then (if ¬ a1 = 8 then (some false) else (if ¬ a1 = 0 then (some (decide ((Int.tmod (w64 (Int.tdiv a0 a1)) 2) = 1))) else none)) else (if ¬ a1 = 0 then (some (decide ((Int.tmod (w64 (Int.tdiv a0 a1)) 2) = 1))) else none)) else (if ¬ a1 = 0 then (some (decide ((Int.tmod (w64 (Int.tdiv a0 a1)) 2) = 1))) else none)) else (if ¬ a1 = 0 then (some (decide ((Int.tmod (w64 (Int.tdiv a0 a1)) 2) = 1))) else none)))
def spec_Has.sig : Sig := ⟨[.val false TyI [], .val false TyI []], [.val false .bool []]⟩
def spec_Has.F : FT spec_Has.sig := fun k x => spec_Has.f k x.1 x.2.1
def spec_Has.ann : AT spec_Has.sig := fun k => .nil
def spec_Has.ent : Ent := ⟨16, spec_Has.sig, spec_Has.F⟩
def spec_Has.ctx (k : Nat) : Ctx := ⟨tds, [spec_SenseOk.ent], k, 29⟩
theorem spec_Has.runs : RunsT spec_Has.sig spec_Has.ctx Try.f16 spec_Has.ann spec_Has.F := fun k x => by kernel_rfl
theorem spec_Has.obls : OblT tds spec_Has.sig spec_Has.ctx 0 Try.f16 spec_Has.ann := fun k => ⟨tr, ⟨⟨tr, ⟨⟨tr, tr⟩, tr⟩⟩, ⟨tr, tr⟩⟩⟩
theorem spec_Has.ok (k : Nat) : EntOk Try.prog k spec_Has.ent := fn_ok (C := spec_Has.ctx k) Try.func16 (by kernel_rfl) (by kernel_rfl) mixed tdsOk (.cons (spec_SenseOk.ok k) EntsOk.nil) (by kernel_rfl) (leB (by kernel_rfl)) (by kernel_rfl) (spec_Has.runs k) (spec_Has.obls k)
/-! loop.example/g00200/spec.SenseNames -/
def spec_SenseNames.j2 (k : Nat) (c0 : Int × ByteArray × Int × DeB × DeI × Unit → Option (ByteArray)) : Int × ByteArray × Int × DeB × DeI × Unit → Option (ByteArray)
  | (z1, z2, z3, z4, z5, _) => if 0 ≤ z3 then (if z3 < (z4.length : Int) then (if z2.size + (el .str z4 z3.toNat).size ≤ 9223372036854775807 then (c0 (z1, z2 ++ (el .str z4 z3.toNat), w64 (z3 + 1), z4, z5, ())) else none) else none) else none
def spec_SenseNames.l1 (k : Nat)  : Nat → Int × ByteArray × Int × DeB × DeI × Unit → Option (ByteArray)
  | 0, _ => none
  | n + 1, (x1, x2, x3, x4, x5, _) => if x3 < 4 then (if 0 ≤ x3 then (if x3 < (x5.length : Int) then ((spec_Has.f k x1 (el TyI x5 x3.toNat)).bind fun t4 => (if t4 = true then (if ¬ x2 = (⟨#[]⟩ : ByteArray) then (if x2.size + (⟨#[44]⟩ : ByteArray).size ≤ 9223372036854775807 then (spec_SenseNames.j2 k (spec_SenseNames.l1 k n) (x1, x2 ++ (⟨#[44]⟩ : ByteArray), x3, x4, x5, ())) else none) else (spec_SenseNames.j2 k (spec_SenseNames.l1 k n) (x1, x2, x3, x4, x5, ()))) else (spec_SenseNames.l1 k n (x1, x2, w64 (x3 + 1), x4, x5, ())))) else none) else none) else (if x2 = (⟨#[]⟩ : ByteArray) then (some (⟨#[110, 111, 110, 101]⟩ : ByteArray)) else (some x2))
def spec_SenseNames.f (k : Nat) (a0 : Int) : Option (ByteArray) :=
  ((some ([(⟨#[98, 108, 111, 99, 107]⟩ : ByteArray), (⟨#[97, 105, 114]⟩ : ByteArray), (⟨#[100, 111, 111, 114]⟩ : ByteArray), (⟨#[112, 111, 119, 101, 114]⟩ : ByteArray)] : DeB))).bind fun y1 => (((some ([1, 2, 4, 8] : DeI))).bind fun y2 => ((spec_SenseOk.f k a0).bind fun t3 => (if ¬ t3 = true then (some (⟨#[]⟩ : ByteArray)) else (spec_SenseNames.l1 k k (a0, (⟨#[]⟩ : ByteArray), 0, y1, y2, ())))))
def spec_SenseNames.Sl1 : Shape := ⟨[(0, false, [.int .i64]), (3, false, [.own 0]), (4, false, [.own 1]), (5, false, [.str]), (6, false, [.int .i64])], [(0, .row 9 .str), (1, .row 3 TyI)], 2⟩
def spec_SenseNames.Sj2 : Shape := ⟨[(0, false, [.int .i64]), (3, false, [.own 0]), (4, false, [.own 1]), (5, false, [.str]), (6, false, [.int .i64])], [(0, .row 9 .str), (1, .row 3 TyI)], 2⟩
def spec_SenseNames.sig : Sig := ⟨[.val false TyI []], [.val false .str []]⟩
def spec_SenseNames.F : FT spec_SenseNames.sig := fun k x => spec_SenseNames.f k x.1
def spec_SenseNames.ann : AT spec_SenseNames.sig := fun k => (.seq .nil (.seq .nil (.seq .nil (.seq .nil (.seq .nil (.seq (.seq .nil (.block (.loop spec_SenseNames.Sl1 (spec_SenseNames.l1 k) fun n1 => (.seq .nil (.seq (.block (.seq .nil (.cond (.join spec_SenseNames.Sj2 (spec_SenseNames.j2 k (spec_SenseNames.l1 k n1)) .nil .nil) .nil))) .nil))))) .nil))))))
def spec_SenseNames.ent : Ent := ⟨6, spec_SenseNames.sig, spec_SenseNames.F⟩
def spec_SenseNames.ctx (k : Nat) : Ctx := ⟨tds, [spec_SenseOk.ent, spec_Has.ent], k, 35⟩
theorem spec_SenseNames.runs : RunsT spec_SenseNames.sig spec_SenseNames.ctx Try.f6 spec_SenseNames.ann spec_SenseNames.F := fun k x => by kernel_rfl
theorem spec_SenseNames.obls : OblT tds spec_SenseNames.sig spec_SenseNames.ctx 0 Try.f6 spec_SenseNames.ann := fun k => ⟨tr, ⟨tr, ⟨tr, ⟨⟨tr, ⟨⟨tr, tr⟩, tr⟩⟩, ⟨tr, ⟨⟨tr, ⟨⟨by kernel_rfl, fun x => by kernel_rfl⟩, fun n => ⟨fun x => by kernel_rfl, ⟨⟨tr, ⟨tr, tr⟩⟩, ⟨⟨tr, ⟨⟨⟨by kernel_rfl, fun x => by kernel_rfl⟩, ⟨tr, ⟨tr, tr⟩⟩, tr⟩, tr⟩⟩, tr⟩⟩⟩⟩⟩, ⟨⟨tr, ⟨⟨tr, tr⟩, tr⟩⟩, ⟨tr, tr⟩⟩⟩⟩⟩⟩⟩⟩
theorem spec_SenseNames.ok (k : Nat) : EntOk Try.prog k spec_SenseNames.ent := fn_ok (C := spec_SenseNames.ctx k) Try.func6 (by kernel_rfl) (by kernel_rfl) mixed tdsOk (.cons (spec_SenseOk.ok k) (.cons (spec_Has.ok k) EntsOk.nil)) (by kernel_rfl) (leB (by kernel_rfl)) (by kernel_rfl) (spec_SenseNames.runs k) (spec_SenseNames.obls k)
/-! loop.example/g00200/spec.ReadSense -/
def spec_ReadSense.l1 (k : Nat)  : Nat → ByteArray × Int × Unit → Option (Int × Bool)
  | 0, _ => none
  | n + 1, (x1, x2, _) => if x2 < 16 then ((spec_SenseNames.f k x2).bind fun t1 => (if t1 = x1 then (some (x2, true)) else (spec_ReadSense.l1 k n (x1, w64 (x2 + 1), ())))) else (some (0, false))
def spec_ReadSense.f (k : Nat) (a0 : ByteArray) : Option (Int × Bool) :=
  spec_ReadSense.l1 k k (a0, 0, ())
def spec_ReadSense.Sl1 : Shape := ⟨[(0, false, [.str]), (4, false, [.int .i64])], [], 0⟩
def spec_ReadSense.sig : Sig := ⟨[.val false .str []], [.val false TyI [], .val false .bool []]⟩
def spec_ReadSense.F : FT spec_ReadSense.sig := fun k x => spec_ReadSense.f k x.1
def spec_ReadSense.ann : AT spec_ReadSense.sig := fun k => (.seq .nil (.seq (.seq .nil (.block (.loop spec_ReadSense.Sl1 (spec_ReadSense.l1 k) fun n1 => .nil))) .nil))
def spec_ReadSense.ent : Ent := ⟨8, spec_ReadSense.sig, spec_ReadSense.F⟩
def spec_ReadSense.ctx (k : Nat) : Ctx := ⟨tds, [spec_SenseNames.ent], k, 14⟩
theorem spec_ReadSense.runs : RunsT spec_ReadSense.sig spec_ReadSense.ctx Try.f8 spec_ReadSense.ann spec_ReadSense.F := fun k x => by kernel_rfl
theorem spec_ReadSense.obls : OblT tds spec_ReadSense.sig spec_ReadSense.ctx 0 Try.f8 spec_ReadSense.ann := fun k => ⟨tr, ⟨⟨tr, ⟨⟨by kernel_rfl, fun x => by kernel_rfl⟩, fun n => ⟨fun x => by kernel_rfl, ⟨⟨tr, ⟨tr, tr⟩⟩, ⟨⟨tr, ⟨⟨tr, tr⟩, tr⟩⟩, tr⟩⟩⟩⟩⟩, ⟨tr, tr⟩⟩⟩
theorem spec_ReadSense.ok (k : Nat) : EntOk Try.prog k spec_ReadSense.ent := fn_ok (C := spec_ReadSense.ctx k) Try.func8 (by kernel_rfl) (by kernel_rfl) mixed tdsOk (.cons (spec_SenseNames.ok k) EntsOk.nil) (by kernel_rfl) (leB (by kernel_rfl)) (by kernel_rfl) (spec_ReadSense.runs k) (spec_ReadSense.obls k)
/-! loop.example/g00200/impl.within -/
def impl_within.f (k : Nat) (a0 : Int) (a1 : Int) (a2 : Int) : Option (Bool) :=
  if a1 ≤ a0 then (some (decide (a0 ≤ a2))) else (some false)
def impl_within.sig : Sig := ⟨[.val false TyI [], .val false TyI [], .val false TyI []], [.val false .bool []]⟩
def impl_within.F : FT impl_within.sig := fun k x => impl_within.f k x.1 x.2.1 x.2.2.1
def impl_within.ann : AT impl_within.sig := fun k => .nil
def impl_within.ent : Ent := ⟨23, impl_within.sig, impl_within.F⟩
def impl_within.ctx (k : Nat) : Ctx := ⟨tds, [], k, 15⟩
theorem impl_within.runs : RunsT impl_within.sig impl_within.ctx Try.f23 impl_within.ann impl_within.F := fun k x => by kernel_rfl
theorem impl_within.obls : OblT tds impl_within.sig impl_within.ctx 0 Try.f23 impl_within.ann := fun k => ⟨tr, ⟨tr, tr⟩⟩
theorem impl_within.ok (k : Nat) : EntOk Try.prog k impl_within.ent := fn_ok (C := impl_within.ctx k) Try.func23 (by kernel_rfl) (by kernel_rfl) mixed tdsOk EntsOk.nil (by kernel_rfl) (leB (by kernel_rfl)) (by kernel_rfl) (impl_within.runs k) (impl_within.obls k)
/-! loop.example/g00200/impl.SenseOk -/
def impl_SenseOk.f (k : Nat) (a0 : Int) : Option (Bool) :=
  (impl_within.f k a0 0 15).bind fun t1 => (some t1)
def impl_SenseOk.sig : Sig := ⟨[.val false TyI []], [.val false .bool []]⟩
def impl_SenseOk.F : FT impl_SenseOk.sig := fun k x => impl_SenseOk.f k x.1
def impl_SenseOk.ann : AT impl_SenseOk.sig := fun k => .nil
def impl_SenseOk.ent : Ent := ⟨14, impl_SenseOk.sig, impl_SenseOk.F⟩
def impl_SenseOk.ctx (k : Nat) : Ctx := ⟨tds, [impl_within.ent], k, 5⟩
theorem impl_SenseOk.runs : RunsT impl_SenseOk.sig impl_SenseOk.ctx Try.f14 impl_SenseOk.ann impl_SenseOk.F := fun k x => by kernel_rfl
theorem impl_SenseOk.obls : OblT tds impl_SenseOk.sig impl_SenseOk.ctx 0 Try.f14 impl_SenseOk.ann := fun k => ⟨tr, ⟨tr, tr⟩⟩
theorem impl_SenseOk.ok (k : Nat) : EntOk Try.prog k impl_SenseOk.ent := fn_ok (C := impl_SenseOk.ctx k) Try.func14 (by kernel_rfl) (by kernel_rfl) mixed tdsOk (.cons (impl_within.ok k) EntsOk.nil) (by kernel_rfl) (leB (by kernel_rfl)) (by kernel_rfl) (impl_SenseOk.runs k) (impl_SenseOk.obls k)
/-! strings.Join -/
def strings_Join.f (k : Nat) (a0 : DeB) (a1 : ByteArray) : Option (ByteArray) := joinF a0 a1
def strings_Join.ent : Ent := ⟨17, joinSig 9, fun _ x => joinF x.1 x.2.1⟩
theorem strings_Join.ok (k : Nat) : EntOk Try.prog k strings_Join.ent := join_ok (enters_of Try.func17 (by kernel_rfl) rfl) Try.strings_Join_none Try.strings_Join
/-! loop.example/g00200/impl.SenseNames -/
def impl_SenseNames.l1 (k : Nat)  : Nat → Int × Int × Int × DeB × DeB × Unit → Option (ByteArray)
  | 0, _ => none
  | n + 1, (x1, x2, x3, x4, x5, _) => if x3 < x2 then (if 0 ≤ x3 then (if x3 < (x5.length : Int) then (if 0 ≤ x3 then (if (bits .and .i64 (x1 / ((2 ^ (min x3.toNat 64) : Nat) : Int)) 1) = 1 then (((some ([el .str x5 x3.toNat] : DeB))).bind fun y4 => (if (x4.length + y4.length) * 16 ≤ 140737488355328 then (((some (x4 ++ y4))).bind fun y5 => (impl_SenseNames.l1 k n (x1, x2, w64 (x3 + 1), y5, x5, ()))) else none)) else (impl_SenseNames.l1 k n (x1, x2, w64 (x3 + 1), x4, x5, ()))) else none) else none) else none) else ((strings_Join.f k x4 (⟨#[44]⟩ : ByteArray)).bind fun t6 => (some t6))
def impl_SenseNames.f (k : Nat) (a0 : Int) : Option (ByteArray) :=
  (impl_SenseOk.f k a0).bind fun t1 => (if ¬ t1 = true then (some (⟨#[]⟩ : ByteArray)) else (if a0 = 0 then (some (⟨#[110, 111, 110, 101]⟩ : ByteArray)) else (((some ([] : DeB))).bind fun y2 => (((some ([(⟨#[98, 108, 111, 99, 107]⟩ : ByteArray), (⟨#[97, 105, 114]⟩ : ByteArray), (⟨#[100, 111, 111, 114]⟩ : ByteArray), (⟨#[112, 111, 119, 101, 114]⟩ : ByteArray)] : DeB))).bind fun y3 => (impl_SenseNames.l1 k k (a0, (y3.length : Int), 0, y2, y3, ()))))))
def impl_SenseNames.Sl1 : Shape := ⟨[(0, false, [.int .i64]), (3, false, [.own 0]), (12, false, [.own 1]), (13, false, [.int .i64]), (14, false, [.int .i64])], [(0, .row 9 .str), (1, .row 9 .str)], 2⟩
def impl_SenseNames.sig : Sig := ⟨[.val false TyI []], [.val false .str []]⟩
def impl_SenseNames.F : FT impl_SenseNames.sig := fun k x => impl_SenseNames.f k x.1
def impl_SenseNames.ann : AT impl_SenseNames.sig := fun k => (.seq .nil (.seq .nil (.seq .nil (.seq .nil (.seq (.seq .nil (.block (.loop impl_SenseNames.Sl1 (impl_SenseNames.l1 k) fun n1 => .nil))) .nil)))))
def impl_SenseNames.ent : Ent := ⟨7, impl_SenseNames.sig, impl_SenseNames.F⟩
def impl_SenseNames.ctx (k : Nat) : Ctx := ⟨tds, [impl_SenseOk.ent, strings_Join.ent], k, 31⟩
theorem impl_SenseNames.runs : RunsT impl_SenseNames.sig impl_SenseNames.ctx Try.f7 impl_SenseNames.ann impl_SenseNames.F := fun k x => by kernel_rfl
theorem impl_SenseNames.obls : OblT tds impl_SenseNames.sig impl_SenseNames.ctx 0 Try.f7 impl_SenseNames.ann := fun k => ⟨tr, ⟨⟨tr, ⟨⟨tr, tr⟩, tr⟩⟩, ⟨⟨tr, ⟨⟨tr, tr⟩, tr⟩⟩, ⟨tr, ⟨⟨tr, ⟨⟨by kernel_rfl, fun x => by kernel_rfl⟩, fun n => ⟨fun x => by kernel_rfl, ⟨tr, ⟨⟨tr, tr⟩, ⟨⟨tr, ⟨tr, ⟨tr, tr⟩⟩⟩, tr⟩⟩⟩⟩⟩⟩, ⟨tr, tr⟩⟩⟩⟩⟩⟩
theorem impl_SenseNames.ok (k : Nat) : EntOk Try.prog k impl_SenseNames.ent := fn_ok (C := impl_SenseNames.ctx k) Try.func7 (by kernel_rfl) (by kernel_rfl) mixed tdsOk (.cons (impl_SenseOk.ok k) (.cons (strings_Join.ok k) EntsOk.nil)) (by kernel_rfl) (leB (by kernel_rfl)) (by kernel_rfl) (impl_SenseNames.runs k) (impl_SenseNames.obls k)
/-! loop.example/g00200/impl.ReadSense -/
def impl_ReadSense.l1 (k : Nat)  : Nat → ByteArray × Int × Unit → Option (Int × Bool)
  | 0, _ => none
  | n + 1, (x1, x2, _) => if x2 < 16 then ((impl_SenseNames.f k x2).bind fun t1 => (if t1 = x1 then (some (x2, true)) else (impl_ReadSense.l1 k n (x1, w64 (x2 + 1), ())))) else (some (0, false))
def impl_ReadSense.f (k : Nat) (a0 : ByteArray) : Option (Int × Bool) :=
  impl_ReadSense.l1 k k (a0, 0, ())
def impl_ReadSense.Sl1 : Shape := ⟨[(0, false, [.str]), (5, false, [.int .i64])], [], 0⟩
def impl_ReadSense.sig : Sig := ⟨[.val false .str []], [.val false TyI [], .val false .bool []]⟩
def impl_ReadSense.F : FT impl_ReadSense.sig := fun k x => impl_ReadSense.f k x.1
def impl_ReadSense.ann : AT impl_ReadSense.sig := fun k => (.seq .nil (.seq (.seq .nil (.block (.loop impl_ReadSense.Sl1 (impl_ReadSense.l1 k) fun n1 => .nil))) .nil))
def impl_ReadSense.ent : Ent := ⟨9, impl_ReadSense.sig, impl_ReadSense.F⟩
def impl_ReadSense.ctx (k : Nat) : Ctx := ⟨tds, [impl_SenseNames.ent], k, 14⟩
theorem impl_ReadSense.runs : RunsT impl_ReadSense.sig impl_ReadSense.ctx Try.f9 impl_ReadSense.ann impl_ReadSense.F := fun k x => by kernel_rfl
theorem impl_ReadSense.obls : OblT tds impl_ReadSense.sig impl_ReadSense.ctx 0 Try.f9 impl_ReadSense.ann := fun k => ⟨tr, ⟨⟨tr, ⟨⟨by kernel_rfl, fun x => by kernel_rfl⟩, fun n => ⟨fun x => by kernel_rfl, ⟨tr, ⟨⟨tr, tr⟩, ⟨⟨tr, ⟨tr, ⟨⟨tr, tr⟩, tr⟩⟩⟩, tr⟩⟩⟩⟩⟩⟩, ⟨tr, tr⟩⟩⟩
theorem impl_ReadSense.ok (k : Nat) : EntOk Try.prog k impl_ReadSense.ent := fn_ok (C := impl_ReadSense.ctx k) Try.func9 (by kernel_rfl) (by kernel_rfl) mixed tdsOk (.cons (impl_SenseNames.ok k) EntsOk.nil) (by kernel_rfl) (leB (by kernel_rfl)) (by kernel_rfl) (impl_ReadSense.runs k) (impl_ReadSense.obls k)
end Go.Proofs.Ytkabaommohhbgaa.QA
