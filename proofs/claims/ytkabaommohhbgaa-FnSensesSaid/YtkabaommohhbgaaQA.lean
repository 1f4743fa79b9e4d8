/- The plain functions of Go functions, and that each Go function does what its plain function tells. Printed by a program of this session (gen.py). -/
import Derived.Test.YtkabaommohhbgaaProg
import Derived.Test.YtkabaommohhbgaaAbDa
import Derived.KernelRfl
import Derived.Test.YtkabaommohhbgaaAbJoin
import Derived.Test.YtkabaommohhbgaaShelf
namespace Go.Proofs.Ytkabaommohhbgaa.QA
open Go Go.Proofs Go.Proofs.YtkabaommohhbgaaA
set_option linter.unusedVariables false
set_option maxRecDepth 100000
def tds : List (Nat × TD) := [(2, ⟨.int .i64, 1, 8, (.int .i64), false, false⟩),
  (3, ⟨.int .i64, 1, 8, (.int .i64), false, false⟩),
  (4, ⟨.bool, 1, 1, .bool, false, false⟩),
  (5, ⟨.int .u8, 1, 1, (.int .u8), false, false⟩),
  (6, ⟨.int .u8, 1, 1, (.int .u8), false, false⟩),
  (7, ⟨.struct [(0, 2), (1, 3), (2, 4), (3, 6)], 4, 24, (.pair (.int .i64) (.pair (.int .i64) (.pair .bool (.int .u8)))), true, false⟩),
  (8, ⟨.struct [(0, 2), (1, 3), (2, 4), (3, 6)], 4, 24, (.pair (.int .i64) (.pair (.int .i64) (.pair .bool (.int .u8)))), true, false⟩),
  (9, ⟨.str, 1, 16, .str, false, false⟩),
  (10, ⟨.str, 1, 16, .str, false, false⟩),
  (11, ⟨.str, 1, 16, .str, false, false⟩),
  (12, ⟨.int .u64, 1, 8, (.int .u64), false, false⟩),
  (13, ⟨.struct [(0, 9), (1, 12)], 2, 24, (.pair .str (.int .u64)), true, false⟩),
  (14, ⟨.struct [(0, 9), (1, 12)], 2, 24, (.pair .str (.int .u64)), true, false⟩),
  (21, ⟨.int .i32, 1, 4, (.int .i32), false, false⟩),
  (27, ⟨.slice 5, 1, 24, (.sl 5 (.int .u8)), false, false⟩),
  (29, ⟨.slice 3, 1, 24, (.sl 3 (.int .i64)), false, false⟩),
  (33, ⟨.slice 9, 1, 24, (.sl 9 .str), false, false⟩),
  (51, ⟨.struct [(0, 27), (1, 3), (2, 3)], 3, 40, (.pair (.sl 5 (.int .u8)) (.pair (.int .i64) (.int .i64))), true, false⟩),
  (52, ⟨.struct [(0, 27), (1, 3), (2, 3)], 3, 40, (.pair (.sl 5 (.int .u8)) (.pair (.int .i64) (.int .i64))), true, false⟩),
  (53, ⟨.int .u64, 1, 8, (.int .u64), false, false⟩),
  (64, ⟨.int .u32, 1, 4, (.int .u32), false, false⟩),
  (65, ⟨.int .u8, 1, 1, (.int .u8), false, false⟩),
  (66, ⟨.int .u8, 1, 1, (.int .u8), false, false⟩),
  (68, ⟨.int .i32, 1, 4, (.int .i32), false, false⟩),
  (69, ⟨.int .i32, 1, 4, (.int .i32), false, false⟩)]
theorem mixed : Try.prog.follows .mixedOrders = true := by kernel_rfl
theorem tdsOk : TdsOk Try.prog tds := tds_ok (by kernel_rfl) (by kernel_rfl)
def w64 (z : Int) : Int := IntKind.i64.wrap z
@[reducible] def TyP : Ty := .pair (.int .i64) (.pair (.pair (.int .i64) (.sl 3 (.int .i64))) (.pair (.int .i64) (.pair (.int .i64) (.int .i64))))
@[reducible] def Ty5 : Ty := .pair (.int .i64) (.pair (.int .i64) (.pair (.int .i64) (.pair (.int .i64) (.int .i64))))
@[reducible] def Ty3 : Ty := .pair (.int .i64) (.pair (.int .i64) (.int .i64))
@[reducible] def Ty2 : Ty := .pair (.int .i64) (.int .i64)
@[reducible] def TyI : Ty := .int .i64
@[reducible] def DeP : Type := List (Int × (Int × List Int) × Int × Int × Int)
@[reducible] def De5 : Type := List (Int × Int × Int × Int × Int)
@[reducible] def De3 : Type := List (Int × Int × Int)
@[reducible] def De2 : Type := List (Int × Int)
@[reducible] def DeB : Type := List ByteArray
@[reducible] def DeI : Type := List Int
@[reducible] def DeL : Type := List De2
@[reducible] def DeS : Type := De2 × De2 × De5 × De3 × DeB
@[reducible] def DeK : Type := DeS × DeI × DeP × DeL × DeI × Int × Bool × De5
/-! loop.example/g00200/laws.big -/
def laws_big.f (k : Nat) (a0 : DeI) : Option (Bool) :=
  some (decide (1048576 < (a0.length : Int)))
def laws_big.sig : Sig := ⟨[.val false (.sl 5 (.int .u8)) [0]], [.val false .bool []]⟩
def laws_big.F : FT laws_big.sig := fun k x => laws_big.f k x.1
def laws_big.ann : AT laws_big.sig := fun k => .nil
def laws_big.ent : Ent := ⟨10, laws_big.sig, laws_big.F⟩
def laws_big.ctx (k : Nat) : Ctx := ⟨tds, [], k, 6⟩
theorem laws_big.runs : RunsT laws_big.sig laws_big.ctx Try.f10 laws_big.ann laws_big.F := fun k x => by kernel_rfl
theorem laws_big.obls : OblT tds laws_big.sig laws_big.ctx 1 Try.f10 laws_big.ann := fun k => ⟨tr, ⟨tr, tr⟩⟩
theorem laws_big.ok (k : Nat) : EntOk Try.prog k laws_big.ent := fn_ok (C := laws_big.ctx k) Try.func10 (by kernel_rfl) (by kernel_rfl) mixed tdsOk EntsOk.nil (by kernel_rfl) (leB (by kernel_rfl)) (by kernel_rfl) (laws_big.runs k) (laws_big.obls k)
/-! loop.example/g00200/spec.l01New -/
def spec_l01New.l1 (k : Nat)  : Nat → Int × Int × DeI × Unit → Option (DeI × Int × Int)
  | 0, _ => none
  | n + 1, (x1, x2, x3, _) => if x2 < (x3.length : Int) then (if x2 < 4000 then (if 0 ≤ x2 then (if x2 < (x3.length : Int) then (spec_l01New.l1 k n (bits .and .i64 (w64 ((w64 ((w64 (x1 * 131)) + (w64 (el (.int .u8) x3 x2.toNat)))) + 7)) 1073741823, w64 (x2 + 1), x3, ())) else none) else none) else (some (x3, (0, x1)))) else (some (x3, (0, x1)))
def spec_l01New.f (k : Nat) (a0 : DeI) : Option (DeI × Int × Int) :=
  spec_l01New.l1 k k (w64 (37101 + (a0.length : Int)), 0, a0, ())
def spec_l01New.Sl1 : Shape := ⟨[(0, false, [.own 0]), (3, false, [.int .i64]), (4, false, [.int .i64])], [(0, .view false 5 (.int .u8))], 1⟩
def spec_l01New.sig : Sig := ⟨[.val false (.sl 5 (.int .u8)) [0]], [.ptr 52 (.pair (.sl 5 (.int .u8)) Ty2) [some 0]]⟩
def spec_l01New.F : FT spec_l01New.sig := fun k x => spec_l01New.f k x.1
def spec_l01New.ann : AT spec_l01New.sig := fun k => (.seq .nil (.seq .nil (.seq (.seq .nil (.block (.loop spec_l01New.Sl1 (spec_l01New.l1 k) fun n1 => .nil))) .nil)))
def spec_l01New.ent : Ent := ⟨18, spec_l01New.sig, spec_l01New.F⟩
def spec_l01New.ctx (k : Nat) : Ctx := ⟨tds, [], k, 32⟩
theorem spec_l01New.runs : RunsT spec_l01New.sig spec_l01New.ctx Try.f18 spec_l01New.ann spec_l01New.F := fun k x => by kernel_rfl
theorem spec_l01New.obls : OblT tds spec_l01New.sig spec_l01New.ctx 1 Try.f18 spec_l01New.ann := fun k => ⟨tr, ⟨tr, ⟨⟨tr, ⟨⟨by kernel_rfl, fun x => by kernel_rfl⟩, fun n => ⟨fun x => by kernel_rfl, ⟨⟨tr, ⟨tr, tr⟩⟩, ⟨tr, tr⟩⟩⟩⟩⟩, ⟨tr, tr⟩⟩⟩⟩
theorem spec_l01New.ok (k : Nat) : EntOk Try.prog k spec_l01New.ent := fn_ok (C := spec_l01New.ctx k) Try.func18 (by kernel_rfl) (by kernel_rfl) mixed tdsOk EntsOk.nil (by kernel_rfl) (leB (by kernel_rfl)) (by kernel_rfl) (spec_l01New.runs k) (spec_l01New.obls k)
/-! loop.example/g00200/spec.l01Byte -/
def spec_l01Byte.f (k : Nat) (a0 : DeI × Int × Int) : Option (Int × DeI × Int × Int) :=
  if a0.2.1 < (a0.1.length : Int) then (if 0 ≤ a0.2.1 then (if a0.2.1 < (a0.1.length : Int) then (some (bits .and .i64 (w64 ((bits .and .i64 (bits .xor .i64 ((w64 ((w64 (a0.2.2 * 6364136223846793005)) + 1442695040888963407)) / 8589934592) ((w64 ((w64 (a0.2.2 * 6364136223846793005)) + 1442695040888963407)) / 35184372088832)) 255) + (w64 (el (.int .u8) a0.1 a0.2.1.toNat)))) 255, (a0.1, (w64 (a0.2.1 + 1), w64 ((w64 (a0.2.2 * 6364136223846793005)) + 1442695040888963407))))) else none) else none) else (some (bits .and .i64 (bits .xor .i64 ((w64 ((w64 (a0.2.2 * 6364136223846793005)) + 1442695040888963407)) / 8589934592) ((w64 ((w64 (a0.2.2 * 6364136223846793005)) + 1442695040888963407)) / 35184372088832)) 255, (a0.1, (a0.2.1, w64 ((w64 (a0.2.2 * 6364136223846793005)) + 1442695040888963407)))))
def spec_l01Byte.sig : Sig := ⟨[.ptr 52 (.pair (.sl 5 (.int .u8)) Ty2) [0]], [.val false TyI []]⟩
def spec_l01Byte.F : FT spec_l01Byte.sig := fun k x => spec_l01Byte.f k x.1
def spec_l01Byte.ann : AT spec_l01Byte.sig := fun k => .nil
def spec_l01Byte.ent : Ent := ⟨19, spec_l01Byte.sig, spec_l01Byte.F⟩
def spec_l01Byte.ctx (k : Nat) : Ctx := ⟨tds, [], k, 58⟩
theorem spec_l01Byte.runs : RunsT spec_l01Byte.sig spec_l01Byte.ctx Try.f19 spec_l01Byte.ann spec_l01Byte.F := fun k x => by kernel_rfl
theorem spec_l01Byte.obls : OblT tds spec_l01Byte.sig spec_l01Byte.ctx 2 Try.f19 spec_l01Byte.ann := fun k => ⟨tr, ⟨tr, ⟨tr, ⟨⟨tr, ⟨⟨tr, tr⟩, tr⟩⟩, ⟨tr, tr⟩⟩⟩⟩⟩
theorem spec_l01Byte.ok (k : Nat) : EntOk Try.prog k spec_l01Byte.ent := fn_ok (C := spec_l01Byte.ctx k) Try.func19 (by kernel_rfl) (by kernel_rfl) mixed tdsOk EntsOk.nil (by kernel_rfl) (leB (by kernel_rfl)) (by kernel_rfl) (spec_l01Byte.runs k) (spec_l01Byte.obls k)
/-! loop.example/g00200/spec.l01Below -/
def spec_l01Below.f (k : Nat) (a0 : DeI × Int × Int) (a1 : Int) : Option (Int × DeI × Int × Int) :=
  if a1 ≤ 0 then (some (0, a0)) else (if a1 ≤ 256 then ((spec_l01Byte.f k a0).bind fun t1 => (if ¬ a1 = 0 then (some (Int.tmod t1.1 a1, (a0.1, t1.2.2))) else none)) else ((spec_l01Byte.f k a0).bind fun t2 => ((spec_l01Byte.f k (a0.1, t2.2.2)).bind fun t3 => ((spec_l01Byte.f k (a0.1, t3.2.2)).bind fun t4 => ((spec_l01Byte.f k (a0.1, t4.2.2)).bind fun t5 => (if ¬ a1 = 0 then (some (Int.tmod (w64 ((w64 ((w64 ((w64 (t2.1 * 16777216)) + (w64 (t3.1 * 65536)))) + (w64 (t4.1 * 256)))) + t5.1)) a1, (a0.1, t5.2.2))) else none))))))
def spec_l01Below.sig : Sig := ⟨[.ptr 52 (.pair (.sl 5 (.int .u8)) Ty2) [0], .val false TyI []], [.val false TyI []]⟩
def spec_l01Below.F : FT spec_l01Below.sig := fun k x => spec_l01Below.f k x.1 x.2.1
def spec_l01Below.ann : AT spec_l01Below.sig := fun k => .nil
def spec_l01Below.ent : Ent := ⟨20, spec_l01Below.sig, spec_l01Below.F⟩
def spec_l01Below.ctx (k : Nat) : Ctx := ⟨tds, [spec_l01Byte.ent], k, 37⟩
theorem spec_l01Below.runs : RunsT spec_l01Below.sig spec_l01Below.ctx Try.f20 spec_l01Below.ann spec_l01Below.F := fun k x => by kernel_rfl
theorem spec_l01Below.obls : OblT tds spec_l01Below.sig spec_l01Below.ctx 2 Try.f20 spec_l01Below.ann := fun k => ⟨tr, ⟨⟨tr, ⟨⟨tr, tr⟩, tr⟩⟩, ⟨⟨tr, ⟨⟨tr, tr⟩, tr⟩⟩, ⟨tr, ⟨tr, ⟨tr, ⟨tr, ⟨tr, tr⟩⟩⟩⟩⟩⟩⟩⟩
theorem spec_l01Below.ok (k : Nat) : EntOk Try.prog k spec_l01Below.ent := fn_ok (C := spec_l01Below.ctx k) Try.func20 (by kernel_rfl) (by kernel_rfl) mixed tdsOk (.cons (spec_l01Byte.ok k) EntsOk.nil) (by kernel_rfl) (leB (by kernel_rfl)) (by kernel_rfl) (spec_l01Below.runs k) (spec_l01Below.obls k)
/-! loop.example/g00200/spec.DrawPlaces -/
def spec_DrawPlaces.l1 (k : Nat)  : Nat → Int × Int × Int × DeI × DeI × Unit → Option DeI
  | 0, _ => none
  | n + 1, (x1, x2, x3, x4, x5, _) => if x1 < 12 then ((spec_l01Below.f k (x4, (x2, x3)) 10000).bind fun t4 => (((some ([t4.1] : DeI))).bind fun y5 => (if (x5.length + y5.length) * 8 ≤ 140737488355328 then (((some (x5 ++ y5))).bind fun y6 => (spec_DrawPlaces.l1 k n (w64 (x1 + 1), t4.2.2.1, t4.2.2.2, x4, y6, ()))) else none))) else (some x5)
def spec_DrawPlaces.f (k : Nat) (a0 : DeI) : Option DeI :=
  (spec_l01New.f k a0).bind fun t1 => ((spec_l01Byte.f k (a0, t1.2)).bind fun t2 => (((some ([] : DeI))).bind fun y3 => (spec_DrawPlaces.l1 k k (0, t2.2.2.1, t2.2.2.2, a0, y3, ()))))
def spec_DrawPlaces.Sl1 : Shape := ⟨[(3, false, [.ptr 1 0]), (4, false, [.own 2]), (5, false, [.int .i64])], [(1, .blk 52 [.own 0, .int .i64, .int .i64]), (0, .view false 5 (.int .u8)), (2, .row 3 TyI)], 3⟩
def spec_DrawPlaces.sig : Sig := ⟨[.val false (.sl 5 (.int .u8)) [0]], [.val false (.sl 3 TyI) [none]]⟩
def spec_DrawPlaces.F : FT spec_DrawPlaces.sig := fun k x => spec_DrawPlaces.f k x.1
def spec_DrawPlaces.ann : AT spec_DrawPlaces.sig := fun k => (.seq .nil (.seq .nil (.seq .nil (.seq .nil (.seq (.seq .nil (.block (.loop spec_DrawPlaces.Sl1 (spec_DrawPlaces.l1 k) fun n1 => .nil))) .nil)))))
def spec_DrawPlaces.ent : Ent := ⟨11, spec_DrawPlaces.sig, spec_DrawPlaces.F⟩
def spec_DrawPlaces.ctx (k : Nat) : Ctx := ⟨tds, [spec_l01New.ent, spec_l01Byte.ent, spec_l01Below.ent], k, 21⟩
theorem spec_DrawPlaces.runs : RunsT spec_DrawPlaces.sig spec_DrawPlaces.ctx Try.f11 spec_DrawPlaces.ann spec_DrawPlaces.F := fun k x => by kernel_rfl
theorem spec_DrawPlaces.obls : OblT tds spec_DrawPlaces.sig spec_DrawPlaces.ctx 1 Try.f11 spec_DrawPlaces.ann := fun k => ⟨tr, ⟨tr, ⟨tr, ⟨tr, ⟨⟨tr, ⟨⟨by kernel_rfl, fun x => by kernel_rfl⟩, fun n => ⟨fun x => by kernel_rfl, ⟨⟨tr, ⟨tr, tr⟩⟩, ⟨tr, tr⟩⟩⟩⟩⟩, ⟨tr, tr⟩⟩⟩⟩⟩⟩
theorem spec_DrawPlaces.ok (k : Nat) : EntOk Try.prog k spec_DrawPlaces.ent := fn_ok (C := spec_DrawPlaces.ctx k) Try.func11 (by kernel_rfl) (by kernel_rfl) mixed tdsOk (.cons (spec_l01New.ok k) (.cons (spec_l01Byte.ok k) (.cons (spec_l01Below.ok k) EntsOk.nil))) (by kernel_rfl) (leB (by kernel_rfl)) (by kernel_rfl) (spec_DrawPlaces.runs k) (spec_DrawPlaces.obls k)
/-! loop.example/g00200/impl.within -/
def impl_within.f (k : Nat) (a0 : Int) (a1 : Int) (a2 : Int) : Option (Bool) :=
  if a1 ≤ a0 then (some (decide (a0 ≤ a2))) else (some false)
def impl_within.sig : Sig := ⟨[.val false TyI [], .val false TyI [], .val false TyI []], [.val false .bool []]⟩
def impl_within.F : FT impl_within.sig := fun k x => impl_within.f k x.1 x.2.1 x.2.2.1
def impl_within.ann : AT impl_within.sig := fun k => .nil
def impl_within.ent : Ent := ⟨23, impl_within.sig, impl_within.F⟩
def impl_within.ctx (k : Nat) : Ctx := ⟨tds, [], k, 15⟩
theorem impl_within.runs : RunsT impl_within.sig impl_within.ctx Try.f23 impl_within.ann impl_within.F := fun k x => by kernel_rfl
theorem impl_within.obls : OblT tds impl_within.sig impl_within.ctx 0 Try.f23 impl_within.ann := fun k => ⟨tr, ⟨tr, tr⟩⟩
theorem impl_within.ok (k : Nat) : EntOk Try.prog k impl_within.ent := fn_ok (C := impl_within.ctx k) Try.func23 (by kernel_rfl) (by kernel_rfl) mixed tdsOk EntsOk.nil (by kernel_rfl) (leB (by kernel_rfl)) (by kernel_rfl) (impl_within.runs k) (impl_within.obls k)
/-! loop.example/g00200/impl.SenseOk -/
def impl_SenseOk.f (k : Nat) (a0 : Int) : Option (Bool) :=
  (impl_within.f k a0 0 15).bind fun t1 => (some t1)
def impl_SenseOk.sig : Sig := ⟨[.val false TyI []], [.val false .bool []]⟩
def impl_SenseOk.F : FT impl_SenseOk.sig := fun k x => impl_SenseOk.f k x.1
def impl_SenseOk.ann : AT impl_SenseOk.sig := fun k => .nil
def impl_SenseOk.ent : Ent := ⟨14, impl_SenseOk.sig, impl_SenseOk.F⟩
def impl_SenseOk.ctx (k : Nat) : Ctx := ⟨tds, [impl_within.ent], k, 5⟩
theorem impl_SenseOk.runs : RunsT impl_SenseOk.sig impl_SenseOk.ctx Try.f14 impl_SenseOk.ann impl_SenseOk.F := fun k x => by kernel_rfl
theorem impl_SenseOk.obls : OblT tds impl_SenseOk.sig impl_SenseOk.ctx 0 Try.f14 impl_SenseOk.ann := fun k => ⟨tr, ⟨tr, tr⟩⟩
theorem impl_SenseOk.ok (k : Nat) : EntOk Try.prog k impl_SenseOk.ent := fn_ok (C := impl_SenseOk.ctx k) Try.func14 (by kernel_rfl) (by kernel_rfl) mixed tdsOk (.cons (impl_within.ok k) EntsOk.nil) (by kernel_rfl) (leB (by kernel_rfl)) (by kernel_rfl) (impl_SenseOk.runs k) (impl_SenseOk.obls k)
/-! strings.Join -/
def strings_Join.f (k : Nat) (a0 : DeB) (a1 : ByteArray) : Option (ByteArray) := joinF a0 a1
def strings_Join.ent : Ent := ⟨17, joinSig 9, fun _ x => joinF x.1 x.2.1⟩
theorem strings_Join.ok (k : Nat) : EntOk Try.prog k strings_Join.ent := join_ok (enters_of Try.func17 (by kernel_rfl) rfl) Try.strings_Join_none Try.strings_Join
/-! loop.example/g00200/impl.SenseNames -/
def impl_SenseNames.l1 (k : Nat)  : Nat → Int × Int × Int × DeB × DeB × Unit → Option (ByteArray)
  | 0, _ => none
  | n + 1, (x1, x2, x3, x4, x5, _) => if x3 < x2 then (if 0 ≤ x3 then (if x3 < (x5.length : Int) then (if 0 ≤ x3 then (if (bits .and .i64 (x1 / ((2 ^ (min x3.toNat 64) : Nat) : Int)) 1) = 1 then (((some ([el .str x5 x3.toNat] : DeB))).bind fun y4 => (if (x4.length + y4.length) * 16 ≤ 140737488355328 then (((some (x4 ++ y4))).bind fun y5 => (impl_SenseNames.l1 k n (x1, x2, w64 (x3 + 1), y5, x5, ()))) else none)) else (impl_SenseNames.l1 k n (x1, x2, w64 (x3 + 1), x4, x5, ()))) else none) else none) else none) else ((strings_Join.f k x4 (⟨#[44]⟩ : ByteArray)).bind fun t6 => (some t6))
def impl_SenseNames.f (k : Nat) (a0 : Int) : Option (ByteArray) :=
  (impl_SenseOk.f k a0).bind fun t1 => (if ¬ t1 = true then (some (⟨#[]⟩ : ByteArray)) else (if a0 = 0 then (some (⟨#[110, 111, 110, 101]⟩ : ByteArray)) else (((some ([] : DeB))).bind fun y2 => (((some ([(⟨#[98, 108, 111, 99, 107]⟩ : ByteArray), (⟨#[97, 105, 114]⟩ : ByteArray), (⟨#[100, 111, 111, 114]⟩ : ByteArray), (⟨#[112, 111, 119, 101, 114]⟩ : ByteArray)] : DeB))).bind fun y3 => (impl_SenseNames.l1 k k (a0, (y3.length : Int), 0, y2, y3, ()))))))
def impl_SenseNames.Sl1 : Shape := ⟨[(0, false, [.int .i64]), (3, false, [.own 0]), (12, false, [.own 1]), (13, false, [.int .i64]), (14, false, [.int .i64])], [(0, .row 9 .str), (1, .row 9 .str)], 2⟩
def impl_SenseNames.sig : Sig := ⟨[.val false TyI []], [.val false .str []]⟩
def impl_SenseNames.F : FT impl_SenseNames.sig := fun k x => impl_SenseNames.f k x.1
def impl_SenseNames.ann : AT impl_SenseNames.sig := fun k => (.seq .nil (.seq .nil (.seq .nil (.seq .nil (.seq (.seq .nil (.block (.loop impl_SenseNames.Sl1 (impl_SenseNames.l1 k) fun n1 => .nil))) .nil)))))
def impl_SenseNames.ent : Ent := ⟨7, impl_SenseNames.sig, impl_SenseNames.F⟩
def impl_SenseNames.ctx (k : Nat) : Ctx := ⟨tds, [impl_SenseOk.ent, strings_Join.ent], k, 31⟩
theorem impl_SenseNames.runs : RunsT impl_SenseNames.sig impl_SenseNames.ctx Try.f7 impl_SenseNames.ann impl_SenseNames.F := fun k x => by kernel_rfl
theorem impl_SenseNames.obls : OblT tds impl_SenseNames.sig impl_SenseNames.ctx 0 Try.f7 impl_SenseNames.ann := fun k => ⟨tr, ⟨⟨tr, ⟨⟨tr, tr⟩, tr⟩⟩, ⟨⟨tr, ⟨⟨tr, tr⟩, tr⟩⟩, ⟨tr, ⟨⟨tr, ⟨⟨by kernel_rfl, fun x => by kernel_rfl⟩, fun n => ⟨fun x => by kernel_rfl, ⟨tr, ⟨⟨tr, tr⟩, ⟨⟨tr, ⟨tr, ⟨tr, tr⟩⟩⟩, tr⟩⟩⟩⟩⟩⟩, ⟨tr, tr⟩⟩⟩⟩⟩⟩
theorem impl_SenseNames.ok (k : Nat) : EntOk Try.prog k impl_SenseNames.ent := fn_ok (C := impl_SenseNames.ctx k) Try.func7 (by kernel_rfl) (by kernel_rfl) mixed tdsOk (.cons (impl_SenseOk.ok k) (.cons (strings_Join.ok k) EntsOk.nil)) (by kernel_rfl) (leB (by kernel_rfl)) (by kernel_rfl) (impl_SenseNames.runs k) (impl_SenseNames.obls k)
/-! loop.example/g00200/impl.ReadSense -/
def impl_ReadSense.l1 (k : Nat)  : Nat → ByteArray × Int × Unit → Option (Int × Bool)
  | 0, _ => none
  | n + 1, (x1, x2, _) => if x2 < 16 then ((impl_SenseNames.f k x2).bind fun t1 => (if t1 = x1 then (some (x2, true)) else (impl_ReadSense.l1 k n (x1, w64 (x2 + 1), ())))) else (some (0, false))
def impl_ReadSense.f (k : Nat) (a0 : ByteArray) : Option (Int × Bool) :=
  impl_ReadSense.l1 k k (a0, 0, ())
def impl_ReadSense.Sl1 : Shape := ⟨[(0, false, [.str]), (5, false, [.int .i64])], [], 0⟩
def impl_ReadSense.sig : Sig := ⟨[.val false .str []], [.val false TyI [], .val false .bool []]⟩
def impl_ReadSense.F : FT impl_ReadSense.sig := fun k x => impl_ReadSense.f k x.1
def impl_ReadSense.ann : AT impl_ReadSense.sig := fun k => (.seq .nil (.seq (.seq .nil (.block (.loop impl_ReadSense.Sl1 (impl_ReadSense.l1 k) fun n1 => .nil))) .nil))
def impl_ReadSense.ent : Ent := ⟨9, impl_ReadSense.sig, impl_ReadSense.F⟩
def impl_ReadSense.ctx (k : Nat) : Ctx := ⟨tds, [impl_SenseNames.ent], k, 14⟩
theorem impl_ReadSense.runs : RunsT impl_ReadSense.sig impl_ReadSense.ctx Try.f9 impl_ReadSense.ann impl_ReadSense.F := fun k x => by kernel_rfl
theorem impl_ReadSense.obls : OblT tds impl_ReadSense.sig impl_ReadSense.ctx 0 Try.f9 impl_ReadSense.ann := fun k => ⟨tr, ⟨⟨tr, ⟨⟨by kernel_rfl, fun x => by kernel_rfl⟩, fun n => ⟨fun x => by kernel_rfl, ⟨tr, ⟨⟨tr, tr⟩, ⟨⟨tr, ⟨tr, ⟨⟨tr, tr⟩, tr⟩⟩⟩, tr⟩⟩⟩⟩⟩⟩, ⟨tr, tr⟩⟩⟩
theorem impl_ReadSense.ok (k : Nat) : EntOk Try.prog k impl_ReadSense.ent := fn_ok (C := impl_ReadSense.ctx k) Try.func9 (by kernel_rfl) (by kernel_rfl) mixed tdsOk (.cons (impl_SenseNames.ok k) EntsOk.nil) (by kernel_rfl) (leB (by kernel_rfl)) (by kernel_rfl) (impl_ReadSense.runs k) (impl_ReadSense.obls k)
/-! loop.example/g00200/impl.Has -/
def impl_Has.f (k : Nat) (a0 : Int) (a1 : Int) : Option (Bool) :=
  if a1 = 1 then ((impl_SenseOk.f k a0).bind fun t1 => (if t1 = true then (some (decide (¬ (bits .and .i64 a0 a1) = 0))) else (some false))) else (if a1 = 2 then ((impl_SenseOk.f k a0).bind fun t2 => (if t2 = true then (some (decide (¬ (bits .and .i64 a0 a1) = 0))) else (some false))) else (if a1 = 4 then ((impl_SenseOk.f k a0).bind fun t3 => (if t3 = true then (some (decide (¬ (bits .and .i64 a0 a1) = 0))) else (some false))) else ((impl_SenseOk.f k a0).bind fun t4 => (if t4 = true then (if a1 = 8 then (some (decide (¬ (bits .and .i64 a0 a1) = 0))) else (some false)) else (some false)))))
def impl_Has.sig : Sig := ⟨[.val false TyI [], .val false TyI []], [.val false .bool []]⟩
def impl_Has.F : FT impl_Has.sig := fun k x => impl_Has.f k x.1 x.2.1
def impl_Has.ann : AT impl_Has.sig := fun k => .nil
def impl_Has.ent : Ent := ⟨12, impl_Has.sig, impl_Has.F⟩
def impl_Has.ctx (k : Nat) : Ctx := ⟨tds, [impl_SenseOk.ent], k, 31⟩
theorem impl_Has.runs : RunsT impl_Has.sig impl_Has.ctx Try.f12 impl_Has.ann impl_Has.F := fun k x => by kernel_rfl
theorem impl_Has.obls : OblT tds impl_Has.sig impl_Has.ctx 0 Try.f12 impl_Has.ann := fun k => ⟨tr, ⟨tr, ⟨tr, tr⟩⟩⟩
theorem impl_Has.ok (k : Nat) : EntOk Try.prog k impl_Has.ent := fn_ok (C := impl_Has.ctx k) Try.func12 (by kernel_rfl) (by kernel_rfl) mixed tdsOk (.cons (impl_SenseOk.ok k) EntsOk.nil) (by kernel_rfl) (leB (by kernel_rfl)) (by kernel_rfl) (impl_Has.runs k) (impl_Has.obls k)
/-! loop.example/g00200/spec.l01Once -/
def spec_l01Once.f (k : Nat) (a0 : DeI × Int × Int) (a1 : Int) : Option (Bool × DeI × Int × Int) :=
  (spec_l01Below.f k a0 a1).bind fun t1 => (some (decide (t1.1 = 0), (a0.1, t1.2.2)))
def spec_l01Once.sig : Sig := ⟨[.ptr 52 (.pair (.sl 5 (.int .u8)) Ty2) [0], .val false TyI []], [.val false .bool []]⟩
def spec_l01Once.F : FT spec_l01Once.sig := fun k x => spec_l01Once.f k x.1 x.2.1
def spec_l01Once.ann : AT spec_l01Once.sig := fun k => .nil
def spec_l01Once.ent : Ent := ⟨21, spec_l01Once.sig, spec_l01Once.F⟩
def spec_l01Once.ctx (k : Nat) : Ctx := ⟨tds, [spec_l01Below.ent], k, 9⟩
theorem spec_l01Once.runs : RunsT spec_l01Once.sig spec_l01Once.ctx Try.f21 spec_l01Once.ann spec_l01Once.F := fun k x => by kernel_rfl
theorem spec_l01Once.obls : OblT tds spec_l01Once.sig spec_l01Once.ctx 2 Try.f21 spec_l01Once.ann := fun k => ⟨tr, ⟨tr, tr⟩⟩
theorem spec_l01Once.ok (k : Nat) : EntOk Try.prog k spec_l01Once.ent := fn_ok (C := spec_l01Once.ctx k) Try.func21 (by kernel_rfl) (by kernel_rfl) mixed tdsOk (.cons (spec_l01Below.ok k) EntsOk.nil) (by kernel_rfl) (leB (by kernel_rfl)) (by kernel_rfl) (spec_l01Once.runs k) (spec_l01Once.obls k)
/-! loop.example/g00200/spec.l01Pick -/
def spec_l01Pick.f (k : Nat) (a0 : DeI × Int × Int) (a1 : DeB) : Option (ByteArray × DeI × Int × Int) :=
  (spec_l01Below.f k a0 (a1.length : Int)).bind fun t1 => (if 0 ≤ t1.1 then (if t1.1 < (a1.length : Int) then (some (el .str a1 t1.1.toNat, (a0.1, t1.2.2))) else none) else none)
def spec_l01Pick.sig : Sig := ⟨[.ptr 52 (.pair (.sl 5 (.int .u8)) Ty2) [0], .val false (.sl 9 .str) [0]], [.val false .str []]⟩
def spec_l01Pick.F : FT spec_l01Pick.sig := fun k x => spec_l01Pick.f k x.1 x.2.1
def spec_l01Pick.ann : AT spec_l01Pick.sig := fun k => .nil
def spec_l01Pick.ent : Ent := ⟨22, spec_l01Pick.sig, spec_l01Pick.F⟩
def spec_l01Pick.ctx (k : Nat) : Ctx := ⟨tds, [spec_l01Below.ent], k, 12⟩
theorem spec_l01Pick.runs : RunsT spec_l01Pick.sig spec_l01Pick.ctx Try.f22 spec_l01Pick.ann spec_l01Pick.F := fun k x => by kernel_rfl
theorem spec_l01Pick.obls : OblT tds spec_l01Pick.sig spec_l01Pick.ctx 3 Try.f22 spec_l01Pick.ann := fun k => ⟨tr, ⟨tr, tr⟩⟩
theorem spec_l01Pick.ok (k : Nat) : EntOk Try.prog k spec_l01Pick.ent := fn_ok (C := spec_l01Pick.ctx k) Try.func22 (by kernel_rfl) (by kernel_rfl) mixed tdsOk (.cons (spec_l01Below.ok k) EntsOk.nil) (by kernel_rfl) (leB (by kernel_rfl)) (by kernel_rfl) (spec_l01Pick.runs k) (spec_l01Pick.obls k)
/-! loop.example/g00200/spec.l01In -/
def spec_l01In.f (k : Nat) (a0 : Int) (a1 : Int) (a2 : Int) : Option (Bool) :=
  if a1 ≤ a0 then (some (decide (a0 ≤ a2))) else (some false)
def spec_l01In.sig : Sig := ⟨[.val false TyI [], .val false TyI [], .val false TyI []], [.val false .bool []]⟩
def spec_l01In.F : FT spec_l01In.sig := fun k x => spec_l01In.f k x.1 x.2.1 x.2.2.1
def spec_l01In.ann : AT spec_l01In.sig := fun k => .nil
def spec_l01In.ent : Ent := ⟨24, spec_l01In.sig, spec_l01In.F⟩
def spec_l01In.ctx (k : Nat) : Ctx := ⟨tds, [], k, 15⟩
theorem spec_l01In.runs : RunsT spec_l01In.sig spec_l01In.ctx Try.f24 spec_l01In.ann spec_l01In.F := fun k x => by kernel_rfl
theorem spec_l01In.obls : OblT tds spec_l01In.sig spec_l01In.ctx 0 Try.f24 spec_l01In.ann := fun k => ⟨tr, ⟨tr, tr⟩⟩
theorem spec_l01In.ok (k : Nat) : EntOk Try.prog k spec_l01In.ent := fn_ok (C := spec_l01In.ctx k) Try.func24 (by kernel_rfl) (by kernel_rfl) mixed tdsOk EntsOk.nil (by kernel_rfl) (leB (by kernel_rfl)) (by kernel_rfl) (spec_l01In.runs k) (spec_l01In.obls k)
/-! loop.example/g00200/spec.SenseOk -/
def spec_SenseOk.f (k : Nat) (a0 : Int) : Option (Bool) :=
  (spec_l01In.f k a0 0 15).bind fun t1 => (some t1)
def spec_SenseOk.sig : Sig := ⟨[.val false TyI []], [.val false .bool []]⟩
def spec_SenseOk.F : FT spec_SenseOk.sig := fun k x => spec_SenseOk.f k x.1
def spec_SenseOk.ann : AT spec_SenseOk.sig := fun k => .nil
def spec_SenseOk.ent : Ent := ⟨15, spec_SenseOk.sig, spec_SenseOk.F⟩
def spec_SenseOk.ctx (k : Nat) : Ctx := ⟨tds, [spec_l01In.ent], k, 5⟩
theorem spec_SenseOk.runs : RunsT spec_SenseOk.sig spec_SenseOk.ctx Try.f15 spec_SenseOk.ann spec_SenseOk.F := fun k x => by kernel_rfl
theorem spec_SenseOk.obls : OblT tds spec_SenseOk.sig spec_SenseOk.ctx 0 Try.f15 spec_SenseOk.ann := fun k => ⟨tr, ⟨tr, tr⟩⟩
theorem spec_SenseOk.ok (k : Nat) : EntOk Try.prog k spec_SenseOk.ent := fn_ok (C := spec_SenseOk.ctx k) Try.func15 (by kernel_rfl) (by kernel_rfl) mixed tdsOk (.cons (spec_l01In.ok k) EntsOk.nil) (by kernel_rfl) (leB (by kernel_rfl)) (by kernel_rfl) (spec_SenseOk.runs k) (spec_SenseOk.obls k)
/-! loop.example/g00200/spec.Has -/
def spec_Has.f (k : Nat) (a0 : Int) (a1 : Int) : Option (Bool) :=
  (spec_SenseOk.f k a0).bind fun t1 => (if ¬ t1 = true then (some false) else (if ¬ a1 = 1 then (if ¬ a1 = 2 then (if ¬ a1 = 4 then (if ¬ a1 = 8 then (some false) else (if ¬ a1 = 0 then (some (decide ((Int.tmod (w64 (Int.tdiv a0 a1)) 2) = 1))) else none)) else (if ¬ a1 = 0 then (some (decide ((Int.tmod (w64 (Int.tdiv a0 a1)) 2) = 1))) else none)) else (if ¬ a1 = 0 then (some (decide ((Int.tmod (w64 (Int.tdiv a0 a1)) 2) = 1))) else none)) else (if ¬ a1 = 0 then (some (decide ((Int.tmod (w64 (Int.tdiv a0 a1)) 2) = 1))) else none)))
def spec_Has.sig : Sig := ⟨[.val false TyI [], .val false TyI []], [.val false .bool []]⟩
def spec_Has.F : FT spec_Has.sig := fun k x => spec_Has.f k x.1 x.2.1
def spec_Has.ann : AT spec_Has.sig := fun k => .nil
def spec_Has.ent : Ent := ⟨16, spec_Has.sig, spec_Has.F⟩
def spec_Has.ctx (k : Nat) : Ctx := ⟨tds, [spec_SenseOk.ent], k, 29⟩
theorem spec_Has.runs : RunsT spec_Has.sig spec_Has.ctx Try.f16 spec_Has.ann spec_Has.F := fun k x => by kernel_rfl
theorem spec_Has.obls : OblT tds spec_Has.sig spec_Has.ctx 0 Try.f16 spec_Has.ann := fun k => ⟨tr, ⟨⟨tr, ⟨⟨tr, tr⟩, tr⟩⟩, ⟨tr, tr⟩⟩⟩
theorem spec_Has.ok (k : Nat) : EntOk Try.prog k spec_Has.ent := fn_ok (C := spec_Has.ctx k) Try.func16 (by kernel_rfl) (by kernel_rfl) mixed tdsOk (.cons (spec_SenseOk.ok k) EntsOk.nil) (by kernel_rfl) (leB (by kernel_rfl)) (by kernel_rfl) (spec_Has.runs k) (spec_Has.obls k)
/-! loop.example/g00200/spec.SenseNames -/
def spec_SenseNames.j2 (k : Nat) (c0 : Int × ByteArray × Int × DeB × DeI × Unit → Option (ByteArray)) : Int × ByteArray × Int × DeB × DeI × Unit → Option (ByteArray)
  | (z1, z2, z3, z4, z5, _) => if 0 ≤ z3 then (if z3 < (z4.length : Int) then (if z2.size + (el .str z4 z3.toNat).size ≤ 9223372036854775807 then (c0 (z1, z2 ++ (el .str z4 z3.toNat), w64 (z3 + 1), z4, z5, ())) else none) else none) else none
def spec_SenseNames.l1 (k : Nat)  : Nat → Int × ByteArray × Int × DeB × DeI × Unit → Option (ByteArray)
  | 0, _ => none
  | n + 1, (x1, x2, x3, x4, x5, _) => if x3 < 4 then (if 0 ≤ x3 then (if x3 < (x5.length : Int) then ((spec_Has.f k x1 (el TyI x5 x3.toNat)).bind fun t4 => (if t4 = true then (if ¬ x2 = (⟨#[]⟩ : ByteArray) then (if x2.size + (⟨#[44]⟩ : ByteArray).size ≤ 9223372036854775807 then (spec_SenseNames.j2 k (spec_SenseNames.l1 k n) (x1, x2 ++ (⟨#[44]⟩ : ByteArray), x3, x4, x5, ())) else none) else (spec_SenseNames.j2 k (spec_SenseNames.l1 k n) (x1, x2, x3, x4, x5, ()))) else (spec_SenseNames.l1 k n (x1, x2, w64 (x3 + 1), x4, x5, ())))) else none) else none) else (if x2 = (⟨#[]⟩ : ByteArray) then (some (⟨#[110, 111, 110, 101]⟩ : ByteArray)) else (some x2))
def spec_SenseNames.f (k : Nat) (a0 : Int) : Option (ByteArray) :=
  ((some ([(⟨#[98, 108, 111, 99, 107]⟩ : ByteArray), (⟨#[97, 105, 114]⟩ : ByteArray), (⟨#[100, 111, 111, 114]⟩ : ByteArray), (⟨#[112, 111, 119, 101, 114]⟩ : ByteArray)] : DeB))).bind fun y1 => (((some ([1, 2, 4, 8] : DeI))).bind fun y2 => ((spec_SenseOk.f k a0).bind fun t3 => (if ¬ t3 = true then (some (⟨#[]⟩ : ByteArray)) else (spec_SenseNames.l1 k k (a0, (⟨#[]⟩ : ByteArray), 0, y1, y2, ())))))
def spec_SenseNames.Sl1 : Shape := ⟨[(0, false, [.int .i64]), (3, false, [.own 0]), (4, false, [.own 1]), (5, false, [.str]), (6, false, [.int .i64])], [(0, .row 9 .str), (1, .row 3 TyI)], 2⟩
def spec_SenseNames.Sj2 : Shape := ⟨[(0, false, [.int .i64]), (3, false, [.own 0]), (4, false, [.own 1]), (5, false, [.str]), (6, false, [.int .i64])], [(0, .row 9 .str), (1, .row 3 TyI)], 2⟩
def spec_SenseNames.sig : Sig := ⟨[.val false TyI []], [.val false .str []]⟩
def spec_SenseNames.F : FT spec_SenseNames.sig := fun k x => spec_SenseNames.f k x.1
def spec_SenseNames.ann : AT spec_SenseNames.sig := fun k => (.seq .nil (.seq .nil (.seq .nil (.seq .nil (.seq .nil (.seq (.seq .nil (.block (.loop spec_SenseNames.Sl1 (spec_SenseNames.l1 k) fun n1 => (.seq .nil (.seq (.block (.seq .nil (.cond (.join spec_SenseNames.Sj2 (spec_SenseNames.j2 k (spec_SenseNames.l1 k n1)) .nil .nil) .nil))) .nil))))) .nil))))))
def spec_SenseNames.ent : Ent := ⟨6, spec_SenseNames.sig, spec_SenseNames.F⟩
def spec_SenseNames.ctx (k : Nat) : Ctx := ⟨tds, [spec_SenseOk.ent, spec_Has.ent], k, 35⟩
theorem spec_SenseNames.runs : RunsT spec_SenseNames.sig spec_SenseNames.ctx Try.f6 spec_SenseNames.ann spec_SenseNames.F := fun k x => by kernel_rfl
theorem spec_SenseNames.obls : OblT tds spec_SenseNames.sig spec_SenseNames.ctx 0 Try.f6 spec_SenseNames.ann := fun k => ⟨tr, ⟨tr, ⟨tr, ⟨⟨tr, ⟨⟨tr, tr⟩, tr⟩⟩, ⟨tr, ⟨⟨tr, ⟨⟨by kernel_rfl, fun x => by kernel_rfl⟩, fun n => ⟨fun x => by kernel_rfl, ⟨⟨tr, ⟨tr, tr⟩⟩, ⟨⟨tr, ⟨⟨⟨by kernel_rfl, fun x => by kernel_rfl⟩, ⟨tr, ⟨tr, tr⟩⟩, tr⟩, tr⟩⟩, tr⟩⟩⟩⟩⟩, ⟨⟨tr, ⟨⟨tr, tr⟩, tr⟩⟩, ⟨tr, tr⟩⟩⟩⟩⟩⟩⟩⟩
theorem spec_SenseNames.ok (k : Nat) : EntOk Try.prog k spec_SenseNames.ent := fn_ok (C := spec_SenseNames.ctx k) Try.func6 (by kernel_rfl) (by kernel_rfl) mixed tdsOk (.cons (spec_SenseOk.ok k) (.cons (spec_Has.ok k) EntsOk.nil)) (by kernel_rfl) (leB (by kernel_rfl)) (by kernel_rfl) (spec_SenseNames.runs k) (spec_SenseNames.obls k)
/-! loop.example/g00200/spec.DrawReadSense -/
def spec_DrawReadSense.f (k : Nat) (a0 : DeI) : Option (ByteArray) :=
  (spec_l01New.f k a0).bind fun t1 => ((spec_l01Once.f k (a0, t1.2) 3).bind fun t2 => (if t2.1 = true then (((some ([(⟨#[]⟩ : ByteArray), (⟨#[110, 111, 110, 101]⟩ : ByteArray), (⟨#[97, 105, 114, 44, 98, 108, 111, 99, 107]⟩ : ByteArray), (⟨#[98, 108, 111, 99, 107, 44, 97, 105, 114]⟩ : ByteArray), (⟨#[100, 111, 111, 114, 44]⟩ : ByteArray), (⟨#[112, 111, 119, 101, 114]⟩ : ByteArray), (⟨#[110, 111, 110, 101, 44, 97, 105, 114]⟩ : ByteArray)] : DeB))).bind fun y3 => ((spec_l01Pick.f k (a0, t2.2.2) y3).bind fun t4 => (some t4.1))) else ((spec_l01Below.f k (a0, t2.2.2) 16).bind fun t5 => ((spec_SenseNames.f k t5.1).bind fun t6 => (some t6)))))
def spec_DrawReadSense.sig : Sig := ⟨[.val false (.sl 5 (.int .u8)) [0]], [.val false .str []]⟩
def spec_DrawReadSense.F : FT spec_DrawReadSense.sig := fun k x => spec_DrawReadSense.f k x.1
def spec_DrawReadSense.ann : AT spec_DrawReadSense.sig := fun k => .nil
def spec_DrawReadSense.ent : Ent := ⟨13, spec_DrawReadSense.sig, spec_DrawReadSense.F⟩
def spec_DrawReadSense.ctx (k : Nat) : Ctx := ⟨tds, [spec_SenseNames.ent, spec_l01New.ent, spec_l01Below.ent, spec_l01Once.ent, spec_l01Pick.ent], k, 14⟩
theorem spec_DrawReadSense.runs : RunsT spec_DrawReadSense.sig spec_DrawReadSense.ctx Try.f13 spec_DrawReadSense.ann spec_DrawReadSense.F := fun k x => by kernel_rfl
theorem spec_DrawReadSense.obls : OblT tds spec_DrawReadSense.sig spec_DrawReadSense.ctx 1 Try.f13 spec_DrawReadSense.ann := fun k => ⟨tr, ⟨tr, ⟨⟨tr, ⟨⟨tr, tr⟩, tr⟩⟩, ⟨tr, tr⟩⟩⟩⟩
theorem spec_DrawReadSense.ok (k : Nat) : EntOk Try.prog k spec_DrawReadSense.ent := fn_ok (C := spec_DrawReadSense.ctx k) Try.func13 (by kernel_rfl) (by kernel_rfl) mixed tdsOk (.cons (spec_SenseNames.ok k) (.cons (spec_l01New.ok k) (.cons (spec_l01Below.ok k) (.cons (spec_l01Once.ok k) (.cons (spec_l01Pick.ok k) EntsOk.nil))))) (by kernel_rfl) (leB (by kernel_rfl)) (by kernel_rfl) (spec_DrawReadSense.runs k) (spec_DrawReadSense.obls k)
/-! loop.example/g00200/spec.ReadSense -/
def spec_ReadSense.l1 (k : Nat)  : Nat → ByteArray × Int × Unit → Option (Int × Bool)
  | 0, _ => none
  | n + 1, (x1, x2, _) => if x2 < 16 then ((spec_SenseNames.f k x2).bind fun t1 => (if t1 = x1 then (some (x2, true)) else (spec_ReadSense.l1 k n (x1, w64 (x2 + 1), ())))) else (some (0, false))
def spec_ReadSense.f (k : Nat) (a0 : ByteArray) : Option (Int × Bool) :=
  spec_ReadSense.l1 k k (a0, 0, ())
def spec_ReadSense.Sl1 : Shape := ⟨[(0, false, [.str]), (4, false, [.int .i64])], [], 0⟩
def spec_ReadSense.sig : Sig := ⟨[.val false .str []], [.val false TyI [], .val false .bool []]⟩
def spec_ReadSense.F : FT spec_ReadSense.sig := fun k x => spec_ReadSense.f k x.1
def spec_ReadSense.ann : AT spec_ReadSense.sig := fun k => (.seq .nil (.seq (.seq .nil (.block (.loop spec_ReadSense.Sl1 (spec_ReadSense.l1 k) fun n1 => .nil))) .nil))
def spec_ReadSense.ent : Ent := ⟨8, spec_ReadSense.sig, spec_ReadSense.F⟩
def spec_ReadSense.ctx (k : Nat) : Ctx := ⟨tds, [spec_SenseNames.ent], k, 14⟩
theorem spec_ReadSense.runs : RunsT spec_ReadSense.sig spec_ReadSense.ctx Try.f8 spec_ReadSense.ann spec_ReadSense.F := fun k x => by kernel_rfl
theorem spec_ReadSense.obls : OblT tds spec_ReadSense.sig spec_ReadSense.ctx 0 Try.f8 spec_ReadSense.ann := fun k => ⟨tr, ⟨⟨tr, ⟨⟨by kernel_rfl, fun x => by kernel_rfl⟩, fun n => ⟨fun x => by kernel_rfl, ⟨⟨tr, ⟨tr, tr⟩⟩, ⟨⟨tr, ⟨⟨tr, tr⟩, tr⟩⟩, tr⟩⟩⟩⟩⟩, ⟨tr, tr⟩⟩⟩
theorem spec_ReadSense.ok (k : Nat) : EntOk Try.prog k spec_ReadSense.ent := fn_ok (C := spec_ReadSense.ctx k) Try.func8 (by kernel_rfl) (by kernel_rfl) mixed tdsOk (.cons (spec_SenseNames.ok k) EntsOk.nil) (by kernel_rfl) (leB (by kernel_rfl)) (by kernel_rfl) (spec_ReadSense.runs k) (spec_ReadSense.obls k)
end Go.Proofs.Ytkabaommohhbgaa.QA
