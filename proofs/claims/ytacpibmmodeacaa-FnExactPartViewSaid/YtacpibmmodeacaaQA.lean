/- The plain functions of Go functions, and that each Go function does what its plain function tells. Printed by a program of this session (gen.py). -/
import Derived.Test.YtacpibmmodeacaaProg
import Derived.Test.YtacpibmmodeacaaAbDa
import Derived.KernelRfl
namespace Go.Proofs.Ytacpibmmodeacaa.QA
open Go Go.Proofs Go.Proofs.YtacpibmmodeacaaA
set_option linter.unusedVariables false
set_option maxRecDepth 100000
def tds : List (Nat × TD) := [(2, ⟨.int .i64, 1, 8, (.int .i64), false, false⟩),
  (3, ⟨.int .i64, 1, 8, (.int .i64), false, false⟩),
  (4, ⟨.bool, 1, 1, .bool, false, false⟩),
  (5, ⟨.int .u8, 1, 1, (.int .u8), false, false⟩),
  (6, ⟨.int .u8, 1, 1, (.int .u8), false, false⟩),
  (7, ⟨.struct [(0, 2), (1, 3), (2, 4), (3, 6)], 4, 24, (.pair (.int .i64) (.pair (.int .i64) (.pair .bool (.int .u8)))), true, false⟩),
  (8, ⟨.struct [(0, 2), (1, 3), (2, 4), (3, 6)], 4, 24, (.pair (.int .i64) (.pair (.int .i64) (.pair .bool (.int .u8)))), true, false⟩),
  (9, ⟨.str, 1, 16, .str, false, false⟩),
  (10, ⟨.str, 1, 16, .str, false, false⟩),
  (11, ⟨.str, 1, 16, .str, false, false⟩),
  (12, ⟨.int .u64, 1, 8, (.int .u64), false, false⟩),
  (13, ⟨.struct [(0, 9), (1, 12)], 2, 24, (.pair .str (.int .u64)), true, false⟩),
  (14, ⟨.struct [(0, 9), (1, 12)], 2, 24, (.pair .str (.int .u64)), true, false⟩),
  (21, ⟨.int .i32, 1, 4, (.int .i32), false, false⟩),
  (22, ⟨.slice 5, 1, 24, (.sl 5 (.int .u8)), false, false⟩),
  (24, ⟨.slice 27, 1, 24, (.sl 27 (.pair (.int .i64) (.int .i64))), false, false⟩),
  (26, ⟨.struct [(0, 3), (1, 3)], 2, 16, (.pair (.int .i64) (.int .i64)), true, false⟩),
  (27, ⟨.struct [(0, 3), (1, 3)], 2, 16, (.pair (.int .i64) (.int .i64)), true, false⟩),
  (30, ⟨.struct [(0, 3), (1, 3)], 2, 16, (.pair (.int .i64) (.int .i64)), true, false⟩),
  (31, ⟨.struct [(0, 3), (1, 3)], 2, 16, (.pair (.int .i64) (.int .i64)), true, false⟩),
  (32, ⟨.slice 31, 1, 24, (.sl 31 (.pair (.int .i64) (.int .i64))), false, false⟩),
  (33, ⟨.struct [(0, 3), (1, 3)], 2, 16, (.pair (.int .i64) (.int .i64)), true, false⟩),
  (34, ⟨.struct [(0, 3), (1, 3)], 2, 16, (.pair (.int .i64) (.int .i64)), true, false⟩),
  (35, ⟨.slice 34, 1, 24, (.sl 34 (.pair (.int .i64) (.int .i64))), false, false⟩),
  (37, ⟨.slice 9, 1, 24, (.sl 9 .str), false, false⟩),
  (38, ⟨.struct [(0, 3), (1, 3), (2, 3)], 3, 24, (.pair (.int .i64) (.pair (.int .i64) (.int .i64))), true, false⟩),
  (39, ⟨.struct [(0, 3), (1, 3), (2, 3)], 3, 24, (.pair (.int .i64) (.pair (.int .i64) (.int .i64))), true, false⟩),
  (40, ⟨.slice 39, 1, 24, (.sl 39 (.pair (.int .i64) (.pair (.int .i64) (.int .i64)))), false, false⟩),
  (41, ⟨.slice 63, 1, 24, (.sl 63 (.pair (.int .i64) (.pair (.int .i64) (.pair (.int .i64) (.pair (.int .i64) (.int .i64)))))), false, false⟩),
  (42, ⟨.struct [(0, 32), (1, 35), (2, 41), (3, 40), (4, 37)], 5, 120, (.pair (.sl 31 (.pair (.int .i64) (.int .i64))) (.pair (.sl 34 (.pair (.int .i64) (.int .i64))) (.pair (.sl 63 (.pair (.int .i64) (.pair (.int .i64) (.pair (.int .i64) (.pair (.int .i64) (.int .i64)))))) (.pair (.sl 39 (.pair (.int .i64) (.pair (.int .i64) (.int .i64)))) (.sl 9 .str))))), true, false⟩),
  (43, ⟨.struct [(0, 32), (1, 35), (2, 41), (3, 40), (4, 37)], 5, 120, (.pair (.sl 31 (.pair (.int .i64) (.int .i64))) (.pair (.sl 34 (.pair (.int .i64) (.int .i64))) (.pair (.sl 63 (.pair (.int .i64) (.pair (.int .i64) (.pair (.int .i64) (.pair (.int .i64) (.int .i64)))))) (.pair (.sl 39 (.pair (.int .i64) (.pair (.int .i64) (.int .i64)))) (.sl 9 .str))))), true, false⟩),
  (44, ⟨.slice 3, 1, 24, (.sl 3 (.int .i64)), false, false⟩),
  (45, ⟨.struct [(0, 44)], 1, 24, (.sl 3 (.int .i64)), true, false⟩),
  (46, ⟨.struct [(0, 44)], 1, 24, (.sl 3 (.int .i64)), true, false⟩),
  (47, ⟨.slice 59, 1, 24, (.sl 59 (.pair (.int .i64) (.pair (.pair (.int .i64) (.sl 3 (.int .i64))) (.pair (.int .i64) (.pair (.int .i64) (.int .i64)))))), false, false⟩),
  (48, ⟨.slice 145, 1, 24, (.sl 145 (.sl 241 (.pair (.int .i64) (.int .i64)))), false, false⟩),
  (49, ⟨.slice 70, 1, 24, (.sl 70 (.pair (.int .i64) (.pair (.int .i64) (.pair (.int .i64) (.pair (.int .i64) (.int .i64)))))), false, false⟩),
  (50, ⟨.struct [(0, 43), (5, 46), (6, 47), (7, 48), (8, 44), (9, 3), (10, 4), (11, 49)], 12, 256, (.pair (.pair (.sl 31 (.pair (.int .i64) (.int .i64))) (.pair (.sl 34 (.pair (.int .i64) (.int .i64))) (.pair (.sl 63 (.pair (.int .i64) (.pair (.int .i64) (.pair (.int .i64) (.pair (.int .i64) (.int .i64)))))) (.pair (.sl 39 (.pair (.int .i64) (.pair (.int .i64) (.int .i64)))) (.sl 9 .str))))) (.pair (.sl 3 (.int .i64)) (.pair (.sl 59 (.pair (.int .i64) (.pair (.pair (.int .i64) (.sl 3 (.int .i64))) (.pair (.int .i64) (.pair (.int .i64) (.int .i64)))))) (.pair (.sl 145 (.sl 241 (.pair (.int .i64) (.int .i64)))) (.pair (.sl 3 (.int .i64)) (.pair (.int .i64) (.pair .bool (.sl 70 (.pair (.int .i64) (.pair (.int .i64) (.pair (.int .i64) (.pair (.int .i64) (.int .i64))))))))))))), true, false⟩),
  (51, ⟨.struct [(0, 43), (5, 46), (6, 47), (7, 48), (8, 44), (9, 3), (10, 4), (11, 49)], 12, 256, (.pair (.pair (.sl 31 (.pair (.int .i64) (.int .i64))) (.pair (.sl 34 (.pair (.int .i64) (.int .i64))) (.pair (.sl 63 (.pair (.int .i64) (.pair (.int .i64) (.pair (.int .i64) (.pair (.int .i64) (.int .i64)))))) (.pair (.sl 39 (.pair (.int .i64) (.pair (.int .i64) (.int .i64)))) (.sl 9 .str))))) (.pair (.sl 3 (.int .i64)) (.pair (.sl 59 (.pair (.int .i64) (.pair (.pair (.int .i64) (.sl 3 (.int .i64))) (.pair (.int .i64) (.pair (.int .i64) (.int .i64)))))) (.pair (.sl 145 (.sl 241 (.pair (.int .i64) (.int .i64)))) (.pair (.sl 3 (.int .i64)) (.pair (.int .i64) (.pair .bool (.sl 70 (.pair (.int .i64) (.pair (.int .i64) (.pair (.int .i64) (.pair (.int .i64) (.int .i64))))))))))))), true, false⟩),
  (55, ⟨.slice 44, 1, 24, (.sl 44 (.sl 3 (.int .i64))), false, false⟩),
  (56, ⟨.struct [(0, 3), (1, 44)], 2, 32, (.pair (.int .i64) (.sl 3 (.int .i64))), true, false⟩),
  (57, ⟨.struct [(0, 3), (1, 44)], 2, 32, (.pair (.int .i64) (.sl 3 (.int .i64))), true, false⟩),
  (58, ⟨.struct [(0, 3), (1, 57), (3, 3), (4, 3), (5, 3)], 6, 64, (.pair (.int .i64) (.pair (.pair (.int .i64) (.sl 3 (.int .i64))) (.pair (.int .i64) (.pair (.int .i64) (.int .i64))))), true, false⟩),
  (59, ⟨.struct [(0, 3), (1, 57), (3, 3), (4, 3), (5, 3)], 6, 64, (.pair (.int .i64) (.pair (.pair (.int .i64) (.sl 3 (.int .i64))) (.pair (.int .i64) (.pair (.int .i64) (.int .i64))))), true, false⟩),
  (62, ⟨.struct [(0, 3), (1, 3), (2, 3), (3, 3), (4, 3)], 5, 40, (.pair (.int .i64) (.pair (.int .i64) (.pair (.int .i64) (.pair (.int .i64) (.int .i64))))), true, false⟩),
  (63, ⟨.struct [(0, 3), (1, 3), (2, 3), (3, 3), (4, 3)], 5, 40, (.pair (.int .i64) (.pair (.int .i64) (.pair (.int .i64) (.pair (.int .i64) (.int .i64))))), true, false⟩),
  (69, ⟨.struct [(0, 3), (1, 3), (2, 3), (3, 3), (4, 3)], 5, 40, (.pair (.int .i64) (.pair (.int .i64) (.pair (.int .i64) (.pair (.int .i64) (.int .i64))))), true, false⟩),
  (70, ⟨.struct [(0, 3), (1, 3), (2, 3), (3, 3), (4, 3)], 5, 40, (.pair (.int .i64) (.pair (.int .i64) (.pair (.int .i64) (.pair (.int .i64) (.int .i64))))), true, false⟩),
  (71, ⟨.slice 214, 1, 24, (.sl 214 (.pair (.int .i64) (.int .i64))), false, false⟩),
  (72, ⟨.slice 216, 1, 24, (.sl 216 (.pair (.int .i64) (.int .i64))), false, false⟩),
  (73, ⟨.slice 218, 1, 24, (.sl 218 (.pair (.int .i64) (.pair (.int .i64) (.pair (.int .i64) (.pair (.int .i64) (.int .i64)))))), false, false⟩),
  (74, ⟨.slice 220, 1, 24, (.sl 220 (.pair (.int .i64) (.pair (.int .i64) (.int .i64)))), false, false⟩),
  (75, ⟨.struct [(0, 71), (1, 72), (2, 73), (3, 74), (4, 37)], 5, 120, (.pair (.sl 214 (.pair (.int .i64) (.int .i64))) (.pair (.sl 216 (.pair (.int .i64) (.int .i64))) (.pair (.sl 218 (.pair (.int .i64) (.pair (.int .i64) (.pair (.int .i64) (.pair (.int .i64) (.int .i64)))))) (.pair (.sl 220 (.pair (.int .i64) (.pair (.int .i64) (.int .i64)))) (.sl 9 .str))))), true, false⟩),
  (76, ⟨.struct [(0, 71), (1, 72), (2, 73), (3, 74), (4, 37)], 5, 120, (.pair (.sl 214 (.pair (.int .i64) (.int .i64))) (.pair (.sl 216 (.pair (.int .i64) (.int .i64))) (.pair (.sl 218 (.pair (.int .i64) (.pair (.int .i64) (.pair (.int .i64) (.pair (.int .i64) (.int .i64)))))) (.pair (.sl 220 (.pair (.int .i64) (.pair (.int .i64) (.int .i64)))) (.sl 9 .str))))), true, false⟩),
  (77, ⟨.struct [(0, 44)], 1, 24, (.sl 3 (.int .i64)), true, false⟩),
  (78, ⟨.slice 200, 1, 24, (.sl 200 (.pair (.int .i64) (.pair (.pair (.int .i64) (.sl 3 (.int .i64))) (.pair (.int .i64) (.pair (.int .i64) (.int .i64)))))), false, false⟩),
  (79, ⟨.slice 204, 1, 24, (.sl 204 (.sl 243 (.pair (.int .i64) (.int .i64)))), false, false⟩),
  (80, ⟨.slice 208, 1, 24, (.sl 208 (.pair (.int .i64) (.pair (.int .i64) (.pair (.int .i64) (.pair (.int .i64) (.int .i64)))))), false, false⟩),
  (81, ⟨.struct [(0, 76), (5, 77), (6, 78), (7, 79), (8, 44), (9, 3), (10, 4), (11, 80)], 12, 256, (.pair (.pair (.sl 214 (.pair (.int .i64) (.int .i64))) (.pair (.sl 216 (.pair (.int .i64) (.int .i64))) (.pair (.sl 218 (.pair (.int .i64) (.pair (.int .i64) (.pair (.int .i64) (.pair (.int .i64) (.int .i64)))))) (.pair (.sl 220 (.pair (.int .i64) (.pair (.int .i64) (.int .i64)))) (.sl 9 .str))))) (.pair (.sl 3 (.int .i64)) (.pair (.sl 200 (.pair (.int .i64) (.pair (.pair (.int .i64) (.sl 3 (.int .i64))) (.pair (.int .i64) (.pair (.int .i64) (.int .i64)))))) (.pair (.sl 204 (.sl 243 (.pair (.int .i64) (.int .i64)))) (.pair (.sl 3 (.int .i64)) (.pair (.int .i64) (.pair .bool (.sl 208 (.pair (.int .i64) (.pair (.int .i64) (.pair (.int .i64) (.pair (.int .i64) (.int .i64))))))))))))), true, false⟩),
  (82, ⟨.struct [(0, 76), (5, 77), (6, 78), (7, 79), (8, 44), (9, 3), (10, 4), (11, 80)], 12, 256, (.pair (.pair (.sl 214 (.pair (.int .i64) (.int .i64))) (.pair (.sl 216 (.pair (.int .i64) (.int .i64))) (.pair (.sl 218 (.pair (.int .i64) (.pair (.int .i64) (.pair (.int .i64) (.pair (.int .i64) (.int .i64)))))) (.pair (.sl 220 (.pair (.int .i64) (.pair (.int .i64) (.int .i64)))) (.sl 9 .str))))) (.pair (.sl 3 (.int .i64)) (.pair (.sl 200 (.pair (.int .i64) (.pair (.pair (.int .i64) (.sl 3 (.int .i64))) (.pair (.int .i64) (.pair (.int .i64) (.int .i64)))))) (.pair (.sl 204 (.sl 243 (.pair (.int .i64) (.int .i64)))) (.pair (.sl 3 (.int .i64)) (.pair (.int .i64) (.pair .bool (.sl 208 (.pair (.int .i64) (.pair (.int .i64) (.pair (.int .i64) (.pair (.int .i64) (.int .i64))))))))))))), true, false⟩),
  (143, ⟨.slice 241, 1, 24, (.sl 241 (.pair (.int .i64) (.int .i64))), false, false⟩),
  (144, ⟨.struct [(0, 143)], 1, 24, (.sl 241 (.pair (.int .i64) (.int .i64))), true, false⟩),
  (145, ⟨.struct [(0, 143)], 1, 24, (.sl 241 (.pair (.int .i64) (.int .i64))), true, false⟩),
  (166, ⟨.struct [(0, 22), (1, 3), (2, 3)], 3, 40, (.pair (.sl 5 (.int .u8)) (.pair (.int .i64) (.int .i64))), true, false⟩),
  (167, ⟨.struct [(0, 22), (1, 3), (2, 3)], 3, 40, (.pair (.sl 5 (.int .u8)) (.pair (.int .i64) (.int .i64))), true, false⟩),
  (183, ⟨.int .u64, 1, 8, (.int .u64), false, false⟩),
  (187, ⟨.struct [(0, 3), (1, 3), (2, 3), (3, 3)], 4, 32, (.pair (.int .i64) (.pair (.int .i64) (.pair (.int .i64) (.int .i64)))), true, false⟩),
  (188, ⟨.struct [(0, 3), (1, 3), (2, 3), (3, 3)], 4, 32, (.pair (.int .i64) (.pair (.int .i64) (.pair (.int .i64) (.int .i64)))), true, false⟩),
  (198, ⟨.struct [(0, 3), (1, 44)], 2, 32, (.pair (.int .i64) (.sl 3 (.int .i64))), true, false⟩),
  (199, ⟨.struct [(0, 3), (1, 198), (3, 3), (4, 3), (5, 3)], 6, 64, (.pair (.int .i64) (.pair (.pair (.int .i64) (.sl 3 (.int .i64))) (.pair (.int .i64) (.pair (.int .i64) (.int .i64))))), true, false⟩),
  (200, ⟨.struct [(0, 3), (1, 198), (3, 3), (4, 3), (5, 3)], 6, 64, (.pair (.int .i64) (.pair (.pair (.int .i64) (.sl 3 (.int .i64))) (.pair (.int .i64) (.pair (.int .i64) (.int .i64))))), true, false⟩),
  (202, ⟨.slice 243, 1, 24, (.sl 243 (.pair (.int .i64) (.int .i64))), false, false⟩),
  (203, ⟨.struct [(0, 202)], 1, 24, (.sl 243 (.pair (.int .i64) (.int .i64))), true, false⟩),
  (204, ⟨.struct [(0, 202)], 1, 24, (.sl 243 (.pair (.int .i64) (.int .i64))), true, false⟩),
  (208, ⟨.struct [(0, 3), (1, 3), (2, 3), (3, 3), (4, 3)], 5, 40, (.pair (.int .i64) (.pair (.int .i64) (.pair (.int .i64) (.pair (.int .i64) (.int .i64))))), true, false⟩),
  (214, ⟨.struct [(0, 3), (1, 3)], 2, 16, (.pair (.int .i64) (.int .i64)), true, false⟩),
  (216, ⟨.struct [(0, 3), (1, 3)], 2, 16, (.pair (.int .i64) (.int .i64)), true, false⟩),
  (218, ⟨.struct [(0, 3), (1, 3), (2, 3), (3, 3), (4, 3)], 5, 40, (.pair (.int .i64) (.pair (.int .i64) (.pair (.int .i64) (.pair (.int .i64) (.int .i64))))), true, false⟩),
  (220, ⟨.struct [(0, 3), (1, 3), (2, 3)], 3, 24, (.pair (.int .i64) (.pair (.int .i64) (.int .i64))), true, false⟩),
  (240, ⟨.struct [(0, 3), (1, 3)], 2, 16, (.pair (.int .i64) (.int .i64)), true, false⟩),
  (241, ⟨.struct [(0, 3), (1, 3)], 2, 16, (.pair (.int .i64) (.int .i64)), true, false⟩),
  (243, ⟨.struct [(0, 3), (1, 3)], 2, 16, (.pair (.int .i64) (.int .i64)), true, false⟩),
  (252, ⟨.int .u32, 1, 4, (.int .u32), false, false⟩),
  (253, ⟨.int .u8, 1, 1, (.int .u8), false, false⟩),
  (254, ⟨.int .u8, 1, 1, (.int .u8), false, false⟩),
  (257, ⟨.int .i32, 1, 4, (.int .i32), false, false⟩),
  (258, ⟨.int .i32, 1, 4, (.int .i32), false, false⟩)]
theorem mixed : Try.prog.follows .mixedOrders = true := by kernel_rfl
theorem tdsOk : TdsOk Try.prog tds := tds_ok (by kernel_rfl) (by kernel_rfl)
def w64 (z : Int) : Int := IntKind.i64.wrap z
@[reducible] def TyP : Ty := .pair (.int .i64) (.pair (.pair (.int .i64) (.sl 3 (.int .i64))) (.pair (.int .i64) (.pair (.int .i64) (.int .i64))))
@[reducible] def Ty5 : Ty := .pair (.int .i64) (.pair (.int .i64) (.pair (.int .i64) (.pair (.int .i64) (.int .i64))))
@[reducible] def Ty3 : Ty := .pair (.int .i64) (.pair (.int .i64) (.int .i64))
@[reducible] def Ty2 : Ty := .pair (.int .i64) (.int .i64)
@[reducible] def TyI : Ty := .int .i64
@[reducible] def DeP : Type := List (Int × (Int × List Int) × Int × Int × Int)
@[reducible] def De5 : Type := List (Int × Int × Int × Int × Int)
@[reducible] def De3 : Type := List (Int × Int × Int)
@[reducible] def De2 : Type := List (Int × Int)
@[reducible] def DeB : Type := List ByteArray
@[reducible] def DeI : Type := List Int
@[reducible] def DeL : Type := List De2
@[reducible] def DeS : Type := De2 × De2 × De5 × De3 × DeB
@[reducible] def DeK : Type := DeS × DeI × DeP × DeL × DeI × Int × Bool × De5
/-! loop.example/g00200/laws.szRegionS -/
def laws_szRegionS.f (k : Nat) (a0 : De2) (a1 : Int) : Option (Int) :=
  if (w64 (a1 - (a0.length : Int))) < 0 then (some (-1)) else (some (w64 (a1 - (a0.length : Int))))
def laws_szRegionS.sig : Sig := ⟨[.val false (.sl 214 Ty2) [0], .val false TyI []], [.val false TyI []]⟩
def laws_szRegionS.F (k : Nat) (x : Args laws_szRegionS.sig.ps) : Option (Res laws_szRegionS.sig) := laws_szRegionS.f k x.1 x.2.1
def laws_szRegionS.ann (k : Nat) : Ann (Res laws_szRegionS.sig) := .nil
def laws_szRegionS.ent : Ent := ⟨94, laws_szRegionS.sig, laws_szRegionS.F⟩
def laws_szRegionS.ctx (k : Nat) : Ctx := ⟨tds, [], k, 12⟩
theorem laws_szRegionS.runs (k : Nat) (x : Args laws_szRegionS.sig.ps) : laws_szRegionS.F k x = runF (laws_szRegionS.ctx k) laws_szRegionS.sig Try.f94 (Try.f94.body.getD .skip) (laws_szRegionS.ann k) x := by kernel_rfl
theorem laws_szRegionS.obls (k : Nat) : obl (laws_szRegionS.ctx k) 1 (Try.f94.body.getD .skip) (laws_szRegionS.ann k) (retK tds laws_szRegionS.sig Try.f94.results.toList) := ⟨trivial, ⟨trivial, ⟨⟨trivial, ⟨⟨trivial, trivial⟩, trivial⟩⟩, ⟨trivial, trivial⟩⟩⟩⟩
theorem laws_szRegionS.ok (k : Nat) : EntOk Try.prog k laws_szRegionS.ent := fn_ok (C := laws_szRegionS.ctx k) Try.func94 (by kernel_rfl) (by kernel_rfl) mixed tdsOk EntsOk.nil (by kernel_rfl) (Nat.le_of_ble_eq_true (by kernel_rfl)) (by kernel_rfl) (laws_szRegionS.runs k) (laws_szRegionS.obls k)
/-! loop.example/g00200/laws.szWindowS -/
def laws_szWindowS.f (k : Nat) (a0 : De2) (a1 : Int) : Option (Int) :=
  if (w64 (a1 - (a0.length : Int))) < 0 then (some (-1)) else (some (w64 (a1 - (a0.length : Int))))
def laws_szWindowS.sig : Sig := ⟨[.val false (.sl 216 Ty2) [0], .val false TyI []], [.val false TyI []]⟩
def laws_szWindowS.F (k : Nat) (x : Args laws_szWindowS.sig.ps) : Option (Res laws_szWindowS.sig) := laws_szWindowS.f k x.1 x.2.1
def laws_szWindowS.ann (k : Nat) : Ann (Res laws_szWindowS.sig) := .nil
def laws_szWindowS.ent : Ent := ⟨95, laws_szWindowS.sig, laws_szWindowS.F⟩
def laws_szWindowS.ctx (k : Nat) : Ctx := ⟨tds, [], k, 12⟩
theorem laws_szWindowS.runs (k : Nat) (x : Args laws_szWindowS.sig.ps) : laws_szWindowS.F k x = runF (laws_szWindowS.ctx k) laws_szWindowS.sig Try.f95 (Try.f95.body.getD .skip) (laws_szWindowS.ann k) x := by kernel_rfl
theorem laws_szWindowS.obls (k : Nat) : obl (laws_szWindowS.ctx k) 1 (Try.f95.body.getD .skip) (laws_szWindowS.ann k) (retK tds laws_szWindowS.sig Try.f95.results.toList) := ⟨trivial, ⟨trivial, ⟨⟨trivial, ⟨⟨trivial, trivial⟩, trivial⟩⟩, ⟨trivial, trivial⟩⟩⟩⟩
theorem laws_szWindowS.ok (k : Nat) : EntOk Try.prog k laws_szWindowS.ent := fn_ok (C := laws_szWindowS.ctx k) Try.func95 (by kernel_rfl) (by kernel_rfl) mixed tdsOk EntsOk.nil (by kernel_rfl) (Nat.le_of_ble_eq_true (by kernel_rfl)) (by kernel_rfl) (laws_szWindowS.runs k) (laws_szWindowS.obls k)
/-! loop.example/g00200/laws.szPortS -/
def laws_szPortS.f (k : Nat) (a0 : De5) (a1 : Int) : Option (Int) :=
  if (w64 (a1 - (a0.length : Int))) < 0 then (some (-1)) else (some (w64 (a1 - (a0.length : Int))))
def laws_szPortS.sig : Sig := ⟨[.val false (.sl 218 Ty5) [0], .val false TyI []], [.val false TyI []]⟩
def laws_szPortS.F (k : Nat) (x : Args laws_szPortS.sig.ps) : Option (Res laws_szPortS.sig) := laws_szPortS.f k x.1 x.2.1
def laws_szPortS.ann (k : Nat) : Ann (Res laws_szPortS.sig) := .nil
def laws_szPortS.ent : Ent := ⟨96, laws_szPortS.sig, laws_szPortS.F⟩
def laws_szPortS.ctx (k : Nat) : Ctx := ⟨tds, [], k, 12⟩
theorem laws_szPortS.runs (k : Nat) (x : Args laws_szPortS.sig.ps) : laws_szPortS.F k x = runF (laws_szPortS.ctx k) laws_szPortS.sig Try.f96 (Try.f96.body.getD .skip) (laws_szPortS.ann k) x := by kernel_rfl
theorem laws_szPortS.obls (k : Nat) : obl (laws_szPortS.ctx k) 1 (Try.f96.body.getD .skip) (laws_szPortS.ann k) (retK tds laws_szPortS.sig Try.f96.results.toList) := ⟨trivial, ⟨trivial, ⟨⟨trivial, ⟨⟨trivial, trivial⟩, trivial⟩⟩, ⟨trivial, trivial⟩⟩⟩⟩
theorem laws_szPortS.ok (k : Nat) : EntOk Try.prog k laws_szPortS.ent := fn_ok (C := laws_szPortS.ctx k) Try.func96 (by kernel_rfl) (by kernel_rfl) mixed tdsOk EntsOk.nil (by kernel_rfl) (Nat.le_of_ble_eq_true (by kernel_rfl)) (by kernel_rfl) (laws_szPortS.runs k) (laws_szPortS.obls k)
/-! loop.example/g00200/laws.szRuleS -/
def laws_szRuleS.f (k : Nat) (a0 : De3) (a1 : Int) : Option (Int) :=
  if (w64 (a1 - (a0.length : Int))) < 0 then (some (-1)) else (some (w64 (a1 - (a0.length : Int))))
def laws_szRuleS.sig : Sig := ⟨[.val false (.sl 220 Ty3) [0], .val false TyI []], [.val false TyI []]⟩
def laws_szRuleS.F (k : Nat) (x : Args laws_szRuleS.sig.ps) : Option (Res laws_szRuleS.sig) := laws_szRuleS.f k x.1 x.2.1
def laws_szRuleS.ann (k : Nat) : Ann (Res laws_szRuleS.sig) := .nil
def laws_szRuleS.ent : Ent := ⟨97, laws_szRuleS.sig, laws_szRuleS.F⟩
def laws_szRuleS.ctx (k : Nat) : Ctx := ⟨tds, [], k, 12⟩
theorem laws_szRuleS.runs (k : Nat) (x : Args laws_szRuleS.sig.ps) : laws_szRuleS.F k x = runF (laws_szRuleS.ctx k) laws_szRuleS.sig Try.f97 (Try.f97.body.getD .skip) (laws_szRuleS.ann k) x := by kernel_rfl
theorem laws_szRuleS.obls (k : Nat) : obl (laws_szRuleS.ctx k) 1 (Try.f97.body.getD .skip) (laws_szRuleS.ann k) (retK tds laws_szRuleS.sig Try.f97.results.toList) := ⟨trivial, ⟨trivial, ⟨⟨trivial, ⟨⟨trivial, trivial⟩, trivial⟩⟩, ⟨trivial, trivial⟩⟩⟩⟩
theorem laws_szRuleS.ok (k : Nat) : EntOk Try.prog k laws_szRuleS.ent := fn_ok (C := laws_szRuleS.ctx k) Try.func97 (by kernel_rfl) (by kernel_rfl) mixed tdsOk EntsOk.nil (by kernel_rfl) (Nat.le_of_ble_eq_true (by kernel_rfl)) (by kernel_rfl) (laws_szRuleS.runs k) (laws_szRuleS.obls k)
/-! loop.example/g00200/laws.szStringS -/
def laws_szStringS.l1 (k : Nat)  : Nat → Int × Int × DeB × Unit → Option (Int)
  | 0, _ => none
  | n + 1, (x1, x2, x3, _) => if x2 < (x3.length : Int) then (if 0 ≤ x2 then (if x2 < (x3.length : Int) then (if (w64 (x1 - ((el .str x3 x2.toNat).size : Int))) < 0 then (some (-1)) else (laws_szStringS.l1 k n (w64 (x1 - ((el .str x3 x2.toNat).size : Int)), w64 (x2 + 1), x3, ()))) else none) else none) else (some x1)
def laws_szStringS.f (k : Nat) (a0 : DeB) (a1 : Int) : Option (Int) :=
  if (w64 (a1 - (a0.length : Int))) < 0 then (some (-1)) else (laws_szStringS.l1 k k (w64 (a1 - (a0.length : Int)), 0, a0, ()))
def laws_szStringS.Sl1 : Shape := ⟨[(0, false, [.own 0]), (1, false, [.int .i64]), (5, false, [.int .i64])], [(0, .view false 9 .str)], 1⟩
def laws_szStringS.sig : Sig := ⟨[.val false (.sl 9 .str) [0], .val false TyI []], [.val false TyI []]⟩
def laws_szStringS.F (k : Nat) (x : Args laws_szStringS.sig.ps) : Option (Res laws_szStringS.sig) := laws_szStringS.f k x.1 x.2.1
def laws_szStringS.ann (k : Nat) : Ann (Res laws_szStringS.sig) := (.seq .nil (.seq .nil (.seq .nil (.seq (.seq .nil (.block (.loop laws_szStringS.Sl1 (laws_szStringS.l1 k) fun n1 => .nil))) .nil))))
def laws_szStringS.ent : Ent := ⟨98, laws_szStringS.sig, laws_szStringS.F⟩
def laws_szStringS.ctx (k : Nat) : Ctx := ⟨tds, [], k, 28⟩
theorem laws_szStringS.runs (k : Nat) (x : Args laws_szStringS.sig.ps) : laws_szStringS.F k x = runF (laws_szStringS.ctx k) laws_szStringS.sig Try.f98 (Try.f98.body.getD .skip) (laws_szStringS.ann k) x := by kernel_rfl
theorem laws_szStringS.obls (k : Nat) : obl (laws_szStringS.ctx k) 1 (Try.f98.body.getD .skip) (laws_szStringS.ann k) (retK tds laws_szStringS.sig Try.f98.results.toList) := ⟨trivial, ⟨trivial, ⟨⟨trivial, ⟨⟨trivial, trivial⟩, trivial⟩⟩, ⟨⟨trivial, ⟨⟨by kernel_rfl, fun x => by kernel_rfl⟩, fun n => ⟨fun x => by kernel_rfl, ⟨⟨trivial, ⟨trivial, trivial⟩⟩, ⟨⟨trivial, ⟨trivial, ⟨⟨trivial, trivial⟩, trivial⟩⟩⟩, trivial⟩⟩⟩⟩⟩, ⟨trivial, trivial⟩⟩⟩⟩⟩
theorem laws_szStringS.ok (k : Nat) : EntOk Try.prog k laws_szStringS.ent := fn_ok (C := laws_szStringS.ctx k) Try.func98 (by kernel_rfl) (by kernel_rfl) mixed tdsOk EntsOk.nil (by kernel_rfl) (Nat.le_of_ble_eq_true (by kernel_rfl)) (by kernel_rfl) (laws_szStringS.runs k) (laws_szStringS.obls k)
/-! loop.example/g00200/laws.szSetup -/
def laws_szSetup.f (k : Nat) (a0 : De2 × De2 × De5 × De3 × DeB) (a1 : Int) : Option (Int) :=
  (laws_szRegionS.f k a0.1 a1).bind fun t1 => (if t1 < 0 then (some (-1)) else ((laws_szWindowS.f k a0.2.1 t1).bind fun t2 => (if t2 < 0 then (some (-1)) else ((laws_szPortS.f k a0.2.2.1 t2).bind fun t3 => (if t3 < 0 then (some (-1)) else ((laws_szRuleS.f k a0.2.2.2.1 t3).bind fun t4 => (if t4 < 0 then (some (-1)) else ((laws_szStringS.f k a0.2.2.2.2 t4).bind fun t5 => (if t5 < 0 then (some (-1)) else (some t5))))))))))
def laws_szSetup.sig : Sig := ⟨[.val true (.pair (.sl 214 Ty2) (.pair (.sl 216 Ty2) (.pair (.sl 218 Ty5) (.pair (.sl 220 Ty3) (.sl 9 .str))))) [0, 0, 0, 0, 0], .val false TyI []], [.val false TyI []]⟩
def laws_szSetup.F (k : Nat) (x : Args laws_szSetup.sig.ps) : Option (Res laws_szSetup.sig) := laws_szSetup.f k x.1 x.2.1
def laws_szSetup.ann (k : Nat) : Ann (Res laws_szSetup.sig) := .nil
def laws_szSetup.ent : Ent := ⟨37, laws_szSetup.sig, laws_szSetup.F⟩
def laws_szSetup.ctx (k : Nat) : Ctx := ⟨tds, [laws_szRegionS.ent, laws_szWindowS.ent, laws_szPortS.ent, laws_szRuleS.ent, laws_szStringS.ent], k, 36⟩
theorem laws_szSetup.runs (k : Nat) (x : Args laws_szSetup.sig.ps) : laws_szSetup.F k x = runF (laws_szSetup.ctx k) laws_szSetup.sig Try.f37 (Try.f37.body.getD .skip) (laws_szSetup.ann k) x := by kernel_rfl
theorem laws_szSetup.obls (k : Nat) : obl (laws_szSetup.ctx k) 5 (Try.f37.body.getD .skip) (laws_szSetup.ann k) (retK tds laws_szSetup.sig Try.f37.results.toList) := ⟨trivial, ⟨trivial, ⟨⟨trivial, ⟨⟨trivial, trivial⟩, trivial⟩⟩, ⟨trivial, ⟨⟨trivial, ⟨⟨trivial, trivial⟩, trivial⟩⟩, ⟨trivial, ⟨⟨trivial, ⟨⟨trivial, trivial⟩, trivial⟩⟩, ⟨trivial, ⟨⟨trivial, ⟨⟨trivial, trivial⟩, trivial⟩⟩, ⟨trivial, ⟨⟨trivial, ⟨⟨trivial, trivial⟩, trivial⟩⟩, ⟨trivial, trivial⟩⟩⟩⟩⟩⟩⟩⟩⟩⟩⟩⟩
theorem laws_szSetup.ok (k : Nat) : EntOk Try.prog k laws_szSetup.ent := fn_ok (C := laws_szSetup.ctx k) Try.func37 (by kernel_rfl) (by kernel_rfl) mixed tdsOk (.cons (laws_szRegionS.ok k) (.cons (laws_szWindowS.ok k) (.cons (laws_szPortS.ok k) (.cons (laws_szRuleS.ok k) (.cons (laws_szStringS.ok k) EntsOk.nil))))) (by kernel_rfl) (Nat.le_of_ble_eq_true (by kernel_rfl)) (by kernel_rfl) (laws_szSetup.runs k) (laws_szSetup.obls k)
/-! loop.example/g00200/laws.szIntS -/
def laws_szIntS.f (k : Nat) (a0 : DeI) (a1 : Int) : Option (Int) :=
  if (w64 (a1 - (a0.length : Int))) < 0 then (some (-1)) else (some (w64 (a1 - (a0.length : Int))))
def laws_szIntS.sig : Sig := ⟨[.val false (.sl 3 TyI) [0], .val false TyI []], [.val false TyI []]⟩
def laws_szIntS.F (k : Nat) (x : Args laws_szIntS.sig.ps) : Option (Res laws_szIntS.sig) := laws_szIntS.f k x.1 x.2.1
def laws_szIntS.ann (k : Nat) : Ann (Res laws_szIntS.sig) := .nil
def laws_szIntS.ent : Ent := ⟨67, laws_szIntS.sig, laws_szIntS.F⟩
def laws_szIntS.ctx (k : Nat) : Ctx := ⟨tds, [], k, 12⟩
theorem laws_szIntS.runs (k : Nat) (x : Args laws_szIntS.sig.ps) : laws_szIntS.F k x = runF (laws_szIntS.ctx k) laws_szIntS.sig Try.f67 (Try.f67.body.getD .skip) (laws_szIntS.ann k) x := by kernel_rfl
theorem laws_szIntS.obls (k : Nat) : obl (laws_szIntS.ctx k) 1 (Try.f67.body.getD .skip) (laws_szIntS.ann k) (retK tds laws_szIntS.sig Try.f67.results.toList) := ⟨trivial, ⟨trivial, ⟨⟨trivial, ⟨⟨trivial, trivial⟩, trivial⟩⟩, ⟨trivial, trivial⟩⟩⟩⟩
theorem laws_szIntS.ok (k : Nat) : EntOk Try.prog k laws_szIntS.ent := fn_ok (C := laws_szIntS.ctx k) Try.func67 (by kernel_rfl) (by kernel_rfl) mixed tdsOk EntsOk.nil (by kernel_rfl) (Nat.le_of_ble_eq_true (by kernel_rfl)) (by kernel_rfl) (laws_szIntS.runs k) (laws_szIntS.obls k)
/-! loop.example/g00200/laws.szArena -/
def laws_szArena.f (k : Nat) (a0 : DeI) (a1 : Int) : Option (Int) :=
  (laws_szIntS.f k a0 a1).bind fun t1 => (if t1 < 0 then (some (-1)) else (some t1))
def laws_szArena.sig : Sig := ⟨[.val true (.sl 3 TyI) [0], .val false TyI []], [.val false TyI []]⟩
def laws_szArena.F (k : Nat) (x : Args laws_szArena.sig.ps) : Option (Res laws_szArena.sig) := laws_szArena.f k x.1 x.2.1
def laws_szArena.ann (k : Nat) : Ann (Res laws_szArena.sig) := .nil
def laws_szArena.ent : Ent := ⟨64, laws_szArena.sig, laws_szArena.F⟩
def laws_szArena.ctx (k : Nat) : Ctx := ⟨tds, [laws_szIntS.ent], k, 12⟩
theorem laws_szArena.runs (k : Nat) (x : Args laws_szArena.sig.ps) : laws_szArena.F k x = runF (laws_szArena.ctx k) laws_szArena.sig Try.f64 (Try.f64.body.getD .skip) (laws_szArena.ann k) x := by kernel_rfl
theorem laws_szArena.obls (k : Nat) : obl (laws_szArena.ctx k) 1 (Try.f64.body.getD .skip) (laws_szArena.ann k) (retK tds laws_szArena.sig Try.f64.results.toList) := ⟨trivial, ⟨trivial, ⟨⟨trivial, ⟨⟨trivial, trivial⟩, trivial⟩⟩, ⟨trivial, trivial⟩⟩⟩⟩
theorem laws_szArena.ok (k : Nat) : EntOk Try.prog k laws_szArena.ent := fn_ok (C := laws_szArena.ctx k) Try.func64 (by kernel_rfl) (by kernel_rfl) mixed tdsOk (.cons (laws_szIntS.ok k) EntsOk.nil) (by kernel_rfl) (Nat.le_of_ble_eq_true (by kernel_rfl)) (by kernel_rfl) (laws_szArena.runs k) (laws_szArena.obls k)
/-! loop.example/g00200/laws.szCpu -/
def laws_szCpu.f (k : Nat) (a0 : Int × DeI) (a1 : Int) : Option (Int) :=
  (laws_szIntS.f k a0.2 a1).bind fun t1 => (if t1 < 0 then (some (-1)) else (some t1))
def laws_szCpu.sig : Sig := ⟨[.val true (.pair TyI (.sl 3 TyI)) [0], .val false TyI []], [.val false TyI []]⟩
def laws_szCpu.F (k : Nat) (x : Args laws_szCpu.sig.ps) : Option (Res laws_szCpu.sig) := laws_szCpu.f k x.1 x.2.1
def laws_szCpu.ann (k : Nat) : Ann (Res laws_szCpu.sig) := .nil
def laws_szCpu.ent : Ent := ⟨190, laws_szCpu.sig, laws_szCpu.F⟩
def laws_szCpu.ctx (k : Nat) : Ctx := ⟨tds, [laws_szIntS.ent], k, 12⟩
theorem laws_szCpu.runs (k : Nat) (x : Args laws_szCpu.sig.ps) : laws_szCpu.F k x = runF (laws_szCpu.ctx k) laws_szCpu.sig Try.f190 (Try.f190.body.getD .skip) (laws_szCpu.ann k) x := by kernel_rfl
theorem laws_szCpu.obls (k : Nat) : obl (laws_szCpu.ctx k) 1 (Try.f190.body.getD .skip) (laws_szCpu.ann k) (retK tds laws_szCpu.sig Try.f190.results.toList) := ⟨trivial, ⟨trivial, ⟨⟨trivial, ⟨⟨trivial, trivial⟩, trivial⟩⟩, ⟨trivial, trivial⟩⟩⟩⟩
theorem laws_szCpu.ok (k : Nat) : EntOk Try.prog k laws_szCpu.ent := fn_ok (C := laws_szCpu.ctx k) Try.func190 (by kernel_rfl) (by kernel_rfl) mixed tdsOk (.cons (laws_szIntS.ok k) EntsOk.nil) (by kernel_rfl) (Nat.le_of_ble_eq_true (by kernel_rfl)) (by kernel_rfl) (laws_szCpu.runs k) (laws_szCpu.obls k)
/-! loop.example/g00200/laws.szPart -/
def laws_szPart.f (k : Nat) (a0 : Int × (Int × DeI) × Int × Int × Int) (a1 : Int) : Option (Int) :=
  (laws_szCpu.f k a0.2.1 a1).bind fun t1 => (if t1 < 0 then (some (-1)) else (some t1))
def laws_szPart.sig : Sig := ⟨[.val true TyP [0], .val false TyI []], [.val false TyI []]⟩
def laws_szPart.F (k : Nat) (x : Args laws_szPart.sig.ps) : Option (Res laws_szPart.sig) := laws_szPart.f k x.1 x.2.1
def laws_szPart.ann (k : Nat) : Ann (Res laws_szPart.sig) := .nil
def laws_szPart.ent : Ent := ⟨146, laws_szPart.sig, laws_szPart.F⟩
def laws_szPart.ctx (k : Nat) : Ctx := ⟨tds, [laws_szCpu.ent], k, 12⟩
theorem laws_szPart.runs (k : Nat) (x : Args laws_szPart.sig.ps) : laws_szPart.F k x = runF (laws_szPart.ctx k) laws_szPart.sig Try.f146 (Try.f146.body.getD .skip) (laws_szPart.ann k) x := by kernel_rfl
theorem laws_szPart.obls (k : Nat) : obl (laws_szPart.ctx k) 1 (Try.f146.body.getD .skip) (laws_szPart.ann k) (retK tds laws_szPart.sig Try.f146.results.toList) := ⟨trivial, ⟨trivial, ⟨⟨trivial, ⟨⟨trivial, trivial⟩, trivial⟩⟩, ⟨trivial, trivial⟩⟩⟩⟩
theorem laws_szPart.ok (k : Nat) : EntOk Try.prog k laws_szPart.ent := fn_ok (C := laws_szPart.ctx k) Try.func146 (by kernel_rfl) (by kernel_rfl) mixed tdsOk (.cons (laws_szCpu.ok k) EntsOk.nil) (by kernel_rfl) (Nat.le_of_ble_eq_true (by kernel_rfl)) (by kernel_rfl) (laws_szPart.runs k) (laws_szPart.obls k)
/-! loop.example/g00200/laws.szPartS -/
def laws_szPartS.l1 (k : Nat)  : Nat → Int × Int × DeP × Unit → Option (Int)
  | 0, _ => none
  | n + 1, (x1, x2, x3, _) => if x2 < (x3.length : Int) then (if 0 ≤ x2 then (if x2 < (x3.length : Int) then ((laws_szPart.f k ((el TyP x3 x2.toNat).1, ((((el TyP x3 x2.toNat).2).1), ((((el TyP x3 x2.toNat).2).2).1, ((((el TyP x3 x2.toNat).2).2).2)))) x1).bind fun t1 => (if t1 < 0 then (some (-1)) else (laws_szPartS.l1 k n (t1, w64 (x2 + 1), x3, ())))) else none) else none) else (some x1)
def laws_szPartS.f (k : Nat) (a0 : DeP) (a1 : Int) : Option (Int) :=
  if (w64 (a1 - (a0.length : Int))) < 0 then (some (-1)) else (laws_szPartS.l1 k k (w64 (a1 - (a0.length : Int)), 0, a0, ()))
def laws_szPartS.Sl1 : Shape := ⟨[(0, false, [.own 0]), (1, false, [.int .i64]), (5, false, [.int .i64])], [(0, .view false 200 TyP)], 1⟩
def laws_szPartS.sig : Sig := ⟨[.val false (.sl 200 TyP) [0], .val false TyI []], [.val false TyI []]⟩
def laws_szPartS.F (k : Nat) (x : Args laws_szPartS.sig.ps) : Option (Res laws_szPartS.sig) := laws_szPartS.f k x.1 x.2.1
def laws_szPartS.ann (k : Nat) : Ann (Res laws_szPartS.sig) := (.seq .nil (.seq .nil (.seq .nil (.seq (.seq .nil (.block (.loop laws_szPartS.Sl1 (laws_szPartS.l1 k) fun n1 => .nil))) .nil))))
def laws_szPartS.ent : Ent := ⟨65, laws_szPartS.sig, laws_szPartS.F⟩
def laws_szPartS.ctx (k : Nat) : Ctx := ⟨tds, [laws_szPart.ent], k, 27⟩
theorem laws_szPartS.runs (k : Nat) (x : Args laws_szPartS.sig.ps) : laws_szPartS.F k x = runF (laws_szPartS.ctx k) laws_szPartS.sig Try.f65 (Try.f65.body.getD .skip) (laws_szPartS.ann k) x := by kernel_rfl
theorem laws_szPartS.obls (k : Nat) : obl (laws_szPartS.ctx k) 1 (Try.f65.body.getD .skip) (laws_szPartS.ann k) (retK tds laws_szPartS.sig Try.f65.results.toList) := ⟨trivial, ⟨trivial, ⟨⟨trivial, ⟨⟨trivial, trivial⟩, trivial⟩⟩, ⟨⟨trivial, ⟨⟨by kernel_rfl, fun x => by kernel_rfl⟩, fun n => ⟨fun x => by kernel_rfl, ⟨⟨trivial, ⟨trivial, trivial⟩⟩, ⟨⟨trivial, ⟨trivial, ⟨⟨trivial, trivial⟩, trivial⟩⟩⟩, trivial⟩⟩⟩⟩⟩, ⟨trivial, trivial⟩⟩⟩⟩⟩
theorem laws_szPartS.ok (k : Nat) : EntOk Try.prog k laws_szPartS.ent := fn_ok (C := laws_szPartS.ctx k) Try.func65 (by kernel_rfl) (by kernel_rfl) mixed tdsOk (.cons (laws_szPart.ok k) EntsOk.nil) (by kernel_rfl) (Nat.le_of_ble_eq_true (by kernel_rfl)) (by kernel_rfl) (laws_szPartS.runs k) (laws_szPartS.obls k)
/-! loop.example/g00200/laws.szMsgS -/
def laws_szMsgS.f (k : Nat) (a0 : De2) (a1 : Int) : Option (Int) :=
  if (w64 (a1 - (a0.length : Int))) < 0 then (some (-1)) else (some (w64 (a1 - (a0.length : Int))))
def laws_szMsgS.sig : Sig := ⟨[.val false (.sl 243 Ty2) [0], .val false TyI []], [.val false TyI []]⟩
def laws_szMsgS.F (k : Nat) (x : Args laws_szMsgS.sig.ps) : Option (Res laws_szMsgS.sig) := laws_szMsgS.f k x.1 x.2.1
def laws_szMsgS.ann (k : Nat) : Ann (Res laws_szMsgS.sig) := .nil
def laws_szMsgS.ent : Ent := ⟨191, laws_szMsgS.sig, laws_szMsgS.F⟩
def laws_szMsgS.ctx (k : Nat) : Ctx := ⟨tds, [], k, 12⟩
theorem laws_szMsgS.runs (k : Nat) (x : Args laws_szMsgS.sig.ps) : laws_szMsgS.F k x = runF (laws_szMsgS.ctx k) laws_szMsgS.sig Try.f191 (Try.f191.body.getD .skip) (laws_szMsgS.ann k) x := by kernel_rfl
theorem laws_szMsgS.obls (k : Nat) : obl (laws_szMsgS.ctx k) 1 (Try.f191.body.getD .skip) (laws_szMsgS.ann k) (retK tds laws_szMsgS.sig Try.f191.results.toList) := ⟨trivial, ⟨trivial, ⟨⟨trivial, ⟨⟨trivial, trivial⟩, trivial⟩⟩, ⟨trivial, trivial⟩⟩⟩⟩
theorem laws_szMsgS.ok (k : Nat) : EntOk Try.prog k laws_szMsgS.ent := fn_ok (C := laws_szMsgS.ctx k) Try.func191 (by kernel_rfl) (by kernel_rfl) mixed tdsOk EntsOk.nil (by kernel_rfl) (Nat.le_of_ble_eq_true (by kernel_rfl)) (by kernel_rfl) (laws_szMsgS.runs k) (laws_szMsgS.obls k)
/-! loop.example/g00200/laws.szLine -/
def laws_szLine.f (k : Nat) (a0 : De2) (a1 : Int) : Option (Int) :=
  (laws_szMsgS.f k a0 a1).bind fun t1 => (if t1 < 0 then (some (-1)) else (some t1))
def laws_szLine.sig : Sig := ⟨[.val true (.sl 243 Ty2) [0], .val false TyI []], [.val false TyI []]⟩
def laws_szLine.F (k : Nat) (x : Args laws_szLine.sig.ps) : Option (Res laws_szLine.sig) := laws_szLine.f k x.1 x.2.1
def laws_szLine.ann (k : Nat) : Ann (Res laws_szLine.sig) := .nil
def laws_szLine.ent : Ent := ⟨147, laws_szLine.sig, laws_szLine.F⟩
def laws_szLine.ctx (k : Nat) : Ctx := ⟨tds, [laws_szMsgS.ent], k, 12⟩
theorem laws_szLine.runs (k : Nat) (x : Args laws_szLine.sig.ps) : laws_szLine.F k x = runF (laws_szLine.ctx k) laws_szLine.sig Try.f147 (Try.f147.body.getD .skip) (laws_szLine.ann k) x := by kernel_rfl
theorem laws_szLine.obls (k : Nat) : obl (laws_szLine.ctx k) 1 (Try.f147.body.getD .skip) (laws_szLine.ann k) (retK tds laws_szLine.sig Try.f147.results.toList) := ⟨trivial, ⟨trivial, ⟨⟨trivial, ⟨⟨trivial, trivial⟩, trivial⟩⟩, ⟨trivial, trivial⟩⟩⟩⟩
theorem laws_szLine.ok (k : Nat) : EntOk Try.prog k laws_szLine.ent := fn_ok (C := laws_szLine.ctx k) Try.func147 (by kernel_rfl) (by kernel_rfl) mixed tdsOk (.cons (laws_szMsgS.ok k) EntsOk.nil) (by kernel_rfl) (Nat.le_of_ble_eq_true (by kernel_rfl)) (by kernel_rfl) (laws_szLine.runs k) (laws_szLine.obls k)
/-! loop.example/g00200/laws.szLineS -/
def laws_szLineS.l1 (k : Nat)  : Nat → Int × Int × DeL × Unit → Option (Int)
  | 0, _ => none
  | n + 1, (x1, x2, x3, _) => if x2 < (x3.length : Int) then (if 0 ≤ x2 then (if x2 < (x3.length : Int) then ((laws_szLine.f k (el (.sl 243 Ty2) x3 x2.toNat) x1).bind fun t1 => (if t1 < 0 then (some (-1)) else (laws_szLineS.l1 k n (t1, w64 (x2 + 1), x3, ())))) else none) else none) else (some x1)
def laws_szLineS.f (k : Nat) (a0 : DeL) (a1 : Int) : Option (Int) :=
  if (w64 (a1 - (a0.length : Int))) < 0 then (some (-1)) else (laws_szLineS.l1 k k (w64 (a1 - (a0.length : Int)), 0, a0, ()))
def laws_szLineS.Sl1 : Shape := ⟨[(0, false, [.own 0]), (1, false, [.int .i64]), (5, false, [.int .i64])], [(0, .view false 204 (.sl 243 Ty2))], 1⟩
def laws_szLineS.sig : Sig := ⟨[.val false (.sl 204 (.sl 243 Ty2)) [0], .val false TyI []], [.val false TyI []]⟩
def laws_szLineS.F (k : Nat) (x : Args laws_szLineS.sig.ps) : Option (Res laws_szLineS.sig) := laws_szLineS.f k x.1 x.2.1
def laws_szLineS.ann (k : Nat) : Ann (Res laws_szLineS.sig) := (.seq .nil (.seq .nil (.seq .nil (.seq (.seq .nil (.block (.loop laws_szLineS.Sl1 (laws_szLineS.l1 k) fun n1 => .nil))) .nil))))
def laws_szLineS.ent : Ent := ⟨66, laws_szLineS.sig, laws_szLineS.F⟩
def laws_szLineS.ctx (k : Nat) : Ctx := ⟨tds, [laws_szLine.ent], k, 27⟩
theorem laws_szLineS.runs (k : Nat) (x : Args laws_szLineS.sig.ps) : laws_szLineS.F k x = runF (laws_szLineS.ctx k) laws_szLineS.sig Try.f66 (Try.f66.body.getD .skip) (laws_szLineS.ann k) x := by kernel_rfl
theorem laws_szLineS.obls (k : Nat) : obl (laws_szLineS.ctx k) 1 (Try.f66.body.getD .skip) (laws_szLineS.ann k) (retK tds laws_szLineS.sig Try.f66.results.toList) := ⟨trivial, ⟨trivial, ⟨⟨trivial, ⟨⟨trivial, trivial⟩, trivial⟩⟩, ⟨⟨trivial, ⟨⟨by kernel_rfl, fun x => by kernel_rfl⟩, fun n => ⟨fun x => by kernel_rfl, ⟨⟨trivial, ⟨trivial, trivial⟩⟩, ⟨⟨trivial, ⟨trivial, ⟨⟨trivial, trivial⟩, trivial⟩⟩⟩, trivial⟩⟩⟩⟩⟩, ⟨trivial, trivial⟩⟩⟩⟩⟩
theorem laws_szLineS.ok (k : Nat) : EntOk Try.prog k laws_szLineS.ent := fn_ok (C := laws_szLineS.ctx k) Try.func66 (by kernel_rfl) (by kernel_rfl) mixed tdsOk (.cons (laws_szLine.ok k) EntsOk.nil) (by kernel_rfl) (Nat.le_of_ble_eq_true (by kernel_rfl)) (by kernel_rfl) (laws_szLineS.runs k) (laws_szLineS.obls k)
/-! loop.example/g00200/laws.szEntryS -/
def laws_szEntryS.f (k : Nat) (a0 : De5) (a1 : Int) : Option (Int) :=
  if (w64 (a1 - (a0.length : Int))) < 0 then (some (-1)) else (some (w64 (a1 - (a0.length : Int))))
def laws_szEntryS.sig : Sig := ⟨[.val false (.sl 208 Ty5) [0], .val false TyI []], [.val false TyI []]⟩
def laws_szEntryS.F (k : Nat) (x : Args laws_szEntryS.sig.ps) : Option (Res laws_szEntryS.sig) := laws_szEntryS.f k x.1 x.2.1
def laws_szEntryS.ann (k : Nat) : Ann (Res laws_szEntryS.sig) := .nil
def laws_szEntryS.ent : Ent := ⟨68, laws_szEntryS.sig, laws_szEntryS.F⟩
def laws_szEntryS.ctx (k : Nat) : Ctx := ⟨tds, [], k, 12⟩
theorem laws_szEntryS.runs (k : Nat) (x : Args laws_szEntryS.sig.ps) : laws_szEntryS.F k x = runF (laws_szEntryS.ctx k) laws_szEntryS.sig Try.f68 (Try.f68.body.getD .skip) (laws_szEntryS.ann k) x := by kernel_rfl
theorem laws_szEntryS.obls (k : Nat) : obl (laws_szEntryS.ctx k) 1 (Try.f68.body.getD .skip) (laws_szEntryS.ann k) (retK tds laws_szEntryS.sig Try.f68.results.toList) := ⟨trivial, ⟨trivial, ⟨⟨trivial, ⟨⟨trivial, trivial⟩, trivial⟩⟩, ⟨trivial, trivial⟩⟩⟩⟩
theorem laws_szEntryS.ok (k : Nat) : EntOk Try.prog k laws_szEntryS.ent := fn_ok (C := laws_szEntryS.ctx k) Try.func68 (by kernel_rfl) (by kernel_rfl) mixed tdsOk EntsOk.nil (by kernel_rfl) (Nat.le_of_ble_eq_true (by kernel_rfl)) (by kernel_rfl) (laws_szEntryS.runs k) (laws_szEntryS.obls k)
/-! loop.example/g00200/laws.szKernel -/
def laws_szKernel.f (k : Nat) (a0 : DeK) (a1 : Int) : Option (Int) :=
  (laws_szSetup.f k a0.1 a1).bind fun t1 => (if t1 < 0 then (some (-1)) else ((laws_szArena.f k a0.2.1 t1).bind fun t2 => (if t2 < 0 then (some (-1)) else ((laws_szPartS.f k a0.2.2.1 t2).bind fun t3 => (if t3 < 0 then (some (-1)) else ((laws_szLineS.f k a0.2.2.2.1 t3).bind fun t4 => (if t4 < 0 then (some (-1)) else ((laws_szIntS.f k a0.2.2.2.2.1 t4).bind fun t5 => (if t5 < 0 then (some (-1)) else ((laws_szEntryS.f k a0.2.2.2.2.2.2.2 t5).bind fun t6 => (if t6 < 0 then (some (-1)) else (some t6))))))))))))
def laws_szKernel.sig : Sig := ⟨[.val true (.pair (.pair (.sl 214 Ty2) (.pair (.sl 216 Ty2) (.pair (.sl 218 Ty5) (.pair (.sl 220 Ty3) (.sl 9 .str))))) (.pair (.sl 3 TyI) (.pair (.sl 200 TyP) (.pair (.sl 204 (.sl 243 Ty2)) (.pair (.sl 3 TyI) (.pair TyI (.pair .bool (.sl 208 Ty5)))))))) [0, 0, 0, 0, 0, 0, 0, 0, 0, 0], .val false TyI []], [.val false TyI []]⟩
def laws_szKernel.F (k : Nat) (x : Args laws_szKernel.sig.ps) : Option (Res laws_szKernel.sig) := laws_szKernel.f k x.1 x.2.1
def laws_szKernel.ann (k : Nat) : Ann (Res laws_szKernel.sig) := .nil
def laws_szKernel.ent : Ent := ⟨24, laws_szKernel.sig, laws_szKernel.F⟩
def laws_szKernel.ctx (k : Nat) : Ctx := ⟨tds, [laws_szSetup.ent, laws_szArena.ent, laws_szPartS.ent, laws_szLineS.ent, laws_szIntS.ent, laws_szEntryS.ent], k, 42⟩
theorem laws_szKernel.runs (k : Nat) (x : Args laws_szKernel.sig.ps) : laws_szKernel.F k x = runF (laws_szKernel.ctx k) laws_szKernel.sig Try.f24 (Try.f24.body.getD .skip) (laws_szKernel.ann k) x := by kernel_rfl
theorem laws_szKernel.obls (k : Nat) : obl (laws_szKernel.ctx k) 10 (Try.f24.body.getD .skip) (laws_szKernel.ann k) (retK tds laws_szKernel.sig Try.f24.results.toList) := ⟨trivial, ⟨trivial, ⟨⟨trivial, ⟨⟨trivial, trivial⟩, trivial⟩⟩, ⟨trivial, ⟨⟨trivial, ⟨⟨trivial, trivial⟩, trivial⟩⟩, ⟨trivial, ⟨⟨trivial, ⟨⟨trivial, trivial⟩, trivial⟩⟩, ⟨trivial, ⟨⟨trivial, ⟨⟨trivial, trivial⟩, trivial⟩⟩, ⟨trivial, ⟨⟨trivial, ⟨⟨trivial, trivial⟩, trivial⟩⟩, ⟨trivial, ⟨⟨trivial, ⟨⟨trivial, trivial⟩, trivial⟩⟩, ⟨trivial, trivial⟩⟩⟩⟩⟩⟩⟩⟩⟩⟩⟩⟩⟩⟩
theorem laws_szKernel.ok (k : Nat) : EntOk Try.prog k laws_szKernel.ent := fn_ok (C := laws_szKernel.ctx k) Try.func24 (by kernel_rfl) (by kernel_rfl) mixed tdsOk (.cons (laws_szSetup.ok k) (.cons (laws_szArena.ok k) (.cons (laws_szPartS.ok k) (.cons (laws_szLineS.ok k) (.cons (laws_szIntS.ok k) (.cons (laws_szEntryS.ok k) EntsOk.nil)))))) (by kernel_rfl) (Nat.le_of_ble_eq_true (by kernel_rfl)) (by kernel_rfl) (laws_szKernel.runs k) (laws_szKernel.obls k)
/-! loop.example/g00200/laws.toRegion -/
def laws_toRegion.f (k : Nat) (a0 : Int × Int) : Option (Int × Int) :=
  some a0
def laws_toRegion.sig : Sig := ⟨[.val true Ty2 []], [.val true Ty2 []]⟩
def laws_toRegion.F (k : Nat) (x : Args laws_toRegion.sig.ps) : Option (Res laws_toRegion.sig) := laws_toRegion.f k x.1
def laws_toRegion.ann (k : Nat) : Ann (Res laws_toRegion.sig) := .nil
def laws_toRegion.ent : Ent := ⟨162, laws_toRegion.sig, laws_toRegion.F⟩
def laws_toRegion.ctx (k : Nat) : Ctx := ⟨tds, [], k, 11⟩
theorem laws_toRegion.runs (k : Nat) (x : Args laws_toRegion.sig.ps) : laws_toRegion.F k x = runF (laws_toRegion.ctx k) laws_toRegion.sig Try.f162 (Try.f162.body.getD .skip) (laws_toRegion.ann k) x := by kernel_rfl
theorem laws_toRegion.obls (k : Nat) : obl (laws_toRegion.ctx k) 0 (Try.f162.body.getD .skip) (laws_toRegion.ann k) (retK tds laws_toRegion.sig Try.f162.results.toList) := ⟨trivial, ⟨trivial, ⟨trivial, ⟨trivial, ⟨trivial, trivial⟩⟩⟩⟩⟩
theorem laws_toRegion.ok (k : Nat) : EntOk Try.prog k laws_toRegion.ent := fn_ok (C := laws_toRegion.ctx k) Try.func162 (by kernel_rfl) (by kernel_rfl) mixed tdsOk EntsOk.nil (by kernel_rfl) (Nat.le_of_ble_eq_true (by kernel_rfl)) (by kernel_rfl) (laws_toRegion.runs k) (laws_toRegion.obls k)
/-! loop.example/g00200/laws.toRegionS -/
def laws_toRegionS.l1 (k : Nat)  : Nat → Int × De2 × De2 × Unit → Option De2
  | 0, _ => none
  | n + 1, (x1, x2, x3, _) => if x1 < (x2.length : Int) then (if 0 ≤ x1 then (if x1 < (x2.length : Int) then ((laws_toRegion.f k (el Ty2 x2 x1.toNat)).bind fun t2 => (if 0 ≤ x1 then (if x1 < (x3.length : Int) then (((some (x3.set x1.toNat t2))).bind fun y3 => (laws_toRegionS.l1 k n (w64 (x1 + 1), x2, y3, ()))) else none) else none)) else none) else none) else (some x3)
def laws_toRegionS.f (k : Nat) (a0 : De2) : Option De2 :=
  if (a0.length : Int) = (a0.length : Int) then (if 0 ≤ (a0.length : Int) then (if ((a0.length : Int)).toNat * 16 ≤ 281474976710656 then (((some (List.replicate ((a0.length : Int)).toNat (0, 0) : De2))).bind fun y1 => (laws_toRegionS.l1 k k (0, a0, y1, ()))) else none) else none) else none
def laws_toRegionS.Sl1 : Shape := ⟨[(0, false, [.own 0]), (3, false, [.own 1]), (4, false, [.int .i64])], [(0, .view false 214 Ty2), (1, .row 31 Ty2)], 2⟩
def laws_toRegionS.sig : Sig := ⟨[.val false (.sl 214 Ty2) [0]], [.val false (.sl 31 Ty2) [none]]⟩
def laws_toRegionS.F (k : Nat) (x : Args laws_toRegionS.sig.ps) : Option (Res laws_toRegionS.sig) := laws_toRegionS.f k x.1
def laws_toRegionS.ann (k : Nat) : Ann (Res laws_toRegionS.sig) := (.seq .nil (.seq .nil (.seq (.seq .nil (.block (.loop laws_toRegionS.Sl1 (laws_toRegionS.l1 k) fun n1 => .nil))) .nil)))
def laws_toRegionS.ent : Ent := ⟨101, laws_toRegionS.sig, laws_toRegionS.F⟩
def laws_toRegionS.ctx (k : Nat) : Ctx := ⟨tds, [laws_toRegion.ent], k, 23⟩
theorem laws_toRegionS.runs (k : Nat) (x : Args laws_toRegionS.sig.ps) : laws_toRegionS.F k x = runF (laws_toRegionS.ctx k) laws_toRegionS.sig Try.f101 (Try.f101.body.getD .skip) (laws_toRegionS.ann k) x := by kernel_rfl
theorem laws_toRegionS.obls (k : Nat) : obl (laws_toRegionS.ctx k) 1 (Try.f101.body.getD .skip) (laws_toRegionS.ann k) (retK tds laws_toRegionS.sig Try.f101.results.toList) := ⟨trivial, ⟨trivial, ⟨⟨trivial, ⟨⟨by kernel_rfl, fun x => by kernel_rfl⟩, fun n => ⟨fun x => by kernel_rfl, ⟨⟨trivial, ⟨trivial, trivial⟩⟩, ⟨trivial, trivial⟩⟩⟩⟩⟩, ⟨trivial, trivial⟩⟩⟩⟩
theorem laws_toRegionS.ok (k : Nat) : EntOk Try.prog k laws_toRegionS.ent := fn_ok (C := laws_toRegionS.ctx k) Try.func101 (by kernel_rfl) (by kernel_rfl) mixed tdsOk (.cons (laws_toRegion.ok k) EntsOk.nil) (by kernel_rfl) (Nat.le_of_ble_eq_true (by kernel_rfl)) (by kernel_rfl) (laws_toRegionS.runs k) (laws_toRegionS.obls k)
/-! loop.example/g00200/laws.toWindow -/
def laws_toWindow.f (k : Nat) (a0 : Int × Int) : Option (Int × Int) :=
  some a0
def laws_toWindow.sig : Sig := ⟨[.val true Ty2 []], [.val true Ty2 []]⟩
def laws_toWindow.F (k : Nat) (x : Args laws_toWindow.sig.ps) : Option (Res laws_toWindow.sig) := laws_toWindow.f k x.1
def laws_toWindow.ann (k : Nat) : Ann (Res laws_toWindow.sig) := .nil
def laws_toWindow.ent : Ent := ⟨163, laws_toWindow.sig, laws_toWindow.F⟩
def laws_toWindow.ctx (k : Nat) : Ctx := ⟨tds, [], k, 11⟩
theorem laws_toWindow.runs (k : Nat) (x : Args laws_toWindow.sig.ps) : laws_toWindow.F k x = runF (laws_toWindow.ctx k) laws_toWindow.sig Try.f163 (Try.f163.body.getD .skip) (laws_toWindow.ann k) x := by kernel_rfl
theorem laws_toWindow.obls (k : Nat) : obl (laws_toWindow.ctx k) 0 (Try.f163.body.getD .skip) (laws_toWindow.ann k) (retK tds laws_toWindow.sig Try.f163.results.toList) := ⟨trivial, ⟨trivial, ⟨trivial, ⟨trivial, ⟨trivial, trivial⟩⟩⟩⟩⟩
theorem laws_toWindow.ok (k : Nat) : EntOk Try.prog k laws_toWindow.ent := fn_ok (C := laws_toWindow.ctx k) Try.func163 (by kernel_rfl) (by kernel_rfl) mixed tdsOk EntsOk.nil (by kernel_rfl) (Nat.le_of_ble_eq_true (by kernel_rfl)) (by kernel_rfl) (laws_toWindow.runs k) (laws_toWindow.obls k)
/-! loop.example/g00200/laws.toWindowS -/
def laws_toWindowS.l1 (k : Nat)  : Nat → Int × De2 × De2 × Unit → Option De2
  | 0, _ => none
  | n + 1, (x1, x2, x3, _) => if x1 < (x2.length : Int) then (if 0 ≤ x1 then (if x1 < (x2.length : Int) then ((laws_toWindow.f k (el Ty2 x2 x1.toNat)).bind fun t2 => (if 0 ≤ x1 then (if x1 < (x3.length : Int) then (((some (x3.set x1.toNat t2))).bind fun y3 => (laws_toWindowS.l1 k n (w64 (x1 + 1), x2, y3, ()))) else none) else none)) else none) else none) else (some x3)
def laws_toWindowS.f (k : Nat) (a0 : De2) : Option De2 :=
  if (a0.length : Int) = (a0.length : Int) then (if 0 ≤ (a0.length : Int) then (if ((a0.length : Int)).toNat * 16 ≤ 281474976710656 then (((some (List.replicate ((a0.length : Int)).toNat (0, 0) : De2))).bind fun y1 => (laws_toWindowS.l1 k k (0, a0, y1, ()))) else none) else none) else none
def laws_toWindowS.Sl1 : Shape := ⟨[(0, false, [.own 0]), (3, false, [.own 1]), (4, false, [.int .i64])], [(0, .view false 216 Ty2), (1, .row 34 Ty2)], 2⟩
def laws_toWindowS.sig : Sig := ⟨[.val false (.sl 216 Ty2) [0]], [.val false (.sl 34 Ty2) [none]]⟩
def laws_toWindowS.F (k : Nat) (x : Args laws_toWindowS.sig.ps) : Option (Res laws_toWindowS.sig) := laws_toWindowS.f k x.1
def laws_toWindowS.ann (k : Nat) : Ann (Res laws_toWindowS.sig) := (.seq .nil (.seq .nil (.seq (.seq .nil (.block (.loop laws_toWindowS.Sl1 (laws_toWindowS.l1 k) fun n1 => .nil))) .nil)))
def laws_toWindowS.ent : Ent := ⟨102, laws_toWindowS.sig, laws_toWindowS.F⟩
def laws_toWindowS.ctx (k : Nat) : Ctx := ⟨tds, [laws_toWindow.ent], k, 23⟩
theorem laws_toWindowS.runs (k : Nat) (x : Args laws_toWindowS.sig.ps) : laws_toWindowS.F k x = runF (laws_toWindowS.ctx k) laws_toWindowS.sig Try.f102 (Try.f102.body.getD .skip) (laws_toWindowS.ann k) x := by kernel_rfl
theorem laws_toWindowS.obls (k : Nat) : obl (laws_toWindowS.ctx k) 1 (Try.f102.body.getD .skip) (laws_toWindowS.ann k) (retK tds laws_toWindowS.sig Try.f102.results.toList) := ⟨trivial, ⟨trivial, ⟨⟨trivial, ⟨⟨by kernel_rfl, fun x => by kernel_rfl⟩, fun n => ⟨fun x => by kernel_rfl, ⟨⟨trivial, ⟨trivial, trivial⟩⟩, ⟨trivial, trivial⟩⟩⟩⟩⟩, ⟨trivial, trivial⟩⟩⟩⟩
theorem laws_toWindowS.ok (k : Nat) : EntOk Try.prog k laws_toWindowS.ent := fn_ok (C := laws_toWindowS.ctx k) Try.func102 (by kernel_rfl) (by kernel_rfl) mixed tdsOk (.cons (laws_toWindow.ok k) EntsOk.nil) (by kernel_rfl) (Nat.le_of_ble_eq_true (by kernel_rfl)) (by kernel_rfl) (laws_toWindowS.runs k) (laws_toWindowS.obls k)
/-! loop.example/g00200/laws.toPort -/
def laws_toPort.f (k : Nat) (a0 : Int × Int × Int × Int × Int) : Option (Int × Int × Int × Int × Int) :=
  some a0
def laws_toPort.sig : Sig := ⟨[.val true Ty5 []], [.val true Ty5 []]⟩
def laws_toPort.F (k : Nat) (x : Args laws_toPort.sig.ps) : Option (Res laws_toPort.sig) := laws_toPort.f k x.1
def laws_toPort.ann (k : Nat) : Ann (Res laws_toPort.sig) := .nil
def laws_toPort.ent : Ent := ⟨164, laws_toPort.sig, laws_toPort.F⟩
def laws_toPort.ctx (k : Nat) : Ctx := ⟨tds, [], k, 20⟩
theorem laws_toPort.runs (k : Nat) (x : Args laws_toPort.sig.ps) : laws_toPort.F k x = runF (laws_toPort.ctx k) laws_toPort.sig Try.f164 (Try.f164.body.getD .skip) (laws_toPort.ann k) x := by kernel_rfl
theorem laws_toPort.obls (k : Nat) : obl (laws_toPort.ctx k) 0 (Try.f164.body.getD .skip) (laws_toPort.ann k) (retK tds laws_toPort.sig Try.f164.results.toList) := ⟨trivial, ⟨trivial, ⟨trivial, ⟨trivial, ⟨trivial, ⟨trivial, ⟨trivial, ⟨trivial, trivial⟩⟩⟩⟩⟩⟩⟩⟩
theorem laws_toPort.ok (k : Nat) : EntOk Try.prog k laws_toPort.ent := fn_ok (C := laws_toPort.ctx k) Try.func164 (by kernel_rfl) (by kernel_rfl) mixed tdsOk EntsOk.nil (by kernel_rfl) (Nat.le_of_ble_eq_true (by kernel_rfl)) (by kernel_rfl) (laws_toPort.runs k) (laws_toPort.obls k)
/-! loop.example/g00200/laws.toPortS -/
def laws_toPortS.l1 (k : Nat)  : Nat → Int × De5 × De5 × Unit → Option De5
  | 0, _ => none
  | n + 1, (x1, x2, x3, _) => if x1 < (x2.length : Int) then (if 0 ≤ x1 then (if x1 < (x2.length : Int) then ((laws_toPort.f k ((el Ty5 x2 x1.toNat).1, (((el Ty5 x2 x1.toNat).2).1, ((((el Ty5 x2 x1.toNat).2).2).1, ((((el Ty5 x2 x1.toNat).2).2).2))))).bind fun t2 => (if 0 ≤ x1 then (if x1 < (x3.length : Int) then (((some (x3.set x1.toNat t2))).bind fun y3 => (laws_toPortS.l1 k n (w64 (x1 + 1), x2, y3, ()))) else none) else none)) else none) else none) else (some x3)
def laws_toPortS.f (k : Nat) (a0 : De5) : Option De5 :=
  if (a0.length : Int) = (a0.length : Int) then (if 0 ≤ (a0.length : Int) then (if ((a0.length : Int)).toNat * 40 ≤ 281474976710656 then (((some (List.replicate ((a0.length : Int)).toNat (0, (0, (0, (0, 0)))) : De5))).bind fun y1 => (laws_toPortS.l1 k k (0, a0, y1, ()))) else none) else none) else none
def laws_toPortS.Sl1 : Shape := ⟨[(0, false, [.own 0]), (3, false, [.own 1]), (4, false, [.int .i64])], [(0, .view false 218 Ty5), (1, .row 63 Ty5)], 2⟩
def laws_toPortS.sig : Sig := ⟨[.val false (.sl 218 Ty5) [0]], [.val false (.sl 63 Ty5) [none]]⟩
def laws_toPortS.F (k : Nat) (x : Args laws_toPortS.sig.ps) : Option (Res laws_toPortS.sig) := laws_toPortS.f k x.1
def laws_toPortS.ann (k : Nat) : Ann (Res laws_toPortS.sig) := (.seq .nil (.seq .nil (.seq (.seq .nil (.block (.loop laws_toPortS.Sl1 (laws_toPortS.l1 k) fun n1 => .nil))) .nil)))
def laws_toPortS.ent : Ent := ⟨103, laws_toPortS.sig, laws_toPortS.F⟩
def laws_toPortS.ctx (k : Nat) : Ctx := ⟨tds, [laws_toPort.ent], k, 23⟩
theorem laws_toPortS.runs (k : Nat) (x : Args laws_toPortS.sig.ps) : laws_toPortS.F k x = runF (laws_toPortS.ctx k) laws_toPortS.sig Try.f103 (Try.f103.body.getD .skip) (laws_toPortS.ann k) x := by kernel_rfl
theorem laws_toPortS.obls (k : Nat) : obl (laws_toPortS.ctx k) 1 (Try.f103.body.getD .skip) (laws_toPortS.ann k) (retK tds laws_toPortS.sig Try.f103.results.toList) := ⟨trivial, ⟨trivial, ⟨⟨trivial, ⟨⟨by kernel_rfl, fun x => by kernel_rfl⟩, fun n => ⟨fun x => by kernel_rfl, ⟨⟨trivial, ⟨trivial, trivial⟩⟩, ⟨trivial, trivial⟩⟩⟩⟩⟩, ⟨trivial, trivial⟩⟩⟩⟩
theorem laws_toPortS.ok (k : Nat) : EntOk Try.prog k laws_toPortS.ent := fn_ok (C := laws_toPortS.ctx k) Try.func103 (by kernel_rfl) (by kernel_rfl) mixed tdsOk (.cons (laws_toPort.ok k) EntsOk.nil) (by kernel_rfl) (Nat.le_of_ble_eq_true (by kernel_rfl)) (by kernel_rfl) (laws_toPortS.runs k) (laws_toPortS.obls k)
/-! loop.example/g00200/laws.toRule -/
def laws_toRule.f (k : Nat) (a0 : Int × Int × Int) : Option (Int × Int × Int) :=
  some a0
def laws_toRule.sig : Sig := ⟨[.val true Ty3 []], [.val true Ty3 []]⟩
def laws_toRule.F (k : Nat) (x : Args laws_toRule.sig.ps) : Option (Res laws_toRule.sig) := laws_toRule.f k x.1
def laws_toRule.ann (k : Nat) : Ann (Res laws_toRule.sig) := .nil
def laws_toRule.ent : Ent := ⟨165, laws_toRule.sig, laws_toRule.F⟩
def laws_toRule.ctx (k : Nat) : Ctx := ⟨tds, [], k, 14⟩
theorem laws_toRule.runs (k : Nat) (x : Args laws_toRule.sig.ps) : laws_toRule.F k x = runF (laws_toRule.ctx k) laws_toRule.sig Try.f165 (Try.f165.body.getD .skip) (laws_toRule.ann k) x := by kernel_rfl
theorem laws_toRule.obls (k : Nat) : obl (laws_toRule.ctx k) 0 (Try.f165.body.getD .skip) (laws_toRule.ann k) (retK tds laws_toRule.sig Try.f165.results.toList) := ⟨trivial, ⟨trivial, ⟨trivial, ⟨trivial, ⟨trivial, ⟨trivial, trivial⟩⟩⟩⟩⟩⟩
theorem laws_toRule.ok (k : Nat) : EntOk Try.prog k laws_toRule.ent := fn_ok (C := laws_toRule.ctx k) Try.func165 (by kernel_rfl) (by kernel_rfl) mixed tdsOk EntsOk.nil (by kernel_rfl) (Nat.le_of_ble_eq_true (by kernel_rfl)) (by kernel_rfl) (laws_toRule.runs k) (laws_toRule.obls k)
/-! loop.example/g00200/laws.toRuleS -/
def laws_toRuleS.l1 (k : Nat)  : Nat → Int × De3 × De3 × Unit → Option De3
  | 0, _ => none
  | n + 1, (x1, x2, x3, _) => if x1 < (x2.length : Int) then (if 0 ≤ x1 then (if x1 < (x2.length : Int) then ((laws_toRule.f k ((el Ty3 x2 x1.toNat).1, ((el Ty3 x2 x1.toNat).2))).bind fun t2 => (if 0 ≤ x1 then (if x1 < (x3.length : Int) then (((some (x3.set x1.toNat t2))).bind fun y3 => (laws_toRuleS.l1 k n (w64 (x1 + 1), x2, y3, ()))) else none) else none)) else none) else none) else (some x3)
def laws_toRuleS.f (k : Nat) (a0 : De3) : Option De3 :=
  if (a0.length : Int) = (a0.length : Int) then (if 0 ≤ (a0.length : Int) then (if ((a0.length : Int)).toNat * 24 ≤ 281474976710656 then (((some (List.replicate ((a0.length : Int)).toNat (0, (0, 0)) : De3))).bind fun y1 => (laws_toRuleS.l1 k k (0, a0, y1, ()))) else none) else none) else none
def laws_toRuleS.Sl1 : Shape := ⟨[(0, false, [.own 0]), (3, false, [.own 1]), (4, false, [.int .i64])], [(0, .view false 220 Ty3), (1, .row 39 Ty3)], 2⟩
def laws_toRuleS.sig : Sig := ⟨[.val false (.sl 220 Ty3) [0]], [.val false (.sl 39 Ty3) [none]]⟩
def laws_toRuleS.F (k : Nat) (x : Args laws_toRuleS.sig.ps) : Option (Res laws_toRuleS.sig) := laws_toRuleS.f k x.1
def laws_toRuleS.ann (k : Nat) : Ann (Res laws_toRuleS.sig) := (.seq .nil (.seq .nil (.seq (.seq .nil (.block (.loop laws_toRuleS.Sl1 (laws_toRuleS.l1 k) fun n1 => .nil))) .nil)))
def laws_toRuleS.ent : Ent := ⟨104, laws_toRuleS.sig, laws_toRuleS.F⟩
def laws_toRuleS.ctx (k : Nat) : Ctx := ⟨tds, [laws_toRule.ent], k, 23⟩
theorem laws_toRuleS.runs (k : Nat) (x : Args laws_toRuleS.sig.ps) : laws_toRuleS.F k x = runF (laws_toRuleS.ctx k) laws_toRuleS.sig Try.f104 (Try.f104.body.getD .skip) (laws_toRuleS.ann k) x := by kernel_rfl
theorem laws_toRuleS.obls (k : Nat) : obl (laws_toRuleS.ctx k) 1 (Try.f104.body.getD .skip) (laws_toRuleS.ann k) (retK tds laws_toRuleS.sig Try.f104.results.toList) := ⟨trivial, ⟨trivial, ⟨⟨trivial, ⟨⟨by kernel_rfl, fun x => by kernel_rfl⟩, fun n => ⟨fun x => by kernel_rfl, ⟨⟨trivial, ⟨trivial, trivial⟩⟩, ⟨trivial, trivial⟩⟩⟩⟩⟩, ⟨trivial, trivial⟩⟩⟩⟩
theorem laws_toRuleS.ok (k : Nat) : EntOk Try.prog k laws_toRuleS.ent := fn_ok (C := laws_toRuleS.ctx k) Try.func104 (by kernel_rfl) (by kernel_rfl) mixed tdsOk (.cons (laws_toRule.ok k) EntsOk.nil) (by kernel_rfl) (Nat.le_of_ble_eq_true (by kernel_rfl)) (by kernel_rfl) (laws_toRuleS.runs k) (laws_toRuleS.obls k)
/-! loop.example/g00200/laws.toStringS -/
def laws_toStringS.l1 (k : Nat)  : Nat → Int × DeB × DeB × Unit → Option DeB
  | 0, _ => none
  | n + 1, (x1, x2, x3, _) => if x1 < (x2.length : Int) then (if 0 ≤ x1 then (if x1 < (x2.length : Int) then (if 0 ≤ x1 then (if x1 < (x3.length : Int) then (((some (x3.set x1.toNat (el .str x2 x1.toNat)))).bind fun y2 => (laws_toStringS.l1 k n (w64 (x1 + 1), x2, y2, ()))) else none) else none) else none) else none) else (some x3)
def laws_toStringS.f (k : Nat) (a0 : DeB) : Option DeB :=
  if (a0.length : Int) = (a0.length : Int) then (if 0 ≤ (a0.length : Int) then (if ((a0.length : Int)).toNat * 16 ≤ 281474976710656 then (((some (List.replicate ((a0.length : Int)).toNat (⟨#[]⟩ : ByteArray) : DeB))).bind fun y1 => (laws_toStringS.l1 k k (0, a0, y1, ()))) else none) else none) else none
def laws_toStringS.Sl1 : Shape := ⟨[(0, false, [.own 0]), (3, false, [.own 1]), (4, false, [.int .i64])], [(0, .view false 9 .str), (1, .row 9 .str)], 2⟩
def laws_toStringS.sig : Sig := ⟨[.val false (.sl 9 .str) [0]], [.val false (.sl 9 .str) [none]]⟩
def laws_toStringS.F (k : Nat) (x : Args laws_toStringS.sig.ps) : Option (Res laws_toStringS.sig) := laws_toStringS.f k x.1
def laws_toStringS.ann (k : Nat) : Ann (Res laws_toStringS.sig) := (.seq .nil (.seq .nil (.seq (.seq .nil (.block (.loop laws_toStringS.Sl1 (laws_toStringS.l1 k) fun n1 => .nil))) .nil)))
def laws_toStringS.ent : Ent := ⟨105, laws_toStringS.sig, laws_toStringS.F⟩
def laws_toStringS.ctx (k : Nat) : Ctx := ⟨tds, [], k, 22⟩
theorem laws_toStringS.runs (k : Nat) (x : Args laws_toStringS.sig.ps) : laws_toStringS.F k x = runF (laws_toStringS.ctx k) laws_toStringS.sig Try.f105 (Try.f105.body.getD .skip) (laws_toStringS.ann k) x := by kernel_rfl
theorem laws_toStringS.obls (k : Nat) : obl (laws_toStringS.ctx k) 1 (Try.f105.body.getD .skip) (laws_toStringS.ann k) (retK tds laws_toStringS.sig Try.f105.results.toList) := ⟨trivial, ⟨trivial, ⟨⟨trivial, ⟨⟨by kernel_rfl, fun x => by kernel_rfl⟩, fun n => ⟨fun x => by kernel_rfl, ⟨⟨trivial, ⟨trivial, trivial⟩⟩, ⟨trivial, trivial⟩⟩⟩⟩⟩, ⟨trivial, trivial⟩⟩⟩⟩
theorem laws_toStringS.ok (k : Nat) : EntOk Try.prog k laws_toStringS.ent := fn_ok (C := laws_toStringS.ctx k) Try.func105 (by kernel_rfl) (by kernel_rfl) mixed tdsOk EntsOk.nil (by kernel_rfl) (Nat.le_of_ble_eq_true (by kernel_rfl)) (by kernel_rfl) (laws_toStringS.runs k) (laws_toStringS.obls k)
/-! loop.example/g00200/laws.toSetup -/
def laws_toSetup.f (k : Nat) (a0 : De2 × De2 × De5 × De3 × DeB) : Option DeS :=
  (laws_toRegionS.f k a0.1).bind fun t1 => ((laws_toWindowS.f k a0.2.1).bind fun t2 => ((laws_toPortS.f k a0.2.2.1).bind fun t3 => ((laws_toRuleS.f k a0.2.2.2.1).bind fun t4 => ((laws_toStringS.f k a0.2.2.2.2).bind fun t5 => (some (t1, (t2, (t3, (t4, t5)))))))))
def laws_toSetup.sig : Sig := ⟨[.val true (.pair (.sl 214 Ty2) (.pair (.sl 216 Ty2) (.pair (.sl 218 Ty5) (.pair (.sl 220 Ty3) (.sl 9 .str))))) [0, 0, 0, 0, 0]], [.val true (.pair (.sl 31 Ty2) (.pair (.sl 34 Ty2) (.pair (.sl 63 Ty5) (.pair (.sl 39 Ty3) (.sl 9 .str))))) [none, none, none, none, none]]⟩
def laws_toSetup.F (k : Nat) (x : Args laws_toSetup.sig.ps) : Option (Res laws_toSetup.sig) := laws_toSetup.f k x.1
def laws_toSetup.ann (k : Nat) : Ann (Res laws_toSetup.sig) := .nil
def laws_toSetup.ent : Ent := ⟨39, laws_toSetup.sig, laws_toSetup.F⟩
def laws_toSetup.ctx (k : Nat) : Ctx := ⟨tds, [laws_toRegionS.ent, laws_toWindowS.ent, laws_toPortS.ent, laws_toRuleS.ent, laws_toStringS.ent], k, 25⟩
theorem laws_toSetup.runs (k : Nat) (x : Args laws_toSetup.sig.ps) : laws_toSetup.F k x = runF (laws_toSetup.ctx k) laws_toSetup.sig Try.f39 (Try.f39.body.getD .skip) (laws_toSetup.ann k) x := by kernel_rfl
theorem laws_toSetup.obls (k : Nat) : obl (laws_toSetup.ctx k) 5 (Try.f39.body.getD .skip) (laws_toSetup.ann k) (retK tds laws_toSetup.sig Try.f39.results.toList) := ⟨trivial, ⟨trivial, ⟨trivial, ⟨trivial, ⟨trivial, ⟨trivial, ⟨trivial, ⟨trivial, trivial⟩⟩⟩⟩⟩⟩⟩⟩
theorem laws_toSetup.ok (k : Nat) : EntOk Try.prog k laws_toSetup.ent := fn_ok (C := laws_toSetup.ctx k) Try.func39 (by kernel_rfl) (by kernel_rfl) mixed tdsOk (.cons (laws_toRegionS.ok k) (.cons (laws_toWindowS.ok k) (.cons (laws_toPortS.ok k) (.cons (laws_toRuleS.ok k) (.cons (laws_toStringS.ok k) EntsOk.nil))))) (by kernel_rfl) (Nat.le_of_ble_eq_true (by kernel_rfl)) (by kernel_rfl) (laws_toSetup.runs k) (laws_toSetup.obls k)
/-! loop.example/g00200/laws.toIntS -/
def laws_toIntS.l1 (k : Nat)  : Nat → Int × DeI × DeI × Unit → Option DeI
  | 0, _ => none
  | n + 1, (x1, x2, x3, _) => if x1 < (x2.length : Int) then (if 0 ≤ x1 then (if x1 < (x2.length : Int) then (if 0 ≤ x1 then (if x1 < (x3.length : Int) then (((some (x3.set x1.toNat (el TyI x2 x1.toNat)))).bind fun y2 => (laws_toIntS.l1 k n (w64 (x1 + 1), x2, y2, ()))) else none) else none) else none) else none) else (some x3)
def laws_toIntS.f (k : Nat) (a0 : DeI) : Option DeI :=
  if (a0.length : Int) = (a0.length : Int) then (if 0 ≤ (a0.length : Int) then (if ((a0.length : Int)).toNat * 8 ≤ 281474976710656 then (((some (List.replicate ((a0.length : Int)).toNat 0 : DeI))).bind fun y1 => (laws_toIntS.l1 k k (0, a0, y1, ()))) else none) else none) else none
def laws_toIntS.Sl1 : Shape := ⟨[(0, false, [.own 0]), (3, false, [.own 1]), (4, false, [.int .i64])], [(0, .view false 3 TyI), (1, .row 3 TyI)], 2⟩
def laws_toIntS.sig : Sig := ⟨[.val false (.sl 3 TyI) [0]], [.val false (.sl 3 TyI) [none]]⟩
def laws_toIntS.F (k : Nat) (x : Args laws_toIntS.sig.ps) : Option (Res laws_toIntS.sig) := laws_toIntS.f k x.1
def laws_toIntS.ann (k : Nat) : Ann (Res laws_toIntS.sig) := (.seq .nil (.seq .nil (.seq (.seq .nil (.block (.loop laws_toIntS.Sl1 (laws_toIntS.l1 k) fun n1 => .nil))) .nil)))
def laws_toIntS.ent : Ent := ⟨75, laws_toIntS.sig, laws_toIntS.F⟩
def laws_toIntS.ctx (k : Nat) : Ctx := ⟨tds, [], k, 22⟩
theorem laws_toIntS.runs (k : Nat) (x : Args laws_toIntS.sig.ps) : laws_toIntS.F k x = runF (laws_toIntS.ctx k) laws_toIntS.sig Try.f75 (Try.f75.body.getD .skip) (laws_toIntS.ann k) x := by kernel_rfl
theorem laws_toIntS.obls (k : Nat) : obl (laws_toIntS.ctx k) 1 (Try.f75.body.getD .skip) (laws_toIntS.ann k) (retK tds laws_toIntS.sig Try.f75.results.toList) := ⟨trivial, ⟨trivial, ⟨⟨trivial, ⟨⟨by kernel_rfl, fun x => by kernel_rfl⟩, fun n => ⟨fun x => by kernel_rfl, ⟨⟨trivial, ⟨trivial, trivial⟩⟩, ⟨trivial, trivial⟩⟩⟩⟩⟩, ⟨trivial, trivial⟩⟩⟩⟩
theorem laws_toIntS.ok (k : Nat) : EntOk Try.prog k laws_toIntS.ent := fn_ok (C := laws_toIntS.ctx k) Try.func75 (by kernel_rfl) (by kernel_rfl) mixed tdsOk EntsOk.nil (by kernel_rfl) (Nat.le_of_ble_eq_true (by kernel_rfl)) (by kernel_rfl) (laws_toIntS.runs k) (laws_toIntS.obls k)
/-! loop.example/g00200/laws.toArena -/
def laws_toArena.f (k : Nat) (a0 : DeI) : Option DeI :=
  (laws_toIntS.f k a0).bind fun t1 => (some t1)
def laws_toArena.sig : Sig := ⟨[.val true (.sl 3 TyI) [0]], [.val true (.sl 3 TyI) [none]]⟩
def laws_toArena.F (k : Nat) (x : Args laws_toArena.sig.ps) : Option (Res laws_toArena.sig) := laws_toArena.f k x.1
def laws_toArena.ann (k : Nat) : Ann (Res laws_toArena.sig) := .nil
def laws_toArena.ent : Ent := ⟨72, laws_toArena.sig, laws_toArena.F⟩
def laws_toArena.ctx (k : Nat) : Ctx := ⟨tds, [laws_toIntS.ent], k, 9⟩
theorem laws_toArena.runs (k : Nat) (x : Args laws_toArena.sig.ps) : laws_toArena.F k x = runF (laws_toArena.ctx k) laws_toArena.sig Try.f72 (Try.f72.body.getD .skip) (laws_toArena.ann k) x := by kernel_rfl
theorem laws_toArena.obls (k : Nat) : obl (laws_toArena.ctx k) 1 (Try.f72.body.getD .skip) (laws_toArena.ann k) (retK tds laws_toArena.sig Try.f72.results.toList) := ⟨trivial, ⟨trivial, ⟨trivial, ⟨trivial, trivial⟩⟩⟩⟩
theorem laws_toArena.ok (k : Nat) : EntOk Try.prog k laws_toArena.ent := fn_ok (C := laws_toArena.ctx k) Try.func72 (by kernel_rfl) (by kernel_rfl) mixed tdsOk (.cons (laws_toIntS.ok k) EntsOk.nil) (by kernel_rfl) (Nat.le_of_ble_eq_true (by kernel_rfl)) (by kernel_rfl) (laws_toArena.runs k) (laws_toArena.obls k)
/-! loop.example/g00200/laws.toCpu -/
def laws_toCpu.f (k : Nat) (a0 : Int × DeI) : Option (Int × DeI) :=
  (laws_toIntS.f k a0.2).bind fun t1 => (some (a0.1, t1))
def laws_toCpu.sig : Sig := ⟨[.val true (.pair TyI (.sl 3 TyI)) [0]], [.val true (.pair TyI (.sl 3 TyI)) [none]]⟩
def laws_toCpu.F (k : Nat) (x : Args laws_toCpu.sig.ps) : Option (Res laws_toCpu.sig) := laws_toCpu.f k x.1
def laws_toCpu.ann (k : Nat) : Ann (Res laws_toCpu.sig) := .nil
def laws_toCpu.ent : Ent := ⟨192, laws_toCpu.sig, laws_toCpu.F⟩
def laws_toCpu.ctx (k : Nat) : Ctx := ⟨tds, [laws_toIntS.ent], k, 12⟩
theorem laws_toCpu.runs (k : Nat) (x : Args laws_toCpu.sig.ps) : laws_toCpu.F k x = runF (laws_toCpu.ctx k) laws_toCpu.sig Try.f192 (Try.f192.body.getD .skip) (laws_toCpu.ann k) x := by kernel_rfl
theorem laws_toCpu.obls (k : Nat) : obl (laws_toCpu.ctx k) 1 (Try.f192.body.getD .skip) (laws_toCpu.ann k) (retK tds laws_toCpu.sig Try.f192.results.toList) := ⟨trivial, ⟨trivial, ⟨trivial, ⟨trivial, ⟨trivial, trivial⟩⟩⟩⟩⟩
theorem laws_toCpu.ok (k : Nat) : EntOk Try.prog k laws_toCpu.ent := fn_ok (C := laws_toCpu.ctx k) Try.func192 (by kernel_rfl) (by kernel_rfl) mixed tdsOk (.cons (laws_toIntS.ok k) EntsOk.nil) (by kernel_rfl) (Nat.le_of_ble_eq_true (by kernel_rfl)) (by kernel_rfl) (laws_toCpu.runs k) (laws_toCpu.obls k)
/-! loop.example/g00200/laws.toPart -/
def laws_toPart.f (k : Nat) (a0 : Int × (Int × DeI) × Int × Int × Int) : Option (Int × (Int × DeI) × Int × Int × Int) :=
  (laws_toCpu.f k a0.2.1).bind fun t1 => (some (a0.1, (t1, a0.2.2)))
def laws_toPart.sig : Sig := ⟨[.val true TyP [0]], [.val true TyP [none]]⟩
def laws_toPart.F (k : Nat) (x : Args laws_toPart.sig.ps) : Option (Res laws_toPart.sig) := laws_toPart.f k x.1
def laws_toPart.ann (k : Nat) : Ann (Res laws_toPart.sig) := .nil
def laws_toPart.ent : Ent := ⟨149, laws_toPart.sig, laws_toPart.F⟩
def laws_toPart.ctx (k : Nat) : Ctx := ⟨tds, [laws_toCpu.ent], k, 21⟩
theorem laws_toPart.runs (k : Nat) (x : Args laws_toPart.sig.ps) : laws_toPart.F k x = runF (laws_toPart.ctx k) laws_toPart.sig Try.f149 (Try.f149.body.getD .skip) (laws_toPart.ann k) x := by kernel_rfl
theorem laws_toPart.obls (k : Nat) : obl (laws_toPart.ctx k) 1 (Try.f149.body.getD .skip) (laws_toPart.ann k) (retK tds laws_toPart.sig Try.f149.results.toList) := ⟨trivial, ⟨trivial, ⟨trivial, ⟨trivial, ⟨trivial, ⟨trivial, ⟨trivial, ⟨trivial, trivial⟩⟩⟩⟩⟩⟩⟩⟩
theorem laws_toPart.ok (k : Nat) : EntOk Try.prog k laws_toPart.ent := fn_ok (C := laws_toPart.ctx k) Try.func149 (by kernel_rfl) (by kernel_rfl) mixed tdsOk (.cons (laws_toCpu.ok k) EntsOk.nil) (by kernel_rfl) (Nat.le_of_ble_eq_true (by kernel_rfl)) (by kernel_rfl) (laws_toPart.runs k) (laws_toPart.obls k)
/-! loop.example/g00200/laws.toPartS -/
def laws_toPartS.l1 (k : Nat)  : Nat → Int × DeP × DeP × Unit → Option DeP
  | 0, _ => none
  | n + 1, (x1, x2, x3, _) => if x1 < (x2.length : Int) then (if 0 ≤ x1 then (if x1 < (x2.length : Int) then ((laws_toPart.f k ((el TyP x2 x1.toNat).1, ((((el TyP x2 x1.toNat).2).1), ((((el TyP x2 x1.toNat).2).2).1, ((((el TyP x2 x1.toNat).2).2).2))))).bind fun t2 => (if 0 ≤ x1 then (if x1 < (x3.length : Int) then (((some (x3.set x1.toNat (t2.1, (t2.2.1, t2.2.2))))).bind fun y3 => (laws_toPartS.l1 k n (w64 (x1 + 1), x2, y3, ()))) else none) else none)) else none) else none) else (some x3)
def laws_toPartS.f (k : Nat) (a0 : DeP) : Option DeP :=
  if (a0.length : Int) = (a0.length : Int) then (if 0 ≤ (a0.length : Int) then (if ((a0.length : Int)).toNat * 64 ≤ 281474976710656 then (((some (List.replicate ((a0.length : Int)).toNat (0, ((0, []), (0, (0, 0)))) : DeP))).bind fun y1 => (laws_toPartS.l1 k k (0, a0, y1, ()))) else none) else none) else none
def laws_toPartS.Sl1 : Shape := ⟨[(0, false, [.own 0]), (3, false, [.own 1]), (4, false, [.int .i64])], [(0, .view false 200 TyP), (1, .row 59 TyP)], 2⟩
def laws_toPartS.sig : Sig := ⟨[.val false (.sl 200 TyP) [0]], [.val false (.sl 59 TyP) [none]]⟩
def laws_toPartS.F (k : Nat) (x : Args laws_toPartS.sig.ps) : Option (Res laws_toPartS.sig) := laws_toPartS.f k x.1
def laws_toPartS.ann (k : Nat) : Ann (Res laws_toPartS.sig) := (.seq .nil (.seq .nil (.seq (.seq .nil (.block (.loop laws_toPartS.Sl1 (laws_toPartS.l1 k) fun n1 => .nil))) .nil)))
def laws_toPartS.ent : Ent := ⟨73, laws_toPartS.sig, laws_toPartS.F⟩
def laws_toPartS.ctx (k : Nat) : Ctx := ⟨tds, [laws_toPart.ent], k, 23⟩
theorem laws_toPartS.runs (k : Nat) (x : Args laws_toPartS.sig.ps) : laws_toPartS.F k x = runF (laws_toPartS.ctx k) laws_toPartS.sig Try.f73 (Try.f73.body.getD .skip) (laws_toPartS.ann k) x := by kernel_rfl
theorem laws_toPartS.obls (k : Nat) : obl (laws_toPartS.ctx k) 1 (Try.f73.body.getD .skip) (laws_toPartS.ann k) (retK tds laws_toPartS.sig Try.f73.results.toList) := ⟨trivial, ⟨trivial, ⟨⟨trivial, ⟨⟨by kernel_rfl, fun x => by kernel_rfl⟩, fun n => ⟨fun x => by kernel_rfl, ⟨⟨trivial, ⟨trivial, trivial⟩⟩, ⟨trivial, trivial⟩⟩⟩⟩⟩, ⟨trivial, trivial⟩⟩⟩⟩
theorem laws_toPartS.ok (k : Nat) : EntOk Try.prog k laws_toPartS.ent := fn_ok (C := laws_toPartS.ctx k) Try.func73 (by kernel_rfl) (by kernel_rfl) mixed tdsOk (.cons (laws_toPart.ok k) EntsOk.nil) (by kernel_rfl) (Nat.le_of_ble_eq_true (by kernel_rfl)) (by kernel_rfl) (laws_toPartS.runs k) (laws_toPartS.obls k)
/-! loop.example/g00200/laws.toMsg -/
def laws_toMsg.f (k : Nat) (a0 : Int × Int) : Option (Int × Int) :=
  some a0
def laws_toMsg.sig : Sig := ⟨[.val true Ty2 []], [.val true Ty2 []]⟩
def laws_toMsg.F (k : Nat) (x : Args laws_toMsg.sig.ps) : Option (Res laws_toMsg.sig) := laws_toMsg.f k x.1
def laws_toMsg.ann (k : Nat) : Ann (Res laws_toMsg.sig) := .nil
def laws_toMsg.ent : Ent := ⟨198, laws_toMsg.sig, laws_toMsg.F⟩
def laws_toMsg.ctx (k : Nat) : Ctx := ⟨tds, [], k, 11⟩
theorem laws_toMsg.runs (k : Nat) (x : Args laws_toMsg.sig.ps) : laws_toMsg.F k x = runF (laws_toMsg.ctx k) laws_toMsg.sig Try.f198 (Try.f198.body.getD .skip) (laws_toMsg.ann k) x := by kernel_rfl
theorem laws_toMsg.obls (k : Nat) : obl (laws_toMsg.ctx k) 0 (Try.f198.body.getD .skip) (laws_toMsg.ann k) (retK tds laws_toMsg.sig Try.f198.results.toList) := ⟨trivial, ⟨trivial, ⟨trivial, ⟨trivial, ⟨trivial, trivial⟩⟩⟩⟩⟩
theorem laws_toMsg.ok (k : Nat) : EntOk Try.prog k laws_toMsg.ent := fn_ok (C := laws_toMsg.ctx k) Try.func198 (by kernel_rfl) (by kernel_rfl) mixed tdsOk EntsOk.nil (by kernel_rfl) (Nat.le_of_ble_eq_true (by kernel_rfl)) (by kernel_rfl) (laws_toMsg.runs k) (laws_toMsg.obls k)
/-! loop.example/g00200/laws.toMsgS -/
def laws_toMsgS.l1 (k : Nat)  : Nat → Int × De2 × De2 × Unit → Option De2
  | 0, _ => none
  | n + 1, (x1, x2, x3, _) => if x1 < (x2.length : Int) then (if 0 ≤ x1 then (if x1 < (x2.length : Int) then ((laws_toMsg.f k (el Ty2 x2 x1.toNat)).bind fun t2 => (if 0 ≤ x1 then (if x1 < (x3.length : Int) then (((some (x3.set x1.toNat t2))).bind fun y3 => (laws_toMsgS.l1 k n (w64 (x1 + 1), x2, y3, ()))) else none) else none)) else none) else none) else (some x3)
def laws_toMsgS.f (k : Nat) (a0 : De2) : Option De2 :=
  if (a0.length : Int) = (a0.length : Int) then (if 0 ≤ (a0.length : Int) then (if ((a0.length : Int)).toNat * 16 ≤ 281474976710656 then (((some (List.replicate ((a0.length : Int)).toNat (0, 0) : De2))).bind fun y1 => (laws_toMsgS.l1 k k (0, a0, y1, ()))) else none) else none) else none
def laws_toMsgS.Sl1 : Shape := ⟨[(0, false, [.own 0]), (3, false, [.own 1]), (4, false, [.int .i64])], [(0, .view false 243 Ty2), (1, .row 241 Ty2)], 2⟩
def laws_toMsgS.sig : Sig := ⟨[.val false (.sl 243 Ty2) [0]], [.val false (.sl 241 Ty2) [none]]⟩
def laws_toMsgS.F (k : Nat) (x : Args laws_toMsgS.sig.ps) : Option (Res laws_toMsgS.sig) := laws_toMsgS.f k x.1
def laws_toMsgS.ann (k : Nat) : Ann (Res laws_toMsgS.sig) := (.seq .nil (.seq .nil (.seq (.seq .nil (.block (.loop laws_toMsgS.Sl1 (laws_toMsgS.l1 k) fun n1 => .nil))) .nil)))
def laws_toMsgS.ent : Ent := ⟨193, laws_toMsgS.sig, laws_toMsgS.F⟩
def laws_toMsgS.ctx (k : Nat) : Ctx := ⟨tds, [laws_toMsg.ent], k, 23⟩
theorem laws_toMsgS.runs (k : Nat) (x : Args laws_toMsgS.sig.ps) : laws_toMsgS.F k x = runF (laws_toMsgS.ctx k) laws_toMsgS.sig Try.f193 (Try.f193.body.getD .skip) (laws_toMsgS.ann k) x := by kernel_rfl
theorem laws_toMsgS.obls (k : Nat) : obl (laws_toMsgS.ctx k) 1 (Try.f193.body.getD .skip) (laws_toMsgS.ann k) (retK tds laws_toMsgS.sig Try.f193.results.toList) := ⟨trivial, ⟨trivial, ⟨⟨trivial, ⟨⟨by kernel_rfl, fun x => by kernel_rfl⟩, fun n => ⟨fun x => by kernel_rfl, ⟨⟨trivial, ⟨trivial, trivial⟩⟩, ⟨trivial, trivial⟩⟩⟩⟩⟩, ⟨trivial, trivial⟩⟩⟩⟩
theorem laws_toMsgS.ok (k : Nat) : EntOk Try.prog k laws_toMsgS.ent := fn_ok (C := laws_toMsgS.ctx k) Try.func193 (by kernel_rfl) (by kernel_rfl) mixed tdsOk (.cons (laws_toMsg.ok k) EntsOk.nil) (by kernel_rfl) (Nat.le_of_ble_eq_true (by kernel_rfl)) (by kernel_rfl) (laws_toMsgS.runs k) (laws_toMsgS.obls k)
/-! loop.example/g00200/laws.toLine -/
def laws_toLine.f (k : Nat) (a0 : De2) : Option De2 :=
  (laws_toMsgS.f k a0).bind fun t1 => (some t1)
def laws_toLine.sig : Sig := ⟨[.val true (.sl 243 Ty2) [0]], [.val true (.sl 241 Ty2) [none]]⟩
def laws_toLine.F (k : Nat) (x : Args laws_toLine.sig.ps) : Option (Res laws_toLine.sig) := laws_toLine.f k x.1
def laws_toLine.ann (k : Nat) : Ann (Res laws_toLine.sig) := .nil
def laws_toLine.ent : Ent := ⟨150, laws_toLine.sig, laws_toLine.F⟩
def laws_toLine.ctx (k : Nat) : Ctx := ⟨tds, [laws_toMsgS.ent], k, 9⟩
theorem laws_toLine.runs (k : Nat) (x : Args laws_toLine.sig.ps) : laws_toLine.F k x = runF (laws_toLine.ctx k) laws_toLine.sig Try.f150 (Try.f150.body.getD .skip) (laws_toLine.ann k) x := by kernel_rfl
theorem laws_toLine.obls (k : Nat) : obl (laws_toLine.ctx k) 1 (Try.f150.body.getD .skip) (laws_toLine.ann k) (retK tds laws_toLine.sig Try.f150.results.toList) := ⟨trivial, ⟨trivial, ⟨trivial, ⟨trivial, trivial⟩⟩⟩⟩
theorem laws_toLine.ok (k : Nat) : EntOk Try.prog k laws_toLine.ent := fn_ok (C := laws_toLine.ctx k) Try.func150 (by kernel_rfl) (by kernel_rfl) mixed tdsOk (.cons (laws_toMsgS.ok k) EntsOk.nil) (by kernel_rfl) (Nat.le_of_ble_eq_true (by kernel_rfl)) (by kernel_rfl) (laws_toLine.runs k) (laws_toLine.obls k)
/-! loop.example/g00200/laws.toLineS -/
def laws_toLineS.l1 (k : Nat)  : Nat → Int × DeL × DeL × Unit → Option DeL
  | 0, _ => none
  | n + 1, (x1, x2, x3, _) => if x1 < (x2.length : Int) then (if 0 ≤ x1 then (if x1 < (x2.length : Int) then ((laws_toLine.f k (el (.sl 243 Ty2) x2 x1.toNat)).bind fun t2 => (if 0 ≤ x1 then (if x1 < (x3.length : Int) then (((some (x3.set x1.toNat t2))).bind fun y3 => (laws_toLineS.l1 k n (w64 (x1 + 1), x2, y3, ()))) else none) else none)) else none) else none) else (some x3)
def laws_toLineS.f (k : Nat) (a0 : DeL) : Option DeL :=
  if (a0.length : Int) = (a0.length : Int) then (if 0 ≤ (a0.length : Int) then (if ((a0.length : Int)).toNat * 24 ≤ 281474976710656 then (((some (List.replicate ((a0.length : Int)).toNat [] : DeL))).bind fun y1 => (laws_toLineS.l1 k k (0, a0, y1, ()))) else none) else none) else none
def laws_toLineS.Sl1 : Shape := ⟨[(0, false, [.own 0]), (3, false, [.own 1]), (4, false, [.int .i64])], [(0, .view false 204 (.sl 243 Ty2)), (1, .row 145 (.sl 241 Ty2))], 2⟩
def laws_toLineS.sig : Sig := ⟨[.val false (.sl 204 (.sl 243 Ty2)) [0]], [.val false (.sl 145 (.sl 241 Ty2)) [none]]⟩
def laws_toLineS.F (k : Nat) (x : Args laws_toLineS.sig.ps) : Option (Res laws_toLineS.sig) := laws_toLineS.f k x.1
def laws_toLineS.ann (k : Nat) : Ann (Res laws_toLineS.sig) := (.seq .nil (.seq .nil (.seq (.seq .nil (.block (.loop laws_toLineS.Sl1 (laws_toLineS.l1 k) fun n1 => .nil))) .nil)))
def laws_toLineS.ent : Ent := ⟨74, laws_toLineS.sig, laws_toLineS.F⟩
def laws_toLineS.ctx (k : Nat) : Ctx := ⟨tds, [laws_toLine.ent], k, 23⟩
theorem laws_toLineS.runs (k : Nat) (x : Args laws_toLineS.sig.ps) : laws_toLineS.F k x = runF (laws_toLineS.ctx k) laws_toLineS.sig Try.f74 (Try.f74.body.getD .skip) (laws_toLineS.ann k) x := by kernel_rfl
theorem laws_toLineS.obls (k : Nat) : obl (laws_toLineS.ctx k) 1 (Try.f74.body.getD .skip) (laws_toLineS.ann k) (retK tds laws_toLineS.sig Try.f74.results.toList) := ⟨trivial, ⟨trivial, ⟨⟨trivial, ⟨⟨by kernel_rfl, fun x => by kernel_rfl⟩, fun n => ⟨fun x => by kernel_rfl, ⟨⟨trivial, ⟨trivial, trivial⟩⟩, ⟨trivial, trivial⟩⟩⟩⟩⟩, ⟨trivial, trivial⟩⟩⟩⟩
theorem laws_toLineS.ok (k : Nat) : EntOk Try.prog k laws_toLineS.ent := fn_ok (C := laws_toLineS.ctx k) Try.func74 (by kernel_rfl) (by kernel_rfl) mixed tdsOk (.cons (laws_toLine.ok k) EntsOk.nil) (by kernel_rfl) (Nat.le_of_ble_eq_true (by kernel_rfl)) (by kernel_rfl) (laws_toLineS.runs k) (laws_toLineS.obls k)
/-! loop.example/g00200/laws.toEntry -/
def laws_toEntry.f (k : Nat) (a0 : Int × Int × Int × Int × Int) : Option (Int × Int × Int × Int × Int) :=
  some a0
def laws_toEntry.sig : Sig := ⟨[.val true Ty5 []], [.val true Ty5 []]⟩
def laws_toEntry.F (k : Nat) (x : Args laws_toEntry.sig.ps) : Option (Res laws_toEntry.sig) := laws_toEntry.f k x.1
def laws_toEntry.ann (k : Nat) : Ann (Res laws_toEntry.sig) := .nil
def laws_toEntry.ent : Ent := ⟨151, laws_toEntry.sig, laws_toEntry.F⟩
def laws_toEntry.ctx (k : Nat) : Ctx := ⟨tds, [], k, 20⟩
theorem laws_toEntry.runs (k : Nat) (x : Args laws_toEntry.sig.ps) : laws_toEntry.F k x = runF (laws_toEntry.ctx k) laws_toEntry.sig Try.f151 (Try.f151.body.getD .skip) (laws_toEntry.ann k) x := by kernel_rfl
theorem laws_toEntry.obls (k : Nat) : obl (laws_toEntry.ctx k) 0 (Try.f151.body.getD .skip) (laws_toEntry.ann k) (retK tds laws_toEntry.sig Try.f151.results.toList) := ⟨trivial, ⟨trivial, ⟨trivial, ⟨trivial, ⟨trivial, ⟨trivial, ⟨trivial, ⟨trivial, trivial⟩⟩⟩⟩⟩⟩⟩⟩
theorem laws_toEntry.ok (k : Nat) : EntOk Try.prog k laws_toEntry.ent := fn_ok (C := laws_toEntry.ctx k) Try.func151 (by kernel_rfl) (by kernel_rfl) mixed tdsOk EntsOk.nil (by kernel_rfl) (Nat.le_of_ble_eq_true (by kernel_rfl)) (by kernel_rfl) (laws_toEntry.runs k) (laws_toEntry.obls k)
/-! loop.example/g00200/laws.toEntryS -/
def laws_toEntryS.l1 (k : Nat)  : Nat → Int × De5 × De5 × Unit → Option De5
  | 0, _ => none
  | n + 1, (x1, x2, x3, _) => if x1 < (x2.length : Int) then (if 0 ≤ x1 then (if x1 < (x2.length : Int) then ((laws_toEntry.f k ((el Ty5 x2 x1.toNat).1, (((el Ty5 x2 x1.toNat).2).1, ((((el Ty5 x2 x1.toNat).2).2).1, ((((el Ty5 x2 x1.toNat).2).2).2))))).bind fun t2 => (if 0 ≤ x1 then (if x1 < (x3.length : Int) then (((some (x3.set x1.toNat t2))).bind fun y3 => (laws_toEntryS.l1 k n (w64 (x1 + 1), x2, y3, ()))) else none) else none)) else none) else none) else (some x3)
def laws_toEntryS.f (k : Nat) (a0 : De5) : Option De5 :=
  if (a0.length : Int) = (a0.length : Int) then (if 0 ≤ (a0.length : Int) then (if ((a0.length : Int)).toNat * 40 ≤ 281474976710656 then (((some (List.replicate ((a0.length : Int)).toNat (0, (0, (0, (0, 0)))) : De5))).bind fun y1 => (laws_toEntryS.l1 k k (0, a0, y1, ()))) else none) else none) else none
def laws_toEntryS.Sl1 : Shape := ⟨[(0, false, [.own 0]), (3, false, [.own 1]), (4, false, [.int .i64])], [(0, .view false 208 Ty5), (1, .row 70 Ty5)], 2⟩
def laws_toEntryS.sig : Sig := ⟨[.val false (.sl 208 Ty5) [0]], [.val false (.sl 70 Ty5) [none]]⟩
def laws_toEntryS.F (k : Nat) (x : Args laws_toEntryS.sig.ps) : Option (Res laws_toEntryS.sig) := laws_toEntryS.f k x.1
def laws_toEntryS.ann (k : Nat) : Ann (Res laws_toEntryS.sig) := (.seq .nil (.seq .nil (.seq (.seq .nil (.block (.loop laws_toEntryS.Sl1 (laws_toEntryS.l1 k) fun n1 => .nil))) .nil)))
def laws_toEntryS.ent : Ent := ⟨76, laws_toEntryS.sig, laws_toEntryS.F⟩
def laws_toEntryS.ctx (k : Nat) : Ctx := ⟨tds, [laws_toEntry.ent], k, 23⟩
theorem laws_toEntryS.runs (k : Nat) (x : Args laws_toEntryS.sig.ps) : laws_toEntryS.F k x = runF (laws_toEntryS.ctx k) laws_toEntryS.sig Try.f76 (Try.f76.body.getD .skip) (laws_toEntryS.ann k) x := by kernel_rfl
theorem laws_toEntryS.obls (k : Nat) : obl (laws_toEntryS.ctx k) 1 (Try.f76.body.getD .skip) (laws_toEntryS.ann k) (retK tds laws_toEntryS.sig Try.f76.results.toList) := ⟨trivial, ⟨trivial, ⟨⟨trivial, ⟨⟨by kernel_rfl, fun x => by kernel_rfl⟩, fun n => ⟨fun x => by kernel_rfl, ⟨⟨trivial, ⟨trivial, trivial⟩⟩, ⟨trivial, trivial⟩⟩⟩⟩⟩, ⟨trivial, trivial⟩⟩⟩⟩
theorem laws_toEntryS.ok (k : Nat) : EntOk Try.prog k laws_toEntryS.ent := fn_ok (C := laws_toEntryS.ctx k) Try.func76 (by kernel_rfl) (by kernel_rfl) mixed tdsOk (.cons (laws_toEntry.ok k) EntsOk.nil) (by kernel_rfl) (Nat.le_of_ble_eq_true (by kernel_rfl)) (by kernel_rfl) (laws_toEntryS.runs k) (laws_toEntryS.obls k)
/-! loop.example/g00200/laws.toKernel -/
def laws_toKernel.f (k : Nat) (a0 : DeK) : Option (DeK) :=
  (laws_toSetup.f k a0.1).bind fun t1 => ((laws_toArena.f k a0.2.1).bind fun t2 => ((laws_toPartS.f k a0.2.2.1).bind fun t3 => ((laws_toLineS.f k a0.2.2.2.1).bind fun t4 => ((laws_toIntS.f k a0.2.2.2.2.1).bind fun t5 => ((laws_toEntryS.f k a0.2.2.2.2.2.2.2).bind fun t6 => (some (t1, (t2, (t3, (t4, (t5, (a0.2.2.2.2.2.1, (a0.2.2.2.2.2.2.1, t6)))))))))))))
def laws_toKernel.sig : Sig := ⟨[.val true (.pair (.pair (.sl 214 Ty2) (.pair (.sl 216 Ty2) (.pair (.sl 218 Ty5) (.pair (.sl 220 Ty3) (.sl 9 .str))))) (.pair (.sl 3 TyI) (.pair (.sl 200 TyP) (.pair (.sl 204 (.sl 243 Ty2)) (.pair (.sl 3 TyI) (.pair TyI (.pair .bool (.sl 208 Ty5)))))))) [0, 0, 0, 0, 0, 0, 0, 0, 0, 0]], [.val true (.pair (.pair (.sl 31 Ty2) (.pair (.sl 34 Ty2) (.pair (.sl 63 Ty5) (.pair (.sl 39 Ty3) (.sl 9 .str))))) (.pair (.sl 3 TyI) (.pair (.sl 59 TyP) (.pair (.sl 145 (.sl 241 Ty2)) (.pair (.sl 3 TyI) (.pair TyI (.pair .bool (.sl 70 Ty5)))))))) [none, none, none, none, none, none, none, none, none, none]]⟩
def laws_toKernel.F (k : Nat) (x : Args laws_toKernel.sig.ps) : Option (Res laws_toKernel.sig) := laws_toKernel.f k x.1
def laws_toKernel.ann (k : Nat) : Ann (Res laws_toKernel.sig) := .nil
def laws_toKernel.ent : Ent := ⟨26, laws_toKernel.sig, laws_toKernel.F⟩
def laws_toKernel.ctx (k : Nat) : Ctx := ⟨tds, [laws_toSetup.ent, laws_toArena.ent, laws_toPartS.ent, laws_toLineS.ent, laws_toIntS.ent, laws_toEntryS.ent], k, 35⟩
theorem laws_toKernel.runs (k : Nat) (x : Args laws_toKernel.sig.ps) : laws_toKernel.F k x = runF (laws_toKernel.ctx k) laws_toKernel.sig Try.f26 (Try.f26.body.getD .skip) (laws_toKernel.ann k) x := by kernel_rfl
theorem laws_toKernel.obls (k : Nat) : obl (laws_toKernel.ctx k) 10 (Try.f26.body.getD .skip) (laws_toKernel.ann k) (retK tds laws_toKernel.sig Try.f26.results.toList) := ⟨trivial, ⟨trivial, ⟨trivial, ⟨trivial, ⟨trivial, ⟨trivial, ⟨trivial, ⟨trivial, ⟨trivial, ⟨trivial, ⟨trivial, trivial⟩⟩⟩⟩⟩⟩⟩⟩⟩⟩⟩
theorem laws_toKernel.ok (k : Nat) : EntOk Try.prog k laws_toKernel.ent := fn_ok (C := laws_toKernel.ctx k) Try.func26 (by kernel_rfl) (by kernel_rfl) mixed tdsOk (.cons (laws_toSetup.ok k) (.cons (laws_toArena.ok k) (.cons (laws_toPartS.ok k) (.cons (laws_toLineS.ok k) (.cons (laws_toIntS.ok k) (.cons (laws_toEntryS.ok k) EntsOk.nil)))))) (by kernel_rfl) (Nat.le_of_ble_eq_true (by kernel_rfl)) (by kernel_rfl) (laws_toKernel.runs k) (laws_toKernel.obls k)
/-! loop.example/g00200/spec.l01In -/
def spec_l01In.f (k : Nat) (a0 : Int) (a1 : Int) (a2 : Int) : Option (Bool) :=
  if a1 ≤ a0 then (some (decide (a0 ≤ a2))) else (some false)
def spec_l01In.sig : Sig := ⟨[.val false TyI [], .val false TyI [], .val false TyI []], [.val false .bool []]⟩
def spec_l01In.F (k : Nat) (x : Args spec_l01In.sig.ps) : Option (Res spec_l01In.sig) := spec_l01In.f k x.1 x.2.1 x.2.2.1
def spec_l01In.ann (k : Nat) : Ann (Res spec_l01In.sig) := .nil
def spec_l01In.ent : Ent := ⟨69, spec_l01In.sig, spec_l01In.F⟩
def spec_l01In.ctx (k : Nat) : Ctx := ⟨tds, [], k, 15⟩
theorem spec_l01In.runs (k : Nat) (x : Args spec_l01In.sig.ps) : spec_l01In.F k x = runF (spec_l01In.ctx k) spec_l01In.sig Try.f69 (Try.f69.body.getD .skip) (spec_l01In.ann k) x := by kernel_rfl
theorem spec_l01In.obls (k : Nat) : obl (spec_l01In.ctx k) 0 (Try.f69.body.getD .skip) (spec_l01In.ann k) (retK tds spec_l01In.sig Try.f69.results.toList) := ⟨trivial, ⟨trivial, trivial⟩⟩
theorem spec_l01In.ok (k : Nat) : EntOk Try.prog k spec_l01In.ent := fn_ok (C := spec_l01In.ctx k) Try.func69 (by kernel_rfl) (by kernel_rfl) mixed tdsOk EntsOk.nil (by kernel_rfl) (Nat.le_of_ble_eq_true (by kernel_rfl)) (by kernel_rfl) (spec_l01In.runs k) (spec_l01In.obls k)
/-! loop.example/g00200/spec.l06Copy -/
def spec_l06Copy.f (k : Nat) (a0 : Int × DeI) : Option (Int × DeI) :=
  ((some ([] : DeI))).bind fun y1 => (if (y1.length + a0.2.length) * 8 ≤ 140737488355328 then (((some (y1 ++ a0.2))).bind fun y2 => (some (a0.1, y2))) else none)
def spec_l06Copy.sig : Sig := ⟨[.val true (.pair TyI (.sl 3 TyI)) [0]], [.val true (.pair TyI (.sl 3 TyI)) [none]]⟩
def spec_l06Copy.F (k : Nat) (x : Args spec_l06Copy.sig.ps) : Option (Res spec_l06Copy.sig) := spec_l06Copy.f k x.1
def spec_l06Copy.ann (k : Nat) : Ann (Res spec_l06Copy.sig) := .nil
def spec_l06Copy.ent : Ent := ⟨70, spec_l06Copy.sig, spec_l06Copy.F⟩
def spec_l06Copy.ctx (k : Nat) : Ctx := ⟨tds, [], k, 10⟩
theorem spec_l06Copy.runs (k : Nat) (x : Args spec_l06Copy.sig.ps) : spec_l06Copy.F k x = runF (spec_l06Copy.ctx k) spec_l06Copy.sig Try.f70 (Try.f70.body.getD .skip) (spec_l06Copy.ann k) x := by kernel_rfl
theorem spec_l06Copy.obls (k : Nat) : obl (spec_l06Copy.ctx k) 1 (Try.f70.body.getD .skip) (spec_l06Copy.ann k) (retK tds spec_l06Copy.sig Try.f70.results.toList) := ⟨trivial, ⟨trivial, trivial⟩⟩
theorem spec_l06Copy.ok (k : Nat) : EntOk Try.prog k spec_l06Copy.ent := fn_ok (C := spec_l06Copy.ctx k) Try.func70 (by kernel_rfl) (by kernel_rfl) mixed tdsOk EntsOk.nil (by kernel_rfl) (Nat.le_of_ble_eq_true (by kernel_rfl)) (by kernel_rfl) (spec_l06Copy.runs k) (spec_l06Copy.obls k)
/-! loop.example/g00200/spec.l04At -/
def spec_l04At.f (k : Nat) (a0 : DeI) (a1 : Int × Int) (a2 : Int) : Option (Int) :=
  if a2 < 0 then (some (-1)) else (if a1.2 ≤ a2 then (some (-1)) else ((spec_l01In.f k a1.1 0 (w64 ((a0.length : Int) - 1))).bind fun t1 => (if ¬ t1 = true then (some (-1)) else (if (w64 ((a0.length : Int) - a1.1)) ≤ a2 then (some (-1)) else (some (w64 (a1.1 + a2)))))))
def spec_l04At.sig : Sig := ⟨[.val true (.sl 3 TyI) [0], .val true Ty2 [], .val false TyI []], [.val false TyI []]⟩
def spec_l04At.F (k : Nat) (x : Args spec_l04At.sig.ps) : Option (Res spec_l04At.sig) := spec_l04At.f k x.1 x.2.1 x.2.2.1
def spec_l04At.ann (k : Nat) : Ann (Res spec_l04At.sig) := .nil
def spec_l04At.ent : Ent := ⟨148, spec_l04At.sig, spec_l04At.F⟩
def spec_l04At.ctx (k : Nat) : Ctx := ⟨tds, [spec_l01In.ent], k, 39⟩
theorem spec_l04At.runs (k : Nat) (x : Args spec_l04At.sig.ps) : spec_l04At.F k x = runF (spec_l04At.ctx k) spec_l04At.sig Try.f148 (Try.f148.body.getD .skip) (spec_l04At.ann k) x := by kernel_rfl
theorem spec_l04At.obls (k : Nat) : obl (spec_l04At.ctx k) 1 (Try.f148.body.getD .skip) (spec_l04At.ann k) (retK tds spec_l04At.sig Try.f148.results.toList) := ⟨trivial, ⟨⟨trivial, ⟨⟨trivial, trivial⟩, trivial⟩⟩, ⟨trivial, trivial⟩⟩⟩
theorem spec_l04At.ok (k : Nat) : EntOk Try.prog k spec_l04At.ent := fn_ok (C := spec_l04At.ctx k) Try.func148 (by kernel_rfl) (by kernel_rfl) mixed tdsOk (.cons (spec_l01In.ok k) EntsOk.nil) (by kernel_rfl) (Nat.le_of_ble_eq_true (by kernel_rfl)) (by kernel_rfl) (spec_l04At.runs k) (spec_l04At.obls k)
/-! loop.example/g00200/spec.CellsOf -/
def spec_CellsOf.l1 (k : Nat)  : Nat → Int × Int × Int × DeI × DeI × Unit → Option DeI
  | 0, _ => none
  | n + 1, (x1, x2, x3, x4, x5, _) => if x1 < x3 then (if x1 < (x4.length : Int) then ((spec_l04At.f k x4 (x2, x3) x1).bind fun t2 => (if 0 ≤ t2 then (if 0 ≤ t2 then (if t2 < (x4.length : Int) then (((some ([el TyI x4 t2.toNat] : DeI))).bind fun y3 => (if (x5.length + y3.length) * 8 ≤ 140737488355328 then (((some (x5 ++ y3))).bind fun y4 => (spec_CellsOf.l1 k n (w64 (x1 + 1), x2, x3, x4, y4, ()))) else none)) else none) else none) else (spec_CellsOf.l1 k n (w64 (x1 + 1), x2, x3, x4, x5, ())))) else (some x5)) else (some x5)
def spec_CellsOf.f (k : Nat) (a0 : DeI) (a1 : Int × Int) : Option DeI :=
  ((some ([] : DeI))).bind fun y1 => (spec_CellsOf.l1 k k (0, a1.1, a1.2, a0, y1, ()))
def spec_CellsOf.Sl1 : Shape := ⟨[(2, false, [.ptr 1 0]), (3, false, [.ptr 2 0]), (5, false, [.own 3]), (6, false, [.int .i64])], [(1, .blk 46 [.own 0]), (2, .blk 31 [.int .i64, .int .i64]), (0, .view false 3 TyI), (3, .row 3 TyI)], 4⟩
def spec_CellsOf.sig : Sig := ⟨[.val true (.sl 3 TyI) [0], .val true Ty2 []], [.val false (.sl 3 TyI) [none]]⟩
def spec_CellsOf.F (k : Nat) (x : Args spec_CellsOf.sig.ps) : Option (Res spec_CellsOf.sig) := spec_CellsOf.f k x.1 x.2.1
def spec_CellsOf.ann (k : Nat) : Ann (Res spec_CellsOf.sig) := (.seq .nil (.seq .nil (.seq (.seq .nil (.block (.loop spec_CellsOf.Sl1 (spec_CellsOf.l1 k) fun n1 => .nil))) .nil)))
def spec_CellsOf.ent : Ent := ⟨71, spec_CellsOf.sig, spec_CellsOf.F⟩
def spec_CellsOf.ctx (k : Nat) : Ctx := ⟨tds, [spec_l04At.ent], k, 37⟩
theorem spec_CellsOf.runs (k : Nat) (x : Args spec_CellsOf.sig.ps) : spec_CellsOf.F k x = runF (spec_CellsOf.ctx k) spec_CellsOf.sig Try.f71 (Try.f71.body.getD .skip) (spec_CellsOf.ann k) x := by kernel_rfl
theorem spec_CellsOf.obls (k : Nat) : obl (spec_CellsOf.ctx k) 1 (Try.f71.body.getD .skip) (spec_CellsOf.ann k) (retK tds spec_CellsOf.sig Try.f71.results.toList) := ⟨trivial, ⟨trivial, ⟨⟨trivial, ⟨⟨by kernel_rfl, fun x => by kernel_rfl⟩, fun n => ⟨fun x => by kernel_rfl, ⟨⟨trivial, ⟨trivial, trivial⟩⟩, ⟨⟨trivial, ⟨trivial, ⟨trivial, trivial⟩⟩⟩, trivial⟩⟩⟩⟩⟩, ⟨trivial, trivial⟩⟩⟩⟩
theorem spec_CellsOf.ok (k : Nat) : EntOk Try.prog k spec_CellsOf.ent := fn_ok (C := spec_CellsOf.ctx k) Try.func71 (by kernel_rfl) (by kernel_rfl) mixed tdsOk (.cons (spec_l04At.ok k) EntsOk.nil) (by kernel_rfl) (Nat.le_of_ble_eq_true (by kernel_rfl)) (by kernel_rfl) (spec_CellsOf.runs k) (spec_CellsOf.obls k)
/-! loop.example/g00200/spec.PartView -/
def spec_PartView.f (k : Nat) (a0 : DeK) (a1 : Int) : Option ((Int × (Int × DeI) × Int × Int × Int) × DeI × DeI) :=
  (spec_l01In.f k a1 1 (a0.2.2.1.length : Int)).bind fun t1 => (if ¬ t1 = true then (((some ([] : DeI))).bind fun y2 => (((some ([] : DeI))).bind fun y3 => (some ((0, ((0, []), (0, (0, 0)))), y2, y3)))) else (if (a0.1.1.length : Int) < a1 then (((some ([] : DeI))).bind fun y4 => (((some ([] : DeI))).bind fun y5 => (some ((0, ((0, []), (0, (0, 0)))), y4, y5)))) else (if (a0.2.2.2.2.1.length : Int) < (w64 (2 * a1)) then (((some ([] : DeI))).bind fun y6 => (((some ([] : DeI))).bind fun y7 => (some ((0, ((0, []), (0, (0, 0)))), y6, y7)))) else (if 0 ≤ w64 (a1 - 1) then (if w64 (a1 - 1) < (a0.2.2.1.length : Int) then ((spec_l06Copy.f k (((el TyP a0.2.2.1 ((w64 (a1 - 1)).toNat)).2).1)).bind fun t8 => (if 0 ≤ w64 (a1 - 1) then (if w64 (a1 - 1) < (a0.1.1.length : Int) then ((spec_CellsOf.f k a0.2.1 (el Ty2 a0.1.1 ((w64 (a1 - 1)).toNat))).bind fun t9 => (if 0 ≤ w64 ((w64 (2 * a1)) - 2) then (if w64 ((w64 (2 * a1)) - 2) < (a0.2.2.2.2.1.length : Int) then (if 0 ≤ w64 ((w64 (2 * a1)) - 1) then (if w64 ((w64 (2 * a1)) - 1) < (a0.2.2.2.2.1.length : Int) then (((some ([el TyI a0.2.2.2.2.1 ((w64 ((w64 (2 * a1)) - 2)).toNat), el TyI a0.2.2.2.2.1 ((w64 ((w64 (2 * a1)) - 1)).toNat)] : DeI))).bind fun y10 => (some (((el TyP a0.2.2.1 ((w64 (a1 - 1)).toNat)).1, (t8, ((((el TyP a0.2.2.1 ((w64 (a1 - 1)).toNat)).2).2).1, ((((el TyP a0.2.2.1 ((w64 (a1 - 1)).toNat)).2).2).2)))), t9, y10))) else none) else none) else none) else none)) else none) else none)) else none) else none))))
def spec_PartView.sig : Sig := ⟨[.val true (.pair (.pair (.sl 31 Ty2) (.pair (.sl 34 Ty2) (.pair (.sl 63 Ty5) (.pair (.sl 39 Ty3) (.sl 9 .str))))) (.pair (.sl 3 TyI) (.pair (.sl 59 TyP) (.pair (.sl 145 (.sl 241 Ty2)) (.pair (.sl 3 TyI) (.pair TyI (.pair .bool (.sl 70 Ty5)))))))) [0, 0, 0, 0, 0, 0, 0, 0, 0, 0], .val false TyI []], [.val true TyP [none], .val false (.sl 3 TyI) [none], .val false (.sl 3 TyI) [none]]⟩
def spec_PartView.F (k : Nat) (x : Args spec_PartView.sig.ps) : Option (Res spec_PartView.sig) := spec_PartView.f k x.1 x.2.1
def spec_PartView.ann (k : Nat) : Ann (Res spec_PartView.sig) := .nil
def spec_PartView.ent : Ent := ⟨25, spec_PartView.sig, spec_PartView.F⟩
def spec_PartView.ctx (k : Nat) : Ctx := ⟨tds, [spec_l01In.ent, spec_l06Copy.ent, spec_CellsOf.ent], k, 69⟩
theorem spec_PartView.runs (k : Nat) (x : Args spec_PartView.sig.ps) : spec_PartView.F k x = runF (spec_PartView.ctx k) spec_PartView.sig Try.f25 (Try.f25.body.getD .skip) (spec_PartView.ann k) x := by kernel_rfl
theorem spec_PartView.obls (k : Nat) : obl (spec_PartView.ctx k) 10 (Try.f25.body.getD .skip) (spec_PartView.ann k) (retK tds spec_PartView.sig Try.f25.results.toList) := ⟨trivial, ⟨⟨trivial, ⟨⟨trivial, trivial⟩, trivial⟩⟩, ⟨trivial, ⟨trivial, ⟨trivial, trivial⟩⟩⟩⟩⟩
theorem spec_PartView.ok (k : Nat) : EntOk Try.prog k spec_PartView.ent := fn_ok (C := spec_PartView.ctx k) Try.func25 (by kernel_rfl) (by kernel_rfl) mixed tdsOk (.cons (spec_l01In.ok k) (.cons (spec_l06Copy.ok k) (.cons (spec_CellsOf.ok k) EntsOk.nil))) (by kernel_rfl) (Nat.le_of_ble_eq_true (by kernel_rfl)) (by kernel_rfl) (spec_PartView.runs k) (spec_PartView.obls k)
/-! loop.example/g00200/impl.within -/
def impl_within.f (k : Nat) (a0 : Int) (a1 : Int) (a2 : Int) : Option (Bool) :=
  if a1 ≤ a0 then (some (decide (a0 ≤ a2))) else (some false)
def impl_within.sig : Sig := ⟨[.val false TyI [], .val false TyI [], .val false TyI []], [.val false .bool []]⟩
def impl_within.F (k : Nat) (x : Args impl_within.sig.ps) : Option (Res impl_within.sig) := impl_within.f k x.1 x.2.1 x.2.2.1
def impl_within.ann (k : Nat) : Ann (Res impl_within.sig) := .nil
def impl_within.ent : Ent := ⟨60, impl_within.sig, impl_within.F⟩
def impl_within.ctx (k : Nat) : Ctx := ⟨tds, [], k, 15⟩
theorem impl_within.runs (k : Nat) (x : Args impl_within.sig.ps) : impl_within.F k x = runF (impl_within.ctx k) impl_within.sig Try.f60 (Try.f60.body.getD .skip) (impl_within.ann k) x := by kernel_rfl
theorem impl_within.obls (k : Nat) : obl (impl_within.ctx k) 0 (Try.f60.body.getD .skip) (impl_within.ann k) (retK tds impl_within.sig Try.f60.results.toList) := ⟨trivial, ⟨trivial, trivial⟩⟩
theorem impl_within.ok (k : Nat) : EntOk Try.prog k impl_within.ent := fn_ok (C := impl_within.ctx k) Try.func60 (by kernel_rfl) (by kernel_rfl) mixed tdsOk EntsOk.nil (by kernel_rfl) (Nat.le_of_ble_eq_true (by kernel_rfl)) (by kernel_rfl) (impl_within.runs k) (impl_within.obls k)
/-! loop.example/g00200/impl.copyInts -/
def impl_copyInts.f (k : Nat) (a0 : DeI) : Option DeI :=
  ((some ([] : DeI))).bind fun y1 => (if (y1.length + a0.length) * 8 ≤ 140737488355328 then (((some (y1 ++ a0))).bind fun y2 => (some y2)) else none)
def impl_copyInts.sig : Sig := ⟨[.val false (.sl 3 TyI) [0]], [.val false (.sl 3 TyI) [none]]⟩
def impl_copyInts.F (k : Nat) (x : Args impl_copyInts.sig.ps) : Option (Res impl_copyInts.sig) := impl_copyInts.f k x.1
def impl_copyInts.ann (k : Nat) : Ann (Res impl_copyInts.sig) := .nil
def impl_copyInts.ent : Ent := ⟨63, impl_copyInts.sig, impl_copyInts.F⟩
def impl_copyInts.ctx (k : Nat) : Ctx := ⟨tds, [], k, 6⟩
theorem impl_copyInts.runs (k : Nat) (x : Args impl_copyInts.sig.ps) : impl_copyInts.F k x = runF (impl_copyInts.ctx k) impl_copyInts.sig Try.f63 (Try.f63.body.getD .skip) (impl_copyInts.ann k) x := by kernel_rfl
theorem impl_copyInts.obls (k : Nat) : obl (impl_copyInts.ctx k) 1 (Try.f63.body.getD .skip) (impl_copyInts.ann k) (retK tds impl_copyInts.sig Try.f63.results.toList) := ⟨trivial, ⟨trivial, trivial⟩⟩
theorem impl_copyInts.ok (k : Nat) : EntOk Try.prog k impl_copyInts.ent := fn_ok (C := impl_copyInts.ctx k) Try.func63 (by kernel_rfl) (by kernel_rfl) mixed tdsOk EntsOk.nil (by kernel_rfl) (Nat.le_of_ble_eq_true (by kernel_rfl)) (by kernel_rfl) (impl_copyInts.runs k) (impl_copyInts.obls k)
/-! loop.example/g00200/impl.copyCpu -/
def impl_copyCpu.f (k : Nat) (a0 : Int × DeI) : Option (Int × DeI) :=
  (impl_copyInts.f k a0.2).bind fun t1 => (some (a0.1, t1))
def impl_copyCpu.sig : Sig := ⟨[.val true (.pair TyI (.sl 3 TyI)) [0]], [.val true (.pair TyI (.sl 3 TyI)) [none]]⟩
def impl_copyCpu.F (k : Nat) (x : Args impl_copyCpu.sig.ps) : Option (Res impl_copyCpu.sig) := impl_copyCpu.f k x.1
def impl_copyCpu.ann (k : Nat) : Ann (Res impl_copyCpu.sig) := .nil
def impl_copyCpu.ent : Ent := ⟨144, impl_copyCpu.sig, impl_copyCpu.F⟩
def impl_copyCpu.ctx (k : Nat) : Ctx := ⟨tds, [impl_copyInts.ent], k, 9⟩
theorem impl_copyCpu.runs (k : Nat) (x : Args impl_copyCpu.sig.ps) : impl_copyCpu.F k x = runF (impl_copyCpu.ctx k) impl_copyCpu.sig Try.f144 (Try.f144.body.getD .skip) (impl_copyCpu.ann k) x := by kernel_rfl
theorem impl_copyCpu.obls (k : Nat) : obl (impl_copyCpu.ctx k) 1 (Try.f144.body.getD .skip) (impl_copyCpu.ann k) (retK tds impl_copyCpu.sig Try.f144.results.toList) := ⟨trivial, ⟨trivial, trivial⟩⟩
theorem impl_copyCpu.ok (k : Nat) : EntOk Try.prog k impl_copyCpu.ent := fn_ok (C := impl_copyCpu.ctx k) Try.func144 (by kernel_rfl) (by kernel_rfl) mixed tdsOk (.cons (impl_copyInts.ok k) EntsOk.nil) (by kernel_rfl) (Nat.le_of_ble_eq_true (by kernel_rfl)) (by kernel_rfl) (impl_copyCpu.runs k) (impl_copyCpu.obls k)
/-! loop.example/g00200/impl.copyPart -/
def impl_copyPart.f (k : Nat) (a0 : Int × (Int × DeI) × Int × Int × Int) : Option (Int × (Int × DeI) × Int × Int × Int) :=
  (impl_copyCpu.f k a0.2.1).bind fun t1 => (some (a0.1, (t1, a0.2.2)))
def impl_copyPart.sig : Sig := ⟨[.val true TyP [0]], [.val true TyP [none]]⟩
def impl_copyPart.F (k : Nat) (x : Args impl_copyPart.sig.ps) : Option (Res impl_copyPart.sig) := impl_copyPart.f k x.1
def impl_copyPart.ann (k : Nat) : Ann (Res impl_copyPart.sig) := .nil
def impl_copyPart.ent : Ent := ⟨61, impl_copyPart.sig, impl_copyPart.F⟩
def impl_copyPart.ctx (k : Nat) : Ctx := ⟨tds, [impl_copyCpu.ent], k, 8⟩
theorem impl_copyPart.runs (k : Nat) (x : Args impl_copyPart.sig.ps) : impl_copyPart.F k x = runF (impl_copyPart.ctx k) impl_copyPart.sig Try.f61 (Try.f61.body.getD .skip) (impl_copyPart.ann k) x := by kernel_rfl
theorem impl_copyPart.obls (k : Nat) : obl (impl_copyPart.ctx k) 1 (Try.f61.body.getD .skip) (impl_copyPart.ann k) (retK tds impl_copyPart.sig Try.f61.results.toList) := ⟨trivial, ⟨trivial, ⟨trivial, trivial⟩⟩⟩
theorem impl_copyPart.ok (k : Nat) : EntOk Try.prog k impl_copyPart.ent := fn_ok (C := impl_copyPart.ctx k) Try.func61 (by kernel_rfl) (by kernel_rfl) mixed tdsOk (.cons (impl_copyCpu.ok k) EntsOk.nil) (by kernel_rfl) (Nat.le_of_ble_eq_true (by kernel_rfl)) (by kernel_rfl) (impl_copyPart.runs k) (impl_copyPart.obls k)
/-! loop.example/g00200/impl.cellAt -/
def impl_cellAt.f (k : Nat) (a0 : DeI) (a1 : Int × Int) (a2 : Int) : Option (Int) :=
  if a1.1 < 0 then (some (-1)) else (if a2 < 0 then (some (-1)) else (if a1.2 ≤ a2 then (some (-1)) else (if (w64 ((a0.length : Int) - a1.1)) ≤ a2 then (some (-1)) else (some (w64 (a1.1 + a2))))))
def impl_cellAt.sig : Sig := ⟨[.val true (.sl 3 TyI) [0], .val true Ty2 [], .val false TyI []], [.val false TyI []]⟩
def impl_cellAt.F (k : Nat) (x : Args impl_cellAt.sig.ps) : Option (Res impl_cellAt.sig) := impl_cellAt.f k x.1 x.2.1 x.2.2.1
def impl_cellAt.ann (k : Nat) : Ann (Res impl_cellAt.sig) := .nil
def impl_cellAt.ent : Ent := ⟨145, impl_cellAt.sig, impl_cellAt.F⟩
def impl_cellAt.ctx (k : Nat) : Ctx := ⟨tds, [], k, 34⟩
theorem impl_cellAt.runs (k : Nat) (x : Args impl_cellAt.sig.ps) : impl_cellAt.F k x = runF (impl_cellAt.ctx k) impl_cellAt.sig Try.f145 (Try.f145.body.getD .skip) (impl_cellAt.ann k) x := by kernel_rfl
theorem impl_cellAt.obls (k : Nat) : obl (impl_cellAt.ctx k) 1 (Try.f145.body.getD .skip) (impl_cellAt.ann k) (retK tds impl_cellAt.sig Try.f145.results.toList) := ⟨trivial, ⟨⟨trivial, ⟨⟨trivial, trivial⟩, trivial⟩⟩, ⟨trivial, trivial⟩⟩⟩
theorem impl_cellAt.ok (k : Nat) : EntOk Try.prog k impl_cellAt.ent := fn_ok (C := impl_cellAt.ctx k) Try.func145 (by kernel_rfl) (by kernel_rfl) mixed tdsOk EntsOk.nil (by kernel_rfl) (Nat.le_of_ble_eq_true (by kernel_rfl)) (by kernel_rfl) (impl_cellAt.runs k) (impl_cellAt.obls k)
/-! loop.example/g00200/impl.CellsOf -/
def impl_CellsOf.l1 (k : Nat)  : Nat → Int × Int × Int × DeI × DeI × Unit → Option DeI
  | 0, _ => none
  | n + 1, (x1, x2, x3, x4, x5, _) => (impl_cellAt.f k x4 (x2, x3) x1).bind fun t2 => (if 0 ≤ t2 then (if 0 ≤ w64 (x2 + x1) then (if w64 (x2 + x1) < (x4.length : Int) then (((some ([el TyI x4 ((w64 (x2 + x1)).toNat)] : DeI))).bind fun y3 => (if (x5.length + y3.length) * 8 ≤ 140737488355328 then (((some (x5 ++ y3))).bind fun y4 => (impl_CellsOf.l1 k n (w64 (x1 + 1), x2, x3, x4, y4, ()))) else none)) else none) else none) else (some x5))
def impl_CellsOf.f (k : Nat) (a0 : DeI) (a1 : Int × Int) : Option DeI :=
  ((some ([] : DeI))).bind fun y1 => (impl_CellsOf.l1 k k (0, a1.1, a1.2, a0, y1, ()))
def impl_CellsOf.Sl1 : Shape := ⟨[(2, false, [.ptr 1 0]), (3, false, [.ptr 2 0]), (5, false, [.own 3]), (6, false, [.int .i64])], [(1, .blk 46 [.own 0]), (2, .blk 31 [.int .i64, .int .i64]), (0, .view false 3 TyI), (3, .row 3 TyI)], 4⟩
def impl_CellsOf.sig : Sig := ⟨[.val true (.sl 3 TyI) [0], .val true Ty2 []], [.val false (.sl 3 TyI) [none]]⟩
def impl_CellsOf.F (k : Nat) (x : Args impl_CellsOf.sig.ps) : Option (Res impl_CellsOf.sig) := impl_CellsOf.f k x.1 x.2.1
def impl_CellsOf.ann (k : Nat) : Ann (Res impl_CellsOf.sig) := (.seq .nil (.seq .nil (.seq (.seq .nil (.block (.loop impl_CellsOf.Sl1 (impl_CellsOf.l1 k) fun n1 => .nil))) .nil)))
def impl_CellsOf.ent : Ent := ⟨62, impl_CellsOf.sig, impl_CellsOf.F⟩
def impl_CellsOf.ctx (k : Nat) : Ctx := ⟨tds, [impl_cellAt.ent], k, 27⟩
theorem impl_CellsOf.runs (k : Nat) (x : Args impl_CellsOf.sig.ps) : impl_CellsOf.F k x = runF (impl_CellsOf.ctx k) impl_CellsOf.sig Try.f62 (Try.f62.body.getD .skip) (impl_CellsOf.ann k) x := by kernel_rfl
theorem impl_CellsOf.obls (k : Nat) : obl (impl_CellsOf.ctx k) 1 (Try.f62.body.getD .skip) (impl_CellsOf.ann k) (retK tds impl_CellsOf.sig Try.f62.results.toList) := ⟨trivial, ⟨trivial, ⟨⟨trivial, ⟨⟨by kernel_rfl, fun x => by kernel_rfl⟩, fun n => ⟨fun x => by kernel_rfl, ⟨⟨trivial, ⟨trivial, trivial⟩⟩, ⟨trivial, trivial⟩⟩⟩⟩⟩, ⟨trivial, trivial⟩⟩⟩⟩
theorem impl_CellsOf.ok (k : Nat) : EntOk Try.prog k impl_CellsOf.ent := fn_ok (C := impl_CellsOf.ctx k) Try.func62 (by kernel_rfl) (by kernel_rfl) mixed tdsOk (.cons (impl_cellAt.ok k) EntsOk.nil) (by kernel_rfl) (Nat.le_of_ble_eq_true (by kernel_rfl)) (by kernel_rfl) (impl_CellsOf.runs k) (impl_CellsOf.obls k)
/-! loop.example/g00200/impl.PartView -/
def impl_PartView.f (k : Nat) (a0 : DeK) (a1 : Int) : Option ((Int × (Int × DeI) × Int × Int × Int) × DeI × DeI) :=
  (impl_within.f k a1 1 (a0.2.2.1.length : Int)).bind fun t1 => (if ¬ t1 = true then (some ((0, ((0, []), (0, (0, 0)))), [], [])) else (if (a0.1.1.length : Int) < a1 then (some ((0, ((0, []), (0, (0, 0)))), [], [])) else (if (a0.2.2.2.2.1.length : Int) < (w64 (2 * a1)) then (some ((0, ((0, []), (0, (0, 0)))), [], [])) else (if 0 ≤ w64 (a1 - 1) then (if w64 (a1 - 1) < (a0.2.2.1.length : Int) then ((impl_copyPart.f k ((el TyP a0.2.2.1 ((w64 (a1 - 1)).toNat)).1, ((((el TyP a0.2.2.1 ((w64 (a1 - 1)).toNat)).2).1), ((((el TyP a0.2.2.1 ((w64 (a1 - 1)).toNat)).2).2).1, ((((el TyP a0.2.2.1 ((w64 (a1 - 1)).toNat)).2).2).2))))).bind fun t2 => (if 0 ≤ w64 (a1 - 1) then (if w64 (a1 - 1) < (a0.1.1.length : Int) then ((impl_CellsOf.f k a0.2.1 (el Ty2 a0.1.1 ((w64 (a1 - 1)).toNat))).bind fun t3 => (if 0 ≤ w64 ((w64 (2 * a1)) - 2) then (if w64 ((w64 (2 * a1)) - 2) ≤ w64 (2 * a1) then (if w64 (2 * a1) ≤ (a0.2.2.2.2.1.length : Int) then ((impl_copyInts.f k ((a0.2.2.2.2.1.take ((w64 (2 * a1)).toNat)).drop ((w64 ((w64 (2 * a1)) - 2)).toNat))).bind fun t4 => (some ((t2.1, (t2.2.1, t2.2.2)), t3, t4))) else none) else none) else none)) else none) else none)) else none) else none))))
def impl_PartView.sig : Sig := ⟨[.val true (.pair (.pair (.sl 31 Ty2) (.pair (.sl 34 Ty2) (.pair (.sl 63 Ty5) (.pair (.sl 39 Ty3) (.sl 9 .str))))) (.pair (.sl 3 TyI) (.pair (.sl 59 TyP) (.pair (.sl 145 (.sl 241 Ty2)) (.pair (.sl 3 TyI) (.pair TyI (.pair .bool (.sl 70 Ty5)))))))) [0, 0, 0, 0, 0, 0, 0, 0, 0, 0], .val false TyI []], [.val true TyP [none], .val false (.sl 3 TyI) [none], .val false (.sl 3 TyI) [none]]⟩
def impl_PartView.F (k : Nat) (x : Args impl_PartView.sig.ps) : Option (Res impl_PartView.sig) := impl_PartView.f k x.1 x.2.1
def impl_PartView.ann (k : Nat) : Ann (Res impl_PartView.sig) := .nil
def impl_PartView.ent : Ent := ⟨21, impl_PartView.sig, impl_PartView.F⟩
def impl_PartView.ctx (k : Nat) : Ctx := ⟨tds, [impl_within.ent, impl_copyPart.ent, impl_CellsOf.ent, impl_copyInts.ent], k, 56⟩
theorem impl_PartView.runs (k : Nat) (x : Args impl_PartView.sig.ps) : impl_PartView.F k x = runF (impl_PartView.ctx k) impl_PartView.sig Try.f21 (Try.f21.body.getD .skip) (impl_PartView.ann k) x := by kernel_rfl
theorem impl_PartView.obls (k : Nat) : obl (impl_PartView.ctx k) 10 (Try.f21.body.getD .skip) (impl_PartView.ann k) (retK tds impl_PartView.sig Try.f21.results.toList) := ⟨trivial, ⟨⟨trivial, ⟨⟨trivial, trivial⟩, trivial⟩⟩, ⟨trivial, trivial⟩⟩⟩
theorem impl_PartView.ok (k : Nat) : EntOk Try.prog k impl_PartView.ent := fn_ok (C := impl_PartView.ctx k) Try.func21 (by kernel_rfl) (by kernel_rfl) mixed tdsOk (.cons (impl_within.ok k) (.cons (impl_copyPart.ok k) (.cons (impl_CellsOf.ok k) (.cons (impl_copyInts.ok k) EntsOk.nil)))) (by kernel_rfl) (Nat.le_of_ble_eq_true (by kernel_rfl)) (by kernel_rfl) (impl_PartView.runs k) (impl_PartView.obls k)
/-! loop.example/g00200/laws.eqIntS -/
def laws_eqIntS.l1 (k : Nat)  : Nat → Int × DeI × DeI × Unit → Option (Bool)
  | 0, _ => none
  | n + 1, (x1, x2, x3, _) => if x1 < (x2.length : Int) then (if 0 ≤ x1 then (if x1 < (x2.length : Int) then (if 0 ≤ x1 then (if x1 < (x3.length : Int) then (if ¬ (el TyI x2 x1.toNat) = (el TyI x3 x1.toNat) then (some false) else (laws_eqIntS.l1 k n (w64 (x1 + 1), x2, x3, ()))) else none) else none) else none) else none) else (some true)
def laws_eqIntS.f (k : Nat) (a0 : DeI) (a1 : DeI) : Option (Bool) :=
  if ¬ (a0.length : Int) = (a1.length : Int) then (some false) else (laws_eqIntS.l1 k k (0, a0, a1, ()))
def laws_eqIntS.Sl1 : Shape := ⟨[(0, false, [.own 0]), (1, false, [.own 1]), (5, false, [.int .i64])], [(0, .view false 3 TyI), (1, .view false 3 TyI)], 2⟩
def laws_eqIntS.sig : Sig := ⟨[.val false (.sl 3 TyI) [0], .val false (.sl 3 TyI) [0]], [.val false .bool []]⟩
def laws_eqIntS.F (k : Nat) (x : Args laws_eqIntS.sig.ps) : Option (Res laws_eqIntS.sig) := laws_eqIntS.f k x.1 x.2.1
def laws_eqIntS.ann (k : Nat) : Ann (Res laws_eqIntS.sig) := (.seq .nil (.seq .nil (.seq (.seq .nil (.block (.loop laws_eqIntS.Sl1 (laws_eqIntS.l1 k) fun n1 => .nil))) .nil)))
def laws_eqIntS.ent : Ent := ⟨28, laws_eqIntS.sig, laws_eqIntS.F⟩
def laws_eqIntS.ctx (k : Nat) : Ctx := ⟨tds, [], k, 26⟩
theorem laws_eqIntS.runs (k : Nat) (x : Args laws_eqIntS.sig.ps) : laws_eqIntS.F k x = runF (laws_eqIntS.ctx k) laws_eqIntS.sig Try.f28 (Try.f28.body.getD .skip) (laws_eqIntS.ann k) x := by kernel_rfl
theorem laws_eqIntS.obls (k : Nat) : obl (laws_eqIntS.ctx k) 2 (Try.f28.body.getD .skip) (laws_eqIntS.ann k) (retK tds laws_eqIntS.sig Try.f28.results.toList) := ⟨trivial, ⟨⟨trivial, ⟨⟨trivial, trivial⟩, trivial⟩⟩, ⟨⟨trivial, ⟨⟨by kernel_rfl, fun x => by kernel_rfl⟩, fun n => ⟨fun x => by kernel_rfl, ⟨⟨trivial, ⟨trivial, trivial⟩⟩, ⟨⟨trivial, ⟨⟨trivial, trivial⟩, trivial⟩⟩, trivial⟩⟩⟩⟩⟩, ⟨trivial, trivial⟩⟩⟩⟩
theorem laws_eqIntS.ok (k : Nat) : EntOk Try.prog k laws_eqIntS.ent := fn_ok (C := laws_eqIntS.ctx k) Try.func28 (by kernel_rfl) (by kernel_rfl) mixed tdsOk EntsOk.nil (by kernel_rfl) (Nat.le_of_ble_eq_true (by kernel_rfl)) (by kernel_rfl) (laws_eqIntS.runs k) (laws_eqIntS.obls k)
/-! loop.example/g00200/laws.eqCpu -/
def laws_eqCpu.f (k : Nat) (a0 : Int × DeI) (a1 : Int × DeI) : Option (Bool) :=
  if ¬ a0.1 = a1.1 then (some false) else ((laws_eqIntS.f k a0.2 a1.2).bind fun t1 => (if ¬ t1 = true then (some false) else (some true)))
def laws_eqCpu.sig : Sig := ⟨[.val true (.pair TyI (.sl 3 TyI)) [0], .val true (.pair TyI (.sl 3 TyI)) [0]], [.val false .bool []]⟩
def laws_eqCpu.F (k : Nat) (x : Args laws_eqCpu.sig.ps) : Option (Res laws_eqCpu.sig) := laws_eqCpu.f k x.1 x.2.1
def laws_eqCpu.ann (k : Nat) : Ann (Res laws_eqCpu.sig) := .nil
def laws_eqCpu.ent : Ent := ⟨77, laws_eqCpu.sig, laws_eqCpu.F⟩
def laws_eqCpu.ctx (k : Nat) : Ctx := ⟨tds, [laws_eqIntS.ent], k, 16⟩
theorem laws_eqCpu.runs (k : Nat) (x : Args laws_eqCpu.sig.ps) : laws_eqCpu.F k x = runF (laws_eqCpu.ctx k) laws_eqCpu.sig Try.f77 (Try.f77.body.getD .skip) (laws_eqCpu.ann k) x := by kernel_rfl
theorem laws_eqCpu.obls (k : Nat) : obl (laws_eqCpu.ctx k) 2 (Try.f77.body.getD .skip) (laws_eqCpu.ann k) (retK tds laws_eqCpu.sig Try.f77.results.toList) := ⟨trivial, ⟨⟨trivial, ⟨⟨trivial, trivial⟩, trivial⟩⟩, ⟨⟨trivial, ⟨⟨trivial, trivial⟩, trivial⟩⟩, ⟨trivial, trivial⟩⟩⟩⟩
theorem laws_eqCpu.ok (k : Nat) : EntOk Try.prog k laws_eqCpu.ent := fn_ok (C := laws_eqCpu.ctx k) Try.func77 (by kernel_rfl) (by kernel_rfl) mixed tdsOk (.cons (laws_eqIntS.ok k) EntsOk.nil) (by kernel_rfl) (Nat.le_of_ble_eq_true (by kernel_rfl)) (by kernel_rfl) (laws_eqCpu.runs k) (laws_eqCpu.obls k)
/-! loop.example/g00200/laws.eqPart -/
def laws_eqPart.f (k : Nat) (a0 : Int × (Int × DeI) × Int × Int × Int) (a1 : Int × (Int × DeI) × Int × Int × Int) : Option (Bool) :=
  if ¬ a0.1 = a1.1 then (some false) else ((laws_eqCpu.f k a0.2.1 a1.2.1).bind fun t1 => (if ¬ t1 = true then (some false) else (if ¬ a0.2.2.1 = a1.2.2.1 then (some false) else (if ¬ a0.2.2.2.1 = a1.2.2.2.1 then (some false) else (if ¬ a0.2.2.2.2 = a1.2.2.2.2 then (some false) else (some true))))))
def laws_eqPart.sig : Sig := ⟨[.val true TyP [0], .val true TyP [0]], [.val false .bool []]⟩
def laws_eqPart.F (k : Nat) (x : Args laws_eqPart.sig.ps) : Option (Res laws_eqPart.sig) := laws_eqPart.f k x.1 x.2.1
def laws_eqPart.ann (k : Nat) : Ann (Res laws_eqPart.sig) := .nil
def laws_eqPart.ent : Ent := ⟨27, laws_eqPart.sig, laws_eqPart.F⟩
def laws_eqPart.ctx (k : Nat) : Ctx := ⟨tds, [laws_eqCpu.ent], k, 31⟩
theorem laws_eqPart.runs (k : Nat) (x : Args laws_eqPart.sig.ps) : laws_eqPart.F k x = runF (laws_eqPart.ctx k) laws_eqPart.sig Try.f27 (Try.f27.body.getD .skip) (laws_eqPart.ann k) x := by kernel_rfl
theorem laws_eqPart.obls (k : Nat) : obl (laws_eqPart.ctx k) 2 (Try.f27.body.getD .skip) (laws_eqPart.ann k) (retK tds laws_eqPart.sig Try.f27.results.toList) := ⟨trivial, ⟨⟨trivial, ⟨⟨trivial, trivial⟩, trivial⟩⟩, ⟨⟨trivial, ⟨⟨trivial, trivial⟩, trivial⟩⟩, ⟨⟨trivial, ⟨⟨trivial, trivial⟩, trivial⟩⟩, ⟨⟨trivial, ⟨⟨trivial, trivial⟩, trivial⟩⟩, ⟨⟨trivial, ⟨⟨trivial, trivial⟩, trivial⟩⟩, ⟨trivial, trivial⟩⟩⟩⟩⟩⟩⟩
theorem laws_eqPart.ok (k : Nat) : EntOk Try.prog k laws_eqPart.ent := fn_ok (C := laws_eqPart.ctx k) Try.func27 (by kernel_rfl) (by kernel_rfl) mixed tdsOk (.cons (laws_eqCpu.ok k) EntsOk.nil) (by kernel_rfl) (Nat.le_of_ble_eq_true (by kernel_rfl)) (by kernel_rfl) (laws_eqPart.runs k) (laws_eqPart.obls k)
/-! loop.example/g00200/laws.eqRegion -/
def laws_eqRegion.f (k : Nat) (a0 : Int × Int) (a1 : Int × Int) : Option (Bool) :=
  if ¬ a0.1 = a1.1 then (some false) else (if ¬ a0.2 = a1.2 then (some false) else (some true))
def laws_eqRegion.sig : Sig := ⟨[.val true Ty2 [], .val true Ty2 []], [.val false .bool []]⟩
def laws_eqRegion.F (k : Nat) (x : Args laws_eqRegion.sig.ps) : Option (Res laws_eqRegion.sig) := laws_eqRegion.f k x.1 x.2.1
def laws_eqRegion.ann (k : Nat) : Ann (Res laws_eqRegion.sig) := .nil
def laws_eqRegion.ent : Ent := ⟨166, laws_eqRegion.sig, laws_eqRegion.F⟩
def laws_eqRegion.ctx (k : Nat) : Ctx := ⟨tds, [], k, 15⟩
theorem laws_eqRegion.runs (k : Nat) (x : Args laws_eqRegion.sig.ps) : laws_eqRegion.F k x = runF (laws_eqRegion.ctx k) laws_eqRegion.sig Try.f166 (Try.f166.body.getD .skip) (laws_eqRegion.ann k) x := by kernel_rfl
theorem laws_eqRegion.obls (k : Nat) : obl (laws_eqRegion.ctx k) 0 (Try.f166.body.getD .skip) (laws_eqRegion.ann k) (retK tds laws_eqRegion.sig Try.f166.results.toList) := ⟨trivial, ⟨⟨trivial, ⟨⟨trivial, trivial⟩, trivial⟩⟩, ⟨⟨trivial, ⟨⟨trivial, trivial⟩, trivial⟩⟩, ⟨trivial, trivial⟩⟩⟩⟩
theorem laws_eqRegion.ok (k : Nat) : EntOk Try.prog k laws_eqRegion.ent := fn_ok (C := laws_eqRegion.ctx k) Try.func166 (by kernel_rfl) (by kernel_rfl) mixed tdsOk EntsOk.nil (by kernel_rfl) (Nat.le_of_ble_eq_true (by kernel_rfl)) (by kernel_rfl) (laws_eqRegion.runs k) (laws_eqRegion.obls k)
/-! loop.example/g00200/laws.eqRegionS -/
def laws_eqRegionS.l1 (k : Nat)  : Nat → Int × De2 × De2 × Unit → Option (Bool)
  | 0, _ => none
  | n + 1, (x1, x2, x3, _) => if x1 < (x2.length : Int) then (if 0 ≤ x1 then (if x1 < (x2.length : Int) then (if 0 ≤ x1 then (if x1 < (x3.length : Int) then ((laws_eqRegion.f k (el Ty2 x2 x1.toNat) (el Ty2 x3 x1.toNat)).bind fun t1 => (if ¬ t1 = true then (some false) else (laws_eqRegionS.l1 k n (w64 (x1 + 1), x2, x3, ())))) else none) else none) else none) else none) else (some true)
def laws_eqRegionS.f (k : Nat) (a0 : De2) (a1 : De2) : Option (Bool) :=
  if ¬ (a0.length : Int) = (a1.length : Int) then (some false) else (laws_eqRegionS.l1 k k (0, a0, a1, ()))
def laws_eqRegionS.Sl1 : Shape := ⟨[(0, false, [.own 0]), (1, false, [.own 1]), (5, false, [.int .i64])], [(0, .view false 31 Ty2), (1, .view false 31 Ty2)], 2⟩
def laws_eqRegionS.sig : Sig := ⟨[.val false (.sl 31 Ty2) [0], .val false (.sl 31 Ty2) [0]], [.val false .bool []]⟩
def laws_eqRegionS.F (k : Nat) (x : Args laws_eqRegionS.sig.ps) : Option (Res laws_eqRegionS.sig) := laws_eqRegionS.f k x.1 x.2.1
def laws_eqRegionS.ann (k : Nat) : Ann (Res laws_eqRegionS.sig) := (.seq .nil (.seq .nil (.seq (.seq .nil (.block (.loop laws_eqRegionS.Sl1 (laws_eqRegionS.l1 k) fun n1 => .nil))) .nil)))
def laws_eqRegionS.ent : Ent := ⟨106, laws_eqRegionS.sig, laws_eqRegionS.F⟩
def laws_eqRegionS.ctx (k : Nat) : Ctx := ⟨tds, [laws_eqRegion.ent], k, 27⟩
theorem laws_eqRegionS.runs (k : Nat) (x : Args laws_eqRegionS.sig.ps) : laws_eqRegionS.F k x = runF (laws_eqRegionS.ctx k) laws_eqRegionS.sig Try.f106 (Try.f106.body.getD .skip) (laws_eqRegionS.ann k) x := by kernel_rfl
theorem laws_eqRegionS.obls (k : Nat) : obl (laws_eqRegionS.ctx k) 2 (Try.f106.body.getD .skip) (laws_eqRegionS.ann k) (retK tds laws_eqRegionS.sig Try.f106.results.toList) := ⟨trivial, ⟨⟨trivial, ⟨⟨trivial, trivial⟩, trivial⟩⟩, ⟨⟨trivial, ⟨⟨by kernel_rfl, fun x => by kernel_rfl⟩, fun n => ⟨fun x => by kernel_rfl, ⟨⟨trivial, ⟨trivial, trivial⟩⟩, ⟨⟨trivial, ⟨⟨trivial, trivial⟩, trivial⟩⟩, trivial⟩⟩⟩⟩⟩, ⟨trivial, trivial⟩⟩⟩⟩
theorem laws_eqRegionS.ok (k : Nat) : EntOk Try.prog k laws_eqRegionS.ent := fn_ok (C := laws_eqRegionS.ctx k) Try.func106 (by kernel_rfl) (by kernel_rfl) mixed tdsOk (.cons (laws_eqRegion.ok k) EntsOk.nil) (by kernel_rfl) (Nat.le_of_ble_eq_true (by kernel_rfl)) (by kernel_rfl) (laws_eqRegionS.runs k) (laws_eqRegionS.obls k)
/-! loop.example/g00200/laws.eqWindow -/
def laws_eqWindow.f (k : Nat) (a0 : Int × Int) (a1 : Int × Int) : Option (Bool) :=
  if ¬ a0.1 = a1.1 then (some false) else (if ¬ a0.2 = a1.2 then (some false) else (some true))
def laws_eqWindow.sig : Sig := ⟨[.val true Ty2 [], .val true Ty2 []], [.val false .bool []]⟩
def laws_eqWindow.F (k : Nat) (x : Args laws_eqWindow.sig.ps) : Option (Res laws_eqWindow.sig) := laws_eqWindow.f k x.1 x.2.1
def laws_eqWindow.ann (k : Nat) : Ann (Res laws_eqWindow.sig) := .nil
def laws_eqWindow.ent : Ent := ⟨167, laws_eqWindow.sig, laws_eqWindow.F⟩
def laws_eqWindow.ctx (k : Nat) : Ctx := ⟨tds, [], k, 15⟩
theorem laws_eqWindow.runs (k : Nat) (x : Args laws_eqWindow.sig.ps) : laws_eqWindow.F k x = runF (laws_eqWindow.ctx k) laws_eqWindow.sig Try.f167 (Try.f167.body.getD .skip) (laws_eqWindow.ann k) x := by kernel_rfl
theorem laws_eqWindow.obls (k : Nat) : obl (laws_eqWindow.ctx k) 0 (Try.f167.body.getD .skip) (laws_eqWindow.ann k) (retK tds laws_eqWindow.sig Try.f167.results.toList) := ⟨trivial, ⟨⟨trivial, ⟨⟨trivial, trivial⟩, trivial⟩⟩, ⟨⟨trivial, ⟨⟨trivial, trivial⟩, trivial⟩⟩, ⟨trivial, trivial⟩⟩⟩⟩
theorem laws_eqWindow.ok (k : Nat) : EntOk Try.prog k laws_eqWindow.ent := fn_ok (C := laws_eqWindow.ctx k) Try.func167 (by kernel_rfl) (by kernel_rfl) mixed tdsOk EntsOk.nil (by kernel_rfl) (Nat.le_of_ble_eq_true (by kernel_rfl)) (by kernel_rfl) (laws_eqWindow.runs k) (laws_eqWindow.obls k)
/-! loop.example/g00200/laws.eqWindowS -/
def laws_eqWindowS.l1 (k : Nat)  : Nat → Int × De2 × De2 × Unit → Option (Bool)
  | 0, _ => none
  | n + 1, (x1, x2, x3, _) => if x1 < (x2.length : Int) then (if 0 ≤ x1 then (if x1 < (x2.length : Int) then (if 0 ≤ x1 then (if x1 < (x3.length : Int) then ((laws_eqWindow.f k (el Ty2 x2 x1.toNat) (el Ty2 x3 x1.toNat)).bind fun t1 => (if ¬ t1 = true then (some false) else (laws_eqWindowS.l1 k n (w64 (x1 + 1), x2, x3, ())))) else none) else none) else none) else none) else (some true)
def laws_eqWindowS.f (k : Nat) (a0 : De2) (a1 : De2) : Option (Bool) :=
  if ¬ (a0.length : Int) = (a1.length : Int) then (some false) else (laws_eqWindowS.l1 k k (0, a0, a1, ()))
def laws_eqWindowS.Sl1 : Shape := ⟨[(0, false, [.own 0]), (1, false, [.own 1]), (5, false, [.int .i64])], [(0, .view false 34 Ty2), (1, .view false 34 Ty2)], 2⟩
def laws_eqWindowS.sig : Sig := ⟨[.val false (.sl 34 Ty2) [0], .val false (.sl 34 Ty2) [0]], [.val false .bool []]⟩
def laws_eqWindowS.F (k : Nat) (x : Args laws_eqWindowS.sig.ps) : Option (Res laws_eqWindowS.sig) := laws_eqWindowS.f k x.1 x.2.1
def laws_eqWindowS.ann (k : Nat) : Ann (Res laws_eqWindowS.sig) := (.seq .nil (.seq .nil (.seq (.seq .nil (.block (.loop laws_eqWindowS.Sl1 (laws_eqWindowS.l1 k) fun n1 => .nil))) .nil)))
def laws_eqWindowS.ent : Ent := ⟨107, laws_eqWindowS.sig, laws_eqWindowS.F⟩
def laws_eqWindowS.ctx (k : Nat) : Ctx := ⟨tds, [laws_eqWindow.ent], k, 27⟩
theorem laws_eqWindowS.runs (k : Nat) (x : Args laws_eqWindowS.sig.ps) : laws_eqWindowS.F k x = runF (laws_eqWindowS.ctx k) laws_eqWindowS.sig Try.f107 (Try.f107.body.getD .skip) (laws_eqWindowS.ann k) x := by kernel_rfl
theorem laws_eqWindowS.obls (k : Nat) : obl (laws_eqWindowS.ctx k) 2 (Try.f107.body.getD .skip) (laws_eqWindowS.ann k) (retK tds laws_eqWindowS.sig Try.f107.results.toList) := ⟨trivial, ⟨⟨trivial, ⟨⟨trivial, trivial⟩, trivial⟩⟩, ⟨⟨trivial, ⟨⟨by kernel_rfl, fun x => by kernel_rfl⟩, fun n => ⟨fun x => by kernel_rfl, ⟨⟨trivial, ⟨trivial, trivial⟩⟩, ⟨⟨trivial, ⟨⟨trivial, trivial⟩, trivial⟩⟩, trivial⟩⟩⟩⟩⟩, ⟨trivial, trivial⟩⟩⟩⟩
theorem laws_eqWindowS.ok (k : Nat) : EntOk Try.prog k laws_eqWindowS.ent := fn_ok (C := laws_eqWindowS.ctx k) Try.func107 (by kernel_rfl) (by kernel_rfl) mixed tdsOk (.cons (laws_eqWindow.ok k) EntsOk.nil) (by kernel_rfl) (Nat.le_of_ble_eq_true (by kernel_rfl)) (by kernel_rfl) (laws_eqWindowS.runs k) (laws_eqWindowS.obls k)
/-! loop.example/g00200/laws.eqPort -/
def laws_eqPort.f (k : Nat) (a0 : Int × Int × Int × Int × Int) (a1 : Int × Int × Int × Int × Int) : Option (Bool) :=
  if ¬ a0.1 = a1.1 then (some false) else (if ¬ a0.2.1 = a1.2.1 then (some false) else (if ¬ a0.2.2.1 = a1.2.2.1 then (some false) else (if ¬ a0.2.2.2.1 = a1.2.2.2.1 then (some false) else (if ¬ a0.2.2.2.2 = a1.2.2.2.2 then (some false) else (some true)))))
def laws_eqPort.sig : Sig := ⟨[.val true Ty5 [], .val true Ty5 []], [.val false .bool []]⟩
def laws_eqPort.F (k : Nat) (x : Args laws_eqPort.sig.ps) : Option (Res laws_eqPort.sig) := laws_eqPort.f k x.1 x.2.1
def laws_eqPort.ann (k : Nat) : Ann (Res laws_eqPort.sig) := .nil
def laws_eqPort.ent : Ent := ⟨168, laws_eqPort.sig, laws_eqPort.F⟩
def laws_eqPort.ctx (k : Nat) : Ctx := ⟨tds, [], k, 30⟩
theorem laws_eqPort.runs (k : Nat) (x : Args laws_eqPort.sig.ps) : laws_eqPort.F k x = runF (laws_eqPort.ctx k) laws_eqPort.sig Try.f168 (Try.f168.body.getD .skip) (laws_eqPort.ann k) x := by kernel_rfl
theorem laws_eqPort.obls (k : Nat) : obl (laws_eqPort.ctx k) 0 (Try.f168.body.getD .skip) (laws_eqPort.ann k) (retK tds laws_eqPort.sig Try.f168.results.toList) := ⟨trivial, ⟨⟨trivial, ⟨⟨trivial, trivial⟩, trivial⟩⟩, ⟨⟨trivial, ⟨⟨trivial, trivial⟩, trivial⟩⟩, ⟨⟨trivial, ⟨⟨trivial, trivial⟩, trivial⟩⟩, ⟨⟨trivial, ⟨⟨trivial, trivial⟩, trivial⟩⟩, ⟨⟨trivial, ⟨⟨trivial, trivial⟩, trivial⟩⟩, ⟨trivial, trivial⟩⟩⟩⟩⟩⟩⟩
theorem laws_eqPort.ok (k : Nat) : EntOk Try.prog k laws_eqPort.ent := fn_ok (C := laws_eqPort.ctx k) Try.func168 (by kernel_rfl) (by kernel_rfl) mixed tdsOk EntsOk.nil (by kernel_rfl) (Nat.le_of_ble_eq_true (by kernel_rfl)) (by kernel_rfl) (laws_eqPort.runs k) (laws_eqPort.obls k)
/-! loop.example/g00200/laws.eqPortS -/
def laws_eqPortS.l1 (k : Nat)  : Nat → Int × De5 × De5 × Unit → Option (Bool)
  | 0, _ => none
  | n + 1, (x1, x2, x3, _) => if x1 < (x2.length : Int) then (if 0 ≤ x1 then (if x1 < (x2.length : Int) then (if 0 ≤ x1 then (if x1 < (x3.length : Int) then ((laws_eqPort.f k ((el Ty5 x2 x1.toNat).1, (((el Ty5 x2 x1.toNat).2).1, ((((el Ty5 x2 x1.toNat).2).2).1, ((((el Ty5 x2 x1.toNat).2).2).2)))) ((el Ty5 x3 x1.toNat).1, (((el Ty5 x3 x1.toNat).2).1, ((((el Ty5 x3 x1.toNat).2).2).1, ((((el Ty5 x3 x1.toNat).2).2).2))))).bind fun t1 => (if ¬ t1 = true then (some false) else (laws_eqPortS.l1 k n (w64 (x1 + 1), x2, x3, ())))) else none) else none) else none) else none) else (some true)
def laws_eqPortS.f (k : Nat) (a0 : De5) (a1 : De5) : Option (Bool) :=
  if ¬ (a0.length : Int) = (a1.length : Int) then (some false) else (laws_eqPortS.l1 k k (0, a0, a1, ()))
def laws_eqPortS.Sl1 : Shape := ⟨[(0, false, [.own 0]), (1, false, [.own 1]), (5, false, [.int .i64])], [(0, .view false 63 Ty5), (1, .view false 63 Ty5)], 2⟩
def laws_eqPortS.sig : Sig := ⟨[.val false (.sl 63 Ty5) [0], .val false (.sl 63 Ty5) [0]], [.val false .bool []]⟩
def laws_eqPortS.F (k : Nat) (x : Args laws_eqPortS.sig.ps) : Option (Res laws_eqPortS.sig) := laws_eqPortS.f k x.1 x.2.1
def laws_eqPortS.ann (k : Nat) : Ann (Res laws_eqPortS.sig) := (.seq .nil (.seq .nil (.seq (.seq .nil (.block (.loop laws_eqPortS.Sl1 (laws_eqPortS.l1 k) fun n1 => .nil))) .nil)))
def laws_eqPortS.ent : Ent := ⟨108, laws_eqPortS.sig, laws_eqPortS.F⟩
def laws_eqPortS.ctx (k : Nat) : Ctx := ⟨tds, [laws_eqPort.ent], k, 27⟩
theorem laws_eqPortS.runs (k : Nat) (x : Args laws_eqPortS.sig.ps) : laws_eqPortS.F k x = runF (laws_eqPortS.ctx k) laws_eqPortS.sig Try.f108 (Try.f108.body.getD .skip) (laws_eqPortS.ann k) x := by kernel_rfl
theorem laws_eqPortS.obls (k : Nat) : obl (laws_eqPortS.ctx k) 2 (Try.f108.body.getD .skip) (laws_eqPortS.ann k) (retK tds laws_eqPortS.sig Try.f108.results.toList) := ⟨trivial, ⟨⟨trivial, ⟨⟨trivial, trivial⟩, trivial⟩⟩, ⟨⟨trivial, ⟨⟨by kernel_rfl, fun x => by kernel_rfl⟩, fun n => ⟨fun x => by kernel_rfl, ⟨⟨trivial, ⟨trivial, trivial⟩⟩, ⟨⟨trivial, ⟨⟨trivial, trivial⟩, trivial⟩⟩, trivial⟩⟩⟩⟩⟩, ⟨trivial, trivial⟩⟩⟩⟩
theorem laws_eqPortS.ok (k : Nat) : EntOk Try.prog k laws_eqPortS.ent := fn_ok (C := laws_eqPortS.ctx k) Try.func108 (by kernel_rfl) (by kernel_rfl) mixed tdsOk (.cons (laws_eqPort.ok k) EntsOk.nil) (by kernel_rfl) (Nat.le_of_ble_eq_true (by kernel_rfl)) (by kernel_rfl) (laws_eqPortS.runs k) (laws_eqPortS.obls k)
/-! loop.example/g00200/laws.eqRule -/
def laws_eqRule.f (k : Nat) (a0 : Int × Int × Int) (a1 : Int × Int × Int) : Option (Bool) :=
  if ¬ a0.1 = a1.1 then (some false) else (if ¬ a0.2.1 = a1.2.1 then (some false) else (if ¬ a0.2.2 = a1.2.2 then (some false) else (some true)))
def laws_eqRule.sig : Sig := ⟨[.val true Ty3 [], .val true Ty3 []], [.val false .bool []]⟩
def laws_eqRule.F (k : Nat) (x : Args laws_eqRule.sig.ps) : Option (Res laws_eqRule.sig) := laws_eqRule.f k x.1 x.2.1
def laws_eqRule.ann (k : Nat) : Ann (Res laws_eqRule.sig) := .nil
def laws_eqRule.ent : Ent := ⟨169, laws_eqRule.sig, laws_eqRule.F⟩
def laws_eqRule.ctx (k : Nat) : Ctx := ⟨tds, [], k, 20⟩
theorem laws_eqRule.runs (k : Nat) (x : Args laws_eqRule.sig.ps) : laws_eqRule.F k x = runF (laws_eqRule.ctx k) laws_eqRule.sig Try.f169 (Try.f169.body.getD .skip) (laws_eqRule.ann k) x := by kernel_rfl
theorem laws_eqRule.obls (k : Nat) : obl (laws_eqRule.ctx k) 0 (Try.f169.body.getD .skip) (laws_eqRule.ann k) (retK tds laws_eqRule.sig Try.f169.results.toList) := ⟨trivial, ⟨⟨trivial, ⟨⟨trivial, trivial⟩, trivial⟩⟩, ⟨⟨trivial, ⟨⟨trivial, trivial⟩, trivial⟩⟩, ⟨⟨trivial, ⟨⟨trivial, trivial⟩, trivial⟩⟩, ⟨trivial, trivial⟩⟩⟩⟩⟩
theorem laws_eqRule.ok (k : Nat) : EntOk Try.prog k laws_eqRule.ent := fn_ok (C := laws_eqRule.ctx k) Try.func169 (by kernel_rfl) (by kernel_rfl) mixed tdsOk EntsOk.nil (by kernel_rfl) (Nat.le_of_ble_eq_true (by kernel_rfl)) (by kernel_rfl) (laws_eqRule.runs k) (laws_eqRule.obls k)
/-! loop.example/g00200/laws.eqRuleS -/
def laws_eqRuleS.l1 (k : Nat)  : Nat → Int × De3 × De3 × Unit → Option (Bool)
  | 0, _ => none
  | n + 1, (x1, x2, x3, _) => if x1 < (x2.length : Int) then (if 0 ≤ x1 then (if x1 < (x2.length : Int) then (if 0 ≤ x1 then (if x1 < (x3.length : Int) then ((laws_eqRule.f k ((el Ty3 x2 x1.toNat).1, ((el Ty3 x2 x1.toNat).2)) ((el Ty3 x3 x1.toNat).1, ((el Ty3 x3 x1.toNat).2))).bind fun t1 => (if ¬ t1 = true then (some false) else (laws_eqRuleS.l1 k n (w64 (x1 + 1), x2, x3, ())))) else none) else none) else none) else none) else (some true)
def laws_eqRuleS.f (k : Nat) (a0 : De3) (a1 : De3) : Option (Bool) :=
  if ¬ (a0.length : Int) = (a1.length : Int) then (some false) else (laws_eqRuleS.l1 k k (0, a0, a1, ()))
def laws_eqRuleS.Sl1 : Shape := ⟨[(0, false, [.own 0]), (1, false, [.own 1]), (5, false, [.int .i64])], [(0, .view false 39 Ty3), (1, .view false 39 Ty3)], 2⟩
def laws_eqRuleS.sig : Sig := ⟨[.val false (.sl 39 Ty3) [0], .val false (.sl 39 Ty3) [0]], [.val false .bool []]⟩
def laws_eqRuleS.F (k : Nat) (x : Args laws_eqRuleS.sig.ps) : Option (Res laws_eqRuleS.sig) := laws_eqRuleS.f k x.1 x.2.1
def laws_eqRuleS.ann (k : Nat) : Ann (Res laws_eqRuleS.sig) := (.seq .nil (.seq .nil (.seq (.seq .nil (.block (.loop laws_eqRuleS.Sl1 (laws_eqRuleS.l1 k) fun n1 => .nil))) .nil)))
def laws_eqRuleS.ent : Ent := ⟨109, laws_eqRuleS.sig, laws_eqRuleS.F⟩
def laws_eqRuleS.ctx (k : Nat) : Ctx := ⟨tds, [laws_eqRule.ent], k, 27⟩
theorem laws_eqRuleS.runs (k : Nat) (x : Args laws_eqRuleS.sig.ps) : laws_eqRuleS.F k x = runF (laws_eqRuleS.ctx k) laws_eqRuleS.sig Try.f109 (Try.f109.body.getD .skip) (laws_eqRuleS.ann k) x := by kernel_rfl
theorem laws_eqRuleS.obls (k : Nat) : obl (laws_eqRuleS.ctx k) 2 (Try.f109.body.getD .skip) (laws_eqRuleS.ann k) (retK tds laws_eqRuleS.sig Try.f109.results.toList) := ⟨trivial, ⟨⟨trivial, ⟨⟨trivial, trivial⟩, trivial⟩⟩, ⟨⟨trivial, ⟨⟨by kernel_rfl, fun x => by kernel_rfl⟩, fun n => ⟨fun x => by kernel_rfl, ⟨⟨trivial, ⟨trivial, trivial⟩⟩, ⟨⟨trivial, ⟨⟨trivial, trivial⟩, trivial⟩⟩, trivial⟩⟩⟩⟩⟩, ⟨trivial, trivial⟩⟩⟩⟩
theorem laws_eqRuleS.ok (k : Nat) : EntOk Try.prog k laws_eqRuleS.ent := fn_ok (C := laws_eqRuleS.ctx k) Try.func109 (by kernel_rfl) (by kernel_rfl) mixed tdsOk (.cons (laws_eqRule.ok k) EntsOk.nil) (by kernel_rfl) (Nat.le_of_ble_eq_true (by kernel_rfl)) (by kernel_rfl) (laws_eqRuleS.runs k) (laws_eqRuleS.obls k)
/-! loop.example/g00200/laws.eqStringS -/
def laws_eqStringS.l1 (k : Nat)  : Nat → Int × DeB × DeB × Unit → Option (Bool)
  | 0, _ => none
  | n + 1, (x1, x2, x3, _) => if x1 < (x2.length : Int) then (if 0 ≤ x1 then (if x1 < (x2.length : Int) then (if 0 ≤ x1 then (if x1 < (x3.length : Int) then (if ¬ (el .str x2 x1.toNat) = (el .str x3 x1.toNat) then (some false) else (laws_eqStringS.l1 k n (w64 (x1 + 1), x2, x3, ()))) else none) else none) else none) else none) else (some true)
def laws_eqStringS.f (k : Nat) (a0 : DeB) (a1 : DeB) : Option (Bool) :=
  if ¬ (a0.length : Int) = (a1.length : Int) then (some false) else (laws_eqStringS.l1 k k (0, a0, a1, ()))
def laws_eqStringS.Sl1 : Shape := ⟨[(0, false, [.own 0]), (1, false, [.own 1]), (5, false, [.int .i64])], [(0, .view false 9 .str), (1, .view false 9 .str)], 2⟩
def laws_eqStringS.sig : Sig := ⟨[.val false (.sl 9 .str) [0], .val false (.sl 9 .str) [0]], [.val false .bool []]⟩
def laws_eqStringS.F (k : Nat) (x : Args laws_eqStringS.sig.ps) : Option (Res laws_eqStringS.sig) := laws_eqStringS.f k x.1 x.2.1
def laws_eqStringS.ann (k : Nat) : Ann (Res laws_eqStringS.sig) := (.seq .nil (.seq .nil (.seq (.seq .nil (.block (.loop laws_eqStringS.Sl1 (laws_eqStringS.l1 k) fun n1 => .nil))) .nil)))
def laws_eqStringS.ent : Ent := ⟨110, laws_eqStringS.sig, laws_eqStringS.F⟩
def laws_eqStringS.ctx (k : Nat) : Ctx := ⟨tds, [], k, 26⟩
theorem laws_eqStringS.runs (k : Nat) (x : Args laws_eqStringS.sig.ps) : laws_eqStringS.F k x = runF (laws_eqStringS.ctx k) laws_eqStringS.sig Try.f110 (Try.f110.body.getD .skip) (laws_eqStringS.ann k) x := by kernel_rfl
theorem laws_eqStringS.obls (k : Nat) : obl (laws_eqStringS.ctx k) 2 (Try.f110.body.getD .skip) (laws_eqStringS.ann k) (retK tds laws_eqStringS.sig Try.f110.results.toList) := ⟨trivial, ⟨⟨trivial, ⟨⟨trivial, trivial⟩, trivial⟩⟩, ⟨⟨trivial, ⟨⟨by kernel_rfl, fun x => by kernel_rfl⟩, fun n => ⟨fun x => by kernel_rfl, ⟨⟨trivial, ⟨trivial, trivial⟩⟩, ⟨⟨trivial, ⟨⟨trivial, trivial⟩, trivial⟩⟩, trivial⟩⟩⟩⟩⟩, ⟨trivial, trivial⟩⟩⟩⟩
theorem laws_eqStringS.ok (k : Nat) : EntOk Try.prog k laws_eqStringS.ent := fn_ok (C := laws_eqStringS.ctx k) Try.func110 (by kernel_rfl) (by kernel_rfl) mixed tdsOk EntsOk.nil (by kernel_rfl) (Nat.le_of_ble_eq_true (by kernel_rfl)) (by kernel_rfl) (laws_eqStringS.runs k) (laws_eqStringS.obls k)
/-! loop.example/g00200/laws.eqSetup -/
def laws_eqSetup.f (k : Nat) (a0 : De2 × De2 × De5 × De3 × DeB) (a1 : De2 × De2 × De5 × De3 × DeB) : Option (Bool) :=
  (laws_eqRegionS.f k a0.1 a1.1).bind fun t1 => (if ¬ t1 = true then (some false) else ((laws_eqWindowS.f k a0.2.1 a1.2.1).bind fun t2 => (if ¬ t2 = true then (some false) else ((laws_eqPortS.f k a0.2.2.1 a1.2.2.1).bind fun t3 => (if ¬ t3 = true then (some false) else ((laws_eqRuleS.f k a0.2.2.2.1 a1.2.2.2.1).bind fun t4 => (if ¬ t4 = true then (some false) else ((laws_eqStringS.f k a0.2.2.2.2 a1.2.2.2.2).bind fun t5 => (if ¬ t5 = true then (some false) else (some true))))))))))
def laws_eqSetup.sig : Sig := ⟨[.val true (.pair (.sl 31 Ty2) (.pair (.sl 34 Ty2) (.pair (.sl 63 Ty5) (.pair (.sl 39 Ty3) (.sl 9 .str))))) [0, 0, 0, 0, 0], .val true (.pair (.sl 31 Ty2) (.pair (.sl 34 Ty2) (.pair (.sl 63 Ty5) (.pair (.sl 39 Ty3) (.sl 9 .str))))) [0, 0, 0, 0, 0]], [.val false .bool []]⟩
def laws_eqSetup.F (k : Nat) (x : Args laws_eqSetup.sig.ps) : Option (Res laws_eqSetup.sig) := laws_eqSetup.f k x.1 x.2.1
def laws_eqSetup.ann (k : Nat) : Ann (Res laws_eqSetup.sig) := .nil
def laws_eqSetup.ent : Ent := ⟨40, laws_eqSetup.sig, laws_eqSetup.F⟩
def laws_eqSetup.ctx (k : Nat) : Ctx := ⟨tds, [laws_eqRegionS.ent, laws_eqWindowS.ent, laws_eqPortS.ent, laws_eqRuleS.ent, laws_eqStringS.ent], k, 35⟩
theorem laws_eqSetup.runs (k : Nat) (x : Args laws_eqSetup.sig.ps) : laws_eqSetup.F k x = runF (laws_eqSetup.ctx k) laws_eqSetup.sig Try.f40 (Try.f40.body.getD .skip) (laws_eqSetup.ann k) x := by kernel_rfl
theorem laws_eqSetup.obls (k : Nat) : obl (laws_eqSetup.ctx k) 10 (Try.f40.body.getD .skip) (laws_eqSetup.ann k) (retK tds laws_eqSetup.sig Try.f40.results.toList) := ⟨trivial, ⟨⟨trivial, ⟨⟨trivial, trivial⟩, trivial⟩⟩, ⟨⟨trivial, ⟨⟨trivial, trivial⟩, trivial⟩⟩, ⟨⟨trivial, ⟨⟨trivial, trivial⟩, trivial⟩⟩, ⟨⟨trivial, ⟨⟨trivial, trivial⟩, trivial⟩⟩, ⟨⟨trivial, ⟨⟨trivial, trivial⟩, trivial⟩⟩, ⟨trivial, trivial⟩⟩⟩⟩⟩⟩⟩
theorem laws_eqSetup.ok (k : Nat) : EntOk Try.prog k laws_eqSetup.ent := fn_ok (C := laws_eqSetup.ctx k) Try.func40 (by kernel_rfl) (by kernel_rfl) mixed tdsOk (.cons (laws_eqRegionS.ok k) (.cons (laws_eqWindowS.ok k) (.cons (laws_eqPortS.ok k) (.cons (laws_eqRuleS.ok k) (.cons (laws_eqStringS.ok k) EntsOk.nil))))) (by kernel_rfl) (Nat.le_of_ble_eq_true (by kernel_rfl)) (by kernel_rfl) (laws_eqSetup.runs k) (laws_eqSetup.obls k)
/-! loop.example/g00200/laws.eqArena -/
def laws_eqArena.f (k : Nat) (a0 : DeI) (a1 : DeI) : Option (Bool) :=
  (laws_eqIntS.f k a0 a1).bind fun t1 => (if ¬ t1 = true then (some false) else (some true))
def laws_eqArena.sig : Sig := ⟨[.val true (.sl 3 TyI) [0], .val true (.sl 3 TyI) [0]], [.val false .bool []]⟩
def laws_eqArena.F (k : Nat) (x : Args laws_eqArena.sig.ps) : Option (Res laws_eqArena.sig) := laws_eqArena.f k x.1 x.2.1
def laws_eqArena.ann (k : Nat) : Ann (Res laws_eqArena.sig) := .nil
def laws_eqArena.ent : Ent := ⟨78, laws_eqArena.sig, laws_eqArena.F⟩
def laws_eqArena.ctx (k : Nat) : Ctx := ⟨tds, [laws_eqIntS.ent], k, 11⟩
theorem laws_eqArena.runs (k : Nat) (x : Args laws_eqArena.sig.ps) : laws_eqArena.F k x = runF (laws_eqArena.ctx k) laws_eqArena.sig Try.f78 (Try.f78.body.getD .skip) (laws_eqArena.ann k) x := by kernel_rfl
theorem laws_eqArena.obls (k : Nat) : obl (laws_eqArena.ctx k) 2 (Try.f78.body.getD .skip) (laws_eqArena.ann k) (retK tds laws_eqArena.sig Try.f78.results.toList) := ⟨trivial, ⟨⟨trivial, ⟨⟨trivial, trivial⟩, trivial⟩⟩, ⟨trivial, trivial⟩⟩⟩
theorem laws_eqArena.ok (k : Nat) : EntOk Try.prog k laws_eqArena.ent := fn_ok (C := laws_eqArena.ctx k) Try.func78 (by kernel_rfl) (by kernel_rfl) mixed tdsOk (.cons (laws_eqIntS.ok k) EntsOk.nil) (by kernel_rfl) (Nat.le_of_ble_eq_true (by kernel_rfl)) (by kernel_rfl) (laws_eqArena.runs k) (laws_eqArena.obls k)
/-! loop.example/g00200/laws.eqPartS -/
def laws_eqPartS.l1 (k : Nat)  : Nat → Int × DeP × DeP × Unit → Option (Bool)
  | 0, _ => none
  | n + 1, (x1, x2, x3, _) => if x1 < (x2.length : Int) then (if 0 ≤ x1 then (if x1 < (x2.length : Int) then (if 0 ≤ x1 then (if x1 < (x3.length : Int) then ((laws_eqPart.f k ((el TyP x2 x1.toNat).1, ((((el TyP x2 x1.toNat).2).1), ((((el TyP x2 x1.toNat).2).2).1, ((((el TyP x2 x1.toNat).2).2).2)))) ((el TyP x3 x1.toNat).1, ((((el TyP x3 x1.toNat).2).1), ((((el TyP x3 x1.toNat).2).2).1, ((((el TyP x3 x1.toNat).2).2).2))))).bind fun t1 => (if ¬ t1 = true then (some false) else (laws_eqPartS.l1 k n (w64 (x1 + 1), x2, x3, ())))) else none) else none) else none) else none) else (some true)
def laws_eqPartS.f (k : Nat) (a0 : DeP) (a1 : DeP) : Option (Bool) :=
  if ¬ (a0.length : Int) = (a1.length : Int) then (some false) else (laws_eqPartS.l1 k k (0, a0, a1, ()))
def laws_eqPartS.Sl1 : Shape := ⟨[(0, false, [.own 0]), (1, false, [.own 1]), (5, false, [.int .i64])], [(0, .view false 59 TyP), (1, .view false 59 TyP)], 2⟩
def laws_eqPartS.sig : Sig := ⟨[.val false (.sl 59 TyP) [0], .val false (.sl 59 TyP) [0]], [.val false .bool []]⟩
def laws_eqPartS.F (k : Nat) (x : Args laws_eqPartS.sig.ps) : Option (Res laws_eqPartS.sig) := laws_eqPartS.f k x.1 x.2.1
def laws_eqPartS.ann (k : Nat) : Ann (Res laws_eqPartS.sig) := (.seq .nil (.seq .nil (.seq (.seq .nil (.block (.loop laws_eqPartS.Sl1 (laws_eqPartS.l1 k) fun n1 => .nil))) .nil)))
def laws_eqPartS.ent : Ent := ⟨79, laws_eqPartS.sig, laws_eqPartS.F⟩
def laws_eqPartS.ctx (k : Nat) : Ctx := ⟨tds, [laws_eqPart.ent], k, 27⟩
theorem laws_eqPartS.runs (k : Nat) (x : Args laws_eqPartS.sig.ps) : laws_eqPartS.F k x = runF (laws_eqPartS.ctx k) laws_eqPartS.sig Try.f79 (Try.f79.body.getD .skip) (laws_eqPartS.ann k) x := by kernel_rfl
theorem laws_eqPartS.obls (k : Nat) : obl (laws_eqPartS.ctx k) 2 (Try.f79.body.getD .skip) (laws_eqPartS.ann k) (retK tds laws_eqPartS.sig Try.f79.results.toList) := ⟨trivial, ⟨⟨trivial, ⟨⟨trivial, trivial⟩, trivial⟩⟩, ⟨⟨trivial, ⟨⟨by kernel_rfl, fun x => by kernel_rfl⟩, fun n => ⟨fun x => by kernel_rfl, ⟨⟨trivial, ⟨trivial, trivial⟩⟩, ⟨⟨trivial, ⟨⟨trivial, trivial⟩, trivial⟩⟩, trivial⟩⟩⟩⟩⟩, ⟨trivial, trivial⟩⟩⟩⟩
theorem laws_eqPartS.ok (k : Nat) : EntOk Try.prog k laws_eqPartS.ent := fn_ok (C := laws_eqPartS.ctx k) Try.func79 (by kernel_rfl) (by kernel_rfl) mixed tdsOk (.cons (laws_eqPart.ok k) EntsOk.nil) (by kernel_rfl) (Nat.le_of_ble_eq_true (by kernel_rfl)) (by kernel_rfl) (laws_eqPartS.runs k) (laws_eqPartS.obls k)
/-! loop.example/g00200/laws.eqMsg -/
def laws_eqMsg.f (k : Nat) (a0 : Int × Int) (a1 : Int × Int) : Option (Bool) :=
  if ¬ a0.1 = a1.1 then (some false) else (if ¬ a0.2 = a1.2 then (some false) else (some true))
def laws_eqMsg.sig : Sig := ⟨[.val true Ty2 [], .val true Ty2 []], [.val false .bool []]⟩
def laws_eqMsg.F (k : Nat) (x : Args laws_eqMsg.sig.ps) : Option (Res laws_eqMsg.sig) := laws_eqMsg.f k x.1 x.2.1
def laws_eqMsg.ann (k : Nat) : Ann (Res laws_eqMsg.sig) := .nil
def laws_eqMsg.ent : Ent := ⟨199, laws_eqMsg.sig, laws_eqMsg.F⟩
def laws_eqMsg.ctx (k : Nat) : Ctx := ⟨tds, [], k, 15⟩
theorem laws_eqMsg.runs (k : Nat) (x : Args laws_eqMsg.sig.ps) : laws_eqMsg.F k x = runF (laws_eqMsg.ctx k) laws_eqMsg.sig Try.f199 (Try.f199.body.getD .skip) (laws_eqMsg.ann k) x := by kernel_rfl
theorem laws_eqMsg.obls (k : Nat) : obl (laws_eqMsg.ctx k) 0 (Try.f199.body.getD .skip) (laws_eqMsg.ann k) (retK tds laws_eqMsg.sig Try.f199.results.toList) := ⟨trivial, ⟨⟨trivial, ⟨⟨trivial, trivial⟩, trivial⟩⟩, ⟨⟨trivial, ⟨⟨trivial, trivial⟩, trivial⟩⟩, ⟨trivial, trivial⟩⟩⟩⟩
theorem laws_eqMsg.ok (k : Nat) : EntOk Try.prog k laws_eqMsg.ent := fn_ok (C := laws_eqMsg.ctx k) Try.func199 (by kernel_rfl) (by kernel_rfl) mixed tdsOk EntsOk.nil (by kernel_rfl) (Nat.le_of_ble_eq_true (by kernel_rfl)) (by kernel_rfl) (laws_eqMsg.runs k) (laws_eqMsg.obls k)
/-! loop.example/g00200/laws.eqMsgS -/
def laws_eqMsgS.l1 (k : Nat)  : Nat → Int × De2 × De2 × Unit → Option (Bool)
  | 0, _ => none
  | n + 1, (x1, x2, x3, _) => if x1 < (x2.length : Int) then (if 0 ≤ x1 then (if x1 < (x2.length : Int) then (if 0 ≤ x1 then (if x1 < (x3.length : Int) then ((laws_eqMsg.f k (el Ty2 x2 x1.toNat) (el Ty2 x3 x1.toNat)).bind fun t1 => (if ¬ t1 = true then (some false) else (laws_eqMsgS.l1 k n (w64 (x1 + 1), x2, x3, ())))) else none) else none) else none) else none) else (some true)
def laws_eqMsgS.f (k : Nat) (a0 : De2) (a1 : De2) : Option (Bool) :=
  if ¬ (a0.length : Int) = (a1.length : Int) then (some false) else (laws_eqMsgS.l1 k k (0, a0, a1, ()))
def laws_eqMsgS.Sl1 : Shape := ⟨[(0, false, [.own 0]), (1, false, [.own 1]), (5, false, [.int .i64])], [(0, .view false 241 Ty2), (1, .view false 241 Ty2)], 2⟩
def laws_eqMsgS.sig : Sig := ⟨[.val false (.sl 241 Ty2) [0], .val false (.sl 241 Ty2) [0]], [.val false .bool []]⟩
def laws_eqMsgS.F (k : Nat) (x : Args laws_eqMsgS.sig.ps) : Option (Res laws_eqMsgS.sig) := laws_eqMsgS.f k x.1 x.2.1
def laws_eqMsgS.ann (k : Nat) : Ann (Res laws_eqMsgS.sig) := (.seq .nil (.seq .nil (.seq (.seq .nil (.block (.loop laws_eqMsgS.Sl1 (laws_eqMsgS.l1 k) fun n1 => .nil))) .nil)))
def laws_eqMsgS.ent : Ent := ⟨194, laws_eqMsgS.sig, laws_eqMsgS.F⟩
def laws_eqMsgS.ctx (k : Nat) : Ctx := ⟨tds, [laws_eqMsg.ent], k, 27⟩
theorem laws_eqMsgS.runs (k : Nat) (x : Args laws_eqMsgS.sig.ps) : laws_eqMsgS.F k x = runF (laws_eqMsgS.ctx k) laws_eqMsgS.sig Try.f194 (Try.f194.body.getD .skip) (laws_eqMsgS.ann k) x := by kernel_rfl
theorem laws_eqMsgS.obls (k : Nat) : obl (laws_eqMsgS.ctx k) 2 (Try.f194.body.getD .skip) (laws_eqMsgS.ann k) (retK tds laws_eqMsgS.sig Try.f194.results.toList) := ⟨trivial, ⟨⟨trivial, ⟨⟨trivial, trivial⟩, trivial⟩⟩, ⟨⟨trivial, ⟨⟨by kernel_rfl, fun x => by kernel_rfl⟩, fun n => ⟨fun x => by kernel_rfl, ⟨⟨trivial, ⟨trivial, trivial⟩⟩, ⟨⟨trivial, ⟨⟨trivial, trivial⟩, trivial⟩⟩, trivial⟩⟩⟩⟩⟩, ⟨trivial, trivial⟩⟩⟩⟩
theorem laws_eqMsgS.ok (k : Nat) : EntOk Try.prog k laws_eqMsgS.ent := fn_ok (C := laws_eqMsgS.ctx k) Try.func194 (by kernel_rfl) (by kernel_rfl) mixed tdsOk (.cons (laws_eqMsg.ok k) EntsOk.nil) (by kernel_rfl) (Nat.le_of_ble_eq_true (by kernel_rfl)) (by kernel_rfl) (laws_eqMsgS.runs k) (laws_eqMsgS.obls k)
/-! loop.example/g00200/laws.eqLine -/
def laws_eqLine.f (k : Nat) (a0 : De2) (a1 : De2) : Option (Bool) :=
  (laws_eqMsgS.f k a0 a1).bind fun t1 => (if ¬ t1 = true then (some false) else (some true))
def laws_eqLine.sig : Sig := ⟨[.val true (.sl 241 Ty2) [0], .val true (.sl 241 Ty2) [0]], [.val false .bool []]⟩
def laws_eqLine.F (k : Nat) (x : Args laws_eqLine.sig.ps) : Option (Res laws_eqLine.sig) := laws_eqLine.f k x.1 x.2.1
def laws_eqLine.ann (k : Nat) : Ann (Res laws_eqLine.sig) := .nil
def laws_eqLine.ent : Ent := ⟨152, laws_eqLine.sig, laws_eqLine.F⟩
def laws_eqLine.ctx (k : Nat) : Ctx := ⟨tds, [laws_eqMsgS.ent], k, 11⟩
theorem laws_eqLine.runs (k : Nat) (x : Args laws_eqLine.sig.ps) : laws_eqLine.F k x = runF (laws_eqLine.ctx k) laws_eqLine.sig Try.f152 (Try.f152.body.getD .skip) (laws_eqLine.ann k) x := by kernel_rfl
theorem laws_eqLine.obls (k : Nat) : obl (laws_eqLine.ctx k) 2 (Try.f152.body.getD .skip) (laws_eqLine.ann k) (retK tds laws_eqLine.sig Try.f152.results.toList) := ⟨trivial, ⟨⟨trivial, ⟨⟨trivial, trivial⟩, trivial⟩⟩, ⟨trivial, trivial⟩⟩⟩
theorem laws_eqLine.ok (k : Nat) : EntOk Try.prog k laws_eqLine.ent := fn_ok (C := laws_eqLine.ctx k) Try.func152 (by kernel_rfl) (by kernel_rfl) mixed tdsOk (.cons (laws_eqMsgS.ok k) EntsOk.nil) (by kernel_rfl) (Nat.le_of_ble_eq_true (by kernel_rfl)) (by kernel_rfl) (laws_eqLine.runs k) (laws_eqLine.obls k)
/-! loop.example/g00200/laws.eqLineS -/
def laws_eqLineS.l1 (k : Nat)  : Nat → Int × DeL × DeL × Unit → Option (Bool)
  | 0, _ => none
  | n + 1, (x1, x2, x3, _) => if x1 < (x2.length : Int) then (if 0 ≤ x1 then (if x1 < (x2.length : Int) then (if 0 ≤ x1 then (if x1 < (x3.length : Int) then ((laws_eqLine.f k (el (.sl 241 Ty2) x2 x1.toNat) (el (.sl 241 Ty2) x3 x1.toNat)).bind fun t1 => (if ¬ t1 = true then (some false) else (laws_eqLineS.l1 k n (w64 (x1 + 1), x2, x3, ())))) else none) else none) else none) else none) else (some true)
def laws_eqLineS.f (k : Nat) (a0 : DeL) (a1 : DeL) : Option (Bool) :=
  if ¬ (a0.length : Int) = (a1.length : Int) then (some false) else (laws_eqLineS.l1 k k (0, a0, a1, ()))
def laws_eqLineS.Sl1 : Shape := ⟨[(0, false, [.own 0]), (1, false, [.own 1]), (5, false, [.int .i64])], [(0, .view false 145 (.sl 241 Ty2)), (1, .view false 145 (.sl 241 Ty2))], 2⟩
def laws_eqLineS.sig : Sig := ⟨[.val false (.sl 145 (.sl 241 Ty2)) [0], .val false (.sl 145 (.sl 241 Ty2)) [0]], [.val false .bool []]⟩
def laws_eqLineS.F (k : Nat) (x : Args laws_eqLineS.sig.ps) : Option (Res laws_eqLineS.sig) := laws_eqLineS.f k x.1 x.2.1
def laws_eqLineS.ann (k : Nat) : Ann (Res laws_eqLineS.sig) := (.seq .nil (.seq .nil (.seq (.seq .nil (.block (.loop laws_eqLineS.Sl1 (laws_eqLineS.l1 k) fun n1 => .nil))) .nil)))
def laws_eqLineS.ent : Ent := ⟨80, laws_eqLineS.sig, laws_eqLineS.F⟩
def laws_eqLineS.ctx (k : Nat) : Ctx := ⟨tds, [laws_eqLine.ent], k, 27⟩
theorem laws_eqLineS.runs (k : Nat) (x : Args laws_eqLineS.sig.ps) : laws_eqLineS.F k x = runF (laws_eqLineS.ctx k) laws_eqLineS.sig Try.f80 (Try.f80.body.getD .skip) (laws_eqLineS.ann k) x := by kernel_rfl
theorem laws_eqLineS.obls (k : Nat) : obl (laws_eqLineS.ctx k) 2 (Try.f80.body.getD .skip) (laws_eqLineS.ann k) (retK tds laws_eqLineS.sig Try.f80.results.toList) := ⟨trivial, ⟨⟨trivial, ⟨⟨trivial, trivial⟩, trivial⟩⟩, ⟨⟨trivial, ⟨⟨by kernel_rfl, fun x => by kernel_rfl⟩, fun n => ⟨fun x => by kernel_rfl, ⟨⟨trivial, ⟨trivial, trivial⟩⟩, ⟨⟨trivial, ⟨⟨trivial, trivial⟩, trivial⟩⟩, trivial⟩⟩⟩⟩⟩, ⟨trivial, trivial⟩⟩⟩⟩
theorem laws_eqLineS.ok (k : Nat) : EntOk Try.prog k laws_eqLineS.ent := fn_ok (C := laws_eqLineS.ctx k) Try.func80 (by kernel_rfl) (by kernel_rfl) mixed tdsOk (.cons (laws_eqLine.ok k) EntsOk.nil) (by kernel_rfl) (Nat.le_of_ble_eq_true (by kernel_rfl)) (by kernel_rfl) (laws_eqLineS.runs k) (laws_eqLineS.obls k)
/-! loop.example/g00200/laws.eqEntry -/
def laws_eqEntry.f (k : Nat) (a0 : Int × Int × Int × Int × Int) (a1 : Int × Int × Int × Int × Int) : Option (Bool) :=
  if ¬ a0.1 = a1.1 then (some false) else (if ¬ a0.2.1 = a1.2.1 then (some false) else (if ¬ a0.2.2.1 = a1.2.2.1 then (some false) else (if ¬ a0.2.2.2.1 = a1.2.2.2.1 then (some false) else (if ¬ a0.2.2.2.2 = a1.2.2.2.2 then (some false) else (some true)))))
def laws_eqEntry.sig : Sig := ⟨[.val true Ty5 [], .val true Ty5 []], [.val false .bool []]⟩
def laws_eqEntry.F (k : Nat) (x : Args laws_eqEntry.sig.ps) : Option (Res laws_eqEntry.sig) := laws_eqEntry.f k x.1 x.2.1
def laws_eqEntry.ann (k : Nat) : Ann (Res laws_eqEntry.sig) := .nil
def laws_eqEntry.ent : Ent := ⟨153, laws_eqEntry.sig, laws_eqEntry.F⟩
def laws_eqEntry.ctx (k : Nat) : Ctx := ⟨tds, [], k, 30⟩
theorem laws_eqEntry.runs (k : Nat) (x : Args laws_eqEntry.sig.ps) : laws_eqEntry.F k x = runF (laws_eqEntry.ctx k) laws_eqEntry.sig Try.f153 (Try.f153.body.getD .skip) (laws_eqEntry.ann k) x := by kernel_rfl
theorem laws_eqEntry.obls (k : Nat) : obl (laws_eqEntry.ctx k) 0 (Try.f153.body.getD .skip) (laws_eqEntry.ann k) (retK tds laws_eqEntry.sig Try.f153.results.toList) := ⟨trivial, ⟨⟨trivial, ⟨⟨trivial, trivial⟩, trivial⟩⟩, ⟨⟨trivial, ⟨⟨trivial, trivial⟩, trivial⟩⟩, ⟨⟨trivial, ⟨⟨trivial, trivial⟩, trivial⟩⟩, ⟨⟨trivial, ⟨⟨trivial, trivial⟩, trivial⟩⟩, ⟨⟨trivial, ⟨⟨trivial, trivial⟩, trivial⟩⟩, ⟨trivial, trivial⟩⟩⟩⟩⟩⟩⟩
theorem laws_eqEntry.ok (k : Nat) : EntOk Try.prog k laws_eqEntry.ent := fn_ok (C := laws_eqEntry.ctx k) Try.func153 (by kernel_rfl) (by kernel_rfl) mixed tdsOk EntsOk.nil (by kernel_rfl) (Nat.le_of_ble_eq_true (by kernel_rfl)) (by kernel_rfl) (laws_eqEntry.runs k) (laws_eqEntry.obls k)
/-! loop.example/g00200/laws.eqEntryS -/
def laws_eqEntryS.l1 (k : Nat)  : Nat → Int × De5 × De5 × Unit → Option (Bool)
  | 0, _ => none
  | n + 1, (x1, x2, x3, _) => if x1 < (x2.length : Int) then (if 0 ≤ x1 then (if x1 < (x2.length : Int) then (if 0 ≤ x1 then (if x1 < (x3.length : Int) then ((laws_eqEntry.f k ((el Ty5 x2 x1.toNat).1, (((el Ty5 x2 x1.toNat).2).1, ((((el Ty5 x2 x1.toNat).2).2).1, ((((el Ty5 x2 x1.toNat).2).2).2)))) ((el Ty5 x3 x1.toNat).1, (((el Ty5 x3 x1.toNat).2).1, ((((el Ty5 x3 x1.toNat).2).2).1, ((((el Ty5 x3 x1.toNat).2).2).2))))).bind fun t1 => (if ¬ t1 = true then (some false) else (laws_eqEntryS.l1 k n (w64 (x1 + 1), x2, x3, ())))) else none) else none) else none) else none) else (some true)
def laws_eqEntryS.f (k : Nat) (a0 : De5) (a1 : De5) : Option (Bool) :=
  if ¬ (a0.length : Int) = (a1.length : Int) then (some false) else (laws_eqEntryS.l1 k k (0, a0, a1, ()))
def laws_eqEntryS.Sl1 : Shape := ⟨[(0, false, [.own 0]), (1, false, [.own 1]), (5, false, [.int .i64])], [(0, .view false 70 Ty5), (1, .view false 70 Ty5)], 2⟩
def laws_eqEntryS.sig : Sig := ⟨[.val false (.sl 70 Ty5) [0], .val false (.sl 70 Ty5) [0]], [.val false .bool []]⟩
def laws_eqEntryS.F (k : Nat) (x : Args laws_eqEntryS.sig.ps) : Option (Res laws_eqEntryS.sig) := laws_eqEntryS.f k x.1 x.2.1
def laws_eqEntryS.ann (k : Nat) : Ann (Res laws_eqEntryS.sig) := (.seq .nil (.seq .nil (.seq (.seq .nil (.block (.loop laws_eqEntryS.Sl1 (laws_eqEntryS.l1 k) fun n1 => .nil))) .nil)))
def laws_eqEntryS.ent : Ent := ⟨81, laws_eqEntryS.sig, laws_eqEntryS.F⟩
def laws_eqEntryS.ctx (k : Nat) : Ctx := ⟨tds, [laws_eqEntry.ent], k, 27⟩
theorem laws_eqEntryS.runs (k : Nat) (x : Args laws_eqEntryS.sig.ps) : laws_eqEntryS.F k x = runF (laws_eqEntryS.ctx k) laws_eqEntryS.sig Try.f81 (Try.f81.body.getD .skip) (laws_eqEntryS.ann k) x := by kernel_rfl
theorem laws_eqEntryS.obls (k : Nat) : obl (laws_eqEntryS.ctx k) 2 (Try.f81.body.getD .skip) (laws_eqEntryS.ann k) (retK tds laws_eqEntryS.sig Try.f81.results.toList) := ⟨trivial, ⟨⟨trivial, ⟨⟨trivial, trivial⟩, trivial⟩⟩, ⟨⟨trivial, ⟨⟨by kernel_rfl, fun x => by kernel_rfl⟩, fun n => ⟨fun x => by kernel_rfl, ⟨⟨trivial, ⟨trivial, trivial⟩⟩, ⟨⟨trivial, ⟨⟨trivial, trivial⟩, trivial⟩⟩, trivial⟩⟩⟩⟩⟩, ⟨trivial, trivial⟩⟩⟩⟩
theorem laws_eqEntryS.ok (k : Nat) : EntOk Try.prog k laws_eqEntryS.ent := fn_ok (C := laws_eqEntryS.ctx k) Try.func81 (by kernel_rfl) (by kernel_rfl) mixed tdsOk (.cons (laws_eqEntry.ok k) EntsOk.nil) (by kernel_rfl) (Nat.le_of_ble_eq_true (by kernel_rfl)) (by kernel_rfl) (laws_eqEntryS.runs k) (laws_eqEntryS.obls k)
/-! loop.example/g00200/laws.eqKernel -/
def laws_eqKernel.f (k : Nat) (a0 : DeK) (a1 : DeK) : Option (Bool) :=
  (laws_eqSetup.f k a0.1 a1.1).bind fun t1 => (if ¬ t1 = true then (some false) else ((laws_eqArena.f k a0.2.1 a1.2.1).bind fun t2 => (if ¬ t2 = true then (some false) else ((laws_eqPartS.f k a0.2.2.1 a1.2.2.1).bind fun t3 => (if ¬ t3 = true then (some false) else ((laws_eqLineS.f k a0.2.2.2.1 a1.2.2.2.1).bind fun t4 => (if ¬ t4 = true then (some false) else ((laws_eqIntS.f k a0.2.2.2.2.1 a1.2.2.2.2.1).bind fun t5 => (if ¬ t5 = true then (some false) else (if ¬ a0.2.2.2.2.2.1 = a1.2.2.2.2.2.1 then (some false) else (if ¬ a0.2.2.2.2.2.2.1 = a1.2.2.2.2.2.2.1 then (some false) else ((laws_eqEntryS.f k a0.2.2.2.2.2.2.2 a1.2.2.2.2.2.2.2).bind fun t6 => (if ¬ t6 = true then (some false) else (some true))))))))))))))
def laws_eqKernel.sig : Sig := ⟨[.val true (.pair (.pair (.sl 31 Ty2) (.pair (.sl 34 Ty2) (.pair (.sl 63 Ty5) (.pair (.sl 39 Ty3) (.sl 9 .str))))) (.pair (.sl 3 TyI) (.pair (.sl 59 TyP) (.pair (.sl 145 (.sl 241 Ty2)) (.pair (.sl 3 TyI) (.pair TyI (.pair .bool (.sl 70 Ty5)))))))) [0, 0, 0, 0, 0, 0, 0, 0, 0, 0], .val true (.pair (.pair (.sl 31 Ty2) (.pair (.sl 34 Ty2) (.pair (.sl 63 Ty5) (.pair (.sl 39 Ty3) (.sl 9 .str))))) (.pair (.sl 3 TyI) (.pair (.sl 59 TyP) (.pair (.sl 145 (.sl 241 Ty2)) (.pair (.sl 3 TyI) (.pair TyI (.pair .bool (.sl 70 Ty5)))))))) [0, 0, 0, 0, 0, 0, 0, 0, 0, 0]], [.val false .bool []]⟩
def laws_eqKernel.F (k : Nat) (x : Args laws_eqKernel.sig.ps) : Option (Res laws_eqKernel.sig) := laws_eqKernel.f k x.1 x.2.1
def laws_eqKernel.ann (k : Nat) : Ann (Res laws_eqKernel.sig) := .nil
def laws_eqKernel.ent : Ent := ⟨29, laws_eqKernel.sig, laws_eqKernel.F⟩
def laws_eqKernel.ctx (k : Nat) : Ctx := ⟨tds, [laws_eqIntS.ent, laws_eqSetup.ent, laws_eqArena.ent, laws_eqPartS.ent, laws_eqLineS.ent, laws_eqEntryS.ent], k, 51⟩
theorem laws_eqKernel.runs (k : Nat) (x : Args laws_eqKernel.sig.ps) : laws_eqKernel.F k x = runF (laws_eqKernel.ctx k) laws_eqKernel.sig Try.f29 (Try.f29.body.getD .skip) (laws_eqKernel.ann k) x := by kernel_rfl
theorem laws_eqKernel.obls (k : Nat) : obl (laws_eqKernel.ctx k) 20 (Try.f29.body.getD .skip) (laws_eqKernel.ann k) (retK tds laws_eqKernel.sig Try.f29.results.toList) := ⟨trivial, ⟨⟨trivial, ⟨⟨trivial, trivial⟩, trivial⟩⟩, ⟨⟨trivial, ⟨⟨trivial, trivial⟩, trivial⟩⟩, ⟨⟨trivial, ⟨⟨trivial, trivial⟩, trivial⟩⟩, ⟨⟨trivial, ⟨⟨trivial, trivial⟩, trivial⟩⟩, ⟨⟨trivial, ⟨⟨trivial, trivial⟩, trivial⟩⟩, ⟨⟨trivial, ⟨⟨trivial, trivial⟩, trivial⟩⟩, ⟨⟨trivial, ⟨⟨trivial, trivial⟩, trivial⟩⟩, ⟨⟨trivial, ⟨⟨trivial, trivial⟩, trivial⟩⟩, ⟨trivial, trivial⟩⟩⟩⟩⟩⟩⟩⟩⟩⟩
theorem laws_eqKernel.ok (k : Nat) : EntOk Try.prog k laws_eqKernel.ent := fn_ok (C := laws_eqKernel.ctx k) Try.func29 (by kernel_rfl) (by kernel_rfl) mixed tdsOk (.cons (laws_eqIntS.ok k) (.cons (laws_eqSetup.ok k) (.cons (laws_eqArena.ok k) (.cons (laws_eqPartS.ok k) (.cons (laws_eqLineS.ok k) (.cons (laws_eqEntryS.ok k) EntsOk.nil)))))) (by kernel_rfl) (Nat.le_of_ble_eq_true (by kernel_rfl)) (by kernel_rfl) (laws_eqKernel.runs k) (laws_eqKernel.obls k)
/-! loop.example/g00200/laws.markRegionS -/
def laws_markRegionS.l1 (k : Nat)  : Nat → Int × Int × De2 × Unit → Option (Int × De2)
  | 0, _ => none
  | n + 1, (x1, x2, x3, _) => if x2 < (x3.length : Int) then (if 0 ≤ x2 then (if x2 < (x3.length : Int) then (((some (x3.set x2.toNat (x1, (el Ty2 x3 x2.toNat).2)))).bind fun y1 => (if 0 ≤ x2 then (if x2 < (y1.length : Int) then (((some (y1.set x2.toNat ((el Ty2 y1 x2.toNat).1, w64 (x1 + 1))))).bind fun y2 => (laws_markRegionS.l1 k n (w64 ((w64 (x1 + 1)) + 1), w64 (x2 + 1), y2, ()))) else none) else none)) else none) else none) else (some (x1, x3))
def laws_markRegionS.f (k : Nat) (a0 : De2) (a1 : Int) : Option (Int × De2) :=
  laws_markRegionS.l1 k k (a1, 0, a0, ())
def laws_markRegionS.Sl1 : Shape := ⟨[(0, false, [.own 0]), (1, false, [.int .i64]), (5, false, [.int .i64])], [(0, .row 31 Ty2)], 1⟩
def laws_markRegionS.sig : Sig := ⟨[.val false (.sl 31 Ty2) [1], .val false TyI []], [.val false TyI []]⟩
def laws_markRegionS.F (k : Nat) (x : Args laws_markRegionS.sig.ps) : Option (Res laws_markRegionS.sig) := laws_markRegionS.f k x.1 x.2.1
def laws_markRegionS.ann (k : Nat) : Ann (Res laws_markRegionS.sig) := (.seq .nil (.seq (.seq .nil (.block (.loop laws_markRegionS.Sl1 (laws_markRegionS.l1 k) fun n1 => .nil))) .nil))
def laws_markRegionS.ent : Ent := ⟨111, laws_markRegionS.sig, laws_markRegionS.F⟩
def laws_markRegionS.ctx (k : Nat) : Ctx := ⟨tds, [], k, 27⟩
theorem laws_markRegionS.runs (k : Nat) (x : Args laws_markRegionS.sig.ps) : laws_markRegionS.F k x = runF (laws_markRegionS.ctx k) laws_markRegionS.sig Try.f111 (Try.f111.body.getD .skip) (laws_markRegionS.ann k) x := by kernel_rfl
theorem laws_markRegionS.obls (k : Nat) : obl (laws_markRegionS.ctx k) 1 (Try.f111.body.getD .skip) (laws_markRegionS.ann k) (retK tds laws_markRegionS.sig Try.f111.results.toList) := ⟨trivial, ⟨⟨trivial, ⟨⟨by kernel_rfl, fun x => by kernel_rfl⟩, fun n => ⟨fun x => by kernel_rfl, ⟨⟨trivial, ⟨trivial, trivial⟩⟩, ⟨⟨trivial, ⟨trivial, ⟨trivial, trivial⟩⟩⟩, trivial⟩⟩⟩⟩⟩, ⟨trivial, trivial⟩⟩⟩
theorem laws_markRegionS.ok (k : Nat) : EntOk Try.prog k laws_markRegionS.ent := fn_ok (C := laws_markRegionS.ctx k) Try.func111 (by kernel_rfl) (by kernel_rfl) mixed tdsOk EntsOk.nil (by kernel_rfl) (Nat.le_of_ble_eq_true (by kernel_rfl)) (by kernel_rfl) (laws_markRegionS.runs k) (laws_markRegionS.obls k)
/-! loop.example/g00200/laws.markWindowS -/
def laws_markWindowS.l1 (k : Nat)  : Nat → Int × Int × De2 × Unit → Option (Int × De2)
  | 0, _ => none
  | n + 1, (x1, x2, x3, _) => if x2 < (x3.length : Int) then (if 0 ≤ x2 then (if x2 < (x3.length : Int) then (((some (x3.set x2.toNat (x1, (el Ty2 x3 x2.toNat).2)))).bind fun y1 => (if 0 ≤ x2 then (if x2 < (y1.length : Int) then (((some (y1.set x2.toNat ((el Ty2 y1 x2.toNat).1, w64 (x1 + 1))))).bind fun y2 => (laws_markWindowS.l1 k n (w64 ((w64 (x1 + 1)) + 1), w64 (x2 + 1), y2, ()))) else none) else none)) else none) else none) else (some (x1, x3))
def laws_markWindowS.f (k : Nat) (a0 : De2) (a1 : Int) : Option (Int × De2) :=
  laws_markWindowS.l1 k k (a1, 0, a0, ())
def laws_markWindowS.Sl1 : Shape := ⟨[(0, false, [.own 0]), (1, false, [.int .i64]), (5, false, [.int .i64])], [(0, .row 34 Ty2)], 1⟩
def laws_markWindowS.sig : Sig := ⟨[.val false (.sl 34 Ty2) [1], .val false TyI []], [.val false TyI []]⟩
def laws_markWindowS.F (k : Nat) (x : Args laws_markWindowS.sig.ps) : Option (Res laws_markWindowS.sig) := laws_markWindowS.f k x.1 x.2.1
def laws_markWindowS.ann (k : Nat) : Ann (Res laws_markWindowS.sig) := (.seq .nil (.seq (.seq .nil (.block (.loop laws_markWindowS.Sl1 (laws_markWindowS.l1 k) fun n1 => .nil))) .nil))
def laws_markWindowS.ent : Ent := ⟨112, laws_markWindowS.sig, laws_markWindowS.F⟩
def laws_markWindowS.ctx (k : Nat) : Ctx := ⟨tds, [], k, 27⟩
theorem laws_markWindowS.runs (k : Nat) (x : Args laws_markWindowS.sig.ps) : laws_markWindowS.F k x = runF (laws_markWindowS.ctx k) laws_markWindowS.sig Try.f112 (Try.f112.body.getD .skip) (laws_markWindowS.ann k) x := by kernel_rfl
theorem laws_markWindowS.obls (k : Nat) : obl (laws_markWindowS.ctx k) 1 (Try.f112.body.getD .skip) (laws_markWindowS.ann k) (retK tds laws_markWindowS.sig Try.f112.results.toList) := ⟨trivial, ⟨⟨trivial, ⟨⟨by kernel_rfl, fun x => by kernel_rfl⟩, fun n => ⟨fun x => by kernel_rfl, ⟨⟨trivial, ⟨trivial, trivial⟩⟩, ⟨⟨trivial, ⟨trivial, ⟨trivial, trivial⟩⟩⟩, trivial⟩⟩⟩⟩⟩, ⟨trivial, trivial⟩⟩⟩
theorem laws_markWindowS.ok (k : Nat) : EntOk Try.prog k laws_markWindowS.ent := fn_ok (C := laws_markWindowS.ctx k) Try.func112 (by kernel_rfl) (by kernel_rfl) mixed tdsOk EntsOk.nil (by kernel_rfl) (Nat.le_of_ble_eq_true (by kernel_rfl)) (by kernel_rfl) (laws_markWindowS.runs k) (laws_markWindowS.obls k)
/-! loop.example/g00200/laws.markPortS -/
def laws_markPortS.l1 (k : Nat)  : Nat → Int × Int × De5 × Unit → Option (Int × De5)
  | 0, _ => none
  | n + 1, (x1, x2, x3, _) => if x2 < (x3.length : Int) then (if 0 ≤ x2 then (if x2 < (x3.length : Int) then (((some (x3.set x2.toNat (x1, (el Ty5 x3 x2.toNat).2)))).bind fun y1 => (if 0 ≤ x2 then (if x2 < (y1.length : Int) then (((some (y1.set x2.toNat ((el Ty5 y1 x2.toNat).1, (w64 (x1 + 1), ((el Ty5 y1 x2.toNat).2).2))))).bind fun y2 => (if 0 ≤ x2 then (if x2 < (y2.length : Int) then (((some (y2.set x2.toNat ((el Ty5 y2 x2.toNat).1, (((el Ty5 y2 x2.toNat).2).1, (w64 ((w64 (x1 + 1)) + 1), (((el Ty5 y2 x2.toNat).2).2).2)))))).bind fun y3 => (if 0 ≤ x2 then (if x2 < (y3.length : Int) then (((some (y3.set x2.toNat ((el Ty5 y3 x2.toNat).1, (((el Ty5 y3 x2.toNat).2).1, ((((el Ty5 y3 x2.toNat).2).2).1, (w64 ((w64 ((w64 (x1 + 1)) + 1)) + 1), ((((el Ty5 y3 x2.toNat).2).2).2).2))))))).bind fun y4 => (if 0 ≤ x2 then (if x2 < (y4.length : Int) then (((some (y4.set x2.toNat ((el Ty5 y4 x2.toNat).1, (((el Ty5 y4 x2.toNat).2).1, ((((el Ty5 y4 x2.toNat).2).2).1, (((((el Ty5 y4 x2.toNat).2).2).2).1, w64 ((w64 ((w64 ((w64 (x1 + 1)) + 1)) + 1)) + 1)))))))).bind fun y5 => (laws_markPortS.l1 k n (w64 ((w64 ((w64 ((w64 ((w64 (x1 + 1)) + 1)) + 1)) + 1)) + 1), w64 (x2 + 1), y5, ()))) else none) else none)) else none) else none)) else none) else none)) else none) else none)) else none) else none) else (some (x1, x3))
def laws_markPortS.f (k : Nat) (a0 : De5) (a1 : Int) : Option (Int × De5) :=
  laws_markPortS.l1 k k (a1, 0, a0, ())
def laws_markPortS.Sl1 : Shape := ⟨[(0, false, [.own 0]), (1, false, [.int .i64]), (5, false, [.int .i64])], [(0, .row 63 Ty5)], 1⟩
def laws_markPortS.sig : Sig := ⟨[.val false (.sl 63 Ty5) [1], .val false TyI []], [.val false TyI []]⟩
def laws_markPortS.F (k : Nat) (x : Args laws_markPortS.sig.ps) : Option (Res laws_markPortS.sig) := laws_markPortS.f k x.1 x.2.1
def laws_markPortS.ann (k : Nat) : Ann (Res laws_markPortS.sig) := (.seq .nil (.seq (.seq .nil (.block (.loop laws_markPortS.Sl1 (laws_markPortS.l1 k) fun n1 => .nil))) .nil))
def laws_markPortS.ent : Ent := ⟨113, laws_markPortS.sig, laws_markPortS.F⟩
def laws_markPortS.ctx (k : Nat) : Ctx := ⟨tds, [], k, 48⟩
theorem laws_markPortS.runs (k : Nat) (x : Args laws_markPortS.sig.ps) : laws_markPortS.F k x = runF (laws_markPortS.ctx k) laws_markPortS.sig Try.f113 (Try.f113.body.getD .skip) (laws_markPortS.ann k) x := by kernel_rfl
theorem laws_markPortS.obls (k : Nat) : obl (laws_markPortS.ctx k) 1 (Try.f113.body.getD .skip) (laws_markPortS.ann k) (retK tds laws_markPortS.sig Try.f113.results.toList) := ⟨trivial, ⟨⟨trivial, ⟨⟨by kernel_rfl, fun x => by kernel_rfl⟩, fun n => ⟨fun x => by kernel_rfl, ⟨⟨trivial, ⟨trivial, trivial⟩⟩, ⟨⟨trivial, ⟨trivial, ⟨trivial, ⟨trivial, ⟨trivial, ⟨trivial, ⟨trivial, ⟨trivial, ⟨trivial, trivial⟩⟩⟩⟩⟩⟩⟩⟩⟩, trivial⟩⟩⟩⟩⟩, ⟨trivial, trivial⟩⟩⟩
theorem laws_markPortS.ok (k : Nat) : EntOk Try.prog k laws_markPortS.ent := fn_ok (C := laws_markPortS.ctx k) Try.func113 (by kernel_rfl) (by kernel_rfl) mixed tdsOk EntsOk.nil (by kernel_rfl) (Nat.le_of_ble_eq_true (by kernel_rfl)) (by kernel_rfl) (laws_markPortS.runs k) (laws_markPortS.obls k)
/-! loop.example/g00200/laws.markRuleS -/
def laws_markRuleS.l1 (k : Nat)  : Nat → Int × Int × De3 × Unit → Option (Int × De3)
  | 0, _ => none
  | n + 1, (x1, x2, x3, _) => if x2 < (x3.length : Int) then (if 0 ≤ x2 then (if x2 < (x3.length : Int) then (((some (x3.set x2.toNat (x1, (el Ty3 x3 x2.toNat).2)))).bind fun y1 => (if 0 ≤ x2 then (if x2 < (y1.length : Int) then (((some (y1.set x2.toNat ((el Ty3 y1 x2.toNat).1, (w64 (x1 + 1), ((el Ty3 y1 x2.toNat).2).2))))).bind fun y2 => (if 0 ≤ x2 then (if x2 < (y2.length : Int) then (((some (y2.set x2.toNat ((el Ty3 y2 x2.toNat).1, (((el Ty3 y2 x2.toNat).2).1, w64 ((w64 (x1 + 1)) + 1)))))).bind fun y3 => (laws_markRuleS.l1 k n (w64 ((w64 ((w64 (x1 + 1)) + 1)) + 1), w64 (x2 + 1), y3, ()))) else none) else none)) else none) else none)) else none) else none) else (some (x1, x3))
def laws_markRuleS.f (k : Nat) (a0 : De3) (a1 : Int) : Option (Int × De3) :=
  laws_markRuleS.l1 k k (a1, 0, a0, ())
def laws_markRuleS.Sl1 : Shape := ⟨[(0, false, [.own 0]), (1, false, [.int .i64]), (5, false, [.int .i64])], [(0, .row 39 Ty3)], 1⟩
def laws_markRuleS.sig : Sig := ⟨[.val false (.sl 39 Ty3) [1], .val false TyI []], [.val false TyI []]⟩
def laws_markRuleS.F (k : Nat) (x : Args laws_markRuleS.sig.ps) : Option (Res laws_markRuleS.sig) := laws_markRuleS.f k x.1 x.2.1
def laws_markRuleS.ann (k : Nat) : Ann (Res laws_markRuleS.sig) := (.seq .nil (.seq (.seq .nil (.block (.loop laws_markRuleS.Sl1 (laws_markRuleS.l1 k) fun n1 => .nil))) .nil))
def laws_markRuleS.ent : Ent := ⟨114, laws_markRuleS.sig, laws_markRuleS.F⟩
def laws_markRuleS.ctx (k : Nat) : Ctx := ⟨tds, [], k, 34⟩
theorem laws_markRuleS.runs (k : Nat) (x : Args laws_markRuleS.sig.ps) : laws_markRuleS.F k x = runF (laws_markRuleS.ctx k) laws_markRuleS.sig Try.f114 (Try.f114.body.getD .skip) (laws_markRuleS.ann k) x := by kernel_rfl
theorem laws_markRuleS.obls (k : Nat) : obl (laws_markRuleS.ctx k) 1 (Try.f114.body.getD .skip) (laws_markRuleS.ann k) (retK tds laws_markRuleS.sig Try.f114.results.toList) := ⟨trivial, ⟨⟨trivial, ⟨⟨by kernel_rfl, fun x => by kernel_rfl⟩, fun n => ⟨fun x => by kernel_rfl, ⟨⟨trivial, ⟨trivial, trivial⟩⟩, ⟨⟨trivial, ⟨trivial, ⟨trivial, ⟨trivial, ⟨trivial, trivial⟩⟩⟩⟩⟩, trivial⟩⟩⟩⟩⟩, ⟨trivial, trivial⟩⟩⟩
theorem laws_markRuleS.ok (k : Nat) : EntOk Try.prog k laws_markRuleS.ent := fn_ok (C := laws_markRuleS.ctx k) Try.func114 (by kernel_rfl) (by kernel_rfl) mixed tdsOk EntsOk.nil (by kernel_rfl) (Nat.le_of_ble_eq_true (by kernel_rfl)) (by kernel_rfl) (laws_markRuleS.runs k) (laws_markRuleS.obls k)
/-! loop.example/g00200/laws.markText -/
def laws_markText.l1 (k : Nat)  : Nat → Int × ByteArray × Unit → Option (ByteArray)
  | 0, _ => none
  | n + 1, (x1, x2, _) => if 0 < x1 then (((some ([IntKind.u8.wrap (w64 (48 + (Int.tmod x1 10)))] : DeI))).bind fun y1 => (if (chrs y1).size + x2.size ≤ 9223372036854775807 then (laws_markText.l1 k n (w64 (Int.tdiv x1 10), (chrs y1) ++ x2, ())) else none)) else (if (⟨#[109]⟩ : ByteArray).size + x2.size ≤ 9223372036854775807 then (some ((⟨#[109]⟩ : ByteArray) ++ x2)) else none)
def laws_markText.f (k : Nat) (a0 : Int) : Option (ByteArray) :=
  if a0 ≤ 0 then (some (⟨#[109, 48]⟩ : ByteArray)) else (laws_markText.l1 k k (a0, (⟨#[]⟩ : ByteArray), ()))
def laws_markText.Sl1 : Shape := ⟨[(0, false, [.int .i64]), (3, false, [.str])], [], 0⟩
def laws_markText.sig : Sig := ⟨[.val false TyI []], [.val false .str []]⟩
def laws_markText.F (k : Nat) (x : Args laws_markText.sig.ps) : Option (Res laws_markText.sig) := laws_markText.f k x.1
def laws_markText.ann (k : Nat) : Ann (Res laws_markText.sig) := (.seq .nil (.seq .nil (.seq .nil (.seq (.block (.loop laws_markText.Sl1 (laws_markText.l1 k) fun n1 => .nil)) .nil))))
def laws_markText.ent : Ent := ⟨170, laws_markText.sig, laws_markText.F⟩
def laws_markText.ctx (k : Nat) : Ctx := ⟨tds, [], k, 20⟩
theorem laws_markText.runs (k : Nat) (x : Args laws_markText.sig.ps) : laws_markText.F k x = runF (laws_markText.ctx k) laws_markText.sig Try.f170 (Try.f170.body.getD .skip) (laws_markText.ann k) x := by kernel_rfl
theorem laws_markText.obls (k : Nat) : obl (laws_markText.ctx k) 0 (Try.f170.body.getD .skip) (laws_markText.ann k) (retK tds laws_markText.sig Try.f170.results.toList) := ⟨trivial, ⟨⟨trivial, ⟨⟨trivial, trivial⟩, trivial⟩⟩, ⟨trivial, ⟨⟨⟨by kernel_rfl, fun x => by kernel_rfl⟩, fun n => ⟨fun x => by kernel_rfl, ⟨⟨trivial, ⟨trivial, trivial⟩⟩, ⟨trivial, trivial⟩⟩⟩⟩, ⟨trivial, trivial⟩⟩⟩⟩⟩
theorem laws_markText.ok (k : Nat) : EntOk Try.prog k laws_markText.ent := fn_ok (C := laws_markText.ctx k) Try.func170 (by kernel_rfl) (by kernel_rfl) mixed tdsOk EntsOk.nil (by kernel_rfl) (Nat.le_of_ble_eq_true (by kernel_rfl)) (by kernel_rfl) (laws_markText.runs k) (laws_markText.obls k)
/-! loop.example/g00200/laws.markStringS -/
def laws_markStringS.l1 (k : Nat)  : Nat → Int × Int × DeB × Unit → Option (Int × DeB)
  | 0, _ => none
  | n + 1, (x1, x2, x3, _) => if x2 < (x3.length : Int) then ((laws_markText.f k x1).bind fun t1 => (if 0 ≤ x2 then (if x2 < (x3.length : Int) then (((some (x3.set x2.toNat t1))).bind fun y2 => (laws_markStringS.l1 k n (w64 (x1 + 1), w64 (x2 + 1), y2, ()))) else none) else none)) else (some (x1, x3))
def laws_markStringS.f (k : Nat) (a0 : DeB) (a1 : Int) : Option (Int × DeB) :=
  laws_markStringS.l1 k k (a1, 0, a0, ())
def laws_markStringS.Sl1 : Shape := ⟨[(0, false, [.own 0]), (1, false, [.int .i64]), (5, false, [.int .i64])], [(0, .row 9 .str)], 1⟩
def laws_markStringS.sig : Sig := ⟨[.val false (.sl 9 .str) [1], .val false TyI []], [.val false TyI []]⟩
def laws_markStringS.F (k : Nat) (x : Args laws_markStringS.sig.ps) : Option (Res laws_markStringS.sig) := laws_markStringS.f k x.1 x.2.1
def laws_markStringS.ann (k : Nat) : Ann (Res laws_markStringS.sig) := (.seq .nil (.seq (.seq .nil (.block (.loop laws_markStringS.Sl1 (laws_markStringS.l1 k) fun n1 => .nil))) .nil))
def laws_markStringS.ent : Ent := ⟨115, laws_markStringS.sig, laws_markStringS.F⟩
def laws_markStringS.ctx (k : Nat) : Ctx := ⟨tds, [laws_markText.ent], k, 20⟩
theorem laws_markStringS.runs (k : Nat) (x : Args laws_markStringS.sig.ps) : laws_markStringS.F k x = runF (laws_markStringS.ctx k) laws_markStringS.sig Try.f115 (Try.f115.body.getD .skip) (laws_markStringS.ann k) x := by kernel_rfl
theorem laws_markStringS.obls (k : Nat) : obl (laws_markStringS.ctx k) 1 (Try.f115.body.getD .skip) (laws_markStringS.ann k) (retK tds laws_markStringS.sig Try.f115.results.toList) := ⟨trivial, ⟨⟨trivial, ⟨⟨by kernel_rfl, fun x => by kernel_rfl⟩, fun n => ⟨fun x => by kernel_rfl, ⟨⟨trivial, ⟨trivial, trivial⟩⟩, ⟨⟨trivial, trivial⟩, trivial⟩⟩⟩⟩⟩, ⟨trivial, trivial⟩⟩⟩
theorem laws_markStringS.ok (k : Nat) : EntOk Try.prog k laws_markStringS.ent := fn_ok (C := laws_markStringS.ctx k) Try.func115 (by kernel_rfl) (by kernel_rfl) mixed tdsOk (.cons (laws_markText.ok k) EntsOk.nil) (by kernel_rfl) (Nat.le_of_ble_eq_true (by kernel_rfl)) (by kernel_rfl) (laws_markStringS.runs k) (laws_markStringS.obls k)
/-! loop.example/g00200/laws.markSetup -/
def laws_markSetup.f (k : Nat) (a0 : De2 × De2 × De5 × De3 × DeB) (a1 : Int) : Option (Int × De2 × De2 × De5 × De3 × DeB) :=
  (laws_markRegionS.f k a0.1 a1).bind fun t1 => ((laws_markWindowS.f k a0.2.1 t1.1).bind fun t2 => ((laws_markPortS.f k a0.2.2.1 t2.1).bind fun t3 => ((laws_markRuleS.f k a0.2.2.2.1 t3.1).bind fun t4 => ((laws_markStringS.f k a0.2.2.2.2 t4.1).bind fun t5 => (some (t5.1, t1.2, t2.2, t3.2, t4.2, t5.2))))))
def laws_markSetup.sig : Sig := ⟨[.val true (.pair (.sl 31 Ty2) (.pair (.sl 34 Ty2) (.pair (.sl 63 Ty5) (.pair (.sl 39 Ty3) (.sl 9 .str))))) [1, 1, 1, 1, 1], .val false TyI []], [.val false TyI []]⟩
def laws_markSetup.F (k : Nat) (x : Args laws_markSetup.sig.ps) : Option (Res laws_markSetup.sig) := laws_markSetup.f k x.1 x.2.1
def laws_markSetup.ann (k : Nat) : Ann (Res laws_markSetup.sig) := .nil
def laws_markSetup.ent : Ent := ⟨41, laws_markSetup.sig, laws_markSetup.F⟩
def laws_markSetup.ctx (k : Nat) : Ctx := ⟨tds, [laws_markRegionS.ent, laws_markWindowS.ent, laws_markPortS.ent, laws_markRuleS.ent, laws_markStringS.ent], k, 26⟩
theorem laws_markSetup.runs (k : Nat) (x : Args laws_markSetup.sig.ps) : laws_markSetup.F k x = runF (laws_markSetup.ctx k) laws_markSetup.sig Try.f41 (Try.f41.body.getD .skip) (laws_markSetup.ann k) x := by kernel_rfl
theorem laws_markSetup.obls (k : Nat) : obl (laws_markSetup.ctx k) 5 (Try.f41.body.getD .skip) (laws_markSetup.ann k) (retK tds laws_markSetup.sig Try.f41.results.toList) := ⟨trivial, ⟨trivial, ⟨trivial, ⟨trivial, ⟨trivial, ⟨trivial, ⟨trivial, trivial⟩⟩⟩⟩⟩⟩⟩
theorem laws_markSetup.ok (k : Nat) : EntOk Try.prog k laws_markSetup.ent := fn_ok (C := laws_markSetup.ctx k) Try.func41 (by kernel_rfl) (by kernel_rfl) mixed tdsOk (.cons (laws_markRegionS.ok k) (.cons (laws_markWindowS.ok k) (.cons (laws_markPortS.ok k) (.cons (laws_markRuleS.ok k) (.cons (laws_markStringS.ok k) EntsOk.nil))))) (by kernel_rfl) (Nat.le_of_ble_eq_true (by kernel_rfl)) (by kernel_rfl) (laws_markSetup.runs k) (laws_markSetup.obls k)
/-! loop.example/g00200/laws.markIntS -/
def laws_markIntS.l1 (k : Nat)  : Nat → Int × Int × DeI × Unit → Option (Int × DeI)
  | 0, _ => none
  | n + 1, (x1, x2, x3, _) => if x2 < (x3.length : Int) then (if 0 ≤ x2 then (if x2 < (x3.length : Int) then (((some (x3.set x2.toNat x1))).bind fun y1 => (laws_markIntS.l1 k n (w64 (x1 + 1), w64 (x2 + 1), y1, ()))) else none) else none) else (some (x1, x3))
def laws_markIntS.f (k : Nat) (a0 : DeI) (a1 : Int) : Option (Int × DeI) :=
  laws_markIntS.l1 k k (a1, 0, a0, ())
def laws_markIntS.Sl1 : Shape := ⟨[(0, false, [.own 0]), (1, false, [.int .i64]), (5, false, [.int .i64])], [(0, .row 3 TyI)], 1⟩
def laws_markIntS.sig : Sig := ⟨[.val false (.sl 3 TyI) [1], .val false TyI []], [.val false TyI []]⟩
def laws_markIntS.F (k : Nat) (x : Args laws_markIntS.sig.ps) : Option (Res laws_markIntS.sig) := laws_markIntS.f k x.1 x.2.1
def laws_markIntS.ann (k : Nat) : Ann (Res laws_markIntS.sig) := (.seq .nil (.seq (.seq .nil (.block (.loop laws_markIntS.Sl1 (laws_markIntS.l1 k) fun n1 => .nil))) .nil))
def laws_markIntS.ent : Ent := ⟨32, laws_markIntS.sig, laws_markIntS.F⟩
def laws_markIntS.ctx (k : Nat) : Ctx := ⟨tds, [], k, 19⟩
theorem laws_markIntS.runs (k : Nat) (x : Args laws_markIntS.sig.ps) : laws_markIntS.F k x = runF (laws_markIntS.ctx k) laws_markIntS.sig Try.f32 (Try.f32.body.getD .skip) (laws_markIntS.ann k) x := by kernel_rfl
theorem laws_markIntS.obls (k : Nat) : obl (laws_markIntS.ctx k) 1 (Try.f32.body.getD .skip) (laws_markIntS.ann k) (retK tds laws_markIntS.sig Try.f32.results.toList) := ⟨trivial, ⟨⟨trivial, ⟨⟨by kernel_rfl, fun x => by kernel_rfl⟩, fun n => ⟨fun x => by kernel_rfl, ⟨⟨trivial, ⟨trivial, trivial⟩⟩, ⟨⟨trivial, trivial⟩, trivial⟩⟩⟩⟩⟩, ⟨trivial, trivial⟩⟩⟩
theorem laws_markIntS.ok (k : Nat) : EntOk Try.prog k laws_markIntS.ent := fn_ok (C := laws_markIntS.ctx k) Try.func32 (by kernel_rfl) (by kernel_rfl) mixed tdsOk EntsOk.nil (by kernel_rfl) (Nat.le_of_ble_eq_true (by kernel_rfl)) (by kernel_rfl) (laws_markIntS.runs k) (laws_markIntS.obls k)
/-! loop.example/g00200/laws.markArena -/
def laws_markArena.f (k : Nat) (a0 : DeI) (a1 : Int) : Option (Int × DeI) :=
  (laws_markIntS.f k a0 a1).bind fun t1 => (some (t1.1, t1.2))
def laws_markArena.sig : Sig := ⟨[.val true (.sl 3 TyI) [1], .val false TyI []], [.val false TyI []]⟩
def laws_markArena.F (k : Nat) (x : Args laws_markArena.sig.ps) : Option (Res laws_markArena.sig) := laws_markArena.f k x.1 x.2.1
def laws_markArena.ann (k : Nat) : Ann (Res laws_markArena.sig) := .nil
def laws_markArena.ent : Ent := ⟨82, laws_markArena.sig, laws_markArena.F⟩
def laws_markArena.ctx (k : Nat) : Ctx := ⟨tds, [laws_markIntS.ent], k, 10⟩
theorem laws_markArena.runs (k : Nat) (x : Args laws_markArena.sig.ps) : laws_markArena.F k x = runF (laws_markArena.ctx k) laws_markArena.sig Try.f82 (Try.f82.body.getD .skip) (laws_markArena.ann k) x := by kernel_rfl
theorem laws_markArena.obls (k : Nat) : obl (laws_markArena.ctx k) 1 (Try.f82.body.getD .skip) (laws_markArena.ann k) (retK tds laws_markArena.sig Try.f82.results.toList) := ⟨trivial, ⟨trivial, ⟨trivial, trivial⟩⟩⟩
theorem laws_markArena.ok (k : Nat) : EntOk Try.prog k laws_markArena.ent := fn_ok (C := laws_markArena.ctx k) Try.func82 (by kernel_rfl) (by kernel_rfl) mixed tdsOk (.cons (laws_markIntS.ok k) EntsOk.nil) (by kernel_rfl) (Nat.le_of_ble_eq_true (by kernel_rfl)) (by kernel_rfl) (laws_markArena.runs k) (laws_markArena.obls k)
/-! loop.example/g00200/laws.markPartS -/
def laws_markPartS.l1 (k : Nat)  : Nat → Int × Int × DeP × Unit → Option (Int × DeP)
  | 0, _ => none
  | n + 1, (x1, x2, x3, _) => if x2 < (x3.length : Int) then (if 0 ≤ x2 then (if x2 < (x3.length : Int) then (((some (x3.set x2.toNat (x1, (el TyP x3 x2.toNat).2)))).bind fun y1 => (if 0 ≤ x2 then (if x2 < (y1.length : Int) then (((some (y1.set x2.toNat ((el TyP y1 x2.toNat).1, ((w64 (x1 + 1), (((el TyP y1 x2.toNat).2).1).2), ((el TyP y1 x2.toNat).2).2))))).bind fun y2 => (if 0 ≤ x2 then (if x2 < (y2.length : Int) then ((laws_markIntS.f k ((((el TyP y2 x2.toNat).2).1).2) (w64 ((w64 (x1 + 1)) + 1))).bind fun t3 => (((some (y2.set x2.toNat ((el TyP y2 x2.toNat).1, (((((el TyP y2 x2.toNat).2).1).1, t3.2), ((el TyP y2 x2.toNat).2).2))))).bind fun y4 => (if 0 ≤ x2 then (if x2 < (y4.length : Int) then (((some (y4.set x2.toNat ((el TyP y4 x2.toNat).1, (((el TyP y4 x2.toNat).2).1, (t3.1, (((el TyP y4 x2.toNat).2).2).2)))))).bind fun y5 => (if 0 ≤ x2 then (if x2 < (y5.length : Int) then (((some (y5.set x2.toNat ((el TyP y5 x2.toNat).1, (((el TyP y5 x2.toNat).2).1, ((((el TyP y5 x2.toNat).2).2).1, (w64 (t3.1 + 1), ((((el TyP y5 x2.toNat).2).2).2).2))))))).bind fun y6 => (if 0 ≤ x2 then (if x2 < (y6.length : Int) then (((some (y6.set x2.toNat ((el TyP y6 x2.toNat).1, (((el TyP y6 x2.toNat).2).1, ((((el TyP y6 x2.toNat).2).2).1, (((((el TyP y6 x2.toNat).2).2).2).1, w64 ((w64 (t3.1 + 1)) + 1)))))))).bind fun y7 => (laws_markPartS.l1 k n (w64 ((w64 ((w64 (t3.1 + 1)) + 1)) + 1), w64 (x2 + 1), y7, ()))) else none) else none)) else none) else none)) else none) else none))) else none) else none)) else none) else none)) else none) else none) else (some (x1, x3))
def laws_markPartS.f (k : Nat) (a0 : DeP) (a1 : Int) : Option (Int × DeP) :=
  laws_markPartS.l1 k k (a1, 0, a0, ())
def laws_markPartS.Sl1 : Shape := ⟨[(0, false, [.own 0]), (1, false, [.int .i64]), (5, false, [.int .i64])], [(0, .row 59 TyP)], 1⟩
def laws_markPartS.sig : Sig := ⟨[.val false (.sl 59 TyP) [1], .val false TyI []], [.val false TyI []]⟩
def laws_markPartS.F (k : Nat) (x : Args laws_markPartS.sig.ps) : Option (Res laws_markPartS.sig) := laws_markPartS.f k x.1 x.2.1
def laws_markPartS.ann (k : Nat) : Ann (Res laws_markPartS.sig) := (.seq .nil (.seq (.seq .nil (.block (.loop laws_markPartS.Sl1 (laws_markPartS.l1 k) fun n1 => .nil))) .nil))
def laws_markPartS.ent : Ent := ⟨83, laws_markPartS.sig, laws_markPartS.F⟩
def laws_markPartS.ctx (k : Nat) : Ctx := ⟨tds, [laws_markIntS.ent], k, 57⟩
theorem laws_markPartS.runs (k : Nat) (x : Args laws_markPartS.sig.ps) : laws_markPartS.F k x = runF (laws_markPartS.ctx k) laws_markPartS.sig Try.f83 (Try.f83.body.getD .skip) (laws_markPartS.ann k) x := by kernel_rfl
theorem laws_markPartS.obls (k : Nat) : obl (laws_markPartS.ctx k) 1 (Try.f83.body.getD .skip) (laws_markPartS.ann k) (retK tds laws_markPartS.sig Try.f83.results.toList) := ⟨trivial, ⟨⟨trivial, ⟨⟨by kernel_rfl, fun x => by kernel_rfl⟩, fun n => ⟨fun x => by kernel_rfl, ⟨⟨trivial, ⟨trivial, trivial⟩⟩, ⟨⟨trivial, ⟨trivial, ⟨trivial, ⟨trivial, ⟨trivial, ⟨trivial, ⟨trivial, ⟨trivial, ⟨trivial, ⟨trivial, trivial⟩⟩⟩⟩⟩⟩⟩⟩⟩⟩, trivial⟩⟩⟩⟩⟩, ⟨trivial, trivial⟩⟩⟩
theorem laws_markPartS.ok (k : Nat) : EntOk Try.prog k laws_markPartS.ent := fn_ok (C := laws_markPartS.ctx k) Try.func83 (by kernel_rfl) (by kernel_rfl) mixed tdsOk (.cons (laws_markIntS.ok k) EntsOk.nil) (by kernel_rfl) (Nat.le_of_ble_eq_true (by kernel_rfl)) (by kernel_rfl) (laws_markPartS.runs k) (laws_markPartS.obls k)
/-! loop.example/g00200/laws.markMsgS -/
def laws_markMsgS.l1 (k : Nat)  : Nat → Int × Int × De2 × Unit → Option (Int × De2)
  | 0, _ => none
  | n + 1, (x1, x2, x3, _) => if x2 < (x3.length : Int) then (if 0 ≤ x2 then (if x2 < (x3.length : Int) then (((some (x3.set x2.toNat (x1, (el Ty2 x3 x2.toNat).2)))).bind fun y1 => (if 0 ≤ x2 then (if x2 < (y1.length : Int) then (((some (y1.set x2.toNat ((el Ty2 y1 x2.toNat).1, w64 (x1 + 1))))).bind fun y2 => (laws_markMsgS.l1 k n (w64 ((w64 (x1 + 1)) + 1), w64 (x2 + 1), y2, ()))) else none) else none)) else none) else none) else (some (x1, x3))
def laws_markMsgS.f (k : Nat) (a0 : De2) (a1 : Int) : Option (Int × De2) :=
  laws_markMsgS.l1 k k (a1, 0, a0, ())
def laws_markMsgS.Sl1 : Shape := ⟨[(0, false, [.own 0]), (1, false, [.int .i64]), (5, false, [.int .i64])], [(0, .row 241 Ty2)], 1⟩
def laws_markMsgS.sig : Sig := ⟨[.val false (.sl 241 Ty2) [1], .val false TyI []], [.val false TyI []]⟩
def laws_markMsgS.F (k : Nat) (x : Args laws_markMsgS.sig.ps) : Option (Res laws_markMsgS.sig) := laws_markMsgS.f k x.1 x.2.1
def laws_markMsgS.ann (k : Nat) : Ann (Res laws_markMsgS.sig) := (.seq .nil (.seq (.seq .nil (.block (.loop laws_markMsgS.Sl1 (laws_markMsgS.l1 k) fun n1 => .nil))) .nil))
def laws_markMsgS.ent : Ent := ⟨154, laws_markMsgS.sig, laws_markMsgS.F⟩
def laws_markMsgS.ctx (k : Nat) : Ctx := ⟨tds, [], k, 27⟩
theorem laws_markMsgS.runs (k : Nat) (x : Args laws_markMsgS.sig.ps) : laws_markMsgS.F k x = runF (laws_markMsgS.ctx k) laws_markMsgS.sig Try.f154 (Try.f154.body.getD .skip) (laws_markMsgS.ann k) x := by kernel_rfl
theorem laws_markMsgS.obls (k : Nat) : obl (laws_markMsgS.ctx k) 1 (Try.f154.body.getD .skip) (laws_markMsgS.ann k) (retK tds laws_markMsgS.sig Try.f154.results.toList) := ⟨trivial, ⟨⟨trivial, ⟨⟨by kernel_rfl, fun x => by kernel_rfl⟩, fun n => ⟨fun x => by kernel_rfl, ⟨⟨trivial, ⟨trivial, trivial⟩⟩, ⟨⟨trivial, ⟨trivial, ⟨trivial, trivial⟩⟩⟩, trivial⟩⟩⟩⟩⟩, ⟨trivial, trivial⟩⟩⟩
theorem laws_markMsgS.ok (k : Nat) : EntOk Try.prog k laws_markMsgS.ent := fn_ok (C := laws_markMsgS.ctx k) Try.func154 (by kernel_rfl) (by kernel_rfl) mixed tdsOk EntsOk.nil (by kernel_rfl) (Nat.le_of_ble_eq_true (by kernel_rfl)) (by kernel_rfl) (laws_markMsgS.runs k) (laws_markMsgS.obls k)
/-! loop.example/g00200/laws.markLineS -/
def laws_markLineS.l1 (k : Nat)  : Nat → Int × Int × DeL × Unit → Option (Int × DeL)
  | 0, _ => none
  | n + 1, (x1, x2, x3, _) => if x2 < (x3.length : Int) then (if 0 ≤ x2 then (if x2 < (x3.length : Int) then ((laws_markMsgS.f k (el (.sl 241 Ty2) x3 x2.toNat) x1).bind fun t1 => (((some (x3.set x2.toNat t1.2))).bind fun y2 => (laws_markLineS.l1 k n (t1.1, w64 (x2 + 1), y2, ())))) else none) else none) else (some (x1, x3))
def laws_markLineS.f (k : Nat) (a0 : DeL) (a1 : Int) : Option (Int × DeL) :=
  laws_markLineS.l1 k k (a1, 0, a0, ())
def laws_markLineS.Sl1 : Shape := ⟨[(0, false, [.own 0]), (1, false, [.int .i64]), (5, false, [.int .i64])], [(0, .row 145 (.sl 241 Ty2))], 1⟩
def laws_markLineS.sig : Sig := ⟨[.val false (.sl 145 (.sl 241 Ty2)) [1], .val false TyI []], [.val false TyI []]⟩
def laws_markLineS.F (k : Nat) (x : Args laws_markLineS.sig.ps) : Option (Res laws_markLineS.sig) := laws_markLineS.f k x.1 x.2.1
def laws_markLineS.ann (k : Nat) : Ann (Res laws_markLineS.sig) := (.seq .nil (.seq (.seq .nil (.block (.loop laws_markLineS.Sl1 (laws_markLineS.l1 k) fun n1 => .nil))) .nil))
def laws_markLineS.ent : Ent := ⟨84, laws_markLineS.sig, laws_markLineS.F⟩
def laws_markLineS.ctx (k : Nat) : Ctx := ⟨tds, [laws_markMsgS.ent], k, 20⟩
theorem laws_markLineS.runs (k : Nat) (x : Args laws_markLineS.sig.ps) : laws_markLineS.F k x = runF (laws_markLineS.ctx k) laws_markLineS.sig Try.f84 (Try.f84.body.getD .skip) (laws_markLineS.ann k) x := by kernel_rfl
theorem laws_markLineS.obls (k : Nat) : obl (laws_markLineS.ctx k) 1 (Try.f84.body.getD .skip) (laws_markLineS.ann k) (retK tds laws_markLineS.sig Try.f84.results.toList) := ⟨trivial, ⟨⟨trivial, ⟨⟨by kernel_rfl, fun x => by kernel_rfl⟩, fun n => ⟨fun x => by kernel_rfl, ⟨⟨trivial, ⟨trivial, trivial⟩⟩, ⟨trivial, trivial⟩⟩⟩⟩⟩, ⟨trivial, trivial⟩⟩⟩
theorem laws_markLineS.ok (k : Nat) : EntOk Try.prog k laws_markLineS.ent := fn_ok (C := laws_markLineS.ctx k) Try.func84 (by kernel_rfl) (by kernel_rfl) mixed tdsOk (.cons (laws_markMsgS.ok k) EntsOk.nil) (by kernel_rfl) (Nat.le_of_ble_eq_true (by kernel_rfl)) (by kernel_rfl) (laws_markLineS.runs k) (laws_markLineS.obls k)
/-! loop.example/g00200/laws.markEntryS -/
def laws_markEntryS.l1 (k : Nat)  : Nat → Int × Int × De5 × Unit → Option (Int × De5)
  | 0, _ => none
  | n + 1, (x1, x2, x3, _) => if x2 < (x3.length : Int) then (if 0 ≤ x2 then (if x2 < (x3.length : Int) then (((some (x3.set x2.toNat (x1, (el Ty5 x3 x2.toNat).2)))).bind fun y1 => (if 0 ≤ x2 then (if x2 < (y1.length : Int) then (((some (y1.set x2.toNat ((el Ty5 y1 x2.toNat).1, (w64 (x1 + 1), ((el Ty5 y1 x2.toNat).2).2))))).bind fun y2 => (if 0 ≤ x2 then (if x2 < (y2.length : Int) then (((some (y2.set x2.toNat ((el Ty5 y2 x2.toNat).1, (((el Ty5 y2 x2.toNat).2).1, (w64 ((w64 (x1 + 1)) + 1), (((el Ty5 y2 x2.toNat).2).2).2)))))).bind fun y3 => (if 0 ≤ x2 then (if x2 < (y3.length : Int) then (((some (y3.set x2.toNat ((el Ty5 y3 x2.toNat).1, (((el Ty5 y3 x2.toNat).2).1, ((((el Ty5 y3 x2.toNat).2).2).1, (w64 ((w64 ((w64 (x1 + 1)) + 1)) + 1), ((((el Ty5 y3 x2.toNat).2).2).2).2))))))).bind fun y4 => (if 0 ≤ x2 then (if x2 < (y4.length : Int) then (((some (y4.set x2.toNat ((el Ty5 y4 x2.toNat).1, (((el Ty5 y4 x2.toNat).2).1, ((((el Ty5 y4 x2.toNat).2).2).1, (((((el Ty5 y4 x2.toNat).2).2).2).1, w64 ((w64 ((w64 ((w64 (x1 + 1)) + 1)) + 1)) + 1)))))))).bind fun y5 => (laws_markEntryS.l1 k n (w64 ((w64 ((w64 ((w64 ((w64 (x1 + 1)) + 1)) + 1)) + 1)) + 1), w64 (x2 + 1), y5, ()))) else none) else none)) else none) else none)) else none) else none)) else none) else none)) else none) else none) else (some (x1, x3))
def laws_markEntryS.f (k : Nat) (a0 : De5) (a1 : Int) : Option (Int × De5) :=
  laws_markEntryS.l1 k k (a1, 0, a0, ())
def laws_markEntryS.Sl1 : Shape := ⟨[(0, false, [.own 0]), (1, false, [.int .i64]), (5, false, [.int .i64])], [(0, .row 70 Ty5)], 1⟩
def laws_markEntryS.sig : Sig := ⟨[.val false (.sl 70 Ty5) [1], .val false TyI []], [.val false TyI []]⟩
def laws_markEntryS.F (k : Nat) (x : Args laws_markEntryS.sig.ps) : Option (Res laws_markEntryS.sig) := laws_markEntryS.f k x.1 x.2.1
def laws_markEntryS.ann (k : Nat) : Ann (Res laws_markEntryS.sig) := (.seq .nil (.seq (.seq .nil (.block (.loop laws_markEntryS.Sl1 (laws_markEntryS.l1 k) fun n1 => .nil))) .nil))
def laws_markEntryS.ent : Ent := ⟨85, laws_markEntryS.sig, laws_markEntryS.F⟩
def laws_markEntryS.ctx (k : Nat) : Ctx := ⟨tds, [], k, 48⟩
theorem laws_markEntryS.runs (k : Nat) (x : Args laws_markEntryS.sig.ps) : laws_markEntryS.F k x = runF (laws_markEntryS.ctx k) laws_markEntryS.sig Try.f85 (Try.f85.body.getD .skip) (laws_markEntryS.ann k) x := by kernel_rfl
theorem laws_markEntryS.obls (k : Nat) : obl (laws_markEntryS.ctx k) 1 (Try.f85.body.getD .skip) (laws_markEntryS.ann k) (retK tds laws_markEntryS.sig Try.f85.results.toList) := ⟨trivial, ⟨⟨trivial, ⟨⟨by kernel_rfl, fun x => by kernel_rfl⟩, fun n => ⟨fun x => by kernel_rfl, ⟨⟨trivial, ⟨trivial, trivial⟩⟩, ⟨⟨trivial, ⟨trivial, ⟨trivial, ⟨trivial, ⟨trivial, ⟨trivial, ⟨trivial, ⟨trivial, ⟨trivial, trivial⟩⟩⟩⟩⟩⟩⟩⟩⟩, trivial⟩⟩⟩⟩⟩, ⟨trivial, trivial⟩⟩⟩
theorem laws_markEntryS.ok (k : Nat) : EntOk Try.prog k laws_markEntryS.ent := fn_ok (C := laws_markEntryS.ctx k) Try.func85 (by kernel_rfl) (by kernel_rfl) mixed tdsOk EntsOk.nil (by kernel_rfl) (Nat.le_of_ble_eq_true (by kernel_rfl)) (by kernel_rfl) (laws_markEntryS.runs k) (laws_markEntryS.obls k)
/-! loop.example/g00200/laws.markKernel -/
def laws_markKernel.f (k : Nat) (a0 : DeK) (a1 : Int) : Option (Int × De2 × De2 × De5 × De3 × DeB × DeI × DeP × DeL × DeI × De5) :=
  (laws_markSetup.f k a0.1 a1).bind fun t1 => ((laws_markArena.f k a0.2.1 t1.1).bind fun t2 => ((laws_markPartS.f k a0.2.2.1 t2.1).bind fun t3 => ((laws_markLineS.f k a0.2.2.2.1 t3.1).bind fun t4 => ((laws_markIntS.f k a0.2.2.2.2.1 t4.1).bind fun t5 => ((laws_markEntryS.f k a0.2.2.2.2.2.2.2 t5.1).bind fun t6 => (some (t6.1, t1.2.1, t1.2.2.1, t1.2.2.2.1, t1.2.2.2.2.1, t1.2.2.2.2.2, t2.2, t3.2, t4.2, t5.2, t6.2)))))))
def laws_markKernel.sig : Sig := ⟨[.val true (.pair (.pair (.sl 31 Ty2) (.pair (.sl 34 Ty2) (.pair (.sl 63 Ty5) (.pair (.sl 39 Ty3) (.sl 9 .str))))) (.pair (.sl 3 TyI) (.pair (.sl 59 TyP) (.pair (.sl 145 (.sl 241 Ty2)) (.pair (.sl 3 TyI) (.pair TyI (.pair .bool (.sl 70 Ty5)))))))) [1, 1, 1, 1, 1, 1, 1, 1, 1, 1], .val false TyI []], [.val false TyI []]⟩
def laws_markKernel.F (k : Nat) (x : Args laws_markKernel.sig.ps) : Option (Res laws_markKernel.sig) := laws_markKernel.f k x.1 x.2.1
def laws_markKernel.ann (k : Nat) : Ann (Res laws_markKernel.sig) := .nil
def laws_markKernel.ent : Ent := ⟨30, laws_markKernel.sig, laws_markKernel.F⟩
def laws_markKernel.ctx (k : Nat) : Ctx := ⟨tds, [laws_markIntS.ent, laws_markSetup.ent, laws_markArena.ent, laws_markPartS.ent, laws_markLineS.ent, laws_markEntryS.ent], k, 30⟩
theorem laws_markKernel.runs (k : Nat) (x : Args laws_markKernel.sig.ps) : laws_markKernel.F k x = runF (laws_markKernel.ctx k) laws_markKernel.sig Try.f30 (Try.f30.body.getD .skip) (laws_markKernel.ann k) x := by kernel_rfl
theorem laws_markKernel.obls (k : Nat) : obl (laws_markKernel.ctx k) 10 (Try.f30.body.getD .skip) (laws_markKernel.ann k) (retK tds laws_markKernel.sig Try.f30.results.toList) := ⟨trivial, ⟨trivial, ⟨trivial, ⟨trivial, ⟨trivial, ⟨trivial, ⟨trivial, ⟨trivial, trivial⟩⟩⟩⟩⟩⟩⟩⟩
theorem laws_markKernel.ok (k : Nat) : EntOk Try.prog k laws_markKernel.ent := fn_ok (C := laws_markKernel.ctx k) Try.func30 (by kernel_rfl) (by kernel_rfl) mixed tdsOk (.cons (laws_markIntS.ok k) (.cons (laws_markSetup.ok k) (.cons (laws_markArena.ok k) (.cons (laws_markPartS.ok k) (.cons (laws_markLineS.ok k) (.cons (laws_markEntryS.ok k) EntsOk.nil)))))) (by kernel_rfl) (Nat.le_of_ble_eq_true (by kernel_rfl)) (by kernel_rfl) (laws_markKernel.runs k) (laws_markKernel.obls k)
/-! loop.example/g00200/laws.markCpu -/
def laws_markCpu.f (k : Nat) (a0 : Int × DeI) (a1 : Int) : Option (Int × DeI) :=
  (laws_markIntS.f k a0.2 a1).bind fun t1 => (some (t1.1, t1.2))
def laws_markCpu.sig : Sig := ⟨[.val true (.pair TyI (.sl 3 TyI)) [1], .val false TyI []], [.val false TyI []]⟩
def laws_markCpu.F (k : Nat) (x : Args laws_markCpu.sig.ps) : Option (Res laws_markCpu.sig) := laws_markCpu.f k x.1 x.2.1
def laws_markCpu.ann (k : Nat) : Ann (Res laws_markCpu.sig) := .nil
def laws_markCpu.ent : Ent := ⟨86, laws_markCpu.sig, laws_markCpu.F⟩
def laws_markCpu.ctx (k : Nat) : Ctx := ⟨tds, [laws_markIntS.ent], k, 10⟩
theorem laws_markCpu.runs (k : Nat) (x : Args laws_markCpu.sig.ps) : laws_markCpu.F k x = runF (laws_markCpu.ctx k) laws_markCpu.sig Try.f86 (Try.f86.body.getD .skip) (laws_markCpu.ann k) x := by kernel_rfl
theorem laws_markCpu.obls (k : Nat) : obl (laws_markCpu.ctx k) 1 (Try.f86.body.getD .skip) (laws_markCpu.ann k) (retK tds laws_markCpu.sig Try.f86.results.toList) := ⟨trivial, ⟨trivial, ⟨trivial, trivial⟩⟩⟩
theorem laws_markCpu.ok (k : Nat) : EntOk Try.prog k laws_markCpu.ent := fn_ok (C := laws_markCpu.ctx k) Try.func86 (by kernel_rfl) (by kernel_rfl) mixed tdsOk (.cons (laws_markIntS.ok k) EntsOk.nil) (by kernel_rfl) (Nat.le_of_ble_eq_true (by kernel_rfl)) (by kernel_rfl) (laws_markCpu.runs k) (laws_markCpu.obls k)
/-! loop.example/g00200/laws.markPart -/
def laws_markPart.f (k : Nat) (a0 : Int × (Int × DeI) × Int × Int × Int) (a1 : Int) : Option (Int × DeI) :=
  (laws_markCpu.f k a0.2.1 a1).bind fun t1 => (some (t1.1, t1.2))
def laws_markPart.sig : Sig := ⟨[.val true TyP [1], .val false TyI []], [.val false TyI []]⟩
def laws_markPart.F (k : Nat) (x : Args laws_markPart.sig.ps) : Option (Res laws_markPart.sig) := laws_markPart.f k x.1 x.2.1
def laws_markPart.ann (k : Nat) : Ann (Res laws_markPart.sig) := .nil
def laws_markPart.ent : Ent := ⟨31, laws_markPart.sig, laws_markPart.F⟩
def laws_markPart.ctx (k : Nat) : Ctx := ⟨tds, [laws_markCpu.ent], k, 10⟩
theorem laws_markPart.runs (k : Nat) (x : Args laws_markPart.sig.ps) : laws_markPart.F k x = runF (laws_markPart.ctx k) laws_markPart.sig Try.f31 (Try.f31.body.getD .skip) (laws_markPart.ann k) x := by kernel_rfl
theorem laws_markPart.obls (k : Nat) : obl (laws_markPart.ctx k) 1 (Try.f31.body.getD .skip) (laws_markPart.ann k) (retK tds laws_markPart.sig Try.f31.results.toList) := ⟨trivial, ⟨trivial, ⟨trivial, trivial⟩⟩⟩
theorem laws_markPart.ok (k : Nat) : EntOk Try.prog k laws_markPart.ent := fn_ok (C := laws_markPart.ctx k) Try.func31 (by kernel_rfl) (by kernel_rfl) mixed tdsOk (.cons (laws_markCpu.ok k) EntsOk.nil) (by kernel_rfl) (Nat.le_of_ble_eq_true (by kernel_rfl)) (by kernel_rfl) (laws_markPart.runs k) (laws_markPart.obls k)
/-! loop.example/g00200/laws.heldIntS -/
def laws_heldIntS.l1 (k : Nat)  : Nat → Int × Int × DeI × Unit → Option (Int)
  | 0, _ => none
  | n + 1, (x1, x2, x3, _) => if x2 < (x3.length : Int) then (if 0 ≤ x2 then (if x2 < (x3.length : Int) then (if ¬ (el TyI x3 x2.toNat) = x1 then (some (-1)) else (laws_heldIntS.l1 k n (w64 (x1 + 1), w64 (x2 + 1), x3, ()))) else none) else none) else (some x1)
def laws_heldIntS.f (k : Nat) (a0 : DeI) (a1 : Int) : Option (Int) :=
  laws_heldIntS.l1 k k (a1, 0, a0, ())
def laws_heldIntS.Sl1 : Shape := ⟨[(0, false, [.own 0]), (1, false, [.int .i64]), (5, false, [.int .i64])], [(0, .view false 3 TyI)], 1⟩
def laws_heldIntS.sig : Sig := ⟨[.val false (.sl 3 TyI) [0], .val false TyI []], [.val false TyI []]⟩
def laws_heldIntS.F (k : Nat) (x : Args laws_heldIntS.sig.ps) : Option (Res laws_heldIntS.sig) := laws_heldIntS.f k x.1 x.2.1
def laws_heldIntS.ann (k : Nat) : Ann (Res laws_heldIntS.sig) := (.seq .nil (.seq (.seq .nil (.block (.loop laws_heldIntS.Sl1 (laws_heldIntS.l1 k) fun n1 => .nil))) .nil))
def laws_heldIntS.ent : Ent := ⟨34, laws_heldIntS.sig, laws_heldIntS.F⟩
def laws_heldIntS.ctx (k : Nat) : Ctx := ⟨tds, [], k, 21⟩
theorem laws_heldIntS.runs (k : Nat) (x : Args laws_heldIntS.sig.ps) : laws_heldIntS.F k x = runF (laws_heldIntS.ctx k) laws_heldIntS.sig Try.f34 (Try.f34.body.getD .skip) (laws_heldIntS.ann k) x := by kernel_rfl
theorem laws_heldIntS.obls (k : Nat) : obl (laws_heldIntS.ctx k) 1 (Try.f34.body.getD .skip) (laws_heldIntS.ann k) (retK tds laws_heldIntS.sig Try.f34.results.toList) := ⟨trivial, ⟨⟨trivial, ⟨⟨by kernel_rfl, fun x => by kernel_rfl⟩, fun n => ⟨fun x => by kernel_rfl, ⟨⟨trivial, ⟨trivial, trivial⟩⟩, ⟨⟨⟨trivial, ⟨⟨trivial, trivial⟩, trivial⟩⟩, trivial⟩, trivial⟩⟩⟩⟩⟩, ⟨trivial, trivial⟩⟩⟩
theorem laws_heldIntS.ok (k : Nat) : EntOk Try.prog k laws_heldIntS.ent := fn_ok (C := laws_heldIntS.ctx k) Try.func34 (by kernel_rfl) (by kernel_rfl) mixed tdsOk EntsOk.nil (by kernel_rfl) (Nat.le_of_ble_eq_true (by kernel_rfl)) (by kernel_rfl) (laws_heldIntS.runs k) (laws_heldIntS.obls k)
/-! loop.example/g00200/laws.heldCpu -/
def laws_heldCpu.f (k : Nat) (a0 : Int × DeI) (a1 : Int) : Option (Int) :=
  (laws_heldIntS.f k a0.2 a1).bind fun t1 => (if t1 < 0 then (some (-1)) else (some t1))
def laws_heldCpu.sig : Sig := ⟨[.val true (.pair TyI (.sl 3 TyI)) [0], .val false TyI []], [.val false TyI []]⟩
def laws_heldCpu.F (k : Nat) (x : Args laws_heldCpu.sig.ps) : Option (Res laws_heldCpu.sig) := laws_heldCpu.f k x.1 x.2.1
def laws_heldCpu.ann (k : Nat) : Ann (Res laws_heldCpu.sig) := .nil
def laws_heldCpu.ent : Ent := ⟨87, laws_heldCpu.sig, laws_heldCpu.F⟩
def laws_heldCpu.ctx (k : Nat) : Ctx := ⟨tds, [laws_heldIntS.ent], k, 12⟩
theorem laws_heldCpu.runs (k : Nat) (x : Args laws_heldCpu.sig.ps) : laws_heldCpu.F k x = runF (laws_heldCpu.ctx k) laws_heldCpu.sig Try.f87 (Try.f87.body.getD .skip) (laws_heldCpu.ann k) x := by kernel_rfl
theorem laws_heldCpu.obls (k : Nat) : obl (laws_heldCpu.ctx k) 1 (Try.f87.body.getD .skip) (laws_heldCpu.ann k) (retK tds laws_heldCpu.sig Try.f87.results.toList) := ⟨trivial, ⟨trivial, ⟨⟨trivial, ⟨⟨trivial, trivial⟩, trivial⟩⟩, ⟨trivial, trivial⟩⟩⟩⟩
theorem laws_heldCpu.ok (k : Nat) : EntOk Try.prog k laws_heldCpu.ent := fn_ok (C := laws_heldCpu.ctx k) Try.func87 (by kernel_rfl) (by kernel_rfl) mixed tdsOk (.cons (laws_heldIntS.ok k) EntsOk.nil) (by kernel_rfl) (Nat.le_of_ble_eq_true (by kernel_rfl)) (by kernel_rfl) (laws_heldCpu.runs k) (laws_heldCpu.obls k)
/-! loop.example/g00200/laws.heldPart -/
def laws_heldPart.f (k : Nat) (a0 : Int × (Int × DeI) × Int × Int × Int) (a1 : Int) : Option (Int) :=
  (laws_heldCpu.f k a0.2.1 a1).bind fun t1 => (if t1 < 0 then (some (-1)) else (some t1))
def laws_heldPart.sig : Sig := ⟨[.val true TyP [0], .val false TyI []], [.val false TyI []]⟩
def laws_heldPart.F (k : Nat) (x : Args laws_heldPart.sig.ps) : Option (Res laws_heldPart.sig) := laws_heldPart.f k x.1 x.2.1
def laws_heldPart.ann (k : Nat) : Ann (Res laws_heldPart.sig) := .nil
def laws_heldPart.ent : Ent := ⟨33, laws_heldPart.sig, laws_heldPart.F⟩
def laws_heldPart.ctx (k : Nat) : Ctx := ⟨tds, [laws_heldCpu.ent], k, 12⟩
theorem laws_heldPart.runs (k : Nat) (x : Args laws_heldPart.sig.ps) : laws_heldPart.F k x = runF (laws_heldPart.ctx k) laws_heldPart.sig Try.f33 (Try.f33.body.getD .skip) (laws_heldPart.ann k) x := by kernel_rfl
theorem laws_heldPart.obls (k : Nat) : obl (laws_heldPart.ctx k) 1 (Try.f33.body.getD .skip) (laws_heldPart.ann k) (retK tds laws_heldPart.sig Try.f33.results.toList) := ⟨trivial, ⟨trivial, ⟨⟨trivial, ⟨⟨trivial, trivial⟩, trivial⟩⟩, ⟨trivial, trivial⟩⟩⟩⟩
theorem laws_heldPart.ok (k : Nat) : EntOk Try.prog k laws_heldPart.ent := fn_ok (C := laws_heldPart.ctx k) Try.func33 (by kernel_rfl) (by kernel_rfl) mixed tdsOk (.cons (laws_heldCpu.ok k) EntsOk.nil) (by kernel_rfl) (Nat.le_of_ble_eq_true (by kernel_rfl)) (by kernel_rfl) (laws_heldPart.runs k) (laws_heldPart.obls k)
/-! loop.example/g00200/laws.heldRegionS -/
def laws_heldRegionS.l1 (k : Nat)  : Nat → Int × Int × De2 × Unit → Option (Int)
  | 0, _ => none
  | n + 1, (x1, x2, x3, _) => if x2 < (x3.length : Int) then (if 0 ≤ x2 then (if x2 < (x3.length : Int) then (if ¬ ((el Ty2 x3 x2.toNat).1) = x1 then (some (-1)) else (if 0 ≤ x2 then (if x2 < (x3.length : Int) then (if ¬ ((el Ty2 x3 x2.toNat).2) = (w64 (x1 + 1)) then (some (-1)) else (laws_heldRegionS.l1 k n (w64 ((w64 (x1 + 1)) + 1), w64 (x2 + 1), x3, ()))) else none) else none)) else none) else none) else (some x1)
def laws_heldRegionS.f (k : Nat) (a0 : De2) (a1 : Int) : Option (Int) :=
  laws_heldRegionS.l1 k k (a1, 0, a0, ())
def laws_heldRegionS.Sl1 : Shape := ⟨[(0, false, [.own 0]), (1, false, [.int .i64]), (5, false, [.int .i64])], [(0, .view false 31 Ty2)], 1⟩
def laws_heldRegionS.sig : Sig := ⟨[.val false (.sl 31 Ty2) [0], .val false TyI []], [.val false TyI []]⟩
def laws_heldRegionS.F (k : Nat) (x : Args laws_heldRegionS.sig.ps) : Option (Res laws_heldRegionS.sig) := laws_heldRegionS.f k x.1 x.2.1
def laws_heldRegionS.ann (k : Nat) : Ann (Res laws_heldRegionS.sig) := (.seq .nil (.seq (.seq .nil (.block (.loop laws_heldRegionS.Sl1 (laws_heldRegionS.l1 k) fun n1 => .nil))) .nil))
def laws_heldRegionS.ent : Ent := ⟨171, laws_heldRegionS.sig, laws_heldRegionS.F⟩
def laws_heldRegionS.ctx (k : Nat) : Ctx := ⟨tds, [], k, 31⟩
theorem laws_heldRegionS.runs (k : Nat) (x : Args laws_heldRegionS.sig.ps) : laws_heldRegionS.F k x = runF (laws_heldRegionS.ctx k) laws_heldRegionS.sig Try.f171 (Try.f171.body.getD .skip) (laws_heldRegionS.ann k) x := by kernel_rfl
theorem laws_heldRegionS.obls (k : Nat) : obl (laws_heldRegionS.ctx k) 1 (Try.f171.body.getD .skip) (laws_heldRegionS.ann k) (retK tds laws_heldRegionS.sig Try.f171.results.toList) := ⟨trivial, ⟨⟨trivial, ⟨⟨by kernel_rfl, fun x => by kernel_rfl⟩, fun n => ⟨fun x => by kernel_rfl, ⟨⟨trivial, ⟨trivial, trivial⟩⟩, ⟨⟨⟨trivial, ⟨⟨trivial, trivial⟩, trivial⟩⟩, ⟨trivial, ⟨⟨trivial, ⟨⟨trivial, trivial⟩, trivial⟩⟩, trivial⟩⟩⟩, trivial⟩⟩⟩⟩⟩, ⟨trivial, trivial⟩⟩⟩
theorem laws_heldRegionS.ok (k : Nat) : EntOk Try.prog k laws_heldRegionS.ent := fn_ok (C := laws_heldRegionS.ctx k) Try.func171 (by kernel_rfl) (by kernel_rfl) mixed tdsOk EntsOk.nil (by kernel_rfl) (Nat.le_of_ble_eq_true (by kernel_rfl)) (by kernel_rfl) (laws_heldRegionS.runs k) (laws_heldRegionS.obls k)
/-! loop.example/g00200/laws.heldWindowS -/
def laws_heldWindowS.l1 (k : Nat)  : Nat → Int × Int × De2 × Unit → Option (Int)
  | 0, _ => none
  | n + 1, (x1, x2, x3, _) => if x2 < (x3.length : Int) then (if 0 ≤ x2 then (if x2 < (x3.length : Int) then (if ¬ ((el Ty2 x3 x2.toNat).1) = x1 then (some (-1)) else (if 0 ≤ x2 then (if x2 < (x3.length : Int) then (if ¬ ((el Ty2 x3 x2.toNat).2) = (w64 (x1 + 1)) then (some (-1)) else (laws_heldWindowS.l1 k n (w64 ((w64 (x1 + 1)) + 1), w64 (x2 + 1), x3, ()))) else none) else none)) else none) else none) else (some x1)
def laws_heldWindowS.f (k : Nat) (a0 : De2) (a1 : Int) : Option (Int) :=
  laws_heldWindowS.l1 k k (a1, 0, a0, ())
def laws_heldWindowS.Sl1 : Shape := ⟨[(0, false, [.own 0]), (1, false, [.int .i64]), (5, false, [.int .i64])], [(0, .view false 34 Ty2)], 1⟩
def laws_heldWindowS.sig : Sig := ⟨[.val false (.sl 34 Ty2) [0], .val false TyI []], [.val false TyI []]⟩
def laws_heldWindowS.F (k : Nat) (x : Args laws_heldWindowS.sig.ps) : Option (Res laws_heldWindowS.sig) := laws_heldWindowS.f k x.1 x.2.1
def laws_heldWindowS.ann (k : Nat) : Ann (Res laws_heldWindowS.sig) := (.seq .nil (.seq (.seq .nil (.block (.loop laws_heldWindowS.Sl1 (laws_heldWindowS.l1 k) fun n1 => .nil))) .nil))
def laws_heldWindowS.ent : Ent := ⟨172, laws_heldWindowS.sig, laws_heldWindowS.F⟩
def laws_heldWindowS.ctx (k : Nat) : Ctx := ⟨tds, [], k, 31⟩
theorem laws_heldWindowS.runs (k : Nat) (x : Args laws_heldWindowS.sig.ps) : laws_heldWindowS.F k x = runF (laws_heldWindowS.ctx k) laws_heldWindowS.sig Try.f172 (Try.f172.body.getD .skip) (laws_heldWindowS.ann k) x := by kernel_rfl
theorem laws_heldWindowS.obls (k : Nat) : obl (laws_heldWindowS.ctx k) 1 (Try.f172.body.getD .skip) (laws_heldWindowS.ann k) (retK tds laws_heldWindowS.sig Try.f172.results.toList) := ⟨trivial, ⟨⟨trivial, ⟨⟨by kernel_rfl, fun x => by kernel_rfl⟩, fun n => ⟨fun x => by kernel_rfl, ⟨⟨trivial, ⟨trivial, trivial⟩⟩, ⟨⟨⟨trivial, ⟨⟨trivial, trivial⟩, trivial⟩⟩, ⟨trivial, ⟨⟨trivial, ⟨⟨trivial, trivial⟩, trivial⟩⟩, trivial⟩⟩⟩, trivial⟩⟩⟩⟩⟩, ⟨trivial, trivial⟩⟩⟩
theorem laws_heldWindowS.ok (k : Nat) : EntOk Try.prog k laws_heldWindowS.ent := fn_ok (C := laws_heldWindowS.ctx k) Try.func172 (by kernel_rfl) (by kernel_rfl) mixed tdsOk EntsOk.nil (by kernel_rfl) (Nat.le_of_ble_eq_true (by kernel_rfl)) (by kernel_rfl) (laws_heldWindowS.runs k) (laws_heldWindowS.obls k)
/-! loop.example/g00200/laws.heldPortS -/
def laws_heldPortS.l1 (k : Nat)  : Nat → Int × Int × De5 × Unit → Option (Int)
  | 0, _ => none
  | n + 1, (x1, x2, x3, _) => if x2 < (x3.length : Int) then (if 0 ≤ x2 then (if x2 < (x3.length : Int) then (if ¬ ((el Ty5 x3 x2.toNat).1) = x1 then (some (-1)) else (if 0 ≤ x2 then (if x2 < (x3.length : Int) then (if ¬ (((el Ty5 x3 x2.toNat).2).1) = (w64 (x1 + 1)) then (some (-1)) else (if 0 ≤ x2 then (if x2 < (x3.length : Int) then (if ¬ ((((el Ty5 x3 x2.toNat).2).2).1) = (w64 ((w64 (x1 + 1)) + 1)) then (some (-1)) else (if 0 ≤ x2 then (if x2 < (x3.length : Int) then (if ¬ (((((el Ty5 x3 x2.toNat).2).2).2).1) = (w64 ((w64 ((w64 (x1 + 1)) + 1)) + 1)) then (some (-1)) else (if 0 ≤ x2 then (if x2 < (x3.length : Int) then (if ¬ (((((el Ty5 x3 x2.toNat).2).2).2).2) = (w64 ((w64 ((w64 ((w64 (x1 + 1)) + 1)) + 1)) + 1)) then (some (-1)) else (laws_heldPortS.l1 k n (w64 ((w64 ((w64 ((w64 ((w64 (x1 + 1)) + 1)) + 1)) + 1)) + 1), w64 (x2 + 1), x3, ()))) else none) else none)) else none) else none)) else none) else none)) else none) else none)) else none) else none) else (some x1)
def laws_heldPortS.f (k : Nat) (a0 : De5) (a1 : Int) : Option (Int) :=
  laws_heldPortS.l1 k k (a1, 0, a0, ())
def laws_heldPortS.Sl1 : Shape := ⟨[(0, false, [.own 0]), (1, false, [.int .i64]), (5, false, [.int .i64])], [(0, .view false 63 Ty5)], 1⟩
def laws_heldPortS.sig : Sig := ⟨[.val false (.sl 63 Ty5) [0], .val false TyI []], [.val false TyI []]⟩
def laws_heldPortS.F (k : Nat) (x : Args laws_heldPortS.sig.ps) : Option (Res laws_heldPortS.sig) := laws_heldPortS.f k x.1 x.2.1
def laws_heldPortS.ann (k : Nat) : Ann (Res laws_heldPortS.sig) := (.seq .nil (.seq (.seq .nil (.block (.loop laws_heldPortS.Sl1 (laws_heldPortS.l1 k) fun n1 => .nil))) .nil))
def laws_heldPortS.ent : Ent := ⟨173, laws_heldPortS.sig, laws_heldPortS.F⟩
def laws_heldPortS.ctx (k : Nat) : Ctx := ⟨tds, [], k, 58⟩
theorem laws_heldPortS.runs (k : Nat) (x : Args laws_heldPortS.sig.ps) : laws_heldPortS.F k x = runF (laws_heldPortS.ctx k) laws_heldPortS.sig Try.f173 (Try.f173.body.getD .skip) (laws_heldPortS.ann k) x := by kernel_rfl
theorem laws_heldPortS.obls (k : Nat) : obl (laws_heldPortS.ctx k) 1 (Try.f173.body.getD .skip) (laws_heldPortS.ann k) (retK tds laws_heldPortS.sig Try.f173.results.toList) := ⟨trivial, ⟨⟨trivial, ⟨⟨by kernel_rfl, fun x => by kernel_rfl⟩, fun n => ⟨fun x => by kernel_rfl, ⟨⟨trivial, ⟨trivial, trivial⟩⟩, ⟨⟨⟨trivial, ⟨⟨trivial, trivial⟩, trivial⟩⟩, ⟨trivial, ⟨⟨trivial, ⟨⟨trivial, trivial⟩, trivial⟩⟩, ⟨trivial, ⟨⟨trivial, ⟨⟨trivial, trivial⟩, trivial⟩⟩, ⟨trivial, ⟨⟨trivial, ⟨⟨trivial, trivial⟩, trivial⟩⟩, ⟨trivial, ⟨⟨trivial, ⟨⟨trivial, trivial⟩, trivial⟩⟩, trivial⟩⟩⟩⟩⟩⟩⟩⟩⟩, trivial⟩⟩⟩⟩⟩, ⟨trivial, trivial⟩⟩⟩
theorem laws_heldPortS.ok (k : Nat) : EntOk Try.prog k laws_heldPortS.ent := fn_ok (C := laws_heldPortS.ctx k) Try.func173 (by kernel_rfl) (by kernel_rfl) mixed tdsOk EntsOk.nil (by kernel_rfl) (Nat.le_of_ble_eq_true (by kernel_rfl)) (by kernel_rfl) (laws_heldPortS.runs k) (laws_heldPortS.obls k)
/-! loop.example/g00200/laws.heldRuleS -/
def laws_heldRuleS.l1 (k : Nat)  : Nat → Int × Int × De3 × Unit → Option (Int)
  | 0, _ => none
  | n + 1, (x1, x2, x3, _) => if x2 < (x3.length : Int) then (if 0 ≤ x2 then (if x2 < (x3.length : Int) then (if ¬ ((el Ty3 x3 x2.toNat).1) = x1 then (some (-1)) else (if 0 ≤ x2 then (if x2 < (x3.length : Int) then (if ¬ (((el Ty3 x3 x2.toNat).2).1) = (w64 (x1 + 1)) then (some (-1)) else (if 0 ≤ x2 then (if x2 < (x3.length : Int) then (if ¬ (((el Ty3 x3 x2.toNat).2).2) = (w64 ((w64 (x1 + 1)) + 1)) then (some (-1)) else (laws_heldRuleS.l1 k n (w64 ((w64 ((w64 (x1 + 1)) + 1)) + 1), w64 (x2 + 1), x3, ()))) else none) else none)) else none) else none)) else none) else none) else (some x1)
def laws_heldRuleS.f (k : Nat) (a0 : De3) (a1 : Int) : Option (Int) :=
  laws_heldRuleS.l1 k k (a1, 0, a0, ())
def laws_heldRuleS.Sl1 : Shape := ⟨[(0, false, [.own 0]), (1, false, [.int .i64]), (5, false, [.int .i64])], [(0, .view false 39 Ty3)], 1⟩
def laws_heldRuleS.sig : Sig := ⟨[.val false (.sl 39 Ty3) [0], .val false TyI []], [.val false TyI []]⟩
def laws_heldRuleS.F (k : Nat) (x : Args laws_heldRuleS.sig.ps) : Option (Res laws_heldRuleS.sig) := laws_heldRuleS.f k x.1 x.2.1
def laws_heldRuleS.ann (k : Nat) : Ann (Res laws_heldRuleS.sig) := (.seq .nil (.seq (.seq .nil (.block (.loop laws_heldRuleS.Sl1 (laws_heldRuleS.l1 k) fun n1 => .nil))) .nil))
def laws_heldRuleS.ent : Ent := ⟨174, laws_heldRuleS.sig, laws_heldRuleS.F⟩
def laws_heldRuleS.ctx (k : Nat) : Ctx := ⟨tds, [], k, 40⟩
theorem laws_heldRuleS.runs (k : Nat) (x : Args laws_heldRuleS.sig.ps) : laws_heldRuleS.F k x = runF (laws_heldRuleS.ctx k) laws_heldRuleS.sig Try.f174 (Try.f174.body.getD .skip) (laws_heldRuleS.ann k) x := by kernel_rfl
theorem laws_heldRuleS.obls (k : Nat) : obl (laws_heldRuleS.ctx k) 1 (Try.f174.body.getD .skip) (laws_heldRuleS.ann k) (retK tds laws_heldRuleS.sig Try.f174.results.toList) := ⟨trivial, ⟨⟨trivial, ⟨⟨by kernel_rfl, fun x => by kernel_rfl⟩, fun n => ⟨fun x => by kernel_rfl, ⟨⟨trivial, ⟨trivial, trivial⟩⟩, ⟨⟨⟨trivial, ⟨⟨trivial, trivial⟩, trivial⟩⟩, ⟨trivial, ⟨⟨trivial, ⟨⟨trivial, trivial⟩, trivial⟩⟩, ⟨trivial, ⟨⟨trivial, ⟨⟨trivial, trivial⟩, trivial⟩⟩, trivial⟩⟩⟩⟩⟩, trivial⟩⟩⟩⟩⟩, ⟨trivial, trivial⟩⟩⟩
theorem laws_heldRuleS.ok (k : Nat) : EntOk Try.prog k laws_heldRuleS.ent := fn_ok (C := laws_heldRuleS.ctx k) Try.func174 (by kernel_rfl) (by kernel_rfl) mixed tdsOk EntsOk.nil (by kernel_rfl) (Nat.le_of_ble_eq_true (by kernel_rfl)) (by kernel_rfl) (laws_heldRuleS.runs k) (laws_heldRuleS.obls k)
/-! loop.example/g00200/laws.heldStringS -/
def laws_heldStringS.l1 (k : Nat)  : Nat → Int × Int × DeB × Unit → Option (Int)
  | 0, _ => none
  | n + 1, (x1, x2, x3, _) => if x2 < (x3.length : Int) then (if 0 ≤ x2 then (if x2 < (x3.length : Int) then ((laws_markText.f k x1).bind fun t1 => (if ¬ (el .str x3 x2.toNat) = t1 then (some (-1)) else (laws_heldStringS.l1 k n (w64 (x1 + 1), w64 (x2 + 1), x3, ())))) else none) else none) else (some x1)
def laws_heldStringS.f (k : Nat) (a0 : DeB) (a1 : Int) : Option (Int) :=
  laws_heldStringS.l1 k k (a1, 0, a0, ())
def laws_heldStringS.Sl1 : Shape := ⟨[(0, false, [.own 0]), (1, false, [.int .i64]), (5, false, [.int .i64])], [(0, .view false 9 .str)], 1⟩
def laws_heldStringS.sig : Sig := ⟨[.val false (.sl 9 .str) [0], .val false TyI []], [.val false TyI []]⟩
def laws_heldStringS.F (k : Nat) (x : Args laws_heldStringS.sig.ps) : Option (Res laws_heldStringS.sig) := laws_heldStringS.f k x.1 x.2.1
def laws_heldStringS.ann (k : Nat) : Ann (Res laws_heldStringS.sig) := (.seq .nil (.seq (.seq .nil (.block (.loop laws_heldStringS.Sl1 (laws_heldStringS.l1 k) fun n1 => .nil))) .nil))
def laws_heldStringS.ent : Ent := ⟨175, laws_heldStringS.sig, laws_heldStringS.F⟩
def laws_heldStringS.ctx (k : Nat) : Ctx := ⟨tds, [laws_markText.ent], k, 22⟩
theorem laws_heldStringS.runs (k : Nat) (x : Args laws_heldStringS.sig.ps) : laws_heldStringS.F k x = runF (laws_heldStringS.ctx k) laws_heldStringS.sig Try.f175 (Try.f175.body.getD .skip) (laws_heldStringS.ann k) x := by kernel_rfl
theorem laws_heldStringS.obls (k : Nat) : obl (laws_heldStringS.ctx k) 1 (Try.f175.body.getD .skip) (laws_heldStringS.ann k) (retK tds laws_heldStringS.sig Try.f175.results.toList) := ⟨trivial, ⟨⟨trivial, ⟨⟨by kernel_rfl, fun x => by kernel_rfl⟩, fun n => ⟨fun x => by kernel_rfl, ⟨⟨trivial, ⟨trivial, trivial⟩⟩, ⟨⟨⟨trivial, ⟨⟨trivial, trivial⟩, trivial⟩⟩, trivial⟩, trivial⟩⟩⟩⟩⟩, ⟨trivial, trivial⟩⟩⟩
theorem laws_heldStringS.ok (k : Nat) : EntOk Try.prog k laws_heldStringS.ent := fn_ok (C := laws_heldStringS.ctx k) Try.func175 (by kernel_rfl) (by kernel_rfl) mixed tdsOk (.cons (laws_markText.ok k) EntsOk.nil) (by kernel_rfl) (Nat.le_of_ble_eq_true (by kernel_rfl)) (by kernel_rfl) (laws_heldStringS.runs k) (laws_heldStringS.obls k)
/-! loop.example/g00200/laws.heldSetup -/
def laws_heldSetup.f (k : Nat) (a0 : De2 × De2 × De5 × De3 × DeB) (a1 : Int) : Option (Int) :=
  (laws_heldRegionS.f k a0.1 a1).bind fun t1 => (if t1 < 0 then (some (-1)) else ((laws_heldWindowS.f k a0.2.1 t1).bind fun t2 => (if t2 < 0 then (some (-1)) else ((laws_heldPortS.f k a0.2.2.1 t2).bind fun t3 => (if t3 < 0 then (some (-1)) else ((laws_heldRuleS.f k a0.2.2.2.1 t3).bind fun t4 => (if t4 < 0 then (some (-1)) else ((laws_heldStringS.f k a0.2.2.2.2 t4).bind fun t5 => (if t5 < 0 then (some (-1)) else (some t5))))))))))
def laws_heldSetup.sig : Sig := ⟨[.val true (.pair (.sl 31 Ty2) (.pair (.sl 34 Ty2) (.pair (.sl 63 Ty5) (.pair (.sl 39 Ty3) (.sl 9 .str))))) [0, 0, 0, 0, 0], .val false TyI []], [.val false TyI []]⟩
def laws_heldSetup.F (k : Nat) (x : Args laws_heldSetup.sig.ps) : Option (Res laws_heldSetup.sig) := laws_heldSetup.f k x.1 x.2.1
def laws_heldSetup.ann (k : Nat) : Ann (Res laws_heldSetup.sig) := .nil
def laws_heldSetup.ent : Ent := ⟨116, laws_heldSetup.sig, laws_heldSetup.F⟩
def laws_heldSetup.ctx (k : Nat) : Ctx := ⟨tds, [laws_heldRegionS.ent, laws_heldWindowS.ent, laws_heldPortS.ent, laws_heldRuleS.ent, laws_heldStringS.ent], k, 36⟩
theorem laws_heldSetup.runs (k : Nat) (x : Args laws_heldSetup.sig.ps) : laws_heldSetup.F k x = runF (laws_heldSetup.ctx k) laws_heldSetup.sig Try.f116 (Try.f116.body.getD .skip) (laws_heldSetup.ann k) x := by kernel_rfl
theorem laws_heldSetup.obls (k : Nat) : obl (laws_heldSetup.ctx k) 5 (Try.f116.body.getD .skip) (laws_heldSetup.ann k) (retK tds laws_heldSetup.sig Try.f116.results.toList) := ⟨trivial, ⟨trivial, ⟨⟨trivial, ⟨⟨trivial, trivial⟩, trivial⟩⟩, ⟨trivial, ⟨⟨trivial, ⟨⟨trivial, trivial⟩, trivial⟩⟩, ⟨trivial, ⟨⟨trivial, ⟨⟨trivial, trivial⟩, trivial⟩⟩, ⟨trivial, ⟨⟨trivial, ⟨⟨trivial, trivial⟩, trivial⟩⟩, ⟨trivial, ⟨⟨trivial, ⟨⟨trivial, trivial⟩, trivial⟩⟩, ⟨trivial, trivial⟩⟩⟩⟩⟩⟩⟩⟩⟩⟩⟩⟩
theorem laws_heldSetup.ok (k : Nat) : EntOk Try.prog k laws_heldSetup.ent := fn_ok (C := laws_heldSetup.ctx k) Try.func116 (by kernel_rfl) (by kernel_rfl) mixed tdsOk (.cons (laws_heldRegionS.ok k) (.cons (laws_heldWindowS.ok k) (.cons (laws_heldPortS.ok k) (.cons (laws_heldRuleS.ok k) (.cons (laws_heldStringS.ok k) EntsOk.nil))))) (by kernel_rfl) (Nat.le_of_ble_eq_true (by kernel_rfl)) (by kernel_rfl) (laws_heldSetup.runs k) (laws_heldSetup.obls k)
/-! loop.example/g00200/laws.heldArena -/
def laws_heldArena.f (k : Nat) (a0 : DeI) (a1 : Int) : Option (Int) :=
  (laws_heldIntS.f k a0 a1).bind fun t1 => (if t1 < 0 then (some (-1)) else (some t1))
def laws_heldArena.sig : Sig := ⟨[.val true (.sl 3 TyI) [0], .val false TyI []], [.val false TyI []]⟩
def laws_heldArena.F (k : Nat) (x : Args laws_heldArena.sig.ps) : Option (Res laws_heldArena.sig) := laws_heldArena.f k x.1 x.2.1
def laws_heldArena.ann (k : Nat) : Ann (Res laws_heldArena.sig) := .nil
def laws_heldArena.ent : Ent := ⟨117, laws_heldArena.sig, laws_heldArena.F⟩
def laws_heldArena.ctx (k : Nat) : Ctx := ⟨tds, [laws_heldIntS.ent], k, 12⟩
theorem laws_heldArena.runs (k : Nat) (x : Args laws_heldArena.sig.ps) : laws_heldArena.F k x = runF (laws_heldArena.ctx k) laws_heldArena.sig Try.f117 (Try.f117.body.getD .skip) (laws_heldArena.ann k) x := by kernel_rfl
theorem laws_heldArena.obls (k : Nat) : obl (laws_heldArena.ctx k) 1 (Try.f117.body.getD .skip) (laws_heldArena.ann k) (retK tds laws_heldArena.sig Try.f117.results.toList) := ⟨trivial, ⟨trivial, ⟨⟨trivial, ⟨⟨trivial, trivial⟩, trivial⟩⟩, ⟨trivial, trivial⟩⟩⟩⟩
theorem laws_heldArena.ok (k : Nat) : EntOk Try.prog k laws_heldArena.ent := fn_ok (C := laws_heldArena.ctx k) Try.func117 (by kernel_rfl) (by kernel_rfl) mixed tdsOk (.cons (laws_heldIntS.ok k) EntsOk.nil) (by kernel_rfl) (Nat.le_of_ble_eq_true (by kernel_rfl)) (by kernel_rfl) (laws_heldArena.runs k) (laws_heldArena.obls k)
/-! loop.example/g00200/laws.heldPartS -/
def laws_heldPartS.l1 (k : Nat)  : Nat → Int × Int × DeP × Unit → Option (Int)
  | 0, _ => none
  | n + 1, (x1, x2, x3, _) => if x2 < (x3.length : Int) then (if 0 ≤ x2 then (if x2 < (x3.length : Int) then (if ¬ ((el TyP x3 x2.toNat).1) = x1 then (some (-1)) else (if 0 ≤ x2 then (if x2 < (x3.length : Int) then (if ¬ ((((el TyP x3 x2.toNat).2).1).1) = (w64 (x1 + 1)) then (some (-1)) else (if 0 ≤ x2 then (if x2 < (x3.length : Int) then ((laws_heldIntS.f k ((((el TyP x3 x2.toNat).2).1).2) (w64 ((w64 (x1 + 1)) + 1))).bind fun t1 => (if t1 < 0 then (some (-1)) else (if 0 ≤ x2 then (if x2 < (x3.length : Int) then (if ¬ ((((el TyP x3 x2.toNat).2).2).1) = t1 then (some (-1)) else (if 0 ≤ x2 then (if x2 < (x3.length : Int) then (if ¬ (((((el TyP x3 x2.toNat).2).2).2).1) = (w64 (t1 + 1)) then (some (-1)) else (if 0 ≤ x2 then (if x2 < (x3.length : Int) then (if ¬ (((((el TyP x3 x2.toNat).2).2).2).2) = (w64 ((w64 (t1 + 1)) + 1)) then (some (-1)) else (laws_heldPartS.l1 k n (w64 ((w64 ((w64 (t1 + 1)) + 1)) + 1), w64 (x2 + 1), x3, ()))) else none) else none)) else none) else none)) else none) else none))) else none) else none)) else none) else none)) else none) else none) else (some x1)
def laws_heldPartS.f (k : Nat) (a0 : DeP) (a1 : Int) : Option (Int) :=
  laws_heldPartS.l1 k k (a1, 0, a0, ())
def laws_heldPartS.Sl1 : Shape := ⟨[(0, false, [.own 0]), (1, false, [.int .i64]), (5, false, [.int .i64])], [(0, .view false 59 TyP)], 1⟩
def laws_heldPartS.sig : Sig := ⟨[.val false (.sl 59 TyP) [0], .val false TyI []], [.val false TyI []]⟩
def laws_heldPartS.F (k : Nat) (x : Args laws_heldPartS.sig.ps) : Option (Res laws_heldPartS.sig) := laws_heldPartS.f k x.1 x.2.1
def laws_heldPartS.ann (k : Nat) : Ann (Res laws_heldPartS.sig) := (.seq .nil (.seq (.seq .nil (.block (.loop laws_heldPartS.Sl1 (laws_heldPartS.l1 k) fun n1 => .nil))) .nil))
def laws_heldPartS.ent : Ent := ⟨118, laws_heldPartS.sig, laws_heldPartS.F⟩
def laws_heldPartS.ctx (k : Nat) : Ctx := ⟨tds, [laws_heldIntS.ent], k, 69⟩
theorem laws_heldPartS.runs (k : Nat) (x : Args laws_heldPartS.sig.ps) : laws_heldPartS.F k x = runF (laws_heldPartS.ctx k) laws_heldPartS.sig Try.f118 (Try.f118.body.getD .skip) (laws_heldPartS.ann k) x := by kernel_rfl
theorem laws_heldPartS.obls (k : Nat) : obl (laws_heldPartS.ctx k) 1 (Try.f118.body.getD .skip) (laws_heldPartS.ann k) (retK tds laws_heldPartS.sig Try.f118.results.toList) := ⟨trivial, ⟨⟨trivial, ⟨⟨by kernel_rfl, fun x => by kernel_rfl⟩, fun n => ⟨fun x => by kernel_rfl, ⟨⟨trivial, ⟨trivial, trivial⟩⟩, ⟨⟨⟨trivial, ⟨⟨trivial, trivial⟩, trivial⟩⟩, ⟨trivial, ⟨⟨trivial, ⟨⟨trivial, trivial⟩, trivial⟩⟩, ⟨trivial, ⟨trivial, ⟨⟨trivial, ⟨⟨trivial, trivial⟩, trivial⟩⟩, ⟨⟨trivial, ⟨⟨trivial, trivial⟩, trivial⟩⟩, ⟨trivial, ⟨⟨trivial, ⟨⟨trivial, trivial⟩, trivial⟩⟩, ⟨trivial, ⟨⟨trivial, ⟨⟨trivial, trivial⟩, trivial⟩⟩, trivial⟩⟩⟩⟩⟩⟩⟩⟩⟩⟩⟩, trivial⟩⟩⟩⟩⟩, ⟨trivial, trivial⟩⟩⟩
theorem laws_heldPartS.ok (k : Nat) : EntOk Try.prog k laws_heldPartS.ent := fn_ok (C := laws_heldPartS.ctx k) Try.func118 (by kernel_rfl) (by kernel_rfl) mixed tdsOk (.cons (laws_heldIntS.ok k) EntsOk.nil) (by kernel_rfl) (Nat.le_of_ble_eq_true (by kernel_rfl)) (by kernel_rfl) (laws_heldPartS.runs k) (laws_heldPartS.obls k)
/-! loop.example/g00200/laws.heldMsgS -/
def laws_heldMsgS.l1 (k : Nat)  : Nat → Int × Int × De2 × Unit → Option (Int)
  | 0, _ => none
  | n + 1, (x1, x2, x3, _) => if x2 < (x3.length : Int) then (if 0 ≤ x2 then (if x2 < (x3.length : Int) then (if ¬ ((el Ty2 x3 x2.toNat).1) = x1 then (some (-1)) else (if 0 ≤ x2 then (if x2 < (x3.length : Int) then (if ¬ ((el Ty2 x3 x2.toNat).2) = (w64 (x1 + 1)) then (some (-1)) else (laws_heldMsgS.l1 k n (w64 ((w64 (x1 + 1)) + 1), w64 (x2 + 1), x3, ()))) else none) else none)) else none) else none) else (some x1)
def laws_heldMsgS.f (k : Nat) (a0 : De2) (a1 : Int) : Option (Int) :=
  laws_heldMsgS.l1 k k (a1, 0, a0, ())
def laws_heldMsgS.Sl1 : Shape := ⟨[(0, false, [.own 0]), (1, false, [.int .i64]), (5, false, [.int .i64])], [(0, .view false 241 Ty2)], 1⟩
def laws_heldMsgS.sig : Sig := ⟨[.val false (.sl 241 Ty2) [0], .val false TyI []], [.val false TyI []]⟩
def laws_heldMsgS.F (k : Nat) (x : Args laws_heldMsgS.sig.ps) : Option (Res laws_heldMsgS.sig) := laws_heldMsgS.f k x.1 x.2.1
def laws_heldMsgS.ann (k : Nat) : Ann (Res laws_heldMsgS.sig) := (.seq .nil (.seq (.seq .nil (.block (.loop laws_heldMsgS.Sl1 (laws_heldMsgS.l1 k) fun n1 => .nil))) .nil))
def laws_heldMsgS.ent : Ent := ⟨176, laws_heldMsgS.sig, laws_heldMsgS.F⟩
def laws_heldMsgS.ctx (k : Nat) : Ctx := ⟨tds, [], k, 31⟩
theorem laws_heldMsgS.runs (k : Nat) (x : Args laws_heldMsgS.sig.ps) : laws_heldMsgS.F k x = runF (laws_heldMsgS.ctx k) laws_heldMsgS.sig Try.f176 (Try.f176.body.getD .skip) (laws_heldMsgS.ann k) x := by kernel_rfl
theorem laws_heldMsgS.obls (k : Nat) : obl (laws_heldMsgS.ctx k) 1 (Try.f176.body.getD .skip) (laws_heldMsgS.ann k) (retK tds laws_heldMsgS.sig Try.f176.results.toList) := ⟨trivial, ⟨⟨trivial, ⟨⟨by kernel_rfl, fun x => by kernel_rfl⟩, fun n => ⟨fun x => by kernel_rfl, ⟨⟨trivial, ⟨trivial, trivial⟩⟩, ⟨⟨⟨trivial, ⟨⟨trivial, trivial⟩, trivial⟩⟩, ⟨trivial, ⟨⟨trivial, ⟨⟨trivial, trivial⟩, trivial⟩⟩, trivial⟩⟩⟩, trivial⟩⟩⟩⟩⟩, ⟨trivial, trivial⟩⟩⟩
theorem laws_heldMsgS.ok (k : Nat) : EntOk Try.prog k laws_heldMsgS.ent := fn_ok (C := laws_heldMsgS.ctx k) Try.func176 (by kernel_rfl) (by kernel_rfl) mixed tdsOk EntsOk.nil (by kernel_rfl) (Nat.le_of_ble_eq_true (by kernel_rfl)) (by kernel_rfl) (laws_heldMsgS.runs k) (laws_heldMsgS.obls k)
/-! loop.example/g00200/laws.heldLineS -/
def laws_heldLineS.l1 (k : Nat)  : Nat → Int × Int × DeL × Unit → Option (Int)
  | 0, _ => none
  | n + 1, (x1, x2, x3, _) => if x2 < (x3.length : Int) then (if 0 ≤ x2 then (if x2 < (x3.length : Int) then ((laws_heldMsgS.f k (el (.sl 241 Ty2) x3 x2.toNat) x1).bind fun t1 => (if t1 < 0 then (some (-1)) else (laws_heldLineS.l1 k n (t1, w64 (x2 + 1), x3, ())))) else none) else none) else (some x1)
def laws_heldLineS.f (k : Nat) (a0 : DeL) (a1 : Int) : Option (Int) :=
  laws_heldLineS.l1 k k (a1, 0, a0, ())
def laws_heldLineS.Sl1 : Shape := ⟨[(0, false, [.own 0]), (1, false, [.int .i64]), (5, false, [.int .i64])], [(0, .view false 145 (.sl 241 Ty2))], 1⟩
def laws_heldLineS.sig : Sig := ⟨[.val false (.sl 145 (.sl 241 Ty2)) [0], .val false TyI []], [.val false TyI []]⟩
def laws_heldLineS.F (k : Nat) (x : Args laws_heldLineS.sig.ps) : Option (Res laws_heldLineS.sig) := laws_heldLineS.f k x.1 x.2.1
def laws_heldLineS.ann (k : Nat) : Ann (Res laws_heldLineS.sig) := (.seq .nil (.seq (.seq .nil (.block (.loop laws_heldLineS.Sl1 (laws_heldLineS.l1 k) fun n1 => .nil))) .nil))
def laws_heldLineS.ent : Ent := ⟨119, laws_heldLineS.sig, laws_heldLineS.F⟩
def laws_heldLineS.ctx (k : Nat) : Ctx := ⟨tds, [laws_heldMsgS.ent], k, 22⟩
theorem laws_heldLineS.runs (k : Nat) (x : Args laws_heldLineS.sig.ps) : laws_heldLineS.F k x = runF (laws_heldLineS.ctx k) laws_heldLineS.sig Try.f119 (Try.f119.body.getD .skip) (laws_heldLineS.ann k) x := by kernel_rfl
theorem laws_heldLineS.obls (k : Nat) : obl (laws_heldLineS.ctx k) 1 (Try.f119.body.getD .skip) (laws_heldLineS.ann k) (retK tds laws_heldLineS.sig Try.f119.results.toList) := ⟨trivial, ⟨⟨trivial, ⟨⟨by kernel_rfl, fun x => by kernel_rfl⟩, fun n => ⟨fun x => by kernel_rfl, ⟨⟨trivial, ⟨trivial, trivial⟩⟩, ⟨⟨trivial, ⟨trivial, ⟨⟨trivial, trivial⟩, trivial⟩⟩⟩, trivial⟩⟩⟩⟩⟩, ⟨trivial, trivial⟩⟩⟩
theorem laws_heldLineS.ok (k : Nat) : EntOk Try.prog k laws_heldLineS.ent := fn_ok (C := laws_heldLineS.ctx k) Try.func119 (by kernel_rfl) (by kernel_rfl) mixed tdsOk (.cons (laws_heldMsgS.ok k) EntsOk.nil) (by kernel_rfl) (Nat.le_of_ble_eq_true (by kernel_rfl)) (by kernel_rfl) (laws_heldLineS.runs k) (laws_heldLineS.obls k)
/-! loop.example/g00200/laws.heldEntryS -/
def laws_heldEntryS.l1 (k : Nat)  : Nat → Int × Int × De5 × Unit → Option (Int)
  | 0, _ => none
  | n + 1, (x1, x2, x3, _) => if x2 < (x3.length : Int) then (if 0 ≤ x2 then (if x2 < (x3.length : Int) then (if ¬ ((el Ty5 x3 x2.toNat).1) = x1 then (some (-1)) else (if 0 ≤ x2 then (if x2 < (x3.length : Int) then (if ¬ (((el Ty5 x3 x2.toNat).2).1) = (w64 (x1 + 1)) then (some (-1)) else (if 0 ≤ x2 then (if x2 < (x3.length : Int) then (if ¬ ((((el Ty5 x3 x2.toNat).2).2).1) = (w64 ((w64 (x1 + 1)) + 1)) then (some (-1)) else (if 0 ≤ x2 then (if x2 < (x3.length : Int) then (if ¬ (((((el Ty5 x3 x2.toNat).2).2).2).1) = (w64 ((w64 ((w64 (x1 + 1)) + 1)) + 1)) then (some (-1)) else (if 0 ≤ x2 then (if x2 < (x3.length : Int) then (if ¬ (((((el Ty5 x3 x2.toNat).2).2).2).2) = (w64 ((w64 ((w64 ((w64 (x1 + 1)) + 1)) + 1)) + 1)) then (some (-1)) else (laws_heldEntryS.l1 k n (w64 ((w64 ((w64 ((w64 ((w64 (x1 + 1)) + 1)) + 1)) + 1)) + 1), w64 (x2 + 1), x3, ()))) else none) else none)) else none) else none)) else none) else none)) else none) else none)) else none) else none) else (some x1)
def laws_heldEntryS.f (k : Nat) (a0 : De5) (a1 : Int) : Option (Int) :=
  laws_heldEntryS.l1 k k (a1, 0, a0, ())
def laws_heldEntryS.Sl1 : Shape := ⟨[(0, false, [.own 0]), (1, false, [.int .i64]), (5, false, [.int .i64])], [(0, .view false 70 Ty5)], 1⟩
def laws_heldEntryS.sig : Sig := ⟨[.val false (.sl 70 Ty5) [0], .val false TyI []], [.val false TyI []]⟩
def laws_heldEntryS.F (k : Nat) (x : Args laws_heldEntryS.sig.ps) : Option (Res laws_heldEntryS.sig) := laws_heldEntryS.f k x.1 x.2.1
def laws_heldEntryS.ann (k : Nat) : Ann (Res laws_heldEntryS.sig) := (.seq .nil (.seq (.seq .nil (.block (.loop laws_heldEntryS.Sl1 (laws_heldEntryS.l1 k) fun n1 => .nil))) .nil))
def laws_heldEntryS.ent : Ent := ⟨120, laws_heldEntryS.sig, laws_heldEntryS.F⟩
def laws_heldEntryS.ctx (k : Nat) : Ctx := ⟨tds, [], k, 58⟩
theorem laws_heldEntryS.runs (k : Nat) (x : Args laws_heldEntryS.sig.ps) : laws_heldEntryS.F k x = runF (laws_heldEntryS.ctx k) laws_heldEntryS.sig Try.f120 (Try.f120.body.getD .skip) (laws_heldEntryS.ann k) x := by kernel_rfl
theorem laws_heldEntryS.obls (k : Nat) : obl (laws_heldEntryS.ctx k) 1 (Try.f120.body.getD .skip) (laws_heldEntryS.ann k) (retK tds laws_heldEntryS.sig Try.f120.results.toList) := ⟨trivial, ⟨⟨trivial, ⟨⟨by kernel_rfl, fun x => by kernel_rfl⟩, fun n => ⟨fun x => by kernel_rfl, ⟨⟨trivial, ⟨trivial, trivial⟩⟩, ⟨⟨⟨trivial, ⟨⟨trivial, trivial⟩, trivial⟩⟩, ⟨trivial, ⟨⟨trivial, ⟨⟨trivial, trivial⟩, trivial⟩⟩, ⟨trivial, ⟨⟨trivial, ⟨⟨trivial, trivial⟩, trivial⟩⟩, ⟨trivial, ⟨⟨trivial, ⟨⟨trivial, trivial⟩, trivial⟩⟩, ⟨trivial, ⟨⟨trivial, ⟨⟨trivial, trivial⟩, trivial⟩⟩, trivial⟩⟩⟩⟩⟩⟩⟩⟩⟩, trivial⟩⟩⟩⟩⟩, ⟨trivial, trivial⟩⟩⟩
theorem laws_heldEntryS.ok (k : Nat) : EntOk Try.prog k laws_heldEntryS.ent := fn_ok (C := laws_heldEntryS.ctx k) Try.func120 (by kernel_rfl) (by kernel_rfl) mixed tdsOk EntsOk.nil (by kernel_rfl) (Nat.le_of_ble_eq_true (by kernel_rfl)) (by kernel_rfl) (laws_heldEntryS.runs k) (laws_heldEntryS.obls k)
/-! loop.example/g00200/laws.heldKernel -/
def laws_heldKernel.f (k : Nat) (a0 : DeK) (a1 : Int) : Option (Int) :=
  (laws_heldSetup.f k a0.1 a1).bind fun t1 => (if t1 < 0 then (some (-1)) else ((laws_heldArena.f k a0.2.1 t1).bind fun t2 => (if t2 < 0 then (some (-1)) else ((laws_heldPartS.f k a0.2.2.1 t2).bind fun t3 => (if t3 < 0 then (some (-1)) else ((laws_heldLineS.f k a0.2.2.2.1 t3).bind fun t4 => (if t4 < 0 then (some (-1)) else ((laws_heldIntS.f k a0.2.2.2.2.1 t4).bind fun t5 => (if t5 < 0 then (some (-1)) else ((laws_heldEntryS.f k a0.2.2.2.2.2.2.2 t5).bind fun t6 => (if t6 < 0 then (some (-1)) else (some t6))))))))))))
def laws_heldKernel.sig : Sig := ⟨[.val true (.pair (.pair (.sl 31 Ty2) (.pair (.sl 34 Ty2) (.pair (.sl 63 Ty5) (.pair (.sl 39 Ty3) (.sl 9 .str))))) (.pair (.sl 3 TyI) (.pair (.sl 59 TyP) (.pair (.sl 145 (.sl 241 Ty2)) (.pair (.sl 3 TyI) (.pair TyI (.pair .bool (.sl 70 Ty5)))))))) [0, 0, 0, 0, 0, 0, 0, 0, 0, 0], .val false TyI []], [.val false TyI []]⟩
def laws_heldKernel.F (k : Nat) (x : Args laws_heldKernel.sig.ps) : Option (Res laws_heldKernel.sig) := laws_heldKernel.f k x.1 x.2.1
def laws_heldKernel.ann (k : Nat) : Ann (Res laws_heldKernel.sig) := .nil
def laws_heldKernel.ent : Ent := ⟨42, laws_heldKernel.sig, laws_heldKernel.F⟩
def laws_heldKernel.ctx (k : Nat) : Ctx := ⟨tds, [laws_heldIntS.ent, laws_heldSetup.ent, laws_heldArena.ent, laws_heldPartS.ent, laws_heldLineS.ent, laws_heldEntryS.ent], k, 42⟩
theorem laws_heldKernel.runs (k : Nat) (x : Args laws_heldKernel.sig.ps) : laws_heldKernel.F k x = runF (laws_heldKernel.ctx k) laws_heldKernel.sig Try.f42 (Try.f42.body.getD .skip) (laws_heldKernel.ann k) x := by kernel_rfl
theorem laws_heldKernel.obls (k : Nat) : obl (laws_heldKernel.ctx k) 10 (Try.f42.body.getD .skip) (laws_heldKernel.ann k) (retK tds laws_heldKernel.sig Try.f42.results.toList) := ⟨trivial, ⟨trivial, ⟨⟨trivial, ⟨⟨trivial, trivial⟩, trivial⟩⟩, ⟨trivial, ⟨⟨trivial, ⟨⟨trivial, trivial⟩, trivial⟩⟩, ⟨trivial, ⟨⟨trivial, ⟨⟨trivial, trivial⟩, trivial⟩⟩, ⟨trivial, ⟨⟨trivial, ⟨⟨trivial, trivial⟩, trivial⟩⟩, ⟨trivial, ⟨⟨trivial, ⟨⟨trivial, trivial⟩, trivial⟩⟩, ⟨trivial, ⟨⟨trivial, ⟨⟨trivial, trivial⟩, trivial⟩⟩, ⟨trivial, trivial⟩⟩⟩⟩⟩⟩⟩⟩⟩⟩⟩⟩⟩⟩
theorem laws_heldKernel.ok (k : Nat) : EntOk Try.prog k laws_heldKernel.ent := fn_ok (C := laws_heldKernel.ctx k) Try.func42 (by kernel_rfl) (by kernel_rfl) mixed tdsOk (.cons (laws_heldIntS.ok k) (.cons (laws_heldSetup.ok k) (.cons (laws_heldArena.ok k) (.cons (laws_heldPartS.ok k) (.cons (laws_heldLineS.ok k) (.cons (laws_heldEntryS.ok k) EntsOk.nil)))))) (by kernel_rfl) (Nat.le_of_ble_eq_true (by kernel_rfl)) (by kernel_rfl) (laws_heldKernel.runs k) (laws_heldKernel.obls k)
end Go.Proofs.Ytacpibmmodeacaa.QA
