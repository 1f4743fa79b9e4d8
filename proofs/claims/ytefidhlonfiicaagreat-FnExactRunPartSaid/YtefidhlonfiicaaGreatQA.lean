/- The plain functions of Go functions, and that each Go function does what its plain function tells. Printed by a program of this session (gen.py). -/
import Derived.Test.YtefidhlonfiicaaGreatProg
import Derived.Test.YtefidhlonfiicaaGreatAbDa
import Derived.KernelRfl
namespace Go.Proofs.YtefidhlonfiicaaGreat.QA
open Go Go.Proofs Go.Proofs.YtefidhlonfiicaaGreatA
set_option linter.unusedVariables false
set_option maxRecDepth 100000
def tds : List (Nat × TD) := [(2, ⟨.int .i64, 1, 8, (.int .i64), false, false⟩),
  (3, ⟨.int .i64, 1, 8, (.int .i64), false, false⟩),
  (4, ⟨.bool, 1, 1, .bool, false, false⟩),
  (5, ⟨.int .u8, 1, 1, (.int .u8), false, false⟩),
  (6, ⟨.int .u8, 1, 1, (.int .u8), false, false⟩),
  (7, ⟨.struct [(0, 2), (1, 3), (2, 4), (3, 6)], 4, 24, (.pair (.int .i64) (.pair (.int .i64) (.pair .bool (.int .u8)))), true, false⟩),
  (8, ⟨.struct [(0, 2), (1, 3), (2, 4), (3, 6)], 4, 24, (.pair (.int .i64) (.pair (.int .i64) (.pair .bool (.int .u8)))), true, false⟩),
  (9, ⟨.str, 1, 16, .str, false, false⟩),
  (10, ⟨.str, 1, 16, .str, false, false⟩),
  (11, ⟨.str, 1, 16, .str, false, false⟩),
  (12, ⟨.int .u64, 1, 8, (.int .u64), false, false⟩),
  (13, ⟨.struct [(0, 9), (1, 12)], 2, 24, (.pair .str (.int .u64)), true, false⟩),
  (14, ⟨.struct [(0, 9), (1, 12)], 2, 24, (.pair .str (.int .u64)), true, false⟩),
  (21, ⟨.int .i32, 1, 4, (.int .i32), false, false⟩),
  (22, ⟨.slice 179, 1, 24, (.sl 179 (.pair (.int .i64) (.int .i64))), false, false⟩),
  (23, ⟨.slice 183, 1, 24, (.sl 183 (.pair (.int .i64) (.int .i64))), false, false⟩),
  (24, ⟨.slice 185, 1, 24, (.sl 185 (.pair (.int .i64) (.pair (.int .i64) (.pair (.int .i64) (.pair (.int .i64) (.int .i64)))))), false, false⟩),
  (25, ⟨.slice 189, 1, 24, (.sl 189 (.pair (.int .i64) (.pair (.int .i64) (.int .i64)))), false, false⟩),
  (26, ⟨.slice 9, 1, 24, (.sl 9 .str), false, false⟩),
  (27, ⟨.struct [(0, 22), (1, 23), (2, 24), (3, 25), (4, 26)], 5, 120, (.pair (.sl 179 (.pair (.int .i64) (.int .i64))) (.pair (.sl 183 (.pair (.int .i64) (.int .i64))) (.pair (.sl 185 (.pair (.int .i64) (.pair (.int .i64) (.pair (.int .i64) (.pair (.int .i64) (.int .i64)))))) (.pair (.sl 189 (.pair (.int .i64) (.pair (.int .i64) (.int .i64)))) (.sl 9 .str))))), true, false⟩),
  (28, ⟨.struct [(0, 22), (1, 23), (2, 24), (3, 25), (4, 26)], 5, 120, (.pair (.sl 179 (.pair (.int .i64) (.int .i64))) (.pair (.sl 183 (.pair (.int .i64) (.int .i64))) (.pair (.sl 185 (.pair (.int .i64) (.pair (.int .i64) (.pair (.int .i64) (.pair (.int .i64) (.int .i64)))))) (.pair (.sl 189 (.pair (.int .i64) (.pair (.int .i64) (.int .i64)))) (.sl 9 .str))))), true, false⟩),
  (29, ⟨.slice 3, 1, 24, (.sl 3 (.int .i64)), false, false⟩),
  (30, ⟨.struct [(0, 29)], 1, 24, (.sl 3 (.int .i64)), true, false⟩),
  (31, ⟨.struct [(0, 29)], 1, 24, (.sl 3 (.int .i64)), true, false⟩),
  (32, ⟨.slice 105, 1, 24, (.sl 105 (.pair (.int .i64) (.pair (.pair (.int .i64) (.sl 3 (.int .i64))) (.pair (.int .i64) (.pair (.int .i64) (.int .i64)))))), false, false⟩),
  (33, ⟨.slice 109, 1, 24, (.sl 109 (.sl 212 (.pair (.int .i64) (.int .i64)))), false, false⟩),
  (34, ⟨.slice 142, 1, 24, (.sl 142 (.pair (.int .i64) (.pair (.int .i64) (.pair (.int .i64) (.pair (.int .i64) (.int .i64)))))), false, false⟩),
  (35, ⟨.struct [(0, 28), (5, 31), (6, 32), (7, 33), (8, 29), (9, 3), (10, 4), (11, 34)], 12, 256, (.pair (.pair (.sl 179 (.pair (.int .i64) (.int .i64))) (.pair (.sl 183 (.pair (.int .i64) (.int .i64))) (.pair (.sl 185 (.pair (.int .i64) (.pair (.int .i64) (.pair (.int .i64) (.pair (.int .i64) (.int .i64)))))) (.pair (.sl 189 (.pair (.int .i64) (.pair (.int .i64) (.int .i64)))) (.sl 9 .str))))) (.pair (.sl 3 (.int .i64)) (.pair (.sl 105 (.pair (.int .i64) (.pair (.pair (.int .i64) (.sl 3 (.int .i64))) (.pair (.int .i64) (.pair (.int .i64) (.int .i64)))))) (.pair (.sl 109 (.sl 212 (.pair (.int .i64) (.int .i64)))) (.pair (.sl 3 (.int .i64)) (.pair (.int .i64) (.pair .bool (.sl 142 (.pair (.int .i64) (.pair (.int .i64) (.pair (.int .i64) (.pair (.int .i64) (.int .i64))))))))))))), true, false⟩),
  (36, ⟨.struct [(0, 28), (5, 31), (6, 32), (7, 33), (8, 29), (9, 3), (10, 4), (11, 34)], 12, 256, (.pair (.pair (.sl 179 (.pair (.int .i64) (.int .i64))) (.pair (.sl 183 (.pair (.int .i64) (.int .i64))) (.pair (.sl 185 (.pair (.int .i64) (.pair (.int .i64) (.pair (.int .i64) (.pair (.int .i64) (.int .i64)))))) (.pair (.sl 189 (.pair (.int .i64) (.pair (.int .i64) (.int .i64)))) (.sl 9 .str))))) (.pair (.sl 3 (.int .i64)) (.pair (.sl 105 (.pair (.int .i64) (.pair (.pair (.int .i64) (.sl 3 (.int .i64))) (.pair (.int .i64) (.pair (.int .i64) (.int .i64)))))) (.pair (.sl 109 (.sl 212 (.pair (.int .i64) (.int .i64)))) (.pair (.sl 3 (.int .i64)) (.pair (.int .i64) (.pair .bool (.sl 142 (.pair (.int .i64) (.pair (.int .i64) (.pair (.int .i64) (.pair (.int .i64) (.int .i64))))))))))))), true, false⟩),
  (38, ⟨.slice 127, 1, 24, (.sl 127 (.pair (.int .i64) (.int .i64))), false, false⟩),
  (39, ⟨.slice 181, 1, 24, (.sl 181 (.pair (.int .i64) (.int .i64))), false, false⟩),
  (40, ⟨.slice 121, 1, 24, (.sl 121 (.pair (.int .i64) (.pair (.int .i64) (.pair (.int .i64) (.pair (.int .i64) (.int .i64)))))), false, false⟩),
  (41, ⟨.slice 187, 1, 24, (.sl 187 (.pair (.int .i64) (.pair (.int .i64) (.int .i64)))), false, false⟩),
  (42, ⟨.struct [(0, 38), (1, 39), (2, 40), (3, 41), (4, 26)], 5, 120, (.pair (.sl 127 (.pair (.int .i64) (.int .i64))) (.pair (.sl 181 (.pair (.int .i64) (.int .i64))) (.pair (.sl 121 (.pair (.int .i64) (.pair (.int .i64) (.pair (.int .i64) (.pair (.int .i64) (.int .i64)))))) (.pair (.sl 187 (.pair (.int .i64) (.pair (.int .i64) (.int .i64)))) (.sl 9 .str))))), true, false⟩),
  (43, ⟨.struct [(0, 38), (1, 39), (2, 40), (3, 41), (4, 26)], 5, 120, (.pair (.sl 127 (.pair (.int .i64) (.int .i64))) (.pair (.sl 181 (.pair (.int .i64) (.int .i64))) (.pair (.sl 121 (.pair (.int .i64) (.pair (.int .i64) (.pair (.int .i64) (.pair (.int .i64) (.int .i64)))))) (.pair (.sl 187 (.pair (.int .i64) (.pair (.int .i64) (.int .i64)))) (.sl 9 .str))))), true, false⟩),
  (44, ⟨.struct [(0, 29)], 1, 24, (.sl 3 (.int .i64)), true, false⟩),
  (45, ⟨.slice 73, 1, 24, (.sl 73 (.pair (.int .i64) (.pair (.pair (.int .i64) (.sl 3 (.int .i64))) (.pair (.int .i64) (.pair (.int .i64) (.int .i64)))))), false, false⟩),
  (46, ⟨.slice 115, 1, 24, (.sl 115 (.sl 210 (.pair (.int .i64) (.int .i64)))), false, false⟩),
  (47, ⟨.slice 140, 1, 24, (.sl 140 (.pair (.int .i64) (.pair (.int .i64) (.pair (.int .i64) (.pair (.int .i64) (.int .i64)))))), false, false⟩),
  (48, ⟨.struct [(0, 43), (5, 44), (6, 45), (7, 46), (8, 29), (9, 3), (10, 4), (11, 47)], 12, 256, (.pair (.pair (.sl 127 (.pair (.int .i64) (.int .i64))) (.pair (.sl 181 (.pair (.int .i64) (.int .i64))) (.pair (.sl 121 (.pair (.int .i64) (.pair (.int .i64) (.pair (.int .i64) (.pair (.int .i64) (.int .i64)))))) (.pair (.sl 187 (.pair (.int .i64) (.pair (.int .i64) (.int .i64)))) (.sl 9 .str))))) (.pair (.sl 3 (.int .i64)) (.pair (.sl 73 (.pair (.int .i64) (.pair (.pair (.int .i64) (.sl 3 (.int .i64))) (.pair (.int .i64) (.pair (.int .i64) (.int .i64)))))) (.pair (.sl 115 (.sl 210 (.pair (.int .i64) (.int .i64)))) (.pair (.sl 3 (.int .i64)) (.pair (.int .i64) (.pair .bool (.sl 140 (.pair (.int .i64) (.pair (.int .i64) (.pair (.int .i64) (.pair (.int .i64) (.int .i64))))))))))))), true, false⟩),
  (49, ⟨.struct [(0, 43), (5, 44), (6, 45), (7, 46), (8, 29), (9, 3), (10, 4), (11, 47)], 12, 256, (.pair (.pair (.sl 127 (.pair (.int .i64) (.int .i64))) (.pair (.sl 181 (.pair (.int .i64) (.int .i64))) (.pair (.sl 121 (.pair (.int .i64) (.pair (.int .i64) (.pair (.int .i64) (.pair (.int .i64) (.int .i64)))))) (.pair (.sl 187 (.pair (.int .i64) (.pair (.int .i64) (.int .i64)))) (.sl 9 .str))))) (.pair (.sl 3 (.int .i64)) (.pair (.sl 73 (.pair (.int .i64) (.pair (.pair (.int .i64) (.sl 3 (.int .i64))) (.pair (.int .i64) (.pair (.int .i64) (.int .i64)))))) (.pair (.sl 115 (.sl 210 (.pair (.int .i64) (.int .i64)))) (.pair (.sl 3 (.int .i64)) (.pair (.int .i64) (.pair .bool (.sl 140 (.pair (.int .i64) (.pair (.int .i64) (.pair (.int .i64) (.pair (.int .i64) (.int .i64))))))))))))), true, false⟩),
  (67, ⟨.slice 76, 1, 24, (.sl 76 (.pair (.int .i64) (.int .i64))), false, false⟩),
  (70, ⟨.struct [(0, 3), (1, 29)], 2, 32, (.pair (.int .i64) (.sl 3 (.int .i64))), true, false⟩),
  (71, ⟨.struct [(0, 3), (1, 29)], 2, 32, (.pair (.int .i64) (.sl 3 (.int .i64))), true, false⟩),
  (72, ⟨.struct [(0, 3), (1, 71), (3, 3), (4, 3), (5, 3)], 6, 64, (.pair (.int .i64) (.pair (.pair (.int .i64) (.sl 3 (.int .i64))) (.pair (.int .i64) (.pair (.int .i64) (.int .i64))))), true, false⟩),
  (73, ⟨.struct [(0, 3), (1, 71), (3, 3), (4, 3), (5, 3)], 6, 64, (.pair (.int .i64) (.pair (.pair (.int .i64) (.sl 3 (.int .i64))) (.pair (.int .i64) (.pair (.int .i64) (.int .i64))))), true, false⟩),
  (75, ⟨.struct [(0, 3), (1, 3)], 2, 16, (.pair (.int .i64) (.int .i64)), true, false⟩),
  (76, ⟨.struct [(0, 3), (1, 3)], 2, 16, (.pair (.int .i64) (.int .i64)), true, false⟩),
  (103, ⟨.struct [(0, 3), (1, 29)], 2, 32, (.pair (.int .i64) (.sl 3 (.int .i64))), true, false⟩),
  (104, ⟨.struct [(0, 3), (1, 103), (3, 3), (4, 3), (5, 3)], 6, 64, (.pair (.int .i64) (.pair (.pair (.int .i64) (.sl 3 (.int .i64))) (.pair (.int .i64) (.pair (.int .i64) (.int .i64))))), true, false⟩),
  (105, ⟨.struct [(0, 3), (1, 103), (3, 3), (4, 3), (5, 3)], 6, 64, (.pair (.int .i64) (.pair (.pair (.int .i64) (.sl 3 (.int .i64))) (.pair (.int .i64) (.pair (.int .i64) (.int .i64))))), true, false⟩),
  (107, ⟨.slice 212, 1, 24, (.sl 212 (.pair (.int .i64) (.int .i64))), false, false⟩),
  (108, ⟨.struct [(0, 107)], 1, 24, (.sl 212 (.pair (.int .i64) (.int .i64))), true, false⟩),
  (109, ⟨.struct [(0, 107)], 1, 24, (.sl 212 (.pair (.int .i64) (.int .i64))), true, false⟩),
  (113, ⟨.slice 210, 1, 24, (.sl 210 (.pair (.int .i64) (.int .i64))), false, false⟩),
  (114, ⟨.struct [(0, 113)], 1, 24, (.sl 210 (.pair (.int .i64) (.int .i64))), true, false⟩),
  (115, ⟨.struct [(0, 113)], 1, 24, (.sl 210 (.pair (.int .i64) (.int .i64))), true, false⟩),
  (120, ⟨.struct [(0, 3), (1, 3), (2, 3), (3, 3), (4, 3)], 5, 40, (.pair (.int .i64) (.pair (.int .i64) (.pair (.int .i64) (.pair (.int .i64) (.int .i64))))), true, false⟩),
  (121, ⟨.struct [(0, 3), (1, 3), (2, 3), (3, 3), (4, 3)], 5, 40, (.pair (.int .i64) (.pair (.int .i64) (.pair (.int .i64) (.pair (.int .i64) (.int .i64))))), true, false⟩),
  (122, ⟨.struct [(0, 3), (1, 3), (2, 3), (3, 3)], 4, 32, (.pair (.int .i64) (.pair (.int .i64) (.pair (.int .i64) (.int .i64)))), true, false⟩),
  (123, ⟨.struct [(0, 3), (1, 3), (2, 3), (3, 3)], 4, 32, (.pair (.int .i64) (.pair (.int .i64) (.pair (.int .i64) (.int .i64)))), true, false⟩),
  (126, ⟨.struct [(0, 3), (1, 3)], 2, 16, (.pair (.int .i64) (.int .i64)), true, false⟩),
  (127, ⟨.struct [(0, 3), (1, 3)], 2, 16, (.pair (.int .i64) (.int .i64)), true, false⟩),
  (139, ⟨.struct [(0, 3), (1, 3), (2, 3), (3, 3), (4, 3)], 5, 40, (.pair (.int .i64) (.pair (.int .i64) (.pair (.int .i64) (.pair (.int .i64) (.int .i64))))), true, false⟩),
  (140, ⟨.struct [(0, 3), (1, 3), (2, 3), (3, 3), (4, 3)], 5, 40, (.pair (.int .i64) (.pair (.int .i64) (.pair (.int .i64) (.pair (.int .i64) (.int .i64))))), true, false⟩),
  (142, ⟨.struct [(0, 3), (1, 3), (2, 3), (3, 3), (4, 3)], 5, 40, (.pair (.int .i64) (.pair (.int .i64) (.pair (.int .i64) (.pair (.int .i64) (.int .i64))))), true, false⟩),
  (179, ⟨.struct [(0, 3), (1, 3)], 2, 16, (.pair (.int .i64) (.int .i64)), true, false⟩),
  (180, ⟨.struct [(0, 3), (1, 3)], 2, 16, (.pair (.int .i64) (.int .i64)), true, false⟩),
  (181, ⟨.struct [(0, 3), (1, 3)], 2, 16, (.pair (.int .i64) (.int .i64)), true, false⟩),
  (183, ⟨.struct [(0, 3), (1, 3)], 2, 16, (.pair (.int .i64) (.int .i64)), true, false⟩),
  (185, ⟨.struct [(0, 3), (1, 3), (2, 3), (3, 3), (4, 3)], 5, 40, (.pair (.int .i64) (.pair (.int .i64) (.pair (.int .i64) (.pair (.int .i64) (.int .i64))))), true, false⟩),
  (186, ⟨.struct [(0, 3), (1, 3), (2, 3)], 3, 24, (.pair (.int .i64) (.pair (.int .i64) (.int .i64))), true, false⟩),
  (187, ⟨.struct [(0, 3), (1, 3), (2, 3)], 3, 24, (.pair (.int .i64) (.pair (.int .i64) (.int .i64))), true, false⟩),
  (189, ⟨.struct [(0, 3), (1, 3), (2, 3)], 3, 24, (.pair (.int .i64) (.pair (.int .i64) (.int .i64))), true, false⟩),
  (209, ⟨.struct [(0, 3), (1, 3)], 2, 16, (.pair (.int .i64) (.int .i64)), true, false⟩),
  (210, ⟨.struct [(0, 3), (1, 3)], 2, 16, (.pair (.int .i64) (.int .i64)), true, false⟩),
  (212, ⟨.struct [(0, 3), (1, 3)], 2, 16, (.pair (.int .i64) (.int .i64)), true, false⟩),
  (214, ⟨.int .u64, 1, 8, (.int .u64), false, false⟩),
  (216, ⟨.slice 5, 1, 24, (.sl 5 (.int .u8)), false, false⟩),
  (224, ⟨.int .u32, 1, 4, (.int .u32), false, false⟩),
  (225, ⟨.int .u8, 1, 1, (.int .u8), false, false⟩),
  (226, ⟨.int .u8, 1, 1, (.int .u8), false, false⟩),
  (229, ⟨.int .i32, 1, 4, (.int .i32), false, false⟩),
  (230, ⟨.int .i32, 1, 4, (.int .i32), false, false⟩)]
theorem mixed : Tryz.prog.follows .mixedOrders = true := by kernel_rfl
theorem tdsOk : TdsOk Tryz.prog tds := tds_ok (by kernel_rfl) (by kernel_rfl)
def w64 (z : Int) : Int := IntKind.i64.wrap z
@[reducible] def TyP : Ty := .pair (.int .i64) (.pair (.pair (.int .i64) (.sl 3 (.int .i64))) (.pair (.int .i64) (.pair (.int .i64) (.int .i64))))
@[reducible] def Ty5 : Ty := .pair (.int .i64) (.pair (.int .i64) (.pair (.int .i64) (.pair (.int .i64) (.int .i64))))
@[reducible] def Ty3 : Ty := .pair (.int .i64) (.pair (.int .i64) (.int .i64))
@[reducible] def Ty2 : Ty := .pair (.int .i64) (.int .i64)
@[reducible] def TyI : Ty := .int .i64
@[reducible] def DeP : Type := List (Int × (Int × List Int) × Int × Int × Int)
@[reducible] def De5 : Type := List (Int × Int × Int × Int × Int)
@[reducible] def De3 : Type := List (Int × Int × Int)
@[reducible] def De2 : Type := List (Int × Int)
@[reducible] def DeB : Type := List ByteArray
@[reducible] def DeI : Type := List Int
@[reducible] def DeL : Type := List De2
@[reducible] def DeS : Type := De2 × De2 × De5 × De3 × DeB
@[reducible] def DeK : Type := DeS × DeI × DeP × DeL × DeI × Int × Bool × De5
/-! loop.example/g00200/laws.szRegionS -/
def laws_szRegionS.f (k : Nat) (a0 : De2) (a1 : Int) : Option (Int) :=
  if (w64 (a1 - (a0.length : Int))) < 0 then (some (-1)) else (some (w64 (a1 - (a0.length : Int))))
def laws_szRegionS.sig : Sig := ⟨[.val false (.sl 179 Ty2) [0], .val false TyI []], [.val false TyI []]⟩
def laws_szRegionS.F : FT laws_szRegionS.sig := fun k x => laws_szRegionS.f k x.1 x.2.1
def laws_szRegionS.ann : AT laws_szRegionS.sig := fun k => .nil
def laws_szRegionS.ent : Ent := ⟨51, laws_szRegionS.sig, laws_szRegionS.F⟩
def laws_szRegionS.ctx (k : Nat) : Ctx := ⟨tds, [], k, 12⟩
theorem laws_szRegionS.runs : RunsT laws_szRegionS.sig laws_szRegionS.ctx Tryz.f51 laws_szRegionS.ann laws_szRegionS.F := fun k x => by kernel_rfl
theorem laws_szRegionS.obls : OblT tds laws_szRegionS.sig laws_szRegionS.ctx 1 Tryz.f51 laws_szRegionS.ann := fun k => ⟨tr, ⟨tr, ⟨⟨tr, ⟨⟨tr, tr⟩, tr⟩⟩, ⟨tr, tr⟩⟩⟩⟩
theorem laws_szRegionS.ok (k : Nat) : EntOk Tryz.prog k laws_szRegionS.ent := fn_ok (C := laws_szRegionS.ctx k) Tryz.func51 (by kernel_rfl) (by kernel_rfl) mixed tdsOk EntsOk.nil (by kernel_rfl) (leB (by kernel_rfl)) (by kernel_rfl) (laws_szRegionS.runs k) (laws_szRegionS.obls k)
/-! loop.example/g00200/laws.szWindowS -/
def laws_szWindowS.f (k : Nat) (a0 : De2) (a1 : Int) : Option (Int) :=
  if (w64 (a1 - (a0.length : Int))) < 0 then (some (-1)) else (some (w64 (a1 - (a0.length : Int))))
def laws_szWindowS.sig : Sig := ⟨[.val false (.sl 183 Ty2) [0], .val false TyI []], [.val false TyI []]⟩
def laws_szWindowS.F : FT laws_szWindowS.sig := fun k x => laws_szWindowS.f k x.1 x.2.1
def laws_szWindowS.ann : AT laws_szWindowS.sig := fun k => .nil
def laws_szWindowS.ent : Ent := ⟨52, laws_szWindowS.sig, laws_szWindowS.F⟩
def laws_szWindowS.ctx (k : Nat) : Ctx := ⟨tds, [], k, 12⟩
theorem laws_szWindowS.runs : RunsT laws_szWindowS.sig laws_szWindowS.ctx Tryz.f52 laws_szWindowS.ann laws_szWindowS.F := fun k x => by kernel_rfl
theorem laws_szWindowS.obls : OblT tds laws_szWindowS.sig laws_szWindowS.ctx 1 Tryz.f52 laws_szWindowS.ann := fun k => ⟨tr, ⟨tr, ⟨⟨tr, ⟨⟨tr, tr⟩, tr⟩⟩, ⟨tr, tr⟩⟩⟩⟩
theorem laws_szWindowS.ok (k : Nat) : EntOk Tryz.prog k laws_szWindowS.ent := fn_ok (C := laws_szWindowS.ctx k) Tryz.func52 (by kernel_rfl) (by kernel_rfl) mixed tdsOk EntsOk.nil (by kernel_rfl) (leB (by kernel_rfl)) (by kernel_rfl) (laws_szWindowS.runs k) (laws_szWindowS.obls k)
/-! loop.example/g00200/laws.szPortS -/
def laws_szPortS.f (k : Nat) (a0 : De5) (a1 : Int) : Option (Int) :=
  if (w64 (a1 - (a0.length : Int))) < 0 then (some (-1)) else (some (w64 (a1 - (a0.length : Int))))
def laws_szPortS.sig : Sig := ⟨[.val false (.sl 185 Ty5) [0], .val false TyI []], [.val false TyI []]⟩
def laws_szPortS.F : FT laws_szPortS.sig := fun k x => laws_szPortS.f k x.1 x.2.1
def laws_szPortS.ann : AT laws_szPortS.sig := fun k => .nil
def laws_szPortS.ent : Ent := ⟨53, laws_szPortS.sig, laws_szPortS.F⟩
def laws_szPortS.ctx (k : Nat) : Ctx := ⟨tds, [], k, 12⟩
theorem laws_szPortS.runs : RunsT laws_szPortS.sig laws_szPortS.ctx Tryz.f53 laws_szPortS.ann laws_szPortS.F := fun k x => by kernel_rfl
theorem laws_szPortS.obls : OblT tds laws_szPortS.sig laws_szPortS.ctx 1 Tryz.f53 laws_szPortS.ann := fun k => ⟨tr, ⟨tr, ⟨⟨tr, ⟨⟨tr, tr⟩, tr⟩⟩, ⟨tr, tr⟩⟩⟩⟩
theorem laws_szPortS.ok (k : Nat) : EntOk Tryz.prog k laws_szPortS.ent := fn_ok (C := laws_szPortS.ctx k) Tryz.func53 (by kernel_rfl) (by kernel_rfl) mixed tdsOk EntsOk.nil (by kernel_rfl) (leB (by kernel_rfl)) (by kernel_rfl) (laws_szPortS.runs k) (laws_szPortS.obls k)
/-! loop.example/g00200/laws.szRuleS -/
def laws_szRuleS.f (k : Nat) (a0 : De3) (a1 : Int) : Option (Int) :=
  if (w64 (a1 - (a0.length : Int))) < 0 then (some (-1)) else (some (w64 (a1 - (a0.length : Int))))
def laws_szRuleS.sig : Sig := ⟨[.val false (.sl 189 Ty3) [0], .val false TyI []], [.val false TyI []]⟩
def laws_szRuleS.F : FT laws_szRuleS.sig := fun k x => laws_szRuleS.f k x.1 x.2.1
def laws_szRuleS.ann : AT laws_szRuleS.sig := fun k => .nil
def laws_szRuleS.ent : Ent := ⟨54, laws_szRuleS.sig, laws_szRuleS.F⟩
def laws_szRuleS.ctx (k : Nat) : Ctx := ⟨tds, [], k, 12⟩
theorem laws_szRuleS.runs : RunsT laws_szRuleS.sig laws_szRuleS.ctx Tryz.f54 laws_szRuleS.ann laws_szRuleS.F := fun k x => by kernel_rfl
theorem laws_szRuleS.obls : OblT tds laws_szRuleS.sig laws_szRuleS.ctx 1 Tryz.f54 laws_szRuleS.ann := fun k => ⟨tr, ⟨tr, ⟨⟨tr, ⟨⟨tr, tr⟩, tr⟩⟩, ⟨tr, tr⟩⟩⟩⟩
theorem laws_szRuleS.ok (k : Nat) : EntOk Tryz.prog k laws_szRuleS.ent := fn_ok (C := laws_szRuleS.ctx k) Tryz.func54 (by kernel_rfl) (by kernel_rfl) mixed tdsOk EntsOk.nil (by kernel_rfl) (leB (by kernel_rfl)) (by kernel_rfl) (laws_szRuleS.runs k) (laws_szRuleS.obls k)
/-! loop.example/g00200/laws.szStringS -/
def laws_szStringS.l1 (k : Nat)  : Nat → Int × Int × DeB × Unit → Option (Int)
  | 0, _ => none
  | n + 1, (x1, x2, x3, _) => if x2 < (x3.length : Int) then (if 0 ≤ x2 then (if x2 < (x3.length : Int) then (if (w64 (x1 - ((el .str x3 x2.toNat).size : Int))) < 0 then (some (-1)) else (laws_szStringS.l1 k n (w64 (x1 - ((el .str x3 x2.toNat).size : Int)), w64 (x2 + 1), x3, ()))) else none) else none) else (some x1)
def laws_szStringS.f (k : Nat) (a0 : DeB) (a1 : Int) : Option (Int) :=
  if (w64 (a1 - (a0.length : Int))) < 0 then (some (-1)) else (laws_szStringS.l1 k k (w64 (a1 - (a0.length : Int)), 0, a0, ()))
def laws_szStringS.Sl1 : Shape := ⟨[(0, false, [.own 0]), (1, false, [.int .i64]), (5, false, [.int .i64])], [(0, .view false 9 .str)], 1⟩
def laws_szStringS.sig : Sig := ⟨[.val false (.sl 9 .str) [0], .val false TyI []], [.val false TyI []]⟩
def laws_szStringS.F : FT laws_szStringS.sig := fun k x => laws_szStringS.f k x.1 x.2.1
def laws_szStringS.ann : AT laws_szStringS.sig := fun k => (.seq .nil (.seq .nil (.seq .nil (.seq (.seq .nil (.block (.loop laws_szStringS.Sl1 (laws_szStringS.l1 k) fun n1 => .nil))) .nil))))
def laws_szStringS.ent : Ent := ⟨55, laws_szStringS.sig, laws_szStringS.F⟩
def laws_szStringS.ctx (k : Nat) : Ctx := ⟨tds, [], k, 28⟩
theorem laws_szStringS.runs : RunsT laws_szStringS.sig laws_szStringS.ctx Tryz.f55 laws_szStringS.ann laws_szStringS.F := fun k x => by kernel_rfl
theorem laws_szStringS.obls : OblT tds laws_szStringS.sig laws_szStringS.ctx 1 Tryz.f55 laws_szStringS.ann := fun k => ⟨tr, ⟨tr, ⟨⟨tr, ⟨⟨tr, tr⟩, tr⟩⟩, ⟨⟨tr, ⟨⟨by kernel_rfl, fun x => by kernel_rfl⟩, fun n => ⟨fun x => by kernel_rfl, ⟨⟨tr, ⟨tr, tr⟩⟩, ⟨⟨tr, ⟨tr, ⟨⟨tr, tr⟩, tr⟩⟩⟩, tr⟩⟩⟩⟩⟩, ⟨tr, tr⟩⟩⟩⟩⟩
theorem laws_szStringS.ok (k : Nat) : EntOk Tryz.prog k laws_szStringS.ent := fn_ok (C := laws_szStringS.ctx k) Tryz.func55 (by kernel_rfl) (by kernel_rfl) mixed tdsOk EntsOk.nil (by kernel_rfl) (leB (by kernel_rfl)) (by kernel_rfl) (laws_szStringS.runs k) (laws_szStringS.obls k)
/-! loop.example/g00200/laws.szSetup -/
def laws_szSetup.f (k : Nat) (a0 : De2 × De2 × De5 × De3 × DeB) (a1 : Int) : Option (Int) :=
  (laws_szRegionS.f k a0.1 a1).bind fun t1 => (if t1 < 0 then (some (-1)) else ((laws_szWindowS.f k a0.2.1 t1).bind fun t2 => (if t2 < 0 then (some (-1)) else ((laws_szPortS.f k a0.2.2.1 t2).bind fun t3 => (if t3 < 0 then (some (-1)) else ((laws_szRuleS.f k a0.2.2.2.1 t3).bind fun t4 => (if t4 < 0 then (some (-1)) else ((laws_szStringS.f k a0.2.2.2.2 t4).bind fun t5 => (if t5 < 0 then (some (-1)) else (some t5))))))))))
def laws_szSetup.sig : Sig := ⟨[.val true (.pair (.sl 179 Ty2) (.pair (.sl 183 Ty2) (.pair (.sl 185 Ty5) (.pair (.sl 189 Ty3) (.sl 9 .str))))) [0, 0, 0, 0, 0], .val false TyI []], [.val false TyI []]⟩
def laws_szSetup.F : FT laws_szSetup.sig := fun k x => laws_szSetup.f k x.1 x.2.1
def laws_szSetup.ann : AT laws_szSetup.sig := fun k => .nil
def laws_szSetup.ent : Ent := ⟨14, laws_szSetup.sig, laws_szSetup.F⟩
def laws_szSetup.ctx (k : Nat) : Ctx := ⟨tds, [laws_szRegionS.ent, laws_szWindowS.ent, laws_szPortS.ent, laws_szRuleS.ent, laws_szStringS.ent], k, 36⟩
theorem laws_szSetup.runs : RunsT laws_szSetup.sig laws_szSetup.ctx Tryz.f14 laws_szSetup.ann laws_szSetup.F := fun k x => by kernel_rfl
theorem laws_szSetup.obls : OblT tds laws_szSetup.sig laws_szSetup.ctx 5 Tryz.f14 laws_szSetup.ann := fun k => ⟨tr, ⟨tr, ⟨⟨tr, ⟨⟨tr, tr⟩, tr⟩⟩, ⟨tr, ⟨⟨tr, ⟨⟨tr, tr⟩, tr⟩⟩, ⟨tr, ⟨⟨tr, ⟨⟨tr, tr⟩, tr⟩⟩, ⟨tr, ⟨⟨tr, ⟨⟨tr, tr⟩, tr⟩⟩, ⟨tr, ⟨⟨tr, ⟨⟨tr, tr⟩, tr⟩⟩, ⟨tr, tr⟩⟩⟩⟩⟩⟩⟩⟩⟩⟩⟩⟩
theorem laws_szSetup.ok (k : Nat) : EntOk Tryz.prog k laws_szSetup.ent := fn_ok (C := laws_szSetup.ctx k) Tryz.func14 (by kernel_rfl) (by kernel_rfl) mixed tdsOk (.cons (laws_szRegionS.ok k) (.cons (laws_szWindowS.ok k) (.cons (laws_szPortS.ok k) (.cons (laws_szRuleS.ok k) (.cons (laws_szStringS.ok k) EntsOk.nil))))) (by kernel_rfl) (leB (by kernel_rfl)) (by kernel_rfl) (laws_szSetup.runs k) (laws_szSetup.obls k)
/-! loop.example/g00200/laws.szIntS -/
def laws_szIntS.f (k : Nat) (a0 : DeI) (a1 : Int) : Option (Int) :=
  if (w64 (a1 - (a0.length : Int))) < 0 then (some (-1)) else (some (w64 (a1 - (a0.length : Int))))
def laws_szIntS.sig : Sig := ⟨[.val false (.sl 3 TyI) [0], .val false TyI []], [.val false TyI []]⟩
def laws_szIntS.F : FT laws_szIntS.sig := fun k x => laws_szIntS.f k x.1 x.2.1
def laws_szIntS.ann : AT laws_szIntS.sig := fun k => .nil
def laws_szIntS.ent : Ent := ⟨18, laws_szIntS.sig, laws_szIntS.F⟩
def laws_szIntS.ctx (k : Nat) : Ctx := ⟨tds, [], k, 12⟩
theorem laws_szIntS.runs : RunsT laws_szIntS.sig laws_szIntS.ctx Tryz.f18 laws_szIntS.ann laws_szIntS.F := fun k x => by kernel_rfl
theorem laws_szIntS.obls : OblT tds laws_szIntS.sig laws_szIntS.ctx 1 Tryz.f18 laws_szIntS.ann := fun k => ⟨tr, ⟨tr, ⟨⟨tr, ⟨⟨tr, tr⟩, tr⟩⟩, ⟨tr, tr⟩⟩⟩⟩
theorem laws_szIntS.ok (k : Nat) : EntOk Tryz.prog k laws_szIntS.ent := fn_ok (C := laws_szIntS.ctx k) Tryz.func18 (by kernel_rfl) (by kernel_rfl) mixed tdsOk EntsOk.nil (by kernel_rfl) (leB (by kernel_rfl)) (by kernel_rfl) (laws_szIntS.runs k) (laws_szIntS.obls k)
/-! loop.example/g00200/laws.szArena -/
def laws_szArena.f (k : Nat) (a0 : DeI) (a1 : Int) : Option (Int) :=
  (laws_szIntS.f k a0 a1).bind fun t1 => (if t1 < 0 then (some (-1)) else (some t1))
def laws_szArena.sig : Sig := ⟨[.val true (.sl 3 TyI) [0], .val false TyI []], [.val false TyI []]⟩
def laws_szArena.F : FT laws_szArena.sig := fun k x => laws_szArena.f k x.1 x.2.1
def laws_szArena.ann : AT laws_szArena.sig := fun k => .nil
def laws_szArena.ent : Ent := ⟨15, laws_szArena.sig, laws_szArena.F⟩
def laws_szArena.ctx (k : Nat) : Ctx := ⟨tds, [laws_szIntS.ent], k, 12⟩
theorem laws_szArena.runs : RunsT laws_szArena.sig laws_szArena.ctx Tryz.f15 laws_szArena.ann laws_szArena.F := fun k x => by kernel_rfl
theorem laws_szArena.obls : OblT tds laws_szArena.sig laws_szArena.ctx 1 Tryz.f15 laws_szArena.ann := fun k => ⟨tr, ⟨tr, ⟨⟨tr, ⟨⟨tr, tr⟩, tr⟩⟩, ⟨tr, tr⟩⟩⟩⟩
theorem laws_szArena.ok (k : Nat) : EntOk Tryz.prog k laws_szArena.ent := fn_ok (C := laws_szArena.ctx k) Tryz.func15 (by kernel_rfl) (by kernel_rfl) mixed tdsOk (.cons (laws_szIntS.ok k) EntsOk.nil) (by kernel_rfl) (leB (by kernel_rfl)) (by kernel_rfl) (laws_szArena.runs k) (laws_szArena.obls k)
/-! loop.example/g00200/laws.szCpu -/
def laws_szCpu.f (k : Nat) (a0 : Int × DeI) (a1 : Int) : Option (Int) :=
  (laws_szIntS.f k a0.2 a1).bind fun t1 => (if t1 < 0 then (some (-1)) else (some t1))
def laws_szCpu.sig : Sig := ⟨[.val true (.pair TyI (.sl 3 TyI)) [0], .val false TyI []], [.val false TyI []]⟩
def laws_szCpu.F : FT laws_szCpu.sig := fun k x => laws_szCpu.f k x.1 x.2.1
def laws_szCpu.ann : AT laws_szCpu.sig := fun k => .nil
def laws_szCpu.ent : Ent := ⟨110, laws_szCpu.sig, laws_szCpu.F⟩
def laws_szCpu.ctx (k : Nat) : Ctx := ⟨tds, [laws_szIntS.ent], k, 12⟩
theorem laws_szCpu.runs : RunsT laws_szCpu.sig laws_szCpu.ctx Tryz.f110 laws_szCpu.ann laws_szCpu.F := fun k x => by kernel_rfl
theorem laws_szCpu.obls : OblT tds laws_szCpu.sig laws_szCpu.ctx 1 Tryz.f110 laws_szCpu.ann := fun k => ⟨tr, ⟨tr, ⟨⟨tr, ⟨⟨tr, tr⟩, tr⟩⟩, ⟨tr, tr⟩⟩⟩⟩
theorem laws_szCpu.ok (k : Nat) : EntOk Tryz.prog k laws_szCpu.ent := fn_ok (C := laws_szCpu.ctx k) Tryz.func110 (by kernel_rfl) (by kernel_rfl) mixed tdsOk (.cons (laws_szIntS.ok k) EntsOk.nil) (by kernel_rfl) (leB (by kernel_rfl)) (by kernel_rfl) (laws_szCpu.runs k) (laws_szCpu.obls k)
/-! loop.example/g00200/laws.szPart -/
def laws_szPart.f (k : Nat) (a0 : Int × (Int × DeI) × Int × Int × Int) (a1 : Int) : Option (Int) :=
  (laws_szCpu.f k a0.2.1 a1).bind fun t1 => (if t1 < 0 then (some (-1)) else (some t1))
def laws_szPart.sig : Sig := ⟨[.val true TyP [0], .val false TyI []], [.val false TyI []]⟩
def laws_szPart.F : FT laws_szPart.sig := fun k x => laws_szPart.f k x.1 x.2.1
def laws_szPart.ann : AT laws_szPart.sig := fun k => .nil
def laws_szPart.ent : Ent := ⟨56, laws_szPart.sig, laws_szPart.F⟩
def laws_szPart.ctx (k : Nat) : Ctx := ⟨tds, [laws_szCpu.ent], k, 12⟩
theorem laws_szPart.runs : RunsT laws_szPart.sig laws_szPart.ctx Tryz.f56 laws_szPart.ann laws_szPart.F := fun k x => by kernel_rfl
theorem laws_szPart.obls : OblT tds laws_szPart.sig laws_szPart.ctx 1 Tryz.f56 laws_szPart.ann := fun k => ⟨tr, ⟨tr, ⟨⟨tr, ⟨⟨tr, tr⟩, tr⟩⟩, ⟨tr, tr⟩⟩⟩⟩
theorem laws_szPart.ok (k : Nat) : EntOk Tryz.prog k laws_szPart.ent := fn_ok (C := laws_szPart.ctx k) Tryz.func56 (by kernel_rfl) (by kernel_rfl) mixed tdsOk (.cons (laws_szCpu.ok k) EntsOk.nil) (by kernel_rfl) (leB (by kernel_rfl)) (by kernel_rfl) (laws_szPart.runs k) (laws_szPart.obls k)
/-! loop.example/g00200/laws.szPartS -/
def laws_szPartS.l1 (k : Nat)  : Nat → Int × Int × DeP × Unit → Option (Int)
  | 0, _ => none
  | n + 1, (x1, x2, x3, _) => if x2 < (x3.length : Int) then (if 0 ≤ x2 then (if x2 < (x3.length : Int) then ((laws_szPart.f k ((el TyP x3 x2.toNat).1, ((((el TyP x3 x2.toNat).2).1), ((((el TyP x3 x2.toNat).2).2).1, ((((el TyP x3 x2.toNat).2).2).2)))) x1).bind fun t1 => (if t1 < 0 then (some (-1)) else (laws_szPartS.l1 k n (t1, w64 (x2 + 1), x3, ())))) else none) else none) else (some x1)
def laws_szPartS.f (k : Nat) (a0 : DeP) (a1 : Int) : Option (Int) :=
  if (w64 (a1 - (a0.length : Int))) < 0 then (some (-1)) else (laws_szPartS.l1 k k (w64 (a1 - (a0.length : Int)), 0, a0, ()))
def laws_szPartS.Sl1 : Shape := ⟨[(0, false, [.own 0]), (1, false, [.int .i64]), (5, false, [.int .i64])], [(0, .view false 105 TyP)], 1⟩
def laws_szPartS.sig : Sig := ⟨[.val false (.sl 105 TyP) [0], .val false TyI []], [.val false TyI []]⟩
def laws_szPartS.F : FT laws_szPartS.sig := fun k x => laws_szPartS.f k x.1 x.2.1
def laws_szPartS.ann : AT laws_szPartS.sig := fun k => (.seq .nil (.seq .nil (.seq .nil (.seq (.seq .nil (.block (.loop laws_szPartS.Sl1 (laws_szPartS.l1 k) fun n1 => .nil))) .nil))))
def laws_szPartS.ent : Ent := ⟨16, laws_szPartS.sig, laws_szPartS.F⟩
def laws_szPartS.ctx (k : Nat) : Ctx := ⟨tds, [laws_szPart.ent], k, 27⟩
theorem laws_szPartS.runs : RunsT laws_szPartS.sig laws_szPartS.ctx Tryz.f16 laws_szPartS.ann laws_szPartS.F := fun k x => by kernel_rfl
theorem laws_szPartS.obls : OblT tds laws_szPartS.sig laws_szPartS.ctx 1 Tryz.f16 laws_szPartS.ann := fun k => ⟨tr, ⟨tr, ⟨⟨tr, ⟨⟨tr, tr⟩, tr⟩⟩, ⟨⟨tr, ⟨⟨by kernel_rfl, fun x => by kernel_rfl⟩, fun n => ⟨fun x => by kernel_rfl, ⟨⟨tr, ⟨tr, tr⟩⟩, ⟨⟨tr, ⟨tr, ⟨⟨tr, tr⟩, tr⟩⟩⟩, tr⟩⟩⟩⟩⟩, ⟨tr, tr⟩⟩⟩⟩⟩
theorem laws_szPartS.ok (k : Nat) : EntOk Tryz.prog k laws_szPartS.ent := fn_ok (C := laws_szPartS.ctx k) Tryz.func16 (by kernel_rfl) (by kernel_rfl) mixed tdsOk (.cons (laws_szPart.ok k) EntsOk.nil) (by kernel_rfl) (leB (by kernel_rfl)) (by kernel_rfl) (laws_szPartS.runs k) (laws_szPartS.obls k)
/-! loop.example/g00200/laws.szMsgS -/
def laws_szMsgS.f (k : Nat) (a0 : De2) (a1 : Int) : Option (Int) :=
  if (w64 (a1 - (a0.length : Int))) < 0 then (some (-1)) else (some (w64 (a1 - (a0.length : Int))))
def laws_szMsgS.sig : Sig := ⟨[.val false (.sl 212 Ty2) [0], .val false TyI []], [.val false TyI []]⟩
def laws_szMsgS.F : FT laws_szMsgS.sig := fun k x => laws_szMsgS.f k x.1 x.2.1
def laws_szMsgS.ann : AT laws_szMsgS.sig := fun k => .nil
def laws_szMsgS.ent : Ent := ⟨111, laws_szMsgS.sig, laws_szMsgS.F⟩
def laws_szMsgS.ctx (k : Nat) : Ctx := ⟨tds, [], k, 12⟩
theorem laws_szMsgS.runs : RunsT laws_szMsgS.sig laws_szMsgS.ctx Tryz.f111 laws_szMsgS.ann laws_szMsgS.F := fun k x => by kernel_rfl
theorem laws_szMsgS.obls : OblT tds laws_szMsgS.sig laws_szMsgS.ctx 1 Tryz.f111 laws_szMsgS.ann := fun k => ⟨tr, ⟨tr, ⟨⟨tr, ⟨⟨tr, tr⟩, tr⟩⟩, ⟨tr, tr⟩⟩⟩⟩
theorem laws_szMsgS.ok (k : Nat) : EntOk Tryz.prog k laws_szMsgS.ent := fn_ok (C := laws_szMsgS.ctx k) Tryz.func111 (by kernel_rfl) (by kernel_rfl) mixed tdsOk EntsOk.nil (by kernel_rfl) (leB (by kernel_rfl)) (by kernel_rfl) (laws_szMsgS.runs k) (laws_szMsgS.obls k)
/-! loop.example/g00200/laws.szLine -/
def laws_szLine.f (k : Nat) (a0 : De2) (a1 : Int) : Option (Int) :=
  (laws_szMsgS.f k a0 a1).bind fun t1 => (if t1 < 0 then (some (-1)) else (some t1))
def laws_szLine.sig : Sig := ⟨[.val true (.sl 212 Ty2) [0], .val false TyI []], [.val false TyI []]⟩
def laws_szLine.F : FT laws_szLine.sig := fun k x => laws_szLine.f k x.1 x.2.1
def laws_szLine.ann : AT laws_szLine.sig := fun k => .nil
def laws_szLine.ent : Ent := ⟨57, laws_szLine.sig, laws_szLine.F⟩
def laws_szLine.ctx (k : Nat) : Ctx := ⟨tds, [laws_szMsgS.ent], k, 12⟩
theorem laws_szLine.runs : RunsT laws_szLine.sig laws_szLine.ctx Tryz.f57 laws_szLine.ann laws_szLine.F := fun k x => by kernel_rfl
theorem laws_szLine.obls : OblT tds laws_szLine.sig laws_szLine.ctx 1 Tryz.f57 laws_szLine.ann := fun k => ⟨tr, ⟨tr, ⟨⟨tr, ⟨⟨tr, tr⟩, tr⟩⟩, ⟨tr, tr⟩⟩⟩⟩
theorem laws_szLine.ok (k : Nat) : EntOk Tryz.prog k laws_szLine.ent := fn_ok (C := laws_szLine.ctx k) Tryz.func57 (by kernel_rfl) (by kernel_rfl) mixed tdsOk (.cons (laws_szMsgS.ok k) EntsOk.nil) (by kernel_rfl) (leB (by kernel_rfl)) (by kernel_rfl) (laws_szLine.runs k) (laws_szLine.obls k)
/-! loop.example/g00200/laws.szLineS -/
def laws_szLineS.l1 (k : Nat)  : Nat → Int × Int × DeL × Unit → Option (Int)
  | 0, _ => none
  | n + 1, (x1, x2, x3, _) => if x2 < (x3.length : Int) then (if 0 ≤ x2 then (if x2 < (x3.length : Int) then ((laws_szLine.f k (el (.sl 212 Ty2) x3 x2.toNat) x1).bind fun t1 => (if t1 < 0 then (some (-1)) else (laws_szLineS.l1 k n (t1, w64 (x2 + 1), x3, ())))) else none) else none) else (some x1)
def laws_szLineS.f (k : Nat) (a0 : DeL) (a1 : Int) : Option (Int) :=
  if (w64 (a1 - (a0.length : Int))) < 0 then (some (-1)) else (laws_szLineS.l1 k k (w64 (a1 - (a0.length : Int)), 0, a0, ()))
def laws_szLineS.Sl1 : Shape := ⟨[(0, false, [.own 0]), (1, false, [.int .i64]), (5, false, [.int .i64])], [(0, .view false 109 (.sl 212 Ty2))], 1⟩
def laws_szLineS.sig : Sig := ⟨[.val false (.sl 109 (.sl 212 Ty2)) [0], .val false TyI []], [.val false TyI []]⟩
def laws_szLineS.F : FT laws_szLineS.sig := fun k x => laws_szLineS.f k x.1 x.2.1
def laws_szLineS.ann : AT laws_szLineS.sig := fun k => (.seq .nil (.seq .nil (.seq .nil (.seq (.seq .nil (.block (.loop laws_szLineS.Sl1 (laws_szLineS.l1 k) fun n1 => .nil))) .nil))))
def laws_szLineS.ent : Ent := ⟨17, laws_szLineS.sig, laws_szLineS.F⟩
def laws_szLineS.ctx (k : Nat) : Ctx := ⟨tds, [laws_szLine.ent], k, 27⟩
theorem laws_szLineS.runs : RunsT laws_szLineS.sig laws_szLineS.ctx Tryz.f17 laws_szLineS.ann laws_szLineS.F := fun k x => by kernel_rfl
theorem laws_szLineS.obls : OblT tds laws_szLineS.sig laws_szLineS.ctx 1 Tryz.f17 laws_szLineS.ann := fun k => ⟨tr, ⟨tr, ⟨⟨tr, ⟨⟨tr, tr⟩, tr⟩⟩, ⟨⟨tr, ⟨⟨by kernel_rfl, fun x => by kernel_rfl⟩, fun n => ⟨fun x => by kernel_rfl, ⟨⟨tr, ⟨tr, tr⟩⟩, ⟨⟨tr, ⟨tr, ⟨⟨tr, tr⟩, tr⟩⟩⟩, tr⟩⟩⟩⟩⟩, ⟨tr, tr⟩⟩⟩⟩⟩
theorem laws_szLineS.ok (k : Nat) : EntOk Tryz.prog k laws_szLineS.ent := fn_ok (C := laws_szLineS.ctx k) Tryz.func17 (by kernel_rfl) (by kernel_rfl) mixed tdsOk (.cons (laws_szLine.ok k) EntsOk.nil) (by kernel_rfl) (leB (by kernel_rfl)) (by kernel_rfl) (laws_szLineS.runs k) (laws_szLineS.obls k)
/-! loop.example/g00200/laws.szEntryS -/
def laws_szEntryS.f (k : Nat) (a0 : De5) (a1 : Int) : Option (Int) :=
  if (w64 (a1 - (a0.length : Int))) < 0 then (some (-1)) else (some (w64 (a1 - (a0.length : Int))))
def laws_szEntryS.sig : Sig := ⟨[.val false (.sl 142 Ty5) [0], .val false TyI []], [.val false TyI []]⟩
def laws_szEntryS.F : FT laws_szEntryS.sig := fun k x => laws_szEntryS.f k x.1 x.2.1
def laws_szEntryS.ann : AT laws_szEntryS.sig := fun k => .nil
def laws_szEntryS.ent : Ent := ⟨19, laws_szEntryS.sig, laws_szEntryS.F⟩
def laws_szEntryS.ctx (k : Nat) : Ctx := ⟨tds, [], k, 12⟩
theorem laws_szEntryS.runs : RunsT laws_szEntryS.sig laws_szEntryS.ctx Tryz.f19 laws_szEntryS.ann laws_szEntryS.F := fun k x => by kernel_rfl
theorem laws_szEntryS.obls : OblT tds laws_szEntryS.sig laws_szEntryS.ctx 1 Tryz.f19 laws_szEntryS.ann := fun k => ⟨tr, ⟨tr, ⟨⟨tr, ⟨⟨tr, tr⟩, tr⟩⟩, ⟨tr, tr⟩⟩⟩⟩
theorem laws_szEntryS.ok (k : Nat) : EntOk Tryz.prog k laws_szEntryS.ent := fn_ok (C := laws_szEntryS.ctx k) Tryz.func19 (by kernel_rfl) (by kernel_rfl) mixed tdsOk EntsOk.nil (by kernel_rfl) (leB (by kernel_rfl)) (by kernel_rfl) (laws_szEntryS.runs k) (laws_szEntryS.obls k)
/-! loop.example/g00200/laws.szKernel -/
def laws_szKernel.f (k : Nat) (a0 : DeK) (a1 : Int) : Option (Int) :=
  (laws_szSetup.f k a0.1 a1).bind fun t1 => (if t1 < 0 then (some (-1)) else ((laws_szArena.f k a0.2.1 t1).bind fun t2 => (if t2 < 0 then (some (-1)) else ((laws_szPartS.f k a0.2.2.1 t2).bind fun t3 => (if t3 < 0 then (some (-1)) else ((laws_szLineS.f k a0.2.2.2.1 t3).bind fun t4 => (if t4 < 0 then (some (-1)) else ((laws_szIntS.f k a0.2.2.2.2.1 t4).bind fun t5 => (if t5 < 0 then (some (-1)) else ((laws_szEntryS.f k a0.2.2.2.2.2.2.2 t5).bind fun t6 => (if t6 < 0 then (some (-1)) else (some t6))))))))))))
def laws_szKernel.sig : Sig := ⟨[.val true (.pair (.pair (.sl 179 Ty2) (.pair (.sl 183 Ty2) (.pair (.sl 185 Ty5) (.pair (.sl 189 Ty3) (.sl 9 .str))))) (.pair (.sl 3 TyI) (.pair (.sl 105 TyP) (.pair (.sl 109 (.sl 212 Ty2)) (.pair (.sl 3 TyI) (.pair TyI (.pair .bool (.sl 142 Ty5)))))))) [0, 0, 0, 0, 0, 0, 0, 0, 0, 0], .val false TyI []], [.val false TyI []]⟩
def laws_szKernel.F : FT laws_szKernel.sig := fun k x => laws_szKernel.f k x.1 x.2.1
def laws_szKernel.ann : AT laws_szKernel.sig := fun k => .nil
def laws_szKernel.ent : Ent := ⟨4, laws_szKernel.sig, laws_szKernel.F⟩
def laws_szKernel.ctx (k : Nat) : Ctx := ⟨tds, [laws_szSetup.ent, laws_szArena.ent, laws_szPartS.ent, laws_szLineS.ent, laws_szIntS.ent, laws_szEntryS.ent], k, 42⟩
theorem laws_szKernel.runs : RunsT laws_szKernel.sig laws_szKernel.ctx Tryz.f4 laws_szKernel.ann laws_szKernel.F := fun k x => by kernel_rfl
theorem laws_szKernel.obls : OblT tds laws_szKernel.sig laws_szKernel.ctx 10 Tryz.f4 laws_szKernel.ann := fun k => ⟨tr, ⟨tr, ⟨⟨tr, ⟨⟨tr, tr⟩, tr⟩⟩, ⟨tr, ⟨⟨tr, ⟨⟨tr, tr⟩, tr⟩⟩, ⟨tr, ⟨⟨tr, ⟨⟨tr, tr⟩, tr⟩⟩, ⟨tr, ⟨⟨tr, ⟨⟨tr, tr⟩, tr⟩⟩, ⟨tr, ⟨⟨tr, ⟨⟨tr, tr⟩, tr⟩⟩, ⟨tr, ⟨⟨tr, ⟨⟨tr, tr⟩, tr⟩⟩, ⟨tr, tr⟩⟩⟩⟩⟩⟩⟩⟩⟩⟩⟩⟩⟩⟩
theorem laws_szKernel.ok (k : Nat) : EntOk Tryz.prog k laws_szKernel.ent := fn_ok (C := laws_szKernel.ctx k) Tryz.func4 (by kernel_rfl) (by kernel_rfl) mixed tdsOk (.cons (laws_szSetup.ok k) (.cons (laws_szArena.ok k) (.cons (laws_szPartS.ok k) (.cons (laws_szLineS.ok k) (.cons (laws_szIntS.ok k) (.cons (laws_szEntryS.ok k) EntsOk.nil)))))) (by kernel_rfl) (leB (by kernel_rfl)) (by kernel_rfl) (laws_szKernel.runs k) (laws_szKernel.obls k)
/-! loop.example/g00200/laws.toRegion -/
def laws_toRegion.f (k : Nat) (a0 : Int × Int) : Option (Int × Int) :=
  some a0
def laws_toRegion.sig : Sig := ⟨[.val true Ty2 []], [.val true Ty2 []]⟩
def laws_toRegion.F : FT laws_toRegion.sig := fun k x => laws_toRegion.f k x.1
def laws_toRegion.ann : AT laws_toRegion.sig := fun k => .nil
def laws_toRegion.ent : Ent := ⟨125, laws_toRegion.sig, laws_toRegion.F⟩
def laws_toRegion.ctx (k : Nat) : Ctx := ⟨tds, [], k, 11⟩
theorem laws_toRegion.runs : RunsT laws_toRegion.sig laws_toRegion.ctx Tryz.f125 laws_toRegion.ann laws_toRegion.F := fun k x => by kernel_rfl
theorem laws_toRegion.obls : OblT tds laws_toRegion.sig laws_toRegion.ctx 0 Tryz.f125 laws_toRegion.ann := fun k => ⟨tr, ⟨tr, ⟨tr, ⟨tr, ⟨tr, tr⟩⟩⟩⟩⟩
theorem laws_toRegion.ok (k : Nat) : EntOk Tryz.prog k laws_toRegion.ent := fn_ok (C := laws_toRegion.ctx k) Tryz.func125 (by kernel_rfl) (by kernel_rfl) mixed tdsOk EntsOk.nil (by kernel_rfl) (leB (by kernel_rfl)) (by kernel_rfl) (laws_toRegion.runs k) (laws_toRegion.obls k)
/-! loop.example/g00200/laws.toRegionS -/
def laws_toRegionS.l1 (k : Nat)  : Nat → Int × De2 × De2 × Unit → Option De2
  | 0, _ => none
  | n + 1, (x1, x2, x3, _) => if x1 < (x2.length : Int) then (if 0 ≤ x1 then (if x1 < (x2.length : Int) then ((laws_toRegion.f k (el Ty2 x2 x1.toNat)).bind fun t2 => (if 0 ≤ x1 then (if x1 < (x3.length : Int) then (((some (x3.set x1.toNat t2))).bind fun y3 => (laws_toRegionS.l1 k n (w64 (x1 + 1), x2, y3, ()))) else none) else none)) else none) else none) else (some x3)
def laws_toRegionS.f (k : Nat) (a0 : De2) : Option De2 :=
  if (a0.length : Int) = (a0.length : Int) then (if 0 ≤ (a0.length : Int) then (if ((a0.length : Int)).toNat * 16 ≤ 281474976710656 then (((some (List.replicate ((a0.length : Int)).toNat (0, 0) : De2))).bind fun y1 => (laws_toRegionS.l1 k k (0, a0, y1, ()))) else none) else none) else none
def laws_toRegionS.Sl1 : Shape := ⟨[(0, false, [.own 0]), (3, false, [.own 1]), (4, false, [.int .i64])], [(0, .view false 179 Ty2), (1, .row 127 Ty2)], 2⟩
def laws_toRegionS.sig : Sig := ⟨[.val false (.sl 179 Ty2) [0]], [.val false (.sl 127 Ty2) [none]]⟩
def laws_toRegionS.F : FT laws_toRegionS.sig := fun k x => laws_toRegionS.f k x.1
def laws_toRegionS.ann : AT laws_toRegionS.sig := fun k => (.seq .nil (.seq .nil (.seq (.seq .nil (.block (.loop laws_toRegionS.Sl1 (laws_toRegionS.l1 k) fun n1 => .nil))) .nil)))
def laws_toRegionS.ent : Ent := ⟨69, laws_toRegionS.sig, laws_toRegionS.F⟩
def laws_toRegionS.ctx (k : Nat) : Ctx := ⟨tds, [laws_toRegion.ent], k, 23⟩
theorem laws_toRegionS.runs : RunsT laws_toRegionS.sig laws_toRegionS.ctx Tryz.f69 laws_toRegionS.ann laws_toRegionS.F := fun k x => by kernel_rfl
theorem laws_toRegionS.obls : OblT tds laws_toRegionS.sig laws_toRegionS.ctx 1 Tryz.f69 laws_toRegionS.ann := fun k => ⟨tr, ⟨tr, ⟨⟨tr, ⟨⟨by kernel_rfl, fun x => by kernel_rfl⟩, fun n => ⟨fun x => by kernel_rfl, ⟨⟨tr, ⟨tr, tr⟩⟩, ⟨tr, tr⟩⟩⟩⟩⟩, ⟨tr, tr⟩⟩⟩⟩
theorem laws_toRegionS.ok (k : Nat) : EntOk Tryz.prog k laws_toRegionS.ent := fn_ok (C := laws_toRegionS.ctx k) Tryz.func69 (by kernel_rfl) (by kernel_rfl) mixed tdsOk (.cons (laws_toRegion.ok k) EntsOk.nil) (by kernel_rfl) (leB (by kernel_rfl)) (by kernel_rfl) (laws_toRegionS.runs k) (laws_toRegionS.obls k)
/-! loop.example/g00200/laws.toWindow -/
def laws_toWindow.f (k : Nat) (a0 : Int × Int) : Option (Int × Int) :=
  some a0
def laws_toWindow.sig : Sig := ⟨[.val true Ty2 []], [.val true Ty2 []]⟩
def laws_toWindow.F : FT laws_toWindow.sig := fun k x => laws_toWindow.f k x.1
def laws_toWindow.ann : AT laws_toWindow.sig := fun k => .nil
def laws_toWindow.ent : Ent := ⟨126, laws_toWindow.sig, laws_toWindow.F⟩
def laws_toWindow.ctx (k : Nat) : Ctx := ⟨tds, [], k, 11⟩
theorem laws_toWindow.runs : RunsT laws_toWindow.sig laws_toWindow.ctx Tryz.f126 laws_toWindow.ann laws_toWindow.F := fun k x => by kernel_rfl
theorem laws_toWindow.obls : OblT tds laws_toWindow.sig laws_toWindow.ctx 0 Tryz.f126 laws_toWindow.ann := fun k => ⟨tr, ⟨tr, ⟨tr, ⟨tr, ⟨tr, tr⟩⟩⟩⟩⟩
theorem laws_toWindow.ok (k : Nat) : EntOk Tryz.prog k laws_toWindow.ent := fn_ok (C := laws_toWindow.ctx k) Tryz.func126 (by kernel_rfl) (by kernel_rfl) mixed tdsOk EntsOk.nil (by kernel_rfl) (leB (by kernel_rfl)) (by kernel_rfl) (laws_toWindow.runs k) (laws_toWindow.obls k)
/-! loop.example/g00200/laws.toWindowS -/
def laws_toWindowS.l1 (k : Nat)  : Nat → Int × De2 × De2 × Unit → Option De2
  | 0, _ => none
  | n + 1, (x1, x2, x3, _) => if x1 < (x2.length : Int) then (if 0 ≤ x1 then (if x1 < (x2.length : Int) then ((laws_toWindow.f k (el Ty2 x2 x1.toNat)).bind fun t2 => (if 0 ≤ x1 then (if x1 < (x3.length : Int) then (((some (x3.set x1.toNat t2))).bind fun y3 => (laws_toWindowS.l1 k n (w64 (x1 + 1), x2, y3, ()))) else none) else none)) else none) else none) else (some x3)
def laws_toWindowS.f (k : Nat) (a0 : De2) : Option De2 :=
  if (a0.length : Int) = (a0.length : Int) then (if 0 ≤ (a0.length : Int) then (if ((a0.length : Int)).toNat * 16 ≤ 281474976710656 then (((some (List.replicate ((a0.length : Int)).toNat (0, 0) : De2))).bind fun y1 => (laws_toWindowS.l1 k k (0, a0, y1, ()))) else none) else none) else none
def laws_toWindowS.Sl1 : Shape := ⟨[(0, false, [.own 0]), (3, false, [.own 1]), (4, false, [.int .i64])], [(0, .view false 183 Ty2), (1, .row 181 Ty2)], 2⟩
def laws_toWindowS.sig : Sig := ⟨[.val false (.sl 183 Ty2) [0]], [.val false (.sl 181 Ty2) [none]]⟩
def laws_toWindowS.F : FT laws_toWindowS.sig := fun k x => laws_toWindowS.f k x.1
def laws_toWindowS.ann : AT laws_toWindowS.sig := fun k => (.seq .nil (.seq .nil (.seq (.seq .nil (.block (.loop laws_toWindowS.Sl1 (laws_toWindowS.l1 k) fun n1 => .nil))) .nil)))
def laws_toWindowS.ent : Ent := ⟨70, laws_toWindowS.sig, laws_toWindowS.F⟩
def laws_toWindowS.ctx (k : Nat) : Ctx := ⟨tds, [laws_toWindow.ent], k, 23⟩
theorem laws_toWindowS.runs : RunsT laws_toWindowS.sig laws_toWindowS.ctx Tryz.f70 laws_toWindowS.ann laws_toWindowS.F := fun k x => by kernel_rfl
theorem laws_toWindowS.obls : OblT tds laws_toWindowS.sig laws_toWindowS.ctx 1 Tryz.f70 laws_toWindowS.ann := fun k => ⟨tr, ⟨tr, ⟨⟨tr, ⟨⟨by kernel_rfl, fun x => by kernel_rfl⟩, fun n => ⟨fun x => by kernel_rfl, ⟨⟨tr, ⟨tr, tr⟩⟩, ⟨tr, tr⟩⟩⟩⟩⟩, ⟨tr, tr⟩⟩⟩⟩
theorem laws_toWindowS.ok (k : Nat) : EntOk Tryz.prog k laws_toWindowS.ent := fn_ok (C := laws_toWindowS.ctx k) Tryz.func70 (by kernel_rfl) (by kernel_rfl) mixed tdsOk (.cons (laws_toWindow.ok k) EntsOk.nil) (by kernel_rfl) (leB (by kernel_rfl)) (by kernel_rfl) (laws_toWindowS.runs k) (laws_toWindowS.obls k)
/-! loop.example/g00200/laws.toPort -/
def laws_toPort.f (k : Nat) (a0 : Int × Int × Int × Int × Int) : Option (Int × Int × Int × Int × Int) :=
  some a0
def laws_toPort.sig : Sig := ⟨[.val true Ty5 []], [.val true Ty5 []]⟩
def laws_toPort.F : FT laws_toPort.sig := fun k x => laws_toPort.f k x.1
def laws_toPort.ann : AT laws_toPort.sig := fun k => .nil
def laws_toPort.ent : Ent := ⟨127, laws_toPort.sig, laws_toPort.F⟩
def laws_toPort.ctx (k : Nat) : Ctx := ⟨tds, [], k, 20⟩
theorem laws_toPort.runs : RunsT laws_toPort.sig laws_toPort.ctx Tryz.f127 laws_toPort.ann laws_toPort.F := fun k x => by kernel_rfl
theorem laws_toPort.obls : OblT tds laws_toPort.sig laws_toPort.ctx 0 Tryz.f127 laws_toPort.ann := fun k => ⟨tr, ⟨tr, ⟨tr, ⟨tr, ⟨tr, ⟨tr, ⟨tr, ⟨tr, tr⟩⟩⟩⟩⟩⟩⟩⟩
theorem laws_toPort.ok (k : Nat) : EntOk Tryz.prog k laws_toPort.ent := fn_ok (C := laws_toPort.ctx k) Tryz.func127 (by kernel_rfl) (by kernel_rfl) mixed tdsOk EntsOk.nil (by kernel_rfl) (leB (by kernel_rfl)) (by kernel_rfl) (laws_toPort.runs k) (laws_toPort.obls k)
/-! loop.example/g00200/laws.toPortS -/
def laws_toPortS.l1 (k : Nat)  : Nat → Int × De5 × De5 × Unit → Option De5
  | 0, _ => none
  | n + 1, (x1, x2, x3, _) => if x1 < (x2.length : Int) then (if 0 ≤ x1 then (if x1 < (x2.length : Int) then ((laws_toPort.f k ((el Ty5 x2 x1.toNat).1, (((el Ty5 x2 x1.toNat).2).1, ((((el Ty5 x2 x1.toNat).2).2).1, ((((el Ty5 x2 x1.toNat).2).2).2))))).bind fun t2 => (if 0 ≤ x1 then (if x1 < (x3.length : Int) then (((some (x3.set x1.toNat t2))).bind fun y3 => (laws_toPortS.l1 k n (w64 (x1 + 1), x2, y3, ()))) else none) else none)) else none) else none) else (some x3)
def laws_toPortS.f (k : Nat) (a0 : De5) : Option De5 :=
  if (a0.length : Int) = (a0.length : Int) then (if 0 ≤ (a0.length : Int) then (if ((a0.length : Int)).toNat * 40 ≤ 281474976710656 then (((some (List.replicate ((a0.length : Int)).toNat (0, (0, (0, (0, 0)))) : De5))).bind fun y1 => (laws_toPortS.l1 k k (0, a0, y1, ()))) else none) else none) else none
def laws_toPortS.Sl1 : Shape := ⟨[(0, false, [.own 0]), (3, false, [.own 1]), (4, false, [.int .i64])], [(0, .view false 185 Ty5), (1, .row 121 Ty5)], 2⟩
def laws_toPortS.sig : Sig := ⟨[.val false (.sl 185 Ty5) [0]], [.val false (.sl 121 Ty5) [none]]⟩
def laws_toPortS.F : FT laws_toPortS.sig := fun k x => laws_toPortS.f k x.1
def laws_toPortS.ann : AT laws_toPortS.sig := fun k => (.seq .nil (.seq .nil (.seq (.seq .nil (.block (.loop laws_toPortS.Sl1 (laws_toPortS.l1 k) fun n1 => .nil))) .nil)))
def laws_toPortS.ent : Ent := ⟨71, laws_toPortS.sig, laws_toPortS.F⟩
def laws_toPortS.ctx (k : Nat) : Ctx := ⟨tds, [laws_toPort.ent], k, 23⟩
theorem laws_toPortS.runs : RunsT laws_toPortS.sig laws_toPortS.ctx Tryz.f71 laws_toPortS.ann laws_toPortS.F := fun k x => by kernel_rfl
theorem laws_toPortS.obls : OblT tds laws_toPortS.sig laws_toPortS.ctx 1 Tryz.f71 laws_toPortS.ann := fun k => ⟨tr, ⟨tr, ⟨⟨tr, ⟨⟨by kernel_rfl, fun x => by kernel_rfl⟩, fun n => ⟨fun x => by kernel_rfl, ⟨⟨tr, ⟨tr, tr⟩⟩, ⟨tr, tr⟩⟩⟩⟩⟩, ⟨tr, tr⟩⟩⟩⟩
theorem laws_toPortS.ok (k : Nat) : EntOk Tryz.prog k laws_toPortS.ent := fn_ok (C := laws_toPortS.ctx k) Tryz.func71 (by kernel_rfl) (by kernel_rfl) mixed tdsOk (.cons (laws_toPort.ok k) EntsOk.nil) (by kernel_rfl) (leB (by kernel_rfl)) (by kernel_rfl) (laws_toPortS.runs k) (laws_toPortS.obls k)
/-! loop.example/g00200/laws.toRule -/
def laws_toRule.f (k : Nat) (a0 : Int × Int × Int) : Option (Int × Int × Int) :=
  some a0
def laws_toRule.sig : Sig := ⟨[.val true Ty3 []], [.val true Ty3 []]⟩
def laws_toRule.F : FT laws_toRule.sig := fun k x => laws_toRule.f k x.1
def laws_toRule.ann : AT laws_toRule.sig := fun k => .nil
def laws_toRule.ent : Ent := ⟨128, laws_toRule.sig, laws_toRule.F⟩
def laws_toRule.ctx (k : Nat) : Ctx := ⟨tds, [], k, 14⟩
theorem laws_toRule.runs : RunsT laws_toRule.sig laws_toRule.ctx Tryz.f128 laws_toRule.ann laws_toRule.F := fun k x => by kernel_rfl
theorem laws_toRule.obls : OblT tds laws_toRule.sig laws_toRule.ctx 0 Tryz.f128 laws_toRule.ann := fun k => ⟨tr, ⟨tr, ⟨tr, ⟨tr, ⟨tr, ⟨tr, tr⟩⟩⟩⟩⟩⟩
theorem laws_toRule.ok (k : Nat) : EntOk Tryz.prog k laws_toRule.ent := fn_ok (C := laws_toRule.ctx k) Tryz.func128 (by kernel_rfl) (by kernel_rfl) mixed tdsOk EntsOk.nil (by kernel_rfl) (leB (by kernel_rfl)) (by kernel_rfl) (laws_toRule.runs k) (laws_toRule.obls k)
/-! loop.example/g00200/laws.toRuleS -/
def laws_toRuleS.l1 (k : Nat)  : Nat → Int × De3 × De3 × Unit → Option De3
  | 0, _ => none
  | n + 1, (x1, x2, x3, _) => if x1 < (x2.length : Int) then (if 0 ≤ x1 then (if x1 < (x2.length : Int) then ((laws_toRule.f k ((el Ty3 x2 x1.toNat).1, ((el Ty3 x2 x1.toNat).2))).bind fun t2 => (if 0 ≤ x1 then (if x1 < (x3.length : Int) then (((some (x3.set x1.toNat t2))).bind fun y3 => (laws_toRuleS.l1 k n (w64 (x1 + 1), x2, y3, ()))) else none) else none)) else none) else none) else (some x3)
def laws_toRuleS.f (k : Nat) (a0 : De3) : Option De3 :=
  if (a0.length : Int) = (a0.length : Int) then (if 0 ≤ (a0.length : Int) then (if ((a0.length : Int)).toNat * 24 ≤ 281474976710656 then (((some (List.replicate ((a0.length : Int)).toNat (0, (0, 0)) : De3))).bind fun y1 => (laws_toRuleS.l1 k k (0, a0, y1, ()))) else none) else none) else none
def laws_toRuleS.Sl1 : Shape := ⟨[(0, false, [.own 0]), (3, false, [.own 1]), (4, false, [.int .i64])], [(0, .view false 189 Ty3), (1, .row 187 Ty3)], 2⟩
def laws_toRuleS.sig : Sig := ⟨[.val false (.sl 189 Ty3) [0]], [.val false (.sl 187 Ty3) [none]]⟩
def laws_toRuleS.F : FT laws_toRuleS.sig := fun k x => laws_toRuleS.f k x.1
def laws_toRuleS.ann : AT laws_toRuleS.sig := fun k => (.seq .nil (.seq .nil (.seq (.seq .nil (.block (.loop laws_toRuleS.Sl1 (laws_toRuleS.l1 k) fun n1 => .nil))) .nil)))
def laws_toRuleS.ent : Ent := ⟨72, laws_toRuleS.sig, laws_toRuleS.F⟩
def laws_toRuleS.ctx (k : Nat) : Ctx := ⟨tds, [laws_toRule.ent], k, 23⟩
theorem laws_toRuleS.runs : RunsT laws_toRuleS.sig laws_toRuleS.ctx Tryz.f72 laws_toRuleS.ann laws_toRuleS.F := fun k x => by kernel_rfl
theorem laws_toRuleS.obls : OblT tds laws_toRuleS.sig laws_toRuleS.ctx 1 Tryz.f72 laws_toRuleS.ann := fun k => ⟨tr, ⟨tr, ⟨⟨tr, ⟨⟨by kernel_rfl, fun x => by kernel_rfl⟩, fun n => ⟨fun x => by kernel_rfl, ⟨⟨tr, ⟨tr, tr⟩⟩, ⟨tr, tr⟩⟩⟩⟩⟩, ⟨tr, tr⟩⟩⟩⟩
theorem laws_toRuleS.ok (k : Nat) : EntOk Tryz.prog k laws_toRuleS.ent := fn_ok (C := laws_toRuleS.ctx k) Tryz.func72 (by kernel_rfl) (by kernel_rfl) mixed tdsOk (.cons (laws_toRule.ok k) EntsOk.nil) (by kernel_rfl) (leB (by kernel_rfl)) (by kernel_rfl) (laws_toRuleS.runs k) (laws_toRuleS.obls k)
/-! loop.example/g00200/laws.toStringS -/
def laws_toStringS.l1 (k : Nat)  : Nat → Int × DeB × DeB × Unit → Option DeB
  | 0, _ => none
  | n + 1, (x1, x2, x3, _) => if x1 < (x2.length : Int) then (if 0 ≤ x1 then (if x1 < (x2.length : Int) then (if 0 ≤ x1 then (if x1 < (x3.length : Int) then (((some (x3.set x1.toNat (el .str x2 x1.toNat)))).bind fun y2 => (laws_toStringS.l1 k n (w64 (x1 + 1), x2, y2, ()))) else none) else none) else none) else none) else (some x3)
def laws_toStringS.f (k : Nat) (a0 : DeB) : Option DeB :=
  if (a0.length : Int) = (a0.length : Int) then (if 0 ≤ (a0.length : Int) then (if ((a0.length : Int)).toNat * 16 ≤ 281474976710656 then (((some (List.replicate ((a0.length : Int)).toNat (⟨#[]⟩ : ByteArray) : DeB))).bind fun y1 => (laws_toStringS.l1 k k (0, a0, y1, ()))) else none) else none) else none
def laws_toStringS.Sl1 : Shape := ⟨[(0, false, [.own 0]), (3, false, [.own 1]), (4, false, [.int .i64])], [(0, .view false 9 .str), (1, .row 9 .str)], 2⟩
def laws_toStringS.sig : Sig := ⟨[.val false (.sl 9 .str) [0]], [.val false (.sl 9 .str) [none]]⟩
def laws_toStringS.F : FT laws_toStringS.sig := fun k x => laws_toStringS.f k x.1
def laws_toStringS.ann : AT laws_toStringS.sig := fun k => (.seq .nil (.seq .nil (.seq (.seq .nil (.block (.loop laws_toStringS.Sl1 (laws_toStringS.l1 k) fun n1 => .nil))) .nil)))
def laws_toStringS.ent : Ent := ⟨73, laws_toStringS.sig, laws_toStringS.F⟩
def laws_toStringS.ctx (k : Nat) : Ctx := ⟨tds, [], k, 22⟩
theorem laws_toStringS.runs : RunsT laws_toStringS.sig laws_toStringS.ctx Tryz.f73 laws_toStringS.ann laws_toStringS.F := fun k x => by kernel_rfl
theorem laws_toStringS.obls : OblT tds laws_toStringS.sig laws_toStringS.ctx 1 Tryz.f73 laws_toStringS.ann := fun k => ⟨tr, ⟨tr, ⟨⟨tr, ⟨⟨by kernel_rfl, fun x => by kernel_rfl⟩, fun n => ⟨fun x => by kernel_rfl, ⟨⟨tr, ⟨tr, tr⟩⟩, ⟨tr, tr⟩⟩⟩⟩⟩, ⟨tr, tr⟩⟩⟩⟩
theorem laws_toStringS.ok (k : Nat) : EntOk Tryz.prog k laws_toStringS.ent := fn_ok (C := laws_toStringS.ctx k) Tryz.func73 (by kernel_rfl) (by kernel_rfl) mixed tdsOk EntsOk.nil (by kernel_rfl) (leB (by kernel_rfl)) (by kernel_rfl) (laws_toStringS.runs k) (laws_toStringS.obls k)
/-! loop.example/g00200/laws.toSetup -/
def laws_toSetup.f (k : Nat) (a0 : De2 × De2 × De5 × De3 × DeB) : Option DeS :=
  (laws_toRegionS.f k a0.1).bind fun t1 => ((laws_toWindowS.f k a0.2.1).bind fun t2 => ((laws_toPortS.f k a0.2.2.1).bind fun t3 => ((laws_toRuleS.f k a0.2.2.2.1).bind fun t4 => ((laws_toStringS.f k a0.2.2.2.2).bind fun t5 => (some (t1, (t2, (t3, (t4, t5)))))))))
def laws_toSetup.sig : Sig := ⟨[.val true (.pair (.sl 179 Ty2) (.pair (.sl 183 Ty2) (.pair (.sl 185 Ty5) (.pair (.sl 189 Ty3) (.sl 9 .str))))) [0, 0, 0, 0, 0]], [.val true (.pair (.sl 127 Ty2) (.pair (.sl 181 Ty2) (.pair (.sl 121 Ty5) (.pair (.sl 187 Ty3) (.sl 9 .str))))) [none, none, none, none, none]]⟩
def laws_toSetup.F : FT laws_toSetup.sig := fun k x => laws_toSetup.f k x.1
def laws_toSetup.ann : AT laws_toSetup.sig := fun k => .nil
def laws_toSetup.ent : Ent := ⟨26, laws_toSetup.sig, laws_toSetup.F⟩
def laws_toSetup.ctx (k : Nat) : Ctx := ⟨tds, [laws_toRegionS.ent, laws_toWindowS.ent, laws_toPortS.ent, laws_toRuleS.ent, laws_toStringS.ent], k, 25⟩
theorem laws_toSetup.runs : RunsT laws_toSetup.sig laws_toSetup.ctx Tryz.f26 laws_toSetup.ann laws_toSetup.F := fun k x => by kernel_rfl
theorem laws_toSetup.obls : OblT tds laws_toSetup.sig laws_toSetup.ctx 5 Tryz.f26 laws_toSetup.ann := fun k => ⟨tr, ⟨tr, ⟨tr, ⟨tr, ⟨tr, ⟨tr, ⟨tr, ⟨tr, tr⟩⟩⟩⟩⟩⟩⟩⟩
theorem laws_toSetup.ok (k : Nat) : EntOk Tryz.prog k laws_toSetup.ent := fn_ok (C := laws_toSetup.ctx k) Tryz.func26 (by kernel_rfl) (by kernel_rfl) mixed tdsOk (.cons (laws_toRegionS.ok k) (.cons (laws_toWindowS.ok k) (.cons (laws_toPortS.ok k) (.cons (laws_toRuleS.ok k) (.cons (laws_toStringS.ok k) EntsOk.nil))))) (by kernel_rfl) (leB (by kernel_rfl)) (by kernel_rfl) (laws_toSetup.runs k) (laws_toSetup.obls k)
/-! loop.example/g00200/laws.toIntS -/
def laws_toIntS.l1 (k : Nat)  : Nat → Int × DeI × DeI × Unit → Option DeI
  | 0, _ => none
  | n + 1, (x1, x2, x3, _) => if x1 < (x2.length : Int) then (if 0 ≤ x1 then (if x1 < (x2.length : Int) then (if 0 ≤ x1 then (if x1 < (x3.length : Int) then (((some (x3.set x1.toNat (el TyI x2 x1.toNat)))).bind fun y2 => (laws_toIntS.l1 k n (w64 (x1 + 1), x2, y2, ()))) else none) else none) else none) else none) else (some x3)
def laws_toIntS.f (k : Nat) (a0 : DeI) : Option DeI :=
  if (a0.length : Int) = (a0.length : Int) then (if 0 ≤ (a0.length : Int) then (if ((a0.length : Int)).toNat * 8 ≤ 281474976710656 then (((some (List.replicate ((a0.length : Int)).toNat 0 : DeI))).bind fun y1 => (laws_toIntS.l1 k k (0, a0, y1, ()))) else none) else none) else none
def laws_toIntS.Sl1 : Shape := ⟨[(0, false, [.own 0]), (3, false, [.own 1]), (4, false, [.int .i64])], [(0, .view false 3 TyI), (1, .row 3 TyI)], 2⟩
def laws_toIntS.sig : Sig := ⟨[.val false (.sl 3 TyI) [0]], [.val false (.sl 3 TyI) [none]]⟩
def laws_toIntS.F : FT laws_toIntS.sig := fun k x => laws_toIntS.f k x.1
def laws_toIntS.ann : AT laws_toIntS.sig := fun k => (.seq .nil (.seq .nil (.seq (.seq .nil (.block (.loop laws_toIntS.Sl1 (laws_toIntS.l1 k) fun n1 => .nil))) .nil)))
def laws_toIntS.ent : Ent := ⟨7, laws_toIntS.sig, laws_toIntS.F⟩
def laws_toIntS.ctx (k : Nat) : Ctx := ⟨tds, [], k, 22⟩
theorem laws_toIntS.runs : RunsT laws_toIntS.sig laws_toIntS.ctx Tryz.f7 laws_toIntS.ann laws_toIntS.F := fun k x => by kernel_rfl
theorem laws_toIntS.obls : OblT tds laws_toIntS.sig laws_toIntS.ctx 1 Tryz.f7 laws_toIntS.ann := fun k => ⟨tr, ⟨tr, ⟨⟨tr, ⟨⟨by kernel_rfl, fun x => by kernel_rfl⟩, fun n => ⟨fun x => by kernel_rfl, ⟨⟨tr, ⟨tr, tr⟩⟩, ⟨tr, tr⟩⟩⟩⟩⟩, ⟨tr, tr⟩⟩⟩⟩
theorem laws_toIntS.ok (k : Nat) : EntOk Tryz.prog k laws_toIntS.ent := fn_ok (C := laws_toIntS.ctx k) Tryz.func7 (by kernel_rfl) (by kernel_rfl) mixed tdsOk EntsOk.nil (by kernel_rfl) (leB (by kernel_rfl)) (by kernel_rfl) (laws_toIntS.runs k) (laws_toIntS.obls k)
/-! loop.example/g00200/laws.toArena -/
def laws_toArena.f (k : Nat) (a0 : DeI) : Option DeI :=
  (laws_toIntS.f k a0).bind fun t1 => (some t1)
def laws_toArena.sig : Sig := ⟨[.val true (.sl 3 TyI) [0]], [.val true (.sl 3 TyI) [none]]⟩
def laws_toArena.F : FT laws_toArena.sig := fun k x => laws_toArena.f k x.1
def laws_toArena.ann : AT laws_toArena.sig := fun k => .nil
def laws_toArena.ent : Ent := ⟨27, laws_toArena.sig, laws_toArena.F⟩
def laws_toArena.ctx (k : Nat) : Ctx := ⟨tds, [laws_toIntS.ent], k, 9⟩
theorem laws_toArena.runs : RunsT laws_toArena.sig laws_toArena.ctx Tryz.f27 laws_toArena.ann laws_toArena.F := fun k x => by kernel_rfl
theorem laws_toArena.obls : OblT tds laws_toArena.sig laws_toArena.ctx 1 Tryz.f27 laws_toArena.ann := fun k => ⟨tr, ⟨tr, ⟨tr, ⟨tr, tr⟩⟩⟩⟩
theorem laws_toArena.ok (k : Nat) : EntOk Tryz.prog k laws_toArena.ent := fn_ok (C := laws_toArena.ctx k) Tryz.func27 (by kernel_rfl) (by kernel_rfl) mixed tdsOk (.cons (laws_toIntS.ok k) EntsOk.nil) (by kernel_rfl) (leB (by kernel_rfl)) (by kernel_rfl) (laws_toArena.runs k) (laws_toArena.obls k)
/-! loop.example/g00200/laws.toCpu -/
def laws_toCpu.f (k : Nat) (a0 : Int × DeI) : Option (Int × DeI) :=
  (laws_toIntS.f k a0.2).bind fun t1 => (some (a0.1, t1))
def laws_toCpu.sig : Sig := ⟨[.val true (.pair TyI (.sl 3 TyI)) [0]], [.val true (.pair TyI (.sl 3 TyI)) [none]]⟩
def laws_toCpu.F : FT laws_toCpu.sig := fun k x => laws_toCpu.f k x.1
def laws_toCpu.ann : AT laws_toCpu.sig := fun k => .nil
def laws_toCpu.ent : Ent := ⟨129, laws_toCpu.sig, laws_toCpu.F⟩
def laws_toCpu.ctx (k : Nat) : Ctx := ⟨tds, [laws_toIntS.ent], k, 12⟩
theorem laws_toCpu.runs : RunsT laws_toCpu.sig laws_toCpu.ctx Tryz.f129 laws_toCpu.ann laws_toCpu.F := fun k x => by kernel_rfl
theorem laws_toCpu.obls : OblT tds laws_toCpu.sig laws_toCpu.ctx 1 Tryz.f129 laws_toCpu.ann := fun k => ⟨tr, ⟨tr, ⟨tr, ⟨tr, ⟨tr, tr⟩⟩⟩⟩⟩
theorem laws_toCpu.ok (k : Nat) : EntOk Tryz.prog k laws_toCpu.ent := fn_ok (C := laws_toCpu.ctx k) Tryz.func129 (by kernel_rfl) (by kernel_rfl) mixed tdsOk (.cons (laws_toIntS.ok k) EntsOk.nil) (by kernel_rfl) (leB (by kernel_rfl)) (by kernel_rfl) (laws_toCpu.runs k) (laws_toCpu.obls k)
/-! loop.example/g00200/laws.toPart -/
def laws_toPart.f (k : Nat) (a0 : Int × (Int × DeI) × Int × Int × Int) : Option (Int × (Int × DeI) × Int × Int × Int) :=
  (laws_toCpu.f k a0.2.1).bind fun t1 => (some (a0.1, (t1, a0.2.2)))
def laws_toPart.sig : Sig := ⟨[.val true TyP [0]], [.val true TyP [none]]⟩
def laws_toPart.F : FT laws_toPart.sig := fun k x => laws_toPart.f k x.1
def laws_toPart.ann : AT laws_toPart.sig := fun k => .nil
def laws_toPart.ent : Ent := ⟨74, laws_toPart.sig, laws_toPart.F⟩
def laws_toPart.ctx (k : Nat) : Ctx := ⟨tds, [laws_toCpu.ent], k, 21⟩
theorem laws_toPart.runs : RunsT laws_toPart.sig laws_toPart.ctx Tryz.f74 laws_toPart.ann laws_toPart.F := fun k x => by kernel_rfl
theorem laws_toPart.obls : OblT tds laws_toPart.sig laws_toPart.ctx 1 Tryz.f74 laws_toPart.ann := fun k => ⟨tr, ⟨tr, ⟨tr, ⟨tr, ⟨tr, ⟨tr, ⟨tr, ⟨tr, tr⟩⟩⟩⟩⟩⟩⟩⟩
theorem laws_toPart.ok (k : Nat) : EntOk Tryz.prog k laws_toPart.ent := fn_ok (C := laws_toPart.ctx k) Tryz.func74 (by kernel_rfl) (by kernel_rfl) mixed tdsOk (.cons (laws_toCpu.ok k) EntsOk.nil) (by kernel_rfl) (leB (by kernel_rfl)) (by kernel_rfl) (laws_toPart.runs k) (laws_toPart.obls k)
/-! loop.example/g00200/laws.toPartS -/
def laws_toPartS.l1 (k : Nat)  : Nat → Int × DeP × DeP × Unit → Option DeP
  | 0, _ => none
  | n + 1, (x1, x2, x3, _) => if x1 < (x2.length : Int) then (if 0 ≤ x1 then (if x1 < (x2.length : Int) then ((laws_toPart.f k ((el TyP x2 x1.toNat).1, ((((el TyP x2 x1.toNat).2).1), ((((el TyP x2 x1.toNat).2).2).1, ((((el TyP x2 x1.toNat).2).2).2))))).bind fun t2 => (if 0 ≤ x1 then (if x1 < (x3.length : Int) then (((some (x3.set x1.toNat (t2.1, (t2.2.1, t2.2.2))))).bind fun y3 => (laws_toPartS.l1 k n (w64 (x1 + 1), x2, y3, ()))) else none) else none)) else none) else none) else (some x3)
def laws_toPartS.f (k : Nat) (a0 : DeP) : Option DeP :=
  if (a0.length : Int) = (a0.length : Int) then (if 0 ≤ (a0.length : Int) then (if ((a0.length : Int)).toNat * 64 ≤ 281474976710656 then (((some (List.replicate ((a0.length : Int)).toNat (0, ((0, []), (0, (0, 0)))) : DeP))).bind fun y1 => (laws_toPartS.l1 k k (0, a0, y1, ()))) else none) else none) else none
def laws_toPartS.Sl1 : Shape := ⟨[(0, false, [.own 0]), (3, false, [.own 1]), (4, false, [.int .i64])], [(0, .view false 105 TyP), (1, .row 73 TyP)], 2⟩
def laws_toPartS.sig : Sig := ⟨[.val false (.sl 105 TyP) [0]], [.val false (.sl 73 TyP) [none]]⟩
def laws_toPartS.F : FT laws_toPartS.sig := fun k x => laws_toPartS.f k x.1
def laws_toPartS.ann : AT laws_toPartS.sig := fun k => (.seq .nil (.seq .nil (.seq (.seq .nil (.block (.loop laws_toPartS.Sl1 (laws_toPartS.l1 k) fun n1 => .nil))) .nil)))
def laws_toPartS.ent : Ent := ⟨28, laws_toPartS.sig, laws_toPartS.F⟩
def laws_toPartS.ctx (k : Nat) : Ctx := ⟨tds, [laws_toPart.ent], k, 23⟩
theorem laws_toPartS.runs : RunsT laws_toPartS.sig laws_toPartS.ctx Tryz.f28 laws_toPartS.ann laws_toPartS.F := fun k x => by kernel_rfl
theorem laws_toPartS.obls : OblT tds laws_toPartS.sig laws_toPartS.ctx 1 Tryz.f28 laws_toPartS.ann := fun k => ⟨tr, ⟨tr, ⟨⟨tr, ⟨⟨by kernel_rfl, fun x => by kernel_rfl⟩, fun n => ⟨fun x => by kernel_rfl, ⟨⟨tr, ⟨tr, tr⟩⟩, ⟨tr, tr⟩⟩⟩⟩⟩, ⟨tr, tr⟩⟩⟩⟩
theorem laws_toPartS.ok (k : Nat) : EntOk Tryz.prog k laws_toPartS.ent := fn_ok (C := laws_toPartS.ctx k) Tryz.func28 (by kernel_rfl) (by kernel_rfl) mixed tdsOk (.cons (laws_toPart.ok k) EntsOk.nil) (by kernel_rfl) (leB (by kernel_rfl)) (by kernel_rfl) (laws_toPartS.runs k) (laws_toPartS.obls k)
/-! loop.example/g00200/laws.toMsg -/
def laws_toMsg.f (k : Nat) (a0 : Int × Int) : Option (Int × Int) :=
  some a0
def laws_toMsg.sig : Sig := ⟨[.val true Ty2 []], [.val true Ty2 []]⟩
def laws_toMsg.F : FT laws_toMsg.sig := fun k x => laws_toMsg.f k x.1
def laws_toMsg.ann : AT laws_toMsg.sig := fun k => .nil
def laws_toMsg.ent : Ent := ⟨158, laws_toMsg.sig, laws_toMsg.F⟩
def laws_toMsg.ctx (k : Nat) : Ctx := ⟨tds, [], k, 11⟩
theorem laws_toMsg.runs : RunsT laws_toMsg.sig laws_toMsg.ctx Tryz.f158 laws_toMsg.ann laws_toMsg.F := fun k x => by kernel_rfl
theorem laws_toMsg.obls : OblT tds laws_toMsg.sig laws_toMsg.ctx 0 Tryz.f158 laws_toMsg.ann := fun k => ⟨tr, ⟨tr, ⟨tr, ⟨tr, ⟨tr, tr⟩⟩⟩⟩⟩
theorem laws_toMsg.ok (k : Nat) : EntOk Tryz.prog k laws_toMsg.ent := fn_ok (C := laws_toMsg.ctx k) Tryz.func158 (by kernel_rfl) (by kernel_rfl) mixed tdsOk EntsOk.nil (by kernel_rfl) (leB (by kernel_rfl)) (by kernel_rfl) (laws_toMsg.runs k) (laws_toMsg.obls k)
/-! loop.example/g00200/laws.toMsgS -/
def laws_toMsgS.l1 (k : Nat)  : Nat → Int × De2 × De2 × Unit → Option De2
  | 0, _ => none
  | n + 1, (x1, x2, x3, _) => if x1 < (x2.length : Int) then (if 0 ≤ x1 then (if x1 < (x2.length : Int) then ((laws_toMsg.f k (el Ty2 x2 x1.toNat)).bind fun t2 => (if 0 ≤ x1 then (if x1 < (x3.length : Int) then (((some (x3.set x1.toNat t2))).bind fun y3 => (laws_toMsgS.l1 k n (w64 (x1 + 1), x2, y3, ()))) else none) else none)) else none) else none) else (some x3)
def laws_toMsgS.f (k : Nat) (a0 : De2) : Option De2 :=
  if (a0.length : Int) = (a0.length : Int) then (if 0 ≤ (a0.length : Int) then (if ((a0.length : Int)).toNat * 16 ≤ 281474976710656 then (((some (List.replicate ((a0.length : Int)).toNat (0, 0) : De2))).bind fun y1 => (laws_toMsgS.l1 k k (0, a0, y1, ()))) else none) else none) else none
def laws_toMsgS.Sl1 : Shape := ⟨[(0, false, [.own 0]), (3, false, [.own 1]), (4, false, [.int .i64])], [(0, .view false 212 Ty2), (1, .row 210 Ty2)], 2⟩
def laws_toMsgS.sig : Sig := ⟨[.val false (.sl 212 Ty2) [0]], [.val false (.sl 210 Ty2) [none]]⟩
def laws_toMsgS.F : FT laws_toMsgS.sig := fun k x => laws_toMsgS.f k x.1
def laws_toMsgS.ann : AT laws_toMsgS.sig := fun k => (.seq .nil (.seq .nil (.seq (.seq .nil (.block (.loop laws_toMsgS.Sl1 (laws_toMsgS.l1 k) fun n1 => .nil))) .nil)))
def laws_toMsgS.ent : Ent := ⟨130, laws_toMsgS.sig, laws_toMsgS.F⟩
def laws_toMsgS.ctx (k : Nat) : Ctx := ⟨tds, [laws_toMsg.ent], k, 23⟩
theorem laws_toMsgS.runs : RunsT laws_toMsgS.sig laws_toMsgS.ctx Tryz.f130 laws_toMsgS.ann laws_toMsgS.F := fun k x => by kernel_rfl
theorem laws_toMsgS.obls : OblT tds laws_toMsgS.sig laws_toMsgS.ctx 1 Tryz.f130 laws_toMsgS.ann := fun k => ⟨tr, ⟨tr, ⟨⟨tr, ⟨⟨by kernel_rfl, fun x => by kernel_rfl⟩, fun n => ⟨fun x => by kernel_rfl, ⟨⟨tr, ⟨tr, tr⟩⟩, ⟨tr, tr⟩⟩⟩⟩⟩, ⟨tr, tr⟩⟩⟩⟩
theorem laws_toMsgS.ok (k : Nat) : EntOk Tryz.prog k laws_toMsgS.ent := fn_ok (C := laws_toMsgS.ctx k) Tryz.func130 (by kernel_rfl) (by kernel_rfl) mixed tdsOk (.cons (laws_toMsg.ok k) EntsOk.nil) (by kernel_rfl) (leB (by kernel_rfl)) (by kernel_rfl) (laws_toMsgS.runs k) (laws_toMsgS.obls k)
/-! loop.example/g00200/laws.toLine -/
def laws_toLine.f (k : Nat) (a0 : De2) : Option De2 :=
  (laws_toMsgS.f k a0).bind fun t1 => (some t1)
def laws_toLine.sig : Sig := ⟨[.val true (.sl 212 Ty2) [0]], [.val true (.sl 210 Ty2) [none]]⟩
def laws_toLine.F : FT laws_toLine.sig := fun k x => laws_toLine.f k x.1
def laws_toLine.ann : AT laws_toLine.sig := fun k => .nil
def laws_toLine.ent : Ent := ⟨75, laws_toLine.sig, laws_toLine.F⟩
def laws_toLine.ctx (k : Nat) : Ctx := ⟨tds, [laws_toMsgS.ent], k, 9⟩
theorem laws_toLine.runs : RunsT laws_toLine.sig laws_toLine.ctx Tryz.f75 laws_toLine.ann laws_toLine.F := fun k x => by kernel_rfl
theorem laws_toLine.obls : OblT tds laws_toLine.sig laws_toLine.ctx 1 Tryz.f75 laws_toLine.ann := fun k => ⟨tr, ⟨tr, ⟨tr, ⟨tr, tr⟩⟩⟩⟩
theorem laws_toLine.ok (k : Nat) : EntOk Tryz.prog k laws_toLine.ent := fn_ok (C := laws_toLine.ctx k) Tryz.func75 (by kernel_rfl) (by kernel_rfl) mixed tdsOk (.cons (laws_toMsgS.ok k) EntsOk.nil) (by kernel_rfl) (leB (by kernel_rfl)) (by kernel_rfl) (laws_toLine.runs k) (laws_toLine.obls k)
/-! loop.example/g00200/laws.toLineS -/
def laws_toLineS.l1 (k : Nat)  : Nat → Int × DeL × DeL × Unit → Option DeL
  | 0, _ => none
  | n + 1, (x1, x2, x3, _) => if x1 < (x2.length : Int) then (if 0 ≤ x1 then (if x1 < (x2.length : Int) then ((laws_toLine.f k (el (.sl 212 Ty2) x2 x1.toNat)).bind fun t2 => (if 0 ≤ x1 then (if x1 < (x3.length : Int) then (((some (x3.set x1.toNat t2))).bind fun y3 => (laws_toLineS.l1 k n (w64 (x1 + 1), x2, y3, ()))) else none) else none)) else none) else none) else (some x3)
def laws_toLineS.f (k : Nat) (a0 : DeL) : Option DeL :=
  if (a0.length : Int) = (a0.length : Int) then (if 0 ≤ (a0.length : Int) then (if ((a0.length : Int)).toNat * 24 ≤ 281474976710656 then (((some (List.replicate ((a0.length : Int)).toNat [] : DeL))).bind fun y1 => (laws_toLineS.l1 k k (0, a0, y1, ()))) else none) else none) else none
def laws_toLineS.Sl1 : Shape := ⟨[(0, false, [.own 0]), (3, false, [.own 1]), (4, false, [.int .i64])], [(0, .view false 109 (.sl 212 Ty2)), (1, .row 115 (.sl 210 Ty2))], 2⟩
def laws_toLineS.sig : Sig := ⟨[.val false (.sl 109 (.sl 212 Ty2)) [0]], [.val false (.sl 115 (.sl 210 Ty2)) [none]]⟩
def laws_toLineS.F : FT laws_toLineS.sig := fun k x => laws_toLineS.f k x.1
def laws_toLineS.ann : AT laws_toLineS.sig := fun k => (.seq .nil (.seq .nil (.seq (.seq .nil (.block (.loop laws_toLineS.Sl1 (laws_toLineS.l1 k) fun n1 => .nil))) .nil)))
def laws_toLineS.ent : Ent := ⟨29, laws_toLineS.sig, laws_toLineS.F⟩
def laws_toLineS.ctx (k : Nat) : Ctx := ⟨tds, [laws_toLine.ent], k, 23⟩
theorem laws_toLineS.runs : RunsT laws_toLineS.sig laws_toLineS.ctx Tryz.f29 laws_toLineS.ann laws_toLineS.F := fun k x => by kernel_rfl
theorem laws_toLineS.obls : OblT tds laws_toLineS.sig laws_toLineS.ctx 1 Tryz.f29 laws_toLineS.ann := fun k => ⟨tr, ⟨tr, ⟨⟨tr, ⟨⟨by kernel_rfl, fun x => by kernel_rfl⟩, fun n => ⟨fun x => by kernel_rfl, ⟨⟨tr, ⟨tr, tr⟩⟩, ⟨tr, tr⟩⟩⟩⟩⟩, ⟨tr, tr⟩⟩⟩⟩
theorem laws_toLineS.ok (k : Nat) : EntOk Tryz.prog k laws_toLineS.ent := fn_ok (C := laws_toLineS.ctx k) Tryz.func29 (by kernel_rfl) (by kernel_rfl) mixed tdsOk (.cons (laws_toLine.ok k) EntsOk.nil) (by kernel_rfl) (leB (by kernel_rfl)) (by kernel_rfl) (laws_toLineS.runs k) (laws_toLineS.obls k)
/-! loop.example/g00200/laws.toEntry -/
def laws_toEntry.f (k : Nat) (a0 : Int × Int × Int × Int × Int) : Option (Int × Int × Int × Int × Int) :=
  some a0
def laws_toEntry.sig : Sig := ⟨[.val true Ty5 []], [.val true Ty5 []]⟩
def laws_toEntry.F : FT laws_toEntry.sig := fun k x => laws_toEntry.f k x.1
def laws_toEntry.ann : AT laws_toEntry.sig := fun k => .nil
def laws_toEntry.ent : Ent := ⟨76, laws_toEntry.sig, laws_toEntry.F⟩
def laws_toEntry.ctx (k : Nat) : Ctx := ⟨tds, [], k, 20⟩
theorem laws_toEntry.runs : RunsT laws_toEntry.sig laws_toEntry.ctx Tryz.f76 laws_toEntry.ann laws_toEntry.F := fun k x => by kernel_rfl
theorem laws_toEntry.obls : OblT tds laws_toEntry.sig laws_toEntry.ctx 0 Tryz.f76 laws_toEntry.ann := fun k => ⟨tr, ⟨tr, ⟨tr, ⟨tr, ⟨tr, ⟨tr, ⟨tr, ⟨tr, tr⟩⟩⟩⟩⟩⟩⟩⟩
theorem laws_toEntry.ok (k : Nat) : EntOk Tryz.prog k laws_toEntry.ent := fn_ok (C := laws_toEntry.ctx k) Tryz.func76 (by kernel_rfl) (by kernel_rfl) mixed tdsOk EntsOk.nil (by kernel_rfl) (leB (by kernel_rfl)) (by kernel_rfl) (laws_toEntry.runs k) (laws_toEntry.obls k)
/-! loop.example/g00200/laws.toEntryS -/
def laws_toEntryS.l1 (k : Nat)  : Nat → Int × De5 × De5 × Unit → Option De5
  | 0, _ => none
  | n + 1, (x1, x2, x3, _) => if x1 < (x2.length : Int) then (if 0 ≤ x1 then (if x1 < (x2.length : Int) then ((laws_toEntry.f k ((el Ty5 x2 x1.toNat).1, (((el Ty5 x2 x1.toNat).2).1, ((((el Ty5 x2 x1.toNat).2).2).1, ((((el Ty5 x2 x1.toNat).2).2).2))))).bind fun t2 => (if 0 ≤ x1 then (if x1 < (x3.length : Int) then (((some (x3.set x1.toNat t2))).bind fun y3 => (laws_toEntryS.l1 k n (w64 (x1 + 1), x2, y3, ()))) else none) else none)) else none) else none) else (some x3)
def laws_toEntryS.f (k : Nat) (a0 : De5) : Option De5 :=
  if (a0.length : Int) = (a0.length : Int) then (if 0 ≤ (a0.length : Int) then (if ((a0.length : Int)).toNat * 40 ≤ 281474976710656 then (((some (List.replicate ((a0.length : Int)).toNat (0, (0, (0, (0, 0)))) : De5))).bind fun y1 => (laws_toEntryS.l1 k k (0, a0, y1, ()))) else none) else none) else none
def laws_toEntryS.Sl1 : Shape := ⟨[(0, false, [.own 0]), (3, false, [.own 1]), (4, false, [.int .i64])], [(0, .view false 142 Ty5), (1, .row 140 Ty5)], 2⟩
def laws_toEntryS.sig : Sig := ⟨[.val false (.sl 142 Ty5) [0]], [.val false (.sl 140 Ty5) [none]]⟩
def laws_toEntryS.F : FT laws_toEntryS.sig := fun k x => laws_toEntryS.f k x.1
def laws_toEntryS.ann : AT laws_toEntryS.sig := fun k => (.seq .nil (.seq .nil (.seq (.seq .nil (.block (.loop laws_toEntryS.Sl1 (laws_toEntryS.l1 k) fun n1 => .nil))) .nil)))
def laws_toEntryS.ent : Ent := ⟨30, laws_toEntryS.sig, laws_toEntryS.F⟩
def laws_toEntryS.ctx (k : Nat) : Ctx := ⟨tds, [laws_toEntry.ent], k, 23⟩
theorem laws_toEntryS.runs : RunsT laws_toEntryS.sig laws_toEntryS.ctx Tryz.f30 laws_toEntryS.ann laws_toEntryS.F := fun k x => by kernel_rfl
theorem laws_toEntryS.obls : OblT tds laws_toEntryS.sig laws_toEntryS.ctx 1 Tryz.f30 laws_toEntryS.ann := fun k => ⟨tr, ⟨tr, ⟨⟨tr, ⟨⟨by kernel_rfl, fun x => by kernel_rfl⟩, fun n => ⟨fun x => by kernel_rfl, ⟨⟨tr, ⟨tr, tr⟩⟩, ⟨tr, tr⟩⟩⟩⟩⟩, ⟨tr, tr⟩⟩⟩⟩
theorem laws_toEntryS.ok (k : Nat) : EntOk Tryz.prog k laws_toEntryS.ent := fn_ok (C := laws_toEntryS.ctx k) Tryz.func30 (by kernel_rfl) (by kernel_rfl) mixed tdsOk (.cons (laws_toEntry.ok k) EntsOk.nil) (by kernel_rfl) (leB (by kernel_rfl)) (by kernel_rfl) (laws_toEntryS.runs k) (laws_toEntryS.obls k)
/-! loop.example/g00200/laws.toKernel -/
def laws_toKernel.f (k : Nat) (a0 : DeK) : Option (DeK) :=
  (laws_toSetup.f k a0.1).bind fun t1 => ((laws_toArena.f k a0.2.1).bind fun t2 => ((laws_toPartS.f k a0.2.2.1).bind fun t3 => ((laws_toLineS.f k a0.2.2.2.1).bind fun t4 => ((laws_toIntS.f k a0.2.2.2.2.1).bind fun t5 => ((laws_toEntryS.f k a0.2.2.2.2.2.2.2).bind fun t6 => (some (t1, (t2, (t3, (t4, (t5, (a0.2.2.2.2.2.1, (a0.2.2.2.2.2.2.1, t6)))))))))))))
def laws_toKernel.sig : Sig := ⟨[.val true (.pair (.pair (.sl 179 Ty2) (.pair (.sl 183 Ty2) (.pair (.sl 185 Ty5) (.pair (.sl 189 Ty3) (.sl 9 .str))))) (.pair (.sl 3 TyI) (.pair (.sl 105 TyP) (.pair (.sl 109 (.sl 212 Ty2)) (.pair (.sl 3 TyI) (.pair TyI (.pair .bool (.sl 142 Ty5)))))))) [0, 0, 0, 0, 0, 0, 0, 0, 0, 0]], [.val true (.pair (.pair (.sl 127 Ty2) (.pair (.sl 181 Ty2) (.pair (.sl 121 Ty5) (.pair (.sl 187 Ty3) (.sl 9 .str))))) (.pair (.sl 3 TyI) (.pair (.sl 73 TyP) (.pair (.sl 115 (.sl 210 Ty2)) (.pair (.sl 3 TyI) (.pair TyI (.pair .bool (.sl 140 Ty5)))))))) [none, none, none, none, none, none, none, none, none, none]]⟩
def laws_toKernel.F : FT laws_toKernel.sig := fun k x => laws_toKernel.f k x.1
def laws_toKernel.ann : AT laws_toKernel.sig := fun k => .nil
def laws_toKernel.ent : Ent := ⟨6, laws_toKernel.sig, laws_toKernel.F⟩
def laws_toKernel.ctx (k : Nat) : Ctx := ⟨tds, [laws_toIntS.ent, laws_toSetup.ent, laws_toArena.ent, laws_toPartS.ent, laws_toLineS.ent, laws_toEntryS.ent], k, 35⟩
theorem laws_toKernel.runs : RunsT laws_toKernel.sig laws_toKernel.ctx Tryz.f6 laws_toKernel.ann laws_toKernel.F := fun k x => by kernel_rfl
theorem laws_toKernel.obls : OblT tds laws_toKernel.sig laws_toKernel.ctx 10 Tryz.f6 laws_toKernel.ann := fun k => ⟨tr, ⟨tr, ⟨tr, ⟨tr, ⟨tr, ⟨tr, ⟨tr, ⟨tr, ⟨tr, ⟨tr, ⟨tr, tr⟩⟩⟩⟩⟩⟩⟩⟩⟩⟩⟩
theorem laws_toKernel.ok (k : Nat) : EntOk Tryz.prog k laws_toKernel.ent := fn_ok (C := laws_toKernel.ctx k) Tryz.func6 (by kernel_rfl) (by kernel_rfl) mixed tdsOk (.cons (laws_toIntS.ok k) (.cons (laws_toSetup.ok k) (.cons (laws_toArena.ok k) (.cons (laws_toPartS.ok k) (.cons (laws_toLineS.ok k) (.cons (laws_toEntryS.ok k) EntsOk.nil)))))) (by kernel_rfl) (leB (by kernel_rfl)) (by kernel_rfl) (laws_toKernel.runs k) (laws_toKernel.obls k)
/-! loop.example/g00200/spec.l12Setup -/
def spec_l12Setup.f (k : Nat) (a0 : De2 × De2 × De5 × De3 × DeB) : Option DeS :=
  ((some ([] : De2))).bind fun y1 => (if (y1.length + a0.1.length) * 16 ≤ 140737488355328 then (((some (y1 ++ a0.1))).bind fun y2 => (((some ([] : De2))).bind fun y3 => (if (y3.length + a0.2.1.length) * 16 ≤ 140737488355328 then (((some (y3 ++ a0.2.1))).bind fun y4 => (((some ([] : De5))).bind fun y5 => (if (y5.length + a0.2.2.1.length) * 40 ≤ 140737488355328 then (((some (y5 ++ a0.2.2.1))).bind fun y6 => (((some ([] : De3))).bind fun y7 => (if (y7.length + a0.2.2.2.1.length) * 24 ≤ 140737488355328 then (((some (y7 ++ a0.2.2.2.1))).bind fun y8 => (((some ([] : DeB))).bind fun y9 => (if (y9.length + a0.2.2.2.2.length) * 16 ≤ 140737488355328 then (((some (y9 ++ a0.2.2.2.2))).bind fun y10 => (some (y2, (y4, (y6, (y8, y10)))))) else none))) else none))) else none))) else none))) else none)
def spec_l12Setup.sig : Sig := ⟨[.val true (.pair (.sl 127 Ty2) (.pair (.sl 181 Ty2) (.pair (.sl 121 Ty5) (.pair (.sl 187 Ty3) (.sl 9 .str))))) [0, 0, 0, 0, 0]], [.val true (.pair (.sl 127 Ty2) (.pair (.sl 181 Ty2) (.pair (.sl 121 Ty5) (.pair (.sl 187 Ty3) (.sl 9 .str))))) [none, none, none, none, none]]⟩
def spec_l12Setup.F : FT spec_l12Setup.sig := fun k x => spec_l12Setup.f k x.1
def spec_l12Setup.ann : AT spec_l12Setup.sig := fun k => .nil
def spec_l12Setup.ent : Ent := ⟨58, spec_l12Setup.sig, spec_l12Setup.F⟩
def spec_l12Setup.ctx (k : Nat) : Ctx := ⟨tds, [], k, 24⟩
theorem spec_l12Setup.runs : RunsT spec_l12Setup.sig spec_l12Setup.ctx Tryz.f58 spec_l12Setup.ann spec_l12Setup.F := fun k x => by kernel_rfl
theorem spec_l12Setup.obls : OblT tds spec_l12Setup.sig spec_l12Setup.ctx 5 Tryz.f58 spec_l12Setup.ann := fun k => ⟨tr, ⟨tr, tr⟩⟩
theorem spec_l12Setup.ok (k : Nat) : EntOk Tryz.prog k spec_l12Setup.ent := fn_ok (C := spec_l12Setup.ctx k) Tryz.func58 (by kernel_rfl) (by kernel_rfl) mixed tdsOk EntsOk.nil (by kernel_rfl) (leB (by kernel_rfl)) (by kernel_rfl) (spec_l12Setup.runs k) (spec_l12Setup.obls k)
/-! loop.example/g00200/spec.l04Copy -/
def spec_l04Copy.f (k : Nat) (a0 : DeI) : Option DeI :=
  ((some ([] : DeI))).bind fun y1 => (if (y1.length + a0.length) * 8 ≤ 140737488355328 then (((some (y1 ++ a0))).bind fun y2 => (some y2)) else none)
def spec_l04Copy.sig : Sig := ⟨[.val true (.sl 3 TyI) [0]], [.val true (.sl 3 TyI) [none]]⟩
def spec_l04Copy.F : FT spec_l04Copy.sig := fun k x => spec_l04Copy.f k x.1
def spec_l04Copy.ann : AT spec_l04Copy.sig := fun k => .nil
def spec_l04Copy.ent : Ent := ⟨59, spec_l04Copy.sig, spec_l04Copy.F⟩
def spec_l04Copy.ctx (k : Nat) : Ctx := ⟨tds, [], k, 8⟩
theorem spec_l04Copy.runs : RunsT spec_l04Copy.sig spec_l04Copy.ctx Tryz.f59 spec_l04Copy.ann spec_l04Copy.F := fun k x => by kernel_rfl
theorem spec_l04Copy.obls : OblT tds spec_l04Copy.sig spec_l04Copy.ctx 1 Tryz.f59 spec_l04Copy.ann := fun k => ⟨tr, ⟨tr, tr⟩⟩
theorem spec_l04Copy.ok (k : Nat) : EntOk Tryz.prog k spec_l04Copy.ent := fn_ok (C := spec_l04Copy.ctx k) Tryz.func59 (by kernel_rfl) (by kernel_rfl) mixed tdsOk EntsOk.nil (by kernel_rfl) (leB (by kernel_rfl)) (by kernel_rfl) (spec_l04Copy.runs k) (spec_l04Copy.obls k)
/-! loop.example/g00200/spec.l06Copy -/
def spec_l06Copy.f (k : Nat) (a0 : Int × DeI) : Option (Int × DeI) :=
  ((some ([] : DeI))).bind fun y1 => (if (y1.length + a0.2.length) * 8 ≤ 140737488355328 then (((some (y1 ++ a0.2))).bind fun y2 => (some (a0.1, y2))) else none)
def spec_l06Copy.sig : Sig := ⟨[.val true (.pair TyI (.sl 3 TyI)) [0]], [.val true (.pair TyI (.sl 3 TyI)) [none]]⟩
def spec_l06Copy.F : FT spec_l06Copy.sig := fun k x => spec_l06Copy.f k x.1
def spec_l06Copy.ann : AT spec_l06Copy.sig := fun k => .nil
def spec_l06Copy.ent : Ent := ⟨60, spec_l06Copy.sig, spec_l06Copy.F⟩
def spec_l06Copy.ctx (k : Nat) : Ctx := ⟨tds, [], k, 10⟩
theorem spec_l06Copy.runs : RunsT spec_l06Copy.sig spec_l06Copy.ctx Tryz.f60 spec_l06Copy.ann spec_l06Copy.F := fun k x => by kernel_rfl
theorem spec_l06Copy.obls : OblT tds spec_l06Copy.sig spec_l06Copy.ctx 1 Tryz.f60 spec_l06Copy.ann := fun k => ⟨tr, ⟨tr, tr⟩⟩
theorem spec_l06Copy.ok (k : Nat) : EntOk Tryz.prog k spec_l06Copy.ent := fn_ok (C := spec_l06Copy.ctx k) Tryz.func60 (by kernel_rfl) (by kernel_rfl) mixed tdsOk EntsOk.nil (by kernel_rfl) (leB (by kernel_rfl)) (by kernel_rfl) (spec_l06Copy.runs k) (spec_l06Copy.obls k)
/-! loop.example/g00200/spec.l08Copy -/
def spec_l08Copy.f (k : Nat) (a0 : De2) : Option De2 :=
  ((some ([] : De2))).bind fun y1 => (if (y1.length + a0.length) * 16 ≤ 140737488355328 then (((some (y1 ++ a0))).bind fun y2 => (some y2)) else none)
def spec_l08Copy.sig : Sig := ⟨[.val true (.sl 210 Ty2) [0]], [.val true (.sl 210 Ty2) [none]]⟩
def spec_l08Copy.F : FT spec_l08Copy.sig := fun k x => spec_l08Copy.f k x.1
def spec_l08Copy.ann : AT spec_l08Copy.sig := fun k => .nil
def spec_l08Copy.ent : Ent := ⟨61, spec_l08Copy.sig, spec_l08Copy.F⟩
def spec_l08Copy.ctx (k : Nat) : Ctx := ⟨tds, [], k, 8⟩
theorem spec_l08Copy.runs : RunsT spec_l08Copy.sig spec_l08Copy.ctx Tryz.f61 spec_l08Copy.ann spec_l08Copy.F := fun k x => by kernel_rfl
theorem spec_l08Copy.obls : OblT tds spec_l08Copy.sig spec_l08Copy.ctx 1 Tryz.f61 spec_l08Copy.ann := fun k => ⟨tr, ⟨tr, tr⟩⟩
theorem spec_l08Copy.ok (k : Nat) : EntOk Tryz.prog k spec_l08Copy.ent := fn_ok (C := spec_l08Copy.ctx k) Tryz.func61 (by kernel_rfl) (by kernel_rfl) mixed tdsOk EntsOk.nil (by kernel_rfl) (leB (by kernel_rfl)) (by kernel_rfl) (spec_l08Copy.runs k) (spec_l08Copy.obls k)
/-! loop.example/g00200/spec.l12Copy -/
def spec_l12Copy.l2 (k : Nat)  : Nat → Int × Int × Bool × Int × Bool × Int × Bool × De2 × De2 × De5 × De3 × DeB × DeI × DeP × DeL × DeI × De5 × De2 × De2 × De5 × De3 × DeB × DeI × DeP × DeL × DeI × De5 × De2 × De2 × De5 × De3 × DeB × DeI × DeP × DeL × Unit → Option (DeK)
  | 0, _ => none
  | n + 1, (x1, x2, x3, x4, x5, x6, x7, x8, x9, x10, x11, x12, x13, x14, x15, x16, x17, x18, x19, x20, x21, x22, x23, x24, x25, x26, x27, x28, x29, x30, x31, x32, x33, x34, x35, _) => if x1 < (x15.length : Int) then (if 0 ≤ x1 then (if x1 < (x15.length : Int) then ((spec_l08Copy.f k (el (.sl 210 Ty2) x15 x1.toNat)).bind fun t8 => (((some ([t8] : DeL))).bind fun y9 => (if (x35.length + y9.length) * 24 ≤ 140737488355328 then (((some (x35 ++ y9))).bind fun y10 => (spec_l12Copy.l2 k n (w64 (x1 + 1), x2, x3, x4, x5, x6, x7, x8, x9, x10, x11, x12, x13, x14, x15, x16, x17, x18, x19, x20, x21, x22, x23, x24, x25, x26, x27, x28, x29, x30, x31, x32, x33, x34, y10, ()))) else none))) else none) else none) else (((some ([] : DeI))).bind fun y11 => (if (y11.length + x16.length) * 8 ≤ 140737488355328 then (((some (y11 ++ x16))).bind fun y12 => (((some ([] : De5))).bind fun y13 => (if (y13.length + x17.length) * 40 ≤ 140737488355328 then (((some (y13 ++ x17))).bind fun y14 => (some ((x28, (x29, (x30, (x31, x32)))), (x33, (x34, (x35, (y12, (x6, (x7, y14))))))))) else none))) else none))
def spec_l12Copy.l1 (k : Nat)  : Nat → Int × Int × Bool × Int × Bool × Int × Bool × De2 × De2 × De5 × De3 × DeB × DeI × DeP × DeL × DeI × De5 × De2 × De2 × De5 × De3 × DeB × DeI × DeP × DeL × DeI × De5 × De2 × De2 × De5 × De3 × DeB × DeI × DeP × Unit → Option (DeK)
  | 0, _ => none
  | n + 1, (x1, x2, x3, x4, x5, x6, x7, x8, x9, x10, x11, x12, x13, x14, x15, x16, x17, x18, x19, x20, x21, x22, x23, x24, x25, x26, x27, x28, x29, x30, x31, x32, x33, x34, _) => if x1 < (x14.length : Int) then (if 0 ≤ x1 then (if x1 < (x14.length : Int) then ((spec_l06Copy.f k (((el TyP x14 x1.toNat).2).1)).bind fun t4 => (((some ([((el TyP x14 x1.toNat).1, (t4, ((((el TyP x14 x1.toNat).2).2).1, ((((el TyP x14 x1.toNat).2).2).2))))] : DeP))).bind fun y5 => (if (x34.length + y5.length) * 64 ≤ 140737488355328 then (((some (x34 ++ y5))).bind fun y6 => (spec_l12Copy.l1 k n (w64 (x1 + 1), x2, x3, x4, x5, x6, x7, x8, x9, x10, x11, x12, x13, x14, x15, x16, x17, x18, x19, x20, x21, x22, x23, x24, x25, x26, x27, x28, x29, x30, x31, x32, x33, y6, ()))) else none))) else none) else none) else (((some ([] : DeL))).bind fun y7 => (spec_l12Copy.l2 k k (0, x2, x3, x4, x5, x6, x7, x8, x9, x10, x11, x12, x13, x14, x15, x16, x17, x18, x19, x20, x21, x22, x23, x24, x25, x26, x27, x28, x29, x30, x31, x32, x33, x34, y7, ())))
def spec_l12Copy.f (k : Nat) (a0 : DeK) : Option (DeK) :=
  (spec_l12Setup.f k a0.1).bind fun t1 => ((spec_l04Copy.f k a0.2.1).bind fun t2 => (((some ([] : DeP))).bind fun y3 => (spec_l12Copy.l1 k k (0, a0.2.2.2.2.2.1, a0.2.2.2.2.2.2.1, 0, false, a0.2.2.2.2.2.1, a0.2.2.2.2.2.2.1, a0.1.1, a0.1.2.1, a0.1.2.2.1, a0.1.2.2.2.1, a0.1.2.2.2.2, a0.2.1, a0.2.2.1, a0.2.2.2.1, a0.2.2.2.2.1, a0.2.2.2.2.2.2.2, [], [], [], [], [], [], [], [], [], [], t1.1, t1.2.1, t1.2.2.1, t1.2.2.2.1, t1.2.2.2.2, t2, y3, ()))))
def spec_l12Copy.Sl1 : Shape := ⟨[(1, false, [.ptr 10 0]), (2, false, [.ptr 11 0]), (3, false, [.ptr 22 0]), (4, false, [.int .i64])], [(10, .blk 49 [.own 0, .own 1, .own 2, .own 3, .own 4, .own 5, .own 6, .own 7, .own 8, .int .i64, .bool, .own 9]), (11, .blk 49 [.own 12, .own 13, .own 14, .own 15, .own 16, .own 17, .own 18, .own 19, .own 20, .int .i64, .bool, .own 21]), (22, .blk 49 [.own 23, .own 24, .own 25, .own 26, .own 27, .own 28, .own 29, .own 7, .own 8, .int .i64, .bool, .own 9]), (0, .view false 127 Ty2), (1, .view false 181 Ty2), (2, .view false 121 Ty5), (3, .view false 187 Ty3), (4, .view false 9 .str), (5, .view false 3 TyI), (6, .view false 73 TyP), (7, .view false 115 (.sl 210 Ty2)), (8, .view false 3 TyI), (9, .view false 140 Ty5), (12, .row 127 Ty2), (13, .row 181 Ty2), (14, .row 121 Ty5), (15, .row 187 Ty3), (16, .row 9 .str), (17, .row 3 TyI), (18, .row 73 TyP), (19, .row 115 (.sl 210 Ty2)), (20, .row 3 TyI), (21, .row 140 Ty5), (23, .row 127 Ty2), (24, .row 181 Ty2), (25, .row 121 Ty5), (26, .row 187 Ty3), (27, .row 9 .str), (28, .row 3 TyI), (29, .row 73 TyP)], 30⟩
def spec_l12Copy.Sl2 : Shape := ⟨[(1, false, [.ptr 10 0]), (2, false, [.ptr 11 0]), (3, false, [.ptr 22 0]), (6, false, [.int .i64])], [(10, .blk 49 [.own 0, .own 1, .own 2, .own 3, .own 4, .own 5, .own 6, .own 7, .own 8, .int .i64, .bool, .own 9]), (11, .blk 49 [.own 12, .own 13, .own 14, .own 15, .own 16, .own 17, .own 18, .own 19, .own 20, .int .i64, .bool, .own 21]), (22, .blk 49 [.own 23, .own 24, .own 25, .own 26, .own 27, .own 28, .own 29, .own 30, .own 8, .int .i64, .bool, .own 9]), (0, .view false 127 Ty2), (1, .view false 181 Ty2), (2, .view false 121 Ty5), (3, .view false 187 Ty3), (4, .view false 9 .str), (5, .view false 3 TyI), (6, .view false 73 TyP), (7, .view false 115 (.sl 210 Ty2)), (8, .view false 3 TyI), (9, .view false 140 Ty5), (12, .row 127 Ty2), (13, .row 181 Ty2), (14, .row 121 Ty5), (15, .row 187 Ty3), (16, .row 9 .str), (17, .row 3 TyI), (18, .row 73 TyP), (19, .row 115 (.sl 210 Ty2)), (20, .row 3 TyI), (21, .row 140 Ty5), (23, .row 127 Ty2), (24, .row 181 Ty2), (25, .row 121 Ty5), (26, .row 187 Ty3), (27, .row 9 .str), (28, .row 3 TyI), (29, .row 73 TyP), (30, .row 115 (.sl 210 Ty2))], 31⟩
def spec_l12Copy.sig : Sig := ⟨[.val true (.pair (.pair (.sl 127 Ty2) (.pair (.sl 181 Ty2) (.pair (.sl 121 Ty5) (.pair (.sl 187 Ty3) (.sl 9 .str))))) (.pair (.sl 3 TyI) (.pair (.sl 73 TyP) (.pair (.sl 115 (.sl 210 Ty2)) (.pair (.sl 3 TyI) (.pair TyI (.pair .bool (.sl 140 Ty5)))))))) [0, 0, 0, 0, 0, 0, 0, 0, 0, 0]], [.val true (.pair (.pair (.sl 127 Ty2) (.pair (.sl 181 Ty2) (.pair (.sl 121 Ty5) (.pair (.sl 187 Ty3) (.sl 9 .str))))) (.pair (.sl 3 TyI) (.pair (.sl 73 TyP) (.pair (.sl 115 (.sl 210 Ty2)) (.pair (.sl 3 TyI) (.pair TyI (.pair .bool (.sl 140 Ty5)))))))) [none, none, none, none, none, none, none, none, none, none]]⟩
def spec_l12Copy.F : FT spec_l12Copy.sig := fun k x => spec_l12Copy.f k x.1
def spec_l12Copy.ann : AT spec_l12Copy.sig := fun k => (.seq .nil (.seq .nil (.seq .nil (.seq .nil (.seq .nil (.seq (.seq .nil (.block (.loop spec_l12Copy.Sl1 (spec_l12Copy.l1 k) fun n1 => .nil))) (.seq .nil (.seq (.seq .nil (.block (.loop spec_l12Copy.Sl2 (spec_l12Copy.l2 k) fun n1 => .nil))) .nil))))))))
def spec_l12Copy.ent : Ent := ⟨20, spec_l12Copy.sig, spec_l12Copy.F⟩
def spec_l12Copy.ctx (k : Nat) : Ctx := ⟨tds, [spec_l12Setup.ent, spec_l04Copy.ent, spec_l06Copy.ent, spec_l08Copy.ent], k, 71⟩
theorem spec_l12Copy.runs : RunsT spec_l12Copy.sig spec_l12Copy.ctx Tryz.f20 spec_l12Copy.ann spec_l12Copy.F := fun k x => by kernel_rfl
theorem spec_l12Copy.obls : OblT tds spec_l12Copy.sig spec_l12Copy.ctx 10 Tryz.f20 spec_l12Copy.ann := fun k => ⟨tr, ⟨tr, ⟨tr, ⟨tr, ⟨tr, ⟨⟨tr, ⟨⟨by kernel_rfl, fun x => by kernel_rfl⟩, fun n => ⟨fun x => by kernel_rfl, ⟨⟨tr, ⟨tr, tr⟩⟩, ⟨⟨tr, ⟨tr, tr⟩⟩, tr⟩⟩⟩⟩⟩, ⟨tr, ⟨⟨tr, ⟨⟨by kernel_rfl, fun x => by kernel_rfl⟩, fun n => ⟨fun x => by kernel_rfl, ⟨⟨tr, ⟨tr, tr⟩⟩, ⟨tr, tr⟩⟩⟩⟩⟩, ⟨tr, ⟨tr, ⟨tr, tr⟩⟩⟩⟩⟩⟩⟩⟩⟩⟩⟩
theorem spec_l12Copy.ok (k : Nat) : EntOk Tryz.prog k spec_l12Copy.ent := fn_ok (C := spec_l12Copy.ctx k) Tryz.func20 (by kernel_rfl) (by kernel_rfl) mixed tdsOk (.cons (spec_l12Setup.ok k) (.cons (spec_l04Copy.ok k) (.cons (spec_l06Copy.ok k) (.cons (spec_l08Copy.ok k) EntsOk.nil)))) (by kernel_rfl) (leB (by kernel_rfl)) (by kernel_rfl) (spec_l12Copy.runs k) (spec_l12Copy.obls k)
/-! loop.example/g00200/spec.l01In -/
def spec_l01In.f (k : Nat) (a0 : Int) (a1 : Int) (a2 : Int) : Option (Bool) :=
  if a1 ≤ a0 then (some (decide (a0 ≤ a2))) else (some false)
def spec_l01In.sig : Sig := ⟨[.val false TyI [], .val false TyI [], .val false TyI []], [.val false .bool []]⟩
def spec_l01In.F : FT spec_l01In.sig := fun k x => spec_l01In.f k x.1 x.2.1 x.2.2.1
def spec_l01In.ann : AT spec_l01In.sig := fun k => .nil
def spec_l01In.ent : Ent := ⟨22, spec_l01In.sig, spec_l01In.F⟩
def spec_l01In.ctx (k : Nat) : Ctx := ⟨tds, [], k, 15⟩
theorem spec_l01In.runs : RunsT spec_l01In.sig spec_l01In.ctx Tryz.f22 spec_l01In.ann spec_l01In.F := fun k x => by kernel_rfl
theorem spec_l01In.obls : OblT tds spec_l01In.sig spec_l01In.ctx 0 Tryz.f22 spec_l01In.ann := fun k => ⟨tr, ⟨tr, tr⟩⟩
theorem spec_l01In.ok (k : Nat) : EntOk Tryz.prog k spec_l01In.ent := fn_ok (C := spec_l01In.ctx k) Tryz.func22 (by kernel_rfl) (by kernel_rfl) mixed tdsOk EntsOk.nil (by kernel_rfl) (leB (by kernel_rfl)) (by kernel_rfl) (spec_l01In.runs k) (spec_l01In.obls k)
/-! loop.example/g00200/spec.RegionsOk -/
def spec_RegionsOk.l2 (k : Nat) (c0 : Int × De2 × Unit → Option (Bool)) : Nat → Int × Int × Int × Int × De2 × Unit → Option (Bool)
  | 0, _ => none
  | n + 1, (x1, x2, x3, x4, x5, _) => if x2 < x1 then (if 0 ≤ x2 then (if x2 < (x5.length : Int) then (if 0 ≤ x2 then (if x2 < (x5.length : Int) then (if x3 < (w64 (((el Ty2 x5 x2.toNat).1) + ((el Ty2 x5 x2.toNat).2))) then (if 0 ≤ x2 then (if x2 < (x5.length : Int) then (if ((el Ty2 x5 x2.toNat).1) < (w64 (x3 + x4)) then (some false) else (spec_RegionsOk.l2 k c0 n (x1, w64 (x2 + 1), x3, x4, x5, ()))) else none) else none) else (spec_RegionsOk.l2 k c0 n (x1, w64 (x2 + 1), x3, x4, x5, ()))) else none) else none) else none) else none) else (c0 (w64 (x1 + 1), x5, ()))
def spec_RegionsOk.l1 (k : Nat)  : Nat → Int × De2 × Unit → Option (Bool)
  | 0, _ => none
  | n + 1, (x1, x2, _) => if x1 < (x2.length : Int) then (if 0 ≤ x1 then (if x1 < (x2.length : Int) then ((spec_l01In.f k ((el Ty2 x2 x1.toNat).1) 0 63).bind fun t1 => (if ¬ t1 = true then (some false) else ((spec_l01In.f k ((el Ty2 x2 x1.toNat).2) 1 (w64 (64 - ((el Ty2 x2 x1.toNat).1)))).bind fun t2 => (if ¬ t2 = true then (some false) else (spec_RegionsOk.l2 k (spec_RegionsOk.l1 k n) k (x1, 0, (el Ty2 x2 x1.toNat).1, (el Ty2 x2 x1.toNat).2, x2, ())))))) else none) else none) else ((spec_l01In.f k (x2.length : Int) 1 4).bind fun t3 => (some t3))
def spec_RegionsOk.f (k : Nat) (a0 : De2) : Option (Bool) :=
  spec_RegionsOk.l1 k k (0, a0, ())
def spec_RegionsOk.Sl1 : Shape := ⟨[(0, false, [.own 0]), (3, false, [.int .i64])], [(0, .view false 127 Ty2)], 1⟩
def spec_RegionsOk.Sl2 : Shape := ⟨[(0, false, [.own 0]), (3, false, [.int .i64]), (4, false, [.ptr 1 0]), (5, false, [.int .i64])], [(1, .blk 127 [.int .i64, .int .i64]), (0, .view false 127 Ty2)], 2⟩
def spec_RegionsOk.sig : Sig := ⟨[.val false (.sl 127 Ty2) [0]], [.val false .bool []]⟩
def spec_RegionsOk.F : FT spec_RegionsOk.sig := fun k x => spec_RegionsOk.f k x.1
def spec_RegionsOk.ann : AT spec_RegionsOk.sig := fun k => (.seq .nil (.seq (.seq .nil (.block (.loop spec_RegionsOk.Sl1 (spec_RegionsOk.l1 k) fun n1 => (.seq .nil (.seq (.block (.seq .nil (.seq .nil (.seq .nil (.block (.loop spec_RegionsOk.Sl2 (spec_RegionsOk.l2 k (spec_RegionsOk.l1 k n1)) fun n2 => .nil)))))) .nil))))) .nil))
def spec_RegionsOk.ent : Ent := ⟨112, spec_RegionsOk.sig, spec_RegionsOk.F⟩
def spec_RegionsOk.ctx (k : Nat) : Ctx := ⟨tds, [spec_l01In.ent], k, 64⟩
theorem spec_RegionsOk.runs : RunsT spec_RegionsOk.sig spec_RegionsOk.ctx Tryz.f112 spec_RegionsOk.ann spec_RegionsOk.F := fun k x => by kernel_rfl
theorem spec_RegionsOk.obls : OblT tds spec_RegionsOk.sig spec_RegionsOk.ctx 1 Tryz.f112 spec_RegionsOk.ann := fun k => ⟨tr, ⟨⟨tr, ⟨⟨by kernel_rfl, fun x => by kernel_rfl⟩, fun n => ⟨fun x => by kernel_rfl, ⟨⟨tr, ⟨tr, tr⟩⟩, ⟨⟨tr, ⟨⟨tr, ⟨⟨tr, tr⟩, tr⟩⟩, ⟨tr, ⟨⟨by kernel_rfl, fun x => by kernel_rfl⟩, fun n => ⟨fun x => by kernel_rfl, ⟨⟨tr, ⟨tr, tr⟩⟩, ⟨⟨tr, ⟨⟨tr, tr⟩, tr⟩⟩, tr⟩⟩⟩⟩⟩⟩⟩, tr⟩⟩⟩⟩⟩, ⟨tr, tr⟩⟩⟩
theorem spec_RegionsOk.ok (k : Nat) : EntOk Tryz.prog k spec_RegionsOk.ent := fn_ok (C := spec_RegionsOk.ctx k) Tryz.func112 (by kernel_rfl) (by kernel_rfl) mixed tdsOk (.cons (spec_l01In.ok k) EntsOk.nil) (by kernel_rfl) (leB (by kernel_rfl)) (by kernel_rfl) (spec_RegionsOk.runs k) (spec_RegionsOk.obls k)
/-! loop.example/g00200/spec.PlanOk -/
def spec_PlanOk.l1 (k : Nat)  : Nat → Int × De2 × Unit → Option (Bool)
  | 0, _ => none
  | n + 1, (x1, x2, _) => if x1 < (x2.length : Int) then (if 0 ≤ x1 then (if x1 < (x2.length : Int) then ((spec_l01In.f k ((el Ty2 x2 x1.toNat).1) 1 4).bind fun t1 => (if ¬ t1 = true then (some false) else (if 0 ≤ x1 then (if x1 < (x2.length : Int) then ((spec_l01In.f k ((el Ty2 x2 x1.toNat).2) 1 200).bind fun t2 => (if ¬ t2 = true then (some false) else (spec_PlanOk.l1 k n (w64 (x1 + 1), x2, ())))) else none) else none))) else none) else none) else ((spec_l01In.f k (x2.length : Int) 1 12).bind fun t3 => (some t3))
def spec_PlanOk.f (k : Nat) (a0 : De2) : Option (Bool) :=
  spec_PlanOk.l1 k k (0, a0, ())
def spec_PlanOk.Sl1 : Shape := ⟨[(0, false, [.own 0]), (3, false, [.int .i64])], [(0, .view false 181 Ty2)], 1⟩
def spec_PlanOk.sig : Sig := ⟨[.val false (.sl 181 Ty2) [0]], [.val false .bool []]⟩
def spec_PlanOk.F : FT spec_PlanOk.sig := fun k x => spec_PlanOk.f k x.1
def spec_PlanOk.ann : AT spec_PlanOk.sig := fun k => (.seq .nil (.seq (.seq .nil (.block (.loop spec_PlanOk.Sl1 (spec_PlanOk.l1 k) fun n1 => .nil))) .nil))
def spec_PlanOk.ent : Ent := ⟨113, spec_PlanOk.sig, spec_PlanOk.F⟩
def spec_PlanOk.ctx (k : Nat) : Ctx := ⟨tds, [spec_l01In.ent], k, 29⟩
theorem spec_PlanOk.runs : RunsT spec_PlanOk.sig spec_PlanOk.ctx Tryz.f113 spec_PlanOk.ann spec_PlanOk.F := fun k x => by kernel_rfl
theorem spec_PlanOk.obls : OblT tds spec_PlanOk.sig spec_PlanOk.ctx 1 Tryz.f113 spec_PlanOk.ann := fun k => ⟨tr, ⟨⟨tr, ⟨⟨by kernel_rfl, fun x => by kernel_rfl⟩, fun n => ⟨fun x => by kernel_rfl, ⟨⟨tr, ⟨tr, tr⟩⟩, ⟨⟨tr, ⟨⟨tr, tr⟩, tr⟩⟩, tr⟩⟩⟩⟩⟩, ⟨tr, tr⟩⟩⟩
theorem spec_PlanOk.ok (k : Nat) : EntOk Tryz.prog k spec_PlanOk.ent := fn_ok (C := spec_PlanOk.ctx k) Tryz.func113 (by kernel_rfl) (by kernel_rfl) mixed tdsOk (.cons (spec_l01In.ok k) EntsOk.nil) (by kernel_rfl) (leB (by kernel_rfl)) (by kernel_rfl) (spec_PlanOk.runs k) (spec_PlanOk.obls k)
/-! loop.example/g00200/spec.PortOk -/
def spec_PortOk.f (k : Nat) (a0 : Int × Int × Int × Int × Int) : Option (Bool) :=
  (spec_l01In.f k a0.2.1 1 4).bind fun t1 => (if ¬ t1 = true then (some false) else ((spec_l01In.f k a0.2.2.1 1 4).bind fun t2 => (if ¬ t2 = true then (some false) else (if a0.2.1 = a0.2.2.1 then (some false) else (if a0.1 = 1 then ((spec_l01In.f k a0.2.2.2.1 1 6).bind fun t3 => (if t3 = true then (some (decide (a0.2.2.2.2 = 0))) else (some false))) else (if a0.1 = 2 then (if a0.2.2.2.1 = 1 then ((spec_l01In.f k a0.2.2.2.2 1 100).bind fun t4 => (some t4)) else (some false)) else (some false)))))))
def spec_PortOk.sig : Sig := ⟨[.val true Ty5 []], [.val false .bool []]⟩
def spec_PortOk.F : FT spec_PortOk.sig := fun k x => spec_PortOk.f k x.1
def spec_PortOk.ann : AT spec_PortOk.sig := fun k => .nil
def spec_PortOk.ent : Ent := ⟨114, spec_PortOk.sig, spec_PortOk.F⟩
def spec_PortOk.ctx (k : Nat) : Ctx := ⟨tds, [spec_l01In.ent], k, 44⟩
theorem spec_PortOk.runs : RunsT spec_PortOk.sig spec_PortOk.ctx Tryz.f114 spec_PortOk.ann spec_PortOk.F := fun k x => by kernel_rfl
theorem spec_PortOk.obls : OblT tds spec_PortOk.sig spec_PortOk.ctx 0 Tryz.f114 spec_PortOk.ann := fun k => ⟨tr, ⟨⟨tr, ⟨⟨tr, tr⟩, tr⟩⟩, ⟨⟨tr, ⟨⟨tr, tr⟩, tr⟩⟩, ⟨tr, tr⟩⟩⟩⟩
theorem spec_PortOk.ok (k : Nat) : EntOk Tryz.prog k spec_PortOk.ent := fn_ok (C := spec_PortOk.ctx k) Tryz.func114 (by kernel_rfl) (by kernel_rfl) mixed tdsOk (.cons (spec_l01In.ok k) EntsOk.nil) (by kernel_rfl) (leB (by kernel_rfl)) (by kernel_rfl) (spec_PortOk.runs k) (spec_PortOk.obls k)
/-! loop.example/g00200/spec.RulesOk -/
def spec_RulesOk.l2 (k : Nat) (c0 : Int × De3 × Unit → Option (Bool)) : Nat → Int × Int × Int × Int × Int × De3 × Unit → Option (Bool)
  | 0, _ => none
  | n + 1, (x1, x2, x3, x4, x5, x6, _) => if x2 < x1 then (if 0 ≤ x2 then (if x2 < (x6.length : Int) then (if ((el Ty3 x6 x2.toNat).1) = x3 then (if 0 ≤ x2 then (if x2 < (x6.length : Int) then (if (((el Ty3 x6 x2.toNat).2).1) = x4 then (some false) else (spec_RulesOk.l2 k c0 n (x1, w64 (x2 + 1), x3, x4, x5, x6, ()))) else none) else none) else (spec_RulesOk.l2 k c0 n (x1, w64 (x2 + 1), x3, x4, x5, x6, ()))) else none) else none) else (c0 (w64 (x1 + 1), x6, ()))
def spec_RulesOk.l1 (k : Nat)  : Nat → Int × De3 × Unit → Option (Bool)
  | 0, _ => none
  | n + 1, (x1, x2, _) => if x1 < (x2.length : Int) then (if 0 ≤ x1 then (if x1 < (x2.length : Int) then ((spec_l01In.f k ((el Ty3 x2 x1.toNat).1) 1 4).bind fun t1 => (if ¬ t1 = true then (some false) else ((spec_l01In.f k (((el Ty3 x2 x1.toNat).2).1) 1 2).bind fun t2 => (if ¬ t2 = true then (some false) else ((spec_l01In.f k (((el Ty3 x2 x1.toNat).2).2) 0 4).bind fun t3 => (if ¬ t3 = true then (some false) else (if (((el Ty3 x2 x1.toNat).2).1) = 1 then (if (((el Ty3 x2 x1.toNat).2).2) = 0 then (some false) else (spec_RulesOk.l2 k (spec_RulesOk.l1 k n) k (x1, 0, (el Ty3 x2 x1.toNat).1, ((el Ty3 x2 x1.toNat).2).1, ((el Ty3 x2 x1.toNat).2).2, x2, ()))) else (spec_RulesOk.l2 k (spec_RulesOk.l1 k n) k (x1, 0, (el Ty3 x2 x1.toNat).1, ((el Ty3 x2 x1.toNat).2).1, ((el Ty3 x2 x1.toNat).2).2, x2, ()))))))))) else none) else none) else (some (decide ((x2.length : Int) ≤ 8)))
def spec_RulesOk.f (k : Nat) (a0 : De3) : Option (Bool) :=
  spec_RulesOk.l1 k k (0, a0, ())
def spec_RulesOk.Sl1 : Shape := ⟨[(0, false, [.own 0]), (3, false, [.int .i64])], [(0, .view false 187 Ty3)], 1⟩
def spec_RulesOk.Sl2 : Shape := ⟨[(0, false, [.own 0]), (3, false, [.int .i64]), (4, false, [.ptr 1 0]), (5, false, [.int .i64])], [(1, .blk 187 [.int .i64, .int .i64, .int .i64]), (0, .view false 187 Ty3)], 2⟩
def spec_RulesOk.sig : Sig := ⟨[.val false (.sl 187 Ty3) [0]], [.val false .bool []]⟩
def spec_RulesOk.F : FT spec_RulesOk.sig := fun k x => spec_RulesOk.f k x.1
def spec_RulesOk.ann : AT spec_RulesOk.sig := fun k => (.seq .nil (.seq (.seq .nil (.block (.loop spec_RulesOk.Sl1 (spec_RulesOk.l1 k) fun n1 => (.seq .nil (.seq (.block (.seq .nil (.seq .nil (.seq .nil (.block (.loop spec_RulesOk.Sl2 (spec_RulesOk.l2 k (spec_RulesOk.l1 k n1)) fun n2 => .nil)))))) .nil))))) .nil))
def spec_RulesOk.ent : Ent := ⟨115, spec_RulesOk.sig, spec_RulesOk.F⟩
def spec_RulesOk.ctx (k : Nat) : Ctx := ⟨tds, [spec_l01In.ent], k, 68⟩
theorem spec_RulesOk.runs : RunsT spec_RulesOk.sig spec_RulesOk.ctx Tryz.f115 spec_RulesOk.ann spec_RulesOk.F := fun k x => by kernel_rfl
theorem spec_RulesOk.obls : OblT tds spec_RulesOk.sig spec_RulesOk.ctx 1 Tryz.f115 spec_RulesOk.ann := fun k => ⟨tr, ⟨⟨tr, ⟨⟨by kernel_rfl, fun x => by kernel_rfl⟩, fun n => ⟨fun x => by kernel_rfl, ⟨⟨tr, ⟨tr, tr⟩⟩, ⟨⟨tr, ⟨⟨tr, ⟨⟨tr, tr⟩, tr⟩⟩, ⟨tr, ⟨⟨by kernel_rfl, fun x => by kernel_rfl⟩, fun n => ⟨fun x => by kernel_rfl, ⟨⟨tr, ⟨tr, tr⟩⟩, ⟨⟨tr, ⟨⟨tr, tr⟩, tr⟩⟩, tr⟩⟩⟩⟩⟩⟩⟩, tr⟩⟩⟩⟩⟩, ⟨tr, tr⟩⟩⟩
theorem spec_RulesOk.ok (k : Nat) : EntOk Tryz.prog k spec_RulesOk.ent := fn_ok (C := spec_RulesOk.ctx k) Tryz.func115 (by kernel_rfl) (by kernel_rfl) mixed tdsOk (.cons (spec_l01In.ok k) EntsOk.nil) (by kernel_rfl) (leB (by kernel_rfl)) (by kernel_rfl) (spec_RulesOk.runs k) (spec_RulesOk.obls k)
/-! loop.example/g00200/spec.ReadCode -/
def spec_ReadCode.l1 (k : Nat)  : Nat → ByteArray × Int × De2 × Unit → Option (De2 × Bool)
  | 0, _ => none
  | n + 1, (x1, x2, x3, _) => if x2 < (x1.size : Int) then (if 0 ≤ x2 then (if x2 < (x1.size : Int) then (if 0 ≤ w64 (x2 + 1) then (if w64 (x2 + 1) < (x1.size : Int) then (((some ([(w64 (bt x1 x2), w64 (bt x1 (w64 (x2 + 1))))] : De2))).bind fun y2 => (if (x3.length + y2.length) * 16 ≤ 140737488355328 then (((some (x3 ++ y2))).bind fun y3 => (spec_ReadCode.l1 k n (x1, w64 (x2 + 2), y3, ()))) else none)) else none) else none) else none) else none) else (some (x3, true))
def spec_ReadCode.f (k : Nat) (a0 : ByteArray) : Option (De2 × Bool) :=
  ((some ([] : De2))).bind fun y1 => (if ¬ (Int.tmod (a0.size : Int) 2) = 0 then (some (y1, false)) else (if 120 < (a0.size : Int) then (some (y1, false)) else (spec_ReadCode.l1 k k (a0, 0, y1, ()))))
def spec_ReadCode.Sl1 : Shape := ⟨[(0, false, [.str]), (4, false, [.own 0]), (5, false, [.int .i64])], [(0, .row 76 Ty2)], 1⟩
def spec_ReadCode.sig : Sig := ⟨[.val false .str []], [.val false (.sl 76 Ty2) [none], .val false .bool []]⟩
def spec_ReadCode.F : FT spec_ReadCode.sig := fun k x => spec_ReadCode.f k x.1
def spec_ReadCode.ann : AT spec_ReadCode.sig := fun k => (.seq .nil (.seq .nil (.seq .nil (.seq (.seq .nil (.block (.loop spec_ReadCode.Sl1 (spec_ReadCode.l1 k) fun n1 => .nil))) .nil))))
def spec_ReadCode.ent : Ent := ⟨23, spec_ReadCode.sig, spec_ReadCode.F⟩
def spec_ReadCode.ctx (k : Nat) : Ctx := ⟨tds, [], k, 37⟩
theorem spec_ReadCode.runs : RunsT spec_ReadCode.sig spec_ReadCode.ctx Tryz.f23 spec_ReadCode.ann spec_ReadCode.F := fun k x => by kernel_rfl
theorem spec_ReadCode.obls : OblT tds spec_ReadCode.sig spec_ReadCode.ctx 0 Tryz.f23 spec_ReadCode.ann := fun k => ⟨tr, ⟨tr, ⟨⟨tr, ⟨⟨tr, tr⟩, tr⟩⟩, ⟨⟨tr, ⟨⟨by kernel_rfl, fun x => by kernel_rfl⟩, fun n => ⟨fun x => by kernel_rfl, ⟨⟨tr, ⟨tr, tr⟩⟩, ⟨tr, tr⟩⟩⟩⟩⟩, ⟨tr, tr⟩⟩⟩⟩⟩
theorem spec_ReadCode.ok (k : Nat) : EntOk Tryz.prog k spec_ReadCode.ent := fn_ok (C := spec_ReadCode.ctx k) Tryz.func23 (by kernel_rfl) (by kernel_rfl) mixed tdsOk EntsOk.nil (by kernel_rfl) (leB (by kernel_rfl)) (by kernel_rfl) (spec_ReadCode.runs k) (spec_ReadCode.obls k)
/-! loop.example/g00200/spec.l11Parts -/
def spec_l11Parts.l3 (k : Nat)  : Nat → Int × Int × De2 × De2 × De5 × De3 × DeB × Unit → Option (Int)
  | 0, _ => none
  | n + 1, (x1, x2, x3, x4, x5, x6, x7, _) => if x2 < (x6.length : Int) then (if 0 ≤ x2 then (if x2 < (x6.length : Int) then (if x1 < ((el Ty3 x6 x2.toNat).1) then (some 6) else (spec_l11Parts.l3 k n (x1, w64 (x2 + 1), x3, x4, x5, x6, x7, ()))) else none) else none) else (some 0)
def spec_l11Parts.l2 (k : Nat)  : Nat → Int × Int × De2 × De2 × De5 × De3 × DeB × Unit → Option (Int)
  | 0, _ => none
  | n + 1, (x1, x2, x3, x4, x5, x6, x7, _) => if x2 < (x5.length : Int) then (if 0 ≤ x2 then (if x2 < (x5.length : Int) then (if x1 < (((el Ty5 x5 x2.toNat).2).1) then (some 6) else (if 0 ≤ x2 then (if x2 < (x5.length : Int) then (if x1 < ((((el Ty5 x5 x2.toNat).2).2).1) then (some 6) else (spec_l11Parts.l2 k n (x1, w64 (x2 + 1), x3, x4, x5, x6, x7, ()))) else none) else none)) else none) else none) else (spec_l11Parts.l3 k k (x1, 0, x3, x4, x5, x6, x7, ()))
def spec_l11Parts.l1 (k : Nat)  : Nat → Int × Int × De2 × De2 × De5 × De3 × DeB × Unit → Option (Int)
  | 0, _ => none
  | n + 1, (x1, x2, x3, x4, x5, x6, x7, _) => if x2 < (x4.length : Int) then (if 0 ≤ x2 then (if x2 < (x4.length : Int) then (if x1 < ((el Ty2 x4 x2.toNat).1) then (some 6) else (spec_l11Parts.l1 k n (x1, w64 (x2 + 1), x3, x4, x5, x6, x7, ()))) else none) else none) else (spec_l11Parts.l2 k k (x1, 0, x3, x4, x5, x6, x7, ()))
def spec_l11Parts.f (k : Nat) (a0 : De2 × De2 × De5 × De3 × DeB) : Option (Int) :=
  spec_l11Parts.l1 k k ((a0.1.length : Int), 0, a0.1, a0.2.1, a0.2.2.1, a0.2.2.2.1, a0.2.2.2.2, ())
def spec_l11Parts.Sl1 : Shape := ⟨[(1, false, [.ptr 5 0]), (3, false, [.int .i64]), (4, false, [.int .i64])], [(5, .blk 43 [.own 0, .own 1, .own 2, .own 3, .own 4]), (0, .view false 127 Ty2), (1, .view false 181 Ty2), (2, .view false 121 Ty5), (3, .view false 187 Ty3), (4, .view false 9 .str)], 6⟩
def spec_l11Parts.Sl2 : Shape := ⟨[(1, false, [.ptr 5 0]), (3, false, [.int .i64]), (5, false, [.int .i64])], [(5, .blk 43 [.own 0, .own 1, .own 2, .own 3, .own 4]), (0, .view false 127 Ty2), (1, .view false 181 Ty2), (2, .view false 121 Ty5), (3, .view false 187 Ty3), (4, .view false 9 .str)], 6⟩
def spec_l11Parts.Sl3 : Shape := ⟨[(1, false, [.ptr 5 0]), (3, false, [.int .i64]), (6, false, [.int .i64])], [(5, .blk 43 [.own 0, .own 1, .own 2, .own 3, .own 4]), (0, .view false 127 Ty2), (1, .view false 181 Ty2), (2, .view false 121 Ty5), (3, .view false 187 Ty3), (4, .view false 9 .str)], 6⟩
def spec_l11Parts.sig : Sig := ⟨[.val true (.pair (.sl 127 Ty2) (.pair (.sl 181 Ty2) (.pair (.sl 121 Ty5) (.pair (.sl 187 Ty3) (.sl 9 .str))))) [0, 0, 0, 0, 0]], [.val false TyI []]⟩
def spec_l11Parts.F : FT spec_l11Parts.sig := fun k x => spec_l11Parts.f k x.1
def spec_l11Parts.ann : AT spec_l11Parts.sig := fun k => (.seq .nil (.seq .nil (.seq (.seq .nil (.block (.loop spec_l11Parts.Sl1 (spec_l11Parts.l1 k) fun n1 => .nil))) (.seq (.seq .nil (.block (.loop spec_l11Parts.Sl2 (spec_l11Parts.l2 k) fun n1 => .nil))) (.seq (.seq .nil (.block (.loop spec_l11Parts.Sl3 (spec_l11Parts.l3 k) fun n1 => .nil))) .nil)))))
def spec_l11Parts.ent : Ent := ⟨116, spec_l11Parts.sig, spec_l11Parts.F⟩
def spec_l11Parts.ctx (k : Nat) : Ctx := ⟨tds, [], k, 65⟩
theorem spec_l11Parts.runs : RunsT spec_l11Parts.sig spec_l11Parts.ctx Tryz.f116 spec_l11Parts.ann spec_l11Parts.F := fun k x => by kernel_rfl
theorem spec_l11Parts.obls : OblT tds spec_l11Parts.sig spec_l11Parts.ctx 5 Tryz.f116 spec_l11Parts.ann := fun k => ⟨tr, ⟨tr, ⟨⟨tr, ⟨⟨by kernel_rfl, fun x => by kernel_rfl⟩, fun n => ⟨fun x => by kernel_rfl, ⟨⟨tr, ⟨tr, tr⟩⟩, ⟨⟨tr, ⟨⟨tr, tr⟩, tr⟩⟩, tr⟩⟩⟩⟩⟩, ⟨⟨tr, ⟨⟨by kernel_rfl, fun x => by kernel_rfl⟩, fun n => ⟨fun x => by kernel_rfl, ⟨⟨tr, ⟨tr, tr⟩⟩, ⟨⟨tr, ⟨⟨tr, tr⟩, tr⟩⟩, tr⟩⟩⟩⟩⟩, ⟨⟨tr, ⟨⟨by kernel_rfl, fun x => by kernel_rfl⟩, fun n => ⟨fun x => by kernel_rfl, ⟨⟨tr, ⟨tr, tr⟩⟩, ⟨⟨tr, ⟨⟨tr, tr⟩, tr⟩⟩, tr⟩⟩⟩⟩⟩, ⟨tr, tr⟩⟩⟩⟩⟩⟩
theorem spec_l11Parts.ok (k : Nat) : EntOk Tryz.prog k spec_l11Parts.ent := fn_ok (C := spec_l11Parts.ctx k) Tryz.func116 (by kernel_rfl) (by kernel_rfl) mixed tdsOk EntsOk.nil (by kernel_rfl) (leB (by kernel_rfl)) (by kernel_rfl) (spec_l11Parts.runs k) (spec_l11Parts.obls k)
/-! loop.example/g00200/spec.SetupFault -/
def spec_SetupFault.l2 (k : Nat)  : Nat → Int × De2 × De2 × De5 × De3 × DeB × Unit → Option (Int)
  | 0, _ => none
  | n + 1, (x1, x2, x3, x4, x5, x6, _) => if x1 < (x6.length : Int) then (if 0 ≤ x1 then (if x1 < (x6.length : Int) then ((spec_ReadCode.f k (el .str x6 x1.toNat)).bind fun t5 => (if ¬ t5.2 = true then (some 5) else (spec_SetupFault.l2 k n (w64 (x1 + 1), x2, x3, x4, x5, x6, ())))) else none) else none) else ((spec_l11Parts.f k (x2, (x3, (x4, (x5, x6))))).bind fun t6 => (some t6))
def spec_SetupFault.l1 (k : Nat)  : Nat → Int × De2 × De2 × De5 × De3 × DeB × Unit → Option (Int)
  | 0, _ => none
  | n + 1, (x1, x2, x3, x4, x5, x6, _) => if x1 < (x4.length : Int) then (if 0 ≤ x1 then (if x1 < (x4.length : Int) then ((spec_PortOk.f k ((el Ty5 x4 x1.toNat).1, (((el Ty5 x4 x1.toNat).2).1, ((((el Ty5 x4 x1.toNat).2).2).1, ((((el Ty5 x4 x1.toNat).2).2).2))))).bind fun t3 => (if ¬ t3 = true then (some 3) else (if 6 ≤ x1 then (some 3) else (spec_SetupFault.l1 k n (w64 (x1 + 1), x2, x3, x4, x5, x6, ()))))) else none) else none) else ((spec_RulesOk.f k x5).bind fun t4 => (if ¬ t4 = true then (some 4) else (if ¬ (x6.length : Int) = (x2.length : Int) then (some 5) else (spec_SetupFault.l2 k k (0, x2, x3, x4, x5, x6, ())))))
def spec_SetupFault.f (k : Nat) (a0 : De2 × De2 × De5 × De3 × DeB) : Option (Int) :=
  (spec_RegionsOk.f k a0.1).bind fun t1 => (if ¬ t1 = true then (some 1) else ((spec_PlanOk.f k a0.2.1).bind fun t2 => (if ¬ t2 = true then (some 2) else (spec_SetupFault.l1 k k (0, a0.1, a0.2.1, a0.2.2.1, a0.2.2.2.1, a0.2.2.2.2, ())))))
def spec_SetupFault.Sl1 : Shape := ⟨[(1, false, [.ptr 5 0]), (3, false, [.int .i64])], [(5, .blk 43 [.own 0, .own 1, .own 2, .own 3, .own 4]), (0, .view false 127 Ty2), (1, .view false 181 Ty2), (2, .view false 121 Ty5), (3, .view false 187 Ty3), (4, .view false 9 .str)], 6⟩
def spec_SetupFault.Sl2 : Shape := ⟨[(1, false, [.ptr 5 0]), (4, false, [.int .i64])], [(5, .blk 43 [.own 0, .own 1, .own 2, .own 3, .own 4]), (0, .view false 127 Ty2), (1, .view false 181 Ty2), (2, .view false 121 Ty5), (3, .view false 187 Ty3), (4, .view false 9 .str)], 6⟩
def spec_SetupFault.sig : Sig := ⟨[.val true (.pair (.sl 127 Ty2) (.pair (.sl 181 Ty2) (.pair (.sl 121 Ty5) (.pair (.sl 187 Ty3) (.sl 9 .str))))) [0, 0, 0, 0, 0]], [.val false TyI []]⟩
def spec_SetupFault.F : FT spec_SetupFault.sig := fun k x => spec_SetupFault.f k x.1
def spec_SetupFault.ann : AT spec_SetupFault.sig := fun k => (.seq .nil (.seq .nil (.seq .nil (.seq (.seq .nil (.block (.loop spec_SetupFault.Sl1 (spec_SetupFault.l1 k) fun n1 => .nil))) (.seq .nil (.seq .nil (.seq (.seq .nil (.block (.loop spec_SetupFault.Sl2 (spec_SetupFault.l2 k) fun n1 => .nil))) .nil)))))))
def spec_SetupFault.ent : Ent := ⟨62, spec_SetupFault.sig, spec_SetupFault.F⟩
def spec_SetupFault.ctx (k : Nat) : Ctx := ⟨tds, [spec_ReadCode.ent, spec_RegionsOk.ent, spec_PlanOk.ent, spec_PortOk.ent, spec_RulesOk.ent, spec_l11Parts.ent], k, 64⟩
theorem spec_SetupFault.runs : RunsT spec_SetupFault.sig spec_SetupFault.ctx Tryz.f62 spec_SetupFault.ann spec_SetupFault.F := fun k x => by kernel_rfl
theorem spec_SetupFault.obls : OblT tds spec_SetupFault.sig spec_SetupFault.ctx 5 Tryz.f62 spec_SetupFault.ann := fun k => ⟨tr, ⟨⟨tr, ⟨⟨tr, tr⟩, tr⟩⟩, ⟨⟨tr, ⟨⟨tr, tr⟩, tr⟩⟩, ⟨⟨tr, ⟨⟨by kernel_rfl, fun x => by kernel_rfl⟩, fun n => ⟨fun x => by kernel_rfl, ⟨⟨tr, ⟨tr, tr⟩⟩, ⟨⟨tr, ⟨⟨tr, tr⟩, tr⟩⟩, tr⟩⟩⟩⟩⟩, ⟨⟨tr, ⟨⟨tr, tr⟩, tr⟩⟩, ⟨⟨tr, ⟨⟨tr, tr⟩, tr⟩⟩, ⟨⟨tr, ⟨⟨by kernel_rfl, fun x => by kernel_rfl⟩, fun n => ⟨fun x => by kernel_rfl, ⟨⟨tr, ⟨tr, tr⟩⟩, ⟨⟨tr, ⟨tr, ⟨⟨tr, tr⟩, tr⟩⟩⟩, tr⟩⟩⟩⟩⟩, ⟨tr, tr⟩⟩⟩⟩⟩⟩⟩⟩
theorem spec_SetupFault.ok (k : Nat) : EntOk Tryz.prog k spec_SetupFault.ent := fn_ok (C := spec_SetupFault.ctx k) Tryz.func62 (by kernel_rfl) (by kernel_rfl) mixed tdsOk (.cons (spec_ReadCode.ok k) (.cons (spec_RegionsOk.ok k) (.cons (spec_PlanOk.ok k) (.cons (spec_PortOk.ok k) (.cons (spec_RulesOk.ok k) (.cons (spec_l11Parts.ok k) EntsOk.nil)))))) (by kernel_rfl) (leB (by kernel_rfl)) (by kernel_rfl) (spec_SetupFault.runs k) (spec_SetupFault.obls k)
/-! loop.example/g00200/spec.l12Words -/
def spec_l12Words.l1 (k : Nat)  : Nat → Int × DeI × Unit → Option (Bool)
  | 0, _ => none
  | n + 1, (x1, x2, _) => if x1 < (x2.length : Int) then (if 0 ≤ x1 then (if x1 < (x2.length : Int) then ((spec_l01In.f k (el TyI x2 x1.toNat) 0 65535).bind fun t1 => (if ¬ t1 = true then (some false) else (spec_l12Words.l1 k n (w64 (x1 + 1), x2, ())))) else none) else none) else (some true)
def spec_l12Words.f (k : Nat) (a0 : DeI) : Option (Bool) :=
  spec_l12Words.l1 k k (0, a0, ())
def spec_l12Words.Sl1 : Shape := ⟨[(0, false, [.own 0]), (3, false, [.int .i64])], [(0, .view false 3 TyI)], 1⟩
def spec_l12Words.sig : Sig := ⟨[.val false (.sl 3 TyI) [0]], [.val false .bool []]⟩
def spec_l12Words.F : FT spec_l12Words.sig := fun k x => spec_l12Words.f k x.1
def spec_l12Words.ann : AT spec_l12Words.sig := fun k => (.seq .nil (.seq (.seq .nil (.block (.loop spec_l12Words.Sl1 (spec_l12Words.l1 k) fun n1 => .nil))) .nil))
def spec_l12Words.ent : Ent := ⟨63, spec_l12Words.sig, spec_l12Words.F⟩
def spec_l12Words.ctx (k : Nat) : Ctx := ⟨tds, [spec_l01In.ent], k, 16⟩
theorem spec_l12Words.runs : RunsT spec_l12Words.sig spec_l12Words.ctx Tryz.f63 spec_l12Words.ann spec_l12Words.F := fun k x => by kernel_rfl
theorem spec_l12Words.obls : OblT tds spec_l12Words.sig spec_l12Words.ctx 1 Tryz.f63 spec_l12Words.ann := fun k => ⟨tr, ⟨⟨tr, ⟨⟨by kernel_rfl, fun x => by kernel_rfl⟩, fun n => ⟨fun x => by kernel_rfl, ⟨⟨tr, ⟨tr, tr⟩⟩, ⟨⟨tr, ⟨⟨tr, tr⟩, tr⟩⟩, tr⟩⟩⟩⟩⟩, ⟨tr, tr⟩⟩⟩
theorem spec_l12Words.ok (k : Nat) : EntOk Tryz.prog k spec_l12Words.ent := fn_ok (C := spec_l12Words.ctx k) Tryz.func63 (by kernel_rfl) (by kernel_rfl) mixed tdsOk (.cons (spec_l01In.ok k) EntsOk.nil) (by kernel_rfl) (leB (by kernel_rfl)) (by kernel_rfl) (spec_l12Words.runs k) (spec_l12Words.obls k)
/-! loop.example/g00200/spec.CpuOk -/
def spec_CpuOk.l1 (k : Nat)  : Nat → Int × Int × DeI × Unit → Option (Bool)
  | 0, _ => none
  | n + 1, (x1, x2, x3, _) => if x1 < (x3.length : Int) then (if 0 ≤ x1 then (if x1 < (x3.length : Int) then ((spec_l01In.f k (el TyI x3 x1.toNat) 0 65535).bind fun t1 => (if ¬ t1 = true then (some false) else (spec_CpuOk.l1 k n (w64 (x1 + 1), x2, x3, ())))) else none) else none) else ((spec_l01In.f k x2 0 60).bind fun t2 => (if t2 = true then (some (decide ((x3.length : Int) ≤ 8))) else (some false)))
def spec_CpuOk.f (k : Nat) (a0 : Int × DeI) : Option (Bool) :=
  spec_CpuOk.l1 k k (0, a0.1, a0.2, ())
def spec_CpuOk.Sl1 : Shape := ⟨[(1, false, [.ptr 1 0]), (3, false, [.int .i64])], [(1, .blk 71 [.int .i64, .own 0]), (0, .view false 3 TyI)], 2⟩
def spec_CpuOk.sig : Sig := ⟨[.val true (.pair TyI (.sl 3 TyI)) [0]], [.val false .bool []]⟩
def spec_CpuOk.F : FT spec_CpuOk.sig := fun k x => spec_CpuOk.f k x.1
def spec_CpuOk.ann : AT spec_CpuOk.sig := fun k => (.seq .nil (.seq (.seq .nil (.block (.loop spec_CpuOk.Sl1 (spec_CpuOk.l1 k) fun n1 => .nil))) .nil))
def spec_CpuOk.ent : Ent := ⟨64, spec_CpuOk.sig, spec_CpuOk.F⟩
def spec_CpuOk.ctx (k : Nat) : Ctx := ⟨tds, [spec_l01In.ent], k, 27⟩
theorem spec_CpuOk.runs : RunsT spec_CpuOk.sig spec_CpuOk.ctx Tryz.f64 spec_CpuOk.ann spec_CpuOk.F := fun k x => by kernel_rfl
theorem spec_CpuOk.obls : OblT tds spec_CpuOk.sig spec_CpuOk.ctx 1 Tryz.f64 spec_CpuOk.ann := fun k => ⟨tr, ⟨⟨tr, ⟨⟨by kernel_rfl, fun x => by kernel_rfl⟩, fun n => ⟨fun x => by kernel_rfl, ⟨⟨tr, ⟨tr, tr⟩⟩, ⟨⟨tr, ⟨⟨tr, tr⟩, tr⟩⟩, tr⟩⟩⟩⟩⟩, ⟨tr, tr⟩⟩⟩
theorem spec_CpuOk.ok (k : Nat) : EntOk Tryz.prog k spec_CpuOk.ent := fn_ok (C := spec_CpuOk.ctx k) Tryz.func64 (by kernel_rfl) (by kernel_rfl) mixed tdsOk (.cons (spec_l01In.ok k) EntsOk.nil) (by kernel_rfl) (leB (by kernel_rfl)) (by kernel_rfl) (spec_CpuOk.runs k) (spec_CpuOk.obls k)
/-! loop.example/g00200/spec.KernelOk -/
def spec_KernelOk.l2 (k : Nat)  : Nat → Int × Int × Bool × De2 × De2 × De5 × De3 × DeB × DeI × DeP × DeL × DeI × De5 × Unit → Option (Bool)
  | 0, _ => none
  | n + 1, (x1, x2, x3, x4, x5, x6, x7, x8, x9, x10, x11, x12, x13, _) => if x1 < (x11.length : Int) then (if 0 ≤ x1 then (if x1 < (x11.length : Int) then (if 0 ≤ x1 then (if x1 < (x6.length : Int) then (if (((((el Ty5 x6 x1.toNat).2).2).2).1) < ((el (.sl 210 Ty2) x11 x1.toNat).length : Int) then (some false) else (spec_KernelOk.l2 k n (w64 (x1 + 1), x2, x3, x4, x5, x6, x7, x8, x9, x10, x11, x12, x13, ()))) else none) else none) else none) else none) else (some true)
def spec_KernelOk.l1 (k : Nat)  : Nat → Int × Int × Bool × De2 × De2 × De5 × De3 × DeB × DeI × DeP × DeL × DeI × De5 × Unit → Option (Bool)
  | 0, _ => none
  | n + 1, (x1, x2, x3, x4, x5, x6, x7, x8, x9, x10, x11, x12, x13, _) => if x1 < (x10.length : Int) then (if 0 ≤ x1 then (if x1 < (x10.length : Int) then ((spec_l01In.f k ((el TyP x10 x1.toNat).1) 0 1).bind fun t5 => (if ¬ t5 = true then (some false) else ((spec_CpuOk.f k (((el TyP x10 x1.toNat).2).1)).bind fun t6 => (if ¬ t6 = true then (some false) else ((spec_l01In.f k ((((el TyP x10 x1.toNat).2).2).1) 0 1000000000).bind fun t7 => (if ¬ t7 = true then (some false) else ((spec_l01In.f k (((((el TyP x10 x1.toNat).2).2).2).1) 0 1000000000).bind fun t8 => (if ¬ t8 = true then (some false) else ((spec_l01In.f k (((((el TyP x10 x1.toNat).2).2).2).2) 0 1000000000).bind fun t9 => (if ¬ t9 = true then (some false) else (spec_KernelOk.l1 k n (w64 (x1 + 1), x2, x3, x4, x5, x6, x7, x8, x9, x10, x11, x12, x13, ())))))))))))) else none) else none) else (spec_KernelOk.l2 k k (0, x2, x3, x4, x5, x6, x7, x8, x9, x10, x11, x12, x13, ()))
def spec_KernelOk.f (k : Nat) (a0 : DeK) : Option (Bool) :=
  (spec_SetupFault.f k a0.1).bind fun t1 => (if ¬ t1 = 0 then (some false) else (if ¬ (a0.2.1.length : Int) = 64 then (some false) else ((spec_l12Words.f k a0.2.1).bind fun t2 => (if ¬ t2 = true then (some false) else (if ¬ (a0.2.2.1.length : Int) = (a0.1.1.length : Int) then (some false) else (if ¬ (a0.2.2.2.1.length : Int) = (a0.1.2.2.1.length : Int) then (some false) else (if ¬ (a0.2.2.2.2.1.length : Int) = 8 then (some false) else ((spec_l12Words.f k a0.2.2.2.2.1).bind fun t3 => (if ¬ t3 = true then (some false) else ((spec_l01In.f k a0.2.2.2.2.2.1 0 1000000000).bind fun t4 => (if ¬ t4 = true then (some false) else (spec_KernelOk.l1 k k (0, a0.2.2.2.2.2.1, a0.2.2.2.2.2.2.1, a0.1.1, a0.1.2.1, a0.1.2.2.1, a0.1.2.2.2.1, a0.1.2.2.2.2, a0.2.1, a0.2.2.1, a0.2.2.2.1, a0.2.2.2.2.1, a0.2.2.2.2.2.2.2, ())))))))))))))
def spec_KernelOk.Sl1 : Shape := ⟨[(1, false, [.ptr 10 0]), (3, false, [.int .i64])], [(10, .blk 49 [.own 0, .own 1, .own 2, .own 3, .own 4, .own 5, .own 6, .own 7, .own 8, .int .i64, .bool, .own 9]), (0, .view false 127 Ty2), (1, .view false 181 Ty2), (2, .view false 121 Ty5), (3, .view false 187 Ty3), (4, .view false 9 .str), (5, .view false 3 TyI), (6, .view false 73 TyP), (7, .view false 115 (.sl 210 Ty2)), (8, .view false 3 TyI), (9, .view false 140 Ty5)], 11⟩
def spec_KernelOk.Sl2 : Shape := ⟨[(1, false, [.ptr 10 0]), (5, false, [.int .i64])], [(10, .blk 49 [.own 0, .own 1, .own 2, .own 3, .own 4, .own 5, .own 6, .own 7, .own 8, .int .i64, .bool, .own 9]), (0, .view false 127 Ty2), (1, .view false 181 Ty2), (2, .view false 121 Ty5), (3, .view false 187 Ty3), (4, .view false 9 .str), (5, .view false 3 TyI), (6, .view false 73 TyP), (7, .view false 115 (.sl 210 Ty2)), (8, .view false 3 TyI), (9, .view false 140 Ty5)], 11⟩
def spec_KernelOk.sig : Sig := ⟨[.val true (.pair (.pair (.sl 127 Ty2) (.pair (.sl 181 Ty2) (.pair (.sl 121 Ty5) (.pair (.sl 187 Ty3) (.sl 9 .str))))) (.pair (.sl 3 TyI) (.pair (.sl 73 TyP) (.pair (.sl 115 (.sl 210 Ty2)) (.pair (.sl 3 TyI) (.pair TyI (.pair .bool (.sl 140 Ty5)))))))) [0, 0, 0, 0, 0, 0, 0, 0, 0, 0]], [.val false .bool []]⟩
def spec_KernelOk.F : FT spec_KernelOk.sig := fun k x => spec_KernelOk.f k x.1
def spec_KernelOk.ann : AT spec_KernelOk.sig := fun k => (.seq .nil (.seq .nil (.seq (.seq .nil (.block (.loop spec_KernelOk.Sl1 (spec_KernelOk.l1 k) fun n1 => .nil))) (.seq (.seq .nil (.block (.loop spec_KernelOk.Sl2 (spec_KernelOk.l2 k) fun n1 => .nil))) .nil))))
def spec_KernelOk.ent : Ent := ⟨21, spec_KernelOk.sig, spec_KernelOk.F⟩
def spec_KernelOk.ctx (k : Nat) : Ctx := ⟨tds, [spec_l01In.ent, spec_SetupFault.ent, spec_l12Words.ent, spec_CpuOk.ent], k, 124⟩
theorem spec_KernelOk.runs : RunsT spec_KernelOk.sig spec_KernelOk.ctx Tryz.f21 spec_KernelOk.ann spec_KernelOk.F := fun k x => by kernel_rfl
theorem spec_KernelOk.obls : OblT tds spec_KernelOk.sig spec_KernelOk.ctx 10 Tryz.f21 spec_KernelOk.ann := fun k => ⟨tr, ⟨⟨tr, ⟨⟨tr, tr⟩, tr⟩⟩, ⟨⟨tr, ⟨⟨by kernel_rfl, fun x => by kernel_rfl⟩, fun n => ⟨fun x => by kernel_rfl, ⟨⟨tr, ⟨tr, tr⟩⟩, ⟨⟨tr, ⟨tr, ⟨⟨tr, tr⟩, tr⟩⟩⟩, tr⟩⟩⟩⟩⟩, ⟨⟨tr, ⟨⟨by kernel_rfl, fun x => by kernel_rfl⟩, fun n => ⟨fun x => by kernel_rfl, ⟨⟨tr, ⟨tr, tr⟩⟩, ⟨⟨tr, ⟨⟨tr, tr⟩, tr⟩⟩, tr⟩⟩⟩⟩⟩, ⟨tr, tr⟩⟩⟩⟩⟩
theorem spec_KernelOk.ok (k : Nat) : EntOk Tryz.prog k spec_KernelOk.ent := fn_ok (C := spec_KernelOk.ctx k) Tryz.func21 (by kernel_rfl) (by kernel_rfl) mixed tdsOk (.cons (spec_l01In.ok k) (.cons (spec_SetupFault.ok k) (.cons (spec_l12Words.ok k) (.cons (spec_CpuOk.ok k) EntsOk.nil)))) (by kernel_rfl) (leB (by kernel_rfl)) (by kernel_rfl) (spec_KernelOk.runs k) (spec_KernelOk.obls k)
/-! loop.example/g00200/spec.CostOf -/
def spec_CostOf.j2 (k : Nat)  : Int × Bool × Unit → Option (Int)
  | (z1, z2, _) => if z2 = true then (some 3) else (if z1 = 13 then (some 4) else (if z1 = 14 then (some 4) else (some 1)))
def spec_CostOf.j1 (k : Nat)  : Int × Bool × Unit → Option (Int)
  | (z1, z2, _) => if z2 = true then (some 2) else (if z1 = 6 then (spec_CostOf.j2 k (z1, true, ())) else (spec_CostOf.j2 k (z1, decide (z1 = 7), ())))
def spec_CostOf.f (k : Nat) (a0 : Int) : Option (Int) :=
  if a0 = 2 then (spec_CostOf.j1 k (a0, true, ())) else (if a0 = 3 then (spec_CostOf.j1 k (a0, true, ())) else (if a0 = 15 then (spec_CostOf.j1 k (a0, true, ())) else (spec_CostOf.j1 k (a0, decide (a0 = 16), ()))))
def spec_CostOf.Sj1 : Shape := ⟨[(3, false, [.int .i64]), (4, false, [.bool])], [], 0⟩
def spec_CostOf.Sj2 : Shape := ⟨[(3, false, [.int .i64]), (9, false, [.bool])], [], 0⟩
def spec_CostOf.sig : Sig := ⟨[.val false TyI []], [.val false TyI []]⟩
def spec_CostOf.F : FT spec_CostOf.sig := fun k x => spec_CostOf.f k x.1
def spec_CostOf.ann : AT spec_CostOf.sig := fun k => (.seq .nil (.seq (.seq .nil (.block (.join spec_CostOf.Sj1 (spec_CostOf.j1 k) .nil (.cond .nil (.join spec_CostOf.Sj2 (spec_CostOf.j2 k) .nil .nil))))) .nil))
def spec_CostOf.ent : Ent := ⟨24, spec_CostOf.sig, spec_CostOf.F⟩
def spec_CostOf.ctx (k : Nat) : Ctx := ⟨tds, [], k, 15⟩
theorem spec_CostOf.runs : RunsT spec_CostOf.sig spec_CostOf.ctx Tryz.f24 spec_CostOf.ann spec_CostOf.F := fun k x => by kernel_rfl
theorem spec_CostOf.obls : OblT tds spec_CostOf.sig spec_CostOf.ctx 0 Tryz.f24 spec_CostOf.ann := fun k => ⟨tr, ⟨⟨tr, ⟨⟨by kernel_rfl, fun x => by kernel_rfl⟩, ⟨tr, ⟨tr, ⟨tr, ⟨tr, ⟨tr, ⟨tr, tr⟩⟩⟩⟩⟩⟩, ⟨⟨tr, tr⟩, ⟨⟨by kernel_rfl, fun x => by kernel_rfl⟩, ⟨tr, ⟨tr, tr⟩⟩, ⟨⟨tr, tr⟩, ⟨⟨tr, ⟨tr, tr⟩⟩, ⟨⟨tr, tr⟩, tr⟩⟩⟩⟩⟩⟩⟩, ⟨tr, tr⟩⟩⟩
theorem spec_CostOf.ok (k : Nat) : EntOk Tryz.prog k spec_CostOf.ent := fn_ok (C := spec_CostOf.ctx k) Tryz.func24 (by kernel_rfl) (by kernel_rfl) mixed tdsOk EntsOk.nil (by kernel_rfl) (leB (by kernel_rfl)) (by kernel_rfl) (spec_CostOf.runs k) (spec_CostOf.obls k)
/-! loop.example/g00200/spec.CodeOk -/
def spec_CodeOk.l1 (k : Nat)  : Nat → Int × De2 × Unit → Option (Bool)
  | 0, _ => none
  | n + 1, (x1, x2, _) => if x1 < (x2.length : Int) then (if 0 ≤ x1 then (if x1 < (x2.length : Int) then ((spec_l01In.f k ((el Ty2 x2 x1.toNat).1) 0 255).bind fun t1 => (if ¬ t1 = true then (some false) else (if 0 ≤ x1 then (if x1 < (x2.length : Int) then ((spec_l01In.f k ((el Ty2 x2 x1.toNat).2) 0 255).bind fun t2 => (if ¬ t2 = true then (some false) else (spec_CodeOk.l1 k n (w64 (x1 + 1), x2, ())))) else none) else none))) else none) else none) else (some (decide ((x2.length : Int) ≤ 60)))
def spec_CodeOk.f (k : Nat) (a0 : De2) : Option (Bool) :=
  spec_CodeOk.l1 k k (0, a0, ())
def spec_CodeOk.Sl1 : Shape := ⟨[(0, false, [.own 0]), (3, false, [.int .i64])], [(0, .view false 76 Ty2)], 1⟩
def spec_CodeOk.sig : Sig := ⟨[.val false (.sl 76 Ty2) [0]], [.val false .bool []]⟩
def spec_CodeOk.F : FT spec_CodeOk.sig := fun k x => spec_CodeOk.f k x.1
def spec_CodeOk.ann : AT spec_CodeOk.sig := fun k => (.seq .nil (.seq (.seq .nil (.block (.loop spec_CodeOk.Sl1 (spec_CodeOk.l1 k) fun n1 => .nil))) .nil))
def spec_CodeOk.ent : Ent := ⟨117, spec_CodeOk.sig, spec_CodeOk.F⟩
def spec_CodeOk.ctx (k : Nat) : Ctx := ⟨tds, [spec_l01In.ent], k, 29⟩
theorem spec_CodeOk.runs : RunsT spec_CodeOk.sig spec_CodeOk.ctx Tryz.f117 spec_CodeOk.ann spec_CodeOk.F := fun k x => by kernel_rfl
theorem spec_CodeOk.obls : OblT tds spec_CodeOk.sig spec_CodeOk.ctx 1 Tryz.f117 spec_CodeOk.ann := fun k => ⟨tr, ⟨⟨tr, ⟨⟨by kernel_rfl, fun x => by kernel_rfl⟩, fun n => ⟨fun x => by kernel_rfl, ⟨⟨tr, ⟨tr, tr⟩⟩, ⟨⟨tr, ⟨⟨tr, tr⟩, tr⟩⟩, tr⟩⟩⟩⟩⟩, ⟨tr, tr⟩⟩⟩
theorem spec_CodeOk.ok (k : Nat) : EntOk Tryz.prog k spec_CodeOk.ent := fn_ok (C := spec_CodeOk.ctx k) Tryz.func117 (by kernel_rfl) (by kernel_rfl) mixed tdsOk (.cons (spec_l01In.ok k) EntsOk.nil) (by kernel_rfl) (leB (by kernel_rfl)) (by kernel_rfl) (spec_CodeOk.runs k) (spec_CodeOk.obls k)
/-! loop.example/g00200/spec.l06Needs -/
def spec_l06Needs.f (k : Nat) (a0 : Int) : Option (Int × Int) :=
  ((some ([0, 0, 1, 2, 2, 2, 2, 2, 2, 0, 1, 1, 1, 1, 0, 0, 1, 0] : DeI))).bind fun y1 => (((some ([0, 1, 1, 0, 1, 1, 1, 1, 1, 0, 0, 2, 0, 0, 0, 0, 0, 1] : DeI))).bind fun y2 => (if 0 ≤ a0 then (if a0 < (y1.length : Int) then (if 0 ≤ a0 then (if a0 < (y2.length : Int) then (some (el TyI y1 a0.toNat, el TyI y2 a0.toNat)) else none) else none) else none) else none))
def spec_l06Needs.sig : Sig := ⟨[.val false TyI []], [.val false TyI [], .val false TyI []]⟩
def spec_l06Needs.F : FT spec_l06Needs.sig := fun k x => spec_l06Needs.f k x.1
def spec_l06Needs.ann : AT spec_l06Needs.sig := fun k => .nil
def spec_l06Needs.ent : Ent := ⟨118, spec_l06Needs.sig, spec_l06Needs.F⟩
def spec_l06Needs.ctx (k : Nat) : Ctx := ⟨tds, [], k, 16⟩
theorem spec_l06Needs.runs : RunsT spec_l06Needs.sig spec_l06Needs.ctx Tryz.f118 spec_l06Needs.ann spec_l06Needs.F := fun k x => by kernel_rfl
theorem spec_l06Needs.obls : OblT tds spec_l06Needs.sig spec_l06Needs.ctx 0 Tryz.f118 spec_l06Needs.ann := fun k => ⟨tr, ⟨tr, ⟨tr, ⟨tr, tr⟩⟩⟩⟩
theorem spec_l06Needs.ok (k : Nat) : EntOk Tryz.prog k spec_l06Needs.ent := fn_ok (C := spec_l06Needs.ctx k) Tryz.func118 (by kernel_rfl) (by kernel_rfl) mixed tdsOk EntsOk.nil (by kernel_rfl) (leB (by kernel_rfl)) (by kernel_rfl) (spec_l06Needs.runs k) (spec_l06Needs.obls k)
/-! loop.example/g00200/spec.l04At -/
def spec_l04At.f (k : Nat) (a0 : DeI) (a1 : Int × Int) (a2 : Int) : Option (Int) :=
  if a2 < 0 then (some (-1)) else (if a1.2 ≤ a2 then (some (-1)) else ((spec_l01In.f k a1.1 0 (w64 ((a0.length : Int) - 1))).bind fun t1 => (if ¬ t1 = true then (some (-1)) else (if (w64 ((a0.length : Int) - a1.1)) ≤ a2 then (some (-1)) else (some (w64 (a1.1 + a2)))))))
def spec_l04At.sig : Sig := ⟨[.val true (.sl 3 TyI) [0], .val true Ty2 [], .val false TyI []], [.val false TyI []]⟩
def spec_l04At.F : FT spec_l04At.sig := fun k x => spec_l04At.f k x.1 x.2.1 x.2.2.1
def spec_l04At.ann : AT spec_l04At.sig := fun k => .nil
def spec_l04At.ent : Ent := ⟨157, spec_l04At.sig, spec_l04At.F⟩
def spec_l04At.ctx (k : Nat) : Ctx := ⟨tds, [spec_l01In.ent], k, 39⟩
theorem spec_l04At.runs : RunsT spec_l04At.sig spec_l04At.ctx Tryz.f157 spec_l04At.ann spec_l04At.F := fun k x => by kernel_rfl
theorem spec_l04At.obls : OblT tds spec_l04At.sig spec_l04At.ctx 1 Tryz.f157 spec_l04At.ann := fun k => ⟨tr, ⟨⟨tr, ⟨⟨tr, tr⟩, tr⟩⟩, ⟨tr, tr⟩⟩⟩
theorem spec_l04At.ok (k : Nat) : EntOk Tryz.prog k spec_l04At.ent := fn_ok (C := spec_l04At.ctx k) Tryz.func157 (by kernel_rfl) (by kernel_rfl) mixed tdsOk (.cons (spec_l01In.ok k) EntsOk.nil) (by kernel_rfl) (leB (by kernel_rfl)) (by kernel_rfl) (spec_l04At.runs k) (spec_l04At.obls k)
/-! loop.example/g00200/spec.LoadCell -/
def spec_LoadCell.f (k : Nat) (a0 : DeI) (a1 : Int × Int) (a2 : Int) : Option (Int × Bool) :=
  (spec_l04At.f k a0 a1 a2).bind fun t1 => (if t1 < 0 then (some (0, false)) else (if 0 ≤ t1 then (if t1 < (a0.length : Int) then (some (el TyI a0 t1.toNat, true)) else none) else none))
def spec_LoadCell.sig : Sig := ⟨[.val true (.sl 3 TyI) [0], .val true Ty2 [], .val false TyI []], [.val false TyI [], .val false .bool []]⟩
def spec_LoadCell.F : FT spec_LoadCell.sig := fun k x => spec_LoadCell.f k x.1 x.2.1 x.2.2.1
def spec_LoadCell.ann : AT spec_LoadCell.sig := fun k => .nil
def spec_LoadCell.ent : Ent := ⟨119, spec_LoadCell.sig, spec_LoadCell.F⟩
def spec_LoadCell.ctx (k : Nat) : Ctx := ⟨tds, [spec_l04At.ent], k, 20⟩
theorem spec_LoadCell.runs : RunsT spec_LoadCell.sig spec_LoadCell.ctx Tryz.f119 spec_LoadCell.ann spec_LoadCell.F := fun k x => by kernel_rfl
theorem spec_LoadCell.obls : OblT tds spec_LoadCell.sig spec_LoadCell.ctx 1 Tryz.f119 spec_LoadCell.ann := fun k => ⟨tr, ⟨tr, ⟨⟨tr, ⟨⟨tr, tr⟩, tr⟩⟩, ⟨tr, tr⟩⟩⟩⟩
theorem spec_LoadCell.ok (k : Nat) : EntOk Tryz.prog k spec_LoadCell.ent := fn_ok (C := spec_LoadCell.ctx k) Tryz.func119 (by kernel_rfl) (by kernel_rfl) mixed tdsOk (.cons (spec_l04At.ok k) EntsOk.nil) (by kernel_rfl) (leB (by kernel_rfl)) (by kernel_rfl) (spec_LoadCell.runs k) (spec_LoadCell.obls k)
/-! loop.example/g00200/spec.l04Mod -/
def spec_l04Mod.f (k : Nat) (a0 : Int) : Option (Int) :=
  if (Int.tmod a0 65536) < 0 then (some (w64 ((Int.tmod a0 65536) + 65536))) else (some (Int.tmod a0 65536))
def spec_l04Mod.sig : Sig := ⟨[.val false TyI []], [.val false TyI []]⟩
def spec_l04Mod.F : FT spec_l04Mod.sig := fun k x => spec_l04Mod.f k x.1
def spec_l04Mod.ann : AT spec_l04Mod.sig := fun k => .nil
def spec_l04Mod.ent : Ent := ⟨120, spec_l04Mod.sig, spec_l04Mod.F⟩
def spec_l04Mod.ctx (k : Nat) : Ctx := ⟨tds, [], k, 10⟩
theorem spec_l04Mod.runs : RunsT spec_l04Mod.sig spec_l04Mod.ctx Tryz.f120 spec_l04Mod.ann spec_l04Mod.F := fun k x => by kernel_rfl
theorem spec_l04Mod.obls : OblT tds spec_l04Mod.sig spec_l04Mod.ctx 0 Tryz.f120 spec_l04Mod.ann := fun k => ⟨tr, ⟨tr, ⟨⟨tr, ⟨tr, tr⟩⟩, ⟨tr, tr⟩⟩⟩⟩
theorem spec_l04Mod.ok (k : Nat) : EntOk Tryz.prog k spec_l04Mod.ent := fn_ok (C := spec_l04Mod.ctx k) Tryz.func120 (by kernel_rfl) (by kernel_rfl) mixed tdsOk EntsOk.nil (by kernel_rfl) (leB (by kernel_rfl)) (by kernel_rfl) (spec_l04Mod.runs k) (spec_l04Mod.obls k)
/-! loop.example/g00200/spec.StoreCell -/
def spec_StoreCell.f (k : Nat) (a0 : DeI) (a1 : Int × Int) (a2 : Int) (a3 : Int) : Option (DeI × Bool) :=
  (spec_l04Copy.f k a0).bind fun t1 => ((spec_l04At.f k a0 a1 a2).bind fun t2 => (if t2 < 0 then (some (t1, false)) else ((spec_l04Mod.f k a3).bind fun t3 => (if 0 ≤ t2 then (if t2 < (t1.length : Int) then (((some (t1.set t2.toNat t3))).bind fun y4 => (some (y4, true))) else none) else none))))
def spec_StoreCell.sig : Sig := ⟨[.val true (.sl 3 TyI) [0], .val true Ty2 [], .val false TyI [], .val false TyI []], [.val true (.sl 3 TyI) [none], .val false .bool []]⟩
def spec_StoreCell.F : FT spec_StoreCell.sig := fun k x => spec_StoreCell.f k x.1 x.2.1 x.2.2.1 x.2.2.2.1
def spec_StoreCell.ann : AT spec_StoreCell.sig := fun k => .nil
def spec_StoreCell.ent : Ent := ⟨121, spec_StoreCell.sig, spec_StoreCell.F⟩
def spec_StoreCell.ctx (k : Nat) : Ctx := ⟨tds, [spec_l04Copy.ent, spec_l04Mod.ent, spec_l04At.ent], k, 28⟩
theorem spec_StoreCell.runs : RunsT spec_StoreCell.sig spec_StoreCell.ctx Tryz.f121 spec_StoreCell.ann spec_StoreCell.F := fun k x => by kernel_rfl
theorem spec_StoreCell.obls : OblT tds spec_StoreCell.sig spec_StoreCell.ctx 1 Tryz.f121 spec_StoreCell.ann := fun k => ⟨tr, ⟨tr, ⟨tr, ⟨⟨tr, ⟨⟨tr, tr⟩, tr⟩⟩, ⟨tr, ⟨tr, tr⟩⟩⟩⟩⟩⟩
theorem spec_StoreCell.ok (k : Nat) : EntOk Tryz.prog k spec_StoreCell.ent := fn_ok (C := spec_StoreCell.ctx k) Tryz.func121 (by kernel_rfl) (by kernel_rfl) mixed tdsOk (.cons (spec_l04Copy.ok k) (.cons (spec_l04Mod.ok k) (.cons (spec_l04At.ok k) EntsOk.nil))) (by kernel_rfl) (leB (by kernel_rfl)) (by kernel_rfl) (spec_StoreCell.runs k) (spec_StoreCell.obls k)
/-! loop.example/g00200/spec.l06Sum -/
def spec_l06Sum.f (k : Nat) (a0 : Int) (a1 : Int) (a2 : Int) : Option (Int × Bool) :=
  if a0 = 4 then ((spec_l04Mod.f k (w64 (a1 + a2))).bind fun t1 => (some (t1, true))) else (if a0 = 5 then ((spec_l04Mod.f k (w64 (a1 - a2))).bind fun t2 => (some (t2, true))) else (if a0 = 6 then ((spec_l04Mod.f k (w64 (a1 * a2))).bind fun t3 => (some (t3, true))) else (if a0 = 7 then (if a2 = 0 then (some (0, false)) else (if ¬ a2 = 0 then (some (w64 (Int.tdiv a1 a2), true)) else none)) else (if a1 < a2 then (some (1, true)) else (some (0, true))))))
def spec_l06Sum.sig : Sig := ⟨[.val false TyI [], .val false TyI [], .val false TyI []], [.val false TyI [], .val false .bool []]⟩
def spec_l06Sum.F : FT spec_l06Sum.sig := fun k x => spec_l06Sum.f k x.1 x.2.1 x.2.2.1
def spec_l06Sum.ann : AT spec_l06Sum.sig := fun k => .nil
def spec_l06Sum.ent : Ent := ⟨122, spec_l06Sum.sig, spec_l06Sum.F⟩
def spec_l06Sum.ctx (k : Nat) : Ctx := ⟨tds, [spec_l04Mod.ent], k, 37⟩
theorem spec_l06Sum.runs : RunsT spec_l06Sum.sig spec_l06Sum.ctx Tryz.f122 spec_l06Sum.ann spec_l06Sum.F := fun k x => by kernel_rfl
theorem spec_l06Sum.obls : OblT tds spec_l06Sum.sig spec_l06Sum.ctx 0 Tryz.f122 spec_l06Sum.ann := fun k => ⟨tr, ⟨⟨tr, ⟨tr, ⟨⟨tr, tr⟩, ⟨tr, ⟨⟨tr, tr⟩, ⟨tr, ⟨⟨tr, tr⟩, ⟨tr, ⟨⟨⟨tr, ⟨⟨tr, tr⟩, tr⟩⟩, ⟨tr, tr⟩⟩, tr⟩⟩⟩⟩⟩⟩⟩⟩⟩, ⟨⟨tr, ⟨⟨tr, tr⟩, tr⟩⟩, ⟨tr, tr⟩⟩⟩⟩
theorem spec_l06Sum.ok (k : Nat) : EntOk Tryz.prog k spec_l06Sum.ent := fn_ok (C := spec_l06Sum.ctx k) Tryz.func122 (by kernel_rfl) (by kernel_rfl) mixed tdsOk (.cons (spec_l04Mod.ok k) EntsOk.nil) (by kernel_rfl) (leB (by kernel_rfl)) (by kernel_rfl) (spec_l06Sum.runs k) (spec_l06Sum.obls k)
/-! loop.example/g00200/spec.StepCpu -/
def spec_StepCpu.j1 (k : Nat)  : Int × Int × Int × Int × Int × Int × Int × Int × Int × Int × Int × Int × Int × Int × DeI × DeI × DeI × DeI × DeI × DeI × Unit → Option ((Int × DeI) × DeI × Int × Int × Int × Int)
  | (z1, z2, z3, z4, z5, z6, z7, z8, z9, z10, z11, z12, z13, z14, z15, z16, z17, z18, z19, z20, _) => if 8 < (w64 ((w64 (z3 - z1)) + z2)) then ((spec_l04Copy.f k z15).bind fun t22 => (some ((z9, z18), t22, (0, (0, (0, 4)))))) else (if 60 < z10 then (some ((60, z19), z20, (z11, (z12, (z13, z14))))) else (some ((z10, z19), z20, (z11, (z12, (z13, z14))))))
def spec_StepCpu.j4 (k : Nat)  : Int × Int × Int × Int × Int × Bool × Int × Int × Int × Int × Int × Int × Int × Int × Int × Int × Int × Int × Int × DeI × DeI × DeI × DeI × DeI × DeI × Unit → Option ((Int × DeI) × DeI × Int × Int × Int × Int)
  | (z1, z2, z3, z4, z5, z6, z7, z8, z9, z10, z11, z12, z13, z14, z15, z16, z17, z18, z19, z20, z21, z22, z23, z24, z25, _) => if z6 = true then (spec_StepCpu.j1 k (z2, z3, z4, z7, z8, z9, z10, z11, z12, z15, z13, z14, 0, 0, z20, z21, z22, z23, z24, z25, ())) else (if z5 = 17 then ((spec_l04Mod.f k z1).bind fun t29 => (((some ([t29] : DeI))).bind fun y30 => (if (z24.length + y30.length) * 8 ≤ 140737488355328 then (((some (z24 ++ y30))).bind fun y31 => (spec_StepCpu.j1 k (z2, z3, z4, z7, z8, z9, z10, z11, z12, z15, z16, z17, z18, z19, z20, z21, z22, z23, y31, z25, ()))) else none))) else (spec_StepCpu.j1 k (z2, z3, z4, z7, z8, z9, z10, z11, z12, z15, z16, z17, z18, z19, z20, z21, z22, z23, z24, z25, ())))
def spec_StepCpu.j3 (k : Nat)  : Int × Int × Int × Int × Int × Bool × Int × Int × Int × Int × Int × Int × Int × Int × Int × Int × Int × Int × Int × Int × DeI × DeI × DeI × DeI × DeI × DeI × DeI × Unit → Option ((Int × DeI) × DeI × Int × Int × Int × Int)
  | (z1, z2, z3, z4, z5, z6, z7, z8, z9, z10, z11, z12, z13, z14, z15, z16, z17, z18, z19, z20, z21, z22, z23, z24, z25, z26, z27, _) => if z6 = true then (if 0 ≤ w64 (z4 - 1) then (if w64 (z4 - 1) < (z21.length : Int) then (spec_StepCpu.j1 k (z2, z3, z4, z8, z9, z10, z11, z12, z13, z16, z14, z15, el TyI z21 ((w64 (z4 - 1)).toNat), 0, z22, z23, z24, z25, z26, z27, ())) else none) else none) else (if z5 = 14 then (spec_StepCpu.j4 k (z1, z2, z3, z4, z5, true, z8, z9, z10, z11, z12, z13, z14, z15, z16, z17, z18, z19, z20, z22, z23, z24, z25, z26, z27, ())) else (spec_StepCpu.j4 k (z1, z2, z3, z4, z5, decide (z5 = 15), z8, z9, z10, z11, z12, z13, z14, z15, z16, z17, z18, z19, z20, z22, z23, z24, z25, z26, z27, ())))
def spec_StepCpu.j2 (k : Nat)  : Int × Int × Int × Int × Int × Bool × Int × Int × Int × Int × Int × Int × Int × Int × Int × Int × Int × Int × Int × Int × DeI × DeI × DeI × DeI × DeI × DeI × DeI × Unit → Option ((Int × DeI) × DeI × Int × Int × Int × Int)
  | (z1, z2, z3, z4, z5, z6, z7, z8, z9, z10, z11, z12, z13, z14, z15, z16, z17, z18, z19, z20, z21, z22, z23, z24, z25, z26, z27, _) => if z6 = true then (if 0 ≤ w64 (z4 - 2) then (if w64 (z4 - 2) < (z21.length : Int) then (if 0 ≤ w64 (z4 - 1) then (if w64 (z4 - 1) < (z21.length : Int) then ((spec_l06Sum.f k z14 (el TyI z21 ((w64 (z4 - 2)).toNat)) (el TyI z21 ((w64 (z4 - 1)).toNat))).bind fun t23 => (if ¬ t23.2 = true then ((spec_l04Copy.f k z22).bind fun t24 => (some ((z13, z25), t24, (0, (0, (0, 3)))))) else (((some ([t23.1] : DeI))).bind fun y25 => (if (z26.length + y25.length) * 8 ≤ 140737488355328 then (((some (z26 ++ y25))).bind fun y26 => (spec_StepCpu.j1 k (z2, z3, z4, z8, z9, z10, z11, z12, z13, z16, z17, z18, z19, z20, z22, z23, z24, z25, y26, z27, ()))) else none)))) else none) else none) else none) else none) else (if z5 = 9 then (spec_StepCpu.j1 k (z2, z3, z4, z8, z9, z10, z11, z12, z13, z15, z17, z18, z19, z20, z22, z23, z24, z25, z26, z27, ())) else (if z5 = 10 then (if 0 ≤ w64 (z4 - 1) then (if w64 (z4 - 1) < (z21.length : Int) then (if (el TyI z21 ((w64 (z4 - 1)).toNat)) = 0 then (spec_StepCpu.j1 k (z2, z3, z4, z8, z9, z10, z11, z12, z13, z15, z17, z18, z19, z20, z22, z23, z24, z25, z26, z27, ())) else (spec_StepCpu.j1 k (z2, z3, z4, z8, z9, z10, z11, z12, z13, z16, z17, z18, z19, z20, z22, z23, z24, z25, z26, z27, ()))) else none) else none) else (if z5 = 11 then (if 0 ≤ w64 (z4 - 1) then (if w64 (z4 - 1) < (z21.length : Int) then (if 0 ≤ w64 (z4 - 1) then (if w64 (z4 - 1) < (z21.length : Int) then (((some ([el TyI z21 ((w64 (z4 - 1)).toNat), el TyI z21 ((w64 (z4 - 1)).toNat)] : DeI))).bind fun y27 => (if (z26.length + y27.length) * 8 ≤ 140737488355328 then (((some (z26 ++ y27))).bind fun y28 => (spec_StepCpu.j1 k (z2, z3, z4, z8, z9, z10, z11, z12, z13, z16, z17, z18, z19, z20, z22, z23, z24, z25, y28, z27, ()))) else none)) else none) else none) else none) else none) else (if z5 = 13 then (spec_StepCpu.j3 k (z1, z2, z3, z4, z5, true, z7, z8, z9, z10, z11, z12, z13, z14, z15, z16, z17, z18, z19, z20, z21, z22, z23, z24, z25, z26, z27, ())) else (spec_StepCpu.j3 k (z1, z2, z3, z4, z5, decide (z5 = 16), z7, z8, z9, z10, z11, z12, z13, z14, z15, z16, z17, z18, z19, z20, z21, z22, z23, z24, z25, z26, z27, ()))))))
def spec_StepCpu.f (k : Nat) (a0 : Int × DeI) (a1 : De2) (a2 : DeI) (a3 : Int × Int) (a4 : Int) : Option ((Int × DeI) × DeI × Int × Int × Int × Int) :=
  (spec_l06Copy.f k a0).bind fun t1 => ((spec_CpuOk.f k a0).bind fun t2 => (if ¬ t2 = true then ((spec_l04Copy.f k a2).bind fun t3 => (some (t1, t3, (0, (0, (0, 6)))))) else ((spec_CodeOk.f k a1).bind fun t4 => (if ¬ t4 = true then ((spec_l04Copy.f k a2).bind fun t5 => (some (t1, t5, (0, (0, (0, 6)))))) else (if (a1.length : Int) ≤ a0.1 then ((spec_l04Copy.f k a2).bind fun t6 => (some (t1, t6, (0, (0, (0, 6)))))) else (if 0 ≤ a0.1 then (if a0.1 < (a1.length : Int) then (if 17 < ((el Ty2 a1 a0.1.toNat).1) then ((spec_l04Copy.f k a2).bind fun t7 => (some (t1, t7, (0, (0, (0, 1)))))) else ((spec_l06Needs.f k ((el Ty2 a1 a0.1.toNat).1)).bind fun t8 => (if (a0.2.length : Int) < t8.1 then ((spec_l04Copy.f k a2).bind fun t9 => (some (t1, t9, (0, (0, (0, 5)))))) else (((some ([] : DeI))).bind fun y10 => (if 0 ≤ w64 ((a0.2.length : Int) - t8.1) then (if w64 ((a0.2.length : Int) - t8.1) ≤ (a0.2.length : Int) then (if (y10.length + (a0.2.take ((w64 ((a0.2.length : Int) - t8.1)).toNat)).length) * 8 ≤ 140737488355328 then (((some (y10 ++ (a0.2.take ((w64 ((a0.2.length : Int) - t8.1)).toNat))))).bind fun y11 => ((spec_l04Copy.f k a2).bind fun t12 => (if ((el Ty2 a1 a0.1.toNat).1) = 0 then (spec_StepCpu.j1 k (t8.1, t8.2, (a0.2.length : Int), 0, 0, 0, 0, 0, t1.1, w64 (a0.1 + 1), 0, 0, 0, 0, a2, [], [], t1.2, y11, t12, ())) else (if ((el Ty2 a1 a0.1.toNat).1) = 1 then (((some ([(el Ty2 a1 a0.1.toNat).2] : DeI))).bind fun y13 => (if (y11.length + y13.length) * 8 ≤ 140737488355328 then (((some (y11 ++ y13))).bind fun y14 => (spec_StepCpu.j1 k (t8.1, t8.2, (a0.2.length : Int), 0, 0, 0, 0, 0, t1.1, w64 (a0.1 + 1), 0, 0, 0, 0, a2, [], [], t1.2, y14, t12, ()))) else none)) else (if ((el Ty2 a1 a0.1.toNat).1) = 2 then (if 0 ≤ w64 ((a0.2.length : Int) - 1) then (if w64 ((a0.2.length : Int) - 1) < (a0.2.length : Int) then ((spec_LoadCell.f k a2 a3 (w64 ((el TyI a0.2 ((w64 ((a0.2.length : Int) - 1)).toNat)) + ((el Ty2 a1 a0.1.toNat).2)))).bind fun t15 => (if ¬ t15.2 = true then ((spec_l04Copy.f k a2).bind fun t16 => (some (t1, t16, (0, (0, (0, 2)))))) else ((spec_l04Mod.f k t15.1).bind fun t17 => (((some ([t17] : DeI))).bind fun y18 => (if (y11.length + y18.length) * 8 ≤ 140737488355328 then (((some (y11 ++ y18))).bind fun y19 => (spec_StepCpu.j1 k (t8.1, t8.2, (a0.2.length : Int), 0, 0, 0, 0, 0, t1.1, w64 (a0.1 + 1), 0, 0, 0, 0, a2, [], [], t1.2, y19, t12, ()))) else none))))) else none) else none) else (if ((el Ty2 a1 a0.1.toNat).1) = 3 then (if 0 ≤ w64 ((a0.2.length : Int) - 2) then (if w64 ((a0.2.length : Int) - 2) < (a0.2.length : Int) then (if 0 ≤ w64 ((a0.2.length : Int) - 1) then (if w64 ((a0.2.length : Int) - 1) < (a0.2.length : Int) then ((spec_StoreCell.f k a2 a3 (w64 ((el TyI a0.2 ((w64 ((a0.2.length : Int) - 2)).toNat)) + ((el Ty2 a1 a0.1.toNat).2))) (el TyI a0.2 ((w64 ((a0.2.length : Int) - 1)).toNat))).bind fun t20 => (if ¬ t20.2 = true then ((spec_l04Copy.f k a2).bind fun t21 => (some (t1, t21, (0, (0, (0, 2)))))) else (spec_StepCpu.j1 k (t8.1, t8.2, (a0.2.length : Int), 0, 0, 0, 0, 0, t1.1, w64 (a0.1 + 1), 0, 0, 0, 0, a2, [], [], t1.2, y11, t20.1, ())))) else none) else none) else none) else none) else (if ((el Ty2 a1 a0.1.toNat).1) = 4 then (spec_StepCpu.j2 k (a4, t8.1, t8.2, (a0.2.length : Int), (el Ty2 a1 a0.1.toNat).1, true, a0.1, 0, 0, 0, 0, 0, t1.1, (el Ty2 a1 a0.1.toNat).1, (el Ty2 a1 a0.1.toNat).2, w64 (a0.1 + 1), 0, 0, 0, 0, a0.2, a2, [], [], t1.2, y11, t12, ())) else (if ((el Ty2 a1 a0.1.toNat).1) = 5 then (spec_StepCpu.j2 k (a4, t8.1, t8.2, (a0.2.length : Int), (el Ty2 a1 a0.1.toNat).1, true, a0.1, 0, 0, 0, 0, 0, t1.1, (el Ty2 a1 a0.1.toNat).1, (el Ty2 a1 a0.1.toNat).2, w64 (a0.1 + 1), 0, 0, 0, 0, a0.2, a2, [], [], t1.2, y11, t12, ())) else (if ((el Ty2 a1 a0.1.toNat).1) = 6 then (spec_StepCpu.j2 k (a4, t8.1, t8.2, (a0.2.length : Int), (el Ty2 a1 a0.1.toNat).1, true, a0.1, 0, 0, 0, 0, 0, t1.1, (el Ty2 a1 a0.1.toNat).1, (el Ty2 a1 a0.1.toNat).2, w64 (a0.1 + 1), 0, 0, 0, 0, a0.2, a2, [], [], t1.2, y11, t12, ())) else (if ((el Ty2 a1 a0.1.toNat).1) = 7 then (spec_StepCpu.j2 k (a4, t8.1, t8.2, (a0.2.length : Int), (el Ty2 a1 a0.1.toNat).1, true, a0.1, 0, 0, 0, 0, 0, t1.1, (el Ty2 a1 a0.1.toNat).1, (el Ty2 a1 a0.1.toNat).2, w64 (a0.1 + 1), 0, 0, 0, 0, a0.2, a2, [], [], t1.2, y11, t12, ())) else (spec_StepCpu.j2 k (a4, t8.1, t8.2, (a0.2.length : Int), (el Ty2 a1 a0.1.toNat).1, decide (((el Ty2 a1 a0.1.toNat).1) = 8), a0.1, 0, 0, 0, 0, 0, t1.1, (el Ty2 a1 a0.1.toNat).1, (el Ty2 a1 a0.1.toNat).2, w64 (a0.1 + 1), 0, 0, 0, 0, a0.2, a2, [], [], t1.2, y11, t12, ())))))))))))) else none) else none) else none))))) else none) else none))))))
def spec_StepCpu.Sj1 : Shape := ⟨[(7, false, [.ptr 3 0]), (10, false, [.ptr 4 0]), (11, false, [.ptr 6 0]), (12, false, [.ptr 8 0]), (13, false, [.ptr 9 0]), (15, false, [.int .i64]), (16, false, [.int .i64]), (17, false, [.int .i64]), (18, false, [.ptr 11 0]), (19, false, [.ptr 13 0]), (20, false, [.ptr 15 0])], [(3, .blk 44 [.own 2]), (4, .blk 71 [.int .i64, .own 5]), (6, .blk 44 [.own 7]), (8, .blk 123 [.int .i64, .int .i64, .int .i64, .int .i64]), (9, .blk 71 [.int .i64, .own 10]), (11, .blk 71 [.int .i64, .own 12]), (13, .blk 44 [.own 14]), (15, .blk 123 [.int .i64, .int .i64, .int .i64, .int .i64]), (2, .view false 3 TyI), (5, .row 3 TyI), (7, .row 3 TyI), (10, .row 3 TyI), (12, .row 3 TyI), (14, .row 3 TyI)], 16⟩
def spec_StepCpu.Sj2 : Shape := ⟨[(4, false, [.int .i64]), (5, false, [.ptr 3 0]), (7, false, [.ptr 4 0]), (10, false, [.ptr 5 0]), (11, false, [.ptr 7 0]), (12, false, [.ptr 9 0]), (13, false, [.ptr 10 0]), (14, false, [.ptr 12 0]), (15, false, [.int .i64]), (16, false, [.int .i64]), (17, false, [.int .i64]), (18, false, [.ptr 13 0]), (19, false, [.ptr 15 0]), (20, false, [.ptr 17 0]), (92, false, [.int .i64]), (165, false, [.bool])], [(3, .blk 71 [.int .i64, .own 0]), (4, .blk 44 [.own 2]), (5, .blk 71 [.int .i64, .own 6]), (7, .blk 44 [.own 8]), (9, .blk 123 [.int .i64, .int .i64, .int .i64, .int .i64]), (10, .blk 71 [.int .i64, .own 11]), (12, .blk 76 [.int .i64, .int .i64]), (13, .blk 71 [.int .i64, .own 14]), (15, .blk 44 [.own 16]), (17, .blk 123 [.int .i64, .int .i64, .int .i64, .int .i64]), (0, .view false 3 TyI), (2, .view false 3 TyI), (6, .row 3 TyI), (8, .row 3 TyI), (11, .row 3 TyI), (14, .row 3 TyI), (16, .row 3 TyI)], 18⟩
def spec_StepCpu.Sj3 : Shape := ⟨[(4, false, [.int .i64]), (5, false, [.ptr 3 0]), (7, false, [.ptr 4 0]), (10, false, [.ptr 5 0]), (11, false, [.ptr 7 0]), (12, false, [.ptr 9 0]), (13, false, [.ptr 10 0]), (14, false, [.ptr 12 0]), (15, false, [.int .i64]), (16, false, [.int .i64]), (17, false, [.int .i64]), (18, false, [.ptr 13 0]), (19, false, [.ptr 15 0]), (20, false, [.ptr 17 0]), (92, false, [.int .i64]), (237, false, [.bool])], [(3, .blk 71 [.int .i64, .own 0]), (4, .blk 44 [.own 2]), (5, .blk 71 [.int .i64, .own 6]), (7, .blk 44 [.own 8]), (9, .blk 123 [.int .i64, .int .i64, .int .i64, .int .i64]), (10, .blk 71 [.int .i64, .own 11]), (12, .blk 76 [.int .i64, .int .i64]), (13, .blk 71 [.int .i64, .own 14]), (15, .blk 44 [.own 16]), (17, .blk 123 [.int .i64, .int .i64, .int .i64, .int .i64]), (0, .view false 3 TyI), (2, .view false 3 TyI), (6, .row 3 TyI), (8, .row 3 TyI), (11, .row 3 TyI), (14, .row 3 TyI), (16, .row 3 TyI)], 18⟩
def spec_StepCpu.Sj4 : Shape := ⟨[(4, false, [.int .i64]), (7, false, [.ptr 3 0]), (10, false, [.ptr 4 0]), (11, false, [.ptr 6 0]), (12, false, [.ptr 8 0]), (13, false, [.ptr 9 0]), (14, false, [.ptr 11 0]), (15, false, [.int .i64]), (16, false, [.int .i64]), (17, false, [.int .i64]), (18, false, [.ptr 12 0]), (19, false, [.ptr 14 0]), (20, false, [.ptr 16 0]), (92, false, [.int .i64]), (251, false, [.bool])], [(3, .blk 44 [.own 2]), (4, .blk 71 [.int .i64, .own 5]), (6, .blk 44 [.own 7]), (8, .blk 123 [.int .i64, .int .i64, .int .i64, .int .i64]), (9, .blk 71 [.int .i64, .own 10]), (11, .blk 76 [.int .i64, .int .i64]), (12, .blk 71 [.int .i64, .own 13]), (14, .blk 44 [.own 15]), (16, .blk 123 [.int .i64, .int .i64, .int .i64, .int .i64]), (2, .view false 3 TyI), (5, .row 3 TyI), (7, .row 3 TyI), (10, .row 3 TyI), (13, .row 3 TyI), (15, .row 3 TyI)], 17⟩
def spec_StepCpu.sig : Sig := ⟨[.val true (.pair TyI (.sl 3 TyI)) [0], .val false (.sl 76 Ty2) [0], .val true (.sl 3 TyI) [0], .val true Ty2 [], .val false TyI []], [.val true (.pair TyI (.sl 3 TyI)) [none], .val true (.sl 3 TyI) [none], .val true (.pair TyI Ty3) []]⟩
def spec_StepCpu.F : FT spec_StepCpu.sig := fun k x => spec_StepCpu.f k x.1 x.2.1 x.2.2.1 x.2.2.2.1 x.2.2.2.2.1
def spec_StepCpu.ann : AT spec_StepCpu.sig := fun k => (.seq .nil (.seq .nil (.seq .nil (.seq .nil (.seq .nil (.seq .nil (.seq .nil (.seq .nil (.seq .nil (.seq .nil (.seq .nil (.join spec_StepCpu.Sj1 (spec_StepCpu.j1 k) (.seq .nil (.block (.seq .nil (.cond .nil (.seq .nil (.cond .nil (.seq .nil (.cond .nil (.seq .nil (.cond .nil (.join spec_StepCpu.Sj2 (spec_StepCpu.j2 k) .nil (.cond .nil (.seq .nil (.cond .nil (.seq .nil (.cond .nil (.seq .nil (.cond .nil (.join spec_StepCpu.Sj3 (spec_StepCpu.j3 k) .nil (.cond .nil (.join spec_StepCpu.Sj4 (spec_StepCpu.j4 k) .nil .nil))))))))))))))))))))) .nil))))))))))))
def spec_StepCpu.ent : Ent := ⟨65, spec_StepCpu.sig, spec_StepCpu.F⟩
def spec_StepCpu.ctx (k : Nat) : Ctx := ⟨tds, [spec_l04Copy.ent, spec_l06Copy.ent, spec_CpuOk.ent, spec_CodeOk.ent, spec_l06Needs.ent, spec_LoadCell.ent, spec_l04Mod.ent, spec_StoreCell.ent, spec_l06Sum.ent], k, 285⟩
theorem spec_StepCpu.runs : RunsT spec_StepCpu.sig spec_StepCpu.ctx Tryz.f65 spec_StepCpu.ann spec_StepCpu.F := fun k x => by kernel_rfl
theorem spec_StepCpu.obls : OblT tds spec_StepCpu.sig spec_StepCpu.ctx 3 Tryz.f65 spec_StepCpu.ann := fun k => ⟨tr, ⟨tr, ⟨⟨tr, ⟨⟨tr, tr⟩, tr⟩⟩, ⟨tr, ⟨⟨tr, ⟨⟨tr, tr⟩, tr⟩⟩, ⟨tr, ⟨tr, ⟨⟨tr, ⟨⟨tr, tr⟩, tr⟩⟩, ⟨tr, ⟨tr, ⟨tr, ⟨⟨by kernel_rfl, fun x => by kernel_rfl⟩, ⟨tr, ⟨tr, ⟨tr, ⟨tr, ⟨tr, ⟨tr, ⟨⟨tr, ⟨⟨tr, ⟨⟨tr, tr⟩, tr⟩⟩, tr⟩⟩, ⟨tr, ⟨⟨tr, ⟨⟨tr, ⟨⟨tr, tr⟩, tr⟩⟩, tr⟩⟩, ⟨⟨by kernel_rfl, fun x => by kernel_rfl⟩, ⟨tr, ⟨tr, ⟨tr, ⟨tr, ⟨tr, ⟨tr, ⟨tr, ⟨tr, tr⟩⟩⟩⟩⟩⟩⟩⟩, ⟨⟨tr, ⟨⟨tr, ⟨⟨tr, tr⟩, tr⟩⟩, tr⟩⟩, ⟨tr, ⟨tr, ⟨tr, ⟨⟨tr, ⟨tr, tr⟩⟩, ⟨tr, ⟨tr, ⟨⟨by kernel_rfl, fun x => by kernel_rfl⟩, ⟨tr, ⟨tr, tr⟩⟩, ⟨tr, ⟨⟨by kernel_rfl, fun x => by kernel_rfl⟩, ⟨tr, ⟨tr, tr⟩⟩, ⟨tr, ⟨tr, ⟨tr, tr⟩⟩⟩⟩⟩⟩⟩⟩⟩⟩⟩⟩⟩⟩⟩⟩⟩⟩⟩⟩⟩⟩⟩, ⟨⟨tr, ⟨⟨tr, tr⟩, tr⟩⟩, ⟨⟨tr, ⟨tr, tr⟩⟩, ⟨tr, tr⟩⟩⟩⟩⟩⟩⟩⟩⟩⟩⟩⟩⟩⟩⟩
theorem spec_StepCpu.ok (k : Nat) : EntOk Tryz.prog k spec_StepCpu.ent := fn_ok (C := spec_StepCpu.ctx k) Tryz.func65 (by kernel_rfl) (by kernel_rfl) mixed tdsOk (.cons (spec_l04Copy.ok k) (.cons (spec_l06Copy.ok k) (.cons (spec_CpuOk.ok k) (.cons (spec_CodeOk.ok k) (.cons (spec_l06Needs.ok k) (.cons (spec_LoadCell.ok k) (.cons (spec_l04Mod.ok k) (.cons (spec_StoreCell.ok k) (.cons (spec_l06Sum.ok k) EntsOk.nil))))))))) (by kernel_rfl) (leB (by kernel_rfl)) (by kernel_rfl) (spec_StepCpu.runs k) (spec_StepCpu.obls k)
/-! loop.example/g00200/spec.l07Answers -/
def spec_l07Answers.f (k : Nat) (a0 : Int) : Option (Int) :=
  if a0 = 13 then (some 1) else (if a0 = 15 then (some 1) else (if a0 = 14 then (some 2) else (some 0)))
def spec_l07Answers.sig : Sig := ⟨[.val false TyI []], [.val false TyI []]⟩
def spec_l07Answers.F : FT spec_l07Answers.sig := fun k x => spec_l07Answers.f k x.1
def spec_l07Answers.ann : AT spec_l07Answers.sig := fun k => .nil
def spec_l07Answers.ent : Ent := ⟨66, spec_l07Answers.sig, spec_l07Answers.F⟩
def spec_l07Answers.ctx (k : Nat) : Ctx := ⟨tds, [], k, 9⟩
theorem spec_l07Answers.runs : RunsT spec_l07Answers.sig spec_l07Answers.ctx Tryz.f66 spec_l07Answers.ann spec_l07Answers.F := fun k x => by kernel_rfl
theorem spec_l07Answers.obls : OblT tds spec_l07Answers.sig spec_l07Answers.ctx 0 Tryz.f66 spec_l07Answers.ann := fun k => ⟨tr, ⟨⟨tr, ⟨⟨tr, ⟨tr, tr⟩⟩, ⟨⟨tr, tr⟩, ⟨tr, ⟨⟨tr, tr⟩, tr⟩⟩⟩⟩⟩, ⟨tr, tr⟩⟩⟩
theorem spec_l07Answers.ok (k : Nat) : EntOk Tryz.prog k spec_l07Answers.ent := fn_ok (C := spec_l07Answers.ctx k) Tryz.func66 (by kernel_rfl) (by kernel_rfl) mixed tdsOk EntsOk.nil (by kernel_rfl) (leB (by kernel_rfl)) (by kernel_rfl) (spec_l07Answers.runs k) (spec_l07Answers.obls k)
/-! loop.example/g00200/spec.SendPort -/
def spec_SendPort.f (k : Nat) (a0 : Int × Int × Int × Int × Int) (a1 : De2) (a2 : Int) (a3 : Int) : Option (De2 × Int) :=
  (spec_l08Copy.f k a1).bind fun t1 => ((spec_PortOk.f k a0).bind fun t2 => (if t2 = true then (if a0.1 = 2 then (((some ([(a2, a3)] : De2))).bind fun y3 => (some (y3, 0))) else ((spec_PortOk.f k a0).bind fun t4 => (if ¬ t4 = true then (some (t1, 1)) else (if a0.2.2.2.1 ≤ (a1.length : Int) then (some (t1, 1)) else (((some ([(a2, a3)] : De2))).bind fun y5 => (if (t1.length + y5.length) * 16 ≤ 140737488355328 then (((some (t1 ++ y5))).bind fun y6 => (some (y6, 0))) else none)))))) else ((spec_PortOk.f k a0).bind fun t7 => (if ¬ t7 = true then (some (t1, 1)) else (if a0.2.2.2.1 ≤ (a1.length : Int) then (some (t1, 1)) else (((some ([(a2, a3)] : De2))).bind fun y8 => (if (t1.length + y8.length) * 16 ≤ 140737488355328 then (((some (t1 ++ y8))).bind fun y9 => (some (y9, 0))) else none)))))))
def spec_SendPort.sig : Sig := ⟨[.val true Ty5 [], .val true (.sl 210 Ty2) [0], .val false TyI [], .val false TyI []], [.val true (.sl 210 Ty2) [none], .val false TyI []]⟩
def spec_SendPort.F : FT spec_SendPort.sig := fun k x => spec_SendPort.f k x.1 x.2.1 x.2.2.1 x.2.2.2.1
def spec_SendPort.ann : AT spec_SendPort.sig := fun k => .nil
def spec_SendPort.ent : Ent := ⟨123, spec_SendPort.sig, spec_SendPort.F⟩
def spec_SendPort.ctx (k : Nat) : Ctx := ⟨tds, [spec_l08Copy.ent, spec_PortOk.ent], k, 46⟩
theorem spec_SendPort.runs : RunsT spec_SendPort.sig spec_SendPort.ctx Tryz.f123 spec_SendPort.ann spec_SendPort.F := fun k x => by kernel_rfl
theorem spec_SendPort.obls : OblT tds spec_SendPort.sig spec_SendPort.ctx 1 Tryz.f123 spec_SendPort.ann := fun k => ⟨tr, ⟨tr, ⟨tr, ⟨⟨tr, ⟨⟨tr, tr⟩, tr⟩⟩, ⟨⟨tr, ⟨⟨tr, tr⟩, tr⟩⟩, ⟨tr, ⟨tr, tr⟩⟩⟩⟩⟩⟩⟩
theorem spec_SendPort.ok (k : Nat) : EntOk Tryz.prog k spec_SendPort.ent := fn_ok (C := spec_SendPort.ctx k) Tryz.func123 (by kernel_rfl) (by kernel_rfl) mixed tdsOk (.cons (spec_l08Copy.ok k) (.cons (spec_PortOk.ok k) EntsOk.nil)) (by kernel_rfl) (leB (by kernel_rfl)) (by kernel_rfl) (spec_SendPort.runs k) (spec_SendPort.obls k)
/-! loop.example/g00200/spec.TakePort -/
def spec_TakePort.f (k : Nat) (a0 : Int × Int × Int × Int × Int) (a1 : De2) (a2 : Int) : Option (De2 × Int × Int) :=
  (spec_l08Copy.f k a1).bind fun t1 => ((spec_PortOk.f k a0).bind fun t2 => (if ¬ t2 = true then (some (t1, 0, 2)) else (if (a1.length : Int) = 0 then (some (t1, 0, 2)) else (if 0 ≤ 0 then (if 0 < (a1.length : Int) then (if a0.1 = 1 then (((some ([] : De2))).bind fun y3 => (if 0 ≤ 1 then (if 1 ≤ (a1.length : Int) then (if (y3.length + (a1.drop 1).length) * 16 ≤ 140737488355328 then (((some (y3 ++ (a1.drop 1)))).bind fun y4 => (some (y4, (el Ty2 a1 0).1, 0))) else none) else none) else none)) else (if ((el Ty2 a1 0).2) < a2 then (if (w64 (a2 - ((el Ty2 a1 0).2))) < 0 then (some (t1, (el Ty2 a1 0).1, 3)) else (if a0.2.2.2.2 < (w64 (a2 - ((el Ty2 a1 0).2))) then (some (t1, (el Ty2 a1 0).1, 3)) else (some (t1, (el Ty2 a1 0).1, 0)))) else (some (t1, (el Ty2 a1 0).1, 0)))) else none) else none))))
def spec_TakePort.sig : Sig := ⟨[.val true Ty5 [], .val true (.sl 210 Ty2) [0], .val false TyI []], [.val true (.sl 210 Ty2) [none], .val false TyI [], .val false TyI []]⟩
def spec_TakePort.F : FT spec_TakePort.sig := fun k x => spec_TakePort.f k x.1 x.2.1 x.2.2.1
def spec_TakePort.ann : AT spec_TakePort.sig := fun k => .nil
def spec_TakePort.ent : Ent := ⟨124, spec_TakePort.sig, spec_TakePort.F⟩
def spec_TakePort.ctx (k : Nat) : Ctx := ⟨tds, [spec_l08Copy.ent, spec_PortOk.ent], k, 65⟩
theorem spec_TakePort.runs : RunsT spec_TakePort.sig spec_TakePort.ctx Tryz.f124 spec_TakePort.ann spec_TakePort.F := fun k x => by kernel_rfl
theorem spec_TakePort.obls : OblT tds spec_TakePort.sig spec_TakePort.ctx 1 Tryz.f124 spec_TakePort.ann := fun k => ⟨tr, ⟨tr, ⟨⟨tr, ⟨⟨tr, tr⟩, tr⟩⟩, ⟨tr, ⟨⟨tr, ⟨⟨tr, ⟨tr, tr⟩⟩, tr⟩⟩, ⟨⟨tr, ⟨⟨tr, tr⟩, tr⟩⟩, ⟨tr, tr⟩⟩⟩⟩⟩⟩⟩
theorem spec_TakePort.ok (k : Nat) : EntOk Tryz.prog k spec_TakePort.ent := fn_ok (C := spec_TakePort.ctx k) Tryz.func124 (by kernel_rfl) (by kernel_rfl) mixed tdsOk (.cons (spec_l08Copy.ok k) (.cons (spec_PortOk.ok k) EntsOk.nil)) (by kernel_rfl) (leB (by kernel_rfl)) (by kernel_rfl) (spec_TakePort.runs k) (spec_TakePort.obls k)
/-! loop.example/g00200/spec.l12Effect -/
def spec_l12Effect.j1 (k : Nat)  : Int × Int × Bool × Int × Bool × Int × Int × Int × Int × De2 × De2 × De5 × De3 × DeB × DeI × DeP × DeL × DeI × De5 × DeI × Unit → Option (DeI × Int × DeK)
  | (z1, z2, z3, z4, z5, z6, z7, z8, z9, z10, z11, z12, z13, z14, z15, z16, z17, z18, z19, z20, _) => if z3 = true then (if (z12.length : Int) ≤ z7 then (((some ([] : DeI))).bind fun y1 => (some (y1, 7, ((z10, (z11, (z12, (z13, z14)))), (z15, (z16, (z17, (z18, (z4, (z5, z19)))))))))) else (if 0 ≤ z7 then (if z7 < (z12.length : Int) then (if z6 = 13 then (if ¬ (((el Ty5 z12 z7.toNat).2).1) = z1 then (((some ([] : DeI))).bind fun y2 => (some (y2, 7, ((z10, (z11, (z12, (z13, z14)))), (z15, (z16, (z17, (z18, (z4, (z5, z19)))))))))) else (if 0 ≤ z7 then (if z7 < (z17.length : Int) then ((spec_SendPort.f k ((el Ty5 z12 z7.toNat).1, (((el Ty5 z12 z7.toNat).2).1, ((((el Ty5 z12 z7.toNat).2).2).1, ((((el Ty5 z12 z7.toNat).2).2).2)))) (el (.sl 210 Ty2) z17 z7.toNat) z8 z4).bind fun t3 => (if 0 ≤ z7 then (if z7 < (z17.length : Int) then (((some (z17.set z7.toNat t3.1))).bind fun y4 => (((some ([t3.2] : DeI))).bind fun y5 => (some (y5, 0, ((z10, (z11, (z12, (z13, z14)))), (z15, (z16, (y4, (z18, (z4, (z5, z19))))))))))) else none) else none)) else none) else none)) else (if ¬ ((((el Ty5 z12 z7.toNat).2).2).1) = z1 then (((some ([] : DeI))).bind fun y6 => (some (y6, 7, ((z10, (z11, (z12, (z13, z14)))), (z15, (z16, (z17, (z18, (z4, (z5, z19)))))))))) else (if 0 ≤ z7 then (if z7 < (z17.length : Int) then ((spec_TakePort.f k ((el Ty5 z12 z7.toNat).1, (((el Ty5 z12 z7.toNat).2).1, ((((el Ty5 z12 z7.toNat).2).2).1, ((((el Ty5 z12 z7.toNat).2).2).2)))) (el (.sl 210 Ty2) z17 z7.toNat) z4).bind fun t7 => (if 0 ≤ z7 then (if z7 < (z17.length : Int) then (((some (z17.set z7.toNat t7.1))).bind fun y8 => (((some ([t7.2.1, t7.2.2] : DeI))).bind fun y9 => (some (y9, 0, ((z10, (z11, (z12, (z13, z14)))), (z15, (z16, (y8, (z18, (z4, (z5, z19))))))))))) else none) else none)) else none) else none))) else none) else none)) else (if z2 = 15 then (if z7 < (z20.length : Int) then (if 0 ≤ z7 then (if z7 < (z20.length : Int) then (((some ([el TyI z20 z7.toNat] : DeI))).bind fun y10 => (some (y10, 0, ((z10, (z11, (z12, (z13, z14)))), (z15, (z16, (z17, (z18, (z4, (z5, z19)))))))))) else none) else none) else (((some ([0] : DeI))).bind fun y11 => (some (y11, 0, ((z10, (z11, (z12, (z13, z14)))), (z15, (z16, (z17, (z18, (z4, (z5, z19))))))))))) else (if z2 = 16 then (if 0 ≤ w64 ((w64 ((w64 (2 * z1)) - 2)) + (Int.tmod z7 2)) then (if w64 ((w64 ((w64 (2 * z1)) - 2)) + (Int.tmod z7 2)) < (z18.length : Int) then (((some (z18.set ((w64 ((w64 ((w64 (2 * z1)) - 2)) + (Int.tmod z7 2))).toNat) z8))).bind fun y12 => (((some ([] : DeI))).bind fun y13 => (some (y13, 0, ((z10, (z11, (z12, (z13, z14)))), (z15, (z16, (z17, (y12, (z4, (z5, z19))))))))))) else none) else none) else (((some ([] : DeI))).bind fun y14 => (some (y14, 0, ((z10, (z11, (z12, (z13, z14)))), (z15, (z16, (z17, (z18, (z4, (z5, z19))))))))))))
def spec_l12Effect.f (k : Nat) (a0 : DeK) (a1 : Int) (a2 : Int × Int × Int × Int) (a3 : DeI) : Option (DeI × Int × DeK) :=
  if a2.1 = 13 then (spec_l12Effect.j1 k (a1, a2.1, true, a0.2.2.2.2.2.1, a0.2.2.2.2.2.2.1, a2.1, a2.2.1, a2.2.2.1, a2.2.2.2, a0.1.1, a0.1.2.1, a0.1.2.2.1, a0.1.2.2.2.1, a0.1.2.2.2.2, a0.2.1, a0.2.2.1, a0.2.2.2.1, a0.2.2.2.2.1, a0.2.2.2.2.2.2.2, a3, ())) else (spec_l12Effect.j1 k (a1, a2.1, decide (a2.1 = 14), a0.2.2.2.2.2.1, a0.2.2.2.2.2.2.1, a2.1, a2.2.1, a2.2.2.1, a2.2.2.2, a0.1.1, a0.1.2.1, a0.1.2.2.1, a0.1.2.2.2.1, a0.1.2.2.2.2, a0.2.1, a0.2.2.1, a0.2.2.2.1, a0.2.2.2.2.1, a0.2.2.2.2.2.2.2, a3, ()))
def spec_l12Effect.Sj1 : Shape := ⟨[(0, false, [.ptr 0 0]), (1, false, [.int .i64]), (3, false, [.own 11]), (6, false, [.ptr 12 0]), (17, false, [.int .i64]), (18, false, [.bool])], [(0, .blk 49 [.own 1, .own 2, .own 3, .own 4, .own 5, .own 6, .own 7, .own 8, .own 9, .int .i64, .bool, .own 10]), (12, .blk 123 [.int .i64, .int .i64, .int .i64, .int .i64]), (1, .view false 127 Ty2), (2, .view false 181 Ty2), (3, .view false 121 Ty5), (4, .view false 187 Ty3), (5, .view false 9 .str), (6, .view false 3 TyI), (7, .view false 73 TyP), (8, .row 115 (.sl 210 Ty2)), (9, .row 3 TyI), (10, .view false 140 Ty5), (11, .view false 3 TyI)], 13⟩
def spec_l12Effect.sig : Sig := ⟨[.ptr 49 (.pair (.pair (.sl 127 Ty2) (.pair (.sl 181 Ty2) (.pair (.sl 121 Ty5) (.pair (.sl 187 Ty3) (.sl 9 .str))))) (.pair (.sl 3 TyI) (.pair (.sl 73 TyP) (.pair (.sl 115 (.sl 210 Ty2)) (.pair (.sl 3 TyI) (.pair TyI (.pair .bool (.sl 140 Ty5)))))))) [0, 0, 0, 0, 0, 0, 0, 1, 1, 0], .val false TyI [], .val true (.pair TyI Ty3) [], .val false (.sl 3 TyI) [0]], [.val false (.sl 3 TyI) [none], .val false TyI []]⟩
def spec_l12Effect.F : FT spec_l12Effect.sig := fun k x => spec_l12Effect.f k x.1 x.2.1 x.2.2.1 x.2.2.2.1
def spec_l12Effect.ann : AT spec_l12Effect.sig := fun k => (.seq .nil (.seq (.seq .nil (.block (.join spec_l12Effect.Sj1 (spec_l12Effect.j1 k) .nil .nil))) .nil))
def spec_l12Effect.ent : Ent := ⟨67, spec_l12Effect.sig, spec_l12Effect.F⟩
def spec_l12Effect.ctx (k : Nat) : Ctx := ⟨tds, [spec_SendPort.ent, spec_TakePort.ent], k, 142⟩
theorem spec_l12Effect.runs : RunsT spec_l12Effect.sig spec_l12Effect.ctx Tryz.f67 spec_l12Effect.ann spec_l12Effect.F := fun k x => by kernel_rfl
theorem spec_l12Effect.obls : OblT tds spec_l12Effect.sig spec_l12Effect.ctx 12 Tryz.f67 spec_l12Effect.ann := fun k => ⟨tr, ⟨⟨tr, ⟨⟨by kernel_rfl, fun x => by kernel_rfl⟩, ⟨tr, ⟨tr, tr⟩⟩, ⟨⟨⟨tr, ⟨⟨tr, tr⟩, tr⟩⟩, ⟨tr, ⟨⟨tr, ⟨⟨⟨tr, ⟨⟨tr, tr⟩, tr⟩⟩, ⟨tr, ⟨tr, ⟨tr, tr⟩⟩⟩⟩, tr⟩⟩, ⟨⟨tr, ⟨⟨tr, tr⟩, tr⟩⟩, ⟨tr, ⟨tr, ⟨tr, tr⟩⟩⟩⟩⟩⟩⟩, ⟨tr, ⟨⟨⟨tr, ⟨⟨tr, tr⟩, tr⟩⟩, ⟨tr, tr⟩⟩, ⟨tr, ⟨tr, tr⟩⟩⟩⟩⟩⟩⟩, ⟨tr, tr⟩⟩⟩
theorem spec_l12Effect.ok (k : Nat) : EntOk Tryz.prog k spec_l12Effect.ent := fn_ok (C := spec_l12Effect.ctx k) Tryz.func67 (by kernel_rfl) (by kernel_rfl) mixed tdsOk (.cons (spec_SendPort.ok k) (.cons (spec_TakePort.ok k) EntsOk.nil)) (by kernel_rfl) (leB (by kernel_rfl)) (by kernel_rfl) (spec_l12Effect.runs k) (spec_l12Effect.obls k)
/-! loop.example/g00200/spec.Answer -/
def spec_Answer.f (k : Nat) (a0 : Int × DeI) (a1 : Int) : Option ((Int × DeI) × Bool) :=
  (spec_l06Copy.f k a0).bind fun t1 => ((spec_CpuOk.f k a0).bind fun t2 => (if ¬ t2 = true then (some (t1, false)) else (if (a0.2.length : Int) = 8 then (some (t1, false)) else ((spec_l04Mod.f k a1).bind fun t3 => (((some ([t3] : DeI))).bind fun y4 => (if (t1.2.length + y4.length) * 8 ≤ 140737488355328 then (((some (t1.2 ++ y4))).bind fun y5 => (some ((t1.1, y5), true))) else none))))))
def spec_Answer.sig : Sig := ⟨[.val true (.pair TyI (.sl 3 TyI)) [0], .val false TyI []], [.val true (.pair TyI (.sl 3 TyI)) [none], .val false .bool []]⟩
def spec_Answer.F : FT spec_Answer.sig := fun k x => spec_Answer.f k x.1 x.2.1
def spec_Answer.ann : AT spec_Answer.sig := fun k => .nil
def spec_Answer.ent : Ent := ⟨68, spec_Answer.sig, spec_Answer.F⟩
def spec_Answer.ctx (k : Nat) : Ctx := ⟨tds, [spec_l06Copy.ent, spec_CpuOk.ent, spec_l04Mod.ent], k, 27⟩
theorem spec_Answer.runs : RunsT spec_Answer.sig spec_Answer.ctx Tryz.f68 spec_Answer.ann spec_Answer.F := fun k x => by kernel_rfl
theorem spec_Answer.obls : OblT tds spec_Answer.sig spec_Answer.ctx 1 Tryz.f68 spec_Answer.ann := fun k => ⟨tr, ⟨tr, ⟨⟨tr, ⟨⟨tr, tr⟩, tr⟩⟩, ⟨tr, ⟨tr, tr⟩⟩⟩⟩⟩
theorem spec_Answer.ok (k : Nat) : EntOk Tryz.prog k spec_Answer.ent := fn_ok (C := spec_Answer.ctx k) Tryz.func68 (by kernel_rfl) (by kernel_rfl) mixed tdsOk (.cons (spec_l06Copy.ok k) (.cons (spec_CpuOk.ok k) (.cons (spec_l04Mod.ok k) EntsOk.nil))) (by kernel_rfl) (leB (by kernel_rfl)) (by kernel_rfl) (spec_Answer.runs k) (spec_Answer.obls k)
/-! loop.example/g00200/spec.l12Step -/
def spec_l12Step.l1 (k : Nat)  : Nat → Int × Int × Int × Bool × Int × De2 × De2 × De5 × De3 × DeB × DeI × DeP × DeL × DeI × De5 × DeI × DeI × DeI × Unit → Option (Bool × Int × Int × DeK)
  | 0, _ => none
  | n + 1, (x1, x2, x3, x4, x5, x6, x7, x8, x9, x10, x11, x12, x13, x14, x15, x16, x17, x18, _) => if x2 < (x18.length : Int) then (if 0 ≤ x2 then (if x2 < (x18.length : Int) then ((spec_Answer.f k (x5, x16) (el TyI x18 x2.toNat)).bind fun t7 => (spec_l12Step.l1 k n (x1, w64 (x2 + 1), x3, x4, t7.1.1, x6, x7, x8, x9, x10, x11, x12, x13, x14, x15, t7.1.2, x17, x18, ()))) else none) else none) else (if 0 ≤ w64 (x1 - 1) then (if w64 (x1 - 1) < (x12.length : Int) then (((some (x12.set ((w64 (x1 - 1)).toNat) ((el TyP x12 ((w64 (x1 - 1)).toNat)).1, ((x5, x16), ((el TyP x12 ((w64 (x1 - 1)).toNat)).2).2))))).bind fun y8 => (some (false, 0, 0, ((x6, (x7, (x8, (x9, x10)))), (x17, (y8, (x13, (x14, (x3, (x4, x15)))))))))) else none) else none)
def spec_l12Step.f (k : Nat) (a0 : DeK) (a1 : Int) (a2 : De2) (a3 : DeI) : Option (Bool × Int × Int × DeK) :=
  if 0 ≤ w64 (a1 - 1) then (if w64 (a1 - 1) < (a0.2.2.1.length : Int) then (if 0 ≤ w64 (a1 - 1) then (if w64 (a1 - 1) < (a0.1.1.length : Int) then ((spec_StepCpu.f k (((el TyP a0.2.2.1 ((w64 (a1 - 1)).toNat)).2).1) a2 a0.2.1 (el Ty2 a0.1.1 ((w64 (a1 - 1)).toNat)) a0.2.2.2.2.2.1).bind fun t1 => (if ¬ t1.2.2.2.2.2 = 0 then (some (true, 1, t1.2.2.2.2.2, (a0.1, a0.2))) else (if 0 ≤ (((el TyP a0.2.2.1 ((w64 (a1 - 1)).toNat)).2).1).1 then (if (((el TyP a0.2.2.1 ((w64 (a1 - 1)).toNat)).2).1).1 < (a2.length : Int) then (if ((el Ty2 a2 (((((el TyP a0.2.2.1 ((w64 (a1 - 1)).toNat)).2).1).1).toNat)).1) = 0 then (if 0 ≤ w64 (a1 - 1) then (if w64 (a1 - 1) < (a0.2.2.1.length : Int) then (((some (a0.2.2.1.set ((w64 (a1 - 1)).toNat) ((el TyP a0.2.2.1 ((w64 (a1 - 1)).toNat)).1, ((0, []), ((el TyP a0.2.2.1 ((w64 (a1 - 1)).toNat)).2).2))))).bind fun y2 => (if 0 ≤ w64 (a1 - 1) then (if w64 (a1 - 1) < (y2.length : Int) then (if 0 ≤ w64 (a1 - 1) then (if w64 (a1 - 1) < (y2.length : Int) then (((some (y2.set ((w64 (a1 - 1)).toNat) ((el TyP y2 ((w64 (a1 - 1)).toNat)).1, (((el TyP y2 ((w64 (a1 - 1)).toNat)).2).1, ((((el TyP y2 ((w64 (a1 - 1)).toNat)).2).2).1, (w64 ((((((el TyP y2 ((w64 (a1 - 1)).toNat)).2).2).2).1) + 1), ((((el TyP y2 ((w64 (a1 - 1)).toNat)).2).2).2).2))))))).bind fun y3 => (some (true, 0, 0, (a0.1, (a0.2.1, (y3, a0.2.2.2)))))) else none) else none) else none) else none)) else none) else none) else ((spec_l07Answers.f k t1.2.2.1).bind fun t4 => (if 8 < (w64 ((t1.1.2.length : Int) + t4)) then (if 0 < t4 then (some (true, 1, 4, (a0.1, a0.2))) else ((spec_l12Effect.f k (a0.1, a0.2) a1 t1.2.2 a3).bind fun t5 => (if ¬ t5.2.1 = 0 then (some (true, 1, t5.2.1, (a0.1, (a0.2.1, (a0.2.2.1, (t5.2.2.2.2.2.1, (t5.2.2.2.2.2.2.1, (t5.2.2.2.2.2.2.2.1, (t5.2.2.2.2.2.2.2.2.1, a0.2.2.2.2.2.2.2))))))))) else (spec_l12Step.l1 k k (a1, 0, t5.2.2.2.2.2.2.2.1, t5.2.2.2.2.2.2.2.2.1, t1.1.1, a0.1.1, a0.1.2.1, a0.1.2.2.1, a0.1.2.2.2.1, a0.1.2.2.2.2, a0.2.1, a0.2.2.1, t5.2.2.2.2.2.1, t5.2.2.2.2.2.2.1, a0.2.2.2.2.2.2.2, t1.1.2, t1.2.1, t5.1, ()))))) else ((spec_l12Effect.f k (a0.1, a0.2) a1 t1.2.2 a3).bind fun t6 => (if ¬ t6.2.1 = 0 then (some (true, 1, t6.2.1, (a0.1, (a0.2.1, (a0.2.2.1, (t6.2.2.2.2.2.1, (t6.2.2.2.2.2.2.1, (t6.2.2.2.2.2.2.2.1, (t6.2.2.2.2.2.2.2.2.1, a0.2.2.2.2.2.2.2))))))))) else (spec_l12Step.l1 k k (a1, 0, t6.2.2.2.2.2.2.2.1, t6.2.2.2.2.2.2.2.2.1, t1.1.1, a0.1.1, a0.1.2.1, a0.1.2.2.1, a0.1.2.2.2.1, a0.1.2.2.2.2, a0.2.1, a0.2.2.1, t6.2.2.2.2.2.1, t6.2.2.2.2.2.2.1, a0.2.2.2.2.2.2.2, t1.1.2, t1.2.1, t6.1, ()))))))) else none) else none))) else none) else none) else none) else none
def spec_l12Step.Sl1 : Shape := ⟨[(0, false, [.ptr 0 0]), (1, false, [.int .i64]), (12, false, [.ptr 13 0]), (13, false, [.ptr 15 0]), (16, false, [.own 17]), (18, false, [.int .i64])], [(0, .blk 49 [.own 1, .own 2, .own 3, .own 4, .own 5, .own 6, .own 7, .own 8, .own 9, .int .i64, .bool, .own 10]), (13, .blk 71 [.int .i64, .own 14]), (15, .blk 44 [.own 16]), (1, .view false 127 Ty2), (2, .view false 181 Ty2), (3, .view false 121 Ty5), (4, .view false 187 Ty3), (5, .view false 9 .str), (6, .row 3 TyI), (7, .row 73 TyP), (8, .row 115 (.sl 210 Ty2)), (9, .row 3 TyI), (10, .view false 140 Ty5), (14, .row 3 TyI), (16, .row 3 TyI), (17, .row 3 TyI)], 18⟩
def spec_l12Step.sig : Sig := ⟨[.ptr 49 (.pair (.pair (.sl 127 Ty2) (.pair (.sl 181 Ty2) (.pair (.sl 121 Ty5) (.pair (.sl 187 Ty3) (.sl 9 .str))))) (.pair (.sl 3 TyI) (.pair (.sl 73 TyP) (.pair (.sl 115 (.sl 210 Ty2)) (.pair (.sl 3 TyI) (.pair TyI (.pair .bool (.sl 140 Ty5)))))))) [0, 0, 0, 0, 0, 2, 1, 1, 1, 0], .val false TyI [], .val false (.sl 76 Ty2) [0], .val false (.sl 3 TyI) [0]], [.val false .bool [], .val false TyI [], .val false TyI []]⟩
def spec_l12Step.F : FT spec_l12Step.sig := fun k x => spec_l12Step.f k x.1 x.2.1 x.2.2.1 x.2.2.2.1
def spec_l12Step.ann : AT spec_l12Step.sig := fun k => (.seq .nil (.seq .nil (.seq .nil (.seq .nil (.seq .nil (.seq .nil (.seq .nil (.seq .nil (.seq .nil (.seq (.seq .nil (.block (.loop spec_l12Step.Sl1 (spec_l12Step.l1 k) fun n1 => .nil))) .nil))))))))))
def spec_l12Step.ent : Ent := ⟨25, spec_l12Step.sig, spec_l12Step.F⟩
def spec_l12Step.ctx (k : Nat) : Ctx := ⟨tds, [spec_StepCpu.ent, spec_l07Answers.ent, spec_l12Effect.ent, spec_Answer.ent], k, 143⟩
theorem spec_l12Step.runs : RunsT spec_l12Step.sig spec_l12Step.ctx Tryz.f25 spec_l12Step.ann spec_l12Step.F := fun k x => by kernel_rfl
theorem spec_l12Step.obls : OblT tds spec_l12Step.sig spec_l12Step.ctx 13 Tryz.f25 spec_l12Step.ann := fun k => ⟨tr, ⟨tr, ⟨tr, ⟨⟨tr, ⟨⟨tr, tr⟩, tr⟩⟩, ⟨⟨tr, ⟨⟨tr, ⟨tr, ⟨tr, tr⟩⟩⟩, tr⟩⟩, ⟨tr, ⟨⟨tr, ⟨⟨tr, tr⟩, tr⟩⟩, ⟨tr, ⟨⟨tr, ⟨⟨tr, tr⟩, tr⟩⟩, ⟨⟨tr, ⟨⟨by kernel_rfl, fun x => by kernel_rfl⟩, fun n => ⟨fun x => by kernel_rfl, ⟨⟨tr, ⟨tr, tr⟩⟩, ⟨tr, tr⟩⟩⟩⟩⟩, ⟨tr, ⟨tr, ⟨tr, tr⟩⟩⟩⟩⟩⟩⟩⟩⟩⟩⟩⟩⟩
theorem spec_l12Step.ok (k : Nat) : EntOk Tryz.prog k spec_l12Step.ent := fn_ok (C := spec_l12Step.ctx k) Tryz.func25 (by kernel_rfl) (by kernel_rfl) mixed tdsOk (.cons (spec_StepCpu.ok k) (.cons (spec_l07Answers.ok k) (.cons (spec_l12Effect.ok k) (.cons (spec_Answer.ok k) EntsOk.nil)))) (by kernel_rfl) (leB (by kernel_rfl)) (by kernel_rfl) (spec_l12Step.runs k) (spec_l12Step.obls k)
/-! loop.example/g00200/spec.RunPart -/
def spec_RunPart.j3 (k : Nat) (c0 : Int × Int × Int × Bool × Int × Bool × DeI × De2 × De2 × De5 × De3 × DeB × DeI × DeP × DeL × DeI × De5 × De2 × De2 × De5 × De3 × DeB × DeI × DeP × DeL × DeI × De5 × De2 × Unit → Option ((DeK) × Int × Int)) : Int × Int × Int × Int × Bool × Int × Bool × DeI × De2 × De2 × De5 × De3 × DeB × DeI × DeP × DeL × DeI × De5 × De2 × De2 × De5 × De3 × DeB × DeI × DeP × DeL × DeI × De5 × De2 × Unit → Option ((DeK) × Int × Int)
  | (z1, z2, z3, z4, z5, z6, z7, z8, z9, z10, z11, z12, z13, z14, z15, z16, z17, z18, z19, z20, z21, z22, z23, z24, z25, z26, z27, z28, z29, _) => if z2 < z3 then (some (((z19, (z20, (z21, (z22, z23)))), (z24, (z25, (z26, (z27, (z6, (z7, z28))))))), 2, 0)) else ((spec_l12Step.f k ((z19, (z20, (z21, (z22, z23)))), (z24, (z25, (z26, (z27, (z6, (z7, z28))))))) z1 z29 z8).bind fun t6 => (if t6.1 = true then (some (((z19, (z20, (z21, (z22, z23)))), (t6.2.2.2.2.1, (t6.2.2.2.2.2.1, (t6.2.2.2.2.2.2.1, (t6.2.2.2.2.2.2.2.1, (t6.2.2.2.2.2.2.2.2.1, (t6.2.2.2.2.2.2.2.2.2.1, z28))))))), t6.2.1, t6.2.2.1)) else (c0 (z1, w64 (z2 - z3), z4, z5, t6.2.2.2.2.2.2.2.2.1, t6.2.2.2.2.2.2.2.2.2.1, z8, z9, z10, z11, z12, z13, z14, z15, z16, z17, z18, z19, z20, z21, z22, z23, t6.2.2.2.2.1, t6.2.2.2.2.2.1, t6.2.2.2.2.2.2.1, t6.2.2.2.2.2.2.2.1, z28, z29, ()))))
def spec_RunPart.l2 (k : Nat)  : Nat → Int × Int × Int × Bool × Int × Bool × DeI × De2 × De2 × De5 × De3 × DeB × DeI × DeP × DeL × DeI × De5 × De2 × De2 × De5 × De3 × DeB × DeI × DeP × DeL × DeI × De5 × De2 × Unit → Option ((DeK) × Int × Int)
  | 0, _ => none
  | n + 1, (x1, x2, x3, x4, x5, x6, x7, x8, x9, x10, x11, x12, x13, x14, x15, x16, x17, x18, x19, x20, x21, x22, x23, x24, x25, x26, x27, x28, _) => if 0 ≤ w64 (x1 - 1) then (if w64 (x1 - 1) < (x24.length : Int) then (if ((((el TyP x24 ((w64 (x1 - 1)).toNat)).2).1).1) < (x28.length : Int) then (if 0 ≤ (((el TyP x24 ((w64 (x1 - 1)).toNat)).2).1).1 then (if (((el TyP x24 ((w64 (x1 - 1)).toNat)).2).1).1 < (x28.length : Int) then ((spec_CostOf.f k ((el Ty2 x28 (((((el TyP x24 ((w64 (x1 - 1)).toNat)).2).1).1).toNat)).1)).bind fun t5 => (spec_RunPart.j3 k (spec_RunPart.l2 k n) (x1, x2, t5, x3, x4, x5, x6, x7, x8, x9, x10, x11, x12, x13, x14, x15, x16, x17, x18, x19, x20, x21, x22, x23, x24, x25, x26, x27, x28, ()))) else none) else none) else (spec_RunPart.j3 k (spec_RunPart.l2 k n) (x1, x2, 1, x3, x4, x5, x6, x7, x8, x9, x10, x11, x12, x13, x14, x15, x16, x17, x18, x19, x20, x21, x22, x23, x24, x25, x26, x27, x28, ()))) else none) else none
def spec_RunPart.j1 (k : Nat)  : Int × Int × Int × Bool × Int × Bool × DeI × De2 × De2 × De5 × De3 × DeB × DeI × DeP × DeL × DeI × De5 × De2 × De2 × De5 × De3 × DeB × DeI × DeP × DeL × DeI × De5 × De2 × Unit → Option ((DeK) × Int × Int)
  | (z1, z2, z3, z4, z5, z6, z7, z8, z9, z10, z11, z12, z13, z14, z15, z16, z17, z18, z19, z20, z21, z22, z23, z24, z25, z26, z27, z28, _) => spec_RunPart.l2 k k (z1, z2, z3, z4, z5, z6, z7, z8, z9, z10, z11, z12, z13, z14, z15, z16, z17, z18, z19, z20, z21, z22, z23, z24, z25, z26, z27, z28, ())
def spec_RunPart.f (k : Nat) (a0 : DeK) (a1 : Int) (a2 : Int) (a3 : DeI) : Option ((DeK) × Int × Int) :=
  (spec_l12Copy.f k (a0.1, a0.2)).bind fun t1 => ((spec_KernelOk.f k (a0.1, a0.2)).bind fun t2 => (if ¬ t2 = true then (some ((t1.1, t1.2), 1, 6)) else ((spec_l01In.f k a1 1 (a0.2.2.1.length : Int)).bind fun t3 => (if ¬ t3 = true then (some ((t1.1, t1.2), 1, 6)) else (if 0 ≤ w64 (a1 - 1) then (if w64 (a1 - 1) < (a0.1.2.2.2.2.length : Int) then ((spec_ReadCode.f k (el .str a0.1.2.2.2.2 ((w64 (a1 - 1)).toNat))).bind fun t4 => (if 1000 < a2 then (spec_RunPart.j1 k (a1, 1000, 0, false, t1.2.2.2.2.2.1, t1.2.2.2.2.2.2.1, a3, [], [], [], [], [], [], [], [], [], [], t1.1.1, t1.1.2.1, t1.1.2.2.1, t1.1.2.2.2.1, t1.1.2.2.2.2, t1.2.1, t1.2.2.1, t1.2.2.2.1, t1.2.2.2.2.1, t1.2.2.2.2.2.2.2, t4.1, ())) else (spec_RunPart.j1 k (a1, a2, 0, false, t1.2.2.2.2.2.1, t1.2.2.2.2.2.2.1, a3, [], [], [], [], [], [], [], [], [], [], t1.1.1, t1.1.2.1, t1.1.2.2.1, t1.1.2.2.2.1, t1.1.2.2.2.2, t1.2.1, t1.2.2.1, t1.2.2.2.1, t1.2.2.2.2.1, t1.2.2.2.2.2.2.2, t4.1, ())))) else none) else none)))))
def spec_RunPart.Sj1 : Shape := ⟨[(1, false, [.int .i64]), (3, false, [.own 10]), (8, false, [.ptr 11 0]), (11, false, [.ptr 22 0]), (12, false, [.own 33]), (14, false, [.int .i64])], [(11, .blk 49 [.own 12, .own 13, .own 14, .own 15, .own 16, .own 17, .own 18, .own 19, .own 20, .int .i64, .bool, .own 21]), (22, .blk 49 [.own 23, .own 24, .own 25, .own 26, .own 27, .own 28, .own 29, .own 30, .own 31, .int .i64, .bool, .own 32]), (10, .view false 3 TyI), (12, .row 127 Ty2), (13, .row 181 Ty2), (14, .row 121 Ty5), (15, .row 187 Ty3), (16, .row 9 .str), (17, .row 3 TyI), (18, .row 73 TyP), (19, .row 115 (.sl 210 Ty2)), (20, .row 3 TyI), (21, .row 140 Ty5), (23, .row 127 Ty2), (24, .row 181 Ty2), (25, .row 121 Ty5), (26, .row 187 Ty3), (27, .row 9 .str), (28, .row 3 TyI), (29, .row 73 TyP), (30, .row 115 (.sl 210 Ty2)), (31, .row 3 TyI), (32, .row 140 Ty5), (33, .row 76 Ty2)], 34⟩
def spec_RunPart.Sl2 : Shape := ⟨[(1, false, [.int .i64]), (3, false, [.own 10]), (8, false, [.ptr 11 0]), (11, false, [.ptr 22 0]), (12, false, [.own 33]), (14, false, [.int .i64])], [(11, .blk 49 [.own 12, .own 13, .own 14, .own 15, .own 16, .own 17, .own 18, .own 19, .own 20, .int .i64, .bool, .own 21]), (22, .blk 49 [.own 23, .own 24, .own 25, .own 26, .own 27, .own 28, .own 29, .own 30, .own 31, .int .i64, .bool, .own 32]), (10, .view false 3 TyI), (12, .row 127 Ty2), (13, .row 181 Ty2), (14, .row 121 Ty5), (15, .row 187 Ty3), (16, .row 9 .str), (17, .row 3 TyI), (18, .row 73 TyP), (19, .row 115 (.sl 210 Ty2)), (20, .row 3 TyI), (21, .row 140 Ty5), (23, .row 127 Ty2), (24, .row 181 Ty2), (25, .row 121 Ty5), (26, .row 187 Ty3), (27, .row 9 .str), (28, .row 3 TyI), (29, .row 73 TyP), (30, .row 115 (.sl 210 Ty2)), (31, .row 3 TyI), (32, .row 140 Ty5), (33, .row 76 Ty2)], 34⟩
def spec_RunPart.Sj3 : Shape := ⟨[(1, false, [.int .i64]), (3, false, [.own 10]), (8, false, [.ptr 11 0]), (11, false, [.ptr 22 0]), (12, false, [.own 33]), (14, false, [.int .i64]), (16, false, [.int .i64])], [(11, .blk 49 [.own 12, .own 13, .own 14, .own 15, .own 16, .own 17, .own 18, .own 19, .own 20, .int .i64, .bool, .own 21]), (22, .blk 49 [.own 23, .own 24, .own 25, .own 26, .own 27, .own 28, .own 29, .own 30, .own 31, .int .i64, .bool, .own 32]), (10, .view false 3 TyI), (12, .row 127 Ty2), (13, .row 181 Ty2), (14, .row 121 Ty5), (15, .row 187 Ty3), (16, .row 9 .str), (17, .row 3 TyI), (18, .row 73 TyP), (19, .row 115 (.sl 210 Ty2)), (20, .row 3 TyI), (21, .row 140 Ty5), (23, .row 127 Ty2), (24, .row 181 Ty2), (25, .row 121 Ty5), (26, .row 187 Ty3), (27, .row 9 .str), (28, .row 3 TyI), (29, .row 73 TyP), (30, .row 115 (.sl 210 Ty2)), (31, .row 3 TyI), (32, .row 140 Ty5), (33, .row 76 Ty2)], 34⟩
def spec_RunPart.sig : Sig := ⟨[.val true (.pair (.pair (.sl 127 Ty2) (.pair (.sl 181 Ty2) (.pair (.sl 121 Ty5) (.pair (.sl 187 Ty3) (.sl 9 .str))))) (.pair (.sl 3 TyI) (.pair (.sl 73 TyP) (.pair (.sl 115 (.sl 210 Ty2)) (.pair (.sl 3 TyI) (.pair TyI (.pair .bool (.sl 140 Ty5)))))))) [0, 0, 0, 0, 0, 0, 0, 0, 0, 0], .val false TyI [], .val false TyI [], .val false (.sl 3 TyI) [0]], [.val true (.pair (.pair (.sl 127 Ty2) (.pair (.sl 181 Ty2) (.pair (.sl 121 Ty5) (.pair (.sl 187 Ty3) (.sl 9 .str))))) (.pair (.sl 3 TyI) (.pair (.sl 73 TyP) (.pair (.sl 115 (.sl 210 Ty2)) (.pair (.sl 3 TyI) (.pair TyI (.pair .bool (.sl 140 Ty5)))))))) [none, none, none, none, none, none, none, none, none, none], .val false TyI [], .val false TyI []]⟩
def spec_RunPart.F : FT spec_RunPart.sig := fun k x => spec_RunPart.f k x.1 x.2.1 x.2.2.1 x.2.2.2.1
def spec_RunPart.ann : AT spec_RunPart.sig := fun k => (.seq .nil (.seq .nil (.seq .nil (.seq .nil (.seq .nil (.join spec_RunPart.Sj1 (spec_RunPart.j1 k) .nil (.block (.loop spec_RunPart.Sl2 (spec_RunPart.l2 k) fun n1 => (.block (.seq .nil (.seq .nil (.join spec_RunPart.Sj3 (spec_RunPart.j3 k (spec_RunPart.l2 k n1)) .nil .nil))))))))))))
def spec_RunPart.ent : Ent := ⟨5, spec_RunPart.sig, spec_RunPart.F⟩
def spec_RunPart.ctx (k : Nat) : Ctx := ⟨tds, [spec_l12Copy.ent, spec_KernelOk.ent, spec_l01In.ent, spec_ReadCode.ent, spec_CostOf.ent, spec_l12Step.ent], k, 85⟩
theorem spec_RunPart.runs : RunsT spec_RunPart.sig spec_RunPart.ctx Tryz.f5 spec_RunPart.ann spec_RunPart.F := fun k x => by kernel_rfl
theorem spec_RunPart.obls : OblT tds spec_RunPart.sig spec_RunPart.ctx 11 Tryz.f5 spec_RunPart.ann := fun k => ⟨tr, ⟨tr, ⟨⟨tr, ⟨⟨tr, tr⟩, tr⟩⟩, ⟨tr, ⟨tr, ⟨⟨by kernel_rfl, fun x => by kernel_rfl⟩, ⟨tr, ⟨tr, tr⟩⟩, ⟨⟨by kernel_rfl, fun x => by kernel_rfl⟩, fun n => ⟨fun x => by kernel_rfl, ⟨tr, ⟨tr, ⟨⟨by kernel_rfl, fun x => by kernel_rfl⟩, ⟨tr, ⟨tr, tr⟩⟩, ⟨⟨tr, ⟨⟨tr, tr⟩, tr⟩⟩, ⟨tr, ⟨tr, ⟨tr, ⟨⟨tr, tr⟩, tr⟩⟩⟩⟩⟩⟩⟩⟩⟩⟩⟩⟩⟩⟩⟩⟩
theorem spec_RunPart.ok (k : Nat) : EntOk Tryz.prog k spec_RunPart.ent := fn_ok (C := spec_RunPart.ctx k) Tryz.func5 (by kernel_rfl) (by kernel_rfl) mixed tdsOk (.cons (spec_l12Copy.ok k) (.cons (spec_KernelOk.ok k) (.cons (spec_l01In.ok k) (.cons (spec_ReadCode.ok k) (.cons (spec_CostOf.ok k) (.cons (spec_l12Step.ok k) EntsOk.nil)))))) (by kernel_rfl) (leB (by kernel_rfl)) (by kernel_rfl) (spec_RunPart.runs k) (spec_RunPart.obls k)
/-! loop.example/g00200/impl.copyPlan -/
def impl_copyPlan.f (k : Nat) (a0 : De2) : Option De2 :=
  ((some ([] : De2))).bind fun y1 => (if (y1.length + a0.length) * 16 ≤ 140737488355328 then (((some (y1 ++ a0))).bind fun y2 => (some y2)) else none)
def impl_copyPlan.sig : Sig := ⟨[.val false (.sl 181 Ty2) [0]], [.val false (.sl 181 Ty2) [none]]⟩
def impl_copyPlan.F : FT impl_copyPlan.sig := fun k x => impl_copyPlan.f k x.1
def impl_copyPlan.ann : AT impl_copyPlan.sig := fun k => .nil
def impl_copyPlan.ent : Ent := ⟨131, impl_copyPlan.sig, impl_copyPlan.F⟩
def impl_copyPlan.ctx (k : Nat) : Ctx := ⟨tds, [], k, 6⟩
theorem impl_copyPlan.runs : RunsT impl_copyPlan.sig impl_copyPlan.ctx Tryz.f131 impl_copyPlan.ann impl_copyPlan.F := fun k x => by kernel_rfl
theorem impl_copyPlan.obls : OblT tds impl_copyPlan.sig impl_copyPlan.ctx 1 Tryz.f131 impl_copyPlan.ann := fun k => ⟨tr, ⟨tr, tr⟩⟩
theorem impl_copyPlan.ok (k : Nat) : EntOk Tryz.prog k impl_copyPlan.ent := fn_ok (C := impl_copyPlan.ctx k) Tryz.func131 (by kernel_rfl) (by kernel_rfl) mixed tdsOk EntsOk.nil (by kernel_rfl) (leB (by kernel_rfl)) (by kernel_rfl) (impl_copyPlan.runs k) (impl_copyPlan.obls k)
/-! loop.example/g00200/impl.copySetup -/
def impl_copySetup.f (k : Nat) (a0 : De2 × De2 × De5 × De3 × DeB) : Option DeS :=
  ((some ([] : De2))).bind fun y1 => (if (y1.length + a0.1.length) * 16 ≤ 140737488355328 then (((some (y1 ++ a0.1))).bind fun y2 => ((impl_copyPlan.f k a0.2.1).bind fun t3 => (((some ([] : De5))).bind fun y4 => (if (y4.length + a0.2.2.1.length) * 40 ≤ 140737488355328 then (((some (y4 ++ a0.2.2.1))).bind fun y5 => (((some ([] : De3))).bind fun y6 => (if (y6.length + a0.2.2.2.1.length) * 24 ≤ 140737488355328 then (((some (y6 ++ a0.2.2.2.1))).bind fun y7 => (((some ([] : DeB))).bind fun y8 => (if (y8.length + a0.2.2.2.2.length) * 16 ≤ 140737488355328 then (((some (y8 ++ a0.2.2.2.2))).bind fun y9 => (some (y2, (t3, (y5, (y7, y9)))))) else none))) else none))) else none)))) else none)
def impl_copySetup.sig : Sig := ⟨[.val true (.pair (.sl 127 Ty2) (.pair (.sl 181 Ty2) (.pair (.sl 121 Ty5) (.pair (.sl 187 Ty3) (.sl 9 .str))))) [0, 0, 0, 0, 0]], [.val true (.pair (.sl 127 Ty2) (.pair (.sl 181 Ty2) (.pair (.sl 121 Ty5) (.pair (.sl 187 Ty3) (.sl 9 .str))))) [none, none, none, none, none]]⟩
def impl_copySetup.F : FT impl_copySetup.sig := fun k x => impl_copySetup.f k x.1
def impl_copySetup.ann : AT impl_copySetup.sig := fun k => .nil
def impl_copySetup.ent : Ent := ⟨77, impl_copySetup.sig, impl_copySetup.F⟩
def impl_copySetup.ctx (k : Nat) : Ctx := ⟨tds, [impl_copyPlan.ent], k, 23⟩
theorem impl_copySetup.runs : RunsT impl_copySetup.sig impl_copySetup.ctx Tryz.f77 impl_copySetup.ann impl_copySetup.F := fun k x => by kernel_rfl
theorem impl_copySetup.obls : OblT tds impl_copySetup.sig impl_copySetup.ctx 5 Tryz.f77 impl_copySetup.ann := fun k => ⟨tr, ⟨tr, tr⟩⟩
theorem impl_copySetup.ok (k : Nat) : EntOk Tryz.prog k impl_copySetup.ent := fn_ok (C := impl_copySetup.ctx k) Tryz.func77 (by kernel_rfl) (by kernel_rfl) mixed tdsOk (.cons (impl_copyPlan.ok k) EntsOk.nil) (by kernel_rfl) (leB (by kernel_rfl)) (by kernel_rfl) (impl_copySetup.runs k) (impl_copySetup.obls k)
/-! loop.example/g00200/impl.copyInts -/
def impl_copyInts.f (k : Nat) (a0 : DeI) : Option DeI :=
  ((some ([] : DeI))).bind fun y1 => (if (y1.length + a0.length) * 8 ≤ 140737488355328 then (((some (y1 ++ a0))).bind fun y2 => (some y2)) else none)
def impl_copyInts.sig : Sig := ⟨[.val false (.sl 3 TyI) [0]], [.val false (.sl 3 TyI) [none]]⟩
def impl_copyInts.F : FT impl_copyInts.sig := fun k x => impl_copyInts.f k x.1
def impl_copyInts.ann : AT impl_copyInts.sig := fun k => .nil
def impl_copyInts.ent : Ent := ⟨79, impl_copyInts.sig, impl_copyInts.F⟩
def impl_copyInts.ctx (k : Nat) : Ctx := ⟨tds, [], k, 6⟩
theorem impl_copyInts.runs : RunsT impl_copyInts.sig impl_copyInts.ctx Tryz.f79 impl_copyInts.ann impl_copyInts.F := fun k x => by kernel_rfl
theorem impl_copyInts.obls : OblT tds impl_copyInts.sig impl_copyInts.ctx 1 Tryz.f79 impl_copyInts.ann := fun k => ⟨tr, ⟨tr, tr⟩⟩
theorem impl_copyInts.ok (k : Nat) : EntOk Tryz.prog k impl_copyInts.ent := fn_ok (C := impl_copyInts.ctx k) Tryz.func79 (by kernel_rfl) (by kernel_rfl) mixed tdsOk EntsOk.nil (by kernel_rfl) (leB (by kernel_rfl)) (by kernel_rfl) (impl_copyInts.runs k) (impl_copyInts.obls k)
/-! loop.example/g00200/impl.copyArena -/
def impl_copyArena.f (k : Nat) (a0 : DeI) : Option DeI :=
  (impl_copyInts.f k a0).bind fun t1 => (some t1)
def impl_copyArena.sig : Sig := ⟨[.val true (.sl 3 TyI) [0]], [.val true (.sl 3 TyI) [none]]⟩
def impl_copyArena.F : FT impl_copyArena.sig := fun k x => impl_copyArena.f k x.1
def impl_copyArena.ann : AT impl_copyArena.sig := fun k => .nil
def impl_copyArena.ent : Ent := ⟨78, impl_copyArena.sig, impl_copyArena.F⟩
def impl_copyArena.ctx (k : Nat) : Ctx := ⟨tds, [impl_copyInts.ent], k, 7⟩
theorem impl_copyArena.runs : RunsT impl_copyArena.sig impl_copyArena.ctx Tryz.f78 impl_copyArena.ann impl_copyArena.F := fun k x => by kernel_rfl
theorem impl_copyArena.obls : OblT tds impl_copyArena.sig impl_copyArena.ctx 1 Tryz.f78 impl_copyArena.ann := fun k => ⟨tr, ⟨tr, tr⟩⟩
theorem impl_copyArena.ok (k : Nat) : EntOk Tryz.prog k impl_copyArena.ent := fn_ok (C := impl_copyArena.ctx k) Tryz.func78 (by kernel_rfl) (by kernel_rfl) mixed tdsOk (.cons (impl_copyInts.ok k) EntsOk.nil) (by kernel_rfl) (leB (by kernel_rfl)) (by kernel_rfl) (impl_copyArena.runs k) (impl_copyArena.obls k)
/-! loop.example/g00200/impl.copyCpu -/
def impl_copyCpu.f (k : Nat) (a0 : Int × DeI) : Option (Int × DeI) :=
  (impl_copyInts.f k a0.2).bind fun t1 => (some (a0.1, t1))
def impl_copyCpu.sig : Sig := ⟨[.val true (.pair TyI (.sl 3 TyI)) [0]], [.val true (.pair TyI (.sl 3 TyI)) [none]]⟩
def impl_copyCpu.F : FT impl_copyCpu.sig := fun k x => impl_copyCpu.f k x.1
def impl_copyCpu.ann : AT impl_copyCpu.sig := fun k => .nil
def impl_copyCpu.ent : Ent := ⟨132, impl_copyCpu.sig, impl_copyCpu.F⟩
def impl_copyCpu.ctx (k : Nat) : Ctx := ⟨tds, [impl_copyInts.ent], k, 9⟩
theorem impl_copyCpu.runs : RunsT impl_copyCpu.sig impl_copyCpu.ctx Tryz.f132 impl_copyCpu.ann impl_copyCpu.F := fun k x => by kernel_rfl
theorem impl_copyCpu.obls : OblT tds impl_copyCpu.sig impl_copyCpu.ctx 1 Tryz.f132 impl_copyCpu.ann := fun k => ⟨tr, ⟨tr, tr⟩⟩
theorem impl_copyCpu.ok (k : Nat) : EntOk Tryz.prog k impl_copyCpu.ent := fn_ok (C := impl_copyCpu.ctx k) Tryz.func132 (by kernel_rfl) (by kernel_rfl) mixed tdsOk (.cons (impl_copyInts.ok k) EntsOk.nil) (by kernel_rfl) (leB (by kernel_rfl)) (by kernel_rfl) (impl_copyCpu.runs k) (impl_copyCpu.obls k)
/-! loop.example/g00200/impl.copyPart -/
def impl_copyPart.f (k : Nat) (a0 : Int × (Int × DeI) × Int × Int × Int) : Option (Int × (Int × DeI) × Int × Int × Int) :=
  (impl_copyCpu.f k a0.2.1).bind fun t1 => (some (a0.1, (t1, a0.2.2)))
def impl_copyPart.sig : Sig := ⟨[.val true TyP [0]], [.val true TyP [none]]⟩
def impl_copyPart.F : FT impl_copyPart.sig := fun k x => impl_copyPart.f k x.1
def impl_copyPart.ann : AT impl_copyPart.sig := fun k => .nil
def impl_copyPart.ent : Ent := ⟨80, impl_copyPart.sig, impl_copyPart.F⟩
def impl_copyPart.ctx (k : Nat) : Ctx := ⟨tds, [impl_copyCpu.ent], k, 8⟩
theorem impl_copyPart.runs : RunsT impl_copyPart.sig impl_copyPart.ctx Tryz.f80 impl_copyPart.ann impl_copyPart.F := fun k x => by kernel_rfl
theorem impl_copyPart.obls : OblT tds impl_copyPart.sig impl_copyPart.ctx 1 Tryz.f80 impl_copyPart.ann := fun k => ⟨tr, ⟨tr, ⟨tr, tr⟩⟩⟩
theorem impl_copyPart.ok (k : Nat) : EntOk Tryz.prog k impl_copyPart.ent := fn_ok (C := impl_copyPart.ctx k) Tryz.func80 (by kernel_rfl) (by kernel_rfl) mixed tdsOk (.cons (impl_copyCpu.ok k) EntsOk.nil) (by kernel_rfl) (leB (by kernel_rfl)) (by kernel_rfl) (impl_copyPart.runs k) (impl_copyPart.obls k)
/-! loop.example/g00200/impl.copyLine -/
def impl_copyLine.f (k : Nat) (a0 : De2) : Option De2 :=
  ((some ([] : De2))).bind fun y1 => (if (y1.length + a0.length) * 16 ≤ 140737488355328 then (((some (y1 ++ a0))).bind fun y2 => (some y2)) else none)
def impl_copyLine.sig : Sig := ⟨[.val true (.sl 210 Ty2) [0]], [.val true (.sl 210 Ty2) [none]]⟩
def impl_copyLine.F : FT impl_copyLine.sig := fun k x => impl_copyLine.f k x.1
def impl_copyLine.ann : AT impl_copyLine.sig := fun k => .nil
def impl_copyLine.ent : Ent := ⟨81, impl_copyLine.sig, impl_copyLine.F⟩
def impl_copyLine.ctx (k : Nat) : Ctx := ⟨tds, [], k, 8⟩
theorem impl_copyLine.runs : RunsT impl_copyLine.sig impl_copyLine.ctx Tryz.f81 impl_copyLine.ann impl_copyLine.F := fun k x => by kernel_rfl
theorem impl_copyLine.obls : OblT tds impl_copyLine.sig impl_copyLine.ctx 1 Tryz.f81 impl_copyLine.ann := fun k => ⟨tr, ⟨tr, tr⟩⟩
theorem impl_copyLine.ok (k : Nat) : EntOk Tryz.prog k impl_copyLine.ent := fn_ok (C := impl_copyLine.ctx k) Tryz.func81 (by kernel_rfl) (by kernel_rfl) mixed tdsOk EntsOk.nil (by kernel_rfl) (leB (by kernel_rfl)) (by kernel_rfl) (impl_copyLine.runs k) (impl_copyLine.obls k)
/-! loop.example/g00200/impl.copyKernel -/
def impl_copyKernel.l2 (k : Nat)  : Nat → Int × Int × Int × Bool × Int × Bool × Int × Bool × De2 × De2 × De5 × De3 × DeB × DeI × DeP × DeL × DeI × De5 × De2 × De2 × De5 × De3 × DeB × DeI × DeP × DeL × DeI × De5 × De2 × De2 × De5 × De3 × DeB × DeI × DeP × DeL × DeI × De5 × Unit → Option (DeK)
  | 0, _ => none
  | n + 1, (x1, x2, x3, x4, x5, x6, x7, x8, x9, x10, x11, x12, x13, x14, x15, x16, x17, x18, x19, x20, x21, x22, x23, x24, x25, x26, x27, x28, x29, x30, x31, x32, x33, x34, x35, x36, x37, x38, _) => if x2 < x1 then (if 0 ≤ x2 then (if x2 < (x16.length : Int) then ((impl_copyLine.f k (el (.sl 210 Ty2) x16 x2.toNat)).bind fun t7 => (((some ([t7] : DeL))).bind fun y8 => (if (x36.length + y8.length) * 24 ≤ 140737488355328 then (((some (x36 ++ y8))).bind fun y9 => (impl_copyKernel.l2 k n (x1, w64 (x2 + 1), x3, x4, x5, x6, x7, x8, x9, x10, x11, x12, x13, x14, x15, x16, x17, x18, x19, x20, x21, x22, x23, x24, x25, x26, x27, x28, x29, x30, x31, x32, x33, x34, x35, y9, x37, x38, ()))) else none))) else none) else none) else (((some ([] : De5))).bind fun y10 => (if (y10.length + x18.length) * 40 ≤ 140737488355328 then (((some (y10 ++ x18))).bind fun y11 => (some ((x29, (x30, (x31, (x32, x33)))), (x34, (x35, (x36, (x37, (x7, (x8, y11))))))))) else none))
def impl_copyKernel.l1 (k : Nat)  : Nat → Int × Int × Int × Bool × Int × Bool × Int × Bool × De2 × De2 × De5 × De3 × DeB × DeI × DeP × DeL × DeI × De5 × De2 × De2 × De5 × De3 × DeB × DeI × DeP × DeL × DeI × De5 × De2 × De2 × De5 × De3 × DeB × DeI × DeP × DeL × DeI × De5 × Unit → Option (DeK)
  | 0, _ => none
  | n + 1, (x1, x2, x3, x4, x5, x6, x7, x8, x9, x10, x11, x12, x13, x14, x15, x16, x17, x18, x19, x20, x21, x22, x23, x24, x25, x26, x27, x28, x29, x30, x31, x32, x33, x34, x35, x36, x37, x38, _) => if x2 < x1 then (if 0 ≤ x2 then (if x2 < (x15.length : Int) then ((impl_copyPart.f k ((el TyP x15 x2.toNat).1, ((((el TyP x15 x2.toNat).2).1), ((((el TyP x15 x2.toNat).2).2).1, ((((el TyP x15 x2.toNat).2).2).2))))).bind fun t4 => (((some ([(t4.1, (t4.2.1, t4.2.2))] : DeP))).bind fun y5 => (if (x35.length + y5.length) * 64 ≤ 140737488355328 then (((some (x35 ++ y5))).bind fun y6 => (impl_copyKernel.l1 k n (x1, w64 (x2 + 1), x3, x4, x5, x6, x7, x8, x9, x10, x11, x12, x13, x14, x15, x16, x17, x18, x19, x20, x21, x22, x23, x24, x25, x26, x27, x28, x29, x30, x31, x32, x33, x34, y6, x36, x37, x38, ()))) else none))) else none) else none) else (impl_copyKernel.l2 k k ((x16.length : Int), 0, x3, x4, x5, x6, x7, x8, x9, x10, x11, x12, x13, x14, x15, x16, x17, x18, x19, x20, x21, x22, x23, x24, x25, x26, x27, x28, x29, x30, x31, x32, x33, x34, x35, x36, x37, x38, ()))
def impl_copyKernel.f (k : Nat) (a0 : DeK) : Option (DeK) :=
  (impl_copySetup.f k a0.1).bind fun t1 => ((impl_copyArena.f k a0.2.1).bind fun t2 => ((impl_copyInts.f k a0.2.2.2.2.1).bind fun t3 => (impl_copyKernel.l1 k k ((a0.2.2.1.length : Int), 0, a0.2.2.2.2.2.1, a0.2.2.2.2.2.2.1, 0, false, a0.2.2.2.2.2.1, a0.2.2.2.2.2.2.1, a0.1.1, a0.1.2.1, a0.1.2.2.1, a0.1.2.2.2.1, a0.1.2.2.2.2, a0.2.1, a0.2.2.1, a0.2.2.2.1, a0.2.2.2.2.1, a0.2.2.2.2.2.2.2, [], [], [], [], [], [], [], [], [], [], t1.1, t1.2.1, t1.2.2.1, t1.2.2.2.1, t1.2.2.2.2, t2, [], [], t3, [], ()))))
def impl_copyKernel.Sl1 : Shape := ⟨[(1, false, [.ptr 10 0]), (2, false, [.ptr 11 0]), (3, false, [.ptr 22 0]), (23, false, [.own 6]), (24, false, [.int .i64]), (25, false, [.int .i64])], [(10, .blk 49 [.own 0, .own 1, .own 2, .own 3, .own 4, .own 5, .own 6, .own 7, .own 8, .int .i64, .bool, .own 9]), (11, .blk 49 [.own 12, .own 13, .own 14, .own 15, .own 16, .own 17, .own 18, .own 19, .own 20, .int .i64, .bool, .own 21]), (22, .blk 49 [.own 23, .own 24, .own 25, .own 26, .own 27, .own 28, .own 29, .own 30, .own 31, .int .i64, .bool, .own 32]), (0, .view false 127 Ty2), (1, .view false 181 Ty2), (2, .view false 121 Ty5), (3, .view false 187 Ty3), (4, .view false 9 .str), (5, .view false 3 TyI), (6, .view false 73 TyP), (7, .view false 115 (.sl 210 Ty2)), (8, .view false 3 TyI), (9, .view false 140 Ty5), (12, .row 127 Ty2), (13, .row 181 Ty2), (14, .row 121 Ty5), (15, .row 187 Ty3), (16, .row 9 .str), (17, .row 3 TyI), (18, .row 73 TyP), (19, .row 115 (.sl 210 Ty2)), (20, .row 3 TyI), (21, .row 140 Ty5), (23, .row 127 Ty2), (24, .row 181 Ty2), (25, .row 121 Ty5), (26, .row 187 Ty3), (27, .row 9 .str), (28, .row 3 TyI), (29, .row 73 TyP), (30, .row 115 (.sl 210 Ty2)), (31, .row 3 TyI), (32, .row 140 Ty5)], 33⟩
def impl_copyKernel.Sl2 : Shape := ⟨[(1, false, [.ptr 10 0]), (2, false, [.ptr 11 0]), (3, false, [.ptr 22 0]), (38, false, [.own 7]), (39, false, [.int .i64]), (40, false, [.int .i64])], [(10, .blk 49 [.own 0, .own 1, .own 2, .own 3, .own 4, .own 5, .own 6, .own 7, .own 8, .int .i64, .bool, .own 9]), (11, .blk 49 [.own 12, .own 13, .own 14, .own 15, .own 16, .own 17, .own 18, .own 19, .own 20, .int .i64, .bool, .own 21]), (22, .blk 49 [.own 23, .own 24, .own 25, .own 26, .own 27, .own 28, .own 29, .own 30, .own 31, .int .i64, .bool, .own 32]), (0, .view false 127 Ty2), (1, .view false 181 Ty2), (2, .view false 121 Ty5), (3, .view false 187 Ty3), (4, .view false 9 .str), (5, .view false 3 TyI), (6, .view false 73 TyP), (7, .view false 115 (.sl 210 Ty2)), (8, .view false 3 TyI), (9, .view false 140 Ty5), (12, .row 127 Ty2), (13, .row 181 Ty2), (14, .row 121 Ty5), (15, .row 187 Ty3), (16, .row 9 .str), (17, .row 3 TyI), (18, .row 73 TyP), (19, .row 115 (.sl 210 Ty2)), (20, .row 3 TyI), (21, .row 140 Ty5), (23, .row 127 Ty2), (24, .row 181 Ty2), (25, .row 121 Ty5), (26, .row 187 Ty3), (27, .row 9 .str), (28, .row 3 TyI), (29, .row 73 TyP), (30, .row 115 (.sl 210 Ty2)), (31, .row 3 TyI), (32, .row 140 Ty5)], 33⟩
def impl_copyKernel.sig : Sig := ⟨[.val true (.pair (.pair (.sl 127 Ty2) (.pair (.sl 181 Ty2) (.pair (.sl 121 Ty5) (.pair (.sl 187 Ty3) (.sl 9 .str))))) (.pair (.sl 3 TyI) (.pair (.sl 73 TyP) (.pair (.sl 115 (.sl 210 Ty2)) (.pair (.sl 3 TyI) (.pair TyI (.pair .bool (.sl 140 Ty5)))))))) [0, 0, 0, 0, 0, 0, 0, 0, 0, 0]], [.val true (.pair (.pair (.sl 127 Ty2) (.pair (.sl 181 Ty2) (.pair (.sl 121 Ty5) (.pair (.sl 187 Ty3) (.sl 9 .str))))) (.pair (.sl 3 TyI) (.pair (.sl 73 TyP) (.pair (.sl 115 (.sl 210 Ty2)) (.pair (.sl 3 TyI) (.pair TyI (.pair .bool (.sl 140 Ty5)))))))) [none, none, none, none, none, none, none, none, none, none]]⟩
def impl_copyKernel.F : FT impl_copyKernel.sig := fun k x => impl_copyKernel.f k x.1
def impl_copyKernel.ann : AT impl_copyKernel.sig := fun k => (.seq .nil (.seq .nil (.seq (.seq .nil (.block (.loop impl_copyKernel.Sl1 (impl_copyKernel.l1 k) fun n1 => .nil))) (.seq (.seq .nil (.block (.loop impl_copyKernel.Sl2 (impl_copyKernel.l2 k) fun n1 => .nil))) .nil))))
def impl_copyKernel.ent : Ent := ⟨31, impl_copyKernel.sig, impl_copyKernel.F⟩
def impl_copyKernel.ctx (k : Nat) : Ctx := ⟨tds, [impl_copySetup.ent, impl_copyArena.ent, impl_copyInts.ent, impl_copyPart.ent, impl_copyLine.ent], k, 58⟩
theorem impl_copyKernel.runs : RunsT impl_copyKernel.sig impl_copyKernel.ctx Tryz.f31 impl_copyKernel.ann impl_copyKernel.F := fun k x => by kernel_rfl
theorem impl_copyKernel.obls : OblT tds impl_copyKernel.sig impl_copyKernel.ctx 10 Tryz.f31 impl_copyKernel.ann := fun k => ⟨tr, ⟨tr, ⟨⟨tr, ⟨⟨by kernel_rfl, fun x => by kernel_rfl⟩, fun n => ⟨fun x => by kernel_rfl, ⟨tr, ⟨⟨tr, tr⟩, ⟨⟨tr, tr⟩, tr⟩⟩⟩⟩⟩⟩, ⟨⟨tr, ⟨⟨by kernel_rfl, fun x => by kernel_rfl⟩, fun n => ⟨fun x => by kernel_rfl, ⟨tr, ⟨⟨tr, tr⟩, ⟨⟨tr, tr⟩, tr⟩⟩⟩⟩⟩⟩, ⟨tr, ⟨tr, tr⟩⟩⟩⟩⟩⟩
theorem impl_copyKernel.ok (k : Nat) : EntOk Tryz.prog k impl_copyKernel.ent := fn_ok (C := impl_copyKernel.ctx k) Tryz.func31 (by kernel_rfl) (by kernel_rfl) mixed tdsOk (.cons (impl_copySetup.ok k) (.cons (impl_copyArena.ok k) (.cons (impl_copyInts.ok k) (.cons (impl_copyPart.ok k) (.cons (impl_copyLine.ok k) EntsOk.nil))))) (by kernel_rfl) (leB (by kernel_rfl)) (by kernel_rfl) (impl_copyKernel.runs k) (impl_copyKernel.obls k)
/-! loop.example/g00200/impl.within -/
def impl_within.f (k : Nat) (a0 : Int) (a1 : Int) (a2 : Int) : Option (Bool) :=
  if a1 ≤ a0 then (some (decide (a0 ≤ a2))) else (some false)
def impl_within.sig : Sig := ⟨[.val false TyI [], .val false TyI [], .val false TyI []], [.val false .bool []]⟩
def impl_within.F : FT impl_within.sig := fun k x => impl_within.f k x.1 x.2.1 x.2.2.1
def impl_within.ann : AT impl_within.sig := fun k => .nil
def impl_within.ent : Ent := ⟨33, impl_within.sig, impl_within.F⟩
def impl_within.ctx (k : Nat) : Ctx := ⟨tds, [], k, 15⟩
theorem impl_within.runs : RunsT impl_within.sig impl_within.ctx Tryz.f33 impl_within.ann impl_within.F := fun k x => by kernel_rfl
theorem impl_within.obls : OblT tds impl_within.sig impl_within.ctx 0 Tryz.f33 impl_within.ann := fun k => ⟨tr, ⟨tr, tr⟩⟩
theorem impl_within.ok (k : Nat) : EntOk Tryz.prog k impl_within.ent := fn_ok (C := impl_within.ctx k) Tryz.func33 (by kernel_rfl) (by kernel_rfl) mixed tdsOk EntsOk.nil (by kernel_rfl) (leB (by kernel_rfl)) (by kernel_rfl) (impl_within.runs k) (impl_within.obls k)
/-! loop.example/g00200/impl.RegionsOk -/
def impl_RegionsOk.l2 (k : Nat) (c0 : Int × Int × De2 × Unit → Option (Bool)) : Nat → Int × Int × Int × Int × Int × Int × De2 × De2 × Unit → Option (Bool)
  | 0, _ => none
  | n + 1, (x1, x2, x3, x4, x5, x6, x7, x8, _) => if x4 < x3 then (if 0 ≤ x4 then (if x4 < (x8.length : Int) then (if x5 < (w64 (((el Ty2 x8 x4.toNat).1) + ((el Ty2 x8 x4.toNat).2))) then (if ((el Ty2 x8 x4.toNat).1) < (w64 (x5 + x6)) then (some false) else (impl_RegionsOk.l2 k c0 n (x1, x2, x3, w64 (x4 + 1), x5, x6, x7, x8, ()))) else (impl_RegionsOk.l2 k c0 n (x1, x2, x3, w64 (x4 + 1), x5, x6, x7, x8, ()))) else none) else none) else (c0 (x1, w64 (x2 + 1), x7, ()))
def impl_RegionsOk.l1 (k : Nat)  : Nat → Int × Int × De2 × Unit → Option (Bool)
  | 0, _ => none
  | n + 1, (x1, x2, x3, _) => if x2 < x1 then (if 0 ≤ x2 then (if x2 < (x3.length : Int) then (if ((el Ty2 x3 x2.toNat).1) < 0 then (some false) else (if ((el Ty2 x3 x2.toNat).2) < 1 then (some false) else (if 64 < ((el Ty2 x3 x2.toNat).2) then (some false) else (if (w64 (64 - ((el Ty2 x3 x2.toNat).2))) < ((el Ty2 x3 x2.toNat).1) then (some false) else (if 0 ≤ x2 then (if x2 ≤ (x3.length : Int) then (impl_RegionsOk.l2 k (impl_RegionsOk.l1 k n) k (x1, x2, ((x2.toNat : Nat) : Int), 0, (el Ty2 x3 x2.toNat).1, (el Ty2 x3 x2.toNat).2, x3, x3.take x2.toNat, ())) else none) else none))))) else none) else none) else ((impl_within.f k (x3.length : Int) 1 4).bind fun t1 => (some t1))
def impl_RegionsOk.f (k : Nat) (a0 : De2) : Option (Bool) :=
  impl_RegionsOk.l1 k k ((a0.length : Int), 0, a0, ())
def impl_RegionsOk.Sl1 : Shape := ⟨[(0, false, [.own 0]), (7, false, [.own 0]), (8, false, [.int .i64]), (9, false, [.int .i64])], [(0, .view false 127 Ty2)], 1⟩
def impl_RegionsOk.Sl2 : Shape := ⟨[(0, false, [.own 0]), (4, false, [.ptr 1 0]), (7, false, [.own 0]), (8, false, [.int .i64]), (9, false, [.int .i64]), (37, false, [.own 2]), (38, false, [.int .i64]), (39, false, [.int .i64])], [(1, .blk 127 [.int .i64, .int .i64]), (0, .view false 127 Ty2), (2, .view false 127 Ty2)], 3⟩
def impl_RegionsOk.sig : Sig := ⟨[.val false (.sl 127 Ty2) [0]], [.val false .bool []]⟩
def impl_RegionsOk.F : FT impl_RegionsOk.sig := fun k x => impl_RegionsOk.f k x.1
def impl_RegionsOk.ann : AT impl_RegionsOk.sig := fun k => (.seq .nil (.seq (.seq .nil (.block (.loop impl_RegionsOk.Sl1 (impl_RegionsOk.l1 k) fun n1 => (.seq .nil (.seq .nil (.seq (.block (.seq .nil (.seq .nil (.seq .nil (.block (.loop impl_RegionsOk.Sl2 (impl_RegionsOk.l2 k (impl_RegionsOk.l1 k n1)) fun n2 => .nil)))))) .nil)))))) .nil))
def impl_RegionsOk.ent : Ent := ⟨133, impl_RegionsOk.sig, impl_RegionsOk.F⟩
def impl_RegionsOk.ctx (k : Nat) : Ctx := ⟨tds, [impl_within.ent], k, 66⟩
theorem impl_RegionsOk.runs : RunsT impl_RegionsOk.sig impl_RegionsOk.ctx Tryz.f133 impl_RegionsOk.ann impl_RegionsOk.F := fun k x => by kernel_rfl
theorem impl_RegionsOk.obls : OblT tds impl_RegionsOk.sig impl_RegionsOk.ctx 1 Tryz.f133 impl_RegionsOk.ann := fun k => ⟨tr, ⟨⟨tr, ⟨⟨by kernel_rfl, fun x => by kernel_rfl⟩, fun n => ⟨fun x => by kernel_rfl, ⟨tr, ⟨⟨tr, tr⟩, ⟨⟨tr, ⟨⟨tr, ⟨⟨tr, tr⟩, tr⟩⟩, ⟨tr, ⟨⟨by kernel_rfl, fun x => by kernel_rfl⟩, fun n => ⟨fun x => by kernel_rfl, ⟨tr, ⟨⟨tr, tr⟩, ⟨⟨tr, ⟨tr, ⟨⟨tr, tr⟩, tr⟩⟩⟩, tr⟩⟩⟩⟩⟩⟩⟩⟩, tr⟩⟩⟩⟩⟩⟩, ⟨tr, tr⟩⟩⟩
theorem impl_RegionsOk.ok (k : Nat) : EntOk Tryz.prog k impl_RegionsOk.ent := fn_ok (C := impl_RegionsOk.ctx k) Tryz.func133 (by kernel_rfl) (by kernel_rfl) mixed tdsOk (.cons (impl_within.ok k) EntsOk.nil) (by kernel_rfl) (leB (by kernel_rfl)) (by kernel_rfl) (impl_RegionsOk.runs k) (impl_RegionsOk.obls k)
/-! loop.example/g00200/impl.isPart -/
def impl_isPart.f (k : Nat) (a0 : Int) : Option (Bool) :=
  (impl_within.f k a0 1 4).bind fun t1 => (some t1)
def impl_isPart.sig : Sig := ⟨[.val false TyI []], [.val false .bool []]⟩
def impl_isPart.F : FT impl_isPart.sig := fun k x => impl_isPart.f k x.1
def impl_isPart.ann : AT impl_isPart.sig := fun k => .nil
def impl_isPart.ent : Ent := ⟨159, impl_isPart.sig, impl_isPart.F⟩
def impl_isPart.ctx (k : Nat) : Ctx := ⟨tds, [impl_within.ent], k, 5⟩
theorem impl_isPart.runs : RunsT impl_isPart.sig impl_isPart.ctx Tryz.f159 impl_isPart.ann impl_isPart.F := fun k x => by kernel_rfl
theorem impl_isPart.obls : OblT tds impl_isPart.sig impl_isPart.ctx 0 Tryz.f159 impl_isPart.ann := fun k => ⟨tr, ⟨tr, tr⟩⟩
theorem impl_isPart.ok (k : Nat) : EntOk Tryz.prog k impl_isPart.ent := fn_ok (C := impl_isPart.ctx k) Tryz.func159 (by kernel_rfl) (by kernel_rfl) mixed tdsOk (.cons (impl_within.ok k) EntsOk.nil) (by kernel_rfl) (leB (by kernel_rfl)) (by kernel_rfl) (impl_isPart.runs k) (impl_isPart.obls k)
/-! loop.example/g00200/impl.isBudget -/
def impl_isBudget.f (k : Nat) (a0 : Int) : Option (Bool) :=
  (impl_within.f k a0 1 200).bind fun t1 => (some t1)
def impl_isBudget.sig : Sig := ⟨[.val false TyI []], [.val false .bool []]⟩
def impl_isBudget.F : FT impl_isBudget.sig := fun k x => impl_isBudget.f k x.1
def impl_isBudget.ann : AT impl_isBudget.sig := fun k => .nil
def impl_isBudget.ent : Ent := ⟨160, impl_isBudget.sig, impl_isBudget.F⟩
def impl_isBudget.ctx (k : Nat) : Ctx := ⟨tds, [impl_within.ent], k, 5⟩
theorem impl_isBudget.runs : RunsT impl_isBudget.sig impl_isBudget.ctx Tryz.f160 impl_isBudget.ann impl_isBudget.F := fun k x => by kernel_rfl
theorem impl_isBudget.obls : OblT tds impl_isBudget.sig impl_isBudget.ctx 0 Tryz.f160 impl_isBudget.ann := fun k => ⟨tr, ⟨tr, tr⟩⟩
theorem impl_isBudget.ok (k : Nat) : EntOk Tryz.prog k impl_isBudget.ent := fn_ok (C := impl_isBudget.ctx k) Tryz.func160 (by kernel_rfl) (by kernel_rfl) mixed tdsOk (.cons (impl_within.ok k) EntsOk.nil) (by kernel_rfl) (leB (by kernel_rfl)) (by kernel_rfl) (impl_isBudget.runs k) (impl_isBudget.obls k)
/-! loop.example/g00200/impl.PlanOk -/
def impl_PlanOk.l1 (k : Nat)  : Nat → Int × Int × De2 × Unit → Option (Bool)
  | 0, _ => none
  | n + 1, (x1, x2, x3, _) => if x2 < x1 then (if 0 ≤ x2 then (if x2 < (x3.length : Int) then ((impl_isPart.f k ((el Ty2 x3 x2.toNat).1)).bind fun t1 => (if ¬ t1 = true then (some false) else ((impl_isBudget.f k ((el Ty2 x3 x2.toNat).2)).bind fun t2 => (if ¬ t2 = true then (some false) else (impl_PlanOk.l1 k n (x1, w64 (x2 + 1), x3, ())))))) else none) else none) else ((impl_within.f k (x3.length : Int) 1 12).bind fun t3 => (some t3))
def impl_PlanOk.f (k : Nat) (a0 : De2) : Option (Bool) :=
  impl_PlanOk.l1 k k ((a0.length : Int), 0, a0, ())
def impl_PlanOk.Sl1 : Shape := ⟨[(0, false, [.own 0]), (5, false, [.own 0]), (6, false, [.int .i64]), (7, false, [.int .i64])], [(0, .view false 181 Ty2)], 1⟩
def impl_PlanOk.sig : Sig := ⟨[.val false (.sl 181 Ty2) [0]], [.val false .bool []]⟩
def impl_PlanOk.F : FT impl_PlanOk.sig := fun k x => impl_PlanOk.f k x.1
def impl_PlanOk.ann : AT impl_PlanOk.sig := fun k => (.seq .nil (.seq (.seq .nil (.block (.loop impl_PlanOk.Sl1 (impl_PlanOk.l1 k) fun n1 => .nil))) .nil))
def impl_PlanOk.ent : Ent := ⟨134, impl_PlanOk.sig, impl_PlanOk.F⟩
def impl_PlanOk.ctx (k : Nat) : Ctx := ⟨tds, [impl_within.ent, impl_isPart.ent, impl_isBudget.ent], k, 25⟩
theorem impl_PlanOk.runs : RunsT impl_PlanOk.sig impl_PlanOk.ctx Tryz.f134 impl_PlanOk.ann impl_PlanOk.F := fun k x => by kernel_rfl
theorem impl_PlanOk.obls : OblT tds impl_PlanOk.sig impl_PlanOk.ctx 1 Tryz.f134 impl_PlanOk.ann := fun k => ⟨tr, ⟨⟨tr, ⟨⟨by kernel_rfl, fun x => by kernel_rfl⟩, fun n => ⟨fun x => by kernel_rfl, ⟨tr, ⟨⟨tr, tr⟩, ⟨⟨tr, ⟨tr, ⟨⟨tr, tr⟩, tr⟩⟩⟩, tr⟩⟩⟩⟩⟩⟩, ⟨tr, tr⟩⟩⟩
theorem impl_PlanOk.ok (k : Nat) : EntOk Tryz.prog k impl_PlanOk.ent := fn_ok (C := impl_PlanOk.ctx k) Tryz.func134 (by kernel_rfl) (by kernel_rfl) mixed tdsOk (.cons (impl_within.ok k) (.cons (impl_isPart.ok k) (.cons (impl_isBudget.ok k) EntsOk.nil))) (by kernel_rfl) (leB (by kernel_rfl)) (by kernel_rfl) (impl_PlanOk.runs k) (impl_PlanOk.obls k)
/-! loop.example/g00200/impl.PortOk -/
def impl_PortOk.f (k : Nat) (a0 : Int × Int × Int × Int × Int) : Option (Bool) :=
  (impl_isPart.f k a0.2.1).bind fun t1 => (if ¬ t1 = true then (some false) else ((impl_isPart.f k a0.2.2.1).bind fun t2 => (if ¬ t2 = true then (some false) else (if a0.2.1 = a0.2.2.1 then (some false) else (if a0.1 = 1 then ((impl_within.f k a0.2.2.2.1 1 6).bind fun t3 => (if t3 = true then (some (decide (a0.2.2.2.2 = 0))) else (some false))) else (if a0.1 = 2 then (if a0.2.2.2.1 = 1 then ((impl_within.f k a0.2.2.2.2 1 100).bind fun t4 => (some t4)) else (some false)) else (some false)))))))
def impl_PortOk.sig : Sig := ⟨[.val true Ty5 []], [.val false .bool []]⟩
def impl_PortOk.F : FT impl_PortOk.sig := fun k x => impl_PortOk.f k x.1
def impl_PortOk.ann : AT impl_PortOk.sig := fun k => .nil
def impl_PortOk.ent : Ent := ⟨161, impl_PortOk.sig, impl_PortOk.F⟩
def impl_PortOk.ctx (k : Nat) : Ctx := ⟨tds, [impl_within.ent, impl_isPart.ent], k, 44⟩
theorem impl_PortOk.runs : RunsT impl_PortOk.sig impl_PortOk.ctx Tryz.f161 impl_PortOk.ann impl_PortOk.F := fun k x => by kernel_rfl
theorem impl_PortOk.obls : OblT tds impl_PortOk.sig impl_PortOk.ctx 0 Tryz.f161 impl_PortOk.ann := fun k => ⟨tr, ⟨⟨tr, ⟨⟨tr, tr⟩, tr⟩⟩, ⟨⟨tr, ⟨⟨tr, tr⟩, tr⟩⟩, ⟨tr, tr⟩⟩⟩⟩
theorem impl_PortOk.ok (k : Nat) : EntOk Tryz.prog k impl_PortOk.ent := fn_ok (C := impl_PortOk.ctx k) Tryz.func161 (by kernel_rfl) (by kernel_rfl) mixed tdsOk (.cons (impl_within.ok k) (.cons (impl_isPart.ok k) EntsOk.nil)) (by kernel_rfl) (leB (by kernel_rfl)) (by kernel_rfl) (impl_PortOk.runs k) (impl_PortOk.obls k)
/-! loop.example/g00200/impl.portsOk -/
def impl_portsOk.l1 (k : Nat)  : Nat → Int × Int × De5 × Unit → Option (Bool)
  | 0, _ => none
  | n + 1, (x1, x2, x3, _) => if x2 < x1 then (if 0 ≤ x2 then (if x2 < (x3.length : Int) then ((impl_PortOk.f k ((el Ty5 x3 x2.toNat).1, (((el Ty5 x3 x2.toNat).2).1, ((((el Ty5 x3 x2.toNat).2).2).1, ((((el Ty5 x3 x2.toNat).2).2).2))))).bind fun t1 => (if ¬ t1 = true then (some false) else (impl_portsOk.l1 k n (x1, w64 (x2 + 1), x3, ())))) else none) else none) else (some (decide ((x3.length : Int) ≤ 6)))
def impl_portsOk.f (k : Nat) (a0 : De5) : Option (Bool) :=
  impl_portsOk.l1 k k ((a0.length : Int), 0, a0, ())
def impl_portsOk.Sl1 : Shape := ⟨[(0, false, [.own 0]), (5, false, [.own 0]), (6, false, [.int .i64]), (7, false, [.int .i64])], [(0, .view false 121 Ty5)], 1⟩
def impl_portsOk.sig : Sig := ⟨[.val false (.sl 121 Ty5) [0]], [.val false .bool []]⟩
def impl_portsOk.F : FT impl_portsOk.sig := fun k x => impl_portsOk.f k x.1
def impl_portsOk.ann : AT impl_portsOk.sig := fun k => (.seq .nil (.seq (.seq .nil (.block (.loop impl_portsOk.Sl1 (impl_portsOk.l1 k) fun n1 => .nil))) .nil))
def impl_portsOk.ent : Ent := ⟨135, impl_portsOk.sig, impl_portsOk.F⟩
def impl_portsOk.ctx (k : Nat) : Ctx := ⟨tds, [impl_PortOk.ent], k, 18⟩
theorem impl_portsOk.runs : RunsT impl_portsOk.sig impl_portsOk.ctx Tryz.f135 impl_portsOk.ann impl_portsOk.F := fun k x => by kernel_rfl
theorem impl_portsOk.obls : OblT tds impl_portsOk.sig impl_portsOk.ctx 1 Tryz.f135 impl_portsOk.ann := fun k => ⟨tr, ⟨⟨tr, ⟨⟨by kernel_rfl, fun x => by kernel_rfl⟩, fun n => ⟨fun x => by kernel_rfl, ⟨tr, ⟨⟨tr, tr⟩, ⟨⟨tr, ⟨tr, ⟨⟨tr, tr⟩, tr⟩⟩⟩, tr⟩⟩⟩⟩⟩⟩, ⟨tr, tr⟩⟩⟩
theorem impl_portsOk.ok (k : Nat) : EntOk Tryz.prog k impl_portsOk.ent := fn_ok (C := impl_portsOk.ctx k) Tryz.func135 (by kernel_rfl) (by kernel_rfl) mixed tdsOk (.cons (impl_PortOk.ok k) EntsOk.nil) (by kernel_rfl) (leB (by kernel_rfl)) (by kernel_rfl) (impl_portsOk.runs k) (impl_portsOk.obls k)
/-! loop.example/g00200/impl.ruleFor -/
def impl_ruleFor.l1 (k : Nat)  : Nat → Int × Int × Int × Int × De3 × Unit → Option (Int)
  | 0, _ => none
  | n + 1, (x1, x2, x3, x4, x5, _) => if x4 < x3 then (if 0 ≤ x4 then (if x4 < (x5.length : Int) then (if ((el Ty3 x5 x4.toNat).1) = x1 then (if (((el Ty3 x5 x4.toNat).2).1) = x2 then (some x4) else (impl_ruleFor.l1 k n (x1, x2, x3, w64 (x4 + 1), x5, ()))) else (impl_ruleFor.l1 k n (x1, x2, x3, w64 (x4 + 1), x5, ()))) else none) else none) else (some (-1))
def impl_ruleFor.f (k : Nat) (a0 : De3) (a1 : Int) (a2 : Int) : Option (Int) :=
  impl_ruleFor.l1 k k (a1, a2, (a0.length : Int), 0, a0, ())
def impl_ruleFor.Sl1 : Shape := ⟨[(1, false, [.int .i64]), (2, false, [.int .i64]), (9, false, [.own 0]), (10, false, [.int .i64]), (11, false, [.int .i64])], [(0, .view false 187 Ty3)], 1⟩
def impl_ruleFor.sig : Sig := ⟨[.val false (.sl 187 Ty3) [0], .val false TyI [], .val false TyI []], [.val false TyI []]⟩
def impl_ruleFor.F : FT impl_ruleFor.sig := fun k x => impl_ruleFor.f k x.1 x.2.1 x.2.2.1
def impl_ruleFor.ann : AT impl_ruleFor.sig := fun k => (.seq .nil (.seq (.seq .nil (.block (.loop impl_ruleFor.Sl1 (impl_ruleFor.l1 k) fun n1 => .nil))) .nil))
def impl_ruleFor.ent : Ent := ⟨162, impl_ruleFor.sig, impl_ruleFor.F⟩
def impl_ruleFor.ctx (k : Nat) : Ctx := ⟨tds, [], k, 28⟩
theorem impl_ruleFor.runs : RunsT impl_ruleFor.sig impl_ruleFor.ctx Tryz.f162 impl_ruleFor.ann impl_ruleFor.F := fun k x => by kernel_rfl
theorem impl_ruleFor.obls : OblT tds impl_ruleFor.sig impl_ruleFor.ctx 1 Tryz.f162 impl_ruleFor.ann := fun k => ⟨tr, ⟨⟨tr, ⟨⟨by kernel_rfl, fun x => by kernel_rfl⟩, fun n => ⟨fun x => by kernel_rfl, ⟨tr, ⟨⟨tr, tr⟩, ⟨⟨tr, ⟨tr, ⟨⟨tr, tr⟩, tr⟩⟩⟩, tr⟩⟩⟩⟩⟩⟩, ⟨tr, tr⟩⟩⟩
theorem impl_ruleFor.ok (k : Nat) : EntOk Tryz.prog k impl_ruleFor.ent := fn_ok (C := impl_ruleFor.ctx k) Tryz.func162 (by kernel_rfl) (by kernel_rfl) mixed tdsOk EntsOk.nil (by kernel_rfl) (leB (by kernel_rfl)) (by kernel_rfl) (impl_ruleFor.runs k) (impl_ruleFor.obls k)
/-! loop.example/g00200/impl.RulesOk -/
def impl_RulesOk.l1 (k : Nat)  : Nat → Int × Int × De3 × Unit → Option (Bool)
  | 0, _ => none
  | n + 1, (x1, x2, x3, _) => if x2 < x1 then (if 0 ≤ x2 then (if x2 < (x3.length : Int) then ((impl_isPart.f k ((el Ty3 x3 x2.toNat).1)).bind fun t1 => (if ¬ t1 = true then (some false) else ((impl_within.f k (((el Ty3 x3 x2.toNat).2).1) 1 2).bind fun t2 => (if ¬ t2 = true then (some false) else ((impl_within.f k (((el Ty3 x3 x2.toNat).2).2) 0 4).bind fun t3 => (if ¬ t3 = true then (some false) else ((impl_ruleFor.f k x3 ((el Ty3 x3 x2.toNat).1) (((el Ty3 x3 x2.toNat).2).1)).bind fun t4 => (if ¬ t4 = x2 then (some false) else (if (((el Ty3 x3 x2.toNat).2).1) = 1 then (if (((el Ty3 x3 x2.toNat).2).2) = 0 then (some false) else (impl_RulesOk.l1 k n (x1, w64 (x2 + 1), x3, ()))) else (impl_RulesOk.l1 k n (x1, w64 (x2 + 1), x3, ()))))))))))) else none) else none) else (some (decide ((x3.length : Int) ≤ 8)))
def impl_RulesOk.f (k : Nat) (a0 : De3) : Option (Bool) :=
  impl_RulesOk.l1 k k ((a0.length : Int), 0, a0, ())
def impl_RulesOk.Sl1 : Shape := ⟨[(0, false, [.own 0]), (5, false, [.own 0]), (6, false, [.int .i64]), (7, false, [.int .i64])], [(0, .view false 187 Ty3)], 1⟩
def impl_RulesOk.sig : Sig := ⟨[.val false (.sl 187 Ty3) [0]], [.val false .bool []]⟩
def impl_RulesOk.F : FT impl_RulesOk.sig := fun k x => impl_RulesOk.f k x.1
def impl_RulesOk.ann : AT impl_RulesOk.sig := fun k => (.seq .nil (.seq (.seq .nil (.block (.loop impl_RulesOk.Sl1 (impl_RulesOk.l1 k) fun n1 => .nil))) .nil))
def impl_RulesOk.ent : Ent := ⟨136, impl_RulesOk.sig, impl_RulesOk.F⟩
def impl_RulesOk.ctx (k : Nat) : Ctx := ⟨tds, [impl_within.ent, impl_isPart.ent, impl_ruleFor.ent], k, 50⟩
theorem impl_RulesOk.runs : RunsT impl_RulesOk.sig impl_RulesOk.ctx Tryz.f136 impl_RulesOk.ann impl_RulesOk.F := fun k x => by kernel_rfl
theorem impl_RulesOk.obls : OblT tds impl_RulesOk.sig impl_RulesOk.ctx 1 Tryz.f136 impl_RulesOk.ann := fun k => ⟨tr, ⟨⟨tr, ⟨⟨by kernel_rfl, fun x => by kernel_rfl⟩, fun n => ⟨fun x => by kernel_rfl, ⟨tr, ⟨⟨tr, tr⟩, ⟨⟨tr, ⟨⟨tr, ⟨⟨tr, tr⟩, tr⟩⟩, ⟨tr, ⟨⟨tr, tr⟩, tr⟩⟩⟩⟩, tr⟩⟩⟩⟩⟩⟩, ⟨tr, tr⟩⟩⟩
theorem impl_RulesOk.ok (k : Nat) : EntOk Tryz.prog k impl_RulesOk.ent := fn_ok (C := impl_RulesOk.ctx k) Tryz.func136 (by kernel_rfl) (by kernel_rfl) mixed tdsOk (.cons (impl_within.ok k) (.cons (impl_isPart.ok k) (.cons (impl_ruleFor.ok k) EntsOk.nil))) (by kernel_rfl) (leB (by kernel_rfl)) (by kernel_rfl) (impl_RulesOk.runs k) (impl_RulesOk.obls k)
/-! loop.example/g00200/impl.ReadCode -/
def impl_ReadCode.l1 (k : Nat)  : Nat → ByteArray × Int × De2 × Unit → Option (De2 × Bool)
  | 0, _ => none
  | n + 1, (x1, x2, x3, _) => if x2 < (x1.size : Int) then (if 0 ≤ x2 then (if x2 < (x1.size : Int) then (if 0 ≤ w64 (x2 + 1) then (if w64 (x2 + 1) < (x1.size : Int) then (((some ([(w64 (bt x1 x2), w64 (bt x1 (w64 (x2 + 1))))] : De2))).bind fun y2 => (if (x3.length + y2.length) * 16 ≤ 140737488355328 then (((some (x3 ++ y2))).bind fun y3 => (impl_ReadCode.l1 k n (x1, w64 (x2 + 2), y3, ()))) else none)) else none) else none) else none) else none) else (some (x3, true))
def impl_ReadCode.f (k : Nat) (a0 : ByteArray) : Option (De2 × Bool) :=
  if ¬ (Int.tmod (a0.size : Int) 2) = 0 then (some ([], false)) else (if 120 < (a0.size : Int) then (some ([], false)) else (((some ([] : De2))).bind fun y1 => (impl_ReadCode.l1 k k (a0, 0, y1, ()))))
def impl_ReadCode.Sl1 : Shape := ⟨[(0, false, [.str]), (4, false, [.own 0]), (5, false, [.int .i64])], [(0, .row 76 Ty2)], 1⟩
def impl_ReadCode.sig : Sig := ⟨[.val false .str []], [.val false (.sl 76 Ty2) [none], .val false .bool []]⟩
def impl_ReadCode.F : FT impl_ReadCode.sig := fun k x => impl_ReadCode.f k x.1
def impl_ReadCode.ann : AT impl_ReadCode.sig := fun k => (.seq .nil (.seq .nil (.seq .nil (.seq (.seq .nil (.block (.loop impl_ReadCode.Sl1 (impl_ReadCode.l1 k) fun n1 => .nil))) .nil))))
def impl_ReadCode.ent : Ent := ⟨86, impl_ReadCode.sig, impl_ReadCode.F⟩
def impl_ReadCode.ctx (k : Nat) : Ctx := ⟨tds, [], k, 36⟩
theorem impl_ReadCode.runs : RunsT impl_ReadCode.sig impl_ReadCode.ctx Tryz.f86 impl_ReadCode.ann impl_ReadCode.F := fun k x => by kernel_rfl
theorem impl_ReadCode.obls : OblT tds impl_ReadCode.sig impl_ReadCode.ctx 0 Tryz.f86 impl_ReadCode.ann := fun k => ⟨tr, ⟨⟨tr, ⟨⟨tr, tr⟩, tr⟩⟩, ⟨tr, ⟨⟨tr, ⟨⟨by kernel_rfl, fun x => by kernel_rfl⟩, fun n => ⟨fun x => by kernel_rfl, ⟨⟨tr, ⟨tr, tr⟩⟩, ⟨tr, tr⟩⟩⟩⟩⟩, ⟨tr, tr⟩⟩⟩⟩⟩
theorem impl_ReadCode.ok (k : Nat) : EntOk Tryz.prog k impl_ReadCode.ent := fn_ok (C := impl_ReadCode.ctx k) Tryz.func86 (by kernel_rfl) (by kernel_rfl) mixed tdsOk EntsOk.nil (by kernel_rfl) (leB (by kernel_rfl)) (by kernel_rfl) (impl_ReadCode.runs k) (impl_ReadCode.obls k)
/-! loop.example/g00200/impl.codesOk -/
def impl_codesOk.l1 (k : Nat)  : Nat → Int × Int × Int × DeB × Unit → Option (Bool)
  | 0, _ => none
  | n + 1, (x1, x2, x3, x4, _) => if x3 < x2 then (if 0 ≤ x3 then (if x3 < (x4.length : Int) then ((impl_ReadCode.f k (el .str x4 x3.toNat)).bind fun t1 => (if ¬ t1.2 = true then (some false) else (impl_codesOk.l1 k n (x1, x2, w64 (x3 + 1), x4, ())))) else none) else none) else (some (decide ((x4.length : Int) = x1)))
def impl_codesOk.f (k : Nat) (a0 : DeB) (a1 : Int) : Option (Bool) :=
  impl_codesOk.l1 k k (a1, (a0.length : Int), 0, a0, ())
def impl_codesOk.Sl1 : Shape := ⟨[(0, false, [.own 0]), (1, false, [.int .i64]), (9, false, [.own 0]), (10, false, [.int .i64]), (11, false, [.int .i64])], [(0, .view false 9 .str)], 1⟩
def impl_codesOk.sig : Sig := ⟨[.val false (.sl 9 .str) [0], .val false TyI []], [.val false .bool []]⟩
def impl_codesOk.F : FT impl_codesOk.sig := fun k x => impl_codesOk.f k x.1 x.2.1
def impl_codesOk.ann : AT impl_codesOk.sig := fun k => (.seq .nil (.seq (.seq .nil (.block (.loop impl_codesOk.Sl1 (impl_codesOk.l1 k) fun n1 => .nil))) .nil))
def impl_codesOk.ent : Ent := ⟨137, impl_codesOk.sig, impl_codesOk.F⟩
def impl_codesOk.ctx (k : Nat) : Ctx := ⟨tds, [impl_ReadCode.ent], k, 27⟩
theorem impl_codesOk.runs : RunsT impl_codesOk.sig impl_codesOk.ctx Tryz.f137 impl_codesOk.ann impl_codesOk.F := fun k x => by kernel_rfl
theorem impl_codesOk.obls : OblT tds impl_codesOk.sig impl_codesOk.ctx 1 Tryz.f137 impl_codesOk.ann := fun k => ⟨tr, ⟨⟨tr, ⟨⟨by kernel_rfl, fun x => by kernel_rfl⟩, fun n => ⟨fun x => by kernel_rfl, ⟨tr, ⟨⟨tr, tr⟩, ⟨⟨tr, ⟨tr, ⟨tr, ⟨⟨tr, tr⟩, tr⟩⟩⟩⟩, tr⟩⟩⟩⟩⟩⟩, ⟨tr, tr⟩⟩⟩
theorem impl_codesOk.ok (k : Nat) : EntOk Tryz.prog k impl_codesOk.ent := fn_ok (C := impl_codesOk.ctx k) Tryz.func137 (by kernel_rfl) (by kernel_rfl) mixed tdsOk (.cons (impl_ReadCode.ok k) EntsOk.nil) (by kernel_rfl) (leB (by kernel_rfl)) (by kernel_rfl) (impl_codesOk.runs k) (impl_codesOk.obls k)
/-! loop.example/g00200/impl.partsOk -/
def impl_partsOk.l3 (k : Nat)  : Nat → Int × Int × Int × De2 × De2 × De5 × De3 × DeB × Unit → Option (Bool)
  | 0, _ => none
  | n + 1, (x1, x2, x3, x4, x5, x6, x7, x8, _) => if x3 < x2 then (if 0 ≤ x3 then (if x3 < (x7.length : Int) then (impl_partsOk.l3 k n (max x1 ((el Ty3 x7 x3.toNat).1), x2, w64 (x3 + 1), x4, x5, x6, x7, x8, ())) else none) else none) else (some (decide (x1 ≤ (x4.length : Int))))
def impl_partsOk.l2 (k : Nat)  : Nat → Int × Int × Int × De2 × De2 × De5 × De3 × DeB × Unit → Option (Bool)
  | 0, _ => none
  | n + 1, (x1, x2, x3, x4, x5, x6, x7, x8, _) => if x3 < x2 then (if 0 ≤ x3 then (if x3 < (x6.length : Int) then (impl_partsOk.l2 k n (max (max x1 (((el Ty5 x6 x3.toNat).2).1)) ((((el Ty5 x6 x3.toNat).2).2).1), x2, w64 (x3 + 1), x4, x5, x6, x7, x8, ())) else none) else none) else (impl_partsOk.l3 k k (x1, (x7.length : Int), 0, x4, x5, x6, x7, x8, ()))
def impl_partsOk.l1 (k : Nat)  : Nat → Int × Int × Int × De2 × De2 × De5 × De3 × DeB × Unit → Option (Bool)
  | 0, _ => none
  | n + 1, (x1, x2, x3, x4, x5, x6, x7, x8, _) => if x3 < x2 then (if 0 ≤ x3 then (if x3 < (x5.length : Int) then (impl_partsOk.l1 k n (max x1 ((el Ty2 x5 x3.toNat).1), x2, w64 (x3 + 1), x4, x5, x6, x7, x8, ())) else none) else none) else (impl_partsOk.l2 k k (x1, (x6.length : Int), 0, x4, x5, x6, x7, x8, ()))
def impl_partsOk.f (k : Nat) (a0 : De2 × De2 × De5 × De3 × DeB) : Option (Bool) :=
  impl_partsOk.l1 k k (0, (a0.2.1.length : Int), 0, a0.1, a0.2.1, a0.2.2.1, a0.2.2.2.1, a0.2.2.2.2, ())
def impl_partsOk.Sl1 : Shape := ⟨[(1, false, [.ptr 5 0]), (3, false, [.int .i64]), (11, false, [.own 1]), (12, false, [.int .i64]), (13, false, [.int .i64])], [(5, .blk 43 [.own 0, .own 1, .own 2, .own 3, .own 4]), (0, .view false 127 Ty2), (1, .view false 181 Ty2), (2, .view false 121 Ty5), (3, .view false 187 Ty3), (4, .view false 9 .str)], 6⟩
def impl_partsOk.Sl2 : Shape := ⟨[(1, false, [.ptr 5 0]), (3, false, [.int .i64]), (23, false, [.own 2]), (24, false, [.int .i64]), (25, false, [.int .i64])], [(5, .blk 43 [.own 0, .own 1, .own 2, .own 3, .own 4]), (0, .view false 127 Ty2), (1, .view false 181 Ty2), (2, .view false 121 Ty5), (3, .view false 187 Ty3), (4, .view false 9 .str)], 6⟩
def impl_partsOk.Sl3 : Shape := ⟨[(1, false, [.ptr 5 0]), (3, false, [.int .i64]), (37, false, [.own 3]), (38, false, [.int .i64]), (39, false, [.int .i64])], [(5, .blk 43 [.own 0, .own 1, .own 2, .own 3, .own 4]), (0, .view false 127 Ty2), (1, .view false 181 Ty2), (2, .view false 121 Ty5), (3, .view false 187 Ty3), (4, .view false 9 .str)], 6⟩
def impl_partsOk.sig : Sig := ⟨[.val true (.pair (.sl 127 Ty2) (.pair (.sl 181 Ty2) (.pair (.sl 121 Ty5) (.pair (.sl 187 Ty3) (.sl 9 .str))))) [0, 0, 0, 0, 0]], [.val false .bool []]⟩
def impl_partsOk.F : FT impl_partsOk.sig := fun k x => impl_partsOk.f k x.1
def impl_partsOk.ann : AT impl_partsOk.sig := fun k => (.seq .nil (.seq .nil (.seq (.seq .nil (.block (.loop impl_partsOk.Sl1 (impl_partsOk.l1 k) fun n1 => .nil))) (.seq (.seq .nil (.block (.loop impl_partsOk.Sl2 (impl_partsOk.l2 k) fun n1 => .nil))) (.seq (.seq .nil (.block (.loop impl_partsOk.Sl3 (impl_partsOk.l3 k) fun n1 => .nil))) .nil)))))
def impl_partsOk.ent : Ent := ⟨138, impl_partsOk.sig, impl_partsOk.F⟩
def impl_partsOk.ctx (k : Nat) : Ctx := ⟨tds, [], k, 53⟩
theorem impl_partsOk.runs : RunsT impl_partsOk.sig impl_partsOk.ctx Tryz.f138 impl_partsOk.ann impl_partsOk.F := fun k x => by kernel_rfl
theorem impl_partsOk.obls : OblT tds impl_partsOk.sig impl_partsOk.ctx 5 Tryz.f138 impl_partsOk.ann := fun k => ⟨tr, ⟨tr, ⟨⟨tr, ⟨⟨by kernel_rfl, fun x => by kernel_rfl⟩, fun n => ⟨fun x => by kernel_rfl, ⟨tr, ⟨⟨tr, tr⟩, ⟨⟨tr, tr⟩, tr⟩⟩⟩⟩⟩⟩, ⟨⟨tr, ⟨⟨by kernel_rfl, fun x => by kernel_rfl⟩, fun n => ⟨fun x => by kernel_rfl, ⟨tr, ⟨⟨tr, tr⟩, ⟨⟨tr, tr⟩, tr⟩⟩⟩⟩⟩⟩, ⟨⟨tr, ⟨⟨by kernel_rfl, fun x => by kernel_rfl⟩, fun n => ⟨fun x => by kernel_rfl, ⟨tr, ⟨⟨tr, tr⟩, ⟨⟨tr, tr⟩, tr⟩⟩⟩⟩⟩⟩, ⟨tr, tr⟩⟩⟩⟩⟩⟩
theorem impl_partsOk.ok (k : Nat) : EntOk Tryz.prog k impl_partsOk.ent := fn_ok (C := impl_partsOk.ctx k) Tryz.func138 (by kernel_rfl) (by kernel_rfl) mixed tdsOk EntsOk.nil (by kernel_rfl) (leB (by kernel_rfl)) (by kernel_rfl) (impl_partsOk.runs k) (impl_partsOk.obls k)
/-! loop.example/g00200/impl.SetupFault -/
def impl_SetupFault.f (k : Nat) (a0 : De2 × De2 × De5 × De3 × DeB) : Option (Int) :=
  (impl_RegionsOk.f k a0.1).bind fun t1 => (if ¬ t1 = true then (some 1) else ((impl_PlanOk.f k a0.2.1).bind fun t2 => (if ¬ t2 = true then (some 2) else ((impl_portsOk.f k a0.2.2.1).bind fun t3 => (if ¬ t3 = true then (some 3) else ((impl_RulesOk.f k a0.2.2.2.1).bind fun t4 => (if ¬ t4 = true then (some 4) else ((impl_codesOk.f k a0.2.2.2.2 (a0.1.length : Int)).bind fun t5 => (if ¬ t5 = true then (some 5) else ((impl_partsOk.f k a0).bind fun t6 => (if ¬ t6 = true then (some 6) else (some 0))))))))))))
def impl_SetupFault.sig : Sig := ⟨[.val true (.pair (.sl 127 Ty2) (.pair (.sl 181 Ty2) (.pair (.sl 121 Ty5) (.pair (.sl 187 Ty3) (.sl 9 .str))))) [0, 0, 0, 0, 0]], [.val false TyI []]⟩
def impl_SetupFault.F : FT impl_SetupFault.sig := fun k x => impl_SetupFault.f k x.1
def impl_SetupFault.ann : AT impl_SetupFault.sig := fun k => .nil
def impl_SetupFault.ent : Ent := ⟨82, impl_SetupFault.sig, impl_SetupFault.F⟩
def impl_SetupFault.ctx (k : Nat) : Ctx := ⟨tds, [impl_RegionsOk.ent, impl_PlanOk.ent, impl_portsOk.ent, impl_RulesOk.ent, impl_codesOk.ent, impl_partsOk.ent], k, 35⟩
theorem impl_SetupFault.runs : RunsT impl_SetupFault.sig impl_SetupFault.ctx Tryz.f82 impl_SetupFault.ann impl_SetupFault.F := fun k x => by kernel_rfl
theorem impl_SetupFault.obls : OblT tds impl_SetupFault.sig impl_SetupFault.ctx 5 Tryz.f82 impl_SetupFault.ann := fun k => ⟨tr, ⟨⟨tr, ⟨⟨tr, tr⟩, ⟨tr, ⟨⟨tr, tr⟩, ⟨tr, ⟨⟨tr, tr⟩, ⟨tr, ⟨⟨tr, tr⟩, ⟨tr, ⟨⟨tr, tr⟩, ⟨tr, ⟨⟨tr, tr⟩, tr⟩⟩⟩⟩⟩⟩⟩⟩⟩⟩⟩⟩, ⟨tr, tr⟩⟩⟩
theorem impl_SetupFault.ok (k : Nat) : EntOk Tryz.prog k impl_SetupFault.ent := fn_ok (C := impl_SetupFault.ctx k) Tryz.func82 (by kernel_rfl) (by kernel_rfl) mixed tdsOk (.cons (impl_RegionsOk.ok k) (.cons (impl_PlanOk.ok k) (.cons (impl_portsOk.ok k) (.cons (impl_RulesOk.ok k) (.cons (impl_codesOk.ok k) (.cons (impl_partsOk.ok k) EntsOk.nil)))))) (by kernel_rfl) (leB (by kernel_rfl)) (by kernel_rfl) (impl_SetupFault.runs k) (impl_SetupFault.obls k)
/-! loop.example/g00200/impl.isWord -/
def impl_isWord.f (k : Nat) (a0 : Int) : Option (Bool) :=
  (impl_within.f k a0 0 65535).bind fun t1 => (some t1)
def impl_isWord.sig : Sig := ⟨[.val false TyI []], [.val false .bool []]⟩
def impl_isWord.F : FT impl_isWord.sig := fun k x => impl_isWord.f k x.1
def impl_isWord.ann : AT impl_isWord.sig := fun k => .nil
def impl_isWord.ent : Ent := ⟨139, impl_isWord.sig, impl_isWord.F⟩
def impl_isWord.ctx (k : Nat) : Ctx := ⟨tds, [impl_within.ent], k, 5⟩
theorem impl_isWord.runs : RunsT impl_isWord.sig impl_isWord.ctx Tryz.f139 impl_isWord.ann impl_isWord.F := fun k x => by kernel_rfl
theorem impl_isWord.obls : OblT tds impl_isWord.sig impl_isWord.ctx 0 Tryz.f139 impl_isWord.ann := fun k => ⟨tr, ⟨tr, tr⟩⟩
theorem impl_isWord.ok (k : Nat) : EntOk Tryz.prog k impl_isWord.ent := fn_ok (C := impl_isWord.ctx k) Tryz.func139 (by kernel_rfl) (by kernel_rfl) mixed tdsOk (.cons (impl_within.ok k) EntsOk.nil) (by kernel_rfl) (leB (by kernel_rfl)) (by kernel_rfl) (impl_isWord.runs k) (impl_isWord.obls k)
/-! loop.example/g00200/impl.wordsOk -/
def impl_wordsOk.l1 (k : Nat)  : Nat → Int × Int × DeI × Unit → Option (Bool)
  | 0, _ => none
  | n + 1, (x1, x2, x3, _) => if x2 < x1 then (if 0 ≤ x2 then (if x2 < (x3.length : Int) then ((impl_isWord.f k (el TyI x3 x2.toNat)).bind fun t1 => (if ¬ t1 = true then (some false) else (impl_wordsOk.l1 k n (x1, w64 (x2 + 1), x3, ())))) else none) else none) else (some true)
def impl_wordsOk.f (k : Nat) (a0 : DeI) : Option (Bool) :=
  impl_wordsOk.l1 k k ((a0.length : Int), 0, a0, ())
def impl_wordsOk.Sl1 : Shape := ⟨[(5, false, [.own 0]), (6, false, [.int .i64]), (7, false, [.int .i64])], [(0, .view false 3 TyI)], 1⟩
def impl_wordsOk.sig : Sig := ⟨[.val false (.sl 3 TyI) [0]], [.val false .bool []]⟩
def impl_wordsOk.F : FT impl_wordsOk.sig := fun k x => impl_wordsOk.f k x.1
def impl_wordsOk.ann : AT impl_wordsOk.sig := fun k => (.seq .nil (.seq (.seq .nil (.block (.loop impl_wordsOk.Sl1 (impl_wordsOk.l1 k) fun n1 => .nil))) .nil))
def impl_wordsOk.ent : Ent := ⟨83, impl_wordsOk.sig, impl_wordsOk.F⟩
def impl_wordsOk.ctx (k : Nat) : Ctx := ⟨tds, [impl_isWord.ent], k, 15⟩
theorem impl_wordsOk.runs : RunsT impl_wordsOk.sig impl_wordsOk.ctx Tryz.f83 impl_wordsOk.ann impl_wordsOk.F := fun k x => by kernel_rfl
theorem impl_wordsOk.obls : OblT tds impl_wordsOk.sig impl_wordsOk.ctx 1 Tryz.f83 impl_wordsOk.ann := fun k => ⟨tr, ⟨⟨tr, ⟨⟨by kernel_rfl, fun x => by kernel_rfl⟩, fun n => ⟨fun x => by kernel_rfl, ⟨tr, ⟨⟨tr, tr⟩, ⟨⟨tr, ⟨tr, ⟨⟨tr, tr⟩, tr⟩⟩⟩, tr⟩⟩⟩⟩⟩⟩, ⟨tr, tr⟩⟩⟩
theorem impl_wordsOk.ok (k : Nat) : EntOk Tryz.prog k impl_wordsOk.ent := fn_ok (C := impl_wordsOk.ctx k) Tryz.func83 (by kernel_rfl) (by kernel_rfl) mixed tdsOk (.cons (impl_isWord.ok k) EntsOk.nil) (by kernel_rfl) (leB (by kernel_rfl)) (by kernel_rfl) (impl_wordsOk.runs k) (impl_wordsOk.obls k)
/-! loop.example/g00200/impl.CpuOk -/
def impl_CpuOk.f (k : Nat) (a0 : Int × DeI) : Option (Bool) :=
  (impl_within.f k a0.1 0 60).bind fun t1 => (if t1 = true then (if (a0.2.length : Int) ≤ 8 then ((impl_wordsOk.f k a0.2).bind fun t2 => (some t2)) else (some false)) else (some false))
def impl_CpuOk.sig : Sig := ⟨[.val true (.pair TyI (.sl 3 TyI)) [0]], [.val false .bool []]⟩
def impl_CpuOk.F : FT impl_CpuOk.sig := fun k x => impl_CpuOk.f k x.1
def impl_CpuOk.ann : AT impl_CpuOk.sig := fun k => .nil
def impl_CpuOk.ent : Ent := ⟨84, impl_CpuOk.sig, impl_CpuOk.F⟩
def impl_CpuOk.ctx (k : Nat) : Ctx := ⟨tds, [impl_within.ent, impl_wordsOk.ent], k, 17⟩
theorem impl_CpuOk.runs : RunsT impl_CpuOk.sig impl_CpuOk.ctx Tryz.f84 impl_CpuOk.ann impl_CpuOk.F := fun k x => by kernel_rfl
theorem impl_CpuOk.obls : OblT tds impl_CpuOk.sig impl_CpuOk.ctx 1 Tryz.f84 impl_CpuOk.ann := fun k => ⟨tr, ⟨tr, tr⟩⟩
theorem impl_CpuOk.ok (k : Nat) : EntOk Tryz.prog k impl_CpuOk.ent := fn_ok (C := impl_CpuOk.ctx k) Tryz.func84 (by kernel_rfl) (by kernel_rfl) mixed tdsOk (.cons (impl_within.ok k) (.cons (impl_wordsOk.ok k) EntsOk.nil)) (by kernel_rfl) (leB (by kernel_rfl)) (by kernel_rfl) (impl_CpuOk.runs k) (impl_CpuOk.obls k)
/-! loop.example/g00200/impl.isNumber -/
def impl_isNumber.f (k : Nat) (a0 : Int) : Option (Bool) :=
  (impl_within.f k a0 0 1000000000).bind fun t1 => (some t1)
def impl_isNumber.sig : Sig := ⟨[.val false TyI []], [.val false .bool []]⟩
def impl_isNumber.F : FT impl_isNumber.sig := fun k x => impl_isNumber.f k x.1
def impl_isNumber.ann : AT impl_isNumber.sig := fun k => .nil
def impl_isNumber.ent : Ent := ⟨85, impl_isNumber.sig, impl_isNumber.F⟩
def impl_isNumber.ctx (k : Nat) : Ctx := ⟨tds, [impl_within.ent], k, 5⟩
theorem impl_isNumber.runs : RunsT impl_isNumber.sig impl_isNumber.ctx Tryz.f85 impl_isNumber.ann impl_isNumber.F := fun k x => by kernel_rfl
theorem impl_isNumber.obls : OblT tds impl_isNumber.sig impl_isNumber.ctx 0 Tryz.f85 impl_isNumber.ann := fun k => ⟨tr, ⟨tr, tr⟩⟩
theorem impl_isNumber.ok (k : Nat) : EntOk Tryz.prog k impl_isNumber.ent := fn_ok (C := impl_isNumber.ctx k) Tryz.func85 (by kernel_rfl) (by kernel_rfl) mixed tdsOk (.cons (impl_within.ok k) EntsOk.nil) (by kernel_rfl) (leB (by kernel_rfl)) (by kernel_rfl) (impl_isNumber.runs k) (impl_isNumber.obls k)
/-! loop.example/g00200/impl.KernelOk -/
def impl_KernelOk.l2 (k : Nat)  : Nat → Int × Int × Int × Bool × De2 × De2 × De5 × De3 × DeB × DeI × DeP × DeL × DeI × De5 × Unit → Option (Bool)
  | 0, _ => none
  | n + 1, (x1, x2, x3, x4, x5, x6, x7, x8, x9, x10, x11, x12, x13, x14, _) => if x2 < x1 then (if 0 ≤ x2 then (if x2 < (x12.length : Int) then (if 0 ≤ x2 then (if x2 < (x7.length : Int) then (if (((((el Ty5 x7 x2.toNat).2).2).2).1) < ((el (.sl 210 Ty2) x12 x2.toNat).length : Int) then (some false) else (impl_KernelOk.l2 k n (x1, w64 (x2 + 1), x3, x4, x5, x6, x7, x8, x9, x10, x11, x12, x13, x14, ()))) else none) else none) else none) else none) else (if (x13.length : Int) = 8 then ((impl_wordsOk.f k x13).bind fun t8 => (if t8 = true then ((impl_isNumber.f k x3).bind fun t9 => (some t9)) else (some false))) else (some false))
def impl_KernelOk.l1 (k : Nat)  : Nat → Int × Int × Int × Bool × De2 × De2 × De5 × De3 × DeB × DeI × DeP × DeL × DeI × De5 × Unit → Option (Bool)
  | 0, _ => none
  | n + 1, (x1, x2, x3, x4, x5, x6, x7, x8, x9, x10, x11, x12, x13, x14, _) => if x2 < x1 then (if 0 ≤ x2 then (if x2 < (x11.length : Int) then ((impl_within.f k ((el TyP x11 x2.toNat).1) 0 1).bind fun t3 => (if ¬ t3 = true then (some false) else ((impl_CpuOk.f k (((el TyP x11 x2.toNat).2).1)).bind fun t4 => (if ¬ t4 = true then (some false) else ((impl_isNumber.f k ((((el TyP x11 x2.toNat).2).2).1)).bind fun t5 => (if ¬ t5 = true then (some false) else ((impl_isNumber.f k (((((el TyP x11 x2.toNat).2).2).2).1)).bind fun t6 => (if ¬ t6 = true then (some false) else ((impl_isNumber.f k (((((el TyP x11 x2.toNat).2).2).2).2)).bind fun t7 => (if ¬ t7 = true then (some false) else (impl_KernelOk.l1 k n (x1, w64 (x2 + 1), x3, x4, x5, x6, x7, x8, x9, x10, x11, x12, x13, x14, ())))))))))))) else none) else none) else (impl_KernelOk.l2 k k ((x12.length : Int), 0, x3, x4, x5, x6, x7, x8, x9, x10, x11, x12, x13, x14, ()))
def impl_KernelOk.f (k : Nat) (a0 : DeK) : Option (Bool) :=
  (impl_SetupFault.f k a0.1).bind fun t1 => (if ¬ t1 = 0 then (some false) else (if ¬ (a0.2.1.length : Int) = 64 then (some false) else ((impl_wordsOk.f k a0.2.1).bind fun t2 => (if ¬ t2 = true then (some false) else (if ¬ (a0.2.2.1.length : Int) = (a0.1.1.length : Int) then (some false) else (if ¬ (a0.2.2.2.1.length : Int) = (a0.1.2.2.1.length : Int) then (some false) else (impl_KernelOk.l1 k k ((a0.2.2.1.length : Int), 0, a0.2.2.2.2.2.1, a0.2.2.2.2.2.2.1, a0.1.1, a0.1.2.1, a0.1.2.2.1, a0.1.2.2.2.1, a0.1.2.2.2.2, a0.2.1, a0.2.2.1, a0.2.2.2.1, a0.2.2.2.2.1, a0.2.2.2.2.2.2.2, ()))))))))
def impl_KernelOk.Sl1 : Shape := ⟨[(1, false, [.ptr 10 0]), (46, false, [.own 6]), (47, false, [.int .i64]), (48, false, [.int .i64])], [(10, .blk 49 [.own 0, .own 1, .own 2, .own 3, .own 4, .own 5, .own 6, .own 7, .own 8, .int .i64, .bool, .own 9]), (0, .view false 127 Ty2), (1, .view false 181 Ty2), (2, .view false 121 Ty5), (3, .view false 187 Ty3), (4, .view false 9 .str), (5, .view false 3 TyI), (6, .view false 73 TyP), (7, .view false 115 (.sl 210 Ty2)), (8, .view false 3 TyI), (9, .view false 140 Ty5)], 11⟩
def impl_KernelOk.Sl2 : Shape := ⟨[(1, false, [.ptr 10 0]), (82, false, [.own 7]), (83, false, [.int .i64]), (84, false, [.int .i64])], [(10, .blk 49 [.own 0, .own 1, .own 2, .own 3, .own 4, .own 5, .own 6, .own 7, .own 8, .int .i64, .bool, .own 9]), (0, .view false 127 Ty2), (1, .view false 181 Ty2), (2, .view false 121 Ty5), (3, .view false 187 Ty3), (4, .view false 9 .str), (5, .view false 3 TyI), (6, .view false 73 TyP), (7, .view false 115 (.sl 210 Ty2)), (8, .view false 3 TyI), (9, .view false 140 Ty5)], 11⟩
def impl_KernelOk.sig : Sig := ⟨[.val true (.pair (.pair (.sl 127 Ty2) (.pair (.sl 181 Ty2) (.pair (.sl 121 Ty5) (.pair (.sl 187 Ty3) (.sl 9 .str))))) (.pair (.sl 3 TyI) (.pair (.sl 73 TyP) (.pair (.sl 115 (.sl 210 Ty2)) (.pair (.sl 3 TyI) (.pair TyI (.pair .bool (.sl 140 Ty5)))))))) [0, 0, 0, 0, 0, 0, 0, 0, 0, 0]], [.val false .bool []]⟩
def impl_KernelOk.F : FT impl_KernelOk.sig := fun k x => impl_KernelOk.f k x.1
def impl_KernelOk.ann : AT impl_KernelOk.sig := fun k => (.seq .nil (.seq .nil (.seq (.seq .nil (.block (.loop impl_KernelOk.Sl1 (impl_KernelOk.l1 k) fun n1 => .nil))) (.seq (.seq .nil (.block (.loop impl_KernelOk.Sl2 (impl_KernelOk.l2 k) fun n1 => .nil))) .nil))))
def impl_KernelOk.ent : Ent := ⟨32, impl_KernelOk.sig, impl_KernelOk.F⟩
def impl_KernelOk.ctx (k : Nat) : Ctx := ⟨tds, [impl_within.ent, impl_SetupFault.ent, impl_wordsOk.ent, impl_CpuOk.ent, impl_isNumber.ent], k, 115⟩
theorem impl_KernelOk.runs : RunsT impl_KernelOk.sig impl_KernelOk.ctx Tryz.f32 impl_KernelOk.ann impl_KernelOk.F := fun k x => by kernel_rfl
theorem impl_KernelOk.obls : OblT tds impl_KernelOk.sig impl_KernelOk.ctx 10 Tryz.f32 impl_KernelOk.ann := fun k => ⟨tr, ⟨⟨tr, ⟨⟨tr, tr⟩, tr⟩⟩, ⟨⟨tr, ⟨⟨by kernel_rfl, fun x => by kernel_rfl⟩, fun n => ⟨fun x => by kernel_rfl, ⟨tr, ⟨⟨tr, tr⟩, ⟨⟨tr, ⟨tr, ⟨⟨tr, tr⟩, tr⟩⟩⟩, tr⟩⟩⟩⟩⟩⟩, ⟨⟨tr, ⟨⟨by kernel_rfl, fun x => by kernel_rfl⟩, fun n => ⟨fun x => by kernel_rfl, ⟨tr, ⟨⟨tr, tr⟩, ⟨⟨tr, ⟨tr, ⟨⟨tr, tr⟩, tr⟩⟩⟩, tr⟩⟩⟩⟩⟩⟩, ⟨tr, tr⟩⟩⟩⟩⟩
theorem impl_KernelOk.ok (k : Nat) : EntOk Tryz.prog k impl_KernelOk.ent := fn_ok (C := impl_KernelOk.ctx k) Tryz.func32 (by kernel_rfl) (by kernel_rfl) mixed tdsOk (.cons (impl_within.ok k) (.cons (impl_SetupFault.ok k) (.cons (impl_wordsOk.ok k) (.cons (impl_CpuOk.ok k) (.cons (impl_isNumber.ok k) EntsOk.nil))))) (by kernel_rfl) (leB (by kernel_rfl)) (by kernel_rfl) (impl_KernelOk.runs k) (impl_KernelOk.obls k)
/-! loop.example/g00200/impl.CostOf -/
def impl_CostOf.j2 (k : Nat)  : Int × Bool × Unit → Option (Int)
  | (z1, z2, _) => if z2 = true then (some 3) else (if z1 = 13 then (some 4) else (if z1 = 14 then (some 4) else (some 1)))
def impl_CostOf.j1 (k : Nat)  : Int × Bool × Unit → Option (Int)
  | (z1, z2, _) => if z2 = true then (some 2) else (if z1 = 6 then (impl_CostOf.j2 k (z1, true, ())) else (impl_CostOf.j2 k (z1, decide (z1 = 7), ())))
def impl_CostOf.f (k : Nat) (a0 : Int) : Option (Int) :=
  if a0 = 2 then (impl_CostOf.j1 k (a0, true, ())) else (if a0 = 3 then (impl_CostOf.j1 k (a0, true, ())) else (if a0 = 15 then (impl_CostOf.j1 k (a0, true, ())) else (impl_CostOf.j1 k (a0, decide (a0 = 16), ()))))
def impl_CostOf.Sj1 : Shape := ⟨[(3, false, [.int .i64]), (4, false, [.bool])], [], 0⟩
def impl_CostOf.Sj2 : Shape := ⟨[(3, false, [.int .i64]), (9, false, [.bool])], [], 0⟩
def impl_CostOf.sig : Sig := ⟨[.val false TyI []], [.val false TyI []]⟩
def impl_CostOf.F : FT impl_CostOf.sig := fun k x => impl_CostOf.f k x.1
def impl_CostOf.ann : AT impl_CostOf.sig := fun k => (.seq .nil (.seq (.seq .nil (.block (.join impl_CostOf.Sj1 (impl_CostOf.j1 k) .nil (.cond .nil (.join impl_CostOf.Sj2 (impl_CostOf.j2 k) .nil .nil))))) .nil))
def impl_CostOf.ent : Ent := ⟨87, impl_CostOf.sig, impl_CostOf.F⟩
def impl_CostOf.ctx (k : Nat) : Ctx := ⟨tds, [], k, 15⟩
theorem impl_CostOf.runs : RunsT impl_CostOf.sig impl_CostOf.ctx Tryz.f87 impl_CostOf.ann impl_CostOf.F := fun k x => by kernel_rfl
theorem impl_CostOf.obls : OblT tds impl_CostOf.sig impl_CostOf.ctx 0 Tryz.f87 impl_CostOf.ann := fun k => ⟨tr, ⟨⟨tr, ⟨⟨by kernel_rfl, fun x => by kernel_rfl⟩, ⟨tr, ⟨tr, ⟨tr, ⟨tr, ⟨tr, ⟨tr, tr⟩⟩⟩⟩⟩⟩, ⟨⟨tr, tr⟩, ⟨⟨by kernel_rfl, fun x => by kernel_rfl⟩, ⟨tr, ⟨tr, tr⟩⟩, ⟨⟨tr, tr⟩, ⟨⟨tr, ⟨tr, tr⟩⟩, ⟨⟨tr, tr⟩, tr⟩⟩⟩⟩⟩⟩⟩, ⟨tr, tr⟩⟩⟩
theorem impl_CostOf.ok (k : Nat) : EntOk Tryz.prog k impl_CostOf.ent := fn_ok (C := impl_CostOf.ctx k) Tryz.func87 (by kernel_rfl) (by kernel_rfl) mixed tdsOk EntsOk.nil (by kernel_rfl) (leB (by kernel_rfl)) (by kernel_rfl) (impl_CostOf.runs k) (impl_CostOf.obls k)
/-! loop.example/g00200/impl.CodeOk -/
def impl_CodeOk.l1 (k : Nat)  : Nat → Int × Int × De2 × Unit → Option (Bool)
  | 0, _ => none
  | n + 1, (x1, x2, x3, _) => if x2 < x1 then (if 0 ≤ x2 then (if x2 < (x3.length : Int) then ((impl_within.f k ((el Ty2 x3 x2.toNat).1) 0 255).bind fun t1 => (if ¬ t1 = true then (some false) else ((impl_within.f k ((el Ty2 x3 x2.toNat).2) 0 255).bind fun t2 => (if ¬ t2 = true then (some false) else (impl_CodeOk.l1 k n (x1, w64 (x2 + 1), x3, ())))))) else none) else none) else (some (decide ((x3.length : Int) ≤ 60)))
def impl_CodeOk.f (k : Nat) (a0 : De2) : Option (Bool) :=
  impl_CodeOk.l1 k k ((a0.length : Int), 0, a0, ())
def impl_CodeOk.Sl1 : Shape := ⟨[(0, false, [.own 0]), (5, false, [.own 0]), (6, false, [.int .i64]), (7, false, [.int .i64])], [(0, .view false 76 Ty2)], 1⟩
def impl_CodeOk.sig : Sig := ⟨[.val false (.sl 76 Ty2) [0]], [.val false .bool []]⟩
def impl_CodeOk.F : FT impl_CodeOk.sig := fun k x => impl_CodeOk.f k x.1
def impl_CodeOk.ann : AT impl_CodeOk.sig := fun k => (.seq .nil (.seq (.seq .nil (.block (.loop impl_CodeOk.Sl1 (impl_CodeOk.l1 k) fun n1 => .nil))) .nil))
def impl_CodeOk.ent : Ent := ⟨163, impl_CodeOk.sig, impl_CodeOk.F⟩
def impl_CodeOk.ctx (k : Nat) : Ctx := ⟨tds, [impl_within.ent], k, 25⟩
theorem impl_CodeOk.runs : RunsT impl_CodeOk.sig impl_CodeOk.ctx Tryz.f163 impl_CodeOk.ann impl_CodeOk.F := fun k x => by kernel_rfl
theorem impl_CodeOk.obls : OblT tds impl_CodeOk.sig impl_CodeOk.ctx 1 Tryz.f163 impl_CodeOk.ann := fun k => ⟨tr, ⟨⟨tr, ⟨⟨by kernel_rfl, fun x => by kernel_rfl⟩, fun n => ⟨fun x => by kernel_rfl, ⟨tr, ⟨⟨tr, tr⟩, ⟨⟨tr, ⟨tr, ⟨⟨tr, tr⟩, tr⟩⟩⟩, tr⟩⟩⟩⟩⟩⟩, ⟨tr, tr⟩⟩⟩
theorem impl_CodeOk.ok (k : Nat) : EntOk Tryz.prog k impl_CodeOk.ent := fn_ok (C := impl_CodeOk.ctx k) Tryz.func163 (by kernel_rfl) (by kernel_rfl) mixed tdsOk (.cons (impl_within.ok k) EntsOk.nil) (by kernel_rfl) (leB (by kernel_rfl)) (by kernel_rfl) (impl_CodeOk.runs k) (impl_CodeOk.obls k)
/-! loop.example/g00200/impl.hasOp -/
def impl_hasOp.f (k : Nat) (a0 : Int) : Option (Bool) :=
  (impl_within.f k a0 0 17).bind fun t1 => (some t1)
def impl_hasOp.sig : Sig := ⟨[.val false TyI []], [.val false .bool []]⟩
def impl_hasOp.F : FT impl_hasOp.sig := fun k x => impl_hasOp.f k x.1
def impl_hasOp.ann : AT impl_hasOp.sig := fun k => .nil
def impl_hasOp.ent : Ent := ⟨164, impl_hasOp.sig, impl_hasOp.F⟩
def impl_hasOp.ctx (k : Nat) : Ctx := ⟨tds, [impl_within.ent], k, 5⟩
theorem impl_hasOp.runs : RunsT impl_hasOp.sig impl_hasOp.ctx Tryz.f164 impl_hasOp.ann impl_hasOp.F := fun k x => by kernel_rfl
theorem impl_hasOp.obls : OblT tds impl_hasOp.sig impl_hasOp.ctx 0 Tryz.f164 impl_hasOp.ann := fun k => ⟨tr, ⟨tr, tr⟩⟩
theorem impl_hasOp.ok (k : Nat) : EntOk Tryz.prog k impl_hasOp.ent := fn_ok (C := impl_hasOp.ctx k) Tryz.func164 (by kernel_rfl) (by kernel_rfl) mixed tdsOk (.cons (impl_within.ok k) EntsOk.nil) (by kernel_rfl) (leB (by kernel_rfl)) (by kernel_rfl) (impl_hasOp.runs k) (impl_hasOp.obls k)
/-! loop.example/g00200/impl.takes -/
def impl_takes.j1 (k : Nat)  : Int × Bool × Unit → Option (Int)
  | (z1, z2, _) => if z2 = true then (some 1) else (if z1 = 3 then (some 2) else (if z1 = 4 then (some 2) else (if z1 = 5 then (some 2) else (if z1 = 6 then (some 2) else (if z1 = 7 then (some 2) else (if z1 = 8 then (some 2) else (some 0)))))))
def impl_takes.f (k : Nat) (a0 : Int) : Option (Int) :=
  if a0 = 2 then (impl_takes.j1 k (a0, true, ())) else (if a0 = 10 then (impl_takes.j1 k (a0, true, ())) else (if a0 = 11 then (impl_takes.j1 k (a0, true, ())) else (if a0 = 12 then (impl_takes.j1 k (a0, true, ())) else (if a0 = 13 then (impl_takes.j1 k (a0, true, ())) else (impl_takes.j1 k (a0, decide (a0 = 16), ()))))))
def impl_takes.Sj1 : Shape := ⟨[(3, false, [.int .i64]), (4, false, [.bool])], [], 0⟩
def impl_takes.sig : Sig := ⟨[.val false TyI []], [.val false TyI []]⟩
def impl_takes.F : FT impl_takes.sig := fun k x => impl_takes.f k x.1
def impl_takes.ann : AT impl_takes.sig := fun k => (.seq .nil (.seq (.seq .nil (.block (.join impl_takes.Sj1 (impl_takes.j1 k) .nil .nil))) .nil))
def impl_takes.ent : Ent := ⟨142, impl_takes.sig, impl_takes.F⟩
def impl_takes.ctx (k : Nat) : Ctx := ⟨tds, [], k, 18⟩
theorem impl_takes.runs : RunsT impl_takes.sig impl_takes.ctx Tryz.f142 impl_takes.ann impl_takes.F := fun k x => by kernel_rfl
theorem impl_takes.obls : OblT tds impl_takes.sig impl_takes.ctx 0 Tryz.f142 impl_takes.ann := fun k => ⟨tr, ⟨⟨tr, ⟨⟨by kernel_rfl, fun x => by kernel_rfl⟩, ⟨tr, ⟨tr, ⟨tr, ⟨tr, ⟨tr, ⟨tr, ⟨tr, ⟨tr, ⟨tr, ⟨tr, tr⟩⟩⟩⟩⟩⟩⟩⟩⟩⟩, ⟨⟨tr, tr⟩, ⟨⟨tr, ⟨tr, ⟨tr, ⟨tr, ⟨tr, ⟨tr, ⟨tr, ⟨tr, ⟨tr, ⟨tr, tr⟩⟩⟩⟩⟩⟩⟩⟩⟩⟩, ⟨⟨tr, tr⟩, tr⟩⟩⟩⟩⟩, ⟨tr, tr⟩⟩⟩
theorem impl_takes.ok (k : Nat) : EntOk Tryz.prog k impl_takes.ent := fn_ok (C := impl_takes.ctx k) Tryz.func142 (by kernel_rfl) (by kernel_rfl) mixed tdsOk EntsOk.nil (by kernel_rfl) (leB (by kernel_rfl)) (by kernel_rfl) (impl_takes.runs k) (impl_takes.obls k)
/-! loop.example/g00200/impl.cellAt -/
def impl_cellAt.f (k : Nat) (a0 : DeI) (a1 : Int × Int) (a2 : Int) : Option (Int) :=
  if a1.1 < 0 then (some (-1)) else (if a2 < 0 then (some (-1)) else (if a1.2 ≤ a2 then (some (-1)) else (if (w64 ((a0.length : Int) - a1.1)) ≤ a2 then (some (-1)) else (some (w64 (a1.1 + a2))))))
def impl_cellAt.sig : Sig := ⟨[.val true (.sl 3 TyI) [0], .val true Ty2 [], .val false TyI []], [.val false TyI []]⟩
def impl_cellAt.F : FT impl_cellAt.sig := fun k x => impl_cellAt.f k x.1 x.2.1 x.2.2.1
def impl_cellAt.ann : AT impl_cellAt.sig := fun k => .nil
def impl_cellAt.ent : Ent := ⟨145, impl_cellAt.sig, impl_cellAt.F⟩
def impl_cellAt.ctx (k : Nat) : Ctx := ⟨tds, [], k, 34⟩
theorem impl_cellAt.runs : RunsT impl_cellAt.sig impl_cellAt.ctx Tryz.f145 impl_cellAt.ann impl_cellAt.F := fun k x => by kernel_rfl
theorem impl_cellAt.obls : OblT tds impl_cellAt.sig impl_cellAt.ctx 1 Tryz.f145 impl_cellAt.ann := fun k => ⟨tr, ⟨⟨tr, ⟨⟨tr, tr⟩, tr⟩⟩, ⟨tr, tr⟩⟩⟩
theorem impl_cellAt.ok (k : Nat) : EntOk Tryz.prog k impl_cellAt.ent := fn_ok (C := impl_cellAt.ctx k) Tryz.func145 (by kernel_rfl) (by kernel_rfl) mixed tdsOk EntsOk.nil (by kernel_rfl) (leB (by kernel_rfl)) (by kernel_rfl) (impl_cellAt.runs k) (impl_cellAt.obls k)
/-! loop.example/g00200/impl.puts -/
def impl_puts.f (k : Nat) (a0 : Int) : Option (Int) :=
  if a0 = 1 then (some 1) else (if a0 = 2 then (some 1) else (if a0 = 4 then (some 1) else (if a0 = 5 then (some 1) else (if a0 = 6 then (some 1) else (if a0 = 7 then (some 1) else (if a0 = 8 then (some 1) else (if a0 = 17 then (some 1) else (if a0 = 11 then (some 2) else (some 0)))))))))
def impl_puts.sig : Sig := ⟨[.val false TyI []], [.val false TyI []]⟩
def impl_puts.F : FT impl_puts.sig := fun k x => impl_puts.f k x.1
def impl_puts.ann : AT impl_puts.sig := fun k => .nil
def impl_puts.ent : Ent := ⟨165, impl_puts.sig, impl_puts.F⟩
def impl_puts.ctx (k : Nat) : Ctx := ⟨tds, [], k, 15⟩
theorem impl_puts.runs : RunsT impl_puts.sig impl_puts.ctx Tryz.f165 impl_puts.ann impl_puts.F := fun k x => by kernel_rfl
theorem impl_puts.obls : OblT tds impl_puts.sig impl_puts.ctx 0 Tryz.f165 impl_puts.ann := fun k => ⟨tr, ⟨⟨tr, ⟨⟨tr, ⟨tr, ⟨tr, ⟨tr, ⟨tr, ⟨tr, ⟨tr, ⟨tr, ⟨tr, ⟨tr, ⟨tr, ⟨tr, ⟨tr, ⟨tr, tr⟩⟩⟩⟩⟩⟩⟩⟩⟩⟩⟩⟩⟩⟩, ⟨⟨tr, tr⟩, ⟨tr, ⟨⟨tr, tr⟩, tr⟩⟩⟩⟩⟩, ⟨tr, tr⟩⟩⟩
theorem impl_puts.ok (k : Nat) : EntOk Tryz.prog k impl_puts.ent := fn_ok (C := impl_puts.ctx k) Tryz.func165 (by kernel_rfl) (by kernel_rfl) mixed tdsOk EntsOk.nil (by kernel_rfl) (leB (by kernel_rfl)) (by kernel_rfl) (impl_puts.runs k) (impl_puts.obls k)
end Go.Proofs.YtefidhlonfiicaaGreat.QA
