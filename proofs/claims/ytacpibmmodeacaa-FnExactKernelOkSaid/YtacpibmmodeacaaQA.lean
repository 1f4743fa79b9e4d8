/- The plain functions of Go functions, and that each Go function does what its plain function tells. Printed by a program of this session (gen.py). -/
import Derived.Test.YtacpibmmodeacaaProg
import Derived.Test.YtacpibmmodeacaaAbDa
import Derived.KernelRfl
namespace Go.Proofs.Ytacpibmmodeacaa.QA
open Go Go.Proofs Go.Proofs.YtacpibmmodeacaaA
set_option linter.unusedVariables false
set_option maxRecDepth 100000
def tds : List (Nat × TD) := [(2, ⟨.int .i64, 1, 8, (.int .i64), false, false⟩),
  (3, ⟨.int .i64, 1, 8, (.int .i64), false, false⟩),
  (4, ⟨.bool, 1, 1, .bool, false, false⟩),
  (5, ⟨.int .u8, 1, 1, (.int .u8), false, false⟩),
  (6, ⟨.int .u8, 1, 1, (.int .u8), false, false⟩),
  (7, ⟨.struct [(0, 2), (1, 3), (2, 4), (3, 6)], 4, 24, (.pair (.int .i64) (.pair (.int .i64) (.pair .bool (.int .u8)))), true, false⟩),
  (8, ⟨.struct [(0, 2), (1, 3), (2, 4), (3, 6)], 4, 24, (.pair (.int .i64) (.pair (.int .i64) (.pair .bool (.int .u8)))), true, false⟩),
  (9, ⟨.str, 1, 16, .str, false, false⟩),
  (10, ⟨.str, 1, 16, .str, false, false⟩),
  (11, ⟨.str, 1, 16, .str, false, false⟩),
  (12, ⟨.int .u64, 1, 8, (.int .u64), false, false⟩),
  (13, ⟨.struct [(0, 9), (1, 12)], 2, 24, (.pair .str (.int .u64)), true, false⟩),
  (14, ⟨.struct [(0, 9), (1, 12)], 2, 24, (.pair .str (.int .u64)), true, false⟩),
  (21, ⟨.int .i32, 1, 4, (.int .i32), false, false⟩),
  (22, ⟨.slice 5, 1, 24, (.sl 5 (.int .u8)), false, false⟩),
  (24, ⟨.slice 27, 1, 24, (.sl 27 (.pair (.int .i64) (.int .i64))), false, false⟩),
  (26, ⟨.struct [(0, 3), (1, 3)], 2, 16, (.pair (.int .i64) (.int .i64)), true, false⟩),
  (27, ⟨.struct [(0, 3), (1, 3)], 2, 16, (.pair (.int .i64) (.int .i64)), true, false⟩),
  (30, ⟨.struct [(0, 3), (1, 3)], 2, 16, (.pair (.int .i64) (.int .i64)), true, false⟩),
  (31, ⟨.struct [(0, 3), (1, 3)], 2, 16, (.pair (.int .i64) (.int .i64)), true, false⟩),
  (32, ⟨.slice 31, 1, 24, (.sl 31 (.pair (.int .i64) (.int .i64))), false, false⟩),
  (33, ⟨.struct [(0, 3), (1, 3)], 2, 16, (.pair (.int .i64) (.int .i64)), true, false⟩),
  (34, ⟨.struct [(0, 3), (1, 3)], 2, 16, (.pair (.int .i64) (.int .i64)), true, false⟩),
  (35, ⟨.slice 34, 1, 24, (.sl 34 (.pair (.int .i64) (.int .i64))), false, false⟩),
  (37, ⟨.slice 9, 1, 24, (.sl 9 .str), false, false⟩),
  (38, ⟨.struct [(0, 3), (1, 3), (2, 3)], 3, 24, (.pair (.int .i64) (.pair (.int .i64) (.int .i64))), true, false⟩),
  (39, ⟨.struct [(0, 3), (1, 3), (2, 3)], 3, 24, (.pair (.int .i64) (.pair (.int .i64) (.int .i64))), true, false⟩),
  (40, ⟨.slice 39, 1, 24, (.sl 39 (.pair (.int .i64) (.pair (.int .i64) (.int .i64)))), false, false⟩),
  (41, ⟨.slice 63, 1, 24, (.sl 63 (.pair (.int .i64) (.pair (.int .i64) (.pair (.int .i64) (.pair (.int .i64) (.int .i64)))))), false, false⟩),
  (42, ⟨.struct [(0, 32), (1, 35), (2, 41), (3, 40), (4, 37)], 5, 120, (.pair (.sl 31 (.pair (.int .i64) (.int .i64))) (.pair (.sl 34 (.pair (.int .i64) (.int .i64))) (.pair (.sl 63 (.pair (.int .i64) (.pair (.int .i64) (.pair (.int .i64) (.pair (.int .i64) (.int .i64)))))) (.pair (.sl 39 (.pair (.int .i64) (.pair (.int .i64) (.int .i64)))) (.sl 9 .str))))), true, false⟩),
  (43, ⟨.struct [(0, 32), (1, 35), (2, 41), (3, 40), (4, 37)], 5, 120, (.pair (.sl 31 (.pair (.int .i64) (.int .i64))) (.pair (.sl 34 (.pair (.int .i64) (.int .i64))) (.pair (.sl 63 (.pair (.int .i64) (.pair (.int .i64) (.pair (.int .i64) (.pair (.int .i64) (.int .i64)))))) (.pair (.sl 39 (.pair (.int .i64) (.pair (.int .i64) (.int .i64)))) (.sl 9 .str))))), true, false⟩),
  (44, ⟨.slice 3, 1, 24, (.sl 3 (.int .i64)), false, false⟩),
  (45, ⟨.struct [(0, 44)], 1, 24, (.sl 3 (.int .i64)), true, false⟩),
  (46, ⟨.struct [(0, 44)], 1, 24, (.sl 3 (.int .i64)), true, false⟩),
  (47, ⟨.slice 59, 1, 24, (.sl 59 (.pair (.int .i64) (.pair (.pair (.int .i64) (.sl 3 (.int .i64))) (.pair (.int .i64) (.pair (.int .i64) (.int .i64)))))), false, false⟩),
  (48, ⟨.slice 145, 1, 24, (.sl 145 (.sl 241 (.pair (.int .i64) (.int .i64)))), false, false⟩),
  (49, ⟨.slice 70, 1, 24, (.sl 70 (.pair (.int .i64) (.pair (.int .i64) (.pair (.int .i64) (.pair (.int .i64) (.int .i64)))))), false, false⟩),
  (50, ⟨.struct [(0, 43), (5, 46), (6, 47), (7, 48), (8, 44), (9, 3), (10, 4), (11, 49)], 12, 256, (.pair (.pair (.sl 31 (.pair (.int .i64) (.int .i64))) (.pair (.sl 34 (.pair (.int .i64) (.int .i64))) (.pair (.sl 63 (.pair (.int .i64) (.pair (.int .i64) (.pair (.int .i64) (.pair (.int .i64) (.int .i64)))))) (.pair (.sl 39 (.pair (.int .i64) (.pair (.int .i64) (.int .i64)))) (.sl 9 .str))))) (.pair (.sl 3 (.int .i64)) (.pair (.sl 59 (.pair (.int .i64) (.pair (.pair (.int .i64) (.sl 3 (.int .i64))) (.pair (.int .i64) (.pair (.int .i64) (.int .i64)))))) (.pair (.sl 145 (.sl 241 (.pair (.int .i64) (.int .i64)))) (.pair (.sl 3 (.int .i64)) (.pair (.int .i64) (.pair .bool (.sl 70 (.pair (.int .i64) (.pair (.int .i64) (.pair (.int .i64) (.pair (.int .i64) (.int .i64))))))))))))), true, false⟩),
  (51, ⟨.struct [(0, 43), (5, 46), (6, 47), (7, 48), (8, 44), (9, 3), (10, 4), (11, 49)], 12, 256, (.pair (.pair (.sl 31 (.pair (.int .i64) (.int .i64))) (.pair (.sl 34 (.pair (.int .i64) (.int .i64))) (.pair (.sl 63 (.pair (.int .i64) (.pair (.int .i64) (.pair (.int .i64) (.pair (.int .i64) (.int .i64)))))) (.pair (.sl 39 (.pair (.int .i64) (.pair (.int .i64) (.int .i64)))) (.sl 9 .str))))) (.pair (.sl 3 (.int .i64)) (.pair (.sl 59 (.pair (.int .i64) (.pair (.pair (.int .i64) (.sl 3 (.int .i64))) (.pair (.int .i64) (.pair (.int .i64) (.int .i64)))))) (.pair (.sl 145 (.sl 241 (.pair (.int .i64) (.int .i64)))) (.pair (.sl 3 (.int .i64)) (.pair (.int .i64) (.pair .bool (.sl 70 (.pair (.int .i64) (.pair (.int .i64) (.pair (.int .i64) (.pair (.int .i64) (.int .i64))))))))))))), true, false⟩),
  (55, ⟨.slice 44, 1, 24, (.sl 44 (.sl 3 (.int .i64))), false, false⟩),
  (56, ⟨.struct [(0, 3), (1, 44)], 2, 32, (.pair (.int .i64) (.sl 3 (.int .i64))), true, false⟩),
  (57, ⟨.struct [(0, 3), (1, 44)], 2, 32, (.pair (.int .i64) (.sl 3 (.int .i64))), true, false⟩),
  (58, ⟨.struct [(0, 3), (1, 57), (3, 3), (4, 3), (5, 3)], 6, 64, (.pair (.int .i64) (.pair (.pair (.int .i64) (.sl 3 (.int .i64))) (.pair (.int .i64) (.pair (.int .i64) (.int .i64))))), true, false⟩),
  (59, ⟨.struct [(0, 3), (1, 57), (3, 3), (4, 3), (5, 3)], 6, 64, (.pair (.int .i64) (.pair (.pair (.int .i64) (.sl 3 (.int .i64))) (.pair (.int .i64) (.pair (.int .i64) (.int .i64))))), true, false⟩),
  (62, ⟨.struct [(0, 3), (1, 3), (2, 3), (3, 3), (4, 3)], 5, 40, (.pair (.int .i64) (.pair (.int .i64) (.pair (.int .i64) (.pair (.int .i64) (.int .i64))))), true, false⟩),
  (63, ⟨.struct [(0, 3), (1, 3), (2, 3), (3, 3), (4, 3)], 5, 40, (.pair (.int .i64) (.pair (.int .i64) (.pair (.int .i64) (.pair (.int .i64) (.int .i64))))), true, false⟩),
  (69, ⟨.struct [(0, 3), (1, 3), (2, 3), (3, 3), (4, 3)], 5, 40, (.pair (.int .i64) (.pair (.int .i64) (.pair (.int .i64) (.pair (.int .i64) (.int .i64))))), true, false⟩),
  (70, ⟨.struct [(0, 3), (1, 3), (2, 3), (3, 3), (4, 3)], 5, 40, (.pair (.int .i64) (.pair (.int .i64) (.pair (.int .i64) (.pair (.int .i64) (.int .i64))))), true, false⟩),
  (71, ⟨.slice 214, 1, 24, (.sl 214 (.pair (.int .i64) (.int .i64))), false, false⟩),
  (72, ⟨.slice 216, 1, 24, (.sl 216 (.pair (.int .i64) (.int .i64))), false, false⟩),
  (73, ⟨.slice 218, 1, 24, (.sl 218 (.pair (.int .i64) (.pair (.int .i64) (.pair (.int .i64) (.pair (.int .i64) (.int .i64)))))), false, false⟩),
  (74, ⟨.slice 220, 1, 24, (.sl 220 (.pair (.int .i64) (.pair (.int .i64) (.int .i64)))), false, false⟩),
  (75, ⟨.struct [(0, 71), (1, 72), (2, 73), (3, 74), (4, 37)], 5, 120, (.pair (.sl 214 (.pair (.int .i64) (.int .i64))) (.pair (.sl 216 (.pair (.int .i64) (.int .i64))) (.pair (.sl 218 (.pair (.int .i64) (.pair (.int .i64) (.pair (.int .i64) (.pair (.int .i64) (.int .i64)))))) (.pair (.sl 220 (.pair (.int .i64) (.pair (.int .i64) (.int .i64)))) (.sl 9 .str))))), true, false⟩),
  (76, ⟨.struct [(0, 71), (1, 72), (2, 73), (3, 74), (4, 37)], 5, 120, (.pair (.sl 214 (.pair (.int .i64) (.int .i64))) (.pair (.sl 216 (.pair (.int .i64) (.int .i64))) (.pair (.sl 218 (.pair (.int .i64) (.pair (.int .i64) (.pair (.int .i64) (.pair (.int .i64) (.int .i64)))))) (.pair (.sl 220 (.pair (.int .i64) (.pair (.int .i64) (.int .i64)))) (.sl 9 .str))))), true, false⟩),
  (77, ⟨.struct [(0, 44)], 1, 24, (.sl 3 (.int .i64)), true, false⟩),
  (78, ⟨.slice 200, 1, 24, (.sl 200 (.pair (.int .i64) (.pair (.pair (.int .i64) (.sl 3 (.int .i64))) (.pair (.int .i64) (.pair (.int .i64) (.int .i64)))))), false, false⟩),
  (79, ⟨.slice 204, 1, 24, (.sl 204 (.sl 243 (.pair (.int .i64) (.int .i64)))), false, false⟩),
  (80, ⟨.slice 208, 1, 24, (.sl 208 (.pair (.int .i64) (.pair (.int .i64) (.pair (.int .i64) (.pair (.int .i64) (.int .i64)))))), false, false⟩),
  (81, ⟨.struct [(0, 76), (5, 77), (6, 78), (7, 79), (8, 44), (9, 3), (10, 4), (11, 80)], 12, 256, (.pair (.pair (.sl 214 (.pair (.int .i64) (.int .i64))) (.pair (.sl 216 (.pair (.int .i64) (.int .i64))) (.pair (.sl 218 (.pair (.int .i64) (.pair (.int .i64) (.pair (.int .i64) (.pair (.int .i64) (.int .i64)))))) (.pair (.sl 220 (.pair (.int .i64) (.pair (.int .i64) (.int .i64)))) (.sl 9 .str))))) (.pair (.sl 3 (.int .i64)) (.pair (.sl 200 (.pair (.int .i64) (.pair (.pair (.int .i64) (.sl 3 (.int .i64))) (.pair (.int .i64) (.pair (.int .i64) (.int .i64)))))) (.pair (.sl 204 (.sl 243 (.pair (.int .i64) (.int .i64)))) (.pair (.sl 3 (.int .i64)) (.pair (.int .i64) (.pair .bool (.sl 208 (.pair (.int .i64) (.pair (.int .i64) (.pair (.int .i64) (.pair (.int .i64) (.int .i64))))))))))))), true, false⟩),
  (82, ⟨.struct [(0, 76), (5, 77), (6, 78), (7, 79), (8, 44), (9, 3), (10, 4), (11, 80)], 12, 256, (.pair (.pair (.sl 214 (.pair (.int .i64) (.int .i64))) (.pair (.sl 216 (.pair (.int .i64) (.int .i64))) (.pair (.sl 218 (.pair (.int .i64) (.pair (.int .i64) (.pair (.int .i64) (.pair (.int .i64) (.int .i64)))))) (.pair (.sl 220 (.pair (.int .i64) (.pair (.int .i64) (.int .i64)))) (.sl 9 .str))))) (.pair (.sl 3 (.int .i64)) (.pair (.sl 200 (.pair (.int .i64) (.pair (.pair (.int .i64) (.sl 3 (.int .i64))) (.pair (.int .i64) (.pair (.int .i64) (.int .i64)))))) (.pair (.sl 204 (.sl 243 (.pair (.int .i64) (.int .i64)))) (.pair (.sl 3 (.int .i64)) (.pair (.int .i64) (.pair .bool (.sl 208 (.pair (.int .i64) (.pair (.int .i64) (.pair (.int .i64) (.pair (.int .i64) (.int .i64))))))))))))), true, false⟩),
  (143, ⟨.slice 241, 1, 24, (.sl 241 (.pair (.int .i64) (.int .i64))), false, false⟩),
  (144, ⟨.struct [(0, 143)], 1, 24, (.sl 241 (.pair (.int .i64) (.int .i64))), true, false⟩),
  (145, ⟨.struct [(0, 143)], 1, 24, (.sl 241 (.pair (.int .i64) (.int .i64))), true, false⟩),
  (166, ⟨.struct [(0, 22), (1, 3), (2, 3)], 3, 40, (.pair (.sl 5 (.int .u8)) (.pair (.int .i64) (.int .i64))), true, false⟩),
  (167, ⟨.struct [(0, 22), (1, 3), (2, 3)], 3, 40, (.pair (.sl 5 (.int .u8)) (.pair (.int .i64) (.int .i64))), true, false⟩),
  (183, ⟨.int .u64, 1, 8, (.int .u64), false, false⟩),
  (187, ⟨.struct [(0, 3), (1, 3), (2, 3), (3, 3)], 4, 32, (.pair (.int .i64) (.pair (.int .i64) (.pair (.int .i64) (.int .i64)))), true, false⟩),
  (188, ⟨.struct [(0, 3), (1, 3), (2, 3), (3, 3)], 4, 32, (.pair (.int .i64) (.pair (.int .i64) (.pair (.int .i64) (.int .i64)))), true, false⟩),
  (198, ⟨.struct [(0, 3), (1, 44)], 2, 32, (.pair (.int .i64) (.sl 3 (.int .i64))), true, false⟩),
  (199, ⟨.struct [(0, 3), (1, 198), (3, 3), (4, 3), (5, 3)], 6, 64, (.pair (.int .i64) (.pair (.pair (.int .i64) (.sl 3 (.int .i64))) (.pair (.int .i64) (.pair (.int .i64) (.int .i64))))), true, false⟩),
  (200, ⟨.struct [(0, 3), (1, 198), (3, 3), (4, 3), (5, 3)], 6, 64, (.pair (.int .i64) (.pair (.pair (.int .i64) (.sl 3 (.int .i64))) (.pair (.int .i64) (.pair (.int .i64) (.int .i64))))), true, false⟩),
  (202, ⟨.slice 243, 1, 24, (.sl 243 (.pair (.int .i64) (.int .i64))), false, false⟩),
  (203, ⟨.struct [(0, 202)], 1, 24, (.sl 243 (.pair (.int .i64) (.int .i64))), true, false⟩),
  (204, ⟨.struct [(0, 202)], 1, 24, (.sl 243 (.pair (.int .i64) (.int .i64))), true, false⟩),
  (208, ⟨.struct [(0, 3), (1, 3), (2, 3), (3, 3), (4, 3)], 5, 40, (.pair (.int .i64) (.pair (.int .i64) (.pair (.int .i64) (.pair (.int .i64) (.int .i64))))), true, false⟩),
  (214, ⟨.struct [(0, 3), (1, 3)], 2, 16, (.pair (.int .i64) (.int .i64)), true, false⟩),
  (216, ⟨.struct [(0, 3), (1, 3)], 2, 16, (.pair (.int .i64) (.int .i64)), true, false⟩),
  (218, ⟨.struct [(0, 3), (1, 3), (2, 3), (3, 3), (4, 3)], 5, 40, (.pair (.int .i64) (.pair (.int .i64) (.pair (.int .i64) (.pair (.int .i64) (.int .i64))))), true, false⟩),
  (220, ⟨.struct [(0, 3), (1, 3), (2, 3)], 3, 24, (.pair (.int .i64) (.pair (.int .i64) (.int .i64))), true, false⟩),
  (240, ⟨.struct [(0, 3), (1, 3)], 2, 16, (.pair (.int .i64) (.int .i64)), true, false⟩),
  (241, ⟨.struct [(0, 3), (1, 3)], 2, 16, (.pair (.int .i64) (.int .i64)), true, false⟩),
  (243, ⟨.struct [(0, 3), (1, 3)], 2, 16, (.pair (.int .i64) (.int .i64)), true, false⟩),
  (252, ⟨.int .u32, 1, 4, (.int .u32), false, false⟩),
  (253, ⟨.int .u8, 1, 1, (.int .u8), false, false⟩),
  (254, ⟨.int .u8, 1, 1, (.int .u8), false, false⟩),
  (257, ⟨.int .i32, 1, 4, (.int .i32), false, false⟩),
  (258, ⟨.int .i32, 1, 4, (.int .i32), false, false⟩)]
theorem mixed : Try.prog.follows .mixedOrders = true := by kernel_rfl
theorem tdsOk : TdsOk Try.prog tds := tds_ok (by kernel_rfl) (by kernel_rfl)
def w64 (z : Int) : Int := IntKind.i64.wrap z
/-! loop.example/g00200/laws.szRegionS -/
def laws_szRegionS.f (k : Nat) (a0 : List (Int × Int)) (a1 : Int) : Option (Int) :=
  if (w64 (a1 - (a0.length : Int))) < 0 then (some (-1)) else (some (w64 (a1 - (a0.length : Int))))
def laws_szRegionS.sig : Sig := ⟨[.val false (.sl 214 (.pair (.int .i64) (.int .i64))) [0], .val false (.int .i64) []], [.val false (.int .i64) []]⟩
def laws_szRegionS.F (k : Nat) (x : Args laws_szRegionS.sig.ps) : Option (Res laws_szRegionS.sig) := laws_szRegionS.f k x.1 x.2.1
def laws_szRegionS.ann (k : Nat) : Ann (Res laws_szRegionS.sig) := .nil
def laws_szRegionS.ent : Ent := ⟨94, laws_szRegionS.sig, laws_szRegionS.F⟩
def laws_szRegionS.ctx (k : Nat) : Ctx := ⟨tds, [], k, 12⟩
theorem laws_szRegionS.runs (k : Nat) (x : Args laws_szRegionS.sig.ps) : laws_szRegionS.F k x = runF (laws_szRegionS.ctx k) laws_szRegionS.sig Try.f94 (Try.f94.body.getD .skip) (laws_szRegionS.ann k) x := by kernel_rfl
theorem laws_szRegionS.obls (k : Nat) : obl (laws_szRegionS.ctx k) 1 (Try.f94.body.getD .skip) (laws_szRegionS.ann k) (retK tds laws_szRegionS.sig Try.f94.results.toList) := ⟨trivial, ⟨trivial, ⟨⟨trivial, ⟨⟨trivial, trivial⟩, trivial⟩⟩, ⟨trivial, trivial⟩⟩⟩⟩
theorem laws_szRegionS.ok (k : Nat) : EntOk Try.prog k laws_szRegionS.ent := fn_ok (C := laws_szRegionS.ctx k) Try.func94 (by kernel_rfl) (by kernel_rfl) mixed tdsOk EntsOk.nil (by kernel_rfl) (Nat.le_of_ble_eq_true (by kernel_rfl)) (by kernel_rfl) (laws_szRegionS.runs k) (laws_szRegionS.obls k)
/-! loop.example/g00200/laws.szWindowS -/
def laws_szWindowS.f (k : Nat) (a0 : List (Int × Int)) (a1 : Int) : Option (Int) :=
  if (w64 (a1 - (a0.length : Int))) < 0 then (some (-1)) else (some (w64 (a1 - (a0.length : Int))))
def laws_szWindowS.sig : Sig := ⟨[.val false (.sl 216 (.pair (.int .i64) (.int .i64))) [0], .val false (.int .i64) []], [.val false (.int .i64) []]⟩
def laws_szWindowS.F (k : Nat) (x : Args laws_szWindowS.sig.ps) : Option (Res laws_szWindowS.sig) := laws_szWindowS.f k x.1 x.2.1
def laws_szWindowS.ann (k : Nat) : Ann (Res laws_szWindowS.sig) := .nil
def laws_szWindowS.ent : Ent := ⟨95, laws_szWindowS.sig, laws_szWindowS.F⟩
def laws_szWindowS.ctx (k : Nat) : Ctx := ⟨tds, [], k, 12⟩
theorem laws_szWindowS.runs (k : Nat) (x : Args laws_szWindowS.sig.ps) : laws_szWindowS.F k x = runF (laws_szWindowS.ctx k) laws_szWindowS.sig Try.f95 (Try.f95.body.getD .skip) (laws_szWindowS.ann k) x := by kernel_rfl
theorem laws_szWindowS.obls (k : Nat) : obl (laws_szWindowS.ctx k) 1 (Try.f95.body.getD .skip) (laws_szWindowS.ann k) (retK tds laws_szWindowS.sig Try.f95.results.toList) := ⟨trivial, ⟨trivial, ⟨⟨trivial, ⟨⟨trivial, trivial⟩, trivial⟩⟩, ⟨trivial, trivial⟩⟩⟩⟩
theorem laws_szWindowS.ok (k : Nat) : EntOk Try.prog k laws_szWindowS.ent := fn_ok (C := laws_szWindowS.ctx k) Try.func95 (by kernel_rfl) (by kernel_rfl) mixed tdsOk EntsOk.nil (by kernel_rfl) (Nat.le_of_ble_eq_true (by kernel_rfl)) (by kernel_rfl) (laws_szWindowS.runs k) (laws_szWindowS.obls k)
/-! loop.example/g00200/laws.szPortS -/
def laws_szPortS.f (k : Nat) (a0 : List (Int × Int × Int × Int × Int)) (a1 : Int) : Option (Int) :=
  if (w64 (a1 - (a0.length : Int))) < 0 then (some (-1)) else (some (w64 (a1 - (a0.length : Int))))
def laws_szPortS.sig : Sig := ⟨[.val false (.sl 218 (.pair (.int .i64) (.pair (.int .i64) (.pair (.int .i64) (.pair (.int .i64) (.int .i64)))))) [0], .val false (.int .i64) []], [.val false (.int .i64) []]⟩
def laws_szPortS.F (k : Nat) (x : Args laws_szPortS.sig.ps) : Option (Res laws_szPortS.sig) := laws_szPortS.f k x.1 x.2.1
def laws_szPortS.ann (k : Nat) : Ann (Res laws_szPortS.sig) := .nil
def laws_szPortS.ent : Ent := ⟨96, laws_szPortS.sig, laws_szPortS.F⟩
def laws_szPortS.ctx (k : Nat) : Ctx := ⟨tds, [], k, 12⟩
theorem laws_szPortS.runs (k : Nat) (x : Args laws_szPortS.sig.ps) : laws_szPortS.F k x = runF (laws_szPortS.ctx k) laws_szPortS.sig Try.f96 (Try.f96.body.getD .skip) (laws_szPortS.ann k) x := by kernel_rfl
theorem laws_szPortS.obls (k : Nat) : obl (laws_szPortS.ctx k) 1 (Try.f96.body.getD .skip) (laws_szPortS.ann k) (retK tds laws_szPortS.sig Try.f96.results.toList) := ⟨trivial, ⟨trivial, ⟨⟨trivial, ⟨⟨trivial, trivial⟩, trivial⟩⟩, ⟨trivial, trivial⟩⟩⟩⟩
theorem laws_szPortS.ok (k : Nat) : EntOk Try.prog k laws_szPortS.ent := fn_ok (C := laws_szPortS.ctx k) Try.func96 (by kernel_rfl) (by kernel_rfl) mixed tdsOk EntsOk.nil (by kernel_rfl) (Nat.le_of_ble_eq_true (by kernel_rfl)) (by kernel_rfl) (laws_szPortS.runs k) (laws_szPortS.obls k)
/-! loop.example/g00200/laws.szRuleS -/
def laws_szRuleS.f (k : Nat) (a0 : List (Int × Int × Int)) (a1 : Int) : Option (Int) :=
  if (w64 (a1 - (a0.length : Int))) < 0 then (some (-1)) else (some (w64 (a1 - (a0.length : Int))))
def laws_szRuleS.sig : Sig := ⟨[.val false (.sl 220 (.pair (.int .i64) (.pair (.int .i64) (.int .i64)))) [0], .val false (.int .i64) []], [.val false (.int .i64) []]⟩
def laws_szRuleS.F (k : Nat) (x : Args laws_szRuleS.sig.ps) : Option (Res laws_szRuleS.sig) := laws_szRuleS.f k x.1 x.2.1
def laws_szRuleS.ann (k : Nat) : Ann (Res laws_szRuleS.sig) := .nil
def laws_szRuleS.ent : Ent := ⟨97, laws_szRuleS.sig, laws_szRuleS.F⟩
def laws_szRuleS.ctx (k : Nat) : Ctx := ⟨tds, [], k, 12⟩
theorem laws_szRuleS.runs (k : Nat) (x : Args laws_szRuleS.sig.ps) : laws_szRuleS.F k x = runF (laws_szRuleS.ctx k) laws_szRuleS.sig Try.f97 (Try.f97.body.getD .skip) (laws_szRuleS.ann k) x := by kernel_rfl
theorem laws_szRuleS.obls (k : Nat) : obl (laws_szRuleS.ctx k) 1 (Try.f97.body.getD .skip) (laws_szRuleS.ann k) (retK tds laws_szRuleS.sig Try.f97.results.toList) := ⟨trivial, ⟨trivial, ⟨⟨trivial, ⟨⟨trivial, trivial⟩, trivial⟩⟩, ⟨trivial, trivial⟩⟩⟩⟩
theorem laws_szRuleS.ok (k : Nat) : EntOk Try.prog k laws_szRuleS.ent := fn_ok (C := laws_szRuleS.ctx k) Try.func97 (by kernel_rfl) (by kernel_rfl) mixed tdsOk EntsOk.nil (by kernel_rfl) (Nat.le_of_ble_eq_true (by kernel_rfl)) (by kernel_rfl) (laws_szRuleS.runs k) (laws_szRuleS.obls k)
/-! loop.example/g00200/laws.szStringS -/
def laws_szStringS.l1 (k : Nat)  : Nat → Int × Int × List ByteArray × Unit → Option (Int)
  | 0, _ => none
  | n + 1, (x1, x2, x3, _) => if x2 < (x3.length : Int) then (if 0 ≤ x2 then (if x2 < (x3.length : Int) then (if (w64 (x1 - ((el .str x3 x2.toNat).size : Int))) < 0 then (some (-1)) else (laws_szStringS.l1 k n (w64 (x1 - ((el .str x3 x2.toNat).size : Int)), w64 (x2 + 1), x3, ()))) else none) else none) else (some x1)
def laws_szStringS.f (k : Nat) (a0 : List ByteArray) (a1 : Int) : Option (Int) :=
  if (w64 (a1 - (a0.length : Int))) < 0 then (some (-1)) else (laws_szStringS.l1 k k (w64 (a1 - (a0.length : Int)), 0, a0, ()))
def laws_szStringS.Sl1 : Shape := ⟨[(0, false, [.own 0]), (1, false, [.int .i64]), (5, false, [.int .i64])], [(0, .view false 9 .str)], 1⟩
def laws_szStringS.sig : Sig := ⟨[.val false (.sl 9 .str) [0], .val false (.int .i64) []], [.val false (.int .i64) []]⟩
def laws_szStringS.F (k : Nat) (x : Args laws_szStringS.sig.ps) : Option (Res laws_szStringS.sig) := laws_szStringS.f k x.1 x.2.1
def laws_szStringS.ann (k : Nat) : Ann (Res laws_szStringS.sig) := (.seq .nil (.seq .nil (.seq .nil (.seq (.seq .nil (.block (.loop laws_szStringS.Sl1 (laws_szStringS.l1 k) fun n1 => .nil))) .nil))))
def laws_szStringS.ent : Ent := ⟨98, laws_szStringS.sig, laws_szStringS.F⟩
def laws_szStringS.ctx (k : Nat) : Ctx := ⟨tds, [], k, 28⟩
theorem laws_szStringS.runs (k : Nat) (x : Args laws_szStringS.sig.ps) : laws_szStringS.F k x = runF (laws_szStringS.ctx k) laws_szStringS.sig Try.f98 (Try.f98.body.getD .skip) (laws_szStringS.ann k) x := by kernel_rfl
theorem laws_szStringS.obls (k : Nat) : obl (laws_szStringS.ctx k) 1 (Try.f98.body.getD .skip) (laws_szStringS.ann k) (retK tds laws_szStringS.sig Try.f98.results.toList) := ⟨trivial, ⟨trivial, ⟨⟨trivial, ⟨⟨trivial, trivial⟩, trivial⟩⟩, ⟨⟨trivial, ⟨⟨by kernel_rfl, fun x => by kernel_rfl⟩, fun n => ⟨fun x => by kernel_rfl, ⟨⟨trivial, ⟨trivial, trivial⟩⟩, ⟨⟨trivial, ⟨trivial, ⟨⟨trivial, trivial⟩, trivial⟩⟩⟩, trivial⟩⟩⟩⟩⟩, ⟨trivial, trivial⟩⟩⟩⟩⟩
theorem laws_szStringS.ok (k : Nat) : EntOk Try.prog k laws_szStringS.ent := fn_ok (C := laws_szStringS.ctx k) Try.func98 (by kernel_rfl) (by kernel_rfl) mixed tdsOk EntsOk.nil (by kernel_rfl) (Nat.le_of_ble_eq_true (by kernel_rfl)) (by kernel_rfl) (laws_szStringS.runs k) (laws_szStringS.obls k)
/-! loop.example/g00200/laws.szSetup -/
def laws_szSetup.f (k : Nat) (a0 : List (Int × Int) × List (Int × Int) × List (Int × Int × Int × Int × Int) × List (Int × Int × Int) × List ByteArray) (a1 : Int) : Option (Int) :=
  (laws_szRegionS.f k a0.1 a1).bind fun t1 => (if t1 < 0 then (some (-1)) else ((laws_szWindowS.f k a0.2.1 t1).bind fun t2 => (if t2 < 0 then (some (-1)) else ((laws_szPortS.f k a0.2.2.1 t2).bind fun t3 => (if t3 < 0 then (some (-1)) else ((laws_szRuleS.f k a0.2.2.2.1 t3).bind fun t4 => (if t4 < 0 then (some (-1)) else ((laws_szStringS.f k a0.2.2.2.2 t4).bind fun t5 => (if t5 < 0 then (some (-1)) else (some t5))))))))))
def laws_szSetup.sig : Sig := ⟨[.val true (.pair (.sl 214 (.pair (.int .i64) (.int .i64))) (.pair (.sl 216 (.pair (.int .i64) (.int .i64))) (.pair (.sl 218 (.pair (.int .i64) (.pair (.int .i64) (.pair (.int .i64) (.pair (.int .i64) (.int .i64)))))) (.pair (.sl 220 (.pair (.int .i64) (.pair (.int .i64) (.int .i64)))) (.sl 9 .str))))) [0, 0, 0, 0, 0], .val false (.int .i64) []], [.val false (.int .i64) []]⟩
def laws_szSetup.F (k : Nat) (x : Args laws_szSetup.sig.ps) : Option (Res laws_szSetup.sig) := laws_szSetup.f k x.1 x.2.1
def laws_szSetup.ann (k : Nat) : Ann (Res laws_szSetup.sig) := .nil
def laws_szSetup.ent : Ent := ⟨37, laws_szSetup.sig, laws_szSetup.F⟩
def laws_szSetup.ctx (k : Nat) : Ctx := ⟨tds, [laws_szRegionS.ent, laws_szWindowS.ent, laws_szPortS.ent, laws_szRuleS.ent, laws_szStringS.ent], k, 36⟩
theorem laws_szSetup.runs (k : Nat) (x : Args laws_szSetup.sig.ps) : laws_szSetup.F k x = runF (laws_szSetup.ctx k) laws_szSetup.sig Try.f37 (Try.f37.body.getD .skip) (laws_szSetup.ann k) x := by kernel_rfl
theorem laws_szSetup.obls (k : Nat) : obl (laws_szSetup.ctx k) 5 (Try.f37.body.getD .skip) (laws_szSetup.ann k) (retK tds laws_szSetup.sig Try.f37.results.toList) := ⟨trivial, ⟨trivial, ⟨⟨trivial, ⟨⟨trivial, trivial⟩, trivial⟩⟩, ⟨trivial, ⟨⟨trivial, ⟨⟨trivial, trivial⟩, trivial⟩⟩, ⟨trivial, ⟨⟨trivial, ⟨⟨trivial, trivial⟩, trivial⟩⟩, ⟨trivial, ⟨⟨trivial, ⟨⟨trivial, trivial⟩, trivial⟩⟩, ⟨trivial, ⟨⟨trivial, ⟨⟨trivial, trivial⟩, trivial⟩⟩, ⟨trivial, trivial⟩⟩⟩⟩⟩⟩⟩⟩⟩⟩⟩⟩
theorem laws_szSetup.ok (k : Nat) : EntOk Try.prog k laws_szSetup.ent := fn_ok (C := laws_szSetup.ctx k) Try.func37 (by kernel_rfl) (by kernel_rfl) mixed tdsOk (.cons (laws_szRegionS.ok k) (.cons (laws_szWindowS.ok k) (.cons (laws_szPortS.ok k) (.cons (laws_szRuleS.ok k) (.cons (laws_szStringS.ok k) EntsOk.nil))))) (by kernel_rfl) (Nat.le_of_ble_eq_true (by kernel_rfl)) (by kernel_rfl) (laws_szSetup.runs k) (laws_szSetup.obls k)
/-! loop.example/g00200/laws.szIntS -/
def laws_szIntS.f (k : Nat) (a0 : List Int) (a1 : Int) : Option (Int) :=
  if (w64 (a1 - (a0.length : Int))) < 0 then (some (-1)) else (some (w64 (a1 - (a0.length : Int))))
def laws_szIntS.sig : Sig := ⟨[.val false (.sl 3 (.int .i64)) [0], .val false (.int .i64) []], [.val false (.int .i64) []]⟩
def laws_szIntS.F (k : Nat) (x : Args laws_szIntS.sig.ps) : Option (Res laws_szIntS.sig) := laws_szIntS.f k x.1 x.2.1
def laws_szIntS.ann (k : Nat) : Ann (Res laws_szIntS.sig) := .nil
def laws_szIntS.ent : Ent := ⟨67, laws_szIntS.sig, laws_szIntS.F⟩
def laws_szIntS.ctx (k : Nat) : Ctx := ⟨tds, [], k, 12⟩
theorem laws_szIntS.runs (k : Nat) (x : Args laws_szIntS.sig.ps) : laws_szIntS.F k x = runF (laws_szIntS.ctx k) laws_szIntS.sig Try.f67 (Try.f67.body.getD .skip) (laws_szIntS.ann k) x := by kernel_rfl
theorem laws_szIntS.obls (k : Nat) : obl (laws_szIntS.ctx k) 1 (Try.f67.body.getD .skip) (laws_szIntS.ann k) (retK tds laws_szIntS.sig Try.f67.results.toList) := ⟨trivial, ⟨trivial, ⟨⟨trivial, ⟨⟨trivial, trivial⟩, trivial⟩⟩, ⟨trivial, trivial⟩⟩⟩⟩
theorem laws_szIntS.ok (k : Nat) : EntOk Try.prog k laws_szIntS.ent := fn_ok (C := laws_szIntS.ctx k) Try.func67 (by kernel_rfl) (by kernel_rfl) mixed tdsOk EntsOk.nil (by kernel_rfl) (Nat.le_of_ble_eq_true (by kernel_rfl)) (by kernel_rfl) (laws_szIntS.runs k) (laws_szIntS.obls k)
/-! loop.example/g00200/laws.szArena -/
def laws_szArena.f (k : Nat) (a0 : List Int) (a1 : Int) : Option (Int) :=
  (laws_szIntS.f k a0 a1).bind fun t1 => (if t1 < 0 then (some (-1)) else (some t1))
def laws_szArena.sig : Sig := ⟨[.val true (.sl 3 (.int .i64)) [0], .val false (.int .i64) []], [.val false (.int .i64) []]⟩
def laws_szArena.F (k : Nat) (x : Args laws_szArena.sig.ps) : Option (Res laws_szArena.sig) := laws_szArena.f k x.1 x.2.1
def laws_szArena.ann (k : Nat) : Ann (Res laws_szArena.sig) := .nil
def laws_szArena.ent : Ent := ⟨64, laws_szArena.sig, laws_szArena.F⟩
def laws_szArena.ctx (k : Nat) : Ctx := ⟨tds, [laws_szIntS.ent], k, 12⟩
theorem laws_szArena.runs (k : Nat) (x : Args laws_szArena.sig.ps) : laws_szArena.F k x = runF (laws_szArena.ctx k) laws_szArena.sig Try.f64 (Try.f64.body.getD .skip) (laws_szArena.ann k) x := by kernel_rfl
theorem laws_szArena.obls (k : Nat) : obl (laws_szArena.ctx k) 1 (Try.f64.body.getD .skip) (laws_szArena.ann k) (retK tds laws_szArena.sig Try.f64.results.toList) := ⟨trivial, ⟨trivial, ⟨⟨trivial, ⟨⟨trivial, trivial⟩, trivial⟩⟩, ⟨trivial, trivial⟩⟩⟩⟩
theorem laws_szArena.ok (k : Nat) : EntOk Try.prog k laws_szArena.ent := fn_ok (C := laws_szArena.ctx k) Try.func64 (by kernel_rfl) (by kernel_rfl) mixed tdsOk (.cons (laws_szIntS.ok k) EntsOk.nil) (by kernel_rfl) (Nat.le_of_ble_eq_true (by kernel_rfl)) (by kernel_rfl) (laws_szArena.runs k) (laws_szArena.obls k)
/-! loop.example/g00200/laws.szCpu -/
def laws_szCpu.f (k : Nat) (a0 : Int × List Int) (a1 : Int) : Option (Int) :=
  (laws_szIntS.f k a0.2 a1).bind fun t1 => (if t1 < 0 then (some (-1)) else (some t1))
def laws_szCpu.sig : Sig := ⟨[.val true (.pair (.int .i64) (.sl 3 (.int .i64))) [0], .val false (.int .i64) []], [.val false (.int .i64) []]⟩
def laws_szCpu.F (k : Nat) (x : Args laws_szCpu.sig.ps) : Option (Res laws_szCpu.sig) := laws_szCpu.f k x.1 x.2.1
def laws_szCpu.ann (k : Nat) : Ann (Res laws_szCpu.sig) := .nil
def laws_szCpu.ent : Ent := ⟨190, laws_szCpu.sig, laws_szCpu.F⟩
def laws_szCpu.ctx (k : Nat) : Ctx := ⟨tds, [laws_szIntS.ent], k, 12⟩
theorem laws_szCpu.runs (k : Nat) (x : Args laws_szCpu.sig.ps) : laws_szCpu.F k x = runF (laws_szCpu.ctx k) laws_szCpu.sig Try.f190 (Try.f190.body.getD .skip) (laws_szCpu.ann k) x := by kernel_rfl
theorem laws_szCpu.obls (k : Nat) : obl (laws_szCpu.ctx k) 1 (Try.f190.body.getD .skip) (laws_szCpu.ann k) (retK tds laws_szCpu.sig Try.f190.results.toList) := ⟨trivial, ⟨trivial, ⟨⟨trivial, ⟨⟨trivial, trivial⟩, trivial⟩⟩, ⟨trivial, trivial⟩⟩⟩⟩
theorem laws_szCpu.ok (k : Nat) : EntOk Try.prog k laws_szCpu.ent := fn_ok (C := laws_szCpu.ctx k) Try.func190 (by kernel_rfl) (by kernel_rfl) mixed tdsOk (.cons (laws_szIntS.ok k) EntsOk.nil) (by kernel_rfl) (Nat.le_of_ble_eq_true (by kernel_rfl)) (by kernel_rfl) (laws_szCpu.runs k) (laws_szCpu.obls k)
/-! loop.example/g00200/laws.szPart -/
def laws_szPart.f (k : Nat) (a0 : Int × (Int × List Int) × Int × Int × Int) (a1 : Int) : Option (Int) :=
  (laws_szCpu.f k a0.2.1 a1).bind fun t1 => (if t1 < 0 then (some (-1)) else (some t1))
def laws_szPart.sig : Sig := ⟨[.val true (.pair (.int .i64) (.pair (.pair (.int .i64) (.sl 3 (.int .i64))) (.pair (.int .i64) (.pair (.int .i64) (.int .i64))))) [0], .val false (.int .i64) []], [.val false (.int .i64) []]⟩
def laws_szPart.F (k : Nat) (x : Args laws_szPart.sig.ps) : Option (Res laws_szPart.sig) := laws_szPart.f k x.1 x.2.1
def laws_szPart.ann (k : Nat) : Ann (Res laws_szPart.sig) := .nil
def laws_szPart.ent : Ent := ⟨146, laws_szPart.sig, laws_szPart.F⟩
def laws_szPart.ctx (k : Nat) : Ctx := ⟨tds, [laws_szCpu.ent], k, 12⟩
theorem laws_szPart.runs (k : Nat) (x : Args laws_szPart.sig.ps) : laws_szPart.F k x = runF (laws_szPart.ctx k) laws_szPart.sig Try.f146 (Try.f146.body.getD .skip) (laws_szPart.ann k) x := by kernel_rfl
theorem laws_szPart.obls (k : Nat) : obl (laws_szPart.ctx k) 1 (Try.f146.body.getD .skip) (laws_szPart.ann k) (retK tds laws_szPart.sig Try.f146.results.toList) := ⟨trivial, ⟨trivial, ⟨⟨trivial, ⟨⟨trivial, trivial⟩, trivial⟩⟩, ⟨trivial, trivial⟩⟩⟩⟩
theorem laws_szPart.ok (k : Nat) : EntOk Try.prog k laws_szPart.ent := fn_ok (C := laws_szPart.ctx k) Try.func146 (by kernel_rfl) (by kernel_rfl) mixed tdsOk (.cons (laws_szCpu.ok k) EntsOk.nil) (by kernel_rfl) (Nat.le_of_ble_eq_true (by kernel_rfl)) (by kernel_rfl) (laws_szPart.runs k) (laws_szPart.obls k)
/-! loop.example/g00200/laws.szPartS -/
def laws_szPartS.l1 (k : Nat)  : Nat → Int × Int × (List (Int × (Int × List Int) × Int × Int × Int)) × Unit → Option (Int)
  | 0, _ => none
  | n + 1, (x1, x2, x3, _) => if x2 < (x3.length : Int) then (if 0 ≤ x2 then (if x2 < (x3.length : Int) then ((laws_szPart.f k ((el (.pair (.int .i64) (.pair (.pair (.int .i64) (.sl 3 (.int .i64))) (.pair (.int .i64) (.pair (.int .i64) (.int .i64))))) x3 x2.toNat).1, ((((el (.pair (.int .i64) (.pair (.pair (.int .i64) (.sl 3 (.int .i64))) (.pair (.int .i64) (.pair (.int .i64) (.int .i64))))) x3 x2.toNat).2).1), ((((el (.pair (.int .i64) (.pair (.pair (.int .i64) (.sl 3 (.int .i64))) (.pair (.int .i64) (.pair (.int .i64) (.int .i64))))) x3 x2.toNat).2).2).1, ((((el (.pair (.int .i64) (.pair (.pair (.int .i64) (.sl 3 (.int .i64))) (.pair (.int .i64) (.pair (.int .i64) (.int .i64))))) x3 x2.toNat).2).2).2)))) x1).bind fun t1 => (if t1 < 0 then (some (-1)) else (laws_szPartS.l1 k n (t1, w64 (x2 + 1), x3, ())))) else none) else none) else (some x1)
def laws_szPartS.f (k : Nat) (a0 : List (Int × (Int × List Int) × Int × Int × Int)) (a1 : Int) : Option (Int) :=
  if (w64 (a1 - (a0.length : Int))) < 0 then (some (-1)) else (laws_szPartS.l1 k k (w64 (a1 - (a0.length : Int)), 0, a0, ()))
def laws_szPartS.Sl1 : Shape := ⟨[(0, false, [.own 0]), (1, false, [.int .i64]), (5, false, [.int .i64])], [(0, .view false 200 (.pair (.int .i64) (.pair (.pair (.int .i64) (.sl 3 (.int .i64))) (.pair (.int .i64) (.pair (.int .i64) (.int .i64))))))], 1⟩
def laws_szPartS.sig : Sig := ⟨[.val false (.sl 200 (.pair (.int .i64) (.pair (.pair (.int .i64) (.sl 3 (.int .i64))) (.pair (.int .i64) (.pair (.int .i64) (.int .i64)))))) [0], .val false (.int .i64) []], [.val false (.int .i64) []]⟩
def laws_szPartS.F (k : Nat) (x : Args laws_szPartS.sig.ps) : Option (Res laws_szPartS.sig) := laws_szPartS.f k x.1 x.2.1
def laws_szPartS.ann (k : Nat) : Ann (Res laws_szPartS.sig) := (.seq .nil (.seq .nil (.seq .nil (.seq (.seq .nil (.block (.loop laws_szPartS.Sl1 (laws_szPartS.l1 k) fun n1 => .nil))) .nil))))
def laws_szPartS.ent : Ent := ⟨65, laws_szPartS.sig, laws_szPartS.F⟩
def laws_szPartS.ctx (k : Nat) : Ctx := ⟨tds, [laws_szPart.ent], k, 27⟩
theorem laws_szPartS.runs (k : Nat) (x : Args laws_szPartS.sig.ps) : laws_szPartS.F k x = runF (laws_szPartS.ctx k) laws_szPartS.sig Try.f65 (Try.f65.body.getD .skip) (laws_szPartS.ann k) x := by kernel_rfl
theorem laws_szPartS.obls (k : Nat) : obl (laws_szPartS.ctx k) 1 (Try.f65.body.getD .skip) (laws_szPartS.ann k) (retK tds laws_szPartS.sig Try.f65.results.toList) := ⟨trivial, ⟨trivial, ⟨⟨trivial, ⟨⟨trivial, trivial⟩, trivial⟩⟩, ⟨⟨trivial, ⟨⟨by kernel_rfl, fun x => by kernel_rfl⟩, fun n => ⟨fun x => by kernel_rfl, ⟨⟨trivial, ⟨trivial, trivial⟩⟩, ⟨⟨trivial, ⟨trivial, ⟨⟨trivial, trivial⟩, trivial⟩⟩⟩, trivial⟩⟩⟩⟩⟩, ⟨trivial, trivial⟩⟩⟩⟩⟩
theorem laws_szPartS.ok (k : Nat) : EntOk Try.prog k laws_szPartS.ent := fn_ok (C := laws_szPartS.ctx k) Try.func65 (by kernel_rfl) (by kernel_rfl) mixed tdsOk (.cons (laws_szPart.ok k) EntsOk.nil) (by kernel_rfl) (Nat.le_of_ble_eq_true (by kernel_rfl)) (by kernel_rfl) (laws_szPartS.runs k) (laws_szPartS.obls k)
/-! loop.example/g00200/laws.szMsgS -/
def laws_szMsgS.f (k : Nat) (a0 : List (Int × Int)) (a1 : Int) : Option (Int) :=
  if (w64 (a1 - (a0.length : Int))) < 0 then (some (-1)) else (some (w64 (a1 - (a0.length : Int))))
def laws_szMsgS.sig : Sig := ⟨[.val false (.sl 243 (.pair (.int .i64) (.int .i64))) [0], .val false (.int .i64) []], [.val false (.int .i64) []]⟩
def laws_szMsgS.F (k : Nat) (x : Args laws_szMsgS.sig.ps) : Option (Res laws_szMsgS.sig) := laws_szMsgS.f k x.1 x.2.1
def laws_szMsgS.ann (k : Nat) : Ann (Res laws_szMsgS.sig) := .nil
def laws_szMsgS.ent : Ent := ⟨191, laws_szMsgS.sig, laws_szMsgS.F⟩
def laws_szMsgS.ctx (k : Nat) : Ctx := ⟨tds, [], k, 12⟩
theorem laws_szMsgS.runs (k : Nat) (x : Args laws_szMsgS.sig.ps) : laws_szMsgS.F k x = runF (laws_szMsgS.ctx k) laws_szMsgS.sig Try.f191 (Try.f191.body.getD .skip) (laws_szMsgS.ann k) x := by kernel_rfl
theorem laws_szMsgS.obls (k : Nat) : obl (laws_szMsgS.ctx k) 1 (Try.f191.body.getD .skip) (laws_szMsgS.ann k) (retK tds laws_szMsgS.sig Try.f191.results.toList) := ⟨trivial, ⟨trivial, ⟨⟨trivial, ⟨⟨trivial, trivial⟩, trivial⟩⟩, ⟨trivial, trivial⟩⟩⟩⟩
theorem laws_szMsgS.ok (k : Nat) : EntOk Try.prog k laws_szMsgS.ent := fn_ok (C := laws_szMsgS.ctx k) Try.func191 (by kernel_rfl) (by kernel_rfl) mixed tdsOk EntsOk.nil (by kernel_rfl) (Nat.le_of_ble_eq_true (by kernel_rfl)) (by kernel_rfl) (laws_szMsgS.runs k) (laws_szMsgS.obls k)
/-! loop.example/g00200/laws.szLine -/
def laws_szLine.f (k : Nat) (a0 : List (Int × Int)) (a1 : Int) : Option (Int) :=
  (laws_szMsgS.f k a0 a1).bind fun t1 => (if t1 < 0 then (some (-1)) else (some t1))
def laws_szLine.sig : Sig := ⟨[.val true (.sl 243 (.pair (.int .i64) (.int .i64))) [0], .val false (.int .i64) []], [.val false (.int .i64) []]⟩
def laws_szLine.F (k : Nat) (x : Args laws_szLine.sig.ps) : Option (Res laws_szLine.sig) := laws_szLine.f k x.1 x.2.1
def laws_szLine.ann (k : Nat) : Ann (Res laws_szLine.sig) := .nil
def laws_szLine.ent : Ent := ⟨147, laws_szLine.sig, laws_szLine.F⟩
def laws_szLine.ctx (k : Nat) : Ctx := ⟨tds, [laws_szMsgS.ent], k, 12⟩
theorem laws_szLine.runs (k : Nat) (x : Args laws_szLine.sig.ps) : laws_szLine.F k x = runF (laws_szLine.ctx k) laws_szLine.sig Try.f147 (Try.f147.body.getD .skip) (laws_szLine.ann k) x := by kernel_rfl
theorem laws_szLine.obls (k : Nat) : obl (laws_szLine.ctx k) 1 (Try.f147.body.getD .skip) (laws_szLine.ann k) (retK tds laws_szLine.sig Try.f147.results.toList) := ⟨trivial, ⟨trivial, ⟨⟨trivial, ⟨⟨trivial, trivial⟩, trivial⟩⟩, ⟨trivial, trivial⟩⟩⟩⟩
theorem laws_szLine.ok (k : Nat) : EntOk Try.prog k laws_szLine.ent := fn_ok (C := laws_szLine.ctx k) Try.func147 (by kernel_rfl) (by kernel_rfl) mixed tdsOk (.cons (laws_szMsgS.ok k) EntsOk.nil) (by kernel_rfl) (Nat.le_of_ble_eq_true (by kernel_rfl)) (by kernel_rfl) (laws_szLine.runs k) (laws_szLine.obls k)
/-! loop.example/g00200/laws.szLineS -/
def laws_szLineS.l1 (k : Nat)  : Nat → Int × Int × (List (List (Int × Int))) × Unit → Option (Int)
  | 0, _ => none
  | n + 1, (x1, x2, x3, _) => if x2 < (x3.length : Int) then (if 0 ≤ x2 then (if x2 < (x3.length : Int) then ((laws_szLine.f k (el (.sl 243 (.pair (.int .i64) (.int .i64))) x3 x2.toNat) x1).bind fun t1 => (if t1 < 0 then (some (-1)) else (laws_szLineS.l1 k n (t1, w64 (x2 + 1), x3, ())))) else none) else none) else (some x1)
def laws_szLineS.f (k : Nat) (a0 : List (List (Int × Int))) (a1 : Int) : Option (Int) :=
  if (w64 (a1 - (a0.length : Int))) < 0 then (some (-1)) else (laws_szLineS.l1 k k (w64 (a1 - (a0.length : Int)), 0, a0, ()))
def laws_szLineS.Sl1 : Shape := ⟨[(0, false, [.own 0]), (1, false, [.int .i64]), (5, false, [.int .i64])], [(0, .view false 204 (.sl 243 (.pair (.int .i64) (.int .i64))))], 1⟩
def laws_szLineS.sig : Sig := ⟨[.val false (.sl 204 (.sl 243 (.pair (.int .i64) (.int .i64)))) [0], .val false (.int .i64) []], [.val false (.int .i64) []]⟩
def laws_szLineS.F (k : Nat) (x : Args laws_szLineS.sig.ps) : Option (Res laws_szLineS.sig) := laws_szLineS.f k x.1 x.2.1
def laws_szLineS.ann (k : Nat) : Ann (Res laws_szLineS.sig) := (.seq .nil (.seq .nil (.seq .nil (.seq (.seq .nil (.block (.loop laws_szLineS.Sl1 (laws_szLineS.l1 k) fun n1 => .nil))) .nil))))
def laws_szLineS.ent : Ent := ⟨66, laws_szLineS.sig, laws_szLineS.F⟩
def laws_szLineS.ctx (k : Nat) : Ctx := ⟨tds, [laws_szLine.ent], k, 27⟩
theorem laws_szLineS.runs (k : Nat) (x : Args laws_szLineS.sig.ps) : laws_szLineS.F k x = runF (laws_szLineS.ctx k) laws_szLineS.sig Try.f66 (Try.f66.body.getD .skip) (laws_szLineS.ann k) x := by kernel_rfl
theorem laws_szLineS.obls (k : Nat) : obl (laws_szLineS.ctx k) 1 (Try.f66.body.getD .skip) (laws_szLineS.ann k) (retK tds laws_szLineS.sig Try.f66.results.toList) := ⟨trivial, ⟨trivial, ⟨⟨trivial, ⟨⟨trivial, trivial⟩, trivial⟩⟩, ⟨⟨trivial, ⟨⟨by kernel_rfl, fun x => by kernel_rfl⟩, fun n => ⟨fun x => by kernel_rfl, ⟨⟨trivial, ⟨trivial, trivial⟩⟩, ⟨⟨trivial, ⟨trivial, ⟨⟨trivial, trivial⟩, trivial⟩⟩⟩, trivial⟩⟩⟩⟩⟩, ⟨trivial, trivial⟩⟩⟩⟩⟩
theorem laws_szLineS.ok (k : Nat) : EntOk Try.prog k laws_szLineS.ent := fn_ok (C := laws_szLineS.ctx k) Try.func66 (by kernel_rfl) (by kernel_rfl) mixed tdsOk (.cons (laws_szLine.ok k) EntsOk.nil) (by kernel_rfl) (Nat.le_of_ble_eq_true (by kernel_rfl)) (by kernel_rfl) (laws_szLineS.runs k) (laws_szLineS.obls k)
/-! loop.example/g00200/laws.szEntryS -/
def laws_szEntryS.f (k : Nat) (a0 : List (Int × Int × Int × Int × Int)) (a1 : Int) : Option (Int) :=
  if (w64 (a1 - (a0.length : Int))) < 0 then (some (-1)) else (some (w64 (a1 - (a0.length : Int))))
def laws_szEntryS.sig : Sig := ⟨[.val false (.sl 208 (.pair (.int .i64) (.pair (.int .i64) (.pair (.int .i64) (.pair (.int .i64) (.int .i64)))))) [0], .val false (.int .i64) []], [.val false (.int .i64) []]⟩
def laws_szEntryS.F (k : Nat) (x : Args laws_szEntryS.sig.ps) : Option (Res laws_szEntryS.sig) := laws_szEntryS.f k x.1 x.2.1
def laws_szEntryS.ann (k : Nat) : Ann (Res laws_szEntryS.sig) := .nil
def laws_szEntryS.ent : Ent := ⟨68, laws_szEntryS.sig, laws_szEntryS.F⟩
def laws_szEntryS.ctx (k : Nat) : Ctx := ⟨tds, [], k, 12⟩
theorem laws_szEntryS.runs (k : Nat) (x : Args laws_szEntryS.sig.ps) : laws_szEntryS.F k x = runF (laws_szEntryS.ctx k) laws_szEntryS.sig Try.f68 (Try.f68.body.getD .skip) (laws_szEntryS.ann k) x := by kernel_rfl
theorem laws_szEntryS.obls (k : Nat) : obl (laws_szEntryS.ctx k) 1 (Try.f68.body.getD .skip) (laws_szEntryS.ann k) (retK tds laws_szEntryS.sig Try.f68.results.toList) := ⟨trivial, ⟨trivial, ⟨⟨trivial, ⟨⟨trivial, trivial⟩, trivial⟩⟩, ⟨trivial, trivial⟩⟩⟩⟩
theorem laws_szEntryS.ok (k : Nat) : EntOk Try.prog k laws_szEntryS.ent := fn_ok (C := laws_szEntryS.ctx k) Try.func68 (by kernel_rfl) (by kernel_rfl) mixed tdsOk EntsOk.nil (by kernel_rfl) (Nat.le_of_ble_eq_true (by kernel_rfl)) (by kernel_rfl) (laws_szEntryS.runs k) (laws_szEntryS.obls k)
/-! loop.example/g00200/laws.szKernel -/
def laws_szKernel.f (k : Nat) (a0 : (List (Int × Int) × List (Int × Int) × List (Int × Int × Int × Int × Int) × List (Int × Int × Int) × List ByteArray) × List Int × List (Int × (Int × List Int) × Int × Int × Int) × List (List (Int × Int)) × List Int × Int × Bool × List (Int × Int × Int × Int × Int)) (a1 : Int) : Option (Int) :=
  (laws_szSetup.f k a0.1 a1).bind fun t1 => (if t1 < 0 then (some (-1)) else ((laws_szArena.f k a0.2.1 t1).bind fun t2 => (if t2 < 0 then (some (-1)) else ((laws_szPartS.f k a0.2.2.1 t2).bind fun t3 => (if t3 < 0 then (some (-1)) else ((laws_szLineS.f k a0.2.2.2.1 t3).bind fun t4 => (if t4 < 0 then (some (-1)) else ((laws_szIntS.f k a0.2.2.2.2.1 t4).bind fun t5 => (if t5 < 0 then (some (-1)) else ((laws_szEntryS.f k a0.2.2.2.2.2.2.2 t5).bind fun t6 => (if t6 < 0 then (some (-1)) else (some t6))))))))))))
def laws_szKernel.sig : Sig := ⟨[.val true (.pair (.pair (.sl 214 (.pair (.int .i64) (.int .i64))) (.pair (.sl 216 (.pair (.int .i64) (.int .i64))) (.pair (.sl 218 (.pair (.int .i64) (.pair (.int .i64) (.pair (.int .i64) (.pair (.int .i64) (.int .i64)))))) (.pair (.sl 220 (.pair (.int .i64) (.pair (.int .i64) (.int .i64)))) (.sl 9 .str))))) (.pair (.sl 3 (.int .i64)) (.pair (.sl 200 (.pair (.int .i64) (.pair (.pair (.int .i64) (.sl 3 (.int .i64))) (.pair (.int .i64) (.pair (.int .i64) (.int .i64)))))) (.pair (.sl 204 (.sl 243 (.pair (.int .i64) (.int .i64)))) (.pair (.sl 3 (.int .i64)) (.pair (.int .i64) (.pair .bool (.sl 208 (.pair (.int .i64) (.pair (.int .i64) (.pair (.int .i64) (.pair (.int .i64) (.int .i64))))))))))))) [0, 0, 0, 0, 0, 0, 0, 0, 0, 0], .val false (.int .i64) []], [.val false (.int .i64) []]⟩
def laws_szKernel.F (k : Nat) (x : Args laws_szKernel.sig.ps) : Option (Res laws_szKernel.sig) := laws_szKernel.f k x.1 x.2.1
def laws_szKernel.ann (k : Nat) : Ann (Res laws_szKernel.sig) := .nil
def laws_szKernel.ent : Ent := ⟨24, laws_szKernel.sig, laws_szKernel.F⟩
def laws_szKernel.ctx (k : Nat) : Ctx := ⟨tds, [laws_szSetup.ent, laws_szArena.ent, laws_szPartS.ent, laws_szLineS.ent, laws_szIntS.ent, laws_szEntryS.ent], k, 42⟩
theorem laws_szKernel.runs (k : Nat) (x : Args laws_szKernel.sig.ps) : laws_szKernel.F k x = runF (laws_szKernel.ctx k) laws_szKernel.sig Try.f24 (Try.f24.body.getD .skip) (laws_szKernel.ann k) x := by kernel_rfl
theorem laws_szKernel.obls (k : Nat) : obl (laws_szKernel.ctx k) 10 (Try.f24.body.getD .skip) (laws_szKernel.ann k) (retK tds laws_szKernel.sig Try.f24.results.toList) := ⟨trivial, ⟨trivial, ⟨⟨trivial, ⟨⟨trivial, trivial⟩, trivial⟩⟩, ⟨trivial, ⟨⟨trivial, ⟨⟨trivial, trivial⟩, trivial⟩⟩, ⟨trivial, ⟨⟨trivial, ⟨⟨trivial, trivial⟩, trivial⟩⟩, ⟨trivial, ⟨⟨trivial, ⟨⟨trivial, trivial⟩, trivial⟩⟩, ⟨trivial, ⟨⟨trivial, ⟨⟨trivial, trivial⟩, trivial⟩⟩, ⟨trivial, ⟨⟨trivial, ⟨⟨trivial, trivial⟩, trivial⟩⟩, ⟨trivial, trivial⟩⟩⟩⟩⟩⟩⟩⟩⟩⟩⟩⟩⟩⟩
theorem laws_szKernel.ok (k : Nat) : EntOk Try.prog k laws_szKernel.ent := fn_ok (C := laws_szKernel.ctx k) Try.func24 (by kernel_rfl) (by kernel_rfl) mixed tdsOk (.cons (laws_szSetup.ok k) (.cons (laws_szArena.ok k) (.cons (laws_szPartS.ok k) (.cons (laws_szLineS.ok k) (.cons (laws_szIntS.ok k) (.cons (laws_szEntryS.ok k) EntsOk.nil)))))) (by kernel_rfl) (Nat.le_of_ble_eq_true (by kernel_rfl)) (by kernel_rfl) (laws_szKernel.runs k) (laws_szKernel.obls k)
/-! loop.example/g00200/laws.toRegion -/
def laws_toRegion.f (k : Nat) (a0 : Int × Int) : Option (Int × Int) :=
  some a0
def laws_toRegion.sig : Sig := ⟨[.val true (.pair (.int .i64) (.int .i64)) []], [.val true (.pair (.int .i64) (.int .i64)) []]⟩
def laws_toRegion.F (k : Nat) (x : Args laws_toRegion.sig.ps) : Option (Res laws_toRegion.sig) := laws_toRegion.f k x.1
def laws_toRegion.ann (k : Nat) : Ann (Res laws_toRegion.sig) := .nil
def laws_toRegion.ent : Ent := ⟨162, laws_toRegion.sig, laws_toRegion.F⟩
def laws_toRegion.ctx (k : Nat) : Ctx := ⟨tds, [], k, 11⟩
theorem laws_toRegion.runs (k : Nat) (x : Args laws_toRegion.sig.ps) : laws_toRegion.F k x = runF (laws_toRegion.ctx k) laws_toRegion.sig Try.f162 (Try.f162.body.getD .skip) (laws_toRegion.ann k) x := by kernel_rfl
theorem laws_toRegion.obls (k : Nat) : obl (laws_toRegion.ctx k) 0 (Try.f162.body.getD .skip) (laws_toRegion.ann k) (retK tds laws_toRegion.sig Try.f162.results.toList) := ⟨trivial, ⟨trivial, ⟨trivial, ⟨trivial, ⟨trivial, trivial⟩⟩⟩⟩⟩
theorem laws_toRegion.ok (k : Nat) : EntOk Try.prog k laws_toRegion.ent := fn_ok (C := laws_toRegion.ctx k) Try.func162 (by kernel_rfl) (by kernel_rfl) mixed tdsOk EntsOk.nil (by kernel_rfl) (Nat.le_of_ble_eq_true (by kernel_rfl)) (by kernel_rfl) (laws_toRegion.runs k) (laws_toRegion.obls k)
/-! loop.example/g00200/laws.toRegionS -/
def laws_toRegionS.l1 (k : Nat)  : Nat → Int × (List (Int × Int)) × (List (Int × Int)) × Unit → Option (List (Int × Int))
  | 0, _ => none
  | n + 1, (x1, x2, x3, _) => if x1 < (x2.length : Int) then (if 0 ≤ x1 then (if x1 < (x2.length : Int) then ((laws_toRegion.f k (el (.pair (.int .i64) (.int .i64)) x2 x1.toNat)).bind fun t2 => (if 0 ≤ x1 then (if x1 < (x3.length : Int) then (((some (x3.set x1.toNat t2))).bind fun y3 => (laws_toRegionS.l1 k n (w64 (x1 + 1), x2, y3, ()))) else none) else none)) else none) else none) else (some x3)
def laws_toRegionS.f (k : Nat) (a0 : List (Int × Int)) : Option (List (Int × Int)) :=
  if (a0.length : Int) = (a0.length : Int) then (if 0 ≤ (a0.length : Int) then (if ((a0.length : Int)).toNat * 16 ≤ 281474976710656 then (((some (List.replicate ((a0.length : Int)).toNat (0, 0) : List (Int × Int)))).bind fun y1 => (laws_toRegionS.l1 k k (0, a0, y1, ()))) else none) else none) else none
def laws_toRegionS.Sl1 : Shape := ⟨[(0, false, [.own 0]), (3, false, [.own 1]), (4, false, [.int .i64])], [(0, .view false 214 (.pair (.int .i64) (.int .i64))), (1, .row 31 (.pair (.int .i64) (.int .i64)))], 2⟩
def laws_toRegionS.sig : Sig := ⟨[.val false (.sl 214 (.pair (.int .i64) (.int .i64))) [0]], [.val false (.sl 31 (.pair (.int .i64) (.int .i64))) [none]]⟩
def laws_toRegionS.F (k : Nat) (x : Args laws_toRegionS.sig.ps) : Option (Res laws_toRegionS.sig) := laws_toRegionS.f k x.1
def laws_toRegionS.ann (k : Nat) : Ann (Res laws_toRegionS.sig) := (.seq .nil (.seq .nil (.seq (.seq .nil (.block (.loop laws_toRegionS.Sl1 (laws_toRegionS.l1 k) fun n1 => .nil))) .nil)))
def laws_toRegionS.ent : Ent := ⟨101, laws_toRegionS.sig, laws_toRegionS.F⟩
def laws_toRegionS.ctx (k : Nat) : Ctx := ⟨tds, [laws_toRegion.ent], k, 23⟩
theorem laws_toRegionS.runs (k : Nat) (x : Args laws_toRegionS.sig.ps) : laws_toRegionS.F k x = runF (laws_toRegionS.ctx k) laws_toRegionS.sig Try.f101 (Try.f101.body.getD .skip) (laws_toRegionS.ann k) x := by kernel_rfl
theorem laws_toRegionS.obls (k : Nat) : obl (laws_toRegionS.ctx k) 1 (Try.f101.body.getD .skip) (laws_toRegionS.ann k) (retK tds laws_toRegionS.sig Try.f101.results.toList) := ⟨trivial, ⟨trivial, ⟨⟨trivial, ⟨⟨by kernel_rfl, fun x => by kernel_rfl⟩, fun n => ⟨fun x => by kernel_rfl, ⟨⟨trivial, ⟨trivial, trivial⟩⟩, ⟨trivial, trivial⟩⟩⟩⟩⟩, ⟨trivial, trivial⟩⟩⟩⟩
theorem laws_toRegionS.ok (k : Nat) : EntOk Try.prog k laws_toRegionS.ent := fn_ok (C := laws_toRegionS.ctx k) Try.func101 (by kernel_rfl) (by kernel_rfl) mixed tdsOk (.cons (laws_toRegion.ok k) EntsOk.nil) (by kernel_rfl) (Nat.le_of_ble_eq_true (by kernel_rfl)) (by kernel_rfl) (laws_toRegionS.runs k) (laws_toRegionS.obls k)
/-! loop.example/g00200/laws.toWindow -/
def laws_toWindow.f (k : Nat) (a0 : Int × Int) : Option (Int × Int) :=
  some a0
def laws_toWindow.sig : Sig := ⟨[.val true (.pair (.int .i64) (.int .i64)) []], [.val true (.pair (.int .i64) (.int .i64)) []]⟩
def laws_toWindow.F (k : Nat) (x : Args laws_toWindow.sig.ps) : Option (Res laws_toWindow.sig) := laws_toWindow.f k x.1
def laws_toWindow.ann (k : Nat) : Ann (Res laws_toWindow.sig) := .nil
def laws_toWindow.ent : Ent := ⟨163, laws_toWindow.sig, laws_toWindow.F⟩
def laws_toWindow.ctx (k : Nat) : Ctx := ⟨tds, [], k, 11⟩
theorem laws_toWindow.runs (k : Nat) (x : Args laws_toWindow.sig.ps) : laws_toWindow.F k x = runF (laws_toWindow.ctx k) laws_toWindow.sig Try.f163 (Try.f163.body.getD .skip) (laws_toWindow.ann k) x := by kernel_rfl
theorem laws_toWindow.obls (k : Nat) : obl (laws_toWindow.ctx k) 0 (Try.f163.body.getD .skip) (laws_toWindow.ann k) (retK tds laws_toWindow.sig Try.f163.results.toList) := ⟨trivial, ⟨trivial, ⟨trivial, ⟨trivial, ⟨trivial, trivial⟩⟩⟩⟩⟩
theorem laws_toWindow.ok (k : Nat) : EntOk Try.prog k laws_toWindow.ent := fn_ok (C := laws_toWindow.ctx k) Try.func163 (by kernel_rfl) (by kernel_rfl) mixed tdsOk EntsOk.nil (by kernel_rfl) (Nat.le_of_ble_eq_true (by kernel_rfl)) (by kernel_rfl) (laws_toWindow.runs k) (laws_toWindow.obls k)
/-! loop.example/g00200/laws.toWindowS -/
def laws_toWindowS.l1 (k : Nat)  : Nat → Int × (List (Int × Int)) × (List (Int × Int)) × Unit → Option (List (Int × Int))
  | 0, _ => none
  | n + 1, (x1, x2, x3, _) => if x1 < (x2.length : Int) then (if 0 ≤ x1 then (if x1 < (x2.length : Int) then ((laws_toWindow.f k (el (.pair (.int .i64) (.int .i64)) x2 x1.toNat)).bind fun t2 => (if 0 ≤ x1 then (if x1 < (x3.length : Int) then (((some (x3.set x1.toNat t2))).bind fun y3 => (laws_toWindowS.l1 k n (w64 (x1 + 1), x2, y3, ()))) else none) else none)) else none) else none) else (some x3)
def laws_toWindowS.f (k : Nat) (a0 : List (Int × Int)) : Option (List (Int × Int)) :=
  if (a0.length : Int) = (a0.length : Int) then (if 0 ≤ (a0.length : Int) then (if ((a0.length : Int)).toNat * 16 ≤ 281474976710656 then (((some (List.replicate ((a0.length : Int)).toNat (0, 0) : List (Int × Int)))).bind fun y1 => (laws_toWindowS.l1 k k (0, a0, y1, ()))) else none) else none) else none
def laws_toWindowS.Sl1 : Shape := ⟨[(0, false, [.own 0]), (3, false, [.own 1]), (4, false, [.int .i64])], [(0, .view false 216 (.pair (.int .i64) (.int .i64))), (1, .row 34 (.pair (.int .i64) (.int .i64)))], 2⟩
def laws_toWindowS.sig : Sig := ⟨[.val false (.sl 216 (.pair (.int .i64) (.int .i64))) [0]], [.val false (.sl 34 (.pair (.int .i64) (.int .i64))) [none]]⟩
def laws_toWindowS.F (k : Nat) (x : Args laws_toWindowS.sig.ps) : Option (Res laws_toWindowS.sig) := laws_toWindowS.f k x.1
def laws_toWindowS.ann (k : Nat) : Ann (Res laws_toWindowS.sig) := (.seq .nil (.seq .nil (.seq (.seq .nil (.block (.loop laws_toWindowS.Sl1 (laws_toWindowS.l1 k) fun n1 => .nil))) .nil)))
def laws_toWindowS.ent : Ent := ⟨102, laws_toWindowS.sig, laws_toWindowS.F⟩
def laws_toWindowS.ctx (k : Nat) : Ctx := ⟨tds, [laws_toWindow.ent], k, 23⟩
theorem laws_toWindowS.runs (k : Nat) (x : Args laws_toWindowS.sig.ps) : laws_toWindowS.F k x = runF (laws_toWindowS.ctx k) laws_toWindowS.sig Try.f102 (Try.f102.body.getD .skip) (laws_toWindowS.ann k) x := by kernel_rfl
theorem laws_toWindowS.obls (k : Nat) : obl (laws_toWindowS.ctx k) 1 (Try.f102.body.getD .skip) (laws_toWindowS.ann k) (retK tds laws_toWindowS.sig Try.f102.results.toList) := ⟨trivial, ⟨trivial, ⟨⟨trivial, ⟨⟨by kernel_rfl, fun x => by kernel_rfl⟩, fun n => ⟨fun x => by kernel_rfl, ⟨⟨trivial, ⟨trivial, trivial⟩⟩, ⟨trivial, trivial⟩⟩⟩⟩⟩, ⟨trivial, trivial⟩⟩⟩⟩
theorem laws_toWindowS.ok (k : Nat) : EntOk Try.prog k laws_toWindowS.ent := fn_ok (C := laws_toWindowS.ctx k) Try.func102 (by kernel_rfl) (by kernel_rfl) mixed tdsOk (.cons (laws_toWindow.ok k) EntsOk.nil) (by kernel_rfl) (Nat.le_of_ble_eq_true (by kernel_rfl)) (by kernel_rfl) (laws_toWindowS.runs k) (laws_toWindowS.obls k)
/-! loop.example/g00200/laws.toPort -/
def laws_toPort.f (k : Nat) (a0 : Int × Int × Int × Int × Int) : Option (Int × Int × Int × Int × Int) :=
  some a0
def laws_toPort.sig : Sig := ⟨[.val true (.pair (.int .i64) (.pair (.int .i64) (.pair (.int .i64) (.pair (.int .i64) (.int .i64))))) []], [.val true (.pair (.int .i64) (.pair (.int .i64) (.pair (.int .i64) (.pair (.int .i64) (.int .i64))))) []]⟩
def laws_toPort.F (k : Nat) (x : Args laws_toPort.sig.ps) : Option (Res laws_toPort.sig) := laws_toPort.f k x.1
def laws_toPort.ann (k : Nat) : Ann (Res laws_toPort.sig) := .nil
def laws_toPort.ent : Ent := ⟨164, laws_toPort.sig, laws_toPort.F⟩
def laws_toPort.ctx (k : Nat) : Ctx := ⟨tds, [], k, 20⟩
theorem laws_toPort.runs (k : Nat) (x : Args laws_toPort.sig.ps) : laws_toPort.F k x = runF (laws_toPort.ctx k) laws_toPort.sig Try.f164 (Try.f164.body.getD .skip) (laws_toPort.ann k) x := by kernel_rfl
theorem laws_toPort.obls (k : Nat) : obl (laws_toPort.ctx k) 0 (Try.f164.body.getD .skip) (laws_toPort.ann k) (retK tds laws_toPort.sig Try.f164.results.toList) := ⟨trivial, ⟨trivial, ⟨trivial, ⟨trivial, ⟨trivial, ⟨trivial, ⟨trivial, ⟨trivial, trivial⟩⟩⟩⟩⟩⟩⟩⟩
theorem laws_toPort.ok (k : Nat) : EntOk Try.prog k laws_toPort.ent := fn_ok (C := laws_toPort.ctx k) Try.func164 (by kernel_rfl) (by kernel_rfl) mixed tdsOk EntsOk.nil (by kernel_rfl) (Nat.le_of_ble_eq_true (by kernel_rfl)) (by kernel_rfl) (laws_toPort.runs k) (laws_toPort.obls k)
/-! loop.example/g00200/laws.toPortS -/
def laws_toPortS.l1 (k : Nat)  : Nat → Int × (List (Int × Int × Int × Int × Int)) × (List (Int × Int × Int × Int × Int)) × Unit → Option (List (Int × Int × Int × Int × Int))
  | 0, _ => none
  | n + 1, (x1, x2, x3, _) => if x1 < (x2.length : Int) then (if 0 ≤ x1 then (if x1 < (x2.length : Int) then ((laws_toPort.f k ((el (.pair (.int .i64) (.pair (.int .i64) (.pair (.int .i64) (.pair (.int .i64) (.int .i64))))) x2 x1.toNat).1, (((el (.pair (.int .i64) (.pair (.int .i64) (.pair (.int .i64) (.pair (.int .i64) (.int .i64))))) x2 x1.toNat).2).1, ((((el (.pair (.int .i64) (.pair (.int .i64) (.pair (.int .i64) (.pair (.int .i64) (.int .i64))))) x2 x1.toNat).2).2).1, ((((el (.pair (.int .i64) (.pair (.int .i64) (.pair (.int .i64) (.pair (.int .i64) (.int .i64))))) x2 x1.toNat).2).2).2))))).bind fun t2 => (if 0 ≤ x1 then (if x1 < (x3.length : Int) then (((some (x3.set x1.toNat t2))).bind fun y3 => (laws_toPortS.l1 k n (w64 (x1 + 1), x2, y3, ()))) else none) else none)) else none) else none) else (some x3)
def laws_toPortS.f (k : Nat) (a0 : List (Int × Int × Int × Int × Int)) : Option (List (Int × Int × Int × Int × Int)) :=
  if (a0.length : Int) = (a0.length : Int) then (if 0 ≤ (a0.length : Int) then (if ((a0.length : Int)).toNat * 40 ≤ 281474976710656 then (((some (List.replicate ((a0.length : Int)).toNat (0, (0, (0, (0, 0)))) : List (Int × Int × Int × Int × Int)))).bind fun y1 => (laws_toPortS.l1 k k (0, a0, y1, ()))) else none) else none) else none
def laws_toPortS.Sl1 : Shape := ⟨[(0, false, [.own 0]), (3, false, [.own 1]), (4, false, [.int .i64])], [(0, .view false 218 (.pair (.int .i64) (.pair (.int .i64) (.pair (.int .i64) (.pair (.int .i64) (.int .i64)))))), (1, .row 63 (.pair (.int .i64) (.pair (.int .i64) (.pair (.int .i64) (.pair (.int .i64) (.int .i64))))))], 2⟩
def laws_toPortS.sig : Sig := ⟨[.val false (.sl 218 (.pair (.int .i64) (.pair (.int .i64) (.pair (.int .i64) (.pair (.int .i64) (.int .i64)))))) [0]], [.val false (.sl 63 (.pair (.int .i64) (.pair (.int .i64) (.pair (.int .i64) (.pair (.int .i64) (.int .i64)))))) [none]]⟩
def laws_toPortS.F (k : Nat) (x : Args laws_toPortS.sig.ps) : Option (Res laws_toPortS.sig) := laws_toPortS.f k x.1
def laws_toPortS.ann (k : Nat) : Ann (Res laws_toPortS.sig) := (.seq .nil (.seq .nil (.seq (.seq .nil (.block (.loop laws_toPortS.Sl1 (laws_toPortS.l1 k) fun n1 => .nil))) .nil)))
def laws_toPortS.ent : Ent := ⟨103, laws_toPortS.sig, laws_toPortS.F⟩
def laws_toPortS.ctx (k : Nat) : Ctx := ⟨tds, [laws_toPort.ent], k, 23⟩
theorem laws_toPortS.runs (k : Nat) (x : Args laws_toPortS.sig.ps) : laws_toPortS.F k x = runF (laws_toPortS.ctx k) laws_toPortS.sig Try.f103 (Try.f103.body.getD .skip) (laws_toPortS.ann k) x := by kernel_rfl
theorem laws_toPortS.obls (k : Nat) : obl (laws_toPortS.ctx k) 1 (Try.f103.body.getD .skip) (laws_toPortS.ann k) (retK tds laws_toPortS.sig Try.f103.results.toList) := ⟨trivial, ⟨trivial, ⟨⟨trivial, ⟨⟨by kernel_rfl, fun x => by kernel_rfl⟩, fun n => ⟨fun x => by kernel_rfl, ⟨⟨trivial, ⟨trivial, trivial⟩⟩, ⟨trivial, trivial⟩⟩⟩⟩⟩, ⟨trivial, trivial⟩⟩⟩⟩
theorem laws_toPortS.ok (k : Nat) : EntOk Try.prog k laws_toPortS.ent := fn_ok (C := laws_toPortS.ctx k) Try.func103 (by kernel_rfl) (by kernel_rfl) mixed tdsOk (.cons (laws_toPort.ok k) EntsOk.nil) (by kernel_rfl) (Nat.le_of_ble_eq_true (by kernel_rfl)) (by kernel_rfl) (laws_toPortS.runs k) (laws_toPortS.obls k)
/-! loop.example/g00200/laws.toRule -/
def laws_toRule.f (k : Nat) (a0 : Int × Int × Int) : Option (Int × Int × Int) :=
  some a0
def laws_toRule.sig : Sig := ⟨[.val true (.pair (.int .i64) (.pair (.int .i64) (.int .i64))) []], [.val true (.pair (.int .i64) (.pair (.int .i64) (.int .i64))) []]⟩
def laws_toRule.F (k : Nat) (x : Args laws_toRule.sig.ps) : Option (Res laws_toRule.sig) := laws_toRule.f k x.1
def laws_toRule.ann (k : Nat) : Ann (Res laws_toRule.sig) := .nil
def laws_toRule.ent : Ent := ⟨165, laws_toRule.sig, laws_toRule.F⟩
def laws_toRule.ctx (k : Nat) : Ctx := ⟨tds, [], k, 14⟩
theorem laws_toRule.runs (k : Nat) (x : Args laws_toRule.sig.ps) : laws_toRule.F k x = runF (laws_toRule.ctx k) laws_toRule.sig Try.f165 (Try.f165.body.getD .skip) (laws_toRule.ann k) x := by kernel_rfl
theorem laws_toRule.obls (k : Nat) : obl (laws_toRule.ctx k) 0 (Try.f165.body.getD .skip) (laws_toRule.ann k) (retK tds laws_toRule.sig Try.f165.results.toList) := ⟨trivial, ⟨trivial, ⟨trivial, ⟨trivial, ⟨trivial, ⟨trivial, trivial⟩⟩⟩⟩⟩⟩
theorem laws_toRule.ok (k : Nat) : EntOk Try.prog k laws_toRule.ent := fn_ok (C := laws_toRule.ctx k) Try.func165 (by kernel_rfl) (by kernel_rfl) mixed tdsOk EntsOk.nil (by kernel_rfl) (Nat.le_of_ble_eq_true (by kernel_rfl)) (by kernel_rfl) (laws_toRule.runs k) (laws_toRule.obls k)
/-! loop.example/g00200/laws.toRuleS -/
def laws_toRuleS.l1 (k : Nat)  : Nat → Int × (List (Int × Int × Int)) × (List (Int × Int × Int)) × Unit → Option (List (Int × Int × Int))
  | 0, _ => none
  | n + 1, (x1, x2, x3, _) => if x1 < (x2.length : Int) then (if 0 ≤ x1 then (if x1 < (x2.length : Int) then ((laws_toRule.f k ((el (.pair (.int .i64) (.pair (.int .i64) (.int .i64))) x2 x1.toNat).1, ((el (.pair (.int .i64) (.pair (.int .i64) (.int .i64))) x2 x1.toNat).2))).bind fun t2 => (if 0 ≤ x1 then (if x1 < (x3.length : Int) then (((some (x3.set x1.toNat t2))).bind fun y3 => (laws_toRuleS.l1 k n (w64 (x1 + 1), x2, y3, ()))) else none) else none)) else none) else none) else (some x3)
def laws_toRuleS.f (k : Nat) (a0 : List (Int × Int × Int)) : Option (List (Int × Int × Int)) :=
  if (a0.length : Int) = (a0.length : Int) then (if 0 ≤ (a0.length : Int) then (if ((a0.length : Int)).toNat * 24 ≤ 281474976710656 then (((some (List.replicate ((a0.length : Int)).toNat (0, (0, 0)) : List (Int × Int × Int)))).bind fun y1 => (laws_toRuleS.l1 k k (0, a0, y1, ()))) else none) else none) else none
def laws_toRuleS.Sl1 : Shape := ⟨[(0, false, [.own 0]), (3, false, [.own 1]), (4, false, [.int .i64])], [(0, .view false 220 (.pair (.int .i64) (.pair (.int .i64) (.int .i64)))), (1, .row 39 (.pair (.int .i64) (.pair (.int .i64) (.int .i64))))], 2⟩
def laws_toRuleS.sig : Sig := ⟨[.val false (.sl 220 (.pair (.int .i64) (.pair (.int .i64) (.int .i64)))) [0]], [.val false (.sl 39 (.pair (.int .i64) (.pair (.int .i64) (.int .i64)))) [none]]⟩
def laws_toRuleS.F (k : Nat) (x : Args laws_toRuleS.sig.ps) : Option (Res laws_toRuleS.sig) := laws_toRuleS.f k x.1
def laws_toRuleS.ann (k : Nat) : Ann (Res laws_toRuleS.sig) := (.seq .nil (.seq .nil (.seq (.seq .nil (.block (.loop laws_toRuleS.Sl1 (laws_toRuleS.l1 k) fun n1 => .nil))) .nil)))
def laws_toRuleS.ent : Ent := ⟨104, laws_toRuleS.sig, laws_toRuleS.F⟩
def laws_toRuleS.ctx (k : Nat) : Ctx := ⟨tds, [laws_toRule.ent], k, 23⟩
theorem laws_toRuleS.runs (k : Nat) (x : Args laws_toRuleS.sig.ps) : laws_toRuleS.F k x = runF (laws_toRuleS.ctx k) laws_toRuleS.sig Try.f104 (Try.f104.body.getD .skip) (laws_toRuleS.ann k) x := by kernel_rfl
theorem laws_toRuleS.obls (k : Nat) : obl (laws_toRuleS.ctx k) 1 (Try.f104.body.getD .skip) (laws_toRuleS.ann k) (retK tds laws_toRuleS.sig Try.f104.results.toList) := ⟨trivial, ⟨trivial, ⟨⟨trivial, ⟨⟨by kernel_rfl, fun x => by kernel_rfl⟩, fun n => ⟨fun x => by kernel_rfl, ⟨⟨trivial, ⟨trivial, trivial⟩⟩, ⟨trivial, trivial⟩⟩⟩⟩⟩, ⟨trivial, trivial⟩⟩⟩⟩
theorem laws_toRuleS.ok (k : Nat) : EntOk Try.prog k laws_toRuleS.ent := fn_ok (C := laws_toRuleS.ctx k) Try.func104 (by kernel_rfl) (by kernel_rfl) mixed tdsOk (.cons (laws_toRule.ok k) EntsOk.nil) (by kernel_rfl) (Nat.le_of_ble_eq_true (by kernel_rfl)) (by kernel_rfl) (laws_toRuleS.runs k) (laws_toRuleS.obls k)
/-! loop.example/g00200/laws.toStringS -/
def laws_toStringS.l1 (k : Nat)  : Nat → Int × List ByteArray × List ByteArray × Unit → Option (List ByteArray)
  | 0, _ => none
  | n + 1, (x1, x2, x3, _) => if x1 < (x2.length : Int) then (if 0 ≤ x1 then (if x1 < (x2.length : Int) then (if 0 ≤ x1 then (if x1 < (x3.length : Int) then (((some (x3.set x1.toNat (el .str x2 x1.toNat)))).bind fun y2 => (laws_toStringS.l1 k n (w64 (x1 + 1), x2, y2, ()))) else none) else none) else none) else none) else (some x3)
def laws_toStringS.f (k : Nat) (a0 : List ByteArray) : Option (List ByteArray) :=
  if (a0.length : Int) = (a0.length : Int) then (if 0 ≤ (a0.length : Int) then (if ((a0.length : Int)).toNat * 16 ≤ 281474976710656 then (((some (List.replicate ((a0.length : Int)).toNat (⟨#[]⟩ : ByteArray) : List ByteArray))).bind fun y1 => (laws_toStringS.l1 k k (0, a0, y1, ()))) else none) else none) else none
def laws_toStringS.Sl1 : Shape := ⟨[(0, false, [.own 0]), (3, false, [.own 1]), (4, false, [.int .i64])], [(0, .view false 9 .str), (1, .row 9 .str)], 2⟩
def laws_toStringS.sig : Sig := ⟨[.val false (.sl 9 .str) [0]], [.val false (.sl 9 .str) [none]]⟩
def laws_toStringS.F (k : Nat) (x : Args laws_toStringS.sig.ps) : Option (Res laws_toStringS.sig) := laws_toStringS.f k x.1
def laws_toStringS.ann (k : Nat) : Ann (Res laws_toStringS.sig) := (.seq .nil (.seq .nil (.seq (.seq .nil (.block (.loop laws_toStringS.Sl1 (laws_toStringS.l1 k) fun n1 => .nil))) .nil)))
def laws_toStringS.ent : Ent := ⟨105, laws_toStringS.sig, laws_toStringS.F⟩
def laws_toStringS.ctx (k : Nat) : Ctx := ⟨tds, [], k, 22⟩
theorem laws_toStringS.runs (k : Nat) (x : Args laws_toStringS.sig.ps) : laws_toStringS.F k x = runF (laws_toStringS.ctx k) laws_toStringS.sig Try.f105 (Try.f105.body.getD .skip) (laws_toStringS.ann k) x := by kernel_rfl
theorem laws_toStringS.obls (k : Nat) : obl (laws_toStringS.ctx k) 1 (Try.f105.body.getD .skip) (laws_toStringS.ann k) (retK tds laws_toStringS.sig Try.f105.results.toList) := ⟨trivial, ⟨trivial, ⟨⟨trivial, ⟨⟨by kernel_rfl, fun x => by kernel_rfl⟩, fun n => ⟨fun x => by kernel_rfl, ⟨⟨trivial, ⟨trivial, trivial⟩⟩, ⟨trivial, trivial⟩⟩⟩⟩⟩, ⟨trivial, trivial⟩⟩⟩⟩
theorem laws_toStringS.ok (k : Nat) : EntOk Try.prog k laws_toStringS.ent := fn_ok (C := laws_toStringS.ctx k) Try.func105 (by kernel_rfl) (by kernel_rfl) mixed tdsOk EntsOk.nil (by kernel_rfl) (Nat.le_of_ble_eq_true (by kernel_rfl)) (by kernel_rfl) (laws_toStringS.runs k) (laws_toStringS.obls k)
/-! loop.example/g00200/laws.toSetup -/
def laws_toSetup.f (k : Nat) (a0 : List (Int × Int) × List (Int × Int) × List (Int × Int × Int × Int × Int) × List (Int × Int × Int) × List ByteArray) : Option (List (Int × Int) × List (Int × Int) × List (Int × Int × Int × Int × Int) × List (Int × Int × Int) × List ByteArray) :=
  (laws_toRegionS.f k a0.1).bind fun t1 => ((laws_toWindowS.f k a0.2.1).bind fun t2 => ((laws_toPortS.f k a0.2.2.1).bind fun t3 => ((laws_toRuleS.f k a0.2.2.2.1).bind fun t4 => ((laws_toStringS.f k a0.2.2.2.2).bind fun t5 => (some (t1, (t2, (t3, (t4, t5)))))))))
def laws_toSetup.sig : Sig := ⟨[.val true (.pair (.sl 214 (.pair (.int .i64) (.int .i64))) (.pair (.sl 216 (.pair (.int .i64) (.int .i64))) (.pair (.sl 218 (.pair (.int .i64) (.pair (.int .i64) (.pair (.int .i64) (.pair (.int .i64) (.int .i64)))))) (.pair (.sl 220 (.pair (.int .i64) (.pair (.int .i64) (.int .i64)))) (.sl 9 .str))))) [0, 0, 0, 0, 0]], [.val true (.pair (.sl 31 (.pair (.int .i64) (.int .i64))) (.pair (.sl 34 (.pair (.int .i64) (.int .i64))) (.pair (.sl 63 (.pair (.int .i64) (.pair (.int .i64) (.pair (.int .i64) (.pair (.int .i64) (.int .i64)))))) (.pair (.sl 39 (.pair (.int .i64) (.pair (.int .i64) (.int .i64)))) (.sl 9 .str))))) [none, none, none, none, none]]⟩
def laws_toSetup.F (k : Nat) (x : Args laws_toSetup.sig.ps) : Option (Res laws_toSetup.sig) := laws_toSetup.f k x.1
def laws_toSetup.ann (k : Nat) : Ann (Res laws_toSetup.sig) := .nil
def laws_toSetup.ent : Ent := ⟨39, laws_toSetup.sig, laws_toSetup.F⟩
def laws_toSetup.ctx (k : Nat) : Ctx := ⟨tds, [laws_toRegionS.ent, laws_toWindowS.ent, laws_toPortS.ent, laws_toRuleS.ent, laws_toStringS.ent], k, 25⟩
theorem laws_toSetup.runs (k : Nat) (x : Args laws_toSetup.sig.ps) : laws_toSetup.F k x = runF (laws_toSetup.ctx k) laws_toSetup.sig Try.f39 (Try.f39.body.getD .skip) (laws_toSetup.ann k) x := by kernel_rfl
theorem laws_toSetup.obls (k : Nat) : obl (laws_toSetup.ctx k) 5 (Try.f39.body.getD .skip) (laws_toSetup.ann k) (retK tds laws_toSetup.sig Try.f39.results.toList) := ⟨trivial, ⟨trivial, ⟨trivial, ⟨trivial, ⟨trivial, ⟨trivial, ⟨trivial, ⟨trivial, trivial⟩⟩⟩⟩⟩⟩⟩⟩
theorem laws_toSetup.ok (k : Nat) : EntOk Try.prog k laws_toSetup.ent := fn_ok (C := laws_toSetup.ctx k) Try.func39 (by kernel_rfl) (by kernel_rfl) mixed tdsOk (.cons (laws_toRegionS.ok k) (.cons (laws_toWindowS.ok k) (.cons (laws_toPortS.ok k) (.cons (laws_toRuleS.ok k) (.cons (laws_toStringS.ok k) EntsOk.nil))))) (by kernel_rfl) (Nat.le_of_ble_eq_true (by kernel_rfl)) (by kernel_rfl) (laws_toSetup.runs k) (laws_toSetup.obls k)
/-! loop.example/g00200/laws.toIntS -/
def laws_toIntS.l1 (k : Nat)  : Nat → Int × List Int × List Int × Unit → Option (List Int)
  | 0, _ => none
  | n + 1, (x1, x2, x3, _) => if x1 < (x2.length : Int) then (if 0 ≤ x1 then (if x1 < (x2.length : Int) then (if 0 ≤ x1 then (if x1 < (x3.length : Int) then (((some (x3.set x1.toNat (el (.int .i64) x2 x1.toNat)))).bind fun y2 => (laws_toIntS.l1 k n (w64 (x1 + 1), x2, y2, ()))) else none) else none) else none) else none) else (some x3)
def laws_toIntS.f (k : Nat) (a0 : List Int) : Option (List Int) :=
  if (a0.length : Int) = (a0.length : Int) then (if 0 ≤ (a0.length : Int) then (if ((a0.length : Int)).toNat * 8 ≤ 281474976710656 then (((some (List.replicate ((a0.length : Int)).toNat 0 : List Int))).bind fun y1 => (laws_toIntS.l1 k k (0, a0, y1, ()))) else none) else none) else none
def laws_toIntS.Sl1 : Shape := ⟨[(0, false, [.own 0]), (3, false, [.own 1]), (4, false, [.int .i64])], [(0, .view false 3 (.int .i64)), (1, .row 3 (.int .i64))], 2⟩
def laws_toIntS.sig : Sig := ⟨[.val false (.sl 3 (.int .i64)) [0]], [.val false (.sl 3 (.int .i64)) [none]]⟩
def laws_toIntS.F (k : Nat) (x : Args laws_toIntS.sig.ps) : Option (Res laws_toIntS.sig) := laws_toIntS.f k x.1
def laws_toIntS.ann (k : Nat) : Ann (Res laws_toIntS.sig) := (.seq .nil (.seq .nil (.seq (.seq .nil (.block (.loop laws_toIntS.Sl1 (laws_toIntS.l1 k) fun n1 => .nil))) .nil)))
def laws_toIntS.ent : Ent := ⟨75, laws_toIntS.sig, laws_toIntS.F⟩
def laws_toIntS.ctx (k : Nat) : Ctx := ⟨tds, [], k, 22⟩
theorem laws_toIntS.runs (k : Nat) (x : Args laws_toIntS.sig.ps) : laws_toIntS.F k x = runF (laws_toIntS.ctx k) laws_toIntS.sig Try.f75 (Try.f75.body.getD .skip) (laws_toIntS.ann k) x := by kernel_rfl
theorem laws_toIntS.obls (k : Nat) : obl (laws_toIntS.ctx k) 1 (Try.f75.body.getD .skip) (laws_toIntS.ann k) (retK tds laws_toIntS.sig Try.f75.results.toList) := ⟨trivial, ⟨trivial, ⟨⟨trivial, ⟨⟨by kernel_rfl, fun x => by kernel_rfl⟩, fun n => ⟨fun x => by kernel_rfl, ⟨⟨trivial, ⟨trivial, trivial⟩⟩, ⟨trivial, trivial⟩⟩⟩⟩⟩, ⟨trivial, trivial⟩⟩⟩⟩
theorem laws_toIntS.ok (k : Nat) : EntOk Try.prog k laws_toIntS.ent := fn_ok (C := laws_toIntS.ctx k) Try.func75 (by kernel_rfl) (by kernel_rfl) mixed tdsOk EntsOk.nil (by kernel_rfl) (Nat.le_of_ble_eq_true (by kernel_rfl)) (by kernel_rfl) (laws_toIntS.runs k) (laws_toIntS.obls k)
/-! loop.example/g00200/laws.toArena -/
def laws_toArena.f (k : Nat) (a0 : List Int) : Option (List Int) :=
  (laws_toIntS.f k a0).bind fun t1 => (some t1)
def laws_toArena.sig : Sig := ⟨[.val true (.sl 3 (.int .i64)) [0]], [.val true (.sl 3 (.int .i64)) [none]]⟩
def laws_toArena.F (k : Nat) (x : Args laws_toArena.sig.ps) : Option (Res laws_toArena.sig) := laws_toArena.f k x.1
def laws_toArena.ann (k : Nat) : Ann (Res laws_toArena.sig) := .nil
def laws_toArena.ent : Ent := ⟨72, laws_toArena.sig, laws_toArena.F⟩
def laws_toArena.ctx (k : Nat) : Ctx := ⟨tds, [laws_toIntS.ent], k, 9⟩
theorem laws_toArena.runs (k : Nat) (x : Args laws_toArena.sig.ps) : laws_toArena.F k x = runF (laws_toArena.ctx k) laws_toArena.sig Try.f72 (Try.f72.body.getD .skip) (laws_toArena.ann k) x := by kernel_rfl
theorem laws_toArena.obls (k : Nat) : obl (laws_toArena.ctx k) 1 (Try.f72.body.getD .skip) (laws_toArena.ann k) (retK tds laws_toArena.sig Try.f72.results.toList) := ⟨trivial, ⟨trivial, ⟨trivial, ⟨trivial, trivial⟩⟩⟩⟩
theorem laws_toArena.ok (k : Nat) : EntOk Try.prog k laws_toArena.ent := fn_ok (C := laws_toArena.ctx k) Try.func72 (by kernel_rfl) (by kernel_rfl) mixed tdsOk (.cons (laws_toIntS.ok k) EntsOk.nil) (by kernel_rfl) (Nat.le_of_ble_eq_true (by kernel_rfl)) (by kernel_rfl) (laws_toArena.runs k) (laws_toArena.obls k)
/-! loop.example/g00200/laws.toCpu -/
def laws_toCpu.f (k : Nat) (a0 : Int × List Int) : Option (Int × List Int) :=
  (laws_toIntS.f k a0.2).bind fun t1 => (some (a0.1, t1))
def laws_toCpu.sig : Sig := ⟨[.val true (.pair (.int .i64) (.sl 3 (.int .i64))) [0]], [.val true (.pair (.int .i64) (.sl 3 (.int .i64))) [none]]⟩
def laws_toCpu.F (k : Nat) (x : Args laws_toCpu.sig.ps) : Option (Res laws_toCpu.sig) := laws_toCpu.f k x.1
def laws_toCpu.ann (k : Nat) : Ann (Res laws_toCpu.sig) := .nil
def laws_toCpu.ent : Ent := ⟨192, laws_toCpu.sig, laws_toCpu.F⟩
def laws_toCpu.ctx (k : Nat) : Ctx := ⟨tds, [laws_toIntS.ent], k, 12⟩
theorem laws_toCpu.runs (k : Nat) (x : Args laws_toCpu.sig.ps) : laws_toCpu.F k x = runF (laws_toCpu.ctx k) laws_toCpu.sig Try.f192 (Try.f192.body.getD .skip) (laws_toCpu.ann k) x := by kernel_rfl
theorem laws_toCpu.obls (k : Nat) : obl (laws_toCpu.ctx k) 1 (Try.f192.body.getD .skip) (laws_toCpu.ann k) (retK tds laws_toCpu.sig Try.f192.results.toList) := ⟨trivial, ⟨trivial, ⟨trivial, ⟨trivial, ⟨trivial, trivial⟩⟩⟩⟩⟩
theorem laws_toCpu.ok (k : Nat) : EntOk Try.prog k laws_toCpu.ent := fn_ok (C := laws_toCpu.ctx k) Try.func192 (by kernel_rfl) (by kernel_rfl) mixed tdsOk (.cons (laws_toIntS.ok k) EntsOk.nil) (by kernel_rfl) (Nat.le_of_ble_eq_true (by kernel_rfl)) (by kernel_rfl) (laws_toCpu.runs k) (laws_toCpu.obls k)
/-! loop.example/g00200/laws.toPart -/
def laws_toPart.f (k : Nat) (a0 : Int × (Int × List Int) × Int × Int × Int) : Option (Int × (Int × List Int) × Int × Int × Int) :=
  (laws_toCpu.f k a0.2.1).bind fun t1 => (some (a0.1, (t1, a0.2.2)))
def laws_toPart.sig : Sig := ⟨[.val true (.pair (.int .i64) (.pair (.pair (.int .i64) (.sl 3 (.int .i64))) (.pair (.int .i64) (.pair (.int .i64) (.int .i64))))) [0]], [.val true (.pair (.int .i64) (.pair (.pair (.int .i64) (.sl 3 (.int .i64))) (.pair (.int .i64) (.pair (.int .i64) (.int .i64))))) [none]]⟩
def laws_toPart.F (k : Nat) (x : Args laws_toPart.sig.ps) : Option (Res laws_toPart.sig) := laws_toPart.f k x.1
def laws_toPart.ann (k : Nat) : Ann (Res laws_toPart.sig) := .nil
def laws_toPart.ent : Ent := ⟨149, laws_toPart.sig, laws_toPart.F⟩
def laws_toPart.ctx (k : Nat) : Ctx := ⟨tds, [laws_toCpu.ent], k, 21⟩
theorem laws_toPart.runs (k : Nat) (x : Args laws_toPart.sig.ps) : laws_toPart.F k x = runF (laws_toPart.ctx k) laws_toPart.sig Try.f149 (Try.f149.body.getD .skip) (laws_toPart.ann k) x := by kernel_rfl
theorem laws_toPart.obls (k : Nat) : obl (laws_toPart.ctx k) 1 (Try.f149.body.getD .skip) (laws_toPart.ann k) (retK tds laws_toPart.sig Try.f149.results.toList) := ⟨trivial, ⟨trivial, ⟨trivial, ⟨trivial, ⟨trivial, ⟨trivial, ⟨trivial, ⟨trivial, trivial⟩⟩⟩⟩⟩⟩⟩⟩
theorem laws_toPart.ok (k : Nat) : EntOk Try.prog k laws_toPart.ent := fn_ok (C := laws_toPart.ctx k) Try.func149 (by kernel_rfl) (by kernel_rfl) mixed tdsOk (.cons (laws_toCpu.ok k) EntsOk.nil) (by kernel_rfl) (Nat.le_of_ble_eq_true (by kernel_rfl)) (by kernel_rfl) (laws_toPart.runs k) (laws_toPart.obls k)
/-! loop.example/g00200/laws.toPartS -/
def laws_toPartS.l1 (k : Nat)  : Nat → Int × (List (Int × (Int × List Int) × Int × Int × Int)) × (List (Int × (Int × List Int) × Int × Int × Int)) × Unit → Option (List (Int × (Int × List Int) × Int × Int × Int))
  | 0, _ => none
  | n + 1, (x1, x2, x3, _) => if x1 < (x2.length : Int) then (if 0 ≤ x1 then (if x1 < (x2.length : Int) then ((laws_toPart.f k ((el (.pair (.int .i64) (.pair (.pair (.int .i64) (.sl 3 (.int .i64))) (.pair (.int .i64) (.pair (.int .i64) (.int .i64))))) x2 x1.toNat).1, ((((el (.pair (.int .i64) (.pair (.pair (.int .i64) (.sl 3 (.int .i64))) (.pair (.int .i64) (.pair (.int .i64) (.int .i64))))) x2 x1.toNat).2).1), ((((el (.pair (.int .i64) (.pair (.pair (.int .i64) (.sl 3 (.int .i64))) (.pair (.int .i64) (.pair (.int .i64) (.int .i64))))) x2 x1.toNat).2).2).1, ((((el (.pair (.int .i64) (.pair (.pair (.int .i64) (.sl 3 (.int .i64))) (.pair (.int .i64) (.pair (.int .i64) (.int .i64))))) x2 x1.toNat).2).2).2))))).bind fun t2 => (if 0 ≤ x1 then (if x1 < (x3.length : Int) then (((some (x3.set x1.toNat (t2.1, (t2.2.1, t2.2.2))))).bind fun y3 => (laws_toPartS.l1 k n (w64 (x1 + 1), x2, y3, ()))) else none) else none)) else none) else none) else (some x3)
def laws_toPartS.f (k : Nat) (a0 : List (Int × (Int × List Int) × Int × Int × Int)) : Option (List (Int × (Int × List Int) × Int × Int × Int)) :=
  if (a0.length : Int) = (a0.length : Int) then (if 0 ≤ (a0.length : Int) then (if ((a0.length : Int)).toNat * 64 ≤ 281474976710656 then (((some (List.replicate ((a0.length : Int)).toNat (0, ((0, []), (0, (0, 0)))) : List (Int × (Int × List Int) × Int × Int × Int)))).bind fun y1 => (laws_toPartS.l1 k k (0, a0, y1, ()))) else none) else none) else none
def laws_toPartS.Sl1 : Shape := ⟨[(0, false, [.own 0]), (3, false, [.own 1]), (4, false, [.int .i64])], [(0, .view false 200 (.pair (.int .i64) (.pair (.pair (.int .i64) (.sl 3 (.int .i64))) (.pair (.int .i64) (.pair (.int .i64) (.int .i64)))))), (1, .row 59 (.pair (.int .i64) (.pair (.pair (.int .i64) (.sl 3 (.int .i64))) (.pair (.int .i64) (.pair (.int .i64) (.int .i64))))))], 2⟩
def laws_toPartS.sig : Sig := ⟨[.val false (.sl 200 (.pair (.int .i64) (.pair (.pair (.int .i64) (.sl 3 (.int .i64))) (.pair (.int .i64) (.pair (.int .i64) (.int .i64)))))) [0]], [.val false (.sl 59 (.pair (.int .i64) (.pair (.pair (.int .i64) (.sl 3 (.int .i64))) (.pair (.int .i64) (.pair (.int .i64) (.int .i64)))))) [none]]⟩
def laws_toPartS.F (k : Nat) (x : Args laws_toPartS.sig.ps) : Option (Res laws_toPartS.sig) := laws_toPartS.f k x.1
def laws_toPartS.ann (k : Nat) : Ann (Res laws_toPartS.sig) := (.seq .nil (.seq .nil (.seq (.seq .nil (.block (.loop laws_toPartS.Sl1 (laws_toPartS.l1 k) fun n1 => .nil))) .nil)))
def laws_toPartS.ent : Ent := ⟨73, laws_toPartS.sig, laws_toPartS.F⟩
def laws_toPartS.ctx (k : Nat) : Ctx := ⟨tds, [laws_toPart.ent], k, 23⟩
theorem laws_toPartS.runs (k : Nat) (x : Args laws_toPartS.sig.ps) : laws_toPartS.F k x = runF (laws_toPartS.ctx k) laws_toPartS.sig Try.f73 (Try.f73.body.getD .skip) (laws_toPartS.ann k) x := by kernel_rfl
theorem laws_toPartS.obls (k : Nat) : obl (laws_toPartS.ctx k) 1 (Try.f73.body.getD .skip) (laws_toPartS.ann k) (retK tds laws_toPartS.sig Try.f73.results.toList) := ⟨trivial, ⟨trivial, ⟨⟨trivial, ⟨⟨by kernel_rfl, fun x => by kernel_rfl⟩, fun n => ⟨fun x => by kernel_rfl, ⟨⟨trivial, ⟨trivial, trivial⟩⟩, ⟨trivial, trivial⟩⟩⟩⟩⟩, ⟨trivial, trivial⟩⟩⟩⟩
theorem laws_toPartS.ok (k : Nat) : EntOk Try.prog k laws_toPartS.ent := fn_ok (C := laws_toPartS.ctx k) Try.func73 (by kernel_rfl) (by kernel_rfl) mixed tdsOk (.cons (laws_toPart.ok k) EntsOk.nil) (by kernel_rfl) (Nat.le_of_ble_eq_true (by kernel_rfl)) (by kernel_rfl) (laws_toPartS.runs k) (laws_toPartS.obls k)
/-! loop.example/g00200/laws.toMsg -/
def laws_toMsg.f (k : Nat) (a0 : Int × Int) : Option (Int × Int) :=
  some a0
def laws_toMsg.sig : Sig := ⟨[.val true (.pair (.int .i64) (.int .i64)) []], [.val true (.pair (.int .i64) (.int .i64)) []]⟩
def laws_toMsg.F (k : Nat) (x : Args laws_toMsg.sig.ps) : Option (Res laws_toMsg.sig) := laws_toMsg.f k x.1
def laws_toMsg.ann (k : Nat) : Ann (Res laws_toMsg.sig) := .nil
def laws_toMsg.ent : Ent := ⟨198, laws_toMsg.sig, laws_toMsg.F⟩
def laws_toMsg.ctx (k : Nat) : Ctx := ⟨tds, [], k, 11⟩
theorem laws_toMsg.runs (k : Nat) (x : Args laws_toMsg.sig.ps) : laws_toMsg.F k x = runF (laws_toMsg.ctx k) laws_toMsg.sig Try.f198 (Try.f198.body.getD .skip) (laws_toMsg.ann k) x := by kernel_rfl
theorem laws_toMsg.obls (k : Nat) : obl (laws_toMsg.ctx k) 0 (Try.f198.body.getD .skip) (laws_toMsg.ann k) (retK tds laws_toMsg.sig Try.f198.results.toList) := ⟨trivial, ⟨trivial, ⟨trivial, ⟨trivial, ⟨trivial, trivial⟩⟩⟩⟩⟩
theorem laws_toMsg.ok (k : Nat) : EntOk Try.prog k laws_toMsg.ent := fn_ok (C := laws_toMsg.ctx k) Try.func198 (by kernel_rfl) (by kernel_rfl) mixed tdsOk EntsOk.nil (by kernel_rfl) (Nat.le_of_ble_eq_true (by kernel_rfl)) (by kernel_rfl) (laws_toMsg.runs k) (laws_toMsg.obls k)
/-! loop.example/g00200/laws.toMsgS -/
def laws_toMsgS.l1 (k : Nat)  : Nat → Int × (List (Int × Int)) × (List (Int × Int)) × Unit → Option (List (Int × Int))
  | 0, _ => none
  | n + 1, (x1, x2, x3, _) => if x1 < (x2.length : Int) then (if 0 ≤ x1 then (if x1 < (x2.length : Int) then ((laws_toMsg.f k (el (.pair (.int .i64) (.int .i64)) x2 x1.toNat)).bind fun t2 => (if 0 ≤ x1 then (if x1 < (x3.length : Int) then (((some (x3.set x1.toNat t2))).bind fun y3 => (laws_toMsgS.l1 k n (w64 (x1 + 1), x2, y3, ()))) else none) else none)) else none) else none) else (some x3)
def laws_toMsgS.f (k : Nat) (a0 : List (Int × Int)) : Option (List (Int × Int)) :=
  if (a0.length : Int) = (a0.length : Int) then (if 0 ≤ (a0.length : Int) then (if ((a0.length : Int)).toNat * 16 ≤ 281474976710656 then (((some (List.replicate ((a0.length : Int)).toNat (0, 0) : List (Int × Int)))).bind fun y1 => (laws_toMsgS.l1 k k (0, a0, y1, ()))) else none) else none) else none
def laws_toMsgS.Sl1 : Shape := ⟨[(0, false, [.own 0]), (3, false, [.own 1]), (4, false, [.int .i64])], [(0, .view false 243 (.pair (.int .i64) (.int .i64))), (1, .row 241 (.pair (.int .i64) (.int .i64)))], 2⟩
def laws_toMsgS.sig : Sig := ⟨[.val false (.sl 243 (.pair (.int .i64) (.int .i64))) [0]], [.val false (.sl 241 (.pair (.int .i64) (.int .i64))) [none]]⟩
def laws_toMsgS.F (k : Nat) (x : Args laws_toMsgS.sig.ps) : Option (Res laws_toMsgS.sig) := laws_toMsgS.f k x.1
def laws_toMsgS.ann (k : Nat) : Ann (Res laws_toMsgS.sig) := (.seq .nil (.seq .nil (.seq (.seq .nil (.block (.loop laws_toMsgS.Sl1 (laws_toMsgS.l1 k) fun n1 => .nil))) .nil)))
def laws_toMsgS.ent : Ent := ⟨193, laws_toMsgS.sig, laws_toMsgS.F⟩
def laws_toMsgS.ctx (k : Nat) : Ctx := ⟨tds, [laws_toMsg.ent], k, 23⟩
theorem laws_toMsgS.runs (k : Nat) (x : Args laws_toMsgS.sig.ps) : laws_toMsgS.F k x = runF (laws_toMsgS.ctx k) laws_toMsgS.sig Try.f193 (Try.f193.body.getD .skip) (laws_toMsgS.ann k) x := by kernel_rfl
theorem laws_toMsgS.obls (k : Nat) : obl (laws_toMsgS.ctx k) 1 (Try.f193.body.getD .skip) (laws_toMsgS.ann k) (retK tds laws_toMsgS.sig Try.f193.results.toList) := ⟨trivial, ⟨trivial, ⟨⟨trivial, ⟨⟨by kernel_rfl, fun x => by kernel_rfl⟩, fun n => ⟨fun x => by kernel_rfl, ⟨⟨trivial, ⟨trivial, trivial⟩⟩, ⟨trivial, trivial⟩⟩⟩⟩⟩, ⟨trivial, trivial⟩⟩⟩⟩
theorem laws_toMsgS.ok (k : Nat) : EntOk Try.prog k laws_toMsgS.ent := fn_ok (C := laws_toMsgS.ctx k) Try.func193 (by kernel_rfl) (by kernel_rfl) mixed tdsOk (.cons (laws_toMsg.ok k) EntsOk.nil) (by kernel_rfl) (Nat.le_of_ble_eq_true (by kernel_rfl)) (by kernel_rfl) (laws_toMsgS.runs k) (laws_toMsgS.obls k)
/-! loop.example/g00200/laws.toLine -/
def laws_toLine.f (k : Nat) (a0 : List (Int × Int)) : Option (List (Int × Int)) :=
  (laws_toMsgS.f k a0).bind fun t1 => (some t1)
def laws_toLine.sig : Sig := ⟨[.val true (.sl 243 (.pair (.int .i64) (.int .i64))) [0]], [.val true (.sl 241 (.pair (.int .i64) (.int .i64))) [none]]⟩
def laws_toLine.F (k : Nat) (x : Args laws_toLine.sig.ps) : Option (Res laws_toLine.sig) := laws_toLine.f k x.1
def laws_toLine.ann (k : Nat) : Ann (Res laws_toLine.sig) := .nil
def laws_toLine.ent : Ent := ⟨150, laws_toLine.sig, laws_toLine.F⟩
def laws_toLine.ctx (k : Nat) : Ctx := ⟨tds, [laws_toMsgS.ent], k, 9⟩
theorem laws_toLine.runs (k : Nat) (x : Args laws_toLine.sig.ps) : laws_toLine.F k x = runF (laws_toLine.ctx k) laws_toLine.sig Try.f150 (Try.f150.body.getD .skip) (laws_toLine.ann k) x := by kernel_rfl
theorem laws_toLine.obls (k : Nat) : obl (laws_toLine.ctx k) 1 (Try.f150.body.getD .skip) (laws_toLine.ann k) (retK tds laws_toLine.sig Try.f150.results.toList) := ⟨trivial, ⟨trivial, ⟨trivial, ⟨trivial, trivial⟩⟩⟩⟩
theorem laws_toLine.ok (k : Nat) : EntOk Try.prog k laws_toLine.ent := fn_ok (C := laws_toLine.ctx k) Try.func150 (by kernel_rfl) (by kernel_rfl) mixed tdsOk (.cons (laws_toMsgS.ok k) EntsOk.nil) (by kernel_rfl) (Nat.le_of_ble_eq_true (by kernel_rfl)) (by kernel_rfl) (laws_toLine.runs k) (laws_toLine.obls k)
/-! loop.example/g00200/laws.toLineS -/
def laws_toLineS.l1 (k : Nat)  : Nat → Int × (List (List (Int × Int))) × (List (List (Int × Int))) × Unit → Option (List (List (Int × Int)))
  | 0, _ => none
  | n + 1, (x1, x2, x3, _) => if x1 < (x2.length : Int) then (if 0 ≤ x1 then (if x1 < (x2.length : Int) then ((laws_toLine.f k (el (.sl 243 (.pair (.int .i64) (.int .i64))) x2 x1.toNat)).bind fun t2 => (if 0 ≤ x1 then (if x1 < (x3.length : Int) then (((some (x3.set x1.toNat t2))).bind fun y3 => (laws_toLineS.l1 k n (w64 (x1 + 1), x2, y3, ()))) else none) else none)) else none) else none) else (some x3)
def laws_toLineS.f (k : Nat) (a0 : List (List (Int × Int))) : Option (List (List (Int × Int))) :=
  if (a0.length : Int) = (a0.length : Int) then (if 0 ≤ (a0.length : Int) then (if ((a0.length : Int)).toNat * 24 ≤ 281474976710656 then (((some (List.replicate ((a0.length : Int)).toNat [] : List (List (Int × Int))))).bind fun y1 => (laws_toLineS.l1 k k (0, a0, y1, ()))) else none) else none) else none
def laws_toLineS.Sl1 : Shape := ⟨[(0, false, [.own 0]), (3, false, [.own 1]), (4, false, [.int .i64])], [(0, .view false 204 (.sl 243 (.pair (.int .i64) (.int .i64)))), (1, .row 145 (.sl 241 (.pair (.int .i64) (.int .i64))))], 2⟩
def laws_toLineS.sig : Sig := ⟨[.val false (.sl 204 (.sl 243 (.pair (.int .i64) (.int .i64)))) [0]], [.val false (.sl 145 (.sl 241 (.pair (.int .i64) (.int .i64)))) [none]]⟩
def laws_toLineS.F (k : Nat) (x : Args laws_toLineS.sig.ps) : Option (Res laws_toLineS.sig) := laws_toLineS.f k x.1
def laws_toLineS.ann (k : Nat) : Ann (Res laws_toLineS.sig) := (.seq .nil (.seq .nil (.seq (.seq .nil (.block (.loop laws_toLineS.Sl1 (laws_toLineS.l1 k) fun n1 => .nil))) .nil)))
def laws_toLineS.ent : Ent := ⟨74, laws_toLineS.sig, laws_toLineS.F⟩
def laws_toLineS.ctx (k : Nat) : Ctx := ⟨tds, [laws_toLine.ent], k, 23⟩
theorem laws_toLineS.runs (k : Nat) (x : Args laws_toLineS.sig.ps) : laws_toLineS.F k x = runF (laws_toLineS.ctx k) laws_toLineS.sig Try.f74 (Try.f74.body.getD .skip) (laws_toLineS.ann k) x := by kernel_rfl
theorem laws_toLineS.obls (k : Nat) : obl (laws_toLineS.ctx k) 1 (Try.f74.body.getD .skip) (laws_toLineS.ann k) (retK tds laws_toLineS.sig Try.f74.results.toList) := ⟨trivial, ⟨trivial, ⟨⟨trivial, ⟨⟨by kernel_rfl, fun x => by kernel_rfl⟩, fun n => ⟨fun x => by kernel_rfl, ⟨⟨trivial, ⟨trivial, trivial⟩⟩, ⟨trivial, trivial⟩⟩⟩⟩⟩, ⟨trivial, trivial⟩⟩⟩⟩
theorem laws_toLineS.ok (k : Nat) : EntOk Try.prog k laws_toLineS.ent := fn_ok (C := laws_toLineS.ctx k) Try.func74 (by kernel_rfl) (by kernel_rfl) mixed tdsOk (.cons (laws_toLine.ok k) EntsOk.nil) (by kernel_rfl) (Nat.le_of_ble_eq_true (by kernel_rfl)) (by kernel_rfl) (laws_toLineS.runs k) (laws_toLineS.obls k)
/-! loop.example/g00200/laws.toEntry -/
def laws_toEntry.f (k : Nat) (a0 : Int × Int × Int × Int × Int) : Option (Int × Int × Int × Int × Int) :=
  some a0
def laws_toEntry.sig : Sig := ⟨[.val true (.pair (.int .i64) (.pair (.int .i64) (.pair (.int .i64) (.pair (.int .i64) (.int .i64))))) []], [.val true (.pair (.int .i64) (.pair (.int .i64) (.pair (.int .i64) (.pair (.int .i64) (.int .i64))))) []]⟩
def laws_toEntry.F (k : Nat) (x : Args laws_toEntry.sig.ps) : Option (Res laws_toEntry.sig) := laws_toEntry.f k x.1
def laws_toEntry.ann (k : Nat) : Ann (Res laws_toEntry.sig) := .nil
def laws_toEntry.ent : Ent := ⟨151, laws_toEntry.sig, laws_toEntry.F⟩
def laws_toEntry.ctx (k : Nat) : Ctx := ⟨tds, [], k, 20⟩
theorem laws_toEntry.runs (k : Nat) (x : Args laws_toEntry.sig.ps) : laws_toEntry.F k x = runF (laws_toEntry.ctx k) laws_toEntry.sig Try.f151 (Try.f151.body.getD .skip) (laws_toEntry.ann k) x := by kernel_rfl
theorem laws_toEntry.obls (k : Nat) : obl (laws_toEntry.ctx k) 0 (Try.f151.body.getD .skip) (laws_toEntry.ann k) (retK tds laws_toEntry.sig Try.f151.results.toList) := ⟨trivial, ⟨trivial, ⟨trivial, ⟨trivial, ⟨trivial, ⟨trivial, ⟨trivial, ⟨trivial, trivial⟩⟩⟩⟩⟩⟩⟩⟩
theorem laws_toEntry.ok (k : Nat) : EntOk Try.prog k laws_toEntry.ent := fn_ok (C := laws_toEntry.ctx k) Try.func151 (by kernel_rfl) (by kernel_rfl) mixed tdsOk EntsOk.nil (by kernel_rfl) (Nat.le_of_ble_eq_true (by kernel_rfl)) (by kernel_rfl) (laws_toEntry.runs k) (laws_toEntry.obls k)
/-! loop.example/g00200/laws.toEntryS -/
def laws_toEntryS.l1 (k : Nat)  : Nat → Int × (List (Int × Int × Int × Int × Int)) × (List (Int × Int × Int × Int × Int)) × Unit → Option (List (Int × Int × Int × Int × Int))
  | 0, _ => none
  | n + 1, (x1, x2, x3, _) => if x1 < (x2.length : Int) then (if 0 ≤ x1 then (if x1 < (x2.length : Int) then ((laws_toEntry.f k ((el (.pair (.int .i64) (.pair (.int .i64) (.pair (.int .i64) (.pair (.int .i64) (.int .i64))))) x2 x1.toNat).1, (((el (.pair (.int .i64) (.pair (.int .i64) (.pair (.int .i64) (.pair (.int .i64) (.int .i64))))) x2 x1.toNat).2).1, ((((el (.pair (.int .i64) (.pair (.int .i64) (.pair (.int .i64) (.pair (.int .i64) (.int .i64))))) x2 x1.toNat).2).2).1, ((((el (.pair (.int .i64) (.pair (.int .i64) (.pair (.int .i64) (.pair (.int .i64) (.int .i64))))) x2 x1.toNat).2).2).2))))).bind fun t2 => (if 0 ≤ x1 then (if x1 < (x3.length : Int) then (((some (x3.set x1.toNat t2))).bind fun y3 => (laws_toEntryS.l1 k n (w64 (x1 + 1), x2, y3, ()))) else none) else none)) else none) else none) else (some x3)
def laws_toEntryS.f (k : Nat) (a0 : List (Int × Int × Int × Int × Int)) : Option (List (Int × Int × Int × Int × Int)) :=
  if (a0.length : Int) = (a0.length : Int) then (if 0 ≤ (a0.length : Int) then (if ((a0.length : Int)).toNat * 40 ≤ 281474976710656 then (((some (List.replicate ((a0.length : Int)).toNat (0, (0, (0, (0, 0)))) : List (Int × Int × Int × Int × Int)))).bind fun y1 => (laws_toEntryS.l1 k k (0, a0, y1, ()))) else none) else none) else none
def laws_toEntryS.Sl1 : Shape := ⟨[(0, false, [.own 0]), (3, false, [.own 1]), (4, false, [.int .i64])], [(0, .view false 208 (.pair (.int .i64) (.pair (.int .i64) (.pair (.int .i64) (.pair (.int .i64) (.int .i64)))))), (1, .row 70 (.pair (.int .i64) (.pair (.int .i64) (.pair (.int .i64) (.pair (.int .i64) (.int .i64))))))], 2⟩
def laws_toEntryS.sig : Sig := ⟨[.val false (.sl 208 (.pair (.int .i64) (.pair (.int .i64) (.pair (.int .i64) (.pair (.int .i64) (.int .i64)))))) [0]], [.val false (.sl 70 (.pair (.int .i64) (.pair (.int .i64) (.pair (.int .i64) (.pair (.int .i64) (.int .i64)))))) [none]]⟩
def laws_toEntryS.F (k : Nat) (x : Args laws_toEntryS.sig.ps) : Option (Res laws_toEntryS.sig) := laws_toEntryS.f k x.1
def laws_toEntryS.ann (k : Nat) : Ann (Res laws_toEntryS.sig) := (.seq .nil (.seq .nil (.seq (.seq .nil (.block (.loop laws_toEntryS.Sl1 (laws_toEntryS.l1 k) fun n1 => .nil))) .nil)))
def laws_toEntryS.ent : Ent := ⟨76, laws_toEntryS.sig, laws_toEntryS.F⟩
def laws_toEntryS.ctx (k : Nat) : Ctx := ⟨tds, [laws_toEntry.ent], k, 23⟩
theorem laws_toEntryS.runs (k : Nat) (x : Args laws_toEntryS.sig.ps) : laws_toEntryS.F k x = runF (laws_toEntryS.ctx k) laws_toEntryS.sig Try.f76 (Try.f76.body.getD .skip) (laws_toEntryS.ann k) x := by kernel_rfl
theorem laws_toEntryS.obls (k : Nat) : obl (laws_toEntryS.ctx k) 1 (Try.f76.body.getD .skip) (laws_toEntryS.ann k) (retK tds laws_toEntryS.sig Try.f76.results.toList) := ⟨trivial, ⟨trivial, ⟨⟨trivial, ⟨⟨by kernel_rfl, fun x => by kernel_rfl⟩, fun n => ⟨fun x => by kernel_rfl, ⟨⟨trivial, ⟨trivial, trivial⟩⟩, ⟨trivial, trivial⟩⟩⟩⟩⟩, ⟨trivial, trivial⟩⟩⟩⟩
theorem laws_toEntryS.ok (k : Nat) : EntOk Try.prog k laws_toEntryS.ent := fn_ok (C := laws_toEntryS.ctx k) Try.func76 (by kernel_rfl) (by kernel_rfl) mixed tdsOk (.cons (laws_toEntry.ok k) EntsOk.nil) (by kernel_rfl) (Nat.le_of_ble_eq_true (by kernel_rfl)) (by kernel_rfl) (laws_toEntryS.runs k) (laws_toEntryS.obls k)
/-! loop.example/g00200/laws.toKernel -/
def laws_toKernel.f (k : Nat) (a0 : (List (Int × Int) × List (Int × Int) × List (Int × Int × Int × Int × Int) × List (Int × Int × Int) × List ByteArray) × List Int × List (Int × (Int × List Int) × Int × Int × Int) × List (List (Int × Int)) × List Int × Int × Bool × List (Int × Int × Int × Int × Int)) : Option ((List (Int × Int) × List (Int × Int) × List (Int × Int × Int × Int × Int) × List (Int × Int × Int) × List ByteArray) × List Int × List (Int × (Int × List Int) × Int × Int × Int) × List (List (Int × Int)) × List Int × Int × Bool × List (Int × Int × Int × Int × Int)) :=
  (laws_toSetup.f k a0.1).bind fun t1 => ((laws_toArena.f k a0.2.1).bind fun t2 => ((laws_toPartS.f k a0.2.2.1).bind fun t3 => ((laws_toLineS.f k a0.2.2.2.1).bind fun t4 => ((laws_toIntS.f k a0.2.2.2.2.1).bind fun t5 => ((laws_toEntryS.f k a0.2.2.2.2.2.2.2).bind fun t6 => (some (t1, (t2, (t3, (t4, (t5, (a0.2.2.2.2.2.1, (a0.2.2.2.2.2.2.1, t6)))))))))))))
def laws_toKernel.sig : Sig := ⟨[.val true (.pair (.pair (.sl 214 (.pair (.int .i64) (.int .i64))) (.pair (.sl 216 (.pair (.int .i64) (.int .i64))) (.pair (.sl 218 (.pair (.int .i64) (.pair (.int .i64) (.pair (.int .i64) (.pair (.int .i64) (.int .i64)))))) (.pair (.sl 220 (.pair (.int .i64) (.pair (.int .i64) (.int .i64)))) (.sl 9 .str))))) (.pair (.sl 3 (.int .i64)) (.pair (.sl 200 (.pair (.int .i64) (.pair (.pair (.int .i64) (.sl 3 (.int .i64))) (.pair (.int .i64) (.pair (.int .i64) (.int .i64)))))) (.pair (.sl 204 (.sl 243 (.pair (.int .i64) (.int .i64)))) (.pair (.sl 3 (.int .i64)) (.pair (.int .i64) (.pair .bool (.sl 208 (.pair (.int .i64) (.pair (.int .i64) (.pair (.int .i64) (.pair (.int .i64) (.int .i64))))))))))))) [0, 0, 0, 0, 0, 0, 0, 0, 0, 0]], [.val true (.pair (.pair (.sl 31 (.pair (.int .i64) (.int .i64))) (.pair (.sl 34 (.pair (.int .i64) (.int .i64))) (.pair (.sl 63 (.pair (.int .i64) (.pair (.int .i64) (.pair (.int .i64) (.pair (.int .i64) (.int .i64)))))) (.pair (.sl 39 (.pair (.int .i64) (.pair (.int .i64) (.int .i64)))) (.sl 9 .str))))) (.pair (.sl 3 (.int .i64)) (.pair (.sl 59 (.pair (.int .i64) (.pair (.pair (.int .i64) (.sl 3 (.int .i64))) (.pair (.int .i64) (.pair (.int .i64) (.int .i64)))))) (.pair (.sl 145 (.sl 241 (.pair (.int .i64) (.int .i64)))) (.pair (.sl 3 (.int .i64)) (.pair (.int .i64) (.pair .bool (.sl 70 (.pair (.int .i64) (.pair (.int .i64) (.pair (.int .i64) (.pair (.int .i64) (.int .i64))))))))))))) [none, none, none, none, none, none, none, none, none, none]]⟩
def laws_toKernel.F (k : Nat) (x : Args laws_toKernel.sig.ps) : Option (Res laws_toKernel.sig) := laws_toKernel.f k x.1
def laws_toKernel.ann (k : Nat) : Ann (Res laws_toKernel.sig) := .nil
def laws_toKernel.ent : Ent := ⟨26, laws_toKernel.sig, laws_toKernel.F⟩
def laws_toKernel.ctx (k : Nat) : Ctx := ⟨tds, [laws_toSetup.ent, laws_toArena.ent, laws_toPartS.ent, laws_toLineS.ent, laws_toIntS.ent, laws_toEntryS.ent], k, 35⟩
theorem laws_toKernel.runs (k : Nat) (x : Args laws_toKernel.sig.ps) : laws_toKernel.F k x = runF (laws_toKernel.ctx k) laws_toKernel.sig Try.f26 (Try.f26.body.getD .skip) (laws_toKernel.ann k) x := by kernel_rfl
theorem laws_toKernel.obls (k : Nat) : obl (laws_toKernel.ctx k) 10 (Try.f26.body.getD .skip) (laws_toKernel.ann k) (retK tds laws_toKernel.sig Try.f26.results.toList) := ⟨trivial, ⟨trivial, ⟨trivial, ⟨trivial, ⟨trivial, ⟨trivial, ⟨trivial, ⟨trivial, ⟨trivial, ⟨trivial, ⟨trivial, trivial⟩⟩⟩⟩⟩⟩⟩⟩⟩⟩⟩
theorem laws_toKernel.ok (k : Nat) : EntOk Try.prog k laws_toKernel.ent := fn_ok (C := laws_toKernel.ctx k) Try.func26 (by kernel_rfl) (by kernel_rfl) mixed tdsOk (.cons (laws_toSetup.ok k) (.cons (laws_toArena.ok k) (.cons (laws_toPartS.ok k) (.cons (laws_toLineS.ok k) (.cons (laws_toIntS.ok k) (.cons (laws_toEntryS.ok k) EntsOk.nil)))))) (by kernel_rfl) (Nat.le_of_ble_eq_true (by kernel_rfl)) (by kernel_rfl) (laws_toKernel.runs k) (laws_toKernel.obls k)
/-! loop.example/g00200/spec.l01In -/
def spec_l01In.f (k : Nat) (a0 : Int) (a1 : Int) (a2 : Int) : Option (Bool) :=
  if a1 ≤ a0 then (some (decide (a0 ≤ a2))) else (some false)
def spec_l01In.sig : Sig := ⟨[.val false (.int .i64) [], .val false (.int .i64) [], .val false (.int .i64) []], [.val false .bool []]⟩
def spec_l01In.F (k : Nat) (x : Args spec_l01In.sig.ps) : Option (Res spec_l01In.sig) := spec_l01In.f k x.1 x.2.1 x.2.2.1
def spec_l01In.ann (k : Nat) : Ann (Res spec_l01In.sig) := .nil
def spec_l01In.ent : Ent := ⟨69, spec_l01In.sig, spec_l01In.F⟩
def spec_l01In.ctx (k : Nat) : Ctx := ⟨tds, [], k, 15⟩
theorem spec_l01In.runs (k : Nat) (x : Args spec_l01In.sig.ps) : spec_l01In.F k x = runF (spec_l01In.ctx k) spec_l01In.sig Try.f69 (Try.f69.body.getD .skip) (spec_l01In.ann k) x := by kernel_rfl
theorem spec_l01In.obls (k : Nat) : obl (spec_l01In.ctx k) 0 (Try.f69.body.getD .skip) (spec_l01In.ann k) (retK tds spec_l01In.sig Try.f69.results.toList) := ⟨trivial, ⟨trivial, trivial⟩⟩
theorem spec_l01In.ok (k : Nat) : EntOk Try.prog k spec_l01In.ent := fn_ok (C := spec_l01In.ctx k) Try.func69 (by kernel_rfl) (by kernel_rfl) mixed tdsOk EntsOk.nil (by kernel_rfl) (Nat.le_of_ble_eq_true (by kernel_rfl)) (by kernel_rfl) (spec_l01In.runs k) (spec_l01In.obls k)
/-! loop.example/g00200/spec.RegionsOk -/
def spec_RegionsOk.l2 (k : Nat) (c0 : Int × (List (Int × Int)) × Unit → Option (Bool)) : Nat → Int × Int × Int × Int × (List (Int × Int)) × Unit → Option (Bool)
  | 0, _ => none
  | n + 1, (x1, x2, x3, x4, x5, _) => if x2 < x1 then (if 0 ≤ x2 then (if x2 < (x5.length : Int) then (if 0 ≤ x2 then (if x2 < (x5.length : Int) then (if x3 < (w64 (((el (.pair (.int .i64) (.int .i64)) x5 x2.toNat).1) + ((el (.pair (.int .i64) (.int .i64)) x5 x2.toNat).2))) then (if 0 ≤ x2 then (if x2 < (x5.length : Int) then (if ((el (.pair (.int .i64) (.int .i64)) x5 x2.toNat).1) < (w64 (x3 + x4)) then (some false) else (spec_RegionsOk.l2 k c0 n (x1, w64 (x2 + 1), x3, x4, x5, ()))) else none) else none) else (spec_RegionsOk.l2 k c0 n (x1, w64 (x2 + 1), x3, x4, x5, ()))) else none) else none) else none) else none) else (c0 (w64 (x1 + 1), x5, ()))
def spec_RegionsOk.l1 (k : Nat)  : Nat → Int × (List (Int × Int)) × Unit → Option (Bool)
  | 0, _ => none
  | n + 1, (x1, x2, _) => if x1 < (x2.length : Int) then (if 0 ≤ x1 then (if x1 < (x2.length : Int) then ((spec_l01In.f k ((el (.pair (.int .i64) (.int .i64)) x2 x1.toNat).1) 0 63).bind fun t1 => (if ¬ t1 = true then (some false) else ((spec_l01In.f k ((el (.pair (.int .i64) (.int .i64)) x2 x1.toNat).2) 1 (w64 (64 - ((el (.pair (.int .i64) (.int .i64)) x2 x1.toNat).1)))).bind fun t2 => (if ¬ t2 = true then (some false) else (spec_RegionsOk.l2 k (spec_RegionsOk.l1 k n) k (x1, 0, (el (.pair (.int .i64) (.int .i64)) x2 x1.toNat).1, (el (.pair (.int .i64) (.int .i64)) x2 x1.toNat).2, x2, ())))))) else none) else none) else ((spec_l01In.f k (x2.length : Int) 1 4).bind fun t3 => (some t3))
def spec_RegionsOk.f (k : Nat) (a0 : List (Int × Int)) : Option (Bool) :=
  spec_RegionsOk.l1 k k (0, a0, ())
def spec_RegionsOk.Sl1 : Shape := ⟨[(0, false, [.own 0]), (3, false, [.int .i64])], [(0, .view false 31 (.pair (.int .i64) (.int .i64)))], 1⟩
def spec_RegionsOk.Sl2 : Shape := ⟨[(0, false, [.own 0]), (3, false, [.int .i64]), (4, false, [.ptr 1 0]), (5, false, [.int .i64])], [(1, .blk 31 [.int .i64, .int .i64]), (0, .view false 31 (.pair (.int .i64) (.int .i64)))], 2⟩
def spec_RegionsOk.sig : Sig := ⟨[.val false (.sl 31 (.pair (.int .i64) (.int .i64))) [0]], [.val false .bool []]⟩
def spec_RegionsOk.F (k : Nat) (x : Args spec_RegionsOk.sig.ps) : Option (Res spec_RegionsOk.sig) := spec_RegionsOk.f k x.1
def spec_RegionsOk.ann (k : Nat) : Ann (Res spec_RegionsOk.sig) := (.seq .nil (.seq (.seq .nil (.block (.loop spec_RegionsOk.Sl1 (spec_RegionsOk.l1 k) fun n1 => (.seq .nil (.seq (.block (.seq .nil (.seq .nil (.seq .nil (.block (.loop spec_RegionsOk.Sl2 (spec_RegionsOk.l2 k (spec_RegionsOk.l1 k n1)) fun n2 => .nil)))))) .nil))))) .nil))
def spec_RegionsOk.ent : Ent := ⟨155, spec_RegionsOk.sig, spec_RegionsOk.F⟩
def spec_RegionsOk.ctx (k : Nat) : Ctx := ⟨tds, [spec_l01In.ent], k, 64⟩
theorem spec_RegionsOk.runs (k : Nat) (x : Args spec_RegionsOk.sig.ps) : spec_RegionsOk.F k x = runF (spec_RegionsOk.ctx k) spec_RegionsOk.sig Try.f155 (Try.f155.body.getD .skip) (spec_RegionsOk.ann k) x := by kernel_rfl
theorem spec_RegionsOk.obls (k : Nat) : obl (spec_RegionsOk.ctx k) 1 (Try.f155.body.getD .skip) (spec_RegionsOk.ann k) (retK tds spec_RegionsOk.sig Try.f155.results.toList) := ⟨trivial, ⟨⟨trivial, ⟨⟨by kernel_rfl, fun x => by kernel_rfl⟩, fun n => ⟨fun x => by kernel_rfl, ⟨⟨trivial, ⟨trivial, trivial⟩⟩, ⟨⟨trivial, ⟨⟨trivial, ⟨⟨trivial, trivial⟩, trivial⟩⟩, ⟨trivial, ⟨⟨by kernel_rfl, fun x => by kernel_rfl⟩, fun n => ⟨fun x => by kernel_rfl, ⟨⟨trivial, ⟨trivial, trivial⟩⟩, ⟨⟨trivial, ⟨⟨trivial, trivial⟩, trivial⟩⟩, trivial⟩⟩⟩⟩⟩⟩⟩, trivial⟩⟩⟩⟩⟩, ⟨trivial, trivial⟩⟩⟩
theorem spec_RegionsOk.ok (k : Nat) : EntOk Try.prog k spec_RegionsOk.ent := fn_ok (C := spec_RegionsOk.ctx k) Try.func155 (by kernel_rfl) (by kernel_rfl) mixed tdsOk (.cons (spec_l01In.ok k) EntsOk.nil) (by kernel_rfl) (Nat.le_of_ble_eq_true (by kernel_rfl)) (by kernel_rfl) (spec_RegionsOk.runs k) (spec_RegionsOk.obls k)
/-! loop.example/g00200/spec.PlanOk -/
def spec_PlanOk.l1 (k : Nat)  : Nat → Int × (List (Int × Int)) × Unit → Option (Bool)
  | 0, _ => none
  | n + 1, (x1, x2, _) => if x1 < (x2.length : Int) then (if 0 ≤ x1 then (if x1 < (x2.length : Int) then ((spec_l01In.f k ((el (.pair (.int .i64) (.int .i64)) x2 x1.toNat).1) 1 4).bind fun t1 => (if ¬ t1 = true then (some false) else (if 0 ≤ x1 then (if x1 < (x2.length : Int) then ((spec_l01In.f k ((el (.pair (.int .i64) (.int .i64)) x2 x1.toNat).2) 1 200).bind fun t2 => (if ¬ t2 = true then (some false) else (spec_PlanOk.l1 k n (w64 (x1 + 1), x2, ())))) else none) else none))) else none) else none) else ((spec_l01In.f k (x2.length : Int) 1 12).bind fun t3 => (some t3))
def spec_PlanOk.f (k : Nat) (a0 : List (Int × Int)) : Option (Bool) :=
  spec_PlanOk.l1 k k (0, a0, ())
def spec_PlanOk.Sl1 : Shape := ⟨[(0, false, [.own 0]), (3, false, [.int .i64])], [(0, .view false 34 (.pair (.int .i64) (.int .i64)))], 1⟩
def spec_PlanOk.sig : Sig := ⟨[.val false (.sl 34 (.pair (.int .i64) (.int .i64))) [0]], [.val false .bool []]⟩
def spec_PlanOk.F (k : Nat) (x : Args spec_PlanOk.sig.ps) : Option (Res spec_PlanOk.sig) := spec_PlanOk.f k x.1
def spec_PlanOk.ann (k : Nat) : Ann (Res spec_PlanOk.sig) := (.seq .nil (.seq (.seq .nil (.block (.loop spec_PlanOk.Sl1 (spec_PlanOk.l1 k) fun n1 => .nil))) .nil))
def spec_PlanOk.ent : Ent := ⟨156, spec_PlanOk.sig, spec_PlanOk.F⟩
def spec_PlanOk.ctx (k : Nat) : Ctx := ⟨tds, [spec_l01In.ent], k, 29⟩
theorem spec_PlanOk.runs (k : Nat) (x : Args spec_PlanOk.sig.ps) : spec_PlanOk.F k x = runF (spec_PlanOk.ctx k) spec_PlanOk.sig Try.f156 (Try.f156.body.getD .skip) (spec_PlanOk.ann k) x := by kernel_rfl
theorem spec_PlanOk.obls (k : Nat) : obl (spec_PlanOk.ctx k) 1 (Try.f156.body.getD .skip) (spec_PlanOk.ann k) (retK tds spec_PlanOk.sig Try.f156.results.toList) := ⟨trivial, ⟨⟨trivial, ⟨⟨by kernel_rfl, fun x => by kernel_rfl⟩, fun n => ⟨fun x => by kernel_rfl, ⟨⟨trivial, ⟨trivial, trivial⟩⟩, ⟨⟨trivial, ⟨⟨trivial, trivial⟩, trivial⟩⟩, trivial⟩⟩⟩⟩⟩, ⟨trivial, trivial⟩⟩⟩
theorem spec_PlanOk.ok (k : Nat) : EntOk Try.prog k spec_PlanOk.ent := fn_ok (C := spec_PlanOk.ctx k) Try.func156 (by kernel_rfl) (by kernel_rfl) mixed tdsOk (.cons (spec_l01In.ok k) EntsOk.nil) (by kernel_rfl) (Nat.le_of_ble_eq_true (by kernel_rfl)) (by kernel_rfl) (spec_PlanOk.runs k) (spec_PlanOk.obls k)
/-! loop.example/g00200/spec.PortOk -/
def spec_PortOk.f (k : Nat) (a0 : Int × Int × Int × Int × Int) : Option (Bool) :=
  (spec_l01In.f k a0.2.1 1 4).bind fun t1 => (if ¬ t1 = true then (some false) else ((spec_l01In.f k a0.2.2.1 1 4).bind fun t2 => (if ¬ t2 = true then (some false) else (if a0.2.1 = a0.2.2.1 then (some false) else (if a0.1 = 1 then ((spec_l01In.f k a0.2.2.2.1 1 6).bind fun t3 => (if t3 = true then (some (decide (a0.2.2.2.2 = 0))) else (some false))) else (if a0.1 = 2 then (if a0.2.2.2.1 = 1 then ((spec_l01In.f k a0.2.2.2.2 1 100).bind fun t4 => (some t4)) else (some false)) else (some false)))))))
def spec_PortOk.sig : Sig := ⟨[.val true (.pair (.int .i64) (.pair (.int .i64) (.pair (.int .i64) (.pair (.int .i64) (.int .i64))))) []], [.val false .bool []]⟩
def spec_PortOk.F (k : Nat) (x : Args spec_PortOk.sig.ps) : Option (Res spec_PortOk.sig) := spec_PortOk.f k x.1
def spec_PortOk.ann (k : Nat) : Ann (Res spec_PortOk.sig) := .nil
def spec_PortOk.ent : Ent := ⟨157, spec_PortOk.sig, spec_PortOk.F⟩
def spec_PortOk.ctx (k : Nat) : Ctx := ⟨tds, [spec_l01In.ent], k, 44⟩
theorem spec_PortOk.runs (k : Nat) (x : Args spec_PortOk.sig.ps) : spec_PortOk.F k x = runF (spec_PortOk.ctx k) spec_PortOk.sig Try.f157 (Try.f157.body.getD .skip) (spec_PortOk.ann k) x := by kernel_rfl
theorem spec_PortOk.obls (k : Nat) : obl (spec_PortOk.ctx k) 0 (Try.f157.body.getD .skip) (spec_PortOk.ann k) (retK tds spec_PortOk.sig Try.f157.results.toList) := ⟨trivial, ⟨⟨trivial, ⟨⟨trivial, trivial⟩, trivial⟩⟩, ⟨⟨trivial, ⟨⟨trivial, trivial⟩, trivial⟩⟩, ⟨trivial, trivial⟩⟩⟩⟩
theorem spec_PortOk.ok (k : Nat) : EntOk Try.prog k spec_PortOk.ent := fn_ok (C := spec_PortOk.ctx k) Try.func157 (by kernel_rfl) (by kernel_rfl) mixed tdsOk (.cons (spec_l01In.ok k) EntsOk.nil) (by kernel_rfl) (Nat.le_of_ble_eq_true (by kernel_rfl)) (by kernel_rfl) (spec_PortOk.runs k) (spec_PortOk.obls k)
/-! loop.example/g00200/spec.RulesOk -/
def spec_RulesOk.l2 (k : Nat) (c0 : Int × (List (Int × Int × Int)) × Unit → Option (Bool)) : Nat → Int × Int × Int × Int × Int × (List (Int × Int × Int)) × Unit → Option (Bool)
  | 0, _ => none
  | n + 1, (x1, x2, x3, x4, x5, x6, _) => if x2 < x1 then (if 0 ≤ x2 then (if x2 < (x6.length : Int) then (if ((el (.pair (.int .i64) (.pair (.int .i64) (.int .i64))) x6 x2.toNat).1) = x3 then (if 0 ≤ x2 then (if x2 < (x6.length : Int) then (if (((el (.pair (.int .i64) (.pair (.int .i64) (.int .i64))) x6 x2.toNat).2).1) = x4 then (some false) else (spec_RulesOk.l2 k c0 n (x1, w64 (x2 + 1), x3, x4, x5, x6, ()))) else none) else none) else (spec_RulesOk.l2 k c0 n (x1, w64 (x2 + 1), x3, x4, x5, x6, ()))) else none) else none) else (c0 (w64 (x1 + 1), x6, ()))
def spec_RulesOk.l1 (k : Nat)  : Nat → Int × (List (Int × Int × Int)) × Unit → Option (Bool)
  | 0, _ => none
  | n + 1, (x1, x2, _) => if x1 < (x2.length : Int) then (if 0 ≤ x1 then (if x1 < (x2.length : Int) then ((spec_l01In.f k ((el (.pair (.int .i64) (.pair (.int .i64) (.int .i64))) x2 x1.toNat).1) 1 4).bind fun t1 => (if ¬ t1 = true then (some false) else ((spec_l01In.f k (((el (.pair (.int .i64) (.pair (.int .i64) (.int .i64))) x2 x1.toNat).2).1) 1 2).bind fun t2 => (if ¬ t2 = true then (some false) else ((spec_l01In.f k (((el (.pair (.int .i64) (.pair (.int .i64) (.int .i64))) x2 x1.toNat).2).2) 0 4).bind fun t3 => (if ¬ t3 = true then (some false) else (if (((el (.pair (.int .i64) (.pair (.int .i64) (.int .i64))) x2 x1.toNat).2).1) = 1 then (if (((el (.pair (.int .i64) (.pair (.int .i64) (.int .i64))) x2 x1.toNat).2).2) = 0 then (some false) else (spec_RulesOk.l2 k (spec_RulesOk.l1 k n) k (x1, 0, (el (.pair (.int .i64) (.pair (.int .i64) (.int .i64))) x2 x1.toNat).1, ((el (.pair (.int .i64) (.pair (.int .i64) (.int .i64))) x2 x1.toNat).2).1, ((el (.pair (.int .i64) (.pair (.int .i64) (.int .i64))) x2 x1.toNat).2).2, x2, ()))) else (spec_RulesOk.l2 k (spec_RulesOk.l1 k n) k (x1, 0, (el (.pair (.int .i64) (.pair (.int .i64) (.int .i64))) x2 x1.toNat).1, ((el (.pair (.int .i64) (.pair (.int .i64) (.int .i64))) x2 x1.toNat).2).1, ((el (.pair (.int .i64) (.pair (.int .i64) (.int .i64))) x2 x1.toNat).2).2, x2, ()))))))))) else none) else none) else (some (decide ((x2.length : Int) ≤ 8)))
def spec_RulesOk.f (k : Nat) (a0 : List (Int × Int × Int)) : Option (Bool) :=
  spec_RulesOk.l1 k k (0, a0, ())
def spec_RulesOk.Sl1 : Shape := ⟨[(0, false, [.own 0]), (3, false, [.int .i64])], [(0, .view false 39 (.pair (.int .i64) (.pair (.int .i64) (.int .i64))))], 1⟩
def spec_RulesOk.Sl2 : Shape := ⟨[(0, false, [.own 0]), (3, false, [.int .i64]), (4, false, [.ptr 1 0]), (5, false, [.int .i64])], [(1, .blk 39 [.int .i64, .int .i64, .int .i64]), (0, .view false 39 (.pair (.int .i64) (.pair (.int .i64) (.int .i64))))], 2⟩
def spec_RulesOk.sig : Sig := ⟨[.val false (.sl 39 (.pair (.int .i64) (.pair (.int .i64) (.int .i64)))) [0]], [.val false .bool []]⟩
def spec_RulesOk.F (k : Nat) (x : Args spec_RulesOk.sig.ps) : Option (Res spec_RulesOk.sig) := spec_RulesOk.f k x.1
def spec_RulesOk.ann (k : Nat) : Ann (Res spec_RulesOk.sig) := (.seq .nil (.seq (.seq .nil (.block (.loop spec_RulesOk.Sl1 (spec_RulesOk.l1 k) fun n1 => (.seq .nil (.seq (.block (.seq .nil (.seq .nil (.seq .nil (.block (.loop spec_RulesOk.Sl2 (spec_RulesOk.l2 k (spec_RulesOk.l1 k n1)) fun n2 => .nil)))))) .nil))))) .nil))
def spec_RulesOk.ent : Ent := ⟨158, spec_RulesOk.sig, spec_RulesOk.F⟩
def spec_RulesOk.ctx (k : Nat) : Ctx := ⟨tds, [spec_l01In.ent], k, 68⟩
theorem spec_RulesOk.runs (k : Nat) (x : Args spec_RulesOk.sig.ps) : spec_RulesOk.F k x = runF (spec_RulesOk.ctx k) spec_RulesOk.sig Try.f158 (Try.f158.body.getD .skip) (spec_RulesOk.ann k) x := by kernel_rfl
theorem spec_RulesOk.obls (k : Nat) : obl (spec_RulesOk.ctx k) 1 (Try.f158.body.getD .skip) (spec_RulesOk.ann k) (retK tds spec_RulesOk.sig Try.f158.results.toList) := ⟨trivial, ⟨⟨trivial, ⟨⟨by kernel_rfl, fun x => by kernel_rfl⟩, fun n => ⟨fun x => by kernel_rfl, ⟨⟨trivial, ⟨trivial, trivial⟩⟩, ⟨⟨trivial, ⟨⟨trivial, ⟨⟨trivial, trivial⟩, trivial⟩⟩, ⟨trivial, ⟨⟨by kernel_rfl, fun x => by kernel_rfl⟩, fun n => ⟨fun x => by kernel_rfl, ⟨⟨trivial, ⟨trivial, trivial⟩⟩, ⟨⟨trivial, ⟨⟨trivial, trivial⟩, trivial⟩⟩, trivial⟩⟩⟩⟩⟩⟩⟩, trivial⟩⟩⟩⟩⟩, ⟨trivial, trivial⟩⟩⟩
theorem spec_RulesOk.ok (k : Nat) : EntOk Try.prog k spec_RulesOk.ent := fn_ok (C := spec_RulesOk.ctx k) Try.func158 (by kernel_rfl) (by kernel_rfl) mixed tdsOk (.cons (spec_l01In.ok k) EntsOk.nil) (by kernel_rfl) (Nat.le_of_ble_eq_true (by kernel_rfl)) (by kernel_rfl) (spec_RulesOk.runs k) (spec_RulesOk.obls k)
/-! loop.example/g00200/spec.ReadCode -/
def spec_ReadCode.l1 (k : Nat)  : Nat → ByteArray × Int × (List (Int × Int)) × Unit → Option ((List (Int × Int)) × Bool)
  | 0, _ => none
  | n + 1, (x1, x2, x3, _) => if x2 < (x1.size : Int) then (if 0 ≤ x2 then (if x2 < (x1.size : Int) then (if 0 ≤ w64 (x2 + 1) then (if w64 (x2 + 1) < (x1.size : Int) then (((some ([(w64 (bt x1 x2), w64 (bt x1 (w64 (x2 + 1))))] : List (Int × Int)))).bind fun y2 => (if (x3.length + y2.length) * 16 ≤ 140737488355328 then (((some (x3 ++ y2))).bind fun y3 => (spec_ReadCode.l1 k n (x1, w64 (x2 + 2), y3, ()))) else none)) else none) else none) else none) else none) else (some (x3, true))
def spec_ReadCode.f (k : Nat) (a0 : ByteArray) : Option ((List (Int × Int)) × Bool) :=
  ((some ([] : List (Int × Int)))).bind fun y1 => (if ¬ (Int.tmod (a0.size : Int) 2) = 0 then (some (y1, false)) else (if 120 < (a0.size : Int) then (some (y1, false)) else (spec_ReadCode.l1 k k (a0, 0, y1, ()))))
def spec_ReadCode.Sl1 : Shape := ⟨[(0, false, [.str]), (4, false, [.own 0]), (5, false, [.int .i64])], [(0, .row 27 (.pair (.int .i64) (.int .i64)))], 1⟩
def spec_ReadCode.sig : Sig := ⟨[.val false .str []], [.val false (.sl 27 (.pair (.int .i64) (.int .i64))) [none], .val false .bool []]⟩
def spec_ReadCode.F (k : Nat) (x : Args spec_ReadCode.sig.ps) : Option (Res spec_ReadCode.sig) := spec_ReadCode.f k x.1
def spec_ReadCode.ann (k : Nat) : Ann (Res spec_ReadCode.sig) := (.seq .nil (.seq .nil (.seq .nil (.seq (.seq .nil (.block (.loop spec_ReadCode.Sl1 (spec_ReadCode.l1 k) fun n1 => .nil))) .nil))))
def spec_ReadCode.ent : Ent := ⟨159, spec_ReadCode.sig, spec_ReadCode.F⟩
def spec_ReadCode.ctx (k : Nat) : Ctx := ⟨tds, [], k, 37⟩
theorem spec_ReadCode.runs (k : Nat) (x : Args spec_ReadCode.sig.ps) : spec_ReadCode.F k x = runF (spec_ReadCode.ctx k) spec_ReadCode.sig Try.f159 (Try.f159.body.getD .skip) (spec_ReadCode.ann k) x := by kernel_rfl
theorem spec_ReadCode.obls (k : Nat) : obl (spec_ReadCode.ctx k) 0 (Try.f159.body.getD .skip) (spec_ReadCode.ann k) (retK tds spec_ReadCode.sig Try.f159.results.toList) := ⟨trivial, ⟨trivial, ⟨⟨trivial, ⟨⟨trivial, trivial⟩, trivial⟩⟩, ⟨⟨trivial, ⟨⟨by kernel_rfl, fun x => by kernel_rfl⟩, fun n => ⟨fun x => by kernel_rfl, ⟨⟨trivial, ⟨trivial, trivial⟩⟩, ⟨trivial, trivial⟩⟩⟩⟩⟩, ⟨trivial, trivial⟩⟩⟩⟩⟩
theorem spec_ReadCode.ok (k : Nat) : EntOk Try.prog k spec_ReadCode.ent := fn_ok (C := spec_ReadCode.ctx k) Try.func159 (by kernel_rfl) (by kernel_rfl) mixed tdsOk EntsOk.nil (by kernel_rfl) (Nat.le_of_ble_eq_true (by kernel_rfl)) (by kernel_rfl) (spec_ReadCode.runs k) (spec_ReadCode.obls k)
/-! loop.example/g00200/spec.l11Parts -/
def spec_l11Parts.l3 (k : Nat)  : Nat → Int × Int × (List (Int × Int)) × (List (Int × Int)) × (List (Int × Int × Int × Int × Int)) × (List (Int × Int × Int)) × List ByteArray × Unit → Option (Int)
  | 0, _ => none
  | n + 1, (x1, x2, x3, x4, x5, x6, x7, _) => if x2 < (x6.length : Int) then (if 0 ≤ x2 then (if x2 < (x6.length : Int) then (if x1 < ((el (.pair (.int .i64) (.pair (.int .i64) (.int .i64))) x6 x2.toNat).1) then (some 6) else (spec_l11Parts.l3 k n (x1, w64 (x2 + 1), x3, x4, x5, x6, x7, ()))) else none) else none) else (some 0)
def spec_l11Parts.l2 (k : Nat)  : Nat → Int × Int × (List (Int × Int)) × (List (Int × Int)) × (List (Int × Int × Int × Int × Int)) × (List (Int × Int × Int)) × List ByteArray × Unit → Option (Int)
  | 0, _ => none
  | n + 1, (x1, x2, x3, x4, x5, x6, x7, _) => if x2 < (x5.length : Int) then (if 0 ≤ x2 then (if x2 < (x5.length : Int) then (if x1 < (((el (.pair (.int .i64) (.pair (.int .i64) (.pair (.int .i64) (.pair (.int .i64) (.int .i64))))) x5 x2.toNat).2).1) then (some 6) else (if 0 ≤ x2 then (if x2 < (x5.length : Int) then (if x1 < ((((el (.pair (.int .i64) (.pair (.int .i64) (.pair (.int .i64) (.pair (.int .i64) (.int .i64))))) x5 x2.toNat).2).2).1) then (some 6) else (spec_l11Parts.l2 k n (x1, w64 (x2 + 1), x3, x4, x5, x6, x7, ()))) else none) else none)) else none) else none) else (spec_l11Parts.l3 k k (x1, 0, x3, x4, x5, x6, x7, ()))
def spec_l11Parts.l1 (k : Nat)  : Nat → Int × Int × (List (Int × Int)) × (List (Int × Int)) × (List (Int × Int × Int × Int × Int)) × (List (Int × Int × Int)) × List ByteArray × Unit → Option (Int)
  | 0, _ => none
  | n + 1, (x1, x2, x3, x4, x5, x6, x7, _) => if x2 < (x4.length : Int) then (if 0 ≤ x2 then (if x2 < (x4.length : Int) then (if x1 < ((el (.pair (.int .i64) (.int .i64)) x4 x2.toNat).1) then (some 6) else (spec_l11Parts.l1 k n (x1, w64 (x2 + 1), x3, x4, x5, x6, x7, ()))) else none) else none) else (spec_l11Parts.l2 k k (x1, 0, x3, x4, x5, x6, x7, ()))
def spec_l11Parts.f (k : Nat) (a0 : List (Int × Int) × List (Int × Int) × List (Int × Int × Int × Int × Int) × List (Int × Int × Int) × List ByteArray) : Option (Int) :=
  spec_l11Parts.l1 k k ((a0.1.length : Int), 0, a0.1, a0.2.1, a0.2.2.1, a0.2.2.2.1, a0.2.2.2.2, ())
def spec_l11Parts.Sl1 : Shape := ⟨[(1, false, [.ptr 5 0]), (3, false, [.int .i64]), (4, false, [.int .i64])], [(5, .blk 43 [.own 0, .own 1, .own 2, .own 3, .own 4]), (0, .view false 31 (.pair (.int .i64) (.int .i64))), (1, .view false 34 (.pair (.int .i64) (.int .i64))), (2, .view false 63 (.pair (.int .i64) (.pair (.int .i64) (.pair (.int .i64) (.pair (.int .i64) (.int .i64)))))), (3, .view false 39 (.pair (.int .i64) (.pair (.int .i64) (.int .i64)))), (4, .view false 9 .str)], 6⟩
def spec_l11Parts.Sl2 : Shape := ⟨[(1, false, [.ptr 5 0]), (3, false, [.int .i64]), (5, false, [.int .i64])], [(5, .blk 43 [.own 0, .own 1, .own 2, .own 3, .own 4]), (0, .view false 31 (.pair (.int .i64) (.int .i64))), (1, .view false 34 (.pair (.int .i64) (.int .i64))), (2, .view false 63 (.pair (.int .i64) (.pair (.int .i64) (.pair (.int .i64) (.pair (.int .i64) (.int .i64)))))), (3, .view false 39 (.pair (.int .i64) (.pair (.int .i64) (.int .i64)))), (4, .view false 9 .str)], 6⟩
def spec_l11Parts.Sl3 : Shape := ⟨[(1, false, [.ptr 5 0]), (3, false, [.int .i64]), (6, false, [.int .i64])], [(5, .blk 43 [.own 0, .own 1, .own 2, .own 3, .own 4]), (0, .view false 31 (.pair (.int .i64) (.int .i64))), (1, .view false 34 (.pair (.int .i64) (.int .i64))), (2, .view false 63 (.pair (.int .i64) (.pair (.int .i64) (.pair (.int .i64) (.pair (.int .i64) (.int .i64)))))), (3, .view false 39 (.pair (.int .i64) (.pair (.int .i64) (.int .i64)))), (4, .view false 9 .str)], 6⟩
def spec_l11Parts.sig : Sig := ⟨[.val true (.pair (.sl 31 (.pair (.int .i64) (.int .i64))) (.pair (.sl 34 (.pair (.int .i64) (.int .i64))) (.pair (.sl 63 (.pair (.int .i64) (.pair (.int .i64) (.pair (.int .i64) (.pair (.int .i64) (.int .i64)))))) (.pair (.sl 39 (.pair (.int .i64) (.pair (.int .i64) (.int .i64)))) (.sl 9 .str))))) [0, 0, 0, 0, 0]], [.val false (.int .i64) []]⟩
def spec_l11Parts.F (k : Nat) (x : Args spec_l11Parts.sig.ps) : Option (Res spec_l11Parts.sig) := spec_l11Parts.f k x.1
def spec_l11Parts.ann (k : Nat) : Ann (Res spec_l11Parts.sig) := (.seq .nil (.seq .nil (.seq (.seq .nil (.block (.loop spec_l11Parts.Sl1 (spec_l11Parts.l1 k) fun n1 => .nil))) (.seq (.seq .nil (.block (.loop spec_l11Parts.Sl2 (spec_l11Parts.l2 k) fun n1 => .nil))) (.seq (.seq .nil (.block (.loop spec_l11Parts.Sl3 (spec_l11Parts.l3 k) fun n1 => .nil))) .nil)))))
def spec_l11Parts.ent : Ent := ⟨160, spec_l11Parts.sig, spec_l11Parts.F⟩
def spec_l11Parts.ctx (k : Nat) : Ctx := ⟨tds, [], k, 65⟩
theorem spec_l11Parts.runs (k : Nat) (x : Args spec_l11Parts.sig.ps) : spec_l11Parts.F k x = runF (spec_l11Parts.ctx k) spec_l11Parts.sig Try.f160 (Try.f160.body.getD .skip) (spec_l11Parts.ann k) x := by kernel_rfl
theorem spec_l11Parts.obls (k : Nat) : obl (spec_l11Parts.ctx k) 5 (Try.f160.body.getD .skip) (spec_l11Parts.ann k) (retK tds spec_l11Parts.sig Try.f160.results.toList) := ⟨trivial, ⟨trivial, ⟨⟨trivial, ⟨⟨by kernel_rfl, fun x => by kernel_rfl⟩, fun n => ⟨fun x => by kernel_rfl, ⟨⟨trivial, ⟨trivial, trivial⟩⟩, ⟨⟨trivial, ⟨⟨trivial, trivial⟩, trivial⟩⟩, trivial⟩⟩⟩⟩⟩, ⟨⟨trivial, ⟨⟨by kernel_rfl, fun x => by kernel_rfl⟩, fun n => ⟨fun x => by kernel_rfl, ⟨⟨trivial, ⟨trivial, trivial⟩⟩, ⟨⟨trivial, ⟨⟨trivial, trivial⟩, trivial⟩⟩, trivial⟩⟩⟩⟩⟩, ⟨⟨trivial, ⟨⟨by kernel_rfl, fun x => by kernel_rfl⟩, fun n => ⟨fun x => by kernel_rfl, ⟨⟨trivial, ⟨trivial, trivial⟩⟩, ⟨⟨trivial, ⟨⟨trivial, trivial⟩, trivial⟩⟩, trivial⟩⟩⟩⟩⟩, ⟨trivial, trivial⟩⟩⟩⟩⟩⟩
theorem spec_l11Parts.ok (k : Nat) : EntOk Try.prog k spec_l11Parts.ent := fn_ok (C := spec_l11Parts.ctx k) Try.func160 (by kernel_rfl) (by kernel_rfl) mixed tdsOk EntsOk.nil (by kernel_rfl) (Nat.le_of_ble_eq_true (by kernel_rfl)) (by kernel_rfl) (spec_l11Parts.runs k) (spec_l11Parts.obls k)
/-! loop.example/g00200/spec.SetupFault -/
def spec_SetupFault.l2 (k : Nat)  : Nat → Int × (List (Int × Int)) × (List (Int × Int)) × (List (Int × Int × Int × Int × Int)) × (List (Int × Int × Int)) × List ByteArray × Unit → Option (Int)
  | 0, _ => none
  | n + 1, (x1, x2, x3, x4, x5, x6, _) => if x1 < (x6.length : Int) then (if 0 ≤ x1 then (if x1 < (x6.length : Int) then ((spec_ReadCode.f k (el .str x6 x1.toNat)).bind fun t5 => (if ¬ t5.2 = true then (some 5) else (spec_SetupFault.l2 k n (w64 (x1 + 1), x2, x3, x4, x5, x6, ())))) else none) else none) else ((spec_l11Parts.f k (x2, (x3, (x4, (x5, x6))))).bind fun t6 => (some t6))
def spec_SetupFault.l1 (k : Nat)  : Nat → Int × (List (Int × Int)) × (List (Int × Int)) × (List (Int × Int × Int × Int × Int)) × (List (Int × Int × Int)) × List ByteArray × Unit → Option (Int)
  | 0, _ => none
  | n + 1, (x1, x2, x3, x4, x5, x6, _) => if x1 < (x4.length : Int) then (if 0 ≤ x1 then (if x1 < (x4.length : Int) then ((spec_PortOk.f k ((el (.pair (.int .i64) (.pair (.int .i64) (.pair (.int .i64) (.pair (.int .i64) (.int .i64))))) x4 x1.toNat).1, (((el (.pair (.int .i64) (.pair (.int .i64) (.pair (.int .i64) (.pair (.int .i64) (.int .i64))))) x4 x1.toNat).2).1, ((((el (.pair (.int .i64) (.pair (.int .i64) (.pair (.int .i64) (.pair (.int .i64) (.int .i64))))) x4 x1.toNat).2).2).1, ((((el (.pair (.int .i64) (.pair (.int .i64) (.pair (.int .i64) (.pair (.int .i64) (.int .i64))))) x4 x1.toNat).2).2).2))))).bind fun t3 => (if ¬ t3 = true then (some 3) else (if 6 ≤ x1 then (some 3) else (spec_SetupFault.l1 k n (w64 (x1 + 1), x2, x3, x4, x5, x6, ()))))) else none) else none) else ((spec_RulesOk.f k x5).bind fun t4 => (if ¬ t4 = true then (some 4) else (if ¬ (x6.length : Int) = (x2.length : Int) then (some 5) else (spec_SetupFault.l2 k k (0, x2, x3, x4, x5, x6, ())))))
def spec_SetupFault.f (k : Nat) (a0 : List (Int × Int) × List (Int × Int) × List (Int × Int × Int × Int × Int) × List (Int × Int × Int) × List ByteArray) : Option (Int) :=
  (spec_RegionsOk.f k a0.1).bind fun t1 => (if ¬ t1 = true then (some 1) else ((spec_PlanOk.f k a0.2.1).bind fun t2 => (if ¬ t2 = true then (some 2) else (spec_SetupFault.l1 k k (0, a0.1, a0.2.1, a0.2.2.1, a0.2.2.2.1, a0.2.2.2.2, ())))))
def spec_SetupFault.Sl1 : Shape := ⟨[(1, false, [.ptr 5 0]), (3, false, [.int .i64])], [(5, .blk 43 [.own 0, .own 1, .own 2, .own 3, .own 4]), (0, .view false 31 (.pair (.int .i64) (.int .i64))), (1, .view false 34 (.pair (.int .i64) (.int .i64))), (2, .view false 63 (.pair (.int .i64) (.pair (.int .i64) (.pair (.int .i64) (.pair (.int .i64) (.int .i64)))))), (3, .view false 39 (.pair (.int .i64) (.pair (.int .i64) (.int .i64)))), (4, .view false 9 .str)], 6⟩
def spec_SetupFault.Sl2 : Shape := ⟨[(1, false, [.ptr 5 0]), (4, false, [.int .i64])], [(5, .blk 43 [.own 0, .own 1, .own 2, .own 3, .own 4]), (0, .view false 31 (.pair (.int .i64) (.int .i64))), (1, .view false 34 (.pair (.int .i64) (.int .i64))), (2, .view false 63 (.pair (.int .i64) (.pair (.int .i64) (.pair (.int .i64) (.pair (.int .i64) (.int .i64)))))), (3, .view false 39 (.pair (.int .i64) (.pair (.int .i64) (.int .i64)))), (4, .view false 9 .str)], 6⟩
def spec_SetupFault.sig : Sig := ⟨[.val true (.pair (.sl 31 (.pair (.int .i64) (.int .i64))) (.pair (.sl 34 (.pair (.int .i64) (.int .i64))) (.pair (.sl 63 (.pair (.int .i64) (.pair (.int .i64) (.pair (.int .i64) (.pair (.int .i64) (.int .i64)))))) (.pair (.sl 39 (.pair (.int .i64) (.pair (.int .i64) (.int .i64)))) (.sl 9 .str))))) [0, 0, 0, 0, 0]], [.val false (.int .i64) []]⟩
def spec_SetupFault.F (k : Nat) (x : Args spec_SetupFault.sig.ps) : Option (Res spec_SetupFault.sig) := spec_SetupFault.f k x.1
def spec_SetupFault.ann (k : Nat) : Ann (Res spec_SetupFault.sig) := (.seq .nil (.seq .nil (.seq .nil (.seq (.seq .nil (.block (.loop spec_SetupFault.Sl1 (spec_SetupFault.l1 k) fun n1 => .nil))) (.seq .nil (.seq .nil (.seq (.seq .nil (.block (.loop spec_SetupFault.Sl2 (spec_SetupFault.l2 k) fun n1 => .nil))) .nil)))))))
def spec_SetupFault.ent : Ent := ⟨88, spec_SetupFault.sig, spec_SetupFault.F⟩
def spec_SetupFault.ctx (k : Nat) : Ctx := ⟨tds, [spec_RegionsOk.ent, spec_PlanOk.ent, spec_PortOk.ent, spec_RulesOk.ent, spec_ReadCode.ent, spec_l11Parts.ent], k, 64⟩
theorem spec_SetupFault.runs (k : Nat) (x : Args spec_SetupFault.sig.ps) : spec_SetupFault.F k x = runF (spec_SetupFault.ctx k) spec_SetupFault.sig Try.f88 (Try.f88.body.getD .skip) (spec_SetupFault.ann k) x := by kernel_rfl
theorem spec_SetupFault.obls (k : Nat) : obl (spec_SetupFault.ctx k) 5 (Try.f88.body.getD .skip) (spec_SetupFault.ann k) (retK tds spec_SetupFault.sig Try.f88.results.toList) := ⟨trivial, ⟨⟨trivial, ⟨⟨trivial, trivial⟩, trivial⟩⟩, ⟨⟨trivial, ⟨⟨trivial, trivial⟩, trivial⟩⟩, ⟨⟨trivial, ⟨⟨by kernel_rfl, fun x => by kernel_rfl⟩, fun n => ⟨fun x => by kernel_rfl, ⟨⟨trivial, ⟨trivial, trivial⟩⟩, ⟨⟨trivial, ⟨⟨trivial, trivial⟩, trivial⟩⟩, trivial⟩⟩⟩⟩⟩, ⟨⟨trivial, ⟨⟨trivial, trivial⟩, trivial⟩⟩, ⟨⟨trivial, ⟨⟨trivial, trivial⟩, trivial⟩⟩, ⟨⟨trivial, ⟨⟨by kernel_rfl, fun x => by kernel_rfl⟩, fun n => ⟨fun x => by kernel_rfl, ⟨⟨trivial, ⟨trivial, trivial⟩⟩, ⟨⟨trivial, ⟨trivial, ⟨⟨trivial, trivial⟩, trivial⟩⟩⟩, trivial⟩⟩⟩⟩⟩, ⟨trivial, trivial⟩⟩⟩⟩⟩⟩⟩⟩
theorem spec_SetupFault.ok (k : Nat) : EntOk Try.prog k spec_SetupFault.ent := fn_ok (C := spec_SetupFault.ctx k) Try.func88 (by kernel_rfl) (by kernel_rfl) mixed tdsOk (.cons (spec_RegionsOk.ok k) (.cons (spec_PlanOk.ok k) (.cons (spec_PortOk.ok k) (.cons (spec_RulesOk.ok k) (.cons (spec_ReadCode.ok k) (.cons (spec_l11Parts.ok k) EntsOk.nil)))))) (by kernel_rfl) (Nat.le_of_ble_eq_true (by kernel_rfl)) (by kernel_rfl) (spec_SetupFault.runs k) (spec_SetupFault.obls k)
/-! loop.example/g00200/spec.l12Words -/
def spec_l12Words.l1 (k : Nat)  : Nat → Int × List Int × Unit → Option (Bool)
  | 0, _ => none
  | n + 1, (x1, x2, _) => if x1 < (x2.length : Int) then (if 0 ≤ x1 then (if x1 < (x2.length : Int) then ((spec_l01In.f k (el (.int .i64) x2 x1.toNat) 0 65535).bind fun t1 => (if ¬ t1 = true then (some false) else (spec_l12Words.l1 k n (w64 (x1 + 1), x2, ())))) else none) else none) else (some true)
def spec_l12Words.f (k : Nat) (a0 : List Int) : Option (Bool) :=
  spec_l12Words.l1 k k (0, a0, ())
def spec_l12Words.Sl1 : Shape := ⟨[(0, false, [.own 0]), (3, false, [.int .i64])], [(0, .view false 3 (.int .i64))], 1⟩
def spec_l12Words.sig : Sig := ⟨[.val false (.sl 3 (.int .i64)) [0]], [.val false .bool []]⟩
def spec_l12Words.F (k : Nat) (x : Args spec_l12Words.sig.ps) : Option (Res spec_l12Words.sig) := spec_l12Words.f k x.1
def spec_l12Words.ann (k : Nat) : Ann (Res spec_l12Words.sig) := (.seq .nil (.seq (.seq .nil (.block (.loop spec_l12Words.Sl1 (spec_l12Words.l1 k) fun n1 => .nil))) .nil))
def spec_l12Words.ent : Ent := ⟨89, spec_l12Words.sig, spec_l12Words.F⟩
def spec_l12Words.ctx (k : Nat) : Ctx := ⟨tds, [spec_l01In.ent], k, 16⟩
theorem spec_l12Words.runs (k : Nat) (x : Args spec_l12Words.sig.ps) : spec_l12Words.F k x = runF (spec_l12Words.ctx k) spec_l12Words.sig Try.f89 (Try.f89.body.getD .skip) (spec_l12Words.ann k) x := by kernel_rfl
theorem spec_l12Words.obls (k : Nat) : obl (spec_l12Words.ctx k) 1 (Try.f89.body.getD .skip) (spec_l12Words.ann k) (retK tds spec_l12Words.sig Try.f89.results.toList) := ⟨trivial, ⟨⟨trivial, ⟨⟨by kernel_rfl, fun x => by kernel_rfl⟩, fun n => ⟨fun x => by kernel_rfl, ⟨⟨trivial, ⟨trivial, trivial⟩⟩, ⟨⟨trivial, ⟨⟨trivial, trivial⟩, trivial⟩⟩, trivial⟩⟩⟩⟩⟩, ⟨trivial, trivial⟩⟩⟩
theorem spec_l12Words.ok (k : Nat) : EntOk Try.prog k spec_l12Words.ent := fn_ok (C := spec_l12Words.ctx k) Try.func89 (by kernel_rfl) (by kernel_rfl) mixed tdsOk (.cons (spec_l01In.ok k) EntsOk.nil) (by kernel_rfl) (Nat.le_of_ble_eq_true (by kernel_rfl)) (by kernel_rfl) (spec_l12Words.runs k) (spec_l12Words.obls k)
/-! loop.example/g00200/spec.CpuOk -/
def spec_CpuOk.l1 (k : Nat)  : Nat → Int × Int × List Int × Unit → Option (Bool)
  | 0, _ => none
  | n + 1, (x1, x2, x3, _) => if x1 < (x3.length : Int) then (if 0 ≤ x1 then (if x1 < (x3.length : Int) then ((spec_l01In.f k (el (.int .i64) x3 x1.toNat) 0 65535).bind fun t1 => (if ¬ t1 = true then (some false) else (spec_CpuOk.l1 k n (w64 (x1 + 1), x2, x3, ())))) else none) else none) else ((spec_l01In.f k x2 0 60).bind fun t2 => (if t2 = true then (some (decide ((x3.length : Int) ≤ 8))) else (some false)))
def spec_CpuOk.f (k : Nat) (a0 : Int × List Int) : Option (Bool) :=
  spec_CpuOk.l1 k k (0, a0.1, a0.2, ())
def spec_CpuOk.Sl1 : Shape := ⟨[(1, false, [.ptr 1 0]), (3, false, [.int .i64])], [(1, .blk 57 [.int .i64, .own 0]), (0, .view false 3 (.int .i64))], 2⟩
def spec_CpuOk.sig : Sig := ⟨[.val true (.pair (.int .i64) (.sl 3 (.int .i64))) [0]], [.val false .bool []]⟩
def spec_CpuOk.F (k : Nat) (x : Args spec_CpuOk.sig.ps) : Option (Res spec_CpuOk.sig) := spec_CpuOk.f k x.1
def spec_CpuOk.ann (k : Nat) : Ann (Res spec_CpuOk.sig) := (.seq .nil (.seq (.seq .nil (.block (.loop spec_CpuOk.Sl1 (spec_CpuOk.l1 k) fun n1 => .nil))) .nil))
def spec_CpuOk.ent : Ent := ⟨90, spec_CpuOk.sig, spec_CpuOk.F⟩
def spec_CpuOk.ctx (k : Nat) : Ctx := ⟨tds, [spec_l01In.ent], k, 27⟩
theorem spec_CpuOk.runs (k : Nat) (x : Args spec_CpuOk.sig.ps) : spec_CpuOk.F k x = runF (spec_CpuOk.ctx k) spec_CpuOk.sig Try.f90 (Try.f90.body.getD .skip) (spec_CpuOk.ann k) x := by kernel_rfl
theorem spec_CpuOk.obls (k : Nat) : obl (spec_CpuOk.ctx k) 1 (Try.f90.body.getD .skip) (spec_CpuOk.ann k) (retK tds spec_CpuOk.sig Try.f90.results.toList) := ⟨trivial, ⟨⟨trivial, ⟨⟨by kernel_rfl, fun x => by kernel_rfl⟩, fun n => ⟨fun x => by kernel_rfl, ⟨⟨trivial, ⟨trivial, trivial⟩⟩, ⟨⟨trivial, ⟨⟨trivial, trivial⟩, trivial⟩⟩, trivial⟩⟩⟩⟩⟩, ⟨trivial, trivial⟩⟩⟩
theorem spec_CpuOk.ok (k : Nat) : EntOk Try.prog k spec_CpuOk.ent := fn_ok (C := spec_CpuOk.ctx k) Try.func90 (by kernel_rfl) (by kernel_rfl) mixed tdsOk (.cons (spec_l01In.ok k) EntsOk.nil) (by kernel_rfl) (Nat.le_of_ble_eq_true (by kernel_rfl)) (by kernel_rfl) (spec_CpuOk.runs k) (spec_CpuOk.obls k)
/-! loop.example/g00200/spec.KernelOk -/
def spec_KernelOk.l2 (k : Nat)  : Nat → Int × Int × Bool × (List (Int × Int)) × (List (Int × Int)) × (List (Int × Int × Int × Int × Int)) × (List (Int × Int × Int)) × List ByteArray × List Int × (List (Int × (Int × List Int) × Int × Int × Int)) × (List (List (Int × Int))) × List Int × (List (Int × Int × Int × Int × Int)) × Unit → Option (Bool)
  | 0, _ => none
  | n + 1, (x1, x2, x3, x4, x5, x6, x7, x8, x9, x10, x11, x12, x13, _) => if x1 < (x11.length : Int) then (if 0 ≤ x1 then (if x1 < (x11.length : Int) then (if 0 ≤ x1 then (if x1 < (x6.length : Int) then (if (((((el (.pair (.int .i64) (.pair (.int .i64) (.pair (.int .i64) (.pair (.int .i64) (.int .i64))))) x6 x1.toNat).2).2).2).1) < ((el (.sl 241 (.pair (.int .i64) (.int .i64))) x11 x1.toNat).length : Int) then (some false) else (spec_KernelOk.l2 k n (w64 (x1 + 1), x2, x3, x4, x5, x6, x7, x8, x9, x10, x11, x12, x13, ()))) else none) else none) else none) else none) else (some true)
def spec_KernelOk.l1 (k : Nat)  : Nat → Int × Int × Bool × (List (Int × Int)) × (List (Int × Int)) × (List (Int × Int × Int × Int × Int)) × (List (Int × Int × Int)) × List ByteArray × List Int × (List (Int × (Int × List Int) × Int × Int × Int)) × (List (List (Int × Int))) × List Int × (List (Int × Int × Int × Int × Int)) × Unit → Option (Bool)
  | 0, _ => none
  | n + 1, (x1, x2, x3, x4, x5, x6, x7, x8, x9, x10, x11, x12, x13, _) => if x1 < (x10.length : Int) then (if 0 ≤ x1 then (if x1 < (x10.length : Int) then ((spec_l01In.f k ((el (.pair (.int .i64) (.pair (.pair (.int .i64) (.sl 3 (.int .i64))) (.pair (.int .i64) (.pair (.int .i64) (.int .i64))))) x10 x1.toNat).1) 0 1).bind fun t5 => (if ¬ t5 = true then (some false) else ((spec_CpuOk.f k (((el (.pair (.int .i64) (.pair (.pair (.int .i64) (.sl 3 (.int .i64))) (.pair (.int .i64) (.pair (.int .i64) (.int .i64))))) x10 x1.toNat).2).1)).bind fun t6 => (if ¬ t6 = true then (some false) else ((spec_l01In.f k ((((el (.pair (.int .i64) (.pair (.pair (.int .i64) (.sl 3 (.int .i64))) (.pair (.int .i64) (.pair (.int .i64) (.int .i64))))) x10 x1.toNat).2).2).1) 0 1000000000).bind fun t7 => (if ¬ t7 = true then (some false) else ((spec_l01In.f k (((((el (.pair (.int .i64) (.pair (.pair (.int .i64) (.sl 3 (.int .i64))) (.pair (.int .i64) (.pair (.int .i64) (.int .i64))))) x10 x1.toNat).2).2).2).1) 0 1000000000).bind fun t8 => (if ¬ t8 = true then (some false) else ((spec_l01In.f k (((((el (.pair (.int .i64) (.pair (.pair (.int .i64) (.sl 3 (.int .i64))) (.pair (.int .i64) (.pair (.int .i64) (.int .i64))))) x10 x1.toNat).2).2).2).2) 0 1000000000).bind fun t9 => (if ¬ t9 = true then (some false) else (spec_KernelOk.l1 k n (w64 (x1 + 1), x2, x3, x4, x5, x6, x7, x8, x9, x10, x11, x12, x13, ())))))))))))) else none) else none) else (spec_KernelOk.l2 k k (0, x2, x3, x4, x5, x6, x7, x8, x9, x10, x11, x12, x13, ()))
def spec_KernelOk.f (k : Nat) (a0 : (List (Int × Int) × List (Int × Int) × List (Int × Int × Int × Int × Int) × List (Int × Int × Int) × List ByteArray) × List Int × List (Int × (Int × List Int) × Int × Int × Int) × List (List (Int × Int)) × List Int × Int × Bool × List (Int × Int × Int × Int × Int)) : Option (Bool) :=
  (spec_SetupFault.f k a0.1).bind fun t1 => (if ¬ t1 = 0 then (some false) else (if ¬ (a0.2.1.length : Int) = 64 then (some false) else ((spec_l12Words.f k a0.2.1).bind fun t2 => (if ¬ t2 = true then (some false) else (if ¬ (a0.2.2.1.length : Int) = (a0.1.1.length : Int) then (some false) else (if ¬ (a0.2.2.2.1.length : Int) = (a0.1.2.2.1.length : Int) then (some false) else (if ¬ (a0.2.2.2.2.1.length : Int) = 8 then (some false) else ((spec_l12Words.f k a0.2.2.2.2.1).bind fun t3 => (if ¬ t3 = true then (some false) else ((spec_l01In.f k a0.2.2.2.2.2.1 0 1000000000).bind fun t4 => (if ¬ t4 = true then (some false) else (spec_KernelOk.l1 k k (0, a0.2.2.2.2.2.1, a0.2.2.2.2.2.2.1, a0.1.1, a0.1.2.1, a0.1.2.2.1, a0.1.2.2.2.1, a0.1.2.2.2.2, a0.2.1, a0.2.2.1, a0.2.2.2.1, a0.2.2.2.2.1, a0.2.2.2.2.2.2.2, ())))))))))))))
def spec_KernelOk.Sl1 : Shape := ⟨[(1, false, [.ptr 10 0]), (3, false, [.int .i64])], [(10, .blk 51 [.own 0, .own 1, .own 2, .own 3, .own 4, .own 5, .own 6, .own 7, .own 8, .int .i64, .bool, .own 9]), (0, .view false 31 (.pair (.int .i64) (.int .i64))), (1, .view false 34 (.pair (.int .i64) (.int .i64))), (2, .view false 63 (.pair (.int .i64) (.pair (.int .i64) (.pair (.int .i64) (.pair (.int .i64) (.int .i64)))))), (3, .view false 39 (.pair (.int .i64) (.pair (.int .i64) (.int .i64)))), (4, .view false 9 .str), (5, .view false 3 (.int .i64)), (6, .view false 59 (.pair (.int .i64) (.pair (.pair (.int .i64) (.sl 3 (.int .i64))) (.pair (.int .i64) (.pair (.int .i64) (.int .i64)))))), (7, .view false 145 (.sl 241 (.pair (.int .i64) (.int .i64)))), (8, .view false 3 (.int .i64)), (9, .view false 70 (.pair (.int .i64) (.pair (.int .i64) (.pair (.int .i64) (.pair (.int .i64) (.int .i64))))))], 11⟩
def spec_KernelOk.Sl2 : Shape := ⟨[(1, false, [.ptr 10 0]), (5, false, [.int .i64])], [(10, .blk 51 [.own 0, .own 1, .own 2, .own 3, .own 4, .own 5, .own 6, .own 7, .own 8, .int .i64, .bool, .own 9]), (0, .view false 31 (.pair (.int .i64) (.int .i64))), (1, .view false 34 (.pair (.int .i64) (.int .i64))), (2, .view false 63 (.pair (.int .i64) (.pair (.int .i64) (.pair (.int .i64) (.pair (.int .i64) (.int .i64)))))), (3, .view false 39 (.pair (.int .i64) (.pair (.int .i64) (.int .i64)))), (4, .view false 9 .str), (5, .view false 3 (.int .i64)), (6, .view false 59 (.pair (.int .i64) (.pair (.pair (.int .i64) (.sl 3 (.int .i64))) (.pair (.int .i64) (.pair (.int .i64) (.int .i64)))))), (7, .view false 145 (.sl 241 (.pair (.int .i64) (.int .i64)))), (8, .view false 3 (.int .i64)), (9, .view false 70 (.pair (.int .i64) (.pair (.int .i64) (.pair (.int .i64) (.pair (.int .i64) (.int .i64))))))], 11⟩
def spec_KernelOk.sig : Sig := ⟨[.val true (.pair (.pair (.sl 31 (.pair (.int .i64) (.int .i64))) (.pair (.sl 34 (.pair (.int .i64) (.int .i64))) (.pair (.sl 63 (.pair (.int .i64) (.pair (.int .i64) (.pair (.int .i64) (.pair (.int .i64) (.int .i64)))))) (.pair (.sl 39 (.pair (.int .i64) (.pair (.int .i64) (.int .i64)))) (.sl 9 .str))))) (.pair (.sl 3 (.int .i64)) (.pair (.sl 59 (.pair (.int .i64) (.pair (.pair (.int .i64) (.sl 3 (.int .i64))) (.pair (.int .i64) (.pair (.int .i64) (.int .i64)))))) (.pair (.sl 145 (.sl 241 (.pair (.int .i64) (.int .i64)))) (.pair (.sl 3 (.int .i64)) (.pair (.int .i64) (.pair .bool (.sl 70 (.pair (.int .i64) (.pair (.int .i64) (.pair (.int .i64) (.pair (.int .i64) (.int .i64))))))))))))) [0, 0, 0, 0, 0, 0, 0, 0, 0, 0]], [.val false .bool []]⟩
def spec_KernelOk.F (k : Nat) (x : Args spec_KernelOk.sig.ps) : Option (Res spec_KernelOk.sig) := spec_KernelOk.f k x.1
def spec_KernelOk.ann (k : Nat) : Ann (Res spec_KernelOk.sig) := (.seq .nil (.seq .nil (.seq (.seq .nil (.block (.loop spec_KernelOk.Sl1 (spec_KernelOk.l1 k) fun n1 => .nil))) (.seq (.seq .nil (.block (.loop spec_KernelOk.Sl2 (spec_KernelOk.l2 k) fun n1 => .nil))) .nil))))
def spec_KernelOk.ent : Ent := ⟨35, spec_KernelOk.sig, spec_KernelOk.F⟩
def spec_KernelOk.ctx (k : Nat) : Ctx := ⟨tds, [spec_l01In.ent, spec_SetupFault.ent, spec_l12Words.ent, spec_CpuOk.ent], k, 124⟩
theorem spec_KernelOk.runs (k : Nat) (x : Args spec_KernelOk.sig.ps) : spec_KernelOk.F k x = runF (spec_KernelOk.ctx k) spec_KernelOk.sig Try.f35 (Try.f35.body.getD .skip) (spec_KernelOk.ann k) x := by kernel_rfl
theorem spec_KernelOk.obls (k : Nat) : obl (spec_KernelOk.ctx k) 10 (Try.f35.body.getD .skip) (spec_KernelOk.ann k) (retK tds spec_KernelOk.sig Try.f35.results.toList) := ⟨trivial, ⟨⟨trivial, ⟨⟨trivial, trivial⟩, trivial⟩⟩, ⟨⟨trivial, ⟨⟨by kernel_rfl, fun x => by kernel_rfl⟩, fun n => ⟨fun x => by kernel_rfl, ⟨⟨trivial, ⟨trivial, trivial⟩⟩, ⟨⟨trivial, ⟨trivial, ⟨⟨trivial, trivial⟩, trivial⟩⟩⟩, trivial⟩⟩⟩⟩⟩, ⟨⟨trivial, ⟨⟨by kernel_rfl, fun x => by kernel_rfl⟩, fun n => ⟨fun x => by kernel_rfl, ⟨⟨trivial, ⟨trivial, trivial⟩⟩, ⟨⟨trivial, ⟨⟨trivial, trivial⟩, trivial⟩⟩, trivial⟩⟩⟩⟩⟩, ⟨trivial, trivial⟩⟩⟩⟩⟩
theorem spec_KernelOk.ok (k : Nat) : EntOk Try.prog k spec_KernelOk.ent := fn_ok (C := spec_KernelOk.ctx k) Try.func35 (by kernel_rfl) (by kernel_rfl) mixed tdsOk (.cons (spec_l01In.ok k) (.cons (spec_SetupFault.ok k) (.cons (spec_l12Words.ok k) (.cons (spec_CpuOk.ok k) EntsOk.nil)))) (by kernel_rfl) (Nat.le_of_ble_eq_true (by kernel_rfl)) (by kernel_rfl) (spec_KernelOk.runs k) (spec_KernelOk.obls k)
/-! loop.example/g00200/impl.within -/
def impl_within.f (k : Nat) (a0 : Int) (a1 : Int) (a2 : Int) : Option (Bool) :=
  if a1 ≤ a0 then (some (decide (a0 ≤ a2))) else (some false)
def impl_within.sig : Sig := ⟨[.val false (.int .i64) [], .val false (.int .i64) [], .val false (.int .i64) []], [.val false .bool []]⟩
def impl_within.F (k : Nat) (x : Args impl_within.sig.ps) : Option (Res impl_within.sig) := impl_within.f k x.1 x.2.1 x.2.2.1
def impl_within.ann (k : Nat) : Ann (Res impl_within.sig) := .nil
def impl_within.ent : Ent := ⟨60, impl_within.sig, impl_within.F⟩
def impl_within.ctx (k : Nat) : Ctx := ⟨tds, [], k, 15⟩
theorem impl_within.runs (k : Nat) (x : Args impl_within.sig.ps) : impl_within.F k x = runF (impl_within.ctx k) impl_within.sig Try.f60 (Try.f60.body.getD .skip) (impl_within.ann k) x := by kernel_rfl
theorem impl_within.obls (k : Nat) : obl (impl_within.ctx k) 0 (Try.f60.body.getD .skip) (impl_within.ann k) (retK tds impl_within.sig Try.f60.results.toList) := ⟨trivial, ⟨trivial, trivial⟩⟩
theorem impl_within.ok (k : Nat) : EntOk Try.prog k impl_within.ent := fn_ok (C := impl_within.ctx k) Try.func60 (by kernel_rfl) (by kernel_rfl) mixed tdsOk EntsOk.nil (by kernel_rfl) (Nat.le_of_ble_eq_true (by kernel_rfl)) (by kernel_rfl) (impl_within.runs k) (impl_within.obls k)
/-! loop.example/g00200/impl.RegionsOk -/
def impl_RegionsOk.l2 (k : Nat) (c0 : Int × Int × (List (Int × Int)) × Unit → Option (Bool)) : Nat → Int × Int × Int × Int × Int × Int × (List (Int × Int)) × (List (Int × Int)) × Unit → Option (Bool)
  | 0, _ => none
  | n + 1, (x1, x2, x3, x4, x5, x6, x7, x8, _) => if x4 < x3 then (if 0 ≤ x4 then (if x4 < (x8.length : Int) then (if x5 < (w64 (((el (.pair (.int .i64) (.int .i64)) x8 x4.toNat).1) + ((el (.pair (.int .i64) (.int .i64)) x8 x4.toNat).2))) then (if ((el (.pair (.int .i64) (.int .i64)) x8 x4.toNat).1) < (w64 (x5 + x6)) then (some false) else (impl_RegionsOk.l2 k c0 n (x1, x2, x3, w64 (x4 + 1), x5, x6, x7, x8, ()))) else (impl_RegionsOk.l2 k c0 n (x1, x2, x3, w64 (x4 + 1), x5, x6, x7, x8, ()))) else none) else none) else (c0 (x1, w64 (x2 + 1), x7, ()))
def impl_RegionsOk.l1 (k : Nat)  : Nat → Int × Int × (List (Int × Int)) × Unit → Option (Bool)
  | 0, _ => none
  | n + 1, (x1, x2, x3, _) => if x2 < x1 then (if 0 ≤ x2 then (if x2 < (x3.length : Int) then (if ((el (.pair (.int .i64) (.int .i64)) x3 x2.toNat).1) < 0 then (some false) else (if ((el (.pair (.int .i64) (.int .i64)) x3 x2.toNat).2) < 1 then (some false) else (if 64 < ((el (.pair (.int .i64) (.int .i64)) x3 x2.toNat).2) then (some false) else (if (w64 (64 - ((el (.pair (.int .i64) (.int .i64)) x3 x2.toNat).2))) < ((el (.pair (.int .i64) (.int .i64)) x3 x2.toNat).1) then (some false) else (if 0 ≤ x2 then (if x2 ≤ (x3.length : Int) then (impl_RegionsOk.l2 k (impl_RegionsOk.l1 k n) k (x1, x2, ((x2.toNat : Nat) : Int), 0, (el (.pair (.int .i64) (.int .i64)) x3 x2.toNat).1, (el (.pair (.int .i64) (.int .i64)) x3 x2.toNat).2, x3, x3.take x2.toNat, ())) else none) else none))))) else none) else none) else ((impl_within.f k (x3.length : Int) 1 4).bind fun t1 => (some t1))
def impl_RegionsOk.f (k : Nat) (a0 : List (Int × Int)) : Option (Bool) :=
  impl_RegionsOk.l1 k k ((a0.length : Int), 0, a0, ())
def impl_RegionsOk.Sl1 : Shape := ⟨[(0, false, [.own 0]), (7, false, [.own 0]), (8, false, [.int .i64]), (9, false, [.int .i64])], [(0, .view false 31 (.pair (.int .i64) (.int .i64)))], 1⟩
def impl_RegionsOk.Sl2 : Shape := ⟨[(0, false, [.own 0]), (4, false, [.ptr 1 0]), (7, false, [.own 0]), (8, false, [.int .i64]), (9, false, [.int .i64]), (37, false, [.own 2]), (38, false, [.int .i64]), (39, false, [.int .i64])], [(1, .blk 31 [.int .i64, .int .i64]), (0, .view false 31 (.pair (.int .i64) (.int .i64))), (2, .view false 31 (.pair (.int .i64) (.int .i64)))], 3⟩
def impl_RegionsOk.sig : Sig := ⟨[.val false (.sl 31 (.pair (.int .i64) (.int .i64))) [0]], [.val false .bool []]⟩
def impl_RegionsOk.F (k : Nat) (x : Args impl_RegionsOk.sig.ps) : Option (Res impl_RegionsOk.sig) := impl_RegionsOk.f k x.1
def impl_RegionsOk.ann (k : Nat) : Ann (Res impl_RegionsOk.sig) := (.seq .nil (.seq (.seq .nil (.block (.loop impl_RegionsOk.Sl1 (impl_RegionsOk.l1 k) fun n1 => (.seq .nil (.seq .nil (.seq (.block (.seq .nil (.seq .nil (.seq .nil (.block (.loop impl_RegionsOk.Sl2 (impl_RegionsOk.l2 k (impl_RegionsOk.l1 k n1)) fun n2 => .nil)))))) .nil)))))) .nil))
def impl_RegionsOk.ent : Ent := ⟨124, impl_RegionsOk.sig, impl_RegionsOk.F⟩
def impl_RegionsOk.ctx (k : Nat) : Ctx := ⟨tds, [impl_within.ent], k, 66⟩
theorem impl_RegionsOk.runs (k : Nat) (x : Args impl_RegionsOk.sig.ps) : impl_RegionsOk.F k x = runF (impl_RegionsOk.ctx k) impl_RegionsOk.sig Try.f124 (Try.f124.body.getD .skip) (impl_RegionsOk.ann k) x := by kernel_rfl
theorem impl_RegionsOk.obls (k : Nat) : obl (impl_RegionsOk.ctx k) 1 (Try.f124.body.getD .skip) (impl_RegionsOk.ann k) (retK tds impl_RegionsOk.sig Try.f124.results.toList) := ⟨trivial, ⟨⟨trivial, ⟨⟨by kernel_rfl, fun x => by kernel_rfl⟩, fun n => ⟨fun x => by kernel_rfl, ⟨trivial, ⟨⟨trivial, trivial⟩, ⟨⟨trivial, ⟨⟨trivial, ⟨⟨trivial, trivial⟩, trivial⟩⟩, ⟨trivial, ⟨⟨by kernel_rfl, fun x => by kernel_rfl⟩, fun n => ⟨fun x => by kernel_rfl, ⟨trivial, ⟨⟨trivial, trivial⟩, ⟨⟨trivial, ⟨trivial, ⟨⟨trivial, trivial⟩, trivial⟩⟩⟩, trivial⟩⟩⟩⟩⟩⟩⟩⟩, trivial⟩⟩⟩⟩⟩⟩, ⟨trivial, trivial⟩⟩⟩
theorem impl_RegionsOk.ok (k : Nat) : EntOk Try.prog k impl_RegionsOk.ent := fn_ok (C := impl_RegionsOk.ctx k) Try.func124 (by kernel_rfl) (by kernel_rfl) mixed tdsOk (.cons (impl_within.ok k) EntsOk.nil) (by kernel_rfl) (Nat.le_of_ble_eq_true (by kernel_rfl)) (by kernel_rfl) (impl_RegionsOk.runs k) (impl_RegionsOk.obls k)
/-! loop.example/g00200/impl.isPart -/
def impl_isPart.f (k : Nat) (a0 : Int) : Option (Bool) :=
  (impl_within.f k a0 1 4).bind fun t1 => (some t1)
def impl_isPart.sig : Sig := ⟨[.val false (.int .i64) []], [.val false .bool []]⟩
def impl_isPart.F (k : Nat) (x : Args impl_isPart.sig.ps) : Option (Res impl_isPart.sig) := impl_isPart.f k x.1
def impl_isPart.ann (k : Nat) : Ann (Res impl_isPart.sig) := .nil
def impl_isPart.ent : Ent := ⟨178, impl_isPart.sig, impl_isPart.F⟩
def impl_isPart.ctx (k : Nat) : Ctx := ⟨tds, [impl_within.ent], k, 5⟩
theorem impl_isPart.runs (k : Nat) (x : Args impl_isPart.sig.ps) : impl_isPart.F k x = runF (impl_isPart.ctx k) impl_isPart.sig Try.f178 (Try.f178.body.getD .skip) (impl_isPart.ann k) x := by kernel_rfl
theorem impl_isPart.obls (k : Nat) : obl (impl_isPart.ctx k) 0 (Try.f178.body.getD .skip) (impl_isPart.ann k) (retK tds impl_isPart.sig Try.f178.results.toList) := ⟨trivial, ⟨trivial, trivial⟩⟩
theorem impl_isPart.ok (k : Nat) : EntOk Try.prog k impl_isPart.ent := fn_ok (C := impl_isPart.ctx k) Try.func178 (by kernel_rfl) (by kernel_rfl) mixed tdsOk (.cons (impl_within.ok k) EntsOk.nil) (by kernel_rfl) (Nat.le_of_ble_eq_true (by kernel_rfl)) (by kernel_rfl) (impl_isPart.runs k) (impl_isPart.obls k)
/-! loop.example/g00200/impl.isBudget -/
def impl_isBudget.f (k : Nat) (a0 : Int) : Option (Bool) :=
  (impl_within.f k a0 1 200).bind fun t1 => (some t1)
def impl_isBudget.sig : Sig := ⟨[.val false (.int .i64) []], [.val false .bool []]⟩
def impl_isBudget.F (k : Nat) (x : Args impl_isBudget.sig.ps) : Option (Res impl_isBudget.sig) := impl_isBudget.f k x.1
def impl_isBudget.ann (k : Nat) : Ann (Res impl_isBudget.sig) := .nil
def impl_isBudget.ent : Ent := ⟨179, impl_isBudget.sig, impl_isBudget.F⟩
def impl_isBudget.ctx (k : Nat) : Ctx := ⟨tds, [impl_within.ent], k, 5⟩
theorem impl_isBudget.runs (k : Nat) (x : Args impl_isBudget.sig.ps) : impl_isBudget.F k x = runF (impl_isBudget.ctx k) impl_isBudget.sig Try.f179 (Try.f179.body.getD .skip) (impl_isBudget.ann k) x := by kernel_rfl
theorem impl_isBudget.obls (k : Nat) : obl (impl_isBudget.ctx k) 0 (Try.f179.body.getD .skip) (impl_isBudget.ann k) (retK tds impl_isBudget.sig Try.f179.results.toList) := ⟨trivial, ⟨trivial, trivial⟩⟩
theorem impl_isBudget.ok (k : Nat) : EntOk Try.prog k impl_isBudget.ent := fn_ok (C := impl_isBudget.ctx k) Try.func179 (by kernel_rfl) (by kernel_rfl) mixed tdsOk (.cons (impl_within.ok k) EntsOk.nil) (by kernel_rfl) (Nat.le_of_ble_eq_true (by kernel_rfl)) (by kernel_rfl) (impl_isBudget.runs k) (impl_isBudget.obls k)
/-! loop.example/g00200/impl.PlanOk -/
def impl_PlanOk.l1 (k : Nat)  : Nat → Int × Int × (List (Int × Int)) × Unit → Option (Bool)
  | 0, _ => none
  | n + 1, (x1, x2, x3, _) => if x2 < x1 then (if 0 ≤ x2 then (if x2 < (x3.length : Int) then ((impl_isPart.f k ((el (.pair (.int .i64) (.int .i64)) x3 x2.toNat).1)).bind fun t1 => (if ¬ t1 = true then (some false) else ((impl_isBudget.f k ((el (.pair (.int .i64) (.int .i64)) x3 x2.toNat).2)).bind fun t2 => (if ¬ t2 = true then (some false) else (impl_PlanOk.l1 k n (x1, w64 (x2 + 1), x3, ())))))) else none) else none) else ((impl_within.f k (x3.length : Int) 1 12).bind fun t3 => (some t3))
def impl_PlanOk.f (k : Nat) (a0 : List (Int × Int)) : Option (Bool) :=
  impl_PlanOk.l1 k k ((a0.length : Int), 0, a0, ())
def impl_PlanOk.Sl1 : Shape := ⟨[(0, false, [.own 0]), (5, false, [.own 0]), (6, false, [.int .i64]), (7, false, [.int .i64])], [(0, .view false 34 (.pair (.int .i64) (.int .i64)))], 1⟩
def impl_PlanOk.sig : Sig := ⟨[.val false (.sl 34 (.pair (.int .i64) (.int .i64))) [0]], [.val false .bool []]⟩
def impl_PlanOk.F (k : Nat) (x : Args impl_PlanOk.sig.ps) : Option (Res impl_PlanOk.sig) := impl_PlanOk.f k x.1
def impl_PlanOk.ann (k : Nat) : Ann (Res impl_PlanOk.sig) := (.seq .nil (.seq (.seq .nil (.block (.loop impl_PlanOk.Sl1 (impl_PlanOk.l1 k) fun n1 => .nil))) .nil))
def impl_PlanOk.ent : Ent := ⟨125, impl_PlanOk.sig, impl_PlanOk.F⟩
def impl_PlanOk.ctx (k : Nat) : Ctx := ⟨tds, [impl_within.ent, impl_isPart.ent, impl_isBudget.ent], k, 25⟩
theorem impl_PlanOk.runs (k : Nat) (x : Args impl_PlanOk.sig.ps) : impl_PlanOk.F k x = runF (impl_PlanOk.ctx k) impl_PlanOk.sig Try.f125 (Try.f125.body.getD .skip) (impl_PlanOk.ann k) x := by kernel_rfl
theorem impl_PlanOk.obls (k : Nat) : obl (impl_PlanOk.ctx k) 1 (Try.f125.body.getD .skip) (impl_PlanOk.ann k) (retK tds impl_PlanOk.sig Try.f125.results.toList) := ⟨trivial, ⟨⟨trivial, ⟨⟨by kernel_rfl, fun x => by kernel_rfl⟩, fun n => ⟨fun x => by kernel_rfl, ⟨trivial, ⟨⟨trivial, trivial⟩, ⟨⟨trivial, ⟨trivial, ⟨⟨trivial, trivial⟩, trivial⟩⟩⟩, trivial⟩⟩⟩⟩⟩⟩, ⟨trivial, trivial⟩⟩⟩
theorem impl_PlanOk.ok (k : Nat) : EntOk Try.prog k impl_PlanOk.ent := fn_ok (C := impl_PlanOk.ctx k) Try.func125 (by kernel_rfl) (by kernel_rfl) mixed tdsOk (.cons (impl_within.ok k) (.cons (impl_isPart.ok k) (.cons (impl_isBudget.ok k) EntsOk.nil))) (by kernel_rfl) (Nat.le_of_ble_eq_true (by kernel_rfl)) (by kernel_rfl) (impl_PlanOk.runs k) (impl_PlanOk.obls k)
/-! loop.example/g00200/impl.PortOk -/
def impl_PortOk.f (k : Nat) (a0 : Int × Int × Int × Int × Int) : Option (Bool) :=
  (impl_isPart.f k a0.2.1).bind fun t1 => (if ¬ t1 = true then (some false) else ((impl_isPart.f k a0.2.2.1).bind fun t2 => (if ¬ t2 = true then (some false) else (if a0.2.1 = a0.2.2.1 then (some false) else (if a0.1 = 1 then ((impl_within.f k a0.2.2.2.1 1 6).bind fun t3 => (if t3 = true then (some (decide (a0.2.2.2.2 = 0))) else (some false))) else (if a0.1 = 2 then (if a0.2.2.2.1 = 1 then ((impl_within.f k a0.2.2.2.2 1 100).bind fun t4 => (some t4)) else (some false)) else (some false)))))))
def impl_PortOk.sig : Sig := ⟨[.val true (.pair (.int .i64) (.pair (.int .i64) (.pair (.int .i64) (.pair (.int .i64) (.int .i64))))) []], [.val false .bool []]⟩
def impl_PortOk.F (k : Nat) (x : Args impl_PortOk.sig.ps) : Option (Res impl_PortOk.sig) := impl_PortOk.f k x.1
def impl_PortOk.ann (k : Nat) : Ann (Res impl_PortOk.sig) := .nil
def impl_PortOk.ent : Ent := ⟨180, impl_PortOk.sig, impl_PortOk.F⟩
def impl_PortOk.ctx (k : Nat) : Ctx := ⟨tds, [impl_within.ent, impl_isPart.ent], k, 44⟩
theorem impl_PortOk.runs (k : Nat) (x : Args impl_PortOk.sig.ps) : impl_PortOk.F k x = runF (impl_PortOk.ctx k) impl_PortOk.sig Try.f180 (Try.f180.body.getD .skip) (impl_PortOk.ann k) x := by kernel_rfl
theorem impl_PortOk.obls (k : Nat) : obl (impl_PortOk.ctx k) 0 (Try.f180.body.getD .skip) (impl_PortOk.ann k) (retK tds impl_PortOk.sig Try.f180.results.toList) := ⟨trivial, ⟨⟨trivial, ⟨⟨trivial, trivial⟩, trivial⟩⟩, ⟨⟨trivial, ⟨⟨trivial, trivial⟩, trivial⟩⟩, ⟨trivial, trivial⟩⟩⟩⟩
theorem impl_PortOk.ok (k : Nat) : EntOk Try.prog k impl_PortOk.ent := fn_ok (C := impl_PortOk.ctx k) Try.func180 (by kernel_rfl) (by kernel_rfl) mixed tdsOk (.cons (impl_within.ok k) (.cons (impl_isPart.ok k) EntsOk.nil)) (by kernel_rfl) (Nat.le_of_ble_eq_true (by kernel_rfl)) (by kernel_rfl) (impl_PortOk.runs k) (impl_PortOk.obls k)
/-! loop.example/g00200/impl.portsOk -/
def impl_portsOk.l1 (k : Nat)  : Nat → Int × Int × (List (Int × Int × Int × Int × Int)) × Unit → Option (Bool)
  | 0, _ => none
  | n + 1, (x1, x2, x3, _) => if x2 < x1 then (if 0 ≤ x2 then (if x2 < (x3.length : Int) then ((impl_PortOk.f k ((el (.pair (.int .i64) (.pair (.int .i64) (.pair (.int .i64) (.pair (.int .i64) (.int .i64))))) x3 x2.toNat).1, (((el (.pair (.int .i64) (.pair (.int .i64) (.pair (.int .i64) (.pair (.int .i64) (.int .i64))))) x3 x2.toNat).2).1, ((((el (.pair (.int .i64) (.pair (.int .i64) (.pair (.int .i64) (.pair (.int .i64) (.int .i64))))) x3 x2.toNat).2).2).1, ((((el (.pair (.int .i64) (.pair (.int .i64) (.pair (.int .i64) (.pair (.int .i64) (.int .i64))))) x3 x2.toNat).2).2).2))))).bind fun t1 => (if ¬ t1 = true then (some false) else (impl_portsOk.l1 k n (x1, w64 (x2 + 1), x3, ())))) else none) else none) else (some (decide ((x3.length : Int) ≤ 6)))
def impl_portsOk.f (k : Nat) (a0 : List (Int × Int × Int × Int × Int)) : Option (Bool) :=
  impl_portsOk.l1 k k ((a0.length : Int), 0, a0, ())
def impl_portsOk.Sl1 : Shape := ⟨[(0, false, [.own 0]), (5, false, [.own 0]), (6, false, [.int .i64]), (7, false, [.int .i64])], [(0, .view false 63 (.pair (.int .i64) (.pair (.int .i64) (.pair (.int .i64) (.pair (.int .i64) (.int .i64))))))], 1⟩
def impl_portsOk.sig : Sig := ⟨[.val false (.sl 63 (.pair (.int .i64) (.pair (.int .i64) (.pair (.int .i64) (.pair (.int .i64) (.int .i64)))))) [0]], [.val false .bool []]⟩
def impl_portsOk.F (k : Nat) (x : Args impl_portsOk.sig.ps) : Option (Res impl_portsOk.sig) := impl_portsOk.f k x.1
def impl_portsOk.ann (k : Nat) : Ann (Res impl_portsOk.sig) := (.seq .nil (.seq (.seq .nil (.block (.loop impl_portsOk.Sl1 (impl_portsOk.l1 k) fun n1 => .nil))) .nil))
def impl_portsOk.ent : Ent := ⟨126, impl_portsOk.sig, impl_portsOk.F⟩
def impl_portsOk.ctx (k : Nat) : Ctx := ⟨tds, [impl_PortOk.ent], k, 18⟩
theorem impl_portsOk.runs (k : Nat) (x : Args impl_portsOk.sig.ps) : impl_portsOk.F k x = runF (impl_portsOk.ctx k) impl_portsOk.sig Try.f126 (Try.f126.body.getD .skip) (impl_portsOk.ann k) x := by kernel_rfl
theorem impl_portsOk.obls (k : Nat) : obl (impl_portsOk.ctx k) 1 (Try.f126.body.getD .skip) (impl_portsOk.ann k) (retK tds impl_portsOk.sig Try.f126.results.toList) := ⟨trivial, ⟨⟨trivial, ⟨⟨by kernel_rfl, fun x => by kernel_rfl⟩, fun n => ⟨fun x => by kernel_rfl, ⟨trivial, ⟨⟨trivial, trivial⟩, ⟨⟨trivial, ⟨trivial, ⟨⟨trivial, trivial⟩, trivial⟩⟩⟩, trivial⟩⟩⟩⟩⟩⟩, ⟨trivial, trivial⟩⟩⟩
theorem impl_portsOk.ok (k : Nat) : EntOk Try.prog k impl_portsOk.ent := fn_ok (C := impl_portsOk.ctx k) Try.func126 (by kernel_rfl) (by kernel_rfl) mixed tdsOk (.cons (impl_PortOk.ok k) EntsOk.nil) (by kernel_rfl) (Nat.le_of_ble_eq_true (by kernel_rfl)) (by kernel_rfl) (impl_portsOk.runs k) (impl_portsOk.obls k)
/-! loop.example/g00200/impl.ruleFor -/
def impl_ruleFor.l1 (k : Nat)  : Nat → Int × Int × Int × Int × (List (Int × Int × Int)) × Unit → Option (Int)
  | 0, _ => none
  | n + 1, (x1, x2, x3, x4, x5, _) => if x4 < x3 then (if 0 ≤ x4 then (if x4 < (x5.length : Int) then (if ((el (.pair (.int .i64) (.pair (.int .i64) (.int .i64))) x5 x4.toNat).1) = x1 then (if (((el (.pair (.int .i64) (.pair (.int .i64) (.int .i64))) x5 x4.toNat).2).1) = x2 then (some x4) else (impl_ruleFor.l1 k n (x1, x2, x3, w64 (x4 + 1), x5, ()))) else (impl_ruleFor.l1 k n (x1, x2, x3, w64 (x4 + 1), x5, ()))) else none) else none) else (some (-1))
def impl_ruleFor.f (k : Nat) (a0 : List (Int × Int × Int)) (a1 : Int) (a2 : Int) : Option (Int) :=
  impl_ruleFor.l1 k k (a1, a2, (a0.length : Int), 0, a0, ())
def impl_ruleFor.Sl1 : Shape := ⟨[(1, false, [.int .i64]), (2, false, [.int .i64]), (9, false, [.own 0]), (10, false, [.int .i64]), (11, false, [.int .i64])], [(0, .view false 39 (.pair (.int .i64) (.pair (.int .i64) (.int .i64))))], 1⟩
def impl_ruleFor.sig : Sig := ⟨[.val false (.sl 39 (.pair (.int .i64) (.pair (.int .i64) (.int .i64)))) [0], .val false (.int .i64) [], .val false (.int .i64) []], [.val false (.int .i64) []]⟩
def impl_ruleFor.F (k : Nat) (x : Args impl_ruleFor.sig.ps) : Option (Res impl_ruleFor.sig) := impl_ruleFor.f k x.1 x.2.1 x.2.2.1
def impl_ruleFor.ann (k : Nat) : Ann (Res impl_ruleFor.sig) := (.seq .nil (.seq (.seq .nil (.block (.loop impl_ruleFor.Sl1 (impl_ruleFor.l1 k) fun n1 => .nil))) .nil))
def impl_ruleFor.ent : Ent := ⟨141, impl_ruleFor.sig, impl_ruleFor.F⟩
def impl_ruleFor.ctx (k : Nat) : Ctx := ⟨tds, [], k, 28⟩
theorem impl_ruleFor.runs (k : Nat) (x : Args impl_ruleFor.sig.ps) : impl_ruleFor.F k x = runF (impl_ruleFor.ctx k) impl_ruleFor.sig Try.f141 (Try.f141.body.getD .skip) (impl_ruleFor.ann k) x := by kernel_rfl
theorem impl_ruleFor.obls (k : Nat) : obl (impl_ruleFor.ctx k) 1 (Try.f141.body.getD .skip) (impl_ruleFor.ann k) (retK tds impl_ruleFor.sig Try.f141.results.toList) := ⟨trivial, ⟨⟨trivial, ⟨⟨by kernel_rfl, fun x => by kernel_rfl⟩, fun n => ⟨fun x => by kernel_rfl, ⟨trivial, ⟨⟨trivial, trivial⟩, ⟨⟨trivial, ⟨trivial, ⟨⟨trivial, trivial⟩, trivial⟩⟩⟩, trivial⟩⟩⟩⟩⟩⟩, ⟨trivial, trivial⟩⟩⟩
theorem impl_ruleFor.ok (k : Nat) : EntOk Try.prog k impl_ruleFor.ent := fn_ok (C := impl_ruleFor.ctx k) Try.func141 (by kernel_rfl) (by kernel_rfl) mixed tdsOk EntsOk.nil (by kernel_rfl) (Nat.le_of_ble_eq_true (by kernel_rfl)) (by kernel_rfl) (impl_ruleFor.runs k) (impl_ruleFor.obls k)
/-! loop.example/g00200/impl.RulesOk -/
def impl_RulesOk.l1 (k : Nat)  : Nat → Int × Int × (List (Int × Int × Int)) × Unit → Option (Bool)
  | 0, _ => none
  | n + 1, (x1, x2, x3, _) => if x2 < x1 then (if 0 ≤ x2 then (if x2 < (x3.length : Int) then ((impl_isPart.f k ((el (.pair (.int .i64) (.pair (.int .i64) (.int .i64))) x3 x2.toNat).1)).bind fun t1 => (if ¬ t1 = true then (some false) else ((impl_within.f k (((el (.pair (.int .i64) (.pair (.int .i64) (.int .i64))) x3 x2.toNat).2).1) 1 2).bind fun t2 => (if ¬ t2 = true then (some false) else ((impl_within.f k (((el (.pair (.int .i64) (.pair (.int .i64) (.int .i64))) x3 x2.toNat).2).2) 0 4).bind fun t3 => (if ¬ t3 = true then (some false) else ((impl_ruleFor.f k x3 ((el (.pair (.int .i64) (.pair (.int .i64) (.int .i64))) x3 x2.toNat).1) (((el (.pair (.int .i64) (.pair (.int .i64) (.int .i64))) x3 x2.toNat).2).1)).bind fun t4 => (if ¬ t4 = x2 then (some false) else (if (((el (.pair (.int .i64) (.pair (.int .i64) (.int .i64))) x3 x2.toNat).2).1) = 1 then (if (((el (.pair (.int .i64) (.pair (.int .i64) (.int .i64))) x3 x2.toNat).2).2) = 0 then (some false) else (impl_RulesOk.l1 k n (x1, w64 (x2 + 1), x3, ()))) else (impl_RulesOk.l1 k n (x1, w64 (x2 + 1), x3, ()))))))))))) else none) else none) else (some (decide ((x3.length : Int) ≤ 8)))
def impl_RulesOk.f (k : Nat) (a0 : List (Int × Int × Int)) : Option (Bool) :=
  impl_RulesOk.l1 k k ((a0.length : Int), 0, a0, ())
def impl_RulesOk.Sl1 : Shape := ⟨[(0, false, [.own 0]), (5, false, [.own 0]), (6, false, [.int .i64]), (7, false, [.int .i64])], [(0, .view false 39 (.pair (.int .i64) (.pair (.int .i64) (.int .i64))))], 1⟩
def impl_RulesOk.sig : Sig := ⟨[.val false (.sl 39 (.pair (.int .i64) (.pair (.int .i64) (.int .i64)))) [0]], [.val false .bool []]⟩
def impl_RulesOk.F (k : Nat) (x : Args impl_RulesOk.sig.ps) : Option (Res impl_RulesOk.sig) := impl_RulesOk.f k x.1
def impl_RulesOk.ann (k : Nat) : Ann (Res impl_RulesOk.sig) := (.seq .nil (.seq (.seq .nil (.block (.loop impl_RulesOk.Sl1 (impl_RulesOk.l1 k) fun n1 => .nil))) .nil))
def impl_RulesOk.ent : Ent := ⟨127, impl_RulesOk.sig, impl_RulesOk.F⟩
def impl_RulesOk.ctx (k : Nat) : Ctx := ⟨tds, [impl_within.ent, impl_ruleFor.ent, impl_isPart.ent], k, 50⟩
theorem impl_RulesOk.runs (k : Nat) (x : Args impl_RulesOk.sig.ps) : impl_RulesOk.F k x = runF (impl_RulesOk.ctx k) impl_RulesOk.sig Try.f127 (Try.f127.body.getD .skip) (impl_RulesOk.ann k) x := by kernel_rfl
theorem impl_RulesOk.obls (k : Nat) : obl (impl_RulesOk.ctx k) 1 (Try.f127.body.getD .skip) (impl_RulesOk.ann k) (retK tds impl_RulesOk.sig Try.f127.results.toList) := ⟨trivial, ⟨⟨trivial, ⟨⟨by kernel_rfl, fun x => by kernel_rfl⟩, fun n => ⟨fun x => by kernel_rfl, ⟨trivial, ⟨⟨trivial, trivial⟩, ⟨⟨trivial, ⟨⟨trivial, ⟨⟨trivial, trivial⟩, trivial⟩⟩, ⟨trivial, ⟨⟨trivial, trivial⟩, trivial⟩⟩⟩⟩, trivial⟩⟩⟩⟩⟩⟩, ⟨trivial, trivial⟩⟩⟩
theorem impl_RulesOk.ok (k : Nat) : EntOk Try.prog k impl_RulesOk.ent := fn_ok (C := impl_RulesOk.ctx k) Try.func127 (by kernel_rfl) (by kernel_rfl) mixed tdsOk (.cons (impl_within.ok k) (.cons (impl_ruleFor.ok k) (.cons (impl_isPart.ok k) EntsOk.nil))) (by kernel_rfl) (Nat.le_of_ble_eq_true (by kernel_rfl)) (by kernel_rfl) (impl_RulesOk.runs k) (impl_RulesOk.obls k)
/-! loop.example/g00200/impl.ReadCode -/
def impl_ReadCode.l1 (k : Nat)  : Nat → ByteArray × Int × (List (Int × Int)) × Unit → Option ((List (Int × Int)) × Bool)
  | 0, _ => none
  | n + 1, (x1, x2, x3, _) => if x2 < (x1.size : Int) then (if 0 ≤ x2 then (if x2 < (x1.size : Int) then (if 0 ≤ w64 (x2 + 1) then (if w64 (x2 + 1) < (x1.size : Int) then (((some ([(w64 (bt x1 x2), w64 (bt x1 (w64 (x2 + 1))))] : List (Int × Int)))).bind fun y2 => (if (x3.length + y2.length) * 16 ≤ 140737488355328 then (((some (x3 ++ y2))).bind fun y3 => (impl_ReadCode.l1 k n (x1, w64 (x2 + 2), y3, ()))) else none)) else none) else none) else none) else none) else (some (x3, true))
def impl_ReadCode.f (k : Nat) (a0 : ByteArray) : Option ((List (Int × Int)) × Bool) :=
  if ¬ (Int.tmod (a0.size : Int) 2) = 0 then (some ([], false)) else (if 120 < (a0.size : Int) then (some ([], false)) else (((some ([] : List (Int × Int)))).bind fun y1 => (impl_ReadCode.l1 k k (a0, 0, y1, ()))))
def impl_ReadCode.Sl1 : Shape := ⟨[(0, false, [.str]), (4, false, [.own 0]), (5, false, [.int .i64])], [(0, .row 27 (.pair (.int .i64) (.int .i64)))], 1⟩
def impl_ReadCode.sig : Sig := ⟨[.val false .str []], [.val false (.sl 27 (.pair (.int .i64) (.int .i64))) [none], .val false .bool []]⟩
def impl_ReadCode.F (k : Nat) (x : Args impl_ReadCode.sig.ps) : Option (Res impl_ReadCode.sig) := impl_ReadCode.f k x.1
def impl_ReadCode.ann (k : Nat) : Ann (Res impl_ReadCode.sig) := (.seq .nil (.seq .nil (.seq .nil (.seq (.seq .nil (.block (.loop impl_ReadCode.Sl1 (impl_ReadCode.l1 k) fun n1 => .nil))) .nil))))
def impl_ReadCode.ent : Ent := ⟨137, impl_ReadCode.sig, impl_ReadCode.F⟩
def impl_ReadCode.ctx (k : Nat) : Ctx := ⟨tds, [], k, 36⟩
theorem impl_ReadCode.runs (k : Nat) (x : Args impl_ReadCode.sig.ps) : impl_ReadCode.F k x = runF (impl_ReadCode.ctx k) impl_ReadCode.sig Try.f137 (Try.f137.body.getD .skip) (impl_ReadCode.ann k) x := by kernel_rfl
theorem impl_ReadCode.obls (k : Nat) : obl (impl_ReadCode.ctx k) 0 (Try.f137.body.getD .skip) (impl_ReadCode.ann k) (retK tds impl_ReadCode.sig Try.f137.results.toList) := ⟨trivial, ⟨⟨trivial, ⟨⟨trivial, trivial⟩, trivial⟩⟩, ⟨trivial, ⟨⟨trivial, ⟨⟨by kernel_rfl, fun x => by kernel_rfl⟩, fun n => ⟨fun x => by kernel_rfl, ⟨⟨trivial, ⟨trivial, trivial⟩⟩, ⟨trivial, trivial⟩⟩⟩⟩⟩, ⟨trivial, trivial⟩⟩⟩⟩⟩
theorem impl_ReadCode.ok (k : Nat) : EntOk Try.prog k impl_ReadCode.ent := fn_ok (C := impl_ReadCode.ctx k) Try.func137 (by kernel_rfl) (by kernel_rfl) mixed tdsOk EntsOk.nil (by kernel_rfl) (Nat.le_of_ble_eq_true (by kernel_rfl)) (by kernel_rfl) (impl_ReadCode.runs k) (impl_ReadCode.obls k)
/-! loop.example/g00200/impl.codesOk -/
def impl_codesOk.l1 (k : Nat)  : Nat → Int × Int × Int × List ByteArray × Unit → Option (Bool)
  | 0, _ => none
  | n + 1, (x1, x2, x3, x4, _) => if x3 < x2 then (if 0 ≤ x3 then (if x3 < (x4.length : Int) then ((impl_ReadCode.f k (el .str x4 x3.toNat)).bind fun t1 => (if ¬ t1.2 = true then (some false) else (impl_codesOk.l1 k n (x1, x2, w64 (x3 + 1), x4, ())))) else none) else none) else (some (decide ((x4.length : Int) = x1)))
def impl_codesOk.f (k : Nat) (a0 : List ByteArray) (a1 : Int) : Option (Bool) :=
  impl_codesOk.l1 k k (a1, (a0.length : Int), 0, a0, ())
def impl_codesOk.Sl1 : Shape := ⟨[(0, false, [.own 0]), (1, false, [.int .i64]), (9, false, [.own 0]), (10, false, [.int .i64]), (11, false, [.int .i64])], [(0, .view false 9 .str)], 1⟩
def impl_codesOk.sig : Sig := ⟨[.val false (.sl 9 .str) [0], .val false (.int .i64) []], [.val false .bool []]⟩
def impl_codesOk.F (k : Nat) (x : Args impl_codesOk.sig.ps) : Option (Res impl_codesOk.sig) := impl_codesOk.f k x.1 x.2.1
def impl_codesOk.ann (k : Nat) : Ann (Res impl_codesOk.sig) := (.seq .nil (.seq (.seq .nil (.block (.loop impl_codesOk.Sl1 (impl_codesOk.l1 k) fun n1 => .nil))) .nil))
def impl_codesOk.ent : Ent := ⟨128, impl_codesOk.sig, impl_codesOk.F⟩
def impl_codesOk.ctx (k : Nat) : Ctx := ⟨tds, [impl_ReadCode.ent], k, 27⟩
theorem impl_codesOk.runs (k : Nat) (x : Args impl_codesOk.sig.ps) : impl_codesOk.F k x = runF (impl_codesOk.ctx k) impl_codesOk.sig Try.f128 (Try.f128.body.getD .skip) (impl_codesOk.ann k) x := by kernel_rfl
theorem impl_codesOk.obls (k : Nat) : obl (impl_codesOk.ctx k) 1 (Try.f128.body.getD .skip) (impl_codesOk.ann k) (retK tds impl_codesOk.sig Try.f128.results.toList) := ⟨trivial, ⟨⟨trivial, ⟨⟨by kernel_rfl, fun x => by kernel_rfl⟩, fun n => ⟨fun x => by kernel_rfl, ⟨trivial, ⟨⟨trivial, trivial⟩, ⟨⟨trivial, ⟨trivial, ⟨trivial, ⟨⟨trivial, trivial⟩, trivial⟩⟩⟩⟩, trivial⟩⟩⟩⟩⟩⟩, ⟨trivial, trivial⟩⟩⟩
theorem impl_codesOk.ok (k : Nat) : EntOk Try.prog k impl_codesOk.ent := fn_ok (C := impl_codesOk.ctx k) Try.func128 (by kernel_rfl) (by kernel_rfl) mixed tdsOk (.cons (impl_ReadCode.ok k) EntsOk.nil) (by kernel_rfl) (Nat.le_of_ble_eq_true (by kernel_rfl)) (by kernel_rfl) (impl_codesOk.runs k) (impl_codesOk.obls k)
/-! loop.example/g00200/impl.partsOk -/
def impl_partsOk.l3 (k : Nat)  : Nat → Int × Int × Int × (List (Int × Int)) × (List (Int × Int)) × (List (Int × Int × Int × Int × Int)) × (List (Int × Int × Int)) × List ByteArray × Unit → Option (Bool)
  | 0, _ => none
  | n + 1, (x1, x2, x3, x4, x5, x6, x7, x8, _) => if x3 < x2 then (if 0 ≤ x3 then (if x3 < (x7.length : Int) then (impl_partsOk.l3 k n (max x1 ((el (.pair (.int .i64) (.pair (.int .i64) (.int .i64))) x7 x3.toNat).1), x2, w64 (x3 + 1), x4, x5, x6, x7, x8, ())) else none) else none) else (some (decide (x1 ≤ (x4.length : Int))))
def impl_partsOk.l2 (k : Nat)  : Nat → Int × Int × Int × (List (Int × Int)) × (List (Int × Int)) × (List (Int × Int × Int × Int × Int)) × (List (Int × Int × Int)) × List ByteArray × Unit → Option (Bool)
  | 0, _ => none
  | n + 1, (x1, x2, x3, x4, x5, x6, x7, x8, _) => if x3 < x2 then (if 0 ≤ x3 then (if x3 < (x6.length : Int) then (impl_partsOk.l2 k n (max (max x1 (((el (.pair (.int .i64) (.pair (.int .i64) (.pair (.int .i64) (.pair (.int .i64) (.int .i64))))) x6 x3.toNat).2).1)) ((((el (.pair (.int .i64) (.pair (.int .i64) (.pair (.int .i64) (.pair (.int .i64) (.int .i64))))) x6 x3.toNat).2).2).1), x2, w64 (x3 + 1), x4, x5, x6, x7, x8, ())) else none) else none) else (impl_partsOk.l3 k k (x1, (x7.length : Int), 0, x4, x5, x6, x7, x8, ()))
def impl_partsOk.l1 (k : Nat)  : Nat → Int × Int × Int × (List (Int × Int)) × (List (Int × Int)) × (List (Int × Int × Int × Int × Int)) × (List (Int × Int × Int)) × List ByteArray × Unit → Option (Bool)
  | 0, _ => none
  | n + 1, (x1, x2, x3, x4, x5, x6, x7, x8, _) => if x3 < x2 then (if 0 ≤ x3 then (if x3 < (x5.length : Int) then (impl_partsOk.l1 k n (max x1 ((el (.pair (.int .i64) (.int .i64)) x5 x3.toNat).1), x2, w64 (x3 + 1), x4, x5, x6, x7, x8, ())) else none) else none) else (impl_partsOk.l2 k k (x1, (x6.length : Int), 0, x4, x5, x6, x7, x8, ()))
def impl_partsOk.f (k : Nat) (a0 : List (Int × Int) × List (Int × Int) × List (Int × Int × Int × Int × Int) × List (Int × Int × Int) × List ByteArray) : Option (Bool) :=
  impl_partsOk.l1 k k (0, (a0.2.1.length : Int), 0, a0.1, a0.2.1, a0.2.2.1, a0.2.2.2.1, a0.2.2.2.2, ())
def impl_partsOk.Sl1 : Shape := ⟨[(1, false, [.ptr 5 0]), (3, false, [.int .i64]), (11, false, [.own 1]), (12, false, [.int .i64]), (13, false, [.int .i64])], [(5, .blk 43 [.own 0, .own 1, .own 2, .own 3, .own 4]), (0, .view false 31 (.pair (.int .i64) (.int .i64))), (1, .view false 34 (.pair (.int .i64) (.int .i64))), (2, .view false 63 (.pair (.int .i64) (.pair (.int .i64) (.pair (.int .i64) (.pair (.int .i64) (.int .i64)))))), (3, .view false 39 (.pair (.int .i64) (.pair (.int .i64) (.int .i64)))), (4, .view false 9 .str)], 6⟩
def impl_partsOk.Sl2 : Shape := ⟨[(1, false, [.ptr 5 0]), (3, false, [.int .i64]), (23, false, [.own 2]), (24, false, [.int .i64]), (25, false, [.int .i64])], [(5, .blk 43 [.own 0, .own 1, .own 2, .own 3, .own 4]), (0, .view false 31 (.pair (.int .i64) (.int .i64))), (1, .view false 34 (.pair (.int .i64) (.int .i64))), (2, .view false 63 (.pair (.int .i64) (.pair (.int .i64) (.pair (.int .i64) (.pair (.int .i64) (.int .i64)))))), (3, .view false 39 (.pair (.int .i64) (.pair (.int .i64) (.int .i64)))), (4, .view false 9 .str)], 6⟩
def impl_partsOk.Sl3 : Shape := ⟨[(1, false, [.ptr 5 0]), (3, false, [.int .i64]), (37, false, [.own 3]), (38, false, [.int .i64]), (39, false, [.int .i64])], [(5, .blk 43 [.own 0, .own 1, .own 2, .own 3, .own 4]), (0, .view false 31 (.pair (.int .i64) (.int .i64))), (1, .view false 34 (.pair (.int .i64) (.int .i64))), (2, .view false 63 (.pair (.int .i64) (.pair (.int .i64) (.pair (.int .i64) (.pair (.int .i64) (.int .i64)))))), (3, .view false 39 (.pair (.int .i64) (.pair (.int .i64) (.int .i64)))), (4, .view false 9 .str)], 6⟩
def impl_partsOk.sig : Sig := ⟨[.val true (.pair (.sl 31 (.pair (.int .i64) (.int .i64))) (.pair (.sl 34 (.pair (.int .i64) (.int .i64))) (.pair (.sl 63 (.pair (.int .i64) (.pair (.int .i64) (.pair (.int .i64) (.pair (.int .i64) (.int .i64)))))) (.pair (.sl 39 (.pair (.int .i64) (.pair (.int .i64) (.int .i64)))) (.sl 9 .str))))) [0, 0, 0, 0, 0]], [.val false .bool []]⟩
def impl_partsOk.F (k : Nat) (x : Args impl_partsOk.sig.ps) : Option (Res impl_partsOk.sig) := impl_partsOk.f k x.1
def impl_partsOk.ann (k : Nat) : Ann (Res impl_partsOk.sig) := (.seq .nil (.seq .nil (.seq (.seq .nil (.block (.loop impl_partsOk.Sl1 (impl_partsOk.l1 k) fun n1 => .nil))) (.seq (.seq .nil (.block (.loop impl_partsOk.Sl2 (impl_partsOk.l2 k) fun n1 => .nil))) (.seq (.seq .nil (.block (.loop impl_partsOk.Sl3 (impl_partsOk.l3 k) fun n1 => .nil))) .nil)))))
def impl_partsOk.ent : Ent := ⟨129, impl_partsOk.sig, impl_partsOk.F⟩
def impl_partsOk.ctx (k : Nat) : Ctx := ⟨tds, [], k, 53⟩
theorem impl_partsOk.runs (k : Nat) (x : Args impl_partsOk.sig.ps) : impl_partsOk.F k x = runF (impl_partsOk.ctx k) impl_partsOk.sig Try.f129 (Try.f129.body.getD .skip) (impl_partsOk.ann k) x := by kernel_rfl
theorem impl_partsOk.obls (k : Nat) : obl (impl_partsOk.ctx k) 5 (Try.f129.body.getD .skip) (impl_partsOk.ann k) (retK tds impl_partsOk.sig Try.f129.results.toList) := ⟨trivial, ⟨trivial, ⟨⟨trivial, ⟨⟨by kernel_rfl, fun x => by kernel_rfl⟩, fun n => ⟨fun x => by kernel_rfl, ⟨trivial, ⟨⟨trivial, trivial⟩, ⟨⟨trivial, trivial⟩, trivial⟩⟩⟩⟩⟩⟩, ⟨⟨trivial, ⟨⟨by kernel_rfl, fun x => by kernel_rfl⟩, fun n => ⟨fun x => by kernel_rfl, ⟨trivial, ⟨⟨trivial, trivial⟩, ⟨⟨trivial, trivial⟩, trivial⟩⟩⟩⟩⟩⟩, ⟨⟨trivial, ⟨⟨by kernel_rfl, fun x => by kernel_rfl⟩, fun n => ⟨fun x => by kernel_rfl, ⟨trivial, ⟨⟨trivial, trivial⟩, ⟨⟨trivial, trivial⟩, trivial⟩⟩⟩⟩⟩⟩, ⟨trivial, trivial⟩⟩⟩⟩⟩⟩
theorem impl_partsOk.ok (k : Nat) : EntOk Try.prog k impl_partsOk.ent := fn_ok (C := impl_partsOk.ctx k) Try.func129 (by kernel_rfl) (by kernel_rfl) mixed tdsOk EntsOk.nil (by kernel_rfl) (Nat.le_of_ble_eq_true (by kernel_rfl)) (by kernel_rfl) (impl_partsOk.runs k) (impl_partsOk.obls k)
/-! loop.example/g00200/impl.SetupFault -/
def impl_SetupFault.f (k : Nat) (a0 : List (Int × Int) × List (Int × Int) × List (Int × Int × Int × Int × Int) × List (Int × Int × Int) × List ByteArray) : Option (Int) :=
  (impl_RegionsOk.f k a0.1).bind fun t1 => (if ¬ t1 = true then (some 1) else ((impl_PlanOk.f k a0.2.1).bind fun t2 => (if ¬ t2 = true then (some 2) else ((impl_portsOk.f k a0.2.2.1).bind fun t3 => (if ¬ t3 = true then (some 3) else ((impl_RulesOk.f k a0.2.2.2.1).bind fun t4 => (if ¬ t4 = true then (some 4) else ((impl_codesOk.f k a0.2.2.2.2 (a0.1.length : Int)).bind fun t5 => (if ¬ t5 = true then (some 5) else ((impl_partsOk.f k a0).bind fun t6 => (if ¬ t6 = true then (some 6) else (some 0))))))))))))
def impl_SetupFault.sig : Sig := ⟨[.val true (.pair (.sl 31 (.pair (.int .i64) (.int .i64))) (.pair (.sl 34 (.pair (.int .i64) (.int .i64))) (.pair (.sl 63 (.pair (.int .i64) (.pair (.int .i64) (.pair (.int .i64) (.pair (.int .i64) (.int .i64)))))) (.pair (.sl 39 (.pair (.int .i64) (.pair (.int .i64) (.int .i64)))) (.sl 9 .str))))) [0, 0, 0, 0, 0]], [.val false (.int .i64) []]⟩
def impl_SetupFault.F (k : Nat) (x : Args impl_SetupFault.sig.ps) : Option (Res impl_SetupFault.sig) := impl_SetupFault.f k x.1
def impl_SetupFault.ann (k : Nat) : Ann (Res impl_SetupFault.sig) := .nil
def impl_SetupFault.ent : Ent := ⟨50, impl_SetupFault.sig, impl_SetupFault.F⟩
def impl_SetupFault.ctx (k : Nat) : Ctx := ⟨tds, [impl_RegionsOk.ent, impl_PlanOk.ent, impl_portsOk.ent, impl_RulesOk.ent, impl_codesOk.ent, impl_partsOk.ent], k, 35⟩
theorem impl_SetupFault.runs (k : Nat) (x : Args impl_SetupFault.sig.ps) : impl_SetupFault.F k x = runF (impl_SetupFault.ctx k) impl_SetupFault.sig Try.f50 (Try.f50.body.getD .skip) (impl_SetupFault.ann k) x := by kernel_rfl
theorem impl_SetupFault.obls (k : Nat) : obl (impl_SetupFault.ctx k) 5 (Try.f50.body.getD .skip) (impl_SetupFault.ann k) (retK tds impl_SetupFault.sig Try.f50.results.toList) := ⟨trivial, ⟨⟨trivial, ⟨⟨trivial, trivial⟩, ⟨trivial, ⟨⟨trivial, trivial⟩, ⟨trivial, ⟨⟨trivial, trivial⟩, ⟨trivial, ⟨⟨trivial, trivial⟩, ⟨trivial, ⟨⟨trivial, trivial⟩, ⟨trivial, ⟨⟨trivial, trivial⟩, trivial⟩⟩⟩⟩⟩⟩⟩⟩⟩⟩⟩⟩, ⟨trivial, trivial⟩⟩⟩
theorem impl_SetupFault.ok (k : Nat) : EntOk Try.prog k impl_SetupFault.ent := fn_ok (C := impl_SetupFault.ctx k) Try.func50 (by kernel_rfl) (by kernel_rfl) mixed tdsOk (.cons (impl_RegionsOk.ok k) (.cons (impl_PlanOk.ok k) (.cons (impl_portsOk.ok k) (.cons (impl_RulesOk.ok k) (.cons (impl_codesOk.ok k) (.cons (impl_partsOk.ok k) EntsOk.nil)))))) (by kernel_rfl) (Nat.le_of_ble_eq_true (by kernel_rfl)) (by kernel_rfl) (impl_SetupFault.runs k) (impl_SetupFault.obls k)
/-! loop.example/g00200/impl.isWord -/
def impl_isWord.f (k : Nat) (a0 : Int) : Option (Bool) :=
  (impl_within.f k a0 0 65535).bind fun t1 => (some t1)
def impl_isWord.sig : Sig := ⟨[.val false (.int .i64) []], [.val false .bool []]⟩
def impl_isWord.F (k : Nat) (x : Args impl_isWord.sig.ps) : Option (Res impl_isWord.sig) := impl_isWord.f k x.1
def impl_isWord.ann (k : Nat) : Ann (Res impl_isWord.sig) := .nil
def impl_isWord.ent : Ent := ⟨161, impl_isWord.sig, impl_isWord.F⟩
def impl_isWord.ctx (k : Nat) : Ctx := ⟨tds, [impl_within.ent], k, 5⟩
theorem impl_isWord.runs (k : Nat) (x : Args impl_isWord.sig.ps) : impl_isWord.F k x = runF (impl_isWord.ctx k) impl_isWord.sig Try.f161 (Try.f161.body.getD .skip) (impl_isWord.ann k) x := by kernel_rfl
theorem impl_isWord.obls (k : Nat) : obl (impl_isWord.ctx k) 0 (Try.f161.body.getD .skip) (impl_isWord.ann k) (retK tds impl_isWord.sig Try.f161.results.toList) := ⟨trivial, ⟨trivial, trivial⟩⟩
theorem impl_isWord.ok (k : Nat) : EntOk Try.prog k impl_isWord.ent := fn_ok (C := impl_isWord.ctx k) Try.func161 (by kernel_rfl) (by kernel_rfl) mixed tdsOk (.cons (impl_within.ok k) EntsOk.nil) (by kernel_rfl) (Nat.le_of_ble_eq_true (by kernel_rfl)) (by kernel_rfl) (impl_isWord.runs k) (impl_isWord.obls k)
/-! loop.example/g00200/impl.wordsOk -/
def impl_wordsOk.l1 (k : Nat)  : Nat → Int × Int × List Int × Unit → Option (Bool)
  | 0, _ => none
  | n + 1, (x1, x2, x3, _) => if x2 < x1 then (if 0 ≤ x2 then (if x2 < (x3.length : Int) then ((impl_isWord.f k (el (.int .i64) x3 x2.toNat)).bind fun t1 => (if ¬ t1 = true then (some false) else (impl_wordsOk.l1 k n (x1, w64 (x2 + 1), x3, ())))) else none) else none) else (some true)
def impl_wordsOk.f (k : Nat) (a0 : List Int) : Option (Bool) :=
  impl_wordsOk.l1 k k ((a0.length : Int), 0, a0, ())
def impl_wordsOk.Sl1 : Shape := ⟨[(5, false, [.own 0]), (6, false, [.int .i64]), (7, false, [.int .i64])], [(0, .view false 3 (.int .i64))], 1⟩
def impl_wordsOk.sig : Sig := ⟨[.val false (.sl 3 (.int .i64)) [0]], [.val false .bool []]⟩
def impl_wordsOk.F (k : Nat) (x : Args impl_wordsOk.sig.ps) : Option (Res impl_wordsOk.sig) := impl_wordsOk.f k x.1
def impl_wordsOk.ann (k : Nat) : Ann (Res impl_wordsOk.sig) := (.seq .nil (.seq (.seq .nil (.block (.loop impl_wordsOk.Sl1 (impl_wordsOk.l1 k) fun n1 => .nil))) .nil))
def impl_wordsOk.ent : Ent := ⟨91, impl_wordsOk.sig, impl_wordsOk.F⟩
def impl_wordsOk.ctx (k : Nat) : Ctx := ⟨tds, [impl_isWord.ent], k, 15⟩
theorem impl_wordsOk.runs (k : Nat) (x : Args impl_wordsOk.sig.ps) : impl_wordsOk.F k x = runF (impl_wordsOk.ctx k) impl_wordsOk.sig Try.f91 (Try.f91.body.getD .skip) (impl_wordsOk.ann k) x := by kernel_rfl
theorem impl_wordsOk.obls (k : Nat) : obl (impl_wordsOk.ctx k) 1 (Try.f91.body.getD .skip) (impl_wordsOk.ann k) (retK tds impl_wordsOk.sig Try.f91.results.toList) := ⟨trivial, ⟨⟨trivial, ⟨⟨by kernel_rfl, fun x => by kernel_rfl⟩, fun n => ⟨fun x => by kernel_rfl, ⟨trivial, ⟨⟨trivial, trivial⟩, ⟨⟨trivial, ⟨trivial, ⟨⟨trivial, trivial⟩, trivial⟩⟩⟩, trivial⟩⟩⟩⟩⟩⟩, ⟨trivial, trivial⟩⟩⟩
theorem impl_wordsOk.ok (k : Nat) : EntOk Try.prog k impl_wordsOk.ent := fn_ok (C := impl_wordsOk.ctx k) Try.func91 (by kernel_rfl) (by kernel_rfl) mixed tdsOk (.cons (impl_isWord.ok k) EntsOk.nil) (by kernel_rfl) (Nat.le_of_ble_eq_true (by kernel_rfl)) (by kernel_rfl) (impl_wordsOk.runs k) (impl_wordsOk.obls k)
/-! loop.example/g00200/impl.CpuOk -/
def impl_CpuOk.f (k : Nat) (a0 : Int × List Int) : Option (Bool) :=
  (impl_within.f k a0.1 0 60).bind fun t1 => (if t1 = true then (if (a0.2.length : Int) ≤ 8 then ((impl_wordsOk.f k a0.2).bind fun t2 => (some t2)) else (some false)) else (some false))
def impl_CpuOk.sig : Sig := ⟨[.val true (.pair (.int .i64) (.sl 3 (.int .i64))) [0]], [.val false .bool []]⟩
def impl_CpuOk.F (k : Nat) (x : Args impl_CpuOk.sig.ps) : Option (Res impl_CpuOk.sig) := impl_CpuOk.f k x.1
def impl_CpuOk.ann (k : Nat) : Ann (Res impl_CpuOk.sig) := .nil
def impl_CpuOk.ent : Ent := ⟨92, impl_CpuOk.sig, impl_CpuOk.F⟩
def impl_CpuOk.ctx (k : Nat) : Ctx := ⟨tds, [impl_within.ent, impl_wordsOk.ent], k, 17⟩
theorem impl_CpuOk.runs (k : Nat) (x : Args impl_CpuOk.sig.ps) : impl_CpuOk.F k x = runF (impl_CpuOk.ctx k) impl_CpuOk.sig Try.f92 (Try.f92.body.getD .skip) (impl_CpuOk.ann k) x := by kernel_rfl
theorem impl_CpuOk.obls (k : Nat) : obl (impl_CpuOk.ctx k) 1 (Try.f92.body.getD .skip) (impl_CpuOk.ann k) (retK tds impl_CpuOk.sig Try.f92.results.toList) := ⟨trivial, ⟨trivial, trivial⟩⟩
theorem impl_CpuOk.ok (k : Nat) : EntOk Try.prog k impl_CpuOk.ent := fn_ok (C := impl_CpuOk.ctx k) Try.func92 (by kernel_rfl) (by kernel_rfl) mixed tdsOk (.cons (impl_within.ok k) (.cons (impl_wordsOk.ok k) EntsOk.nil)) (by kernel_rfl) (Nat.le_of_ble_eq_true (by kernel_rfl)) (by kernel_rfl) (impl_CpuOk.runs k) (impl_CpuOk.obls k)
/-! loop.example/g00200/impl.isNumber -/
def impl_isNumber.f (k : Nat) (a0 : Int) : Option (Bool) :=
  (impl_within.f k a0 0 1000000000).bind fun t1 => (some t1)
def impl_isNumber.sig : Sig := ⟨[.val false (.int .i64) []], [.val false .bool []]⟩
def impl_isNumber.F (k : Nat) (x : Args impl_isNumber.sig.ps) : Option (Res impl_isNumber.sig) := impl_isNumber.f k x.1
def impl_isNumber.ann (k : Nat) : Ann (Res impl_isNumber.sig) := .nil
def impl_isNumber.ent : Ent := ⟨93, impl_isNumber.sig, impl_isNumber.F⟩
def impl_isNumber.ctx (k : Nat) : Ctx := ⟨tds, [impl_within.ent], k, 5⟩
theorem impl_isNumber.runs (k : Nat) (x : Args impl_isNumber.sig.ps) : impl_isNumber.F k x = runF (impl_isNumber.ctx k) impl_isNumber.sig Try.f93 (Try.f93.body.getD .skip) (impl_isNumber.ann k) x := by kernel_rfl
theorem impl_isNumber.obls (k : Nat) : obl (impl_isNumber.ctx k) 0 (Try.f93.body.getD .skip) (impl_isNumber.ann k) (retK tds impl_isNumber.sig Try.f93.results.toList) := ⟨trivial, ⟨trivial, trivial⟩⟩
theorem impl_isNumber.ok (k : Nat) : EntOk Try.prog k impl_isNumber.ent := fn_ok (C := impl_isNumber.ctx k) Try.func93 (by kernel_rfl) (by kernel_rfl) mixed tdsOk (.cons (impl_within.ok k) EntsOk.nil) (by kernel_rfl) (Nat.le_of_ble_eq_true (by kernel_rfl)) (by kernel_rfl) (impl_isNumber.runs k) (impl_isNumber.obls k)
/-! loop.example/g00200/impl.KernelOk -/
def impl_KernelOk.l2 (k : Nat)  : Nat → Int × Int × Int × Bool × (List (Int × Int)) × (List (Int × Int)) × (List (Int × Int × Int × Int × Int)) × (List (Int × Int × Int)) × List ByteArray × List Int × (List (Int × (Int × List Int) × Int × Int × Int)) × (List (List (Int × Int))) × List Int × (List (Int × Int × Int × Int × Int)) × Unit → Option (Bool)
  | 0, _ => none
  | n + 1, (x1, x2, x3, x4, x5, x6, x7, x8, x9, x10, x11, x12, x13, x14, _) => if x2 < x1 then (if 0 ≤ x2 then (if x2 < (x12.length : Int) then (if 0 ≤ x2 then (if x2 < (x7.length : Int) then (if (((((el (.pair (.int .i64) (.pair (.int .i64) (.pair (.int .i64) (.pair (.int .i64) (.int .i64))))) x7 x2.toNat).2).2).2).1) < ((el (.sl 241 (.pair (.int .i64) (.int .i64))) x12 x2.toNat).length : Int) then (some false) else (impl_KernelOk.l2 k n (x1, w64 (x2 + 1), x3, x4, x5, x6, x7, x8, x9, x10, x11, x12, x13, x14, ()))) else none) else none) else none) else none) else (if (x13.length : Int) = 8 then ((impl_wordsOk.f k x13).bind fun t8 => (if t8 = true then ((impl_isNumber.f k x3).bind fun t9 => (some t9)) else (some false))) else (some false))
def impl_KernelOk.l1 (k : Nat)  : Nat → Int × Int × Int × Bool × (List (Int × Int)) × (List (Int × Int)) × (List (Int × Int × Int × Int × Int)) × (List (Int × Int × Int)) × List ByteArray × List Int × (List (Int × (Int × List Int) × Int × Int × Int)) × (List (List (Int × Int))) × List Int × (List (Int × Int × Int × Int × Int)) × Unit → Option (Bool)
  | 0, _ => none
  | n + 1, (x1, x2, x3, x4, x5, x6, x7, x8, x9, x10, x11, x12, x13, x14, _) => if x2 < x1 then (if 0 ≤ x2 then (if x2 < (x11.length : Int) then ((impl_within.f k ((el (.pair (.int .i64) (.pair (.pair (.int .i64) (.sl 3 (.int .i64))) (.pair (.int .i64) (.pair (.int .i64) (.int .i64))))) x11 x2.toNat).1) 0 1).bind fun t3 => (if ¬ t3 = true then (some false) else ((impl_CpuOk.f k (((el (.pair (.int .i64) (.pair (.pair (.int .i64) (.sl 3 (.int .i64))) (.pair (.int .i64) (.pair (.int .i64) (.int .i64))))) x11 x2.toNat).2).1)).bind fun t4 => (if ¬ t4 = true then (some false) else ((impl_isNumber.f k ((((el (.pair (.int .i64) (.pair (.pair (.int .i64) (.sl 3 (.int .i64))) (.pair (.int .i64) (.pair (.int .i64) (.int .i64))))) x11 x2.toNat).2).2).1)).bind fun t5 => (if ¬ t5 = true then (some false) else ((impl_isNumber.f k (((((el (.pair (.int .i64) (.pair (.pair (.int .i64) (.sl 3 (.int .i64))) (.pair (.int .i64) (.pair (.int .i64) (.int .i64))))) x11 x2.toNat).2).2).2).1)).bind fun t6 => (if ¬ t6 = true then (some false) else ((impl_isNumber.f k (((((el (.pair (.int .i64) (.pair (.pair (.int .i64) (.sl 3 (.int .i64))) (.pair (.int .i64) (.pair (.int .i64) (.int .i64))))) x11 x2.toNat).2).2).2).2)).bind fun t7 => (if ¬ t7 = true then (some false) else (impl_KernelOk.l1 k n (x1, w64 (x2 + 1), x3, x4, x5, x6, x7, x8, x9, x10, x11, x12, x13, x14, ())))))))))))) else none) else none) else (impl_KernelOk.l2 k k ((x12.length : Int), 0, x3, x4, x5, x6, x7, x8, x9, x10, x11, x12, x13, x14, ()))
def impl_KernelOk.f (k : Nat) (a0 : (List (Int × Int) × List (Int × Int) × List (Int × Int × Int × Int × Int) × List (Int × Int × Int) × List ByteArray) × List Int × List (Int × (Int × List Int) × Int × Int × Int) × List (List (Int × Int)) × List Int × Int × Bool × List (Int × Int × Int × Int × Int)) : Option (Bool) :=
  (impl_SetupFault.f k a0.1).bind fun t1 => (if ¬ t1 = 0 then (some false) else (if ¬ (a0.2.1.length : Int) = 64 then (some false) else ((impl_wordsOk.f k a0.2.1).bind fun t2 => (if ¬ t2 = true then (some false) else (if ¬ (a0.2.2.1.length : Int) = (a0.1.1.length : Int) then (some false) else (if ¬ (a0.2.2.2.1.length : Int) = (a0.1.2.2.1.length : Int) then (some false) else (impl_KernelOk.l1 k k ((a0.2.2.1.length : Int), 0, a0.2.2.2.2.2.1, a0.2.2.2.2.2.2.1, a0.1.1, a0.1.2.1, a0.1.2.2.1, a0.1.2.2.2.1, a0.1.2.2.2.2, a0.2.1, a0.2.2.1, a0.2.2.2.1, a0.2.2.2.2.1, a0.2.2.2.2.2.2.2, ()))))))))
def impl_KernelOk.Sl1 : Shape := ⟨[(1, false, [.ptr 10 0]), (46, false, [.own 6]), (47, false, [.int .i64]), (48, false, [.int .i64])], [(10, .blk 51 [.own 0, .own 1, .own 2, .own 3, .own 4, .own 5, .own 6, .own 7, .own 8, .int .i64, .bool, .own 9]), (0, .view false 31 (.pair (.int .i64) (.int .i64))), (1, .view false 34 (.pair (.int .i64) (.int .i64))), (2, .view false 63 (.pair (.int .i64) (.pair (.int .i64) (.pair (.int .i64) (.pair (.int .i64) (.int .i64)))))), (3, .view false 39 (.pair (.int .i64) (.pair (.int .i64) (.int .i64)))), (4, .view false 9 .str), (5, .view false 3 (.int .i64)), (6, .view false 59 (.pair (.int .i64) (.pair (.pair (.int .i64) (.sl 3 (.int .i64))) (.pair (.int .i64) (.pair (.int .i64) (.int .i64)))))), (7, .view false 145 (.sl 241 (.pair (.int .i64) (.int .i64)))), (8, .view false 3 (.int .i64)), (9, .view false 70 (.pair (.int .i64) (.pair (.int .i64) (.pair (.int .i64) (.pair (.int .i64) (.int .i64))))))], 11⟩
def impl_KernelOk.Sl2 : Shape := ⟨[(1, false, [.ptr 10 0]), (82, false, [.own 7]), (83, false, [.int .i64]), (84, false, [.int .i64])], [(10, .blk 51 [.own 0, .own 1, .own 2, .own 3, .own 4, .own 5, .own 6, .own 7, .own 8, .int .i64, .bool, .own 9]), (0, .view false 31 (.pair (.int .i64) (.int .i64))), (1, .view false 34 (.pair (.int .i64) (.int .i64))), (2, .view false 63 (.pair (.int .i64) (.pair (.int .i64) (.pair (.int .i64) (.pair (.int .i64) (.int .i64)))))), (3, .view false 39 (.pair (.int .i64) (.pair (.int .i64) (.int .i64)))), (4, .view false 9 .str), (5, .view false 3 (.int .i64)), (6, .view false 59 (.pair (.int .i64) (.pair (.pair (.int .i64) (.sl 3 (.int .i64))) (.pair (.int .i64) (.pair (.int .i64) (.int .i64)))))), (7, .view false 145 (.sl 241 (.pair (.int .i64) (.int .i64)))), (8, .view false 3 (.int .i64)), (9, .view false 70 (.pair (.int .i64) (.pair (.int .i64) (.pair (.int .i64) (.pair (.int .i64) (.int .i64))))))], 11⟩
def impl_KernelOk.sig : Sig := ⟨[.val true (.pair (.pair (.sl 31 (.pair (.int .i64) (.int .i64))) (.pair (.sl 34 (.pair (.int .i64) (.int .i64))) (.pair (.sl 63 (.pair (.int .i64) (.pair (.int .i64) (.pair (.int .i64) (.pair (.int .i64) (.int .i64)))))) (.pair (.sl 39 (.pair (.int .i64) (.pair (.int .i64) (.int .i64)))) (.sl 9 .str))))) (.pair (.sl 3 (.int .i64)) (.pair (.sl 59 (.pair (.int .i64) (.pair (.pair (.int .i64) (.sl 3 (.int .i64))) (.pair (.int .i64) (.pair (.int .i64) (.int .i64)))))) (.pair (.sl 145 (.sl 241 (.pair (.int .i64) (.int .i64)))) (.pair (.sl 3 (.int .i64)) (.pair (.int .i64) (.pair .bool (.sl 70 (.pair (.int .i64) (.pair (.int .i64) (.pair (.int .i64) (.pair (.int .i64) (.int .i64))))))))))))) [0, 0, 0, 0, 0, 0, 0, 0, 0, 0]], [.val false .bool []]⟩
def impl_KernelOk.F (k : Nat) (x : Args impl_KernelOk.sig.ps) : Option (Res impl_KernelOk.sig) := impl_KernelOk.f k x.1
def impl_KernelOk.ann (k : Nat) : Ann (Res impl_KernelOk.sig) := (.seq .nil (.seq .nil (.seq (.seq .nil (.block (.loop impl_KernelOk.Sl1 (impl_KernelOk.l1 k) fun n1 => .nil))) (.seq (.seq .nil (.block (.loop impl_KernelOk.Sl2 (impl_KernelOk.l2 k) fun n1 => .nil))) .nil))))
def impl_KernelOk.ent : Ent := ⟨36, impl_KernelOk.sig, impl_KernelOk.F⟩
def impl_KernelOk.ctx (k : Nat) : Ctx := ⟨tds, [impl_SetupFault.ent, impl_within.ent, impl_wordsOk.ent, impl_CpuOk.ent, impl_isNumber.ent], k, 115⟩
theorem impl_KernelOk.runs (k : Nat) (x : Args impl_KernelOk.sig.ps) : impl_KernelOk.F k x = runF (impl_KernelOk.ctx k) impl_KernelOk.sig Try.f36 (Try.f36.body.getD .skip) (impl_KernelOk.ann k) x := by kernel_rfl
theorem impl_KernelOk.obls (k : Nat) : obl (impl_KernelOk.ctx k) 10 (Try.f36.body.getD .skip) (impl_KernelOk.ann k) (retK tds impl_KernelOk.sig Try.f36.results.toList) := ⟨trivial, ⟨⟨trivial, ⟨⟨trivial, trivial⟩, trivial⟩⟩, ⟨⟨trivial, ⟨⟨by kernel_rfl, fun x => by kernel_rfl⟩, fun n => ⟨fun x => by kernel_rfl, ⟨trivial, ⟨⟨trivial, trivial⟩, ⟨⟨trivial, ⟨trivial, ⟨⟨trivial, trivial⟩, trivial⟩⟩⟩, trivial⟩⟩⟩⟩⟩⟩, ⟨⟨trivial, ⟨⟨by kernel_rfl, fun x => by kernel_rfl⟩, fun n => ⟨fun x => by kernel_rfl, ⟨trivial, ⟨⟨trivial, trivial⟩, ⟨⟨trivial, ⟨trivial, ⟨⟨trivial, trivial⟩, trivial⟩⟩⟩, trivial⟩⟩⟩⟩⟩⟩, ⟨trivial, trivial⟩⟩⟩⟩⟩
theorem impl_KernelOk.ok (k : Nat) : EntOk Try.prog k impl_KernelOk.ent := fn_ok (C := impl_KernelOk.ctx k) Try.func36 (by kernel_rfl) (by kernel_rfl) mixed tdsOk (.cons (impl_SetupFault.ok k) (.cons (impl_within.ok k) (.cons (impl_wordsOk.ok k) (.cons (impl_CpuOk.ok k) (.cons (impl_isNumber.ok k) EntsOk.nil))))) (by kernel_rfl) (Nat.le_of_ble_eq_true (by kernel_rfl)) (by kernel_rfl) (impl_KernelOk.runs k) (impl_KernelOk.obls k)
/-! loop.example/g00200/laws.eqRegion -/
def laws_eqRegion.f (k : Nat) (a0 : Int × Int) (a1 : Int × Int) : Option (Bool) :=
  if ¬ a0.1 = a1.1 then (some false) else (if ¬ a0.2 = a1.2 then (some false) else (some true))
def laws_eqRegion.sig : Sig := ⟨[.val true (.pair (.int .i64) (.int .i64)) [], .val true (.pair (.int .i64) (.int .i64)) []], [.val false .bool []]⟩
def laws_eqRegion.F (k : Nat) (x : Args laws_eqRegion.sig.ps) : Option (Res laws_eqRegion.sig) := laws_eqRegion.f k x.1 x.2.1
def laws_eqRegion.ann (k : Nat) : Ann (Res laws_eqRegion.sig) := .nil
def laws_eqRegion.ent : Ent := ⟨166, laws_eqRegion.sig, laws_eqRegion.F⟩
def laws_eqRegion.ctx (k : Nat) : Ctx := ⟨tds, [], k, 15⟩
theorem laws_eqRegion.runs (k : Nat) (x : Args laws_eqRegion.sig.ps) : laws_eqRegion.F k x = runF (laws_eqRegion.ctx k) laws_eqRegion.sig Try.f166 (Try.f166.body.getD .skip) (laws_eqRegion.ann k) x := by kernel_rfl
theorem laws_eqRegion.obls (k : Nat) : obl (laws_eqRegion.ctx k) 0 (Try.f166.body.getD .skip) (laws_eqRegion.ann k) (retK tds laws_eqRegion.sig Try.f166.results.toList) := ⟨trivial, ⟨⟨trivial, ⟨⟨trivial, trivial⟩, trivial⟩⟩, ⟨⟨trivial, ⟨⟨trivial, trivial⟩, trivial⟩⟩, ⟨trivial, trivial⟩⟩⟩⟩
theorem laws_eqRegion.ok (k : Nat) : EntOk Try.prog k laws_eqRegion.ent := fn_ok (C := laws_eqRegion.ctx k) Try.func166 (by kernel_rfl) (by kernel_rfl) mixed tdsOk EntsOk.nil (by kernel_rfl) (Nat.le_of_ble_eq_true (by kernel_rfl)) (by kernel_rfl) (laws_eqRegion.runs k) (laws_eqRegion.obls k)
/-! loop.example/g00200/laws.eqRegionS -/
def laws_eqRegionS.l1 (k : Nat)  : Nat → Int × (List (Int × Int)) × (List (Int × Int)) × Unit → Option (Bool)
  | 0, _ => none
  | n + 1, (x1, x2, x3, _) => if x1 < (x2.length : Int) then (if 0 ≤ x1 then (if x1 < (x2.length : Int) then (if 0 ≤ x1 then (if x1 < (x3.length : Int) then ((laws_eqRegion.f k (el (.pair (.int .i64) (.int .i64)) x2 x1.toNat) (el (.pair (.int .i64) (.int .i64)) x3 x1.toNat)).bind fun t1 => (if ¬ t1 = true then (some false) else (laws_eqRegionS.l1 k n (w64 (x1 + 1), x2, x3, ())))) else none) else none) else none) else none) else (some true)
def laws_eqRegionS.f (k : Nat) (a0 : List (Int × Int)) (a1 : List (Int × Int)) : Option (Bool) :=
  if ¬ (a0.length : Int) = (a1.length : Int) then (some false) else (laws_eqRegionS.l1 k k (0, a0, a1, ()))
def laws_eqRegionS.Sl1 : Shape := ⟨[(0, false, [.own 0]), (1, false, [.own 1]), (5, false, [.int .i64])], [(0, .view false 31 (.pair (.int .i64) (.int .i64))), (1, .view false 31 (.pair (.int .i64) (.int .i64)))], 2⟩
def laws_eqRegionS.sig : Sig := ⟨[.val false (.sl 31 (.pair (.int .i64) (.int .i64))) [0], .val false (.sl 31 (.pair (.int .i64) (.int .i64))) [0]], [.val false .bool []]⟩
def laws_eqRegionS.F (k : Nat) (x : Args laws_eqRegionS.sig.ps) : Option (Res laws_eqRegionS.sig) := laws_eqRegionS.f k x.1 x.2.1
def laws_eqRegionS.ann (k : Nat) : Ann (Res laws_eqRegionS.sig) := (.seq .nil (.seq .nil (.seq (.seq .nil (.block (.loop laws_eqRegionS.Sl1 (laws_eqRegionS.l1 k) fun n1 => .nil))) .nil)))
def laws_eqRegionS.ent : Ent := ⟨106, laws_eqRegionS.sig, laws_eqRegionS.F⟩
def laws_eqRegionS.ctx (k : Nat) : Ctx := ⟨tds, [laws_eqRegion.ent], k, 27⟩
theorem laws_eqRegionS.runs (k : Nat) (x : Args laws_eqRegionS.sig.ps) : laws_eqRegionS.F k x = runF (laws_eqRegionS.ctx k) laws_eqRegionS.sig Try.f106 (Try.f106.body.getD .skip) (laws_eqRegionS.ann k) x := by kernel_rfl
theorem laws_eqRegionS.obls (k : Nat) : obl (laws_eqRegionS.ctx k) 2 (Try.f106.body.getD .skip) (laws_eqRegionS.ann k) (retK tds laws_eqRegionS.sig Try.f106.results.toList) := ⟨trivial, ⟨⟨trivial, ⟨⟨trivial, trivial⟩, trivial⟩⟩, ⟨⟨trivial, ⟨⟨by kernel_rfl, fun x => by kernel_rfl⟩, fun n => ⟨fun x => by kernel_rfl, ⟨⟨trivial, ⟨trivial, trivial⟩⟩, ⟨⟨trivial, ⟨⟨trivial, trivial⟩, trivial⟩⟩, trivial⟩⟩⟩⟩⟩, ⟨trivial, trivial⟩⟩⟩⟩
theorem laws_eqRegionS.ok (k : Nat) : EntOk Try.prog k laws_eqRegionS.ent := fn_ok (C := laws_eqRegionS.ctx k) Try.func106 (by kernel_rfl) (by kernel_rfl) mixed tdsOk (.cons (laws_eqRegion.ok k) EntsOk.nil) (by kernel_rfl) (Nat.le_of_ble_eq_true (by kernel_rfl)) (by kernel_rfl) (laws_eqRegionS.runs k) (laws_eqRegionS.obls k)
/-! loop.example/g00200/laws.eqWindow -/
def laws_eqWindow.f (k : Nat) (a0 : Int × Int) (a1 : Int × Int) : Option (Bool) :=
  if ¬ a0.1 = a1.1 then (some false) else (if ¬ a0.2 = a1.2 then (some false) else (some true))
def laws_eqWindow.sig : Sig := ⟨[.val true (.pair (.int .i64) (.int .i64)) [], .val true (.pair (.int .i64) (.int .i64)) []], [.val false .bool []]⟩
def laws_eqWindow.F (k : Nat) (x : Args laws_eqWindow.sig.ps) : Option (Res laws_eqWindow.sig) := laws_eqWindow.f k x.1 x.2.1
def laws_eqWindow.ann (k : Nat) : Ann (Res laws_eqWindow.sig) := .nil
def laws_eqWindow.ent : Ent := ⟨167, laws_eqWindow.sig, laws_eqWindow.F⟩
def laws_eqWindow.ctx (k : Nat) : Ctx := ⟨tds, [], k, 15⟩
theorem laws_eqWindow.runs (k : Nat) (x : Args laws_eqWindow.sig.ps) : laws_eqWindow.F k x = runF (laws_eqWindow.ctx k) laws_eqWindow.sig Try.f167 (Try.f167.body.getD .skip) (laws_eqWindow.ann k) x := by kernel_rfl
theorem laws_eqWindow.obls (k : Nat) : obl (laws_eqWindow.ctx k) 0 (Try.f167.body.getD .skip) (laws_eqWindow.ann k) (retK tds laws_eqWindow.sig Try.f167.results.toList) := ⟨trivial, ⟨⟨trivial, ⟨⟨trivial, trivial⟩, trivial⟩⟩, ⟨⟨trivial, ⟨⟨trivial, trivial⟩, trivial⟩⟩, ⟨trivial, trivial⟩⟩⟩⟩
theorem laws_eqWindow.ok (k : Nat) : EntOk Try.prog k laws_eqWindow.ent := fn_ok (C := laws_eqWindow.ctx k) Try.func167 (by kernel_rfl) (by kernel_rfl) mixed tdsOk EntsOk.nil (by kernel_rfl) (Nat.le_of_ble_eq_true (by kernel_rfl)) (by kernel_rfl) (laws_eqWindow.runs k) (laws_eqWindow.obls k)
/-! loop.example/g00200/laws.eqWindowS -/
def laws_eqWindowS.l1 (k : Nat)  : Nat → Int × (List (Int × Int)) × (List (Int × Int)) × Unit → Option (Bool)
  | 0, _ => none
  | n + 1, (x1, x2, x3, _) => if x1 < (x2.length : Int) then (if 0 ≤ x1 then (if x1 < (x2.length : Int) then (if 0 ≤ x1 then (if x1 < (x3.length : Int) then ((laws_eqWindow.f k (el (.pair (.int .i64) (.int .i64)) x2 x1.toNat) (el (.pair (.int .i64) (.int .i64)) x3 x1.toNat)).bind fun t1 => (if ¬ t1 = true then (some false) else (laws_eqWindowS.l1 k n (w64 (x1 + 1), x2, x3, ())))) else none) else none) else none) else none) else (some true)
def laws_eqWindowS.f (k : Nat) (a0 : List (Int × Int)) (a1 : List (Int × Int)) : Option (Bool) :=
  if ¬ (a0.length : Int) = (a1.length : Int) then (some false) else (laws_eqWindowS.l1 k k (0, a0, a1, ()))
def laws_eqWindowS.Sl1 : Shape := ⟨[(0, false, [.own 0]), (1, false, [.own 1]), (5, false, [.int .i64])], [(0, .view false 34 (.pair (.int .i64) (.int .i64))), (1, .view false 34 (.pair (.int .i64) (.int .i64)))], 2⟩
def laws_eqWindowS.sig : Sig := ⟨[.val false (.sl 34 (.pair (.int .i64) (.int .i64))) [0], .val false (.sl 34 (.pair (.int .i64) (.int .i64))) [0]], [.val false .bool []]⟩
def laws_eqWindowS.F (k : Nat) (x : Args laws_eqWindowS.sig.ps) : Option (Res laws_eqWindowS.sig) := laws_eqWindowS.f k x.1 x.2.1
def laws_eqWindowS.ann (k : Nat) : Ann (Res laws_eqWindowS.sig) := (.seq .nil (.seq .nil (.seq (.seq .nil (.block (.loop laws_eqWindowS.Sl1 (laws_eqWindowS.l1 k) fun n1 => .nil))) .nil)))
def laws_eqWindowS.ent : Ent := ⟨107, laws_eqWindowS.sig, laws_eqWindowS.F⟩
def laws_eqWindowS.ctx (k : Nat) : Ctx := ⟨tds, [laws_eqWindow.ent], k, 27⟩
theorem laws_eqWindowS.runs (k : Nat) (x : Args laws_eqWindowS.sig.ps) : laws_eqWindowS.F k x = runF (laws_eqWindowS.ctx k) laws_eqWindowS.sig Try.f107 (Try.f107.body.getD .skip) (laws_eqWindowS.ann k) x := by kernel_rfl
theorem laws_eqWindowS.obls (k : Nat) : obl (laws_eqWindowS.ctx k) 2 (Try.f107.body.getD .skip) (laws_eqWindowS.ann k) (retK tds laws_eqWindowS.sig Try.f107.results.toList) := ⟨trivial, ⟨⟨trivial, ⟨⟨trivial, trivial⟩, trivial⟩⟩, ⟨⟨trivial, ⟨⟨by kernel_rfl, fun x => by kernel_rfl⟩, fun n => ⟨fun x => by kernel_rfl, ⟨⟨trivial, ⟨trivial, trivial⟩⟩, ⟨⟨trivial, ⟨⟨trivial, trivial⟩, trivial⟩⟩, trivial⟩⟩⟩⟩⟩, ⟨trivial, trivial⟩⟩⟩⟩
theorem laws_eqWindowS.ok (k : Nat) : EntOk Try.prog k laws_eqWindowS.ent := fn_ok (C := laws_eqWindowS.ctx k) Try.func107 (by kernel_rfl) (by kernel_rfl) mixed tdsOk (.cons (laws_eqWindow.ok k) EntsOk.nil) (by kernel_rfl) (Nat.le_of_ble_eq_true (by kernel_rfl)) (by kernel_rfl) (laws_eqWindowS.runs k) (laws_eqWindowS.obls k)
/-! loop.example/g00200/laws.eqPort -/
def laws_eqPort.f (k : Nat) (a0 : Int × Int × Int × Int × Int) (a1 : Int × Int × Int × Int × Int) : Option (Bool) :=
  if ¬ a0.1 = a1.1 then (some false) else (if ¬ a0.2.1 = a1.2.1 then (some false) else (if ¬ a0.2.2.1 = a1.2.2.1 then (some false) else (if ¬ a0.2.2.2.1 = a1.2.2.2.1 then (some false) else (if ¬ a0.2.2.2.2 = a1.2.2.2.2 then (some false) else (some true)))))
def laws_eqPort.sig : Sig := ⟨[.val true (.pair (.int .i64) (.pair (.int .i64) (.pair (.int .i64) (.pair (.int .i64) (.int .i64))))) [], .val true (.pair (.int .i64) (.pair (.int .i64) (.pair (.int .i64) (.pair (.int .i64) (.int .i64))))) []], [.val false .bool []]⟩
def laws_eqPort.F (k : Nat) (x : Args laws_eqPort.sig.ps) : Option (Res laws_eqPort.sig) := laws_eqPort.f k x.1 x.2.1
def laws_eqPort.ann (k : Nat) : Ann (Res laws_eqPort.sig) := .nil
def laws_eqPort.ent : Ent := ⟨168, laws_eqPort.sig, laws_eqPort.F⟩
def laws_eqPort.ctx (k : Nat) : Ctx := ⟨tds, [], k, 30⟩
theorem laws_eqPort.runs (k : Nat) (x : Args laws_eqPort.sig.ps) : laws_eqPort.F k x = runF (laws_eqPort.ctx k) laws_eqPort.sig Try.f168 (Try.f168.body.getD .skip) (laws_eqPort.ann k) x := by kernel_rfl
theorem laws_eqPort.obls (k : Nat) : obl (laws_eqPort.ctx k) 0 (Try.f168.body.getD .skip) (laws_eqPort.ann k) (retK tds laws_eqPort.sig Try.f168.results.toList) := ⟨trivial, ⟨⟨trivial, ⟨⟨trivial, trivial⟩, trivial⟩⟩, ⟨⟨trivial, ⟨⟨trivial, trivial⟩, trivial⟩⟩, ⟨⟨trivial, ⟨⟨trivial, trivial⟩, trivial⟩⟩, ⟨⟨trivial, ⟨⟨trivial, trivial⟩, trivial⟩⟩, ⟨⟨trivial, ⟨⟨trivial, trivial⟩, trivial⟩⟩, ⟨trivial, trivial⟩⟩⟩⟩⟩⟩⟩
theorem laws_eqPort.ok (k : Nat) : EntOk Try.prog k laws_eqPort.ent := fn_ok (C := laws_eqPort.ctx k) Try.func168 (by kernel_rfl) (by kernel_rfl) mixed tdsOk EntsOk.nil (by kernel_rfl) (Nat.le_of_ble_eq_true (by kernel_rfl)) (by kernel_rfl) (laws_eqPort.runs k) (laws_eqPort.obls k)
/-! loop.example/g00200/laws.eqPortS -/
def laws_eqPortS.l1 (k : Nat)  : Nat → Int × (List (Int × Int × Int × Int × Int)) × (List (Int × Int × Int × Int × Int)) × Unit → Option (Bool)
  | 0, _ => none
  | n + 1, (x1, x2, x3, _) => if x1 < (x2.length : Int) then (if 0 ≤ x1 then (if x1 < (x2.length : Int) then (if 0 ≤ x1 then (if x1 < (x3.length : Int) then ((laws_eqPort.f k ((el (.pair (.int .i64) (.pair (.int .i64) (.pair (.int .i64) (.pair (.int .i64) (.int .i64))))) x2 x1.toNat).1, (((el (.pair (.int .i64) (.pair (.int .i64) (.pair (.int .i64) (.pair (.int .i64) (.int .i64))))) x2 x1.toNat).2).1, ((((el (.pair (.int .i64) (.pair (.int .i64) (.pair (.int .i64) (.pair (.int .i64) (.int .i64))))) x2 x1.toNat).2).2).1, ((((el (.pair (.int .i64) (.pair (.int .i64) (.pair (.int .i64) (.pair (.int .i64) (.int .i64))))) x2 x1.toNat).2).2).2)))) ((el (.pair (.int .i64) (.pair (.int .i64) (.pair (.int .i64) (.pair (.int .i64) (.int .i64))))) x3 x1.toNat).1, (((el (.pair (.int .i64) (.pair (.int .i64) (.pair (.int .i64) (.pair (.int .i64) (.int .i64))))) x3 x1.toNat).2).1, ((((el (.pair (.int .i64) (.pair (.int .i64) (.pair (.int .i64) (.pair (.int .i64) (.int .i64))))) x3 x1.toNat).2).2).1, ((((el (.pair (.int .i64) (.pair (.int .i64) (.pair (.int .i64) (.pair (.int .i64) (.int .i64))))) x3 x1.toNat).2).2).2))))).bind fun t1 => (if ¬ t1 = true then (some false) else (laws_eqPortS.l1 k n (w64 (x1 + 1), x2, x3, ())))) else none) else none) else none) else none) else (some true)
def laws_eqPortS.f (k : Nat) (a0 : List (Int × Int × Int × Int × Int)) (a1 : List (Int × Int × Int × Int × Int)) : Option (Bool) :=
  if ¬ (a0.length : Int) = (a1.length : Int) then (some false) else (laws_eqPortS.l1 k k (0, a0, a1, ()))
def laws_eqPortS.Sl1 : Shape := ⟨[(0, false, [.own 0]), (1, false, [.own 1]), (5, false, [.int .i64])], [(0, .view false 63 (.pair (.int .i64) (.pair (.int .i64) (.pair (.int .i64) (.pair (.int .i64) (.int .i64)))))), (1, .view false 63 (.pair (.int .i64) (.pair (.int .i64) (.pair (.int .i64) (.pair (.int .i64) (.int .i64))))))], 2⟩
def laws_eqPortS.sig : Sig := ⟨[.val false (.sl 63 (.pair (.int .i64) (.pair (.int .i64) (.pair (.int .i64) (.pair (.int .i64) (.int .i64)))))) [0], .val false (.sl 63 (.pair (.int .i64) (.pair (.int .i64) (.pair (.int .i64) (.pair (.int .i64) (.int .i64)))))) [0]], [.val false .bool []]⟩
def laws_eqPortS.F (k : Nat) (x : Args laws_eqPortS.sig.ps) : Option (Res laws_eqPortS.sig) := laws_eqPortS.f k x.1 x.2.1
def laws_eqPortS.ann (k : Nat) : Ann (Res laws_eqPortS.sig) := (.seq .nil (.seq .nil (.seq (.seq .nil (.block (.loop laws_eqPortS.Sl1 (laws_eqPortS.l1 k) fun n1 => .nil))) .nil)))
def laws_eqPortS.ent : Ent := ⟨108, laws_eqPortS.sig, laws_eqPortS.F⟩
def laws_eqPortS.ctx (k : Nat) : Ctx := ⟨tds, [laws_eqPort.ent], k, 27⟩
theorem laws_eqPortS.runs (k : Nat) (x : Args laws_eqPortS.sig.ps) : laws_eqPortS.F k x = runF (laws_eqPortS.ctx k) laws_eqPortS.sig Try.f108 (Try.f108.body.getD .skip) (laws_eqPortS.ann k) x := by kernel_rfl
theorem laws_eqPortS.obls (k : Nat) : obl (laws_eqPortS.ctx k) 2 (Try.f108.body.getD .skip) (laws_eqPortS.ann k) (retK tds laws_eqPortS.sig Try.f108.results.toList) := ⟨trivial, ⟨⟨trivial, ⟨⟨trivial, trivial⟩, trivial⟩⟩, ⟨⟨trivial, ⟨⟨by kernel_rfl, fun x => by kernel_rfl⟩, fun n => ⟨fun x => by kernel_rfl, ⟨⟨trivial, ⟨trivial, trivial⟩⟩, ⟨⟨trivial, ⟨⟨trivial, trivial⟩, trivial⟩⟩, trivial⟩⟩⟩⟩⟩, ⟨trivial, trivial⟩⟩⟩⟩
theorem laws_eqPortS.ok (k : Nat) : EntOk Try.prog k laws_eqPortS.ent := fn_ok (C := laws_eqPortS.ctx k) Try.func108 (by kernel_rfl) (by kernel_rfl) mixed tdsOk (.cons (laws_eqPort.ok k) EntsOk.nil) (by kernel_rfl) (Nat.le_of_ble_eq_true (by kernel_rfl)) (by kernel_rfl) (laws_eqPortS.runs k) (laws_eqPortS.obls k)
/-! loop.example/g00200/laws.eqRule -/
def laws_eqRule.f (k : Nat) (a0 : Int × Int × Int) (a1 : Int × Int × Int) : Option (Bool) :=
  if ¬ a0.1 = a1.1 then (some false) else (if ¬ a0.2.1 = a1.2.1 then (some false) else (if ¬ a0.2.2 = a1.2.2 then (some false) else (some true)))
def laws_eqRule.sig : Sig := ⟨[.val true (.pair (.int .i64) (.pair (.int .i64) (.int .i64))) [], .val true (.pair (.int .i64) (.pair (.int .i64) (.int .i64))) []], [.val false .bool []]⟩
def laws_eqRule.F (k : Nat) (x : Args laws_eqRule.sig.ps) : Option (Res laws_eqRule.sig) := laws_eqRule.f k x.1 x.2.1
def laws_eqRule.ann (k : Nat) : Ann (Res laws_eqRule.sig) := .nil
def laws_eqRule.ent : Ent := ⟨169, laws_eqRule.sig, laws_eqRule.F⟩
def laws_eqRule.ctx (k : Nat) : Ctx := ⟨tds, [], k, 20⟩
theorem laws_eqRule.runs (k : Nat) (x : Args laws_eqRule.sig.ps) : laws_eqRule.F k x = runF (laws_eqRule.ctx k) laws_eqRule.sig Try.f169 (Try.f169.body.getD .skip) (laws_eqRule.ann k) x := by kernel_rfl
theorem laws_eqRule.obls (k : Nat) : obl (laws_eqRule.ctx k) 0 (Try.f169.body.getD .skip) (laws_eqRule.ann k) (retK tds laws_eqRule.sig Try.f169.results.toList) := ⟨trivial, ⟨⟨trivial, ⟨⟨trivial, trivial⟩, trivial⟩⟩, ⟨⟨trivial, ⟨⟨trivial, trivial⟩, trivial⟩⟩, ⟨⟨trivial, ⟨⟨trivial, trivial⟩, trivial⟩⟩, ⟨trivial, trivial⟩⟩⟩⟩⟩
theorem laws_eqRule.ok (k : Nat) : EntOk Try.prog k laws_eqRule.ent := fn_ok (C := laws_eqRule.ctx k) Try.func169 (by kernel_rfl) (by kernel_rfl) mixed tdsOk EntsOk.nil (by kernel_rfl) (Nat.le_of_ble_eq_true (by kernel_rfl)) (by kernel_rfl) (laws_eqRule.runs k) (laws_eqRule.obls k)
/-! loop.example/g00200/laws.eqRuleS -/
def laws_eqRuleS.l1 (k : Nat)  : Nat → Int × (List (Int × Int × Int)) × (List (Int × Int × Int)) × Unit → Option (Bool)
  | 0, _ => none
  | n + 1, (x1, x2, x3, _) => if x1 < (x2.length : Int) then (if 0 ≤ x1 then (if x1 < (x2.length : Int) then (if 0 ≤ x1 then (if x1 < (x3.length : Int) then ((laws_eqRule.f k ((el (.pair (.int .i64) (.pair (.int .i64) (.int .i64))) x2 x1.toNat).1, ((el (.pair (.int .i64) (.pair (.int .i64) (.int .i64))) x2 x1.toNat).2)) ((el (.pair (.int .i64) (.pair (.int .i64) (.int .i64))) x3 x1.toNat).1, ((el (.pair (.int .i64) (.pair (.int .i64) (.int .i64))) x3 x1.toNat).2))).bind fun t1 => (if ¬ t1 = true then (some false) else (laws_eqRuleS.l1 k n (w64 (x1 + 1), x2, x3, ())))) else none) else none) else none) else none) else (some true)
def laws_eqRuleS.f (k : Nat) (a0 : List (Int × Int × Int)) (a1 : List (Int × Int × Int)) : Option (Bool) :=
  if ¬ (a0.length : Int) = (a1.length : Int) then (some false) else (laws_eqRuleS.l1 k k (0, a0, a1, ()))
def laws_eqRuleS.Sl1 : Shape := ⟨[(0, false, [.own 0]), (1, false, [.own 1]), (5, false, [.int .i64])], [(0, .view false 39 (.pair (.int .i64) (.pair (.int .i64) (.int .i64)))), (1, .view false 39 (.pair (.int .i64) (.pair (.int .i64) (.int .i64))))], 2⟩
def laws_eqRuleS.sig : Sig := ⟨[.val false (.sl 39 (.pair (.int .i64) (.pair (.int .i64) (.int .i64)))) [0], .val false (.sl 39 (.pair (.int .i64) (.pair (.int .i64) (.int .i64)))) [0]], [.val false .bool []]⟩
def laws_eqRuleS.F (k : Nat) (x : Args laws_eqRuleS.sig.ps) : Option (Res laws_eqRuleS.sig) := laws_eqRuleS.f k x.1 x.2.1
def laws_eqRuleS.ann (k : Nat) : Ann (Res laws_eqRuleS.sig) := (.seq .nil (.seq .nil (.seq (.seq .nil (.block (.loop laws_eqRuleS.Sl1 (laws_eqRuleS.l1 k) fun n1 => .nil))) .nil)))
def laws_eqRuleS.ent : Ent := ⟨109, laws_eqRuleS.sig, laws_eqRuleS.F⟩
def laws_eqRuleS.ctx (k : Nat) : Ctx := ⟨tds, [laws_eqRule.ent], k, 27⟩
theorem laws_eqRuleS.runs (k : Nat) (x : Args laws_eqRuleS.sig.ps) : laws_eqRuleS.F k x = runF (laws_eqRuleS.ctx k) laws_eqRuleS.sig Try.f109 (Try.f109.body.getD .skip) (laws_eqRuleS.ann k) x := by kernel_rfl
theorem laws_eqRuleS.obls (k : Nat) : obl (laws_eqRuleS.ctx k) 2 (Try.f109.body.getD .skip) (laws_eqRuleS.ann k) (retK tds laws_eqRuleS.sig Try.f109.results.toList) := ⟨trivial, ⟨⟨trivial, ⟨⟨trivial, trivial⟩, trivial⟩⟩, ⟨⟨trivial, ⟨⟨by kernel_rfl, fun x => by kernel_rfl⟩, fun n => ⟨fun x => by kernel_rfl, ⟨⟨trivial, ⟨trivial, trivial⟩⟩, ⟨⟨trivial, ⟨⟨trivial, trivial⟩, trivial⟩⟩, trivial⟩⟩⟩⟩⟩, ⟨trivial, trivial⟩⟩⟩⟩
theorem laws_eqRuleS.ok (k : Nat) : EntOk Try.prog k laws_eqRuleS.ent := fn_ok (C := laws_eqRuleS.ctx k) Try.func109 (by kernel_rfl) (by kernel_rfl) mixed tdsOk (.cons (laws_eqRule.ok k) EntsOk.nil) (by kernel_rfl) (Nat.le_of_ble_eq_true (by kernel_rfl)) (by kernel_rfl) (laws_eqRuleS.runs k) (laws_eqRuleS.obls k)
/-! loop.example/g00200/laws.eqStringS -/
def laws_eqStringS.l1 (k : Nat)  : Nat → Int × List ByteArray × List ByteArray × Unit → Option (Bool)
  | 0, _ => none
  | n + 1, (x1, x2, x3, _) => if x1 < (x2.length : Int) then (if 0 ≤ x1 then (if x1 < (x2.length : Int) then (if 0 ≤ x1 then (if x1 < (x3.length : Int) then (if ¬ (el .str x2 x1.toNat) = (el .str x3 x1.toNat) then (some false) else (laws_eqStringS.l1 k n (w64 (x1 + 1), x2, x3, ()))) else none) else none) else none) else none) else (some true)
def laws_eqStringS.f (k : Nat) (a0 : List ByteArray) (a1 : List ByteArray) : Option (Bool) :=
  if ¬ (a0.length : Int) = (a1.length : Int) then (some false) else (laws_eqStringS.l1 k k (0, a0, a1, ()))
def laws_eqStringS.Sl1 : Shape := ⟨[(0, false, [.own 0]), (1, false, [.own 1]), (5, false, [.int .i64])], [(0, .view false 9 .str), (1, .view false 9 .str)], 2⟩
def laws_eqStringS.sig : Sig := ⟨[.val false (.sl 9 .str) [0], .val false (.sl 9 .str) [0]], [.val false .bool []]⟩
def laws_eqStringS.F (k : Nat) (x : Args laws_eqStringS.sig.ps) : Option (Res laws_eqStringS.sig) := laws_eqStringS.f k x.1 x.2.1
def laws_eqStringS.ann (k : Nat) : Ann (Res laws_eqStringS.sig) := (.seq .nil (.seq .nil (.seq (.seq .nil (.block (.loop laws_eqStringS.Sl1 (laws_eqStringS.l1 k) fun n1 => .nil))) .nil)))
def laws_eqStringS.ent : Ent := ⟨110, laws_eqStringS.sig, laws_eqStringS.F⟩
def laws_eqStringS.ctx (k : Nat) : Ctx := ⟨tds, [], k, 26⟩
theorem laws_eqStringS.runs (k : Nat) (x : Args laws_eqStringS.sig.ps) : laws_eqStringS.F k x = runF (laws_eqStringS.ctx k) laws_eqStringS.sig Try.f110 (Try.f110.body.getD .skip) (laws_eqStringS.ann k) x := by kernel_rfl
theorem laws_eqStringS.obls (k : Nat) : obl (laws_eqStringS.ctx k) 2 (Try.f110.body.getD .skip) (laws_eqStringS.ann k) (retK tds laws_eqStringS.sig Try.f110.results.toList) := ⟨trivial, ⟨⟨trivial, ⟨⟨trivial, trivial⟩, trivial⟩⟩, ⟨⟨trivial, ⟨⟨by kernel_rfl, fun x => by kernel_rfl⟩, fun n => ⟨fun x => by kernel_rfl, ⟨⟨trivial, ⟨trivial, trivial⟩⟩, ⟨⟨trivial, ⟨⟨trivial, trivial⟩, trivial⟩⟩, trivial⟩⟩⟩⟩⟩, ⟨trivial, trivial⟩⟩⟩⟩
theorem laws_eqStringS.ok (k : Nat) : EntOk Try.prog k laws_eqStringS.ent := fn_ok (C := laws_eqStringS.ctx k) Try.func110 (by kernel_rfl) (by kernel_rfl) mixed tdsOk EntsOk.nil (by kernel_rfl) (Nat.le_of_ble_eq_true (by kernel_rfl)) (by kernel_rfl) (laws_eqStringS.runs k) (laws_eqStringS.obls k)
/-! loop.example/g00200/laws.eqSetup -/
def laws_eqSetup.f (k : Nat) (a0 : List (Int × Int) × List (Int × Int) × List (Int × Int × Int × Int × Int) × List (Int × Int × Int) × List ByteArray) (a1 : List (Int × Int) × List (Int × Int) × List (Int × Int × Int × Int × Int) × List (Int × Int × Int) × List ByteArray) : Option (Bool) :=
  (laws_eqRegionS.f k a0.1 a1.1).bind fun t1 => (if ¬ t1 = true then (some false) else ((laws_eqWindowS.f k a0.2.1 a1.2.1).bind fun t2 => (if ¬ t2 = true then (some false) else ((laws_eqPortS.f k a0.2.2.1 a1.2.2.1).bind fun t3 => (if ¬ t3 = true then (some false) else ((laws_eqRuleS.f k a0.2.2.2.1 a1.2.2.2.1).bind fun t4 => (if ¬ t4 = true then (some false) else ((laws_eqStringS.f k a0.2.2.2.2 a1.2.2.2.2).bind fun t5 => (if ¬ t5 = true then (some false) else (some true))))))))))
def laws_eqSetup.sig : Sig := ⟨[.val true (.pair (.sl 31 (.pair (.int .i64) (.int .i64))) (.pair (.sl 34 (.pair (.int .i64) (.int .i64))) (.pair (.sl 63 (.pair (.int .i64) (.pair (.int .i64) (.pair (.int .i64) (.pair (.int .i64) (.int .i64)))))) (.pair (.sl 39 (.pair (.int .i64) (.pair (.int .i64) (.int .i64)))) (.sl 9 .str))))) [0, 0, 0, 0, 0], .val true (.pair (.sl 31 (.pair (.int .i64) (.int .i64))) (.pair (.sl 34 (.pair (.int .i64) (.int .i64))) (.pair (.sl 63 (.pair (.int .i64) (.pair (.int .i64) (.pair (.int .i64) (.pair (.int .i64) (.int .i64)))))) (.pair (.sl 39 (.pair (.int .i64) (.pair (.int .i64) (.int .i64)))) (.sl 9 .str))))) [0, 0, 0, 0, 0]], [.val false .bool []]⟩
def laws_eqSetup.F (k : Nat) (x : Args laws_eqSetup.sig.ps) : Option (Res laws_eqSetup.sig) := laws_eqSetup.f k x.1 x.2.1
def laws_eqSetup.ann (k : Nat) : Ann (Res laws_eqSetup.sig) := .nil
def laws_eqSetup.ent : Ent := ⟨40, laws_eqSetup.sig, laws_eqSetup.F⟩
def laws_eqSetup.ctx (k : Nat) : Ctx := ⟨tds, [laws_eqRegionS.ent, laws_eqWindowS.ent, laws_eqPortS.ent, laws_eqRuleS.ent, laws_eqStringS.ent], k, 35⟩
theorem laws_eqSetup.runs (k : Nat) (x : Args laws_eqSetup.sig.ps) : laws_eqSetup.F k x = runF (laws_eqSetup.ctx k) laws_eqSetup.sig Try.f40 (Try.f40.body.getD .skip) (laws_eqSetup.ann k) x := by kernel_rfl
theorem laws_eqSetup.obls (k : Nat) : obl (laws_eqSetup.ctx k) 10 (Try.f40.body.getD .skip) (laws_eqSetup.ann k) (retK tds laws_eqSetup.sig Try.f40.results.toList) := ⟨trivial, ⟨⟨trivial, ⟨⟨trivial, trivial⟩, trivial⟩⟩, ⟨⟨trivial, ⟨⟨trivial, trivial⟩, trivial⟩⟩, ⟨⟨trivial, ⟨⟨trivial, trivial⟩, trivial⟩⟩, ⟨⟨trivial, ⟨⟨trivial, trivial⟩, trivial⟩⟩, ⟨⟨trivial, ⟨⟨trivial, trivial⟩, trivial⟩⟩, ⟨trivial, trivial⟩⟩⟩⟩⟩⟩⟩
theorem laws_eqSetup.ok (k : Nat) : EntOk Try.prog k laws_eqSetup.ent := fn_ok (C := laws_eqSetup.ctx k) Try.func40 (by kernel_rfl) (by kernel_rfl) mixed tdsOk (.cons (laws_eqRegionS.ok k) (.cons (laws_eqWindowS.ok k) (.cons (laws_eqPortS.ok k) (.cons (laws_eqRuleS.ok k) (.cons (laws_eqStringS.ok k) EntsOk.nil))))) (by kernel_rfl) (Nat.le_of_ble_eq_true (by kernel_rfl)) (by kernel_rfl) (laws_eqSetup.runs k) (laws_eqSetup.obls k)
/-! loop.example/g00200/laws.eqIntS -/
def laws_eqIntS.l1 (k : Nat)  : Nat → Int × List Int × List Int × Unit → Option (Bool)
  | 0, _ => none
  | n + 1, (x1, x2, x3, _) => if x1 < (x2.length : Int) then (if 0 ≤ x1 then (if x1 < (x2.length : Int) then (if 0 ≤ x1 then (if x1 < (x3.length : Int) then (if ¬ (el (.int .i64) x2 x1.toNat) = (el (.int .i64) x3 x1.toNat) then (some false) else (laws_eqIntS.l1 k n (w64 (x1 + 1), x2, x3, ()))) else none) else none) else none) else none) else (some true)
def laws_eqIntS.f (k : Nat) (a0 : List Int) (a1 : List Int) : Option (Bool) :=
  if ¬ (a0.length : Int) = (a1.length : Int) then (some false) else (laws_eqIntS.l1 k k (0, a0, a1, ()))
def laws_eqIntS.Sl1 : Shape := ⟨[(0, false, [.own 0]), (1, false, [.own 1]), (5, false, [.int .i64])], [(0, .view false 3 (.int .i64)), (1, .view false 3 (.int .i64))], 2⟩
def laws_eqIntS.sig : Sig := ⟨[.val false (.sl 3 (.int .i64)) [0], .val false (.sl 3 (.int .i64)) [0]], [.val false .bool []]⟩
def laws_eqIntS.F (k : Nat) (x : Args laws_eqIntS.sig.ps) : Option (Res laws_eqIntS.sig) := laws_eqIntS.f k x.1 x.2.1
def laws_eqIntS.ann (k : Nat) : Ann (Res laws_eqIntS.sig) := (.seq .nil (.seq .nil (.seq (.seq .nil (.block (.loop laws_eqIntS.Sl1 (laws_eqIntS.l1 k) fun n1 => .nil))) .nil)))
def laws_eqIntS.ent : Ent := ⟨28, laws_eqIntS.sig, laws_eqIntS.F⟩
def laws_eqIntS.ctx (k : Nat) : Ctx := ⟨tds, [], k, 26⟩
theorem laws_eqIntS.runs (k : Nat) (x : Args laws_eqIntS.sig.ps) : laws_eqIntS.F k x = runF (laws_eqIntS.ctx k) laws_eqIntS.sig Try.f28 (Try.f28.body.getD .skip) (laws_eqIntS.ann k) x := by kernel_rfl
theorem laws_eqIntS.obls (k : Nat) : obl (laws_eqIntS.ctx k) 2 (Try.f28.body.getD .skip) (laws_eqIntS.ann k) (retK tds laws_eqIntS.sig Try.f28.results.toList) := ⟨trivial, ⟨⟨trivial, ⟨⟨trivial, trivial⟩, trivial⟩⟩, ⟨⟨trivial, ⟨⟨by kernel_rfl, fun x => by kernel_rfl⟩, fun n => ⟨fun x => by kernel_rfl, ⟨⟨trivial, ⟨trivial, trivial⟩⟩, ⟨⟨trivial, ⟨⟨trivial, trivial⟩, trivial⟩⟩, trivial⟩⟩⟩⟩⟩, ⟨trivial, trivial⟩⟩⟩⟩
theorem laws_eqIntS.ok (k : Nat) : EntOk Try.prog k laws_eqIntS.ent := fn_ok (C := laws_eqIntS.ctx k) Try.func28 (by kernel_rfl) (by kernel_rfl) mixed tdsOk EntsOk.nil (by kernel_rfl) (Nat.le_of_ble_eq_true (by kernel_rfl)) (by kernel_rfl) (laws_eqIntS.runs k) (laws_eqIntS.obls k)
/-! loop.example/g00200/laws.eqArena -/
def laws_eqArena.f (k : Nat) (a0 : List Int) (a1 : List Int) : Option (Bool) :=
  (laws_eqIntS.f k a0 a1).bind fun t1 => (if ¬ t1 = true then (some false) else (some true))
def laws_eqArena.sig : Sig := ⟨[.val true (.sl 3 (.int .i64)) [0], .val true (.sl 3 (.int .i64)) [0]], [.val false .bool []]⟩
def laws_eqArena.F (k : Nat) (x : Args laws_eqArena.sig.ps) : Option (Res laws_eqArena.sig) := laws_eqArena.f k x.1 x.2.1
def laws_eqArena.ann (k : Nat) : Ann (Res laws_eqArena.sig) := .nil
def laws_eqArena.ent : Ent := ⟨78, laws_eqArena.sig, laws_eqArena.F⟩
def laws_eqArena.ctx (k : Nat) : Ctx := ⟨tds, [laws_eqIntS.ent], k, 11⟩
theorem laws_eqArena.runs (k : Nat) (x : Args laws_eqArena.sig.ps) : laws_eqArena.F k x = runF (laws_eqArena.ctx k) laws_eqArena.sig Try.f78 (Try.f78.body.getD .skip) (laws_eqArena.ann k) x := by kernel_rfl
theorem laws_eqArena.obls (k : Nat) : obl (laws_eqArena.ctx k) 2 (Try.f78.body.getD .skip) (laws_eqArena.ann k) (retK tds laws_eqArena.sig Try.f78.results.toList) := ⟨trivial, ⟨⟨trivial, ⟨⟨trivial, trivial⟩, trivial⟩⟩, ⟨trivial, trivial⟩⟩⟩
theorem laws_eqArena.ok (k : Nat) : EntOk Try.prog k laws_eqArena.ent := fn_ok (C := laws_eqArena.ctx k) Try.func78 (by kernel_rfl) (by kernel_rfl) mixed tdsOk (.cons (laws_eqIntS.ok k) EntsOk.nil) (by kernel_rfl) (Nat.le_of_ble_eq_true (by kernel_rfl)) (by kernel_rfl) (laws_eqArena.runs k) (laws_eqArena.obls k)
/-! loop.example/g00200/laws.eqCpu -/
def laws_eqCpu.f (k : Nat) (a0 : Int × List Int) (a1 : Int × List Int) : Option (Bool) :=
  if ¬ a0.1 = a1.1 then (some false) else ((laws_eqIntS.f k a0.2 a1.2).bind fun t1 => (if ¬ t1 = true then (some false) else (some true)))
def laws_eqCpu.sig : Sig := ⟨[.val true (.pair (.int .i64) (.sl 3 (.int .i64))) [0], .val true (.pair (.int .i64) (.sl 3 (.int .i64))) [0]], [.val false .bool []]⟩
def laws_eqCpu.F (k : Nat) (x : Args laws_eqCpu.sig.ps) : Option (Res laws_eqCpu.sig) := laws_eqCpu.f k x.1 x.2.1
def laws_eqCpu.ann (k : Nat) : Ann (Res laws_eqCpu.sig) := .nil
def laws_eqCpu.ent : Ent := ⟨77, laws_eqCpu.sig, laws_eqCpu.F⟩
def laws_eqCpu.ctx (k : Nat) : Ctx := ⟨tds, [laws_eqIntS.ent], k, 16⟩
theorem laws_eqCpu.runs (k : Nat) (x : Args laws_eqCpu.sig.ps) : laws_eqCpu.F k x = runF (laws_eqCpu.ctx k) laws_eqCpu.sig Try.f77 (Try.f77.body.getD .skip) (laws_eqCpu.ann k) x := by kernel_rfl
theorem laws_eqCpu.obls (k : Nat) : obl (laws_eqCpu.ctx k) 2 (Try.f77.body.getD .skip) (laws_eqCpu.ann k) (retK tds laws_eqCpu.sig Try.f77.results.toList) := ⟨trivial, ⟨⟨trivial, ⟨⟨trivial, trivial⟩, trivial⟩⟩, ⟨⟨trivial, ⟨⟨trivial, trivial⟩, trivial⟩⟩, ⟨trivial, trivial⟩⟩⟩⟩
theorem laws_eqCpu.ok (k : Nat) : EntOk Try.prog k laws_eqCpu.ent := fn_ok (C := laws_eqCpu.ctx k) Try.func77 (by kernel_rfl) (by kernel_rfl) mixed tdsOk (.cons (laws_eqIntS.ok k) EntsOk.nil) (by kernel_rfl) (Nat.le_of_ble_eq_true (by kernel_rfl)) (by kernel_rfl) (laws_eqCpu.runs k) (laws_eqCpu.obls k)
/-! loop.example/g00200/laws.eqPart -/
def laws_eqPart.f (k : Nat) (a0 : Int × (Int × List Int) × Int × Int × Int) (a1 : Int × (Int × List Int) × Int × Int × Int) : Option (Bool) :=
  if ¬ a0.1 = a1.1 then (some false) else ((laws_eqCpu.f k a0.2.1 a1.2.1).bind fun t1 => (if ¬ t1 = true then (some false) else (if ¬ a0.2.2.1 = a1.2.2.1 then (some false) else (if ¬ a0.2.2.2.1 = a1.2.2.2.1 then (some false) else (if ¬ a0.2.2.2.2 = a1.2.2.2.2 then (some false) else (some true))))))
def laws_eqPart.sig : Sig := ⟨[.val true (.pair (.int .i64) (.pair (.pair (.int .i64) (.sl 3 (.int .i64))) (.pair (.int .i64) (.pair (.int .i64) (.int .i64))))) [0], .val true (.pair (.int .i64) (.pair (.pair (.int .i64) (.sl 3 (.int .i64))) (.pair (.int .i64) (.pair (.int .i64) (.int .i64))))) [0]], [.val false .bool []]⟩
def laws_eqPart.F (k : Nat) (x : Args laws_eqPart.sig.ps) : Option (Res laws_eqPart.sig) := laws_eqPart.f k x.1 x.2.1
def laws_eqPart.ann (k : Nat) : Ann (Res laws_eqPart.sig) := .nil
def laws_eqPart.ent : Ent := ⟨27, laws_eqPart.sig, laws_eqPart.F⟩
def laws_eqPart.ctx (k : Nat) : Ctx := ⟨tds, [laws_eqCpu.ent], k, 31⟩
theorem laws_eqPart.runs (k : Nat) (x : Args laws_eqPart.sig.ps) : laws_eqPart.F k x = runF (laws_eqPart.ctx k) laws_eqPart.sig Try.f27 (Try.f27.body.getD .skip) (laws_eqPart.ann k) x := by kernel_rfl
theorem laws_eqPart.obls (k : Nat) : obl (laws_eqPart.ctx k) 2 (Try.f27.body.getD .skip) (laws_eqPart.ann k) (retK tds laws_eqPart.sig Try.f27.results.toList) := ⟨trivial, ⟨⟨trivial, ⟨⟨trivial, trivial⟩, trivial⟩⟩, ⟨⟨trivial, ⟨⟨trivial, trivial⟩, trivial⟩⟩, ⟨⟨trivial, ⟨⟨trivial, trivial⟩, trivial⟩⟩, ⟨⟨trivial, ⟨⟨trivial, trivial⟩, trivial⟩⟩, ⟨⟨trivial, ⟨⟨trivial, trivial⟩, trivial⟩⟩, ⟨trivial, trivial⟩⟩⟩⟩⟩⟩⟩
theorem laws_eqPart.ok (k : Nat) : EntOk Try.prog k laws_eqPart.ent := fn_ok (C := laws_eqPart.ctx k) Try.func27 (by kernel_rfl) (by kernel_rfl) mixed tdsOk (.cons (laws_eqCpu.ok k) EntsOk.nil) (by kernel_rfl) (Nat.le_of_ble_eq_true (by kernel_rfl)) (by kernel_rfl) (laws_eqPart.runs k) (laws_eqPart.obls k)
/-! loop.example/g00200/laws.eqPartS -/
def laws_eqPartS.l1 (k : Nat)  : Nat → Int × (List (Int × (Int × List Int) × Int × Int × Int)) × (List (Int × (Int × List Int) × Int × Int × Int)) × Unit → Option (Bool)
  | 0, _ => none
  | n + 1, (x1, x2, x3, _) => if x1 < (x2.length : Int) then (if 0 ≤ x1 then (if x1 < (x2.length : Int) then (if 0 ≤ x1 then (if x1 < (x3.length : Int) then ((laws_eqPart.f k ((el (.pair (.int .i64) (.pair (.pair (.int .i64) (.sl 3 (.int .i64))) (.pair (.int .i64) (.pair (.int .i64) (.int .i64))))) x2 x1.toNat).1, ((((el (.pair (.int .i64) (.pair (.pair (.int .i64) (.sl 3 (.int .i64))) (.pair (.int .i64) (.pair (.int .i64) (.int .i64))))) x2 x1.toNat).2).1), ((((el (.pair (.int .i64) (.pair (.pair (.int .i64) (.sl 3 (.int .i64))) (.pair (.int .i64) (.pair (.int .i64) (.int .i64))))) x2 x1.toNat).2).2).1, ((((el (.pair (.int .i64) (.pair (.pair (.int .i64) (.sl 3 (.int .i64))) (.pair (.int .i64) (.pair (.int .i64) (.int .i64))))) x2 x1.toNat).2).2).2)))) ((el (.pair (.int .i64) (.pair (.pair (.int .i64) (.sl 3 (.int .i64))) (.pair (.int .i64) (.pair (.int .i64) (.int .i64))))) x3 x1.toNat).1, ((((el (.pair (.int .i64) (.pair (.pair (.int .i64) (.sl 3 (.int .i64))) (.pair (.int .i64) (.pair (.int .i64) (.int .i64))))) x3 x1.toNat).2).1), ((((el (.pair (.int .i64) (.pair (.pair (.int .i64) (.sl 3 (.int .i64))) (.pair (.int .i64) (.pair (.int .i64) (.int .i64))))) x3 x1.toNat).2).2).1, ((((el (.pair (.int .i64) (.pair (.pair (.int .i64) (.sl 3 (.int .i64))) (.pair (.int .i64) (.pair (.int .i64) (.int .i64))))) x3 x1.toNat).2).2).2))))).bind fun t1 => (if ¬ t1 = true then (some false) else (laws_eqPartS.l1 k n (w64 (x1 + 1), x2, x3, ())))) else none) else none) else none) else none) else (some true)
def laws_eqPartS.f (k : Nat) (a0 : List (Int × (Int × List Int) × Int × Int × Int)) (a1 : List (Int × (Int × List Int) × Int × Int × Int)) : Option (Bool) :=
  if ¬ (a0.length : Int) = (a1.length : Int) then (some false) else (laws_eqPartS.l1 k k (0, a0, a1, ()))
def laws_eqPartS.Sl1 : Shape := ⟨[(0, false, [.own 0]), (1, false, [.own 1]), (5, false, [.int .i64])], [(0, .view false 59 (.pair (.int .i64) (.pair (.pair (.int .i64) (.sl 3 (.int .i64))) (.pair (.int .i64) (.pair (.int .i64) (.int .i64)))))), (1, .view false 59 (.pair (.int .i64) (.pair (.pair (.int .i64) (.sl 3 (.int .i64))) (.pair (.int .i64) (.pair (.int .i64) (.int .i64))))))], 2⟩
def laws_eqPartS.sig : Sig := ⟨[.val false (.sl 59 (.pair (.int .i64) (.pair (.pair (.int .i64) (.sl 3 (.int .i64))) (.pair (.int .i64) (.pair (.int .i64) (.int .i64)))))) [0], .val false (.sl 59 (.pair (.int .i64) (.pair (.pair (.int .i64) (.sl 3 (.int .i64))) (.pair (.int .i64) (.pair (.int .i64) (.int .i64)))))) [0]], [.val false .bool []]⟩
def laws_eqPartS.F (k : Nat) (x : Args laws_eqPartS.sig.ps) : Option (Res laws_eqPartS.sig) := laws_eqPartS.f k x.1 x.2.1
def laws_eqPartS.ann (k : Nat) : Ann (Res laws_eqPartS.sig) := (.seq .nil (.seq .nil (.seq (.seq .nil (.block (.loop laws_eqPartS.Sl1 (laws_eqPartS.l1 k) fun n1 => .nil))) .nil)))
def laws_eqPartS.ent : Ent := ⟨79, laws_eqPartS.sig, laws_eqPartS.F⟩
def laws_eqPartS.ctx (k : Nat) : Ctx := ⟨tds, [laws_eqPart.ent], k, 27⟩
theorem laws_eqPartS.runs (k : Nat) (x : Args laws_eqPartS.sig.ps) : laws_eqPartS.F k x = runF (laws_eqPartS.ctx k) laws_eqPartS.sig Try.f79 (Try.f79.body.getD .skip) (laws_eqPartS.ann k) x := by kernel_rfl
theorem laws_eqPartS.obls (k : Nat) : obl (laws_eqPartS.ctx k) 2 (Try.f79.body.getD .skip) (laws_eqPartS.ann k) (retK tds laws_eqPartS.sig Try.f79.results.toList) := ⟨trivial, ⟨⟨trivial, ⟨⟨trivial, trivial⟩, trivial⟩⟩, ⟨⟨trivial, ⟨⟨by kernel_rfl, fun x => by kernel_rfl⟩, fun n => ⟨fun x => by kernel_rfl, ⟨⟨trivial, ⟨trivial, trivial⟩⟩, ⟨⟨trivial, ⟨⟨trivial, trivial⟩, trivial⟩⟩, trivial⟩⟩⟩⟩⟩, ⟨trivial, trivial⟩⟩⟩⟩
theorem laws_eqPartS.ok (k : Nat) : EntOk Try.prog k laws_eqPartS.ent := fn_ok (C := laws_eqPartS.ctx k) Try.func79 (by kernel_rfl) (by kernel_rfl) mixed tdsOk (.cons (laws_eqPart.ok k) EntsOk.nil) (by kernel_rfl) (Nat.le_of_ble_eq_true (by kernel_rfl)) (by kernel_rfl) (laws_eqPartS.runs k) (laws_eqPartS.obls k)
/-! loop.example/g00200/laws.eqMsg -/
def laws_eqMsg.f (k : Nat) (a0 : Int × Int) (a1 : Int × Int) : Option (Bool) :=
  if ¬ a0.1 = a1.1 then (some false) else (if ¬ a0.2 = a1.2 then (some false) else (some true))
def laws_eqMsg.sig : Sig := ⟨[.val true (.pair (.int .i64) (.int .i64)) [], .val true (.pair (.int .i64) (.int .i64)) []], [.val false .bool []]⟩
def laws_eqMsg.F (k : Nat) (x : Args laws_eqMsg.sig.ps) : Option (Res laws_eqMsg.sig) := laws_eqMsg.f k x.1 x.2.1
def laws_eqMsg.ann (k : Nat) : Ann (Res laws_eqMsg.sig) := .nil
def laws_eqMsg.ent : Ent := ⟨199, laws_eqMsg.sig, laws_eqMsg.F⟩
def laws_eqMsg.ctx (k : Nat) : Ctx := ⟨tds, [], k, 15⟩
theorem laws_eqMsg.runs (k : Nat) (x : Args laws_eqMsg.sig.ps) : laws_eqMsg.F k x = runF (laws_eqMsg.ctx k) laws_eqMsg.sig Try.f199 (Try.f199.body.getD .skip) (laws_eqMsg.ann k) x := by kernel_rfl
theorem laws_eqMsg.obls (k : Nat) : obl (laws_eqMsg.ctx k) 0 (Try.f199.body.getD .skip) (laws_eqMsg.ann k) (retK tds laws_eqMsg.sig Try.f199.results.toList) := ⟨trivial, ⟨⟨trivial, ⟨⟨trivial, trivial⟩, trivial⟩⟩, ⟨⟨trivial, ⟨⟨trivial, trivial⟩, trivial⟩⟩, ⟨trivial, trivial⟩⟩⟩⟩
theorem laws_eqMsg.ok (k : Nat) : EntOk Try.prog k laws_eqMsg.ent := fn_ok (C := laws_eqMsg.ctx k) Try.func199 (by kernel_rfl) (by kernel_rfl) mixed tdsOk EntsOk.nil (by kernel_rfl) (Nat.le_of_ble_eq_true (by kernel_rfl)) (by kernel_rfl) (laws_eqMsg.runs k) (laws_eqMsg.obls k)
/-! loop.example/g00200/laws.eqMsgS -/
def laws_eqMsgS.l1 (k : Nat)  : Nat → Int × (List (Int × Int)) × (List (Int × Int)) × Unit → Option (Bool)
  | 0, _ => none
  | n + 1, (x1, x2, x3, _) => if x1 < (x2.length : Int) then (if 0 ≤ x1 then (if x1 < (x2.length : Int) then (if 0 ≤ x1 then (if x1 < (x3.length : Int) then ((laws_eqMsg.f k (el (.pair (.int .i64) (.int .i64)) x2 x1.toNat) (el (.pair (.int .i64) (.int .i64)) x3 x1.toNat)).bind fun t1 => (if ¬ t1 = true then (some false) else (laws_eqMsgS.l1 k n (w64 (x1 + 1), x2, x3, ())))) else none) else none) else none) else none) else (some true)
def laws_eqMsgS.f (k : Nat) (a0 : List (Int × Int)) (a1 : List (Int × Int)) : Option (Bool) :=
  if ¬ (a0.length : Int) = (a1.length : Int) then (some false) else (laws_eqMsgS.l1 k k (0, a0, a1, ()))
def laws_eqMsgS.Sl1 : Shape := ⟨[(0, false, [.own 0]), (1, false, [.own 1]), (5, false, [.int .i64])], [(0, .view false 241 (.pair (.int .i64) (.int .i64))), (1, .view false 241 (.pair (.int .i64) (.int .i64)))], 2⟩
def laws_eqMsgS.sig : Sig := ⟨[.val false (.sl 241 (.pair (.int .i64) (.int .i64))) [0], .val false (.sl 241 (.pair (.int .i64) (.int .i64))) [0]], [.val false .bool []]⟩
def laws_eqMsgS.F (k : Nat) (x : Args laws_eqMsgS.sig.ps) : Option (Res laws_eqMsgS.sig) := laws_eqMsgS.f k x.1 x.2.1
def laws_eqMsgS.ann (k : Nat) : Ann (Res laws_eqMsgS.sig) := (.seq .nil (.seq .nil (.seq (.seq .nil (.block (.loop laws_eqMsgS.Sl1 (laws_eqMsgS.l1 k) fun n1 => .nil))) .nil)))
def laws_eqMsgS.ent : Ent := ⟨194, laws_eqMsgS.sig, laws_eqMsgS.F⟩
def laws_eqMsgS.ctx (k : Nat) : Ctx := ⟨tds, [laws_eqMsg.ent], k, 27⟩
theorem laws_eqMsgS.runs (k : Nat) (x : Args laws_eqMsgS.sig.ps) : laws_eqMsgS.F k x = runF (laws_eqMsgS.ctx k) laws_eqMsgS.sig Try.f194 (Try.f194.body.getD .skip) (laws_eqMsgS.ann k) x := by kernel_rfl
theorem laws_eqMsgS.obls (k : Nat) : obl (laws_eqMsgS.ctx k) 2 (Try.f194.body.getD .skip) (laws_eqMsgS.ann k) (retK tds laws_eqMsgS.sig Try.f194.results.toList) := ⟨trivial, ⟨⟨trivial, ⟨⟨trivial, trivial⟩, trivial⟩⟩, ⟨⟨trivial, ⟨⟨by kernel_rfl, fun x => by kernel_rfl⟩, fun n => ⟨fun x => by kernel_rfl, ⟨⟨trivial, ⟨trivial, trivial⟩⟩, ⟨⟨trivial, ⟨⟨trivial, trivial⟩, trivial⟩⟩, trivial⟩⟩⟩⟩⟩, ⟨trivial, trivial⟩⟩⟩⟩
theorem laws_eqMsgS.ok (k : Nat) : EntOk Try.prog k laws_eqMsgS.ent := fn_ok (C := laws_eqMsgS.ctx k) Try.func194 (by kernel_rfl) (by kernel_rfl) mixed tdsOk (.cons (laws_eqMsg.ok k) EntsOk.nil) (by kernel_rfl) (Nat.le_of_ble_eq_true (by kernel_rfl)) (by kernel_rfl) (laws_eqMsgS.runs k) (laws_eqMsgS.obls k)
/-! loop.example/g00200/laws.eqLine -/
def laws_eqLine.f (k : Nat) (a0 : List (Int × Int)) (a1 : List (Int × Int)) : Option (Bool) :=
  (laws_eqMsgS.f k a0 a1).bind fun t1 => (if ¬ t1 = true then (some false) else (some true))
def laws_eqLine.sig : Sig := ⟨[.val true (.sl 241 (.pair (.int .i64) (.int .i64))) [0], .val true (.sl 241 (.pair (.int .i64) (.int .i64))) [0]], [.val false .bool []]⟩
def laws_eqLine.F (k : Nat) (x : Args laws_eqLine.sig.ps) : Option (Res laws_eqLine.sig) := laws_eqLine.f k x.1 x.2.1
def laws_eqLine.ann (k : Nat) : Ann (Res laws_eqLine.sig) := .nil
def laws_eqLine.ent : Ent := ⟨152, laws_eqLine.sig, laws_eqLine.F⟩
def laws_eqLine.ctx (k : Nat) : Ctx := ⟨tds, [laws_eqMsgS.ent], k, 11⟩
theorem laws_eqLine.runs (k : Nat) (x : Args laws_eqLine.sig.ps) : laws_eqLine.F k x = runF (laws_eqLine.ctx k) laws_eqLine.sig Try.f152 (Try.f152.body.getD .skip) (laws_eqLine.ann k) x := by kernel_rfl
theorem laws_eqLine.obls (k : Nat) : obl (laws_eqLine.ctx k) 2 (Try.f152.body.getD .skip) (laws_eqLine.ann k) (retK tds laws_eqLine.sig Try.f152.results.toList) := ⟨trivial, ⟨⟨trivial, ⟨⟨trivial, trivial⟩, trivial⟩⟩, ⟨trivial, trivial⟩⟩⟩
theorem laws_eqLine.ok (k : Nat) : EntOk Try.prog k laws_eqLine.ent := fn_ok (C := laws_eqLine.ctx k) Try.func152 (by kernel_rfl) (by kernel_rfl) mixed tdsOk (.cons (laws_eqMsgS.ok k) EntsOk.nil) (by kernel_rfl) (Nat.le_of_ble_eq_true (by kernel_rfl)) (by kernel_rfl) (laws_eqLine.runs k) (laws_eqLine.obls k)
/-! loop.example/g00200/laws.eqLineS -/
def laws_eqLineS.l1 (k : Nat)  : Nat → Int × (List (List (Int × Int))) × (List (List (Int × Int))) × Unit → Option (Bool)
  | 0, _ => none
  | n + 1, (x1, x2, x3, _) => if x1 < (x2.length : Int) then (if 0 ≤ x1 then (if x1 < (x2.length : Int) then (if 0 ≤ x1 then (if x1 < (x3.length : Int) then ((laws_eqLine.f k (el (.sl 241 (.pair (.int .i64) (.int .i64))) x2 x1.toNat) (el (.sl 241 (.pair (.int .i64) (.int .i64))) x3 x1.toNat)).bind fun t1 => (if ¬ t1 = true then (some false) else (laws_eqLineS.l1 k n (w64 (x1 + 1), x2, x3, ())))) else none) else none) else none) else none) else (some true)
def laws_eqLineS.f (k : Nat) (a0 : List (List (Int × Int))) (a1 : List (List (Int × Int))) : Option (Bool) :=
  if ¬ (a0.length : Int) = (a1.length : Int) then (some false) else (laws_eqLineS.l1 k k (0, a0, a1, ()))
def laws_eqLineS.Sl1 : Shape := ⟨[(0, false, [.own 0]), (1, false, [.own 1]), (5, false, [.int .i64])], [(0, .view false 145 (.sl 241 (.pair (.int .i64) (.int .i64)))), (1, .view false 145 (.sl 241 (.pair (.int .i64) (.int .i64))))], 2⟩
def laws_eqLineS.sig : Sig := ⟨[.val false (.sl 145 (.sl 241 (.pair (.int .i64) (.int .i64)))) [0], .val false (.sl 145 (.sl 241 (.pair (.int .i64) (.int .i64)))) [0]], [.val false .bool []]⟩
def laws_eqLineS.F (k : Nat) (x : Args laws_eqLineS.sig.ps) : Option (Res laws_eqLineS.sig) := laws_eqLineS.f k x.1 x.2.1
def laws_eqLineS.ann (k : Nat) : Ann (Res laws_eqLineS.sig) := (.seq .nil (.seq .nil (.seq (.seq .nil (.block (.loop laws_eqLineS.Sl1 (laws_eqLineS.l1 k) fun n1 => .nil))) .nil)))
def laws_eqLineS.ent : Ent := ⟨80, laws_eqLineS.sig, laws_eqLineS.F⟩
def laws_eqLineS.ctx (k : Nat) : Ctx := ⟨tds, [laws_eqLine.ent], k, 27⟩
theorem laws_eqLineS.runs (k : Nat) (x : Args laws_eqLineS.sig.ps) : laws_eqLineS.F k x = runF (laws_eqLineS.ctx k) laws_eqLineS.sig Try.f80 (Try.f80.body.getD .skip) (laws_eqLineS.ann k) x := by kernel_rfl
theorem laws_eqLineS.obls (k : Nat) : obl (laws_eqLineS.ctx k) 2 (Try.f80.body.getD .skip) (laws_eqLineS.ann k) (retK tds laws_eqLineS.sig Try.f80.results.toList) := ⟨trivial, ⟨⟨trivial, ⟨⟨trivial, trivial⟩, trivial⟩⟩, ⟨⟨trivial, ⟨⟨by kernel_rfl, fun x => by kernel_rfl⟩, fun n => ⟨fun x => by kernel_rfl, ⟨⟨trivial, ⟨trivial, trivial⟩⟩, ⟨⟨trivial, ⟨⟨trivial, trivial⟩, trivial⟩⟩, trivial⟩⟩⟩⟩⟩, ⟨trivial, trivial⟩⟩⟩⟩
theorem laws_eqLineS.ok (k : Nat) : EntOk Try.prog k laws_eqLineS.ent := fn_ok (C := laws_eqLineS.ctx k) Try.func80 (by kernel_rfl) (by kernel_rfl) mixed tdsOk (.cons (laws_eqLine.ok k) EntsOk.nil) (by kernel_rfl) (Nat.le_of_ble_eq_true (by kernel_rfl)) (by kernel_rfl) (laws_eqLineS.runs k) (laws_eqLineS.obls k)
/-! loop.example/g00200/laws.eqEntry -/
def laws_eqEntry.f (k : Nat) (a0 : Int × Int × Int × Int × Int) (a1 : Int × Int × Int × Int × Int) : Option (Bool) :=
  if ¬ a0.1 = a1.1 then (some false) else (if ¬ a0.2.1 = a1.2.1 then (some false) else (if ¬ a0.2.2.1 = a1.2.2.1 then (some false) else (if ¬ a0.2.2.2.1 = a1.2.2.2.1 then (some false) else (if ¬ a0.2.2.2.2 = a1.2.2.2.2 then (some false) else (some true)))))
def laws_eqEntry.sig : Sig := ⟨[.val true (.pair (.int .i64) (.pair (.int .i64) (.pair (.int .i64) (.pair (.int .i64) (.int .i64))))) [], .val true (.pair (.int .i64) (.pair (.int .i64) (.pair (.int .i64) (.pair (.int .i64) (.int .i64))))) []], [.val false .bool []]⟩
def laws_eqEntry.F (k : Nat) (x : Args laws_eqEntry.sig.ps) : Option (Res laws_eqEntry.sig) := laws_eqEntry.f k x.1 x.2.1
def laws_eqEntry.ann (k : Nat) : Ann (Res laws_eqEntry.sig) := .nil
def laws_eqEntry.ent : Ent := ⟨153, laws_eqEntry.sig, laws_eqEntry.F⟩
def laws_eqEntry.ctx (k : Nat) : Ctx := ⟨tds, [], k, 30⟩
theorem laws_eqEntry.runs (k : Nat) (x : Args laws_eqEntry.sig.ps) : laws_eqEntry.F k x = runF (laws_eqEntry.ctx k) laws_eqEntry.sig Try.f153 (Try.f153.body.getD .skip) (laws_eqEntry.ann k) x := by kernel_rfl
theorem laws_eqEntry.obls (k : Nat) : obl (laws_eqEntry.ctx k) 0 (Try.f153.body.getD .skip) (laws_eqEntry.ann k) (retK tds laws_eqEntry.sig Try.f153.results.toList) := ⟨trivial, ⟨⟨trivial, ⟨⟨trivial, trivial⟩, trivial⟩⟩, ⟨⟨trivial, ⟨⟨trivial, trivial⟩, trivial⟩⟩, ⟨⟨trivial, ⟨⟨trivial, trivial⟩, trivial⟩⟩, ⟨⟨trivial, ⟨⟨trivial, trivial⟩, trivial⟩⟩, ⟨⟨trivial, ⟨⟨trivial, trivial⟩, trivial⟩⟩, ⟨trivial, trivial⟩⟩⟩⟩⟩⟩⟩
theorem laws_eqEntry.ok (k : Nat) : EntOk Try.prog k laws_eqEntry.ent := fn_ok (C := laws_eqEntry.ctx k) Try.func153 (by kernel_rfl) (by kernel_rfl) mixed tdsOk EntsOk.nil (by kernel_rfl) (Nat.le_of_ble_eq_true (by kernel_rfl)) (by kernel_rfl) (laws_eqEntry.runs k) (laws_eqEntry.obls k)
/-! loop.example/g00200/laws.eqEntryS -/
def laws_eqEntryS.l1 (k : Nat)  : Nat → Int × (List (Int × Int × Int × Int × Int)) × (List (Int × Int × Int × Int × Int)) × Unit → Option (Bool)
  | 0, _ => none
  | n + 1, (x1, x2, x3, _) => if x1 < (x2.length : Int) then (if 0 ≤ x1 then (if x1 < (x2.length : Int) then (if 0 ≤ x1 then (if x1 < (x3.length : Int) then ((laws_eqEntry.f k ((el (.pair (.int .i64) (.pair (.int .i64) (.pair (.int .i64) (.pair (.int .i64) (.int .i64))))) x2 x1.toNat).1, (((el (.pair (.int .i64) (.pair (.int .i64) (.pair (.int .i64) (.pair (.int .i64) (.int .i64))))) x2 x1.toNat).2).1, ((((el (.pair (.int .i64) (.pair (.int .i64) (.pair (.int .i64) (.pair (.int .i64) (.int .i64))))) x2 x1.toNat).2).2).1, ((((el (.pair (.int .i64) (.pair (.int .i64) (.pair (.int .i64) (.pair (.int .i64) (.int .i64))))) x2 x1.toNat).2).2).2)))) ((el (.pair (.int .i64) (.pair (.int .i64) (.pair (.int .i64) (.pair (.int .i64) (.int .i64))))) x3 x1.toNat).1, (((el (.pair (.int .i64) (.pair (.int .i64) (.pair (.int .i64) (.pair (.int .i64) (.int .i64))))) x3 x1.toNat).2).1, ((((el (.pair (.int .i64) (.pair (.int .i64) (.pair (.int .i64) (.pair (.int .i64) (.int .i64))))) x3 x1.toNat).2).2).1, ((((el (.pair (.int .i64) (.pair (.int .i64) (.pair (.int .i64) (.pair (.int .i64) (.int .i64))))) x3 x1.toNat).2).2).2))))).bind fun t1 => (if ¬ t1 = true then (some false) else (laws_eqEntryS.l1 k n (w64 (x1 + 1), x2, x3, ())))) else none) else none) else none) else none) else (some true)
def laws_eqEntryS.f (k : Nat) (a0 : List (Int × Int × Int × Int × Int)) (a1 : List (Int × Int × Int × Int × Int)) : Option (Bool) :=
  if ¬ (a0.length : Int) = (a1.length : Int) then (some false) else (laws_eqEntryS.l1 k k (0, a0, a1, ()))
def laws_eqEntryS.Sl1 : Shape := ⟨[(0, false, [.own 0]), (1, false, [.own 1]), (5, false, [.int .i64])], [(0, .view false 70 (.pair (.int .i64) (.pair (.int .i64) (.pair (.int .i64) (.pair (.int .i64) (.int .i64)))))), (1, .view false 70 (.pair (.int .i64) (.pair (.int .i64) (.pair (.int .i64) (.pair (.int .i64) (.int .i64))))))], 2⟩
def laws_eqEntryS.sig : Sig := ⟨[.val false (.sl 70 (.pair (.int .i64) (.pair (.int .i64) (.pair (.int .i64) (.pair (.int .i64) (.int .i64)))))) [0], .val false (.sl 70 (.pair (.int .i64) (.pair (.int .i64) (.pair (.int .i64) (.pair (.int .i64) (.int .i64)))))) [0]], [.val false .bool []]⟩
def laws_eqEntryS.F (k : Nat) (x : Args laws_eqEntryS.sig.ps) : Option (Res laws_eqEntryS.sig) := laws_eqEntryS.f k x.1 x.2.1
def laws_eqEntryS.ann (k : Nat) : Ann (Res laws_eqEntryS.sig) := (.seq .nil (.seq .nil (.seq (.seq .nil (.block (.loop laws_eqEntryS.Sl1 (laws_eqEntryS.l1 k) fun n1 => .nil))) .nil)))
def laws_eqEntryS.ent : Ent := ⟨81, laws_eqEntryS.sig, laws_eqEntryS.F⟩
def laws_eqEntryS.ctx (k : Nat) : Ctx := ⟨tds, [laws_eqEntry.ent], k, 27⟩
theorem laws_eqEntryS.runs (k : Nat) (x : Args laws_eqEntryS.sig.ps) : laws_eqEntryS.F k x = runF (laws_eqEntryS.ctx k) laws_eqEntryS.sig Try.f81 (Try.f81.body.getD .skip) (laws_eqEntryS.ann k) x := by kernel_rfl
theorem laws_eqEntryS.obls (k : Nat) : obl (laws_eqEntryS.ctx k) 2 (Try.f81.body.getD .skip) (laws_eqEntryS.ann k) (retK tds laws_eqEntryS.sig Try.f81.results.toList) := ⟨trivial, ⟨⟨trivial, ⟨⟨trivial, trivial⟩, trivial⟩⟩, ⟨⟨trivial, ⟨⟨by kernel_rfl, fun x => by kernel_rfl⟩, fun n => ⟨fun x => by kernel_rfl, ⟨⟨trivial, ⟨trivial, trivial⟩⟩, ⟨⟨trivial, ⟨⟨trivial, trivial⟩, trivial⟩⟩, trivial⟩⟩⟩⟩⟩, ⟨trivial, trivial⟩⟩⟩⟩
theorem laws_eqEntryS.ok (k : Nat) : EntOk Try.prog k laws_eqEntryS.ent := fn_ok (C := laws_eqEntryS.ctx k) Try.func81 (by kernel_rfl) (by kernel_rfl) mixed tdsOk (.cons (laws_eqEntry.ok k) EntsOk.nil) (by kernel_rfl) (Nat.le_of_ble_eq_true (by kernel_rfl)) (by kernel_rfl) (laws_eqEntryS.runs k) (laws_eqEntryS.obls k)
/-! loop.example/g00200/laws.eqKernel -/
def laws_eqKernel.f (k : Nat) (a0 : (List (Int × Int) × List (Int × Int) × List (Int × Int × Int × Int × Int) × List (Int × Int × Int) × List ByteArray) × List Int × List (Int × (Int × List Int) × Int × Int × Int) × List (List (Int × Int)) × List Int × Int × Bool × List (Int × Int × Int × Int × Int)) (a1 : (List (Int × Int) × List (Int × Int) × List (Int × Int × Int × Int × Int) × List (Int × Int × Int) × List ByteArray) × List Int × List (Int × (Int × List Int) × Int × Int × Int) × List (List (Int × Int)) × List Int × Int × Bool × List (Int × Int × Int × Int × Int)) : Option (Bool) :=
  (laws_eqSetup.f k a0.1 a1.1).bind fun t1 => (if ¬ t1 = true then (some false) else ((laws_eqArena.f k a0.2.1 a1.2.1).bind fun t2 => (if ¬ t2 = true then (some false) else ((laws_eqPartS.f k a0.2.2.1 a1.2.2.1).bind fun t3 => (if ¬ t3 = true then (some false) else ((laws_eqLineS.f k a0.2.2.2.1 a1.2.2.2.1).bind fun t4 => (if ¬ t4 = true then (some false) else ((laws_eqIntS.f k a0.2.2.2.2.1 a1.2.2.2.2.1).bind fun t5 => (if ¬ t5 = true then (some false) else (if ¬ a0.2.2.2.2.2.1 = a1.2.2.2.2.2.1 then (some false) else (if ¬ a0.2.2.2.2.2.2.1 = a1.2.2.2.2.2.2.1 then (some false) else ((laws_eqEntryS.f k a0.2.2.2.2.2.2.2 a1.2.2.2.2.2.2.2).bind fun t6 => (if ¬ t6 = true then (some false) else (some true))))))))))))))
def laws_eqKernel.sig : Sig := ⟨[.val true (.pair (.pair (.sl 31 (.pair (.int .i64) (.int .i64))) (.pair (.sl 34 (.pair (.int .i64) (.int .i64))) (.pair (.sl 63 (.pair (.int .i64) (.pair (.int .i64) (.pair (.int .i64) (.pair (.int .i64) (.int .i64)))))) (.pair (.sl 39 (.pair (.int .i64) (.pair (.int .i64) (.int .i64)))) (.sl 9 .str))))) (.pair (.sl 3 (.int .i64)) (.pair (.sl 59 (.pair (.int .i64) (.pair (.pair (.int .i64) (.sl 3 (.int .i64))) (.pair (.int .i64) (.pair (.int .i64) (.int .i64)))))) (.pair (.sl 145 (.sl 241 (.pair (.int .i64) (.int .i64)))) (.pair (.sl 3 (.int .i64)) (.pair (.int .i64) (.pair .bool (.sl 70 (.pair (.int .i64) (.pair (.int .i64) (.pair (.int .i64) (.pair (.int .i64) (.int .i64))))))))))))) [0, 0, 0, 0, 0, 0, 0, 0, 0, 0], .val true (.pair (.pair (.sl 31 (.pair (.int .i64) (.int .i64))) (.pair (.sl 34 (.pair (.int .i64) (.int .i64))) (.pair (.sl 63 (.pair (.int .i64) (.pair (.int .i64) (.pair (.int .i64) (.pair (.int .i64) (.int .i64)))))) (.pair (.sl 39 (.pair (.int .i64) (.pair (.int .i64) (.int .i64)))) (.sl 9 .str))))) (.pair (.sl 3 (.int .i64)) (.pair (.sl 59 (.pair (.int .i64) (.pair (.pair (.int .i64) (.sl 3 (.int .i64))) (.pair (.int .i64) (.pair (.int .i64) (.int .i64)))))) (.pair (.sl 145 (.sl 241 (.pair (.int .i64) (.int .i64)))) (.pair (.sl 3 (.int .i64)) (.pair (.int .i64) (.pair .bool (.sl 70 (.pair (.int .i64) (.pair (.int .i64) (.pair (.int .i64) (.pair (.int .i64) (.int .i64))))))))))))) [0, 0, 0, 0, 0, 0, 0, 0, 0, 0]], [.val false .bool []]⟩
def laws_eqKernel.F (k : Nat) (x : Args laws_eqKernel.sig.ps) : Option (Res laws_eqKernel.sig) := laws_eqKernel.f k x.1 x.2.1
def laws_eqKernel.ann (k : Nat) : Ann (Res laws_eqKernel.sig) := .nil
def laws_eqKernel.ent : Ent := ⟨29, laws_eqKernel.sig, laws_eqKernel.F⟩
def laws_eqKernel.ctx (k : Nat) : Ctx := ⟨tds, [laws_eqIntS.ent, laws_eqSetup.ent, laws_eqArena.ent, laws_eqPartS.ent, laws_eqLineS.ent, laws_eqEntryS.ent], k, 51⟩
theorem laws_eqKernel.runs (k : Nat) (x : Args laws_eqKernel.sig.ps) : laws_eqKernel.F k x = runF (laws_eqKernel.ctx k) laws_eqKernel.sig Try.f29 (Try.f29.body.getD .skip) (laws_eqKernel.ann k) x := by kernel_rfl
theorem laws_eqKernel.obls (k : Nat) : obl (laws_eqKernel.ctx k) 20 (Try.f29.body.getD .skip) (laws_eqKernel.ann k) (retK tds laws_eqKernel.sig Try.f29.results.toList) := ⟨trivial, ⟨⟨trivial, ⟨⟨trivial, trivial⟩, trivial⟩⟩, ⟨⟨trivial, ⟨⟨trivial, trivial⟩, trivial⟩⟩, ⟨⟨trivial, ⟨⟨trivial, trivial⟩, trivial⟩⟩, ⟨⟨trivial, ⟨⟨trivial, trivial⟩, trivial⟩⟩, ⟨⟨trivial, ⟨⟨trivial, trivial⟩, trivial⟩⟩, ⟨⟨trivial, ⟨⟨trivial, trivial⟩, trivial⟩⟩, ⟨⟨trivial, ⟨⟨trivial, trivial⟩, trivial⟩⟩, ⟨⟨trivial, ⟨⟨trivial, trivial⟩, trivial⟩⟩, ⟨trivial, trivial⟩⟩⟩⟩⟩⟩⟩⟩⟩⟩
theorem laws_eqKernel.ok (k : Nat) : EntOk Try.prog k laws_eqKernel.ent := fn_ok (C := laws_eqKernel.ctx k) Try.func29 (by kernel_rfl) (by kernel_rfl) mixed tdsOk (.cons (laws_eqIntS.ok k) (.cons (laws_eqSetup.ok k) (.cons (laws_eqArena.ok k) (.cons (laws_eqPartS.ok k) (.cons (laws_eqLineS.ok k) (.cons (laws_eqEntryS.ok k) EntsOk.nil)))))) (by kernel_rfl) (Nat.le_of_ble_eq_true (by kernel_rfl)) (by kernel_rfl) (laws_eqKernel.runs k) (laws_eqKernel.obls k)
end Go.Proofs.Ytacpibmmodeacaa.QA
