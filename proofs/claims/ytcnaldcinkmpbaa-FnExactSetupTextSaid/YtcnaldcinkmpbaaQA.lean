/- The plain functions of Go functions, and that each Go function does what its plain function tells. Printed by a program of this session (gen.py). -/
import Derived.Test.YtcnaldcinkmpbaaProg
import Derived.Test.YtcnaldcinkmpbaaAbDa
import Derived.KernelRfl
namespace Go.Proofs.Ytcnaldcinkmpbaa.QA
open Go Go.Proofs Go.Proofs.YtcnaldcinkmpbaaA
set_option linter.unusedVariables false
set_option maxRecDepth 100000
def tds : List (Nat × TD) := [(2, ⟨.int .i64, 1, 8, (.int .i64), false, false⟩),
  (3, ⟨.int .i64, 1, 8, (.int .i64), false, false⟩),
  (4, ⟨.bool, 1, 1, .bool, false, false⟩),
  (5, ⟨.int .u8, 1, 1, (.int .u8), false, false⟩),
  (6, ⟨.int .u8, 1, 1, (.int .u8), false, false⟩),
  (7, ⟨.struct [(0, 2), (1, 3), (2, 4), (3, 6)], 4, 24, (.pair (.int .i64) (.pair (.int .i64) (.pair .bool (.int .u8)))), true, false⟩),
  (8, ⟨.struct [(0, 2), (1, 3), (2, 4), (3, 6)], 4, 24, (.pair (.int .i64) (.pair (.int .i64) (.pair .bool (.int .u8)))), true, false⟩),
  (9, ⟨.str, 1, 16, .str, false, false⟩),
  (10, ⟨.str, 1, 16, .str, false, false⟩),
  (11, ⟨.str, 1, 16, .str, false, false⟩),
  (12, ⟨.int .u64, 1, 8, (.int .u64), false, false⟩),
  (13, ⟨.struct [(0, 9), (1, 12)], 2, 24, (.pair .str (.int .u64)), true, false⟩),
  (14, ⟨.struct [(0, 9), (1, 12)], 2, 24, (.pair .str (.int .u64)), true, false⟩),
  (21, ⟨.int .i32, 1, 4, (.int .i32), false, false⟩),
  (22, ⟨.slice 5, 1, 24, (.sl 5 (.int .u8)), false, false⟩),
  (24, ⟨.slice 53, 1, 24, (.sl 53 (.pair (.int .i64) (.int .i64))), false, false⟩),
  (25, ⟨.slice 35, 1, 24, (.sl 35 (.pair (.int .i64) (.int .i64))), false, false⟩),
  (26, ⟨.slice 42, 1, 24, (.sl 42 (.pair (.int .i64) (.pair (.int .i64) (.pair (.int .i64) (.pair (.int .i64) (.int .i64)))))), false, false⟩),
  (27, ⟨.slice 40, 1, 24, (.sl 40 (.pair (.int .i64) (.pair (.int .i64) (.int .i64)))), false, false⟩),
  (28, ⟨.slice 9, 1, 24, (.sl 9 .str), false, false⟩),
  (29, ⟨.struct [(0, 24), (1, 25), (2, 26), (3, 27), (4, 28)], 5, 120, (.pair (.sl 53 (.pair (.int .i64) (.int .i64))) (.pair (.sl 35 (.pair (.int .i64) (.int .i64))) (.pair (.sl 42 (.pair (.int .i64) (.pair (.int .i64) (.pair (.int .i64) (.pair (.int .i64) (.int .i64)))))) (.pair (.sl 40 (.pair (.int .i64) (.pair (.int .i64) (.int .i64)))) (.sl 9 .str))))), true, false⟩),
  (30, ⟨.struct [(0, 24), (1, 25), (2, 26), (3, 27), (4, 28)], 5, 120, (.pair (.sl 53 (.pair (.int .i64) (.int .i64))) (.pair (.sl 35 (.pair (.int .i64) (.int .i64))) (.pair (.sl 42 (.pair (.int .i64) (.pair (.int .i64) (.pair (.int .i64) (.pair (.int .i64) (.int .i64)))))) (.pair (.sl 40 (.pair (.int .i64) (.pair (.int .i64) (.int .i64)))) (.sl 9 .str))))), true, false⟩),
  (32, ⟨.slice 3, 1, 24, (.sl 3 (.int .i64)), false, false⟩),
  (34, ⟨.struct [(0, 3), (1, 3)], 2, 16, (.pair (.int .i64) (.int .i64)), true, false⟩),
  (35, ⟨.struct [(0, 3), (1, 3)], 2, 16, (.pair (.int .i64) (.int .i64)), true, false⟩),
  (39, ⟨.struct [(0, 3), (1, 3), (2, 3)], 3, 24, (.pair (.int .i64) (.pair (.int .i64) (.int .i64))), true, false⟩),
  (40, ⟨.struct [(0, 3), (1, 3), (2, 3)], 3, 24, (.pair (.int .i64) (.pair (.int .i64) (.int .i64))), true, false⟩),
  (41, ⟨.struct [(0, 3), (1, 3), (2, 3), (3, 3), (4, 3)], 5, 40, (.pair (.int .i64) (.pair (.int .i64) (.pair (.int .i64) (.pair (.int .i64) (.int .i64))))), true, false⟩),
  (42, ⟨.struct [(0, 3), (1, 3), (2, 3), (3, 3), (4, 3)], 5, 40, (.pair (.int .i64) (.pair (.int .i64) (.pair (.int .i64) (.pair (.int .i64) (.int .i64))))), true, false⟩),
  (44, ⟨.slice 46, 1, 24, (.sl 46 (.pair (.int .i64) (.int .i64))), false, false⟩),
  (45, ⟨.struct [(0, 3), (1, 3)], 2, 16, (.pair (.int .i64) (.int .i64)), true, false⟩),
  (46, ⟨.struct [(0, 3), (1, 3)], 2, 16, (.pair (.int .i64) (.int .i64)), true, false⟩),
  (49, ⟨.struct [(0, 32)], 1, 24, (.sl 3 (.int .i64)), true, false⟩),
  (50, ⟨.struct [(0, 32)], 1, 24, (.sl 3 (.int .i64)), true, false⟩),
  (52, ⟨.struct [(0, 3), (1, 3)], 2, 16, (.pair (.int .i64) (.int .i64)), true, false⟩),
  (53, ⟨.struct [(0, 3), (1, 3)], 2, 16, (.pair (.int .i64) (.int .i64)), true, false⟩),
  (58, ⟨.struct [(0, 3), (1, 32)], 2, 32, (.pair (.int .i64) (.sl 3 (.int .i64))), true, false⟩),
  (59, ⟨.struct [(0, 3), (1, 32)], 2, 32, (.pair (.int .i64) (.sl 3 (.int .i64))), true, false⟩),
  (62, ⟨.struct [(0, 3), (1, 3), (2, 3), (3, 3)], 4, 32, (.pair (.int .i64) (.pair (.int .i64) (.pair (.int .i64) (.int .i64)))), true, false⟩),
  (63, ⟨.struct [(0, 3), (1, 3), (2, 3), (3, 3)], 4, 32, (.pair (.int .i64) (.pair (.int .i64) (.pair (.int .i64) (.int .i64)))), true, false⟩),
  (71, ⟨.struct [(0, 3), (1, 32)], 2, 32, (.pair (.int .i64) (.sl 3 (.int .i64))), true, false⟩),
  (72, ⟨.slice 145, 1, 24, (.sl 145 (.pair (.int .i64) (.int .i64))), false, false⟩),
  (73, ⟨.struct [(0, 32)], 1, 24, (.sl 3 (.int .i64)), true, false⟩),
  (74, ⟨.struct [(0, 3), (1, 3)], 2, 16, (.pair (.int .i64) (.int .i64)), true, false⟩),
  (89, ⟨.slice 74, 1, 24, (.sl 74 (.pair (.int .i64) (.int .i64))), false, false⟩),
  (90, ⟨.slice 193, 1, 24, (.sl 193 (.pair (.int .i64) (.int .i64))), false, false⟩),
  (91, ⟨.slice 195, 1, 24, (.sl 195 (.pair (.int .i64) (.pair (.int .i64) (.pair (.int .i64) (.pair (.int .i64) (.int .i64)))))), false, false⟩),
  (92, ⟨.slice 197, 1, 24, (.sl 197 (.pair (.int .i64) (.pair (.int .i64) (.int .i64)))), false, false⟩),
  (93, ⟨.struct [(0, 89), (1, 90), (2, 91), (3, 92), (4, 28)], 5, 120, (.pair (.sl 74 (.pair (.int .i64) (.int .i64))) (.pair (.sl 193 (.pair (.int .i64) (.int .i64))) (.pair (.sl 195 (.pair (.int .i64) (.pair (.int .i64) (.pair (.int .i64) (.pair (.int .i64) (.int .i64)))))) (.pair (.sl 197 (.pair (.int .i64) (.pair (.int .i64) (.int .i64)))) (.sl 9 .str))))), true, false⟩),
  (94, ⟨.struct [(0, 89), (1, 90), (2, 91), (3, 92), (4, 28)], 5, 120, (.pair (.sl 74 (.pair (.int .i64) (.int .i64))) (.pair (.sl 193 (.pair (.int .i64) (.int .i64))) (.pair (.sl 195 (.pair (.int .i64) (.pair (.int .i64) (.pair (.int .i64) (.pair (.int .i64) (.int .i64)))))) (.pair (.sl 197 (.pair (.int .i64) (.pair (.int .i64) (.int .i64)))) (.sl 9 .str))))), true, false⟩),
  (145, ⟨.struct [(0, 3), (1, 3)], 2, 16, (.pair (.int .i64) (.int .i64)), true, false⟩),
  (170, ⟨.struct [(0, 9), (1, 3), (2, 4)], 3, 32, (.pair .str (.pair (.int .i64) .bool)), true, false⟩),
  (171, ⟨.struct [(0, 9), (1, 3), (2, 4)], 3, 32, (.pair .str (.pair (.int .i64) .bool)), true, false⟩),
  (175, ⟨.struct [(0, 9), (1, 3), (2, 4)], 3, 32, (.pair .str (.pair (.int .i64) .bool)), true, false⟩),
  (176, ⟨.struct [(0, 9), (1, 3), (2, 4)], 3, 32, (.pair .str (.pair (.int .i64) .bool)), true, false⟩),
  (187, ⟨.struct [(0, 22), (1, 3), (2, 3)], 3, 40, (.pair (.sl 5 (.int .u8)) (.pair (.int .i64) (.int .i64))), true, false⟩),
  (188, ⟨.struct [(0, 22), (1, 3), (2, 3)], 3, 40, (.pair (.sl 5 (.int .u8)) (.pair (.int .i64) (.int .i64))), true, false⟩),
  (189, ⟨.int .u64, 1, 8, (.int .u64), false, false⟩),
  (193, ⟨.struct [(0, 3), (1, 3)], 2, 16, (.pair (.int .i64) (.int .i64)), true, false⟩),
  (195, ⟨.struct [(0, 3), (1, 3), (2, 3), (3, 3), (4, 3)], 5, 40, (.pair (.int .i64) (.pair (.int .i64) (.pair (.int .i64) (.pair (.int .i64) (.int .i64))))), true, false⟩),
  (197, ⟨.struct [(0, 3), (1, 3), (2, 3)], 3, 24, (.pair (.int .i64) (.pair (.int .i64) (.int .i64))), true, false⟩),
  (218, ⟨.int .u32, 1, 4, (.int .u32), false, false⟩),
  (219, ⟨.int .u8, 1, 1, (.int .u8), false, false⟩),
  (220, ⟨.int .u8, 1, 1, (.int .u8), false, false⟩),
  (223, ⟨.int .i32, 1, 4, (.int .i32), false, false⟩),
  (224, ⟨.int .i32, 1, 4, (.int .i32), false, false⟩)]
theorem mixed : Try.prog.follows .mixedOrders = true := by kernel_rfl
theorem tdsOk : TdsOk Try.prog tds := tds_ok (by kernel_rfl) (by kernel_rfl)
def w64 (z : Int) : Int := IntKind.i64.wrap z
/-! loop.example/g00200/laws.szRegionS -/
def laws_szRegionS.f (k : Nat) (a0 : List (Int × Int)) (a1 : Int) : Option (Int) :=
  if (w64 (a1 - (a0.length : Int))) < 0 then (some (-1)) else (some (w64 (a1 - (a0.length : Int))))
def laws_szRegionS.sig : Sig := ⟨[.val false (.sl 74 (.pair (.int .i64) (.int .i64))) [0], .val false (.int .i64) []], [.val false (.int .i64) []]⟩
def laws_szRegionS.F (k : Nat) (x : Args laws_szRegionS.sig.ps) : Option (Res laws_szRegionS.sig) := laws_szRegionS.f k x.1 x.2.1
def laws_szRegionS.ann (k : Nat) : Ann (Res laws_szRegionS.sig) := .nil
def laws_szRegionS.ent : Ent := ⟨114, laws_szRegionS.sig, laws_szRegionS.F⟩
def laws_szRegionS.ctx (k : Nat) : Ctx := ⟨tds, [], k, 12⟩
theorem laws_szRegionS.runs (k : Nat) (x : Args laws_szRegionS.sig.ps) : laws_szRegionS.F k x = runF (laws_szRegionS.ctx k) laws_szRegionS.sig Try.f114 (Try.f114.body.getD .skip) (laws_szRegionS.ann k) x := by kernel_rfl
theorem laws_szRegionS.obls (k : Nat) : obl (laws_szRegionS.ctx k) 1 (Try.f114.body.getD .skip) (laws_szRegionS.ann k) (retK tds laws_szRegionS.sig Try.f114.results.toList) := ⟨trivial, ⟨trivial, ⟨⟨trivial, ⟨⟨trivial, trivial⟩, trivial⟩⟩, ⟨trivial, trivial⟩⟩⟩⟩
theorem laws_szRegionS.ok (k : Nat) : EntOk Try.prog k laws_szRegionS.ent := fn_ok (C := laws_szRegionS.ctx k) Try.func114 (by kernel_rfl) (by kernel_rfl) mixed tdsOk EntsOk.nil (by kernel_rfl) (Nat.le_of_ble_eq_true (by kernel_rfl)) (by kernel_rfl) (laws_szRegionS.runs k) (laws_szRegionS.obls k)
/-! loop.example/g00200/laws.szWindowS -/
def laws_szWindowS.f (k : Nat) (a0 : List (Int × Int)) (a1 : Int) : Option (Int) :=
  if (w64 (a1 - (a0.length : Int))) < 0 then (some (-1)) else (some (w64 (a1 - (a0.length : Int))))
def laws_szWindowS.sig : Sig := ⟨[.val false (.sl 193 (.pair (.int .i64) (.int .i64))) [0], .val false (.int .i64) []], [.val false (.int .i64) []]⟩
def laws_szWindowS.F (k : Nat) (x : Args laws_szWindowS.sig.ps) : Option (Res laws_szWindowS.sig) := laws_szWindowS.f k x.1 x.2.1
def laws_szWindowS.ann (k : Nat) : Ann (Res laws_szWindowS.sig) := .nil
def laws_szWindowS.ent : Ent := ⟨115, laws_szWindowS.sig, laws_szWindowS.F⟩
def laws_szWindowS.ctx (k : Nat) : Ctx := ⟨tds, [], k, 12⟩
theorem laws_szWindowS.runs (k : Nat) (x : Args laws_szWindowS.sig.ps) : laws_szWindowS.F k x = runF (laws_szWindowS.ctx k) laws_szWindowS.sig Try.f115 (Try.f115.body.getD .skip) (laws_szWindowS.ann k) x := by kernel_rfl
theorem laws_szWindowS.obls (k : Nat) : obl (laws_szWindowS.ctx k) 1 (Try.f115.body.getD .skip) (laws_szWindowS.ann k) (retK tds laws_szWindowS.sig Try.f115.results.toList) := ⟨trivial, ⟨trivial, ⟨⟨trivial, ⟨⟨trivial, trivial⟩, trivial⟩⟩, ⟨trivial, trivial⟩⟩⟩⟩
theorem laws_szWindowS.ok (k : Nat) : EntOk Try.prog k laws_szWindowS.ent := fn_ok (C := laws_szWindowS.ctx k) Try.func115 (by kernel_rfl) (by kernel_rfl) mixed tdsOk EntsOk.nil (by kernel_rfl) (Nat.le_of_ble_eq_true (by kernel_rfl)) (by kernel_rfl) (laws_szWindowS.runs k) (laws_szWindowS.obls k)
/-! loop.example/g00200/laws.szPortS -/
def laws_szPortS.f (k : Nat) (a0 : List (Int × Int × Int × Int × Int)) (a1 : Int) : Option (Int) :=
  if (w64 (a1 - (a0.length : Int))) < 0 then (some (-1)) else (some (w64 (a1 - (a0.length : Int))))
def laws_szPortS.sig : Sig := ⟨[.val false (.sl 195 (.pair (.int .i64) (.pair (.int .i64) (.pair (.int .i64) (.pair (.int .i64) (.int .i64)))))) [0], .val false (.int .i64) []], [.val false (.int .i64) []]⟩
def laws_szPortS.F (k : Nat) (x : Args laws_szPortS.sig.ps) : Option (Res laws_szPortS.sig) := laws_szPortS.f k x.1 x.2.1
def laws_szPortS.ann (k : Nat) : Ann (Res laws_szPortS.sig) := .nil
def laws_szPortS.ent : Ent := ⟨116, laws_szPortS.sig, laws_szPortS.F⟩
def laws_szPortS.ctx (k : Nat) : Ctx := ⟨tds, [], k, 12⟩
theorem laws_szPortS.runs (k : Nat) (x : Args laws_szPortS.sig.ps) : laws_szPortS.F k x = runF (laws_szPortS.ctx k) laws_szPortS.sig Try.f116 (Try.f116.body.getD .skip) (laws_szPortS.ann k) x := by kernel_rfl
theorem laws_szPortS.obls (k : Nat) : obl (laws_szPortS.ctx k) 1 (Try.f116.body.getD .skip) (laws_szPortS.ann k) (retK tds laws_szPortS.sig Try.f116.results.toList) := ⟨trivial, ⟨trivial, ⟨⟨trivial, ⟨⟨trivial, trivial⟩, trivial⟩⟩, ⟨trivial, trivial⟩⟩⟩⟩
theorem laws_szPortS.ok (k : Nat) : EntOk Try.prog k laws_szPortS.ent := fn_ok (C := laws_szPortS.ctx k) Try.func116 (by kernel_rfl) (by kernel_rfl) mixed tdsOk EntsOk.nil (by kernel_rfl) (Nat.le_of_ble_eq_true (by kernel_rfl)) (by kernel_rfl) (laws_szPortS.runs k) (laws_szPortS.obls k)
/-! loop.example/g00200/laws.szRuleS -/
def laws_szRuleS.f (k : Nat) (a0 : List (Int × Int × Int)) (a1 : Int) : Option (Int) :=
  if (w64 (a1 - (a0.length : Int))) < 0 then (some (-1)) else (some (w64 (a1 - (a0.length : Int))))
def laws_szRuleS.sig : Sig := ⟨[.val false (.sl 197 (.pair (.int .i64) (.pair (.int .i64) (.int .i64)))) [0], .val false (.int .i64) []], [.val false (.int .i64) []]⟩
def laws_szRuleS.F (k : Nat) (x : Args laws_szRuleS.sig.ps) : Option (Res laws_szRuleS.sig) := laws_szRuleS.f k x.1 x.2.1
def laws_szRuleS.ann (k : Nat) : Ann (Res laws_szRuleS.sig) := .nil
def laws_szRuleS.ent : Ent := ⟨117, laws_szRuleS.sig, laws_szRuleS.F⟩
def laws_szRuleS.ctx (k : Nat) : Ctx := ⟨tds, [], k, 12⟩
theorem laws_szRuleS.runs (k : Nat) (x : Args laws_szRuleS.sig.ps) : laws_szRuleS.F k x = runF (laws_szRuleS.ctx k) laws_szRuleS.sig Try.f117 (Try.f117.body.getD .skip) (laws_szRuleS.ann k) x := by kernel_rfl
theorem laws_szRuleS.obls (k : Nat) : obl (laws_szRuleS.ctx k) 1 (Try.f117.body.getD .skip) (laws_szRuleS.ann k) (retK tds laws_szRuleS.sig Try.f117.results.toList) := ⟨trivial, ⟨trivial, ⟨⟨trivial, ⟨⟨trivial, trivial⟩, trivial⟩⟩, ⟨trivial, trivial⟩⟩⟩⟩
theorem laws_szRuleS.ok (k : Nat) : EntOk Try.prog k laws_szRuleS.ent := fn_ok (C := laws_szRuleS.ctx k) Try.func117 (by kernel_rfl) (by kernel_rfl) mixed tdsOk EntsOk.nil (by kernel_rfl) (Nat.le_of_ble_eq_true (by kernel_rfl)) (by kernel_rfl) (laws_szRuleS.runs k) (laws_szRuleS.obls k)
/-! loop.example/g00200/laws.szStringS -/
def laws_szStringS.l1 (k : Nat)  : Nat → Int × Int × List ByteArray × Unit → Option (Int)
  | 0, _ => none
  | n + 1, (x1, x2, x3, _) => if x2 < (x3.length : Int) then (if 0 ≤ x2 then (if x2 < (x3.length : Int) then (if (w64 (x1 - ((el .str x3 x2.toNat).size : Int))) < 0 then (some (-1)) else (laws_szStringS.l1 k n (w64 (x1 - ((el .str x3 x2.toNat).size : Int)), w64 (x2 + 1), x3, ()))) else none) else none) else (some x1)
def laws_szStringS.f (k : Nat) (a0 : List ByteArray) (a1 : Int) : Option (Int) :=
  if (w64 (a1 - (a0.length : Int))) < 0 then (some (-1)) else (laws_szStringS.l1 k k (w64 (a1 - (a0.length : Int)), 0, a0, ()))
def laws_szStringS.Sl1 : Shape := ⟨[(0, false, [.own 0]), (1, false, [.int .i64]), (5, false, [.int .i64])], [(0, .view false 9 .str)], 1⟩
def laws_szStringS.sig : Sig := ⟨[.val false (.sl 9 .str) [0], .val false (.int .i64) []], [.val false (.int .i64) []]⟩
def laws_szStringS.F (k : Nat) (x : Args laws_szStringS.sig.ps) : Option (Res laws_szStringS.sig) := laws_szStringS.f k x.1 x.2.1
def laws_szStringS.ann (k : Nat) : Ann (Res laws_szStringS.sig) := (.seq .nil (.seq .nil (.seq .nil (.seq (.seq .nil (.block (.loop laws_szStringS.Sl1 (laws_szStringS.l1 k) fun n1 => .nil))) .nil))))
def laws_szStringS.ent : Ent := ⟨118, laws_szStringS.sig, laws_szStringS.F⟩
def laws_szStringS.ctx (k : Nat) : Ctx := ⟨tds, [], k, 28⟩
theorem laws_szStringS.runs (k : Nat) (x : Args laws_szStringS.sig.ps) : laws_szStringS.F k x = runF (laws_szStringS.ctx k) laws_szStringS.sig Try.f118 (Try.f118.body.getD .skip) (laws_szStringS.ann k) x := by kernel_rfl
theorem laws_szStringS.obls (k : Nat) : obl (laws_szStringS.ctx k) 1 (Try.f118.body.getD .skip) (laws_szStringS.ann k) (retK tds laws_szStringS.sig Try.f118.results.toList) := ⟨trivial, ⟨trivial, ⟨⟨trivial, ⟨⟨trivial, trivial⟩, trivial⟩⟩, ⟨⟨trivial, ⟨⟨by kernel_rfl, fun x => by kernel_rfl⟩, fun n => ⟨fun x => by kernel_rfl, ⟨⟨trivial, ⟨trivial, trivial⟩⟩, ⟨⟨trivial, ⟨trivial, ⟨⟨trivial, trivial⟩, trivial⟩⟩⟩, trivial⟩⟩⟩⟩⟩, ⟨trivial, trivial⟩⟩⟩⟩⟩
theorem laws_szStringS.ok (k : Nat) : EntOk Try.prog k laws_szStringS.ent := fn_ok (C := laws_szStringS.ctx k) Try.func118 (by kernel_rfl) (by kernel_rfl) mixed tdsOk EntsOk.nil (by kernel_rfl) (Nat.le_of_ble_eq_true (by kernel_rfl)) (by kernel_rfl) (laws_szStringS.runs k) (laws_szStringS.obls k)
/-! loop.example/g00200/laws.szSetup -/
def laws_szSetup.f (k : Nat) (a0 : List (Int × Int) × List (Int × Int) × List (Int × Int × Int × Int × Int) × List (Int × Int × Int) × List ByteArray) (a1 : Int) : Option (Int) :=
  (laws_szRegionS.f k a0.1 a1).bind fun t1 => (if t1 < 0 then (some (-1)) else ((laws_szWindowS.f k a0.2.1 t1).bind fun t2 => (if t2 < 0 then (some (-1)) else ((laws_szPortS.f k a0.2.2.1 t2).bind fun t3 => (if t3 < 0 then (some (-1)) else ((laws_szRuleS.f k a0.2.2.2.1 t3).bind fun t4 => (if t4 < 0 then (some (-1)) else ((laws_szStringS.f k a0.2.2.2.2 t4).bind fun t5 => (if t5 < 0 then (some (-1)) else (some t5))))))))))
def laws_szSetup.sig : Sig := ⟨[.val true (.pair (.sl 74 (.pair (.int .i64) (.int .i64))) (.pair (.sl 193 (.pair (.int .i64) (.int .i64))) (.pair (.sl 195 (.pair (.int .i64) (.pair (.int .i64) (.pair (.int .i64) (.pair (.int .i64) (.int .i64)))))) (.pair (.sl 197 (.pair (.int .i64) (.pair (.int .i64) (.int .i64)))) (.sl 9 .str))))) [0, 0, 0, 0, 0], .val false (.int .i64) []], [.val false (.int .i64) []]⟩
def laws_szSetup.F (k : Nat) (x : Args laws_szSetup.sig.ps) : Option (Res laws_szSetup.sig) := laws_szSetup.f k x.1 x.2.1
def laws_szSetup.ann (k : Nat) : Ann (Res laws_szSetup.sig) := .nil
def laws_szSetup.ent : Ent := ⟨51, laws_szSetup.sig, laws_szSetup.F⟩
def laws_szSetup.ctx (k : Nat) : Ctx := ⟨tds, [laws_szRegionS.ent, laws_szWindowS.ent, laws_szPortS.ent, laws_szRuleS.ent, laws_szStringS.ent], k, 36⟩
theorem laws_szSetup.runs (k : Nat) (x : Args laws_szSetup.sig.ps) : laws_szSetup.F k x = runF (laws_szSetup.ctx k) laws_szSetup.sig Try.f51 (Try.f51.body.getD .skip) (laws_szSetup.ann k) x := by kernel_rfl
theorem laws_szSetup.obls (k : Nat) : obl (laws_szSetup.ctx k) 5 (Try.f51.body.getD .skip) (laws_szSetup.ann k) (retK tds laws_szSetup.sig Try.f51.results.toList) := ⟨trivial, ⟨trivial, ⟨⟨trivial, ⟨⟨trivial, trivial⟩, trivial⟩⟩, ⟨trivial, ⟨⟨trivial, ⟨⟨trivial, trivial⟩, trivial⟩⟩, ⟨trivial, ⟨⟨trivial, ⟨⟨trivial, trivial⟩, trivial⟩⟩, ⟨trivial, ⟨⟨trivial, ⟨⟨trivial, trivial⟩, trivial⟩⟩, ⟨trivial, ⟨⟨trivial, ⟨⟨trivial, trivial⟩, trivial⟩⟩, ⟨trivial, trivial⟩⟩⟩⟩⟩⟩⟩⟩⟩⟩⟩⟩
theorem laws_szSetup.ok (k : Nat) : EntOk Try.prog k laws_szSetup.ent := fn_ok (C := laws_szSetup.ctx k) Try.func51 (by kernel_rfl) (by kernel_rfl) mixed tdsOk (.cons (laws_szRegionS.ok k) (.cons (laws_szWindowS.ok k) (.cons (laws_szPortS.ok k) (.cons (laws_szRuleS.ok k) (.cons (laws_szStringS.ok k) EntsOk.nil))))) (by kernel_rfl) (Nat.le_of_ble_eq_true (by kernel_rfl)) (by kernel_rfl) (laws_szSetup.runs k) (laws_szSetup.obls k)
/-! loop.example/g00200/laws.toRegion -/
def laws_toRegion.f (k : Nat) (a0 : Int × Int) : Option (Int × Int) :=
  some a0
def laws_toRegion.sig : Sig := ⟨[.val true (.pair (.int .i64) (.int .i64)) []], [.val true (.pair (.int .i64) (.int .i64)) []]⟩
def laws_toRegion.F (k : Nat) (x : Args laws_toRegion.sig.ps) : Option (Res laws_toRegion.sig) := laws_toRegion.f k x.1
def laws_toRegion.ann (k : Nat) : Ann (Res laws_toRegion.sig) := .nil
def laws_toRegion.ent : Ent := ⟨41, laws_toRegion.sig, laws_toRegion.F⟩
def laws_toRegion.ctx (k : Nat) : Ctx := ⟨tds, [], k, 11⟩
theorem laws_toRegion.runs (k : Nat) (x : Args laws_toRegion.sig.ps) : laws_toRegion.F k x = runF (laws_toRegion.ctx k) laws_toRegion.sig Try.f41 (Try.f41.body.getD .skip) (laws_toRegion.ann k) x := by kernel_rfl
theorem laws_toRegion.obls (k : Nat) : obl (laws_toRegion.ctx k) 0 (Try.f41.body.getD .skip) (laws_toRegion.ann k) (retK tds laws_toRegion.sig Try.f41.results.toList) := ⟨trivial, ⟨trivial, ⟨trivial, ⟨trivial, ⟨trivial, trivial⟩⟩⟩⟩⟩
theorem laws_toRegion.ok (k : Nat) : EntOk Try.prog k laws_toRegion.ent := fn_ok (C := laws_toRegion.ctx k) Try.func41 (by kernel_rfl) (by kernel_rfl) mixed tdsOk EntsOk.nil (by kernel_rfl) (Nat.le_of_ble_eq_true (by kernel_rfl)) (by kernel_rfl) (laws_toRegion.runs k) (laws_toRegion.obls k)
/-! loop.example/g00200/laws.toRegionS -/
def laws_toRegionS.l1 (k : Nat)  : Nat → Int × (List (Int × Int)) × (List (Int × Int)) × Unit → Option (List (Int × Int))
  | 0, _ => none
  | n + 1, (x1, x2, x3, _) => if x1 < (x2.length : Int) then (if 0 ≤ x1 then (if x1 < (x2.length : Int) then ((laws_toRegion.f k (el (.pair (.int .i64) (.int .i64)) x2 x1.toNat)).bind fun t2 => (if 0 ≤ x1 then (if x1 < (x3.length : Int) then (((some (x3.set x1.toNat t2))).bind fun y3 => (laws_toRegionS.l1 k n (w64 (x1 + 1), x2, y3, ()))) else none) else none)) else none) else none) else (some x3)
def laws_toRegionS.f (k : Nat) (a0 : List (Int × Int)) : Option (List (Int × Int)) :=
  if (a0.length : Int) = (a0.length : Int) then (if 0 ≤ (a0.length : Int) then (if ((a0.length : Int)).toNat * 16 ≤ 281474976710656 then (((some (List.replicate ((a0.length : Int)).toNat (0, 0) : List (Int × Int)))).bind fun y1 => (laws_toRegionS.l1 k k (0, a0, y1, ()))) else none) else none) else none
def laws_toRegionS.Sl1 : Shape := ⟨[(0, false, [.own 0]), (3, false, [.own 1]), (4, false, [.int .i64])], [(0, .view false 74 (.pair (.int .i64) (.int .i64))), (1, .row 53 (.pair (.int .i64) (.int .i64)))], 2⟩
def laws_toRegionS.sig : Sig := ⟨[.val false (.sl 74 (.pair (.int .i64) (.int .i64))) [0]], [.val false (.sl 53 (.pair (.int .i64) (.int .i64))) [none]]⟩
def laws_toRegionS.F (k : Nat) (x : Args laws_toRegionS.sig.ps) : Option (Res laws_toRegionS.sig) := laws_toRegionS.f k x.1
def laws_toRegionS.ann (k : Nat) : Ann (Res laws_toRegionS.sig) := (.seq .nil (.seq .nil (.seq (.seq .nil (.block (.loop laws_toRegionS.Sl1 (laws_toRegionS.l1 k) fun n1 => .nil))) .nil)))
def laws_toRegionS.ent : Ent := ⟨125, laws_toRegionS.sig, laws_toRegionS.F⟩
def laws_toRegionS.ctx (k : Nat) : Ctx := ⟨tds, [laws_toRegion.ent], k, 23⟩
theorem laws_toRegionS.runs (k : Nat) (x : Args laws_toRegionS.sig.ps) : laws_toRegionS.F k x = runF (laws_toRegionS.ctx k) laws_toRegionS.sig Try.f125 (Try.f125.body.getD .skip) (laws_toRegionS.ann k) x := by kernel_rfl
theorem laws_toRegionS.obls (k : Nat) : obl (laws_toRegionS.ctx k) 1 (Try.f125.body.getD .skip) (laws_toRegionS.ann k) (retK tds laws_toRegionS.sig Try.f125.results.toList) := ⟨trivial, ⟨trivial, ⟨⟨trivial, ⟨⟨by kernel_rfl, fun x => by kernel_rfl⟩, fun n => ⟨fun x => by kernel_rfl, ⟨⟨trivial, ⟨trivial, trivial⟩⟩, ⟨trivial, trivial⟩⟩⟩⟩⟩, ⟨trivial, trivial⟩⟩⟩⟩
theorem laws_toRegionS.ok (k : Nat) : EntOk Try.prog k laws_toRegionS.ent := fn_ok (C := laws_toRegionS.ctx k) Try.func125 (by kernel_rfl) (by kernel_rfl) mixed tdsOk (.cons (laws_toRegion.ok k) EntsOk.nil) (by kernel_rfl) (Nat.le_of_ble_eq_true (by kernel_rfl)) (by kernel_rfl) (laws_toRegionS.runs k) (laws_toRegionS.obls k)
/-! loop.example/g00200/laws.toWindow -/
def laws_toWindow.f (k : Nat) (a0 : Int × Int) : Option (Int × Int) :=
  some a0
def laws_toWindow.sig : Sig := ⟨[.val true (.pair (.int .i64) (.int .i64)) []], [.val true (.pair (.int .i64) (.int .i64)) []]⟩
def laws_toWindow.F (k : Nat) (x : Args laws_toWindow.sig.ps) : Option (Res laws_toWindow.sig) := laws_toWindow.f k x.1
def laws_toWindow.ann (k : Nat) : Ann (Res laws_toWindow.sig) := .nil
def laws_toWindow.ent : Ent := ⟨173, laws_toWindow.sig, laws_toWindow.F⟩
def laws_toWindow.ctx (k : Nat) : Ctx := ⟨tds, [], k, 11⟩
theorem laws_toWindow.runs (k : Nat) (x : Args laws_toWindow.sig.ps) : laws_toWindow.F k x = runF (laws_toWindow.ctx k) laws_toWindow.sig Try.f173 (Try.f173.body.getD .skip) (laws_toWindow.ann k) x := by kernel_rfl
theorem laws_toWindow.obls (k : Nat) : obl (laws_toWindow.ctx k) 0 (Try.f173.body.getD .skip) (laws_toWindow.ann k) (retK tds laws_toWindow.sig Try.f173.results.toList) := ⟨trivial, ⟨trivial, ⟨trivial, ⟨trivial, ⟨trivial, trivial⟩⟩⟩⟩⟩
theorem laws_toWindow.ok (k : Nat) : EntOk Try.prog k laws_toWindow.ent := fn_ok (C := laws_toWindow.ctx k) Try.func173 (by kernel_rfl) (by kernel_rfl) mixed tdsOk EntsOk.nil (by kernel_rfl) (Nat.le_of_ble_eq_true (by kernel_rfl)) (by kernel_rfl) (laws_toWindow.runs k) (laws_toWindow.obls k)
/-! loop.example/g00200/laws.toWindowS -/
def laws_toWindowS.l1 (k : Nat)  : Nat → Int × (List (Int × Int)) × (List (Int × Int)) × Unit → Option (List (Int × Int))
  | 0, _ => none
  | n + 1, (x1, x2, x3, _) => if x1 < (x2.length : Int) then (if 0 ≤ x1 then (if x1 < (x2.length : Int) then ((laws_toWindow.f k (el (.pair (.int .i64) (.int .i64)) x2 x1.toNat)).bind fun t2 => (if 0 ≤ x1 then (if x1 < (x3.length : Int) then (((some (x3.set x1.toNat t2))).bind fun y3 => (laws_toWindowS.l1 k n (w64 (x1 + 1), x2, y3, ()))) else none) else none)) else none) else none) else (some x3)
def laws_toWindowS.f (k : Nat) (a0 : List (Int × Int)) : Option (List (Int × Int)) :=
  if (a0.length : Int) = (a0.length : Int) then (if 0 ≤ (a0.length : Int) then (if ((a0.length : Int)).toNat * 16 ≤ 281474976710656 then (((some (List.replicate ((a0.length : Int)).toNat (0, 0) : List (Int × Int)))).bind fun y1 => (laws_toWindowS.l1 k k (0, a0, y1, ()))) else none) else none) else none
def laws_toWindowS.Sl1 : Shape := ⟨[(0, false, [.own 0]), (3, false, [.own 1]), (4, false, [.int .i64])], [(0, .view false 193 (.pair (.int .i64) (.int .i64))), (1, .row 35 (.pair (.int .i64) (.int .i64)))], 2⟩
def laws_toWindowS.sig : Sig := ⟨[.val false (.sl 193 (.pair (.int .i64) (.int .i64))) [0]], [.val false (.sl 35 (.pair (.int .i64) (.int .i64))) [none]]⟩
def laws_toWindowS.F (k : Nat) (x : Args laws_toWindowS.sig.ps) : Option (Res laws_toWindowS.sig) := laws_toWindowS.f k x.1
def laws_toWindowS.ann (k : Nat) : Ann (Res laws_toWindowS.sig) := (.seq .nil (.seq .nil (.seq (.seq .nil (.block (.loop laws_toWindowS.Sl1 (laws_toWindowS.l1 k) fun n1 => .nil))) .nil)))
def laws_toWindowS.ent : Ent := ⟨126, laws_toWindowS.sig, laws_toWindowS.F⟩
def laws_toWindowS.ctx (k : Nat) : Ctx := ⟨tds, [laws_toWindow.ent], k, 23⟩
theorem laws_toWindowS.runs (k : Nat) (x : Args laws_toWindowS.sig.ps) : laws_toWindowS.F k x = runF (laws_toWindowS.ctx k) laws_toWindowS.sig Try.f126 (Try.f126.body.getD .skip) (laws_toWindowS.ann k) x := by kernel_rfl
theorem laws_toWindowS.obls (k : Nat) : obl (laws_toWindowS.ctx k) 1 (Try.f126.body.getD .skip) (laws_toWindowS.ann k) (retK tds laws_toWindowS.sig Try.f126.results.toList) := ⟨trivial, ⟨trivial, ⟨⟨trivial, ⟨⟨by kernel_rfl, fun x => by kernel_rfl⟩, fun n => ⟨fun x => by kernel_rfl, ⟨⟨trivial, ⟨trivial, trivial⟩⟩, ⟨trivial, trivial⟩⟩⟩⟩⟩, ⟨trivial, trivial⟩⟩⟩⟩
theorem laws_toWindowS.ok (k : Nat) : EntOk Try.prog k laws_toWindowS.ent := fn_ok (C := laws_toWindowS.ctx k) Try.func126 (by kernel_rfl) (by kernel_rfl) mixed tdsOk (.cons (laws_toWindow.ok k) EntsOk.nil) (by kernel_rfl) (Nat.le_of_ble_eq_true (by kernel_rfl)) (by kernel_rfl) (laws_toWindowS.runs k) (laws_toWindowS.obls k)
/-! loop.example/g00200/laws.toPort -/
def laws_toPort.f (k : Nat) (a0 : Int × Int × Int × Int × Int) : Option (Int × Int × Int × Int × Int) :=
  some a0
def laws_toPort.sig : Sig := ⟨[.val true (.pair (.int .i64) (.pair (.int .i64) (.pair (.int .i64) (.pair (.int .i64) (.int .i64))))) []], [.val true (.pair (.int .i64) (.pair (.int .i64) (.pair (.int .i64) (.pair (.int .i64) (.int .i64))))) []]⟩
def laws_toPort.F (k : Nat) (x : Args laws_toPort.sig.ps) : Option (Res laws_toPort.sig) := laws_toPort.f k x.1
def laws_toPort.ann (k : Nat) : Ann (Res laws_toPort.sig) := .nil
def laws_toPort.ent : Ent := ⟨174, laws_toPort.sig, laws_toPort.F⟩
def laws_toPort.ctx (k : Nat) : Ctx := ⟨tds, [], k, 20⟩
theorem laws_toPort.runs (k : Nat) (x : Args laws_toPort.sig.ps) : laws_toPort.F k x = runF (laws_toPort.ctx k) laws_toPort.sig Try.f174 (Try.f174.body.getD .skip) (laws_toPort.ann k) x := by kernel_rfl
theorem laws_toPort.obls (k : Nat) : obl (laws_toPort.ctx k) 0 (Try.f174.body.getD .skip) (laws_toPort.ann k) (retK tds laws_toPort.sig Try.f174.results.toList) := ⟨trivial, ⟨trivial, ⟨trivial, ⟨trivial, ⟨trivial, ⟨trivial, ⟨trivial, ⟨trivial, trivial⟩⟩⟩⟩⟩⟩⟩⟩
theorem laws_toPort.ok (k : Nat) : EntOk Try.prog k laws_toPort.ent := fn_ok (C := laws_toPort.ctx k) Try.func174 (by kernel_rfl) (by kernel_rfl) mixed tdsOk EntsOk.nil (by kernel_rfl) (Nat.le_of_ble_eq_true (by kernel_rfl)) (by kernel_rfl) (laws_toPort.runs k) (laws_toPort.obls k)
/-! loop.example/g00200/laws.toPortS -/
def laws_toPortS.l1 (k : Nat)  : Nat → Int × (List (Int × Int × Int × Int × Int)) × (List (Int × Int × Int × Int × Int)) × Unit → Option (List (Int × Int × Int × Int × Int))
  | 0, _ => none
  | n + 1, (x1, x2, x3, _) => if x1 < (x2.length : Int) then (if 0 ≤ x1 then (if x1 < (x2.length : Int) then ((laws_toPort.f k ((el (.pair (.int .i64) (.pair (.int .i64) (.pair (.int .i64) (.pair (.int .i64) (.int .i64))))) x2 x1.toNat).1, (((el (.pair (.int .i64) (.pair (.int .i64) (.pair (.int .i64) (.pair (.int .i64) (.int .i64))))) x2 x1.toNat).2).1, ((((el (.pair (.int .i64) (.pair (.int .i64) (.pair (.int .i64) (.pair (.int .i64) (.int .i64))))) x2 x1.toNat).2).2).1, ((((el (.pair (.int .i64) (.pair (.int .i64) (.pair (.int .i64) (.pair (.int .i64) (.int .i64))))) x2 x1.toNat).2).2).2))))).bind fun t2 => (if 0 ≤ x1 then (if x1 < (x3.length : Int) then (((some (x3.set x1.toNat t2))).bind fun y3 => (laws_toPortS.l1 k n (w64 (x1 + 1), x2, y3, ()))) else none) else none)) else none) else none) else (some x3)
def laws_toPortS.f (k : Nat) (a0 : List (Int × Int × Int × Int × Int)) : Option (List (Int × Int × Int × Int × Int)) :=
  if (a0.length : Int) = (a0.length : Int) then (if 0 ≤ (a0.length : Int) then (if ((a0.length : Int)).toNat * 40 ≤ 281474976710656 then (((some (List.replicate ((a0.length : Int)).toNat (0, (0, (0, (0, 0)))) : List (Int × Int × Int × Int × Int)))).bind fun y1 => (laws_toPortS.l1 k k (0, a0, y1, ()))) else none) else none) else none
def laws_toPortS.Sl1 : Shape := ⟨[(0, false, [.own 0]), (3, false, [.own 1]), (4, false, [.int .i64])], [(0, .view false 195 (.pair (.int .i64) (.pair (.int .i64) (.pair (.int .i64) (.pair (.int .i64) (.int .i64)))))), (1, .row 42 (.pair (.int .i64) (.pair (.int .i64) (.pair (.int .i64) (.pair (.int .i64) (.int .i64))))))], 2⟩
def laws_toPortS.sig : Sig := ⟨[.val false (.sl 195 (.pair (.int .i64) (.pair (.int .i64) (.pair (.int .i64) (.pair (.int .i64) (.int .i64)))))) [0]], [.val false (.sl 42 (.pair (.int .i64) (.pair (.int .i64) (.pair (.int .i64) (.pair (.int .i64) (.int .i64)))))) [none]]⟩
def laws_toPortS.F (k : Nat) (x : Args laws_toPortS.sig.ps) : Option (Res laws_toPortS.sig) := laws_toPortS.f k x.1
def laws_toPortS.ann (k : Nat) : Ann (Res laws_toPortS.sig) := (.seq .nil (.seq .nil (.seq (.seq .nil (.block (.loop laws_toPortS.Sl1 (laws_toPortS.l1 k) fun n1 => .nil))) .nil)))
def laws_toPortS.ent : Ent := ⟨127, laws_toPortS.sig, laws_toPortS.F⟩
def laws_toPortS.ctx (k : Nat) : Ctx := ⟨tds, [laws_toPort.ent], k, 23⟩
theorem laws_toPortS.runs (k : Nat) (x : Args laws_toPortS.sig.ps) : laws_toPortS.F k x = runF (laws_toPortS.ctx k) laws_toPortS.sig Try.f127 (Try.f127.body.getD .skip) (laws_toPortS.ann k) x := by kernel_rfl
theorem laws_toPortS.obls (k : Nat) : obl (laws_toPortS.ctx k) 1 (Try.f127.body.getD .skip) (laws_toPortS.ann k) (retK tds laws_toPortS.sig Try.f127.results.toList) := ⟨trivial, ⟨trivial, ⟨⟨trivial, ⟨⟨by kernel_rfl, fun x => by kernel_rfl⟩, fun n => ⟨fun x => by kernel_rfl, ⟨⟨trivial, ⟨trivial, trivial⟩⟩, ⟨trivial, trivial⟩⟩⟩⟩⟩, ⟨trivial, trivial⟩⟩⟩⟩
theorem laws_toPortS.ok (k : Nat) : EntOk Try.prog k laws_toPortS.ent := fn_ok (C := laws_toPortS.ctx k) Try.func127 (by kernel_rfl) (by kernel_rfl) mixed tdsOk (.cons (laws_toPort.ok k) EntsOk.nil) (by kernel_rfl) (Nat.le_of_ble_eq_true (by kernel_rfl)) (by kernel_rfl) (laws_toPortS.runs k) (laws_toPortS.obls k)
/-! loop.example/g00200/laws.toRule -/
def laws_toRule.f (k : Nat) (a0 : Int × Int × Int) : Option (Int × Int × Int) :=
  some a0
def laws_toRule.sig : Sig := ⟨[.val true (.pair (.int .i64) (.pair (.int .i64) (.int .i64))) []], [.val true (.pair (.int .i64) (.pair (.int .i64) (.int .i64))) []]⟩
def laws_toRule.F (k : Nat) (x : Args laws_toRule.sig.ps) : Option (Res laws_toRule.sig) := laws_toRule.f k x.1
def laws_toRule.ann (k : Nat) : Ann (Res laws_toRule.sig) := .nil
def laws_toRule.ent : Ent := ⟨175, laws_toRule.sig, laws_toRule.F⟩
def laws_toRule.ctx (k : Nat) : Ctx := ⟨tds, [], k, 14⟩
theorem laws_toRule.runs (k : Nat) (x : Args laws_toRule.sig.ps) : laws_toRule.F k x = runF (laws_toRule.ctx k) laws_toRule.sig Try.f175 (Try.f175.body.getD .skip) (laws_toRule.ann k) x := by kernel_rfl
theorem laws_toRule.obls (k : Nat) : obl (laws_toRule.ctx k) 0 (Try.f175.body.getD .skip) (laws_toRule.ann k) (retK tds laws_toRule.sig Try.f175.results.toList) := ⟨trivial, ⟨trivial, ⟨trivial, ⟨trivial, ⟨trivial, ⟨trivial, trivial⟩⟩⟩⟩⟩⟩
theorem laws_toRule.ok (k : Nat) : EntOk Try.prog k laws_toRule.ent := fn_ok (C := laws_toRule.ctx k) Try.func175 (by kernel_rfl) (by kernel_rfl) mixed tdsOk EntsOk.nil (by kernel_rfl) (Nat.le_of_ble_eq_true (by kernel_rfl)) (by kernel_rfl) (laws_toRule.runs k) (laws_toRule.obls k)
/-! loop.example/g00200/laws.toRuleS -/
def laws_toRuleS.l1 (k : Nat)  : Nat → Int × (List (Int × Int × Int)) × (List (Int × Int × Int)) × Unit → Option (List (Int × Int × Int))
  | 0, _ => none
  | n + 1, (x1, x2, x3, _) => if x1 < (x2.length : Int) then (if 0 ≤ x1 then (if x1 < (x2.length : Int) then ((laws_toRule.f k ((el (.pair (.int .i64) (.pair (.int .i64) (.int .i64))) x2 x1.toNat).1, ((el (.pair (.int .i64) (.pair (.int .i64) (.int .i64))) x2 x1.toNat).2))).bind fun t2 => (if 0 ≤ x1 then (if x1 < (x3.length : Int) then (((some (x3.set x1.toNat t2))).bind fun y3 => (laws_toRuleS.l1 k n (w64 (x1 + 1), x2, y3, ()))) else none) else none)) else none) else none) else (some x3)
def laws_toRuleS.f (k : Nat) (a0 : List (Int × Int × Int)) : Option (List (Int × Int × Int)) :=
  if (a0.length : Int) = (a0.length : Int) then (if 0 ≤ (a0.length : Int) then (if ((a0.length : Int)).toNat * 24 ≤ 281474976710656 then (((some (List.replicate ((a0.length : Int)).toNat (0, (0, 0)) : List (Int × Int × Int)))).bind fun y1 => (laws_toRuleS.l1 k k (0, a0, y1, ()))) else none) else none) else none
def laws_toRuleS.Sl1 : Shape := ⟨[(0, false, [.own 0]), (3, false, [.own 1]), (4, false, [.int .i64])], [(0, .view false 197 (.pair (.int .i64) (.pair (.int .i64) (.int .i64)))), (1, .row 40 (.pair (.int .i64) (.pair (.int .i64) (.int .i64))))], 2⟩
def laws_toRuleS.sig : Sig := ⟨[.val false (.sl 197 (.pair (.int .i64) (.pair (.int .i64) (.int .i64)))) [0]], [.val false (.sl 40 (.pair (.int .i64) (.pair (.int .i64) (.int .i64)))) [none]]⟩
def laws_toRuleS.F (k : Nat) (x : Args laws_toRuleS.sig.ps) : Option (Res laws_toRuleS.sig) := laws_toRuleS.f k x.1
def laws_toRuleS.ann (k : Nat) : Ann (Res laws_toRuleS.sig) := (.seq .nil (.seq .nil (.seq (.seq .nil (.block (.loop laws_toRuleS.Sl1 (laws_toRuleS.l1 k) fun n1 => .nil))) .nil)))
def laws_toRuleS.ent : Ent := ⟨128, laws_toRuleS.sig, laws_toRuleS.F⟩
def laws_toRuleS.ctx (k : Nat) : Ctx := ⟨tds, [laws_toRule.ent], k, 23⟩
theorem laws_toRuleS.runs (k : Nat) (x : Args laws_toRuleS.sig.ps) : laws_toRuleS.F k x = runF (laws_toRuleS.ctx k) laws_toRuleS.sig Try.f128 (Try.f128.body.getD .skip) (laws_toRuleS.ann k) x := by kernel_rfl
theorem laws_toRuleS.obls (k : Nat) : obl (laws_toRuleS.ctx k) 1 (Try.f128.body.getD .skip) (laws_toRuleS.ann k) (retK tds laws_toRuleS.sig Try.f128.results.toList) := ⟨trivial, ⟨trivial, ⟨⟨trivial, ⟨⟨by kernel_rfl, fun x => by kernel_rfl⟩, fun n => ⟨fun x => by kernel_rfl, ⟨⟨trivial, ⟨trivial, trivial⟩⟩, ⟨trivial, trivial⟩⟩⟩⟩⟩, ⟨trivial, trivial⟩⟩⟩⟩
theorem laws_toRuleS.ok (k : Nat) : EntOk Try.prog k laws_toRuleS.ent := fn_ok (C := laws_toRuleS.ctx k) Try.func128 (by kernel_rfl) (by kernel_rfl) mixed tdsOk (.cons (laws_toRule.ok k) EntsOk.nil) (by kernel_rfl) (Nat.le_of_ble_eq_true (by kernel_rfl)) (by kernel_rfl) (laws_toRuleS.runs k) (laws_toRuleS.obls k)
/-! loop.example/g00200/laws.toStringS -/
def laws_toStringS.l1 (k : Nat)  : Nat → Int × List ByteArray × List ByteArray × Unit → Option (List ByteArray)
  | 0, _ => none
  | n + 1, (x1, x2, x3, _) => if x1 < (x2.length : Int) then (if 0 ≤ x1 then (if x1 < (x2.length : Int) then (if 0 ≤ x1 then (if x1 < (x3.length : Int) then (((some (x3.set x1.toNat (el .str x2 x1.toNat)))).bind fun y2 => (laws_toStringS.l1 k n (w64 (x1 + 1), x2, y2, ()))) else none) else none) else none) else none) else (some x3)
def laws_toStringS.f (k : Nat) (a0 : List ByteArray) : Option (List ByteArray) :=
  if (a0.length : Int) = (a0.length : Int) then (if 0 ≤ (a0.length : Int) then (if ((a0.length : Int)).toNat * 16 ≤ 281474976710656 then (((some (List.replicate ((a0.length : Int)).toNat (⟨#[]⟩ : ByteArray) : List ByteArray))).bind fun y1 => (laws_toStringS.l1 k k (0, a0, y1, ()))) else none) else none) else none
def laws_toStringS.Sl1 : Shape := ⟨[(0, false, [.own 0]), (3, false, [.own 1]), (4, false, [.int .i64])], [(0, .view false 9 .str), (1, .row 9 .str)], 2⟩
def laws_toStringS.sig : Sig := ⟨[.val false (.sl 9 .str) [0]], [.val false (.sl 9 .str) [none]]⟩
def laws_toStringS.F (k : Nat) (x : Args laws_toStringS.sig.ps) : Option (Res laws_toStringS.sig) := laws_toStringS.f k x.1
def laws_toStringS.ann (k : Nat) : Ann (Res laws_toStringS.sig) := (.seq .nil (.seq .nil (.seq (.seq .nil (.block (.loop laws_toStringS.Sl1 (laws_toStringS.l1 k) fun n1 => .nil))) .nil)))
def laws_toStringS.ent : Ent := ⟨129, laws_toStringS.sig, laws_toStringS.F⟩
def laws_toStringS.ctx (k : Nat) : Ctx := ⟨tds, [], k, 22⟩
theorem laws_toStringS.runs (k : Nat) (x : Args laws_toStringS.sig.ps) : laws_toStringS.F k x = runF (laws_toStringS.ctx k) laws_toStringS.sig Try.f129 (Try.f129.body.getD .skip) (laws_toStringS.ann k) x := by kernel_rfl
theorem laws_toStringS.obls (k : Nat) : obl (laws_toStringS.ctx k) 1 (Try.f129.body.getD .skip) (laws_toStringS.ann k) (retK tds laws_toStringS.sig Try.f129.results.toList) := ⟨trivial, ⟨trivial, ⟨⟨trivial, ⟨⟨by kernel_rfl, fun x => by kernel_rfl⟩, fun n => ⟨fun x => by kernel_rfl, ⟨⟨trivial, ⟨trivial, trivial⟩⟩, ⟨trivial, trivial⟩⟩⟩⟩⟩, ⟨trivial, trivial⟩⟩⟩⟩
theorem laws_toStringS.ok (k : Nat) : EntOk Try.prog k laws_toStringS.ent := fn_ok (C := laws_toStringS.ctx k) Try.func129 (by kernel_rfl) (by kernel_rfl) mixed tdsOk EntsOk.nil (by kernel_rfl) (Nat.le_of_ble_eq_true (by kernel_rfl)) (by kernel_rfl) (laws_toStringS.runs k) (laws_toStringS.obls k)
/-! loop.example/g00200/laws.toSetup -/
def laws_toSetup.f (k : Nat) (a0 : List (Int × Int) × List (Int × Int) × List (Int × Int × Int × Int × Int) × List (Int × Int × Int) × List ByteArray) : Option (List (Int × Int) × List (Int × Int) × List (Int × Int × Int × Int × Int) × List (Int × Int × Int) × List ByteArray) :=
  (laws_toRegionS.f k a0.1).bind fun t1 => ((laws_toWindowS.f k a0.2.1).bind fun t2 => ((laws_toPortS.f k a0.2.2.1).bind fun t3 => ((laws_toRuleS.f k a0.2.2.2.1).bind fun t4 => ((laws_toStringS.f k a0.2.2.2.2).bind fun t5 => (some (t1, (t2, (t3, (t4, t5)))))))))
def laws_toSetup.sig : Sig := ⟨[.val true (.pair (.sl 74 (.pair (.int .i64) (.int .i64))) (.pair (.sl 193 (.pair (.int .i64) (.int .i64))) (.pair (.sl 195 (.pair (.int .i64) (.pair (.int .i64) (.pair (.int .i64) (.pair (.int .i64) (.int .i64)))))) (.pair (.sl 197 (.pair (.int .i64) (.pair (.int .i64) (.int .i64)))) (.sl 9 .str))))) [0, 0, 0, 0, 0]], [.val true (.pair (.sl 53 (.pair (.int .i64) (.int .i64))) (.pair (.sl 35 (.pair (.int .i64) (.int .i64))) (.pair (.sl 42 (.pair (.int .i64) (.pair (.int .i64) (.pair (.int .i64) (.pair (.int .i64) (.int .i64)))))) (.pair (.sl 40 (.pair (.int .i64) (.pair (.int .i64) (.int .i64)))) (.sl 9 .str))))) [none, none, none, none, none]]⟩
def laws_toSetup.F (k : Nat) (x : Args laws_toSetup.sig.ps) : Option (Res laws_toSetup.sig) := laws_toSetup.f k x.1
def laws_toSetup.ann (k : Nat) : Ann (Res laws_toSetup.sig) := .nil
def laws_toSetup.ent : Ent := ⟨53, laws_toSetup.sig, laws_toSetup.F⟩
def laws_toSetup.ctx (k : Nat) : Ctx := ⟨tds, [laws_toRegionS.ent, laws_toWindowS.ent, laws_toPortS.ent, laws_toRuleS.ent, laws_toStringS.ent], k, 25⟩
theorem laws_toSetup.runs (k : Nat) (x : Args laws_toSetup.sig.ps) : laws_toSetup.F k x = runF (laws_toSetup.ctx k) laws_toSetup.sig Try.f53 (Try.f53.body.getD .skip) (laws_toSetup.ann k) x := by kernel_rfl
theorem laws_toSetup.obls (k : Nat) : obl (laws_toSetup.ctx k) 5 (Try.f53.body.getD .skip) (laws_toSetup.ann k) (retK tds laws_toSetup.sig Try.f53.results.toList) := ⟨trivial, ⟨trivial, ⟨trivial, ⟨trivial, ⟨trivial, ⟨trivial, ⟨trivial, ⟨trivial, trivial⟩⟩⟩⟩⟩⟩⟩⟩
theorem laws_toSetup.ok (k : Nat) : EntOk Try.prog k laws_toSetup.ent := fn_ok (C := laws_toSetup.ctx k) Try.func53 (by kernel_rfl) (by kernel_rfl) mixed tdsOk (.cons (laws_toRegionS.ok k) (.cons (laws_toWindowS.ok k) (.cons (laws_toPortS.ok k) (.cons (laws_toRuleS.ok k) (.cons (laws_toStringS.ok k) EntsOk.nil))))) (by kernel_rfl) (Nat.le_of_ble_eq_true (by kernel_rfl)) (by kernel_rfl) (laws_toSetup.runs k) (laws_toSetup.obls k)
/-! loop.example/g00200/spec.l01In -/
def spec_l01In.f (k : Nat) (a0 : Int) (a1 : Int) (a2 : Int) : Option (Bool) :=
  if a1 ≤ a0 then (some (decide (a0 ≤ a2))) else (some false)
def spec_l01In.sig : Sig := ⟨[.val false (.int .i64) [], .val false (.int .i64) [], .val false (.int .i64) []], [.val false .bool []]⟩
def spec_l01In.F (k : Nat) (x : Args spec_l01In.sig.ps) : Option (Res spec_l01In.sig) := spec_l01In.f k x.1 x.2.1 x.2.2.1
def spec_l01In.ann (k : Nat) : Ann (Res spec_l01In.sig) := .nil
def spec_l01In.ent : Ent := ⟨106, spec_l01In.sig, spec_l01In.F⟩
def spec_l01In.ctx (k : Nat) : Ctx := ⟨tds, [], k, 15⟩
theorem spec_l01In.runs (k : Nat) (x : Args spec_l01In.sig.ps) : spec_l01In.F k x = runF (spec_l01In.ctx k) spec_l01In.sig Try.f106 (Try.f106.body.getD .skip) (spec_l01In.ann k) x := by kernel_rfl
theorem spec_l01In.obls (k : Nat) : obl (spec_l01In.ctx k) 0 (Try.f106.body.getD .skip) (spec_l01In.ann k) (retK tds spec_l01In.sig Try.f106.results.toList) := ⟨trivial, ⟨trivial, trivial⟩⟩
theorem spec_l01In.ok (k : Nat) : EntOk Try.prog k spec_l01In.ent := fn_ok (C := spec_l01In.ctx k) Try.func106 (by kernel_rfl) (by kernel_rfl) mixed tdsOk EntsOk.nil (by kernel_rfl) (Nat.le_of_ble_eq_true (by kernel_rfl)) (by kernel_rfl) (spec_l01In.runs k) (spec_l01In.obls k)
/-! loop.example/g00200/spec.RegionsOk -/
def spec_RegionsOk.l2 (k : Nat) (c0 : Int × (List (Int × Int)) × Unit → Option (Bool)) : Nat → Int × Int × Int × Int × (List (Int × Int)) × Unit → Option (Bool)
  | 0, _ => none
  | n + 1, (x1, x2, x3, x4, x5, _) => if x2 < x1 then (if 0 ≤ x2 then (if x2 < (x5.length : Int) then (if 0 ≤ x2 then (if x2 < (x5.length : Int) then (if x3 < (w64 (((el (.pair (.int .i64) (.int .i64)) x5 x2.toNat).1) + ((el (.pair (.int .i64) (.int .i64)) x5 x2.toNat).2))) then (if 0 ≤ x2 then (if x2 < (x5.length : Int) then (if ((el (.pair (.int .i64) (.int .i64)) x5 x2.toNat).1) < (w64 (x3 + x4)) then (some false) else (spec_RegionsOk.l2 k c0 n (x1, w64 (x2 + 1), x3, x4, x5, ()))) else none) else none) else (spec_RegionsOk.l2 k c0 n (x1, w64 (x2 + 1), x3, x4, x5, ()))) else none) else none) else none) else none) else (c0 (w64 (x1 + 1), x5, ()))
def spec_RegionsOk.l1 (k : Nat)  : Nat → Int × (List (Int × Int)) × Unit → Option (Bool)
  | 0, _ => none
  | n + 1, (x1, x2, _) => if x1 < (x2.length : Int) then (if 0 ≤ x1 then (if x1 < (x2.length : Int) then ((spec_l01In.f k ((el (.pair (.int .i64) (.int .i64)) x2 x1.toNat).1) 0 63).bind fun t1 => (if ¬ t1 = true then (some false) else ((spec_l01In.f k ((el (.pair (.int .i64) (.int .i64)) x2 x1.toNat).2) 1 (w64 (64 - ((el (.pair (.int .i64) (.int .i64)) x2 x1.toNat).1)))).bind fun t2 => (if ¬ t2 = true then (some false) else (spec_RegionsOk.l2 k (spec_RegionsOk.l1 k n) k (x1, 0, (el (.pair (.int .i64) (.int .i64)) x2 x1.toNat).1, (el (.pair (.int .i64) (.int .i64)) x2 x1.toNat).2, x2, ())))))) else none) else none) else ((spec_l01In.f k (x2.length : Int) 1 4).bind fun t3 => (some t3))
def spec_RegionsOk.f (k : Nat) (a0 : List (Int × Int)) : Option (Bool) :=
  spec_RegionsOk.l1 k k (0, a0, ())
def spec_RegionsOk.Sl1 : Shape := ⟨[(0, false, [.own 0]), (3, false, [.int .i64])], [(0, .view false 53 (.pair (.int .i64) (.int .i64)))], 1⟩
def spec_RegionsOk.Sl2 : Shape := ⟨[(0, false, [.own 0]), (3, false, [.int .i64]), (4, false, [.ptr 1 0]), (5, false, [.int .i64])], [(1, .blk 53 [.int .i64, .int .i64]), (0, .view false 53 (.pair (.int .i64) (.int .i64)))], 2⟩
def spec_RegionsOk.sig : Sig := ⟨[.val false (.sl 53 (.pair (.int .i64) (.int .i64))) [0]], [.val false .bool []]⟩
def spec_RegionsOk.F (k : Nat) (x : Args spec_RegionsOk.sig.ps) : Option (Res spec_RegionsOk.sig) := spec_RegionsOk.f k x.1
def spec_RegionsOk.ann (k : Nat) : Ann (Res spec_RegionsOk.sig) := (.seq .nil (.seq (.seq .nil (.block (.loop spec_RegionsOk.Sl1 (spec_RegionsOk.l1 k) fun n1 => (.seq .nil (.seq (.block (.seq .nil (.seq .nil (.seq .nil (.block (.loop spec_RegionsOk.Sl2 (spec_RegionsOk.l2 k (spec_RegionsOk.l1 k n1)) fun n2 => .nil)))))) .nil))))) .nil))
def spec_RegionsOk.ent : Ent := ⟨119, spec_RegionsOk.sig, spec_RegionsOk.F⟩
def spec_RegionsOk.ctx (k : Nat) : Ctx := ⟨tds, [spec_l01In.ent], k, 64⟩
theorem spec_RegionsOk.runs (k : Nat) (x : Args spec_RegionsOk.sig.ps) : spec_RegionsOk.F k x = runF (spec_RegionsOk.ctx k) spec_RegionsOk.sig Try.f119 (Try.f119.body.getD .skip) (spec_RegionsOk.ann k) x := by kernel_rfl
theorem spec_RegionsOk.obls (k : Nat) : obl (spec_RegionsOk.ctx k) 1 (Try.f119.body.getD .skip) (spec_RegionsOk.ann k) (retK tds spec_RegionsOk.sig Try.f119.results.toList) := ⟨trivial, ⟨⟨trivial, ⟨⟨by kernel_rfl, fun x => by kernel_rfl⟩, fun n => ⟨fun x => by kernel_rfl, ⟨⟨trivial, ⟨trivial, trivial⟩⟩, ⟨⟨trivial, ⟨⟨trivial, ⟨⟨trivial, trivial⟩, trivial⟩⟩, ⟨trivial, ⟨⟨by kernel_rfl, fun x => by kernel_rfl⟩, fun n => ⟨fun x => by kernel_rfl, ⟨⟨trivial, ⟨trivial, trivial⟩⟩, ⟨⟨trivial, ⟨⟨trivial, trivial⟩, trivial⟩⟩, trivial⟩⟩⟩⟩⟩⟩⟩, trivial⟩⟩⟩⟩⟩, ⟨trivial, trivial⟩⟩⟩
theorem spec_RegionsOk.ok (k : Nat) : EntOk Try.prog k spec_RegionsOk.ent := fn_ok (C := spec_RegionsOk.ctx k) Try.func119 (by kernel_rfl) (by kernel_rfl) mixed tdsOk (.cons (spec_l01In.ok k) EntsOk.nil) (by kernel_rfl) (Nat.le_of_ble_eq_true (by kernel_rfl)) (by kernel_rfl) (spec_RegionsOk.runs k) (spec_RegionsOk.obls k)
/-! loop.example/g00200/spec.PlanOk -/
def spec_PlanOk.l1 (k : Nat)  : Nat → Int × (List (Int × Int)) × Unit → Option (Bool)
  | 0, _ => none
  | n + 1, (x1, x2, _) => if x1 < (x2.length : Int) then (if 0 ≤ x1 then (if x1 < (x2.length : Int) then ((spec_l01In.f k ((el (.pair (.int .i64) (.int .i64)) x2 x1.toNat).1) 1 4).bind fun t1 => (if ¬ t1 = true then (some false) else (if 0 ≤ x1 then (if x1 < (x2.length : Int) then ((spec_l01In.f k ((el (.pair (.int .i64) (.int .i64)) x2 x1.toNat).2) 1 200).bind fun t2 => (if ¬ t2 = true then (some false) else (spec_PlanOk.l1 k n (w64 (x1 + 1), x2, ())))) else none) else none))) else none) else none) else ((spec_l01In.f k (x2.length : Int) 1 12).bind fun t3 => (some t3))
def spec_PlanOk.f (k : Nat) (a0 : List (Int × Int)) : Option (Bool) :=
  spec_PlanOk.l1 k k (0, a0, ())
def spec_PlanOk.Sl1 : Shape := ⟨[(0, false, [.own 0]), (3, false, [.int .i64])], [(0, .view false 35 (.pair (.int .i64) (.int .i64)))], 1⟩
def spec_PlanOk.sig : Sig := ⟨[.val false (.sl 35 (.pair (.int .i64) (.int .i64))) [0]], [.val false .bool []]⟩
def spec_PlanOk.F (k : Nat) (x : Args spec_PlanOk.sig.ps) : Option (Res spec_PlanOk.sig) := spec_PlanOk.f k x.1
def spec_PlanOk.ann (k : Nat) : Ann (Res spec_PlanOk.sig) := (.seq .nil (.seq (.seq .nil (.block (.loop spec_PlanOk.Sl1 (spec_PlanOk.l1 k) fun n1 => .nil))) .nil))
def spec_PlanOk.ent : Ent := ⟨120, spec_PlanOk.sig, spec_PlanOk.F⟩
def spec_PlanOk.ctx (k : Nat) : Ctx := ⟨tds, [spec_l01In.ent], k, 29⟩
theorem spec_PlanOk.runs (k : Nat) (x : Args spec_PlanOk.sig.ps) : spec_PlanOk.F k x = runF (spec_PlanOk.ctx k) spec_PlanOk.sig Try.f120 (Try.f120.body.getD .skip) (spec_PlanOk.ann k) x := by kernel_rfl
theorem spec_PlanOk.obls (k : Nat) : obl (spec_PlanOk.ctx k) 1 (Try.f120.body.getD .skip) (spec_PlanOk.ann k) (retK tds spec_PlanOk.sig Try.f120.results.toList) := ⟨trivial, ⟨⟨trivial, ⟨⟨by kernel_rfl, fun x => by kernel_rfl⟩, fun n => ⟨fun x => by kernel_rfl, ⟨⟨trivial, ⟨trivial, trivial⟩⟩, ⟨⟨trivial, ⟨⟨trivial, trivial⟩, trivial⟩⟩, trivial⟩⟩⟩⟩⟩, ⟨trivial, trivial⟩⟩⟩
theorem spec_PlanOk.ok (k : Nat) : EntOk Try.prog k spec_PlanOk.ent := fn_ok (C := spec_PlanOk.ctx k) Try.func120 (by kernel_rfl) (by kernel_rfl) mixed tdsOk (.cons (spec_l01In.ok k) EntsOk.nil) (by kernel_rfl) (Nat.le_of_ble_eq_true (by kernel_rfl)) (by kernel_rfl) (spec_PlanOk.runs k) (spec_PlanOk.obls k)
/-! loop.example/g00200/spec.PortOk -/
def spec_PortOk.f (k : Nat) (a0 : Int × Int × Int × Int × Int) : Option (Bool) :=
  (spec_l01In.f k a0.2.1 1 4).bind fun t1 => (if ¬ t1 = true then (some false) else ((spec_l01In.f k a0.2.2.1 1 4).bind fun t2 => (if ¬ t2 = true then (some false) else (if a0.2.1 = a0.2.2.1 then (some false) else (if a0.1 = 1 then ((spec_l01In.f k a0.2.2.2.1 1 6).bind fun t3 => (if t3 = true then (some (decide (a0.2.2.2.2 = 0))) else (some false))) else (if a0.1 = 2 then (if a0.2.2.2.1 = 1 then ((spec_l01In.f k a0.2.2.2.2 1 100).bind fun t4 => (some t4)) else (some false)) else (some false)))))))
def spec_PortOk.sig : Sig := ⟨[.val true (.pair (.int .i64) (.pair (.int .i64) (.pair (.int .i64) (.pair (.int .i64) (.int .i64))))) []], [.val false .bool []]⟩
def spec_PortOk.F (k : Nat) (x : Args spec_PortOk.sig.ps) : Option (Res spec_PortOk.sig) := spec_PortOk.f k x.1
def spec_PortOk.ann (k : Nat) : Ann (Res spec_PortOk.sig) := .nil
def spec_PortOk.ent : Ent := ⟨121, spec_PortOk.sig, spec_PortOk.F⟩
def spec_PortOk.ctx (k : Nat) : Ctx := ⟨tds, [spec_l01In.ent], k, 44⟩
theorem spec_PortOk.runs (k : Nat) (x : Args spec_PortOk.sig.ps) : spec_PortOk.F k x = runF (spec_PortOk.ctx k) spec_PortOk.sig Try.f121 (Try.f121.body.getD .skip) (spec_PortOk.ann k) x := by kernel_rfl
theorem spec_PortOk.obls (k : Nat) : obl (spec_PortOk.ctx k) 0 (Try.f121.body.getD .skip) (spec_PortOk.ann k) (retK tds spec_PortOk.sig Try.f121.results.toList) := ⟨trivial, ⟨⟨trivial, ⟨⟨trivial, trivial⟩, trivial⟩⟩, ⟨⟨trivial, ⟨⟨trivial, trivial⟩, trivial⟩⟩, ⟨trivial, trivial⟩⟩⟩⟩
theorem spec_PortOk.ok (k : Nat) : EntOk Try.prog k spec_PortOk.ent := fn_ok (C := spec_PortOk.ctx k) Try.func121 (by kernel_rfl) (by kernel_rfl) mixed tdsOk (.cons (spec_l01In.ok k) EntsOk.nil) (by kernel_rfl) (Nat.le_of_ble_eq_true (by kernel_rfl)) (by kernel_rfl) (spec_PortOk.runs k) (spec_PortOk.obls k)
/-! loop.example/g00200/spec.RulesOk -/
def spec_RulesOk.l2 (k : Nat) (c0 : Int × (List (Int × Int × Int)) × Unit → Option (Bool)) : Nat → Int × Int × Int × Int × Int × (List (Int × Int × Int)) × Unit → Option (Bool)
  | 0, _ => none
  | n + 1, (x1, x2, x3, x4, x5, x6, _) => if x2 < x1 then (if 0 ≤ x2 then (if x2 < (x6.length : Int) then (if ((el (.pair (.int .i64) (.pair (.int .i64) (.int .i64))) x6 x2.toNat).1) = x3 then (if 0 ≤ x2 then (if x2 < (x6.length : Int) then (if (((el (.pair (.int .i64) (.pair (.int .i64) (.int .i64))) x6 x2.toNat).2).1) = x4 then (some false) else (spec_RulesOk.l2 k c0 n (x1, w64 (x2 + 1), x3, x4, x5, x6, ()))) else none) else none) else (spec_RulesOk.l2 k c0 n (x1, w64 (x2 + 1), x3, x4, x5, x6, ()))) else none) else none) else (c0 (w64 (x1 + 1), x6, ()))
def spec_RulesOk.l1 (k : Nat)  : Nat → Int × (List (Int × Int × Int)) × Unit → Option (Bool)
  | 0, _ => none
  | n + 1, (x1, x2, _) => if x1 < (x2.length : Int) then (if 0 ≤ x1 then (if x1 < (x2.length : Int) then ((spec_l01In.f k ((el (.pair (.int .i64) (.pair (.int .i64) (.int .i64))) x2 x1.toNat).1) 1 4).bind fun t1 => (if ¬ t1 = true then (some false) else ((spec_l01In.f k (((el (.pair (.int .i64) (.pair (.int .i64) (.int .i64))) x2 x1.toNat).2).1) 1 2).bind fun t2 => (if ¬ t2 = true then (some false) else ((spec_l01In.f k (((el (.pair (.int .i64) (.pair (.int .i64) (.int .i64))) x2 x1.toNat).2).2) 0 4).bind fun t3 => (if ¬ t3 = true then (some false) else (if (((el (.pair (.int .i64) (.pair (.int .i64) (.int .i64))) x2 x1.toNat).2).1) = 1 then (if (((el (.pair (.int .i64) (.pair (.int .i64) (.int .i64))) x2 x1.toNat).2).2) = 0 then (some false) else (spec_RulesOk.l2 k (spec_RulesOk.l1 k n) k (x1, 0, (el (.pair (.int .i64) (.pair (.int .i64) (.int .i64))) x2 x1.toNat).1, ((el (.pair (.int .i64) (.pair (.int .i64) (.int .i64))) x2 x1.toNat).2).1, ((el (.pair (.int .i64) (.pair (.int .i64) (.int .i64))) x2 x1.toNat).2).2, x2, ()))) else (spec_RulesOk.l2 k (spec_RulesOk.l1 k n) k (x1, 0, (el (.pair (.int .i64) (.pair (.int .i64) (.int .i64))) x2 x1.toNat).1, ((el (.pair (.int .i64) (.pair (.int .i64) (.int .i64))) x2 x1.toNat).2).1, ((el (.pair (.int .i64) (.pair (.int .i64) (.int .i64))) x2 x1.toNat).2).2, x2, ()))))))))) else none) else none) else (some (decide ((x2.length : Int) ≤ 8)))
def spec_RulesOk.f (k : Nat) (a0 : List (Int × Int × Int)) : Option (Bool) :=
  spec_RulesOk.l1 k k (0, a0, ())
def spec_RulesOk.Sl1 : Shape := ⟨[(0, false, [.own 0]), (3, false, [.int .i64])], [(0, .view false 40 (.pair (.int .i64) (.pair (.int .i64) (.int .i64))))], 1⟩
def spec_RulesOk.Sl2 : Shape := ⟨[(0, false, [.own 0]), (3, false, [.int .i64]), (4, false, [.ptr 1 0]), (5, false, [.int .i64])], [(1, .blk 40 [.int .i64, .int .i64, .int .i64]), (0, .view false 40 (.pair (.int .i64) (.pair (.int .i64) (.int .i64))))], 2⟩
def spec_RulesOk.sig : Sig := ⟨[.val false (.sl 40 (.pair (.int .i64) (.pair (.int .i64) (.int .i64)))) [0]], [.val false .bool []]⟩
def spec_RulesOk.F (k : Nat) (x : Args spec_RulesOk.sig.ps) : Option (Res spec_RulesOk.sig) := spec_RulesOk.f k x.1
def spec_RulesOk.ann (k : Nat) : Ann (Res spec_RulesOk.sig) := (.seq .nil (.seq (.seq .nil (.block (.loop spec_RulesOk.Sl1 (spec_RulesOk.l1 k) fun n1 => (.seq .nil (.seq (.block (.seq .nil (.seq .nil (.seq .nil (.block (.loop spec_RulesOk.Sl2 (spec_RulesOk.l2 k (spec_RulesOk.l1 k n1)) fun n2 => .nil)))))) .nil))))) .nil))
def spec_RulesOk.ent : Ent := ⟨122, spec_RulesOk.sig, spec_RulesOk.F⟩
def spec_RulesOk.ctx (k : Nat) : Ctx := ⟨tds, [spec_l01In.ent], k, 68⟩
theorem spec_RulesOk.runs (k : Nat) (x : Args spec_RulesOk.sig.ps) : spec_RulesOk.F k x = runF (spec_RulesOk.ctx k) spec_RulesOk.sig Try.f122 (Try.f122.body.getD .skip) (spec_RulesOk.ann k) x := by kernel_rfl
theorem spec_RulesOk.obls (k : Nat) : obl (spec_RulesOk.ctx k) 1 (Try.f122.body.getD .skip) (spec_RulesOk.ann k) (retK tds spec_RulesOk.sig Try.f122.results.toList) := ⟨trivial, ⟨⟨trivial, ⟨⟨by kernel_rfl, fun x => by kernel_rfl⟩, fun n => ⟨fun x => by kernel_rfl, ⟨⟨trivial, ⟨trivial, trivial⟩⟩, ⟨⟨trivial, ⟨⟨trivial, ⟨⟨trivial, trivial⟩, trivial⟩⟩, ⟨trivial, ⟨⟨by kernel_rfl, fun x => by kernel_rfl⟩, fun n => ⟨fun x => by kernel_rfl, ⟨⟨trivial, ⟨trivial, trivial⟩⟩, ⟨⟨trivial, ⟨⟨trivial, trivial⟩, trivial⟩⟩, trivial⟩⟩⟩⟩⟩⟩⟩, trivial⟩⟩⟩⟩⟩, ⟨trivial, trivial⟩⟩⟩
theorem spec_RulesOk.ok (k : Nat) : EntOk Try.prog k spec_RulesOk.ent := fn_ok (C := spec_RulesOk.ctx k) Try.func122 (by kernel_rfl) (by kernel_rfl) mixed tdsOk (.cons (spec_l01In.ok k) EntsOk.nil) (by kernel_rfl) (Nat.le_of_ble_eq_true (by kernel_rfl)) (by kernel_rfl) (spec_RulesOk.runs k) (spec_RulesOk.obls k)
/-! loop.example/g00200/spec.ReadCode -/
def spec_ReadCode.l1 (k : Nat)  : Nat → ByteArray × Int × (List (Int × Int)) × Unit → Option ((List (Int × Int)) × Bool)
  | 0, _ => none
  | n + 1, (x1, x2, x3, _) => if x2 < (x1.size : Int) then (if 0 ≤ x2 then (if x2 < (x1.size : Int) then (if 0 ≤ w64 (x2 + 1) then (if w64 (x2 + 1) < (x1.size : Int) then (((some ([(w64 (bt x1 x2), w64 (bt x1 (w64 (x2 + 1))))] : List (Int × Int)))).bind fun y2 => (if (x3.length + y2.length) * 16 ≤ 140737488355328 then (((some (x3 ++ y2))).bind fun y3 => (spec_ReadCode.l1 k n (x1, w64 (x2 + 2), y3, ()))) else none)) else none) else none) else none) else none) else (some (x3, true))
def spec_ReadCode.f (k : Nat) (a0 : ByteArray) : Option ((List (Int × Int)) × Bool) :=
  ((some ([] : List (Int × Int)))).bind fun y1 => (if ¬ (Int.tmod (a0.size : Int) 2) = 0 then (some (y1, false)) else (if 120 < (a0.size : Int) then (some (y1, false)) else (spec_ReadCode.l1 k k (a0, 0, y1, ()))))
def spec_ReadCode.Sl1 : Shape := ⟨[(0, false, [.str]), (4, false, [.own 0]), (5, false, [.int .i64])], [(0, .row 46 (.pair (.int .i64) (.int .i64)))], 1⟩
def spec_ReadCode.sig : Sig := ⟨[.val false .str []], [.val false (.sl 46 (.pair (.int .i64) (.int .i64))) [none], .val false .bool []]⟩
def spec_ReadCode.F (k : Nat) (x : Args spec_ReadCode.sig.ps) : Option (Res spec_ReadCode.sig) := spec_ReadCode.f k x.1
def spec_ReadCode.ann (k : Nat) : Ann (Res spec_ReadCode.sig) := (.seq .nil (.seq .nil (.seq .nil (.seq (.seq .nil (.block (.loop spec_ReadCode.Sl1 (spec_ReadCode.l1 k) fun n1 => .nil))) .nil))))
def spec_ReadCode.ent : Ent := ⟨123, spec_ReadCode.sig, spec_ReadCode.F⟩
def spec_ReadCode.ctx (k : Nat) : Ctx := ⟨tds, [], k, 37⟩
theorem spec_ReadCode.runs (k : Nat) (x : Args spec_ReadCode.sig.ps) : spec_ReadCode.F k x = runF (spec_ReadCode.ctx k) spec_ReadCode.sig Try.f123 (Try.f123.body.getD .skip) (spec_ReadCode.ann k) x := by kernel_rfl
theorem spec_ReadCode.obls (k : Nat) : obl (spec_ReadCode.ctx k) 0 (Try.f123.body.getD .skip) (spec_ReadCode.ann k) (retK tds spec_ReadCode.sig Try.f123.results.toList) := ⟨trivial, ⟨trivial, ⟨⟨trivial, ⟨⟨trivial, trivial⟩, trivial⟩⟩, ⟨⟨trivial, ⟨⟨by kernel_rfl, fun x => by kernel_rfl⟩, fun n => ⟨fun x => by kernel_rfl, ⟨⟨trivial, ⟨trivial, trivial⟩⟩, ⟨trivial, trivial⟩⟩⟩⟩⟩, ⟨trivial, trivial⟩⟩⟩⟩⟩
theorem spec_ReadCode.ok (k : Nat) : EntOk Try.prog k spec_ReadCode.ent := fn_ok (C := spec_ReadCode.ctx k) Try.func123 (by kernel_rfl) (by kernel_rfl) mixed tdsOk EntsOk.nil (by kernel_rfl) (Nat.le_of_ble_eq_true (by kernel_rfl)) (by kernel_rfl) (spec_ReadCode.runs k) (spec_ReadCode.obls k)
/-! loop.example/g00200/spec.l11Parts -/
def spec_l11Parts.l3 (k : Nat)  : Nat → Int × Int × (List (Int × Int)) × (List (Int × Int)) × (List (Int × Int × Int × Int × Int)) × (List (Int × Int × Int)) × List ByteArray × Unit → Option (Int)
  | 0, _ => none
  | n + 1, (x1, x2, x3, x4, x5, x6, x7, _) => if x2 < (x6.length : Int) then (if 0 ≤ x2 then (if x2 < (x6.length : Int) then (if x1 < ((el (.pair (.int .i64) (.pair (.int .i64) (.int .i64))) x6 x2.toNat).1) then (some 6) else (spec_l11Parts.l3 k n (x1, w64 (x2 + 1), x3, x4, x5, x6, x7, ()))) else none) else none) else (some 0)
def spec_l11Parts.l2 (k : Nat)  : Nat → Int × Int × (List (Int × Int)) × (List (Int × Int)) × (List (Int × Int × Int × Int × Int)) × (List (Int × Int × Int)) × List ByteArray × Unit → Option (Int)
  | 0, _ => none
  | n + 1, (x1, x2, x3, x4, x5, x6, x7, _) => if x2 < (x5.length : Int) then (if 0 ≤ x2 then (if x2 < (x5.length : Int) then (if x1 < (((el (.pair (.int .i64) (.pair (.int .i64) (.pair (.int .i64) (.pair (.int .i64) (.int .i64))))) x5 x2.toNat).2).1) then (some 6) else (if 0 ≤ x2 then (if x2 < (x5.length : Int) then (if x1 < ((((el (.pair (.int .i64) (.pair (.int .i64) (.pair (.int .i64) (.pair (.int .i64) (.int .i64))))) x5 x2.toNat).2).2).1) then (some 6) else (spec_l11Parts.l2 k n (x1, w64 (x2 + 1), x3, x4, x5, x6, x7, ()))) else none) else none)) else none) else none) else (spec_l11Parts.l3 k k (x1, 0, x3, x4, x5, x6, x7, ()))
def spec_l11Parts.l1 (k : Nat)  : Nat → Int × Int × (List (Int × Int)) × (List (Int × Int)) × (List (Int × Int × Int × Int × Int)) × (List (Int × Int × Int)) × List ByteArray × Unit → Option (Int)
  | 0, _ => none
  | n + 1, (x1, x2, x3, x4, x5, x6, x7, _) => if x2 < (x4.length : Int) then (if 0 ≤ x2 then (if x2 < (x4.length : Int) then (if x1 < ((el (.pair (.int .i64) (.int .i64)) x4 x2.toNat).1) then (some 6) else (spec_l11Parts.l1 k n (x1, w64 (x2 + 1), x3, x4, x5, x6, x7, ()))) else none) else none) else (spec_l11Parts.l2 k k (x1, 0, x3, x4, x5, x6, x7, ()))
def spec_l11Parts.f (k : Nat) (a0 : List (Int × Int) × List (Int × Int) × List (Int × Int × Int × Int × Int) × List (Int × Int × Int) × List ByteArray) : Option (Int) :=
  spec_l11Parts.l1 k k ((a0.1.length : Int), 0, a0.1, a0.2.1, a0.2.2.1, a0.2.2.2.1, a0.2.2.2.2, ())
def spec_l11Parts.Sl1 : Shape := ⟨[(1, false, [.ptr 5 0]), (3, false, [.int .i64]), (4, false, [.int .i64])], [(5, .blk 30 [.own 0, .own 1, .own 2, .own 3, .own 4]), (0, .view false 53 (.pair (.int .i64) (.int .i64))), (1, .view false 35 (.pair (.int .i64) (.int .i64))), (2, .view false 42 (.pair (.int .i64) (.pair (.int .i64) (.pair (.int .i64) (.pair (.int .i64) (.int .i64)))))), (3, .view false 40 (.pair (.int .i64) (.pair (.int .i64) (.int .i64)))), (4, .view false 9 .str)], 6⟩
def spec_l11Parts.Sl2 : Shape := ⟨[(1, false, [.ptr 5 0]), (3, false, [.int .i64]), (5, false, [.int .i64])], [(5, .blk 30 [.own 0, .own 1, .own 2, .own 3, .own 4]), (0, .view false 53 (.pair (.int .i64) (.int .i64))), (1, .view false 35 (.pair (.int .i64) (.int .i64))), (2, .view false 42 (.pair (.int .i64) (.pair (.int .i64) (.pair (.int .i64) (.pair (.int .i64) (.int .i64)))))), (3, .view false 40 (.pair (.int .i64) (.pair (.int .i64) (.int .i64)))), (4, .view false 9 .str)], 6⟩
def spec_l11Parts.Sl3 : Shape := ⟨[(1, false, [.ptr 5 0]), (3, false, [.int .i64]), (6, false, [.int .i64])], [(5, .blk 30 [.own 0, .own 1, .own 2, .own 3, .own 4]), (0, .view false 53 (.pair (.int .i64) (.int .i64))), (1, .view false 35 (.pair (.int .i64) (.int .i64))), (2, .view false 42 (.pair (.int .i64) (.pair (.int .i64) (.pair (.int .i64) (.pair (.int .i64) (.int .i64)))))), (3, .view false 40 (.pair (.int .i64) (.pair (.int .i64) (.int .i64)))), (4, .view false 9 .str)], 6⟩
def spec_l11Parts.sig : Sig := ⟨[.val true (.pair (.sl 53 (.pair (.int .i64) (.int .i64))) (.pair (.sl 35 (.pair (.int .i64) (.int .i64))) (.pair (.sl 42 (.pair (.int .i64) (.pair (.int .i64) (.pair (.int .i64) (.pair (.int .i64) (.int .i64)))))) (.pair (.sl 40 (.pair (.int .i64) (.pair (.int .i64) (.int .i64)))) (.sl 9 .str))))) [0, 0, 0, 0, 0]], [.val false (.int .i64) []]⟩
def spec_l11Parts.F (k : Nat) (x : Args spec_l11Parts.sig.ps) : Option (Res spec_l11Parts.sig) := spec_l11Parts.f k x.1
def spec_l11Parts.ann (k : Nat) : Ann (Res spec_l11Parts.sig) := (.seq .nil (.seq .nil (.seq (.seq .nil (.block (.loop spec_l11Parts.Sl1 (spec_l11Parts.l1 k) fun n1 => .nil))) (.seq (.seq .nil (.block (.loop spec_l11Parts.Sl2 (spec_l11Parts.l2 k) fun n1 => .nil))) (.seq (.seq .nil (.block (.loop spec_l11Parts.Sl3 (spec_l11Parts.l3 k) fun n1 => .nil))) .nil)))))
def spec_l11Parts.ent : Ent := ⟨124, spec_l11Parts.sig, spec_l11Parts.F⟩
def spec_l11Parts.ctx (k : Nat) : Ctx := ⟨tds, [], k, 65⟩
theorem spec_l11Parts.runs (k : Nat) (x : Args spec_l11Parts.sig.ps) : spec_l11Parts.F k x = runF (spec_l11Parts.ctx k) spec_l11Parts.sig Try.f124 (Try.f124.body.getD .skip) (spec_l11Parts.ann k) x := by kernel_rfl
theorem spec_l11Parts.obls (k : Nat) : obl (spec_l11Parts.ctx k) 5 (Try.f124.body.getD .skip) (spec_l11Parts.ann k) (retK tds spec_l11Parts.sig Try.f124.results.toList) := ⟨trivial, ⟨trivial, ⟨⟨trivial, ⟨⟨by kernel_rfl, fun x => by kernel_rfl⟩, fun n => ⟨fun x => by kernel_rfl, ⟨⟨trivial, ⟨trivial, trivial⟩⟩, ⟨⟨trivial, ⟨⟨trivial, trivial⟩, trivial⟩⟩, trivial⟩⟩⟩⟩⟩, ⟨⟨trivial, ⟨⟨by kernel_rfl, fun x => by kernel_rfl⟩, fun n => ⟨fun x => by kernel_rfl, ⟨⟨trivial, ⟨trivial, trivial⟩⟩, ⟨⟨trivial, ⟨⟨trivial, trivial⟩, trivial⟩⟩, trivial⟩⟩⟩⟩⟩, ⟨⟨trivial, ⟨⟨by kernel_rfl, fun x => by kernel_rfl⟩, fun n => ⟨fun x => by kernel_rfl, ⟨⟨trivial, ⟨trivial, trivial⟩⟩, ⟨⟨trivial, ⟨⟨trivial, trivial⟩, trivial⟩⟩, trivial⟩⟩⟩⟩⟩, ⟨trivial, trivial⟩⟩⟩⟩⟩⟩
theorem spec_l11Parts.ok (k : Nat) : EntOk Try.prog k spec_l11Parts.ent := fn_ok (C := spec_l11Parts.ctx k) Try.func124 (by kernel_rfl) (by kernel_rfl) mixed tdsOk EntsOk.nil (by kernel_rfl) (Nat.le_of_ble_eq_true (by kernel_rfl)) (by kernel_rfl) (spec_l11Parts.runs k) (spec_l11Parts.obls k)
/-! loop.example/g00200/spec.SetupFault -/
def spec_SetupFault.l2 (k : Nat)  : Nat → Int × (List (Int × Int)) × (List (Int × Int)) × (List (Int × Int × Int × Int × Int)) × (List (Int × Int × Int)) × List ByteArray × Unit → Option (Int)
  | 0, _ => none
  | n + 1, (x1, x2, x3, x4, x5, x6, _) => if x1 < (x6.length : Int) then (if 0 ≤ x1 then (if x1 < (x6.length : Int) then ((spec_ReadCode.f k (el .str x6 x1.toNat)).bind fun t5 => (if ¬ t5.2 = true then (some 5) else (spec_SetupFault.l2 k n (w64 (x1 + 1), x2, x3, x4, x5, x6, ())))) else none) else none) else ((spec_l11Parts.f k (x2, (x3, (x4, (x5, x6))))).bind fun t6 => (some t6))
def spec_SetupFault.l1 (k : Nat)  : Nat → Int × (List (Int × Int)) × (List (Int × Int)) × (List (Int × Int × Int × Int × Int)) × (List (Int × Int × Int)) × List ByteArray × Unit → Option (Int)
  | 0, _ => none
  | n + 1, (x1, x2, x3, x4, x5, x6, _) => if x1 < (x4.length : Int) then (if 0 ≤ x1 then (if x1 < (x4.length : Int) then ((spec_PortOk.f k ((el (.pair (.int .i64) (.pair (.int .i64) (.pair (.int .i64) (.pair (.int .i64) (.int .i64))))) x4 x1.toNat).1, (((el (.pair (.int .i64) (.pair (.int .i64) (.pair (.int .i64) (.pair (.int .i64) (.int .i64))))) x4 x1.toNat).2).1, ((((el (.pair (.int .i64) (.pair (.int .i64) (.pair (.int .i64) (.pair (.int .i64) (.int .i64))))) x4 x1.toNat).2).2).1, ((((el (.pair (.int .i64) (.pair (.int .i64) (.pair (.int .i64) (.pair (.int .i64) (.int .i64))))) x4 x1.toNat).2).2).2))))).bind fun t3 => (if ¬ t3 = true then (some 3) else (if 6 ≤ x1 then (some 3) else (spec_SetupFault.l1 k n (w64 (x1 + 1), x2, x3, x4, x5, x6, ()))))) else none) else none) else ((spec_RulesOk.f k x5).bind fun t4 => (if ¬ t4 = true then (some 4) else (if ¬ (x6.length : Int) = (x2.length : Int) then (some 5) else (spec_SetupFault.l2 k k (0, x2, x3, x4, x5, x6, ())))))
def spec_SetupFault.f (k : Nat) (a0 : List (Int × Int) × List (Int × Int) × List (Int × Int × Int × Int × Int) × List (Int × Int × Int) × List ByteArray) : Option (Int) :=
  (spec_RegionsOk.f k a0.1).bind fun t1 => (if ¬ t1 = true then (some 1) else ((spec_PlanOk.f k a0.2.1).bind fun t2 => (if ¬ t2 = true then (some 2) else (spec_SetupFault.l1 k k (0, a0.1, a0.2.1, a0.2.2.1, a0.2.2.2.1, a0.2.2.2.2, ())))))
def spec_SetupFault.Sl1 : Shape := ⟨[(1, false, [.ptr 5 0]), (3, false, [.int .i64])], [(5, .blk 30 [.own 0, .own 1, .own 2, .own 3, .own 4]), (0, .view false 53 (.pair (.int .i64) (.int .i64))), (1, .view false 35 (.pair (.int .i64) (.int .i64))), (2, .view false 42 (.pair (.int .i64) (.pair (.int .i64) (.pair (.int .i64) (.pair (.int .i64) (.int .i64)))))), (3, .view false 40 (.pair (.int .i64) (.pair (.int .i64) (.int .i64)))), (4, .view false 9 .str)], 6⟩
def spec_SetupFault.Sl2 : Shape := ⟨[(1, false, [.ptr 5 0]), (4, false, [.int .i64])], [(5, .blk 30 [.own 0, .own 1, .own 2, .own 3, .own 4]), (0, .view false 53 (.pair (.int .i64) (.int .i64))), (1, .view false 35 (.pair (.int .i64) (.int .i64))), (2, .view false 42 (.pair (.int .i64) (.pair (.int .i64) (.pair (.int .i64) (.pair (.int .i64) (.int .i64)))))), (3, .view false 40 (.pair (.int .i64) (.pair (.int .i64) (.int .i64)))), (4, .view false 9 .str)], 6⟩
def spec_SetupFault.sig : Sig := ⟨[.val true (.pair (.sl 53 (.pair (.int .i64) (.int .i64))) (.pair (.sl 35 (.pair (.int .i64) (.int .i64))) (.pair (.sl 42 (.pair (.int .i64) (.pair (.int .i64) (.pair (.int .i64) (.pair (.int .i64) (.int .i64)))))) (.pair (.sl 40 (.pair (.int .i64) (.pair (.int .i64) (.int .i64)))) (.sl 9 .str))))) [0, 0, 0, 0, 0]], [.val false (.int .i64) []]⟩
def spec_SetupFault.F (k : Nat) (x : Args spec_SetupFault.sig.ps) : Option (Res spec_SetupFault.sig) := spec_SetupFault.f k x.1
def spec_SetupFault.ann (k : Nat) : Ann (Res spec_SetupFault.sig) := (.seq .nil (.seq .nil (.seq .nil (.seq (.seq .nil (.block (.loop spec_SetupFault.Sl1 (spec_SetupFault.l1 k) fun n1 => .nil))) (.seq .nil (.seq .nil (.seq (.seq .nil (.block (.loop spec_SetupFault.Sl2 (spec_SetupFault.l2 k) fun n1 => .nil))) .nil)))))))
def spec_SetupFault.ent : Ent := ⟨52, spec_SetupFault.sig, spec_SetupFault.F⟩
def spec_SetupFault.ctx (k : Nat) : Ctx := ⟨tds, [spec_RegionsOk.ent, spec_PlanOk.ent, spec_PortOk.ent, spec_RulesOk.ent, spec_ReadCode.ent, spec_l11Parts.ent], k, 64⟩
theorem spec_SetupFault.runs (k : Nat) (x : Args spec_SetupFault.sig.ps) : spec_SetupFault.F k x = runF (spec_SetupFault.ctx k) spec_SetupFault.sig Try.f52 (Try.f52.body.getD .skip) (spec_SetupFault.ann k) x := by kernel_rfl
theorem spec_SetupFault.obls (k : Nat) : obl (spec_SetupFault.ctx k) 5 (Try.f52.body.getD .skip) (spec_SetupFault.ann k) (retK tds spec_SetupFault.sig Try.f52.results.toList) := ⟨trivial, ⟨⟨trivial, ⟨⟨trivial, trivial⟩, trivial⟩⟩, ⟨⟨trivial, ⟨⟨trivial, trivial⟩, trivial⟩⟩, ⟨⟨trivial, ⟨⟨by kernel_rfl, fun x => by kernel_rfl⟩, fun n => ⟨fun x => by kernel_rfl, ⟨⟨trivial, ⟨trivial, trivial⟩⟩, ⟨⟨trivial, ⟨⟨trivial, trivial⟩, trivial⟩⟩, trivial⟩⟩⟩⟩⟩, ⟨⟨trivial, ⟨⟨trivial, trivial⟩, trivial⟩⟩, ⟨⟨trivial, ⟨⟨trivial, trivial⟩, trivial⟩⟩, ⟨⟨trivial, ⟨⟨by kernel_rfl, fun x => by kernel_rfl⟩, fun n => ⟨fun x => by kernel_rfl, ⟨⟨trivial, ⟨trivial, trivial⟩⟩, ⟨⟨trivial, ⟨trivial, ⟨⟨trivial, trivial⟩, trivial⟩⟩⟩, trivial⟩⟩⟩⟩⟩, ⟨trivial, trivial⟩⟩⟩⟩⟩⟩⟩⟩
theorem spec_SetupFault.ok (k : Nat) : EntOk Try.prog k spec_SetupFault.ent := fn_ok (C := spec_SetupFault.ctx k) Try.func52 (by kernel_rfl) (by kernel_rfl) mixed tdsOk (.cons (spec_RegionsOk.ok k) (.cons (spec_PlanOk.ok k) (.cons (spec_PortOk.ok k) (.cons (spec_RulesOk.ok k) (.cons (spec_ReadCode.ok k) (.cons (spec_l11Parts.ok k) EntsOk.nil)))))) (by kernel_rfl) (Nat.le_of_ble_eq_true (by kernel_rfl)) (by kernel_rfl) (spec_SetupFault.runs k) (spec_SetupFault.obls k)
/-! loop.example/g00200/spec.l01Var -/
def spec_l01Var.l1 (k : Nat)  : Nat → Int × List Int × Unit → Option (ByteArray)
  | 0, _ => none
  | n + 1, (x1, x2, _) => if 127 < x1 then (((some ([IntKind.u8.wrap (w64 ((Int.tmod x1 128) + 128))] : List Int))).bind fun y2 => (if (x2.length + y2.length) * 1 ≤ 140737488355328 then (((some (x2 ++ y2))).bind fun y3 => (spec_l01Var.l1 k n (w64 (Int.tdiv x1 128), y3, ()))) else none)) else (((some ([IntKind.u8.wrap (x1)] : List Int))).bind fun y4 => (if (x2.length + y4.length) * 1 ≤ 140737488355328 then (((some (x2 ++ y4))).bind fun y5 => (some (chrs y5))) else none))
def spec_l01Var.f (k : Nat) (a0 : Int) : Option (ByteArray) :=
  ((some ([] : List Int))).bind fun y1 => (spec_l01Var.l1 k k (a0, y1, ()))
def spec_l01Var.Sl1 : Shape := ⟨[(0, false, [.int .i64]), (3, false, [.own 0])], [(0, .row 5 (.int .u8))], 1⟩
def spec_l01Var.sig : Sig := ⟨[.val false (.int .i64) []], [.val false .str []]⟩
def spec_l01Var.F (k : Nat) (x : Args spec_l01Var.sig.ps) : Option (Res spec_l01Var.sig) := spec_l01Var.f k x.1
def spec_l01Var.ann (k : Nat) : Ann (Res spec_l01Var.sig) := (.seq .nil (.seq .nil (.seq (.block (.loop spec_l01Var.Sl1 (spec_l01Var.l1 k) fun n1 => .nil)) .nil)))
def spec_l01Var.ent : Ent := ⟨139, spec_l01Var.sig, spec_l01Var.F⟩
def spec_l01Var.ctx (k : Nat) : Ctx := ⟨tds, [], k, 22⟩
theorem spec_l01Var.runs (k : Nat) (x : Args spec_l01Var.sig.ps) : spec_l01Var.F k x = runF (spec_l01Var.ctx k) spec_l01Var.sig Try.f139 (Try.f139.body.getD .skip) (spec_l01Var.ann k) x := by kernel_rfl
theorem spec_l01Var.obls (k : Nat) : obl (spec_l01Var.ctx k) 0 (Try.f139.body.getD .skip) (spec_l01Var.ann k) (retK tds spec_l01Var.sig Try.f139.results.toList) := ⟨trivial, ⟨trivial, ⟨⟨⟨by kernel_rfl, fun x => by kernel_rfl⟩, fun n => ⟨fun x => by kernel_rfl, ⟨⟨trivial, ⟨trivial, trivial⟩⟩, ⟨trivial, trivial⟩⟩⟩⟩, ⟨trivial, trivial⟩⟩⟩⟩
theorem spec_l01Var.ok (k : Nat) : EntOk Try.prog k spec_l01Var.ent := fn_ok (C := spec_l01Var.ctx k) Try.func139 (by kernel_rfl) (by kernel_rfl) mixed tdsOk EntsOk.nil (by kernel_rfl) (Nat.le_of_ble_eq_true (by kernel_rfl)) (by kernel_rfl) (spec_l01Var.runs k) (spec_l01Var.obls k)
/-! loop.example/g00200/spec.SetupText -/
def spec_SetupText.l5 (k : Nat)  : Nat → ByteArray × Int × (List (Int × Int)) × (List (Int × Int)) × (List (Int × Int × Int × Int × Int)) × (List (Int × Int × Int)) × List ByteArray × Unit → Option (ByteArray × Bool)
  | 0, _ => none
  | n + 1, (x1, x2, x3, x4, x5, x6, x7, _) => if x2 < (x7.length : Int) then (if 0 ≤ x2 then (if x2 < (x7.length : Int) then ((spec_l01Var.f k ((el .str x7 x2.toNat).size : Int)).bind fun t18 => (if x1.size + t18.size ≤ 9223372036854775807 then (if 0 ≤ x2 then (if x2 < (x7.length : Int) then (if (x1 ++ t18).size + (el .str x7 x2.toNat).size ≤ 9223372036854775807 then (spec_SetupText.l5 k n ((x1 ++ t18) ++ (el .str x7 x2.toNat), w64 (x2 + 1), x3, x4, x5, x6, x7, ())) else none) else none) else none) else none)) else none) else none) else (some (x1, true))
def spec_SetupText.l4 (k : Nat)  : Nat → ByteArray × Int × (List (Int × Int)) × (List (Int × Int)) × (List (Int × Int × Int × Int × Int)) × (List (Int × Int × Int)) × List ByteArray × Unit → Option (ByteArray × Bool)
  | 0, _ => none
  | n + 1, (x1, x2, x3, x4, x5, x6, x7, _) => if x2 < (x6.length : Int) then (if 0 ≤ x2 then (if x2 < (x6.length : Int) then ((spec_l01Var.f k ((el (.pair (.int .i64) (.pair (.int .i64) (.int .i64))) x6 x2.toNat).1)).bind fun t15 => (if x1.size + t15.size ≤ 9223372036854775807 then (if 0 ≤ x2 then (if x2 < (x6.length : Int) then ((spec_l01Var.f k (((el (.pair (.int .i64) (.pair (.int .i64) (.int .i64))) x6 x2.toNat).2).1)).bind fun t16 => (if (x1 ++ t15).size + t16.size ≤ 9223372036854775807 then (if 0 ≤ x2 then (if x2 < (x6.length : Int) then ((spec_l01Var.f k (((el (.pair (.int .i64) (.pair (.int .i64) (.int .i64))) x6 x2.toNat).2).2)).bind fun t17 => (if ((x1 ++ t15) ++ t16).size + t17.size ≤ 9223372036854775807 then (spec_SetupText.l4 k n (((x1 ++ t15) ++ t16) ++ t17, w64 (x2 + 1), x3, x4, x5, x6, x7, ())) else none)) else none) else none) else none)) else none) else none) else none)) else none) else none) else (spec_SetupText.l5 k k (x1, 0, x3, x4, x5, x6, x7, ()))
def spec_SetupText.l3 (k : Nat)  : Nat → ByteArray × Int × (List (Int × Int)) × (List (Int × Int)) × (List (Int × Int × Int × Int × Int)) × (List (Int × Int × Int)) × List ByteArray × Unit → Option (ByteArray × Bool)
  | 0, _ => none
  | n + 1, (x1, x2, x3, x4, x5, x6, x7, _) => if x2 < (x5.length : Int) then (if 0 ≤ x2 then (if x2 < (x5.length : Int) then ((spec_l01Var.f k ((el (.pair (.int .i64) (.pair (.int .i64) (.pair (.int .i64) (.pair (.int .i64) (.int .i64))))) x5 x2.toNat).1)).bind fun t9 => (if x1.size + t9.size ≤ 9223372036854775807 then ((spec_l01Var.f k (((el (.pair (.int .i64) (.pair (.int .i64) (.pair (.int .i64) (.pair (.int .i64) (.int .i64))))) x5 x2.toNat).2).1)).bind fun t10 => (if (x1 ++ t9).size + t10.size ≤ 9223372036854775807 then ((spec_l01Var.f k ((((el (.pair (.int .i64) (.pair (.int .i64) (.pair (.int .i64) (.pair (.int .i64) (.int .i64))))) x5 x2.toNat).2).2).1)).bind fun t11 => (if ((x1 ++ t9) ++ t10).size + t11.size ≤ 9223372036854775807 then ((spec_l01Var.f k (((((el (.pair (.int .i64) (.pair (.int .i64) (.pair (.int .i64) (.pair (.int .i64) (.int .i64))))) x5 x2.toNat).2).2).2).1)).bind fun t12 => (if (((x1 ++ t9) ++ t10) ++ t11).size + t12.size ≤ 9223372036854775807 then ((spec_l01Var.f k (((((el (.pair (.int .i64) (.pair (.int .i64) (.pair (.int .i64) (.pair (.int .i64) (.int .i64))))) x5 x2.toNat).2).2).2).2)).bind fun t13 => (if ((((x1 ++ t9) ++ t10) ++ t11) ++ t12).size + t13.size ≤ 9223372036854775807 then (spec_SetupText.l3 k n (((((x1 ++ t9) ++ t10) ++ t11) ++ t12) ++ t13, w64 (x2 + 1), x3, x4, x5, x6, x7, ())) else none)) else none)) else none)) else none)) else none)) else none) else none) else ((spec_l01Var.f k (x6.length : Int)).bind fun t14 => (if x1.size + t14.size ≤ 9223372036854775807 then (spec_SetupText.l4 k k (x1 ++ t14, 0, x3, x4, x5, x6, x7, ())) else none))
def spec_SetupText.l2 (k : Nat)  : Nat → ByteArray × Int × (List (Int × Int)) × (List (Int × Int)) × (List (Int × Int × Int × Int × Int)) × (List (Int × Int × Int)) × List ByteArray × Unit → Option (ByteArray × Bool)
  | 0, _ => none
  | n + 1, (x1, x2, x3, x4, x5, x6, x7, _) => if x2 < (x4.length : Int) then (if 0 ≤ x2 then (if x2 < (x4.length : Int) then ((spec_l01Var.f k ((el (.pair (.int .i64) (.int .i64)) x4 x2.toNat).1)).bind fun t6 => (if x1.size + t6.size ≤ 9223372036854775807 then (if 0 ≤ x2 then (if x2 < (x4.length : Int) then ((spec_l01Var.f k ((el (.pair (.int .i64) (.int .i64)) x4 x2.toNat).2)).bind fun t7 => (if (x1 ++ t6).size + t7.size ≤ 9223372036854775807 then (spec_SetupText.l2 k n ((x1 ++ t6) ++ t7, w64 (x2 + 1), x3, x4, x5, x6, x7, ())) else none)) else none) else none) else none)) else none) else none) else ((spec_l01Var.f k (x5.length : Int)).bind fun t8 => (if x1.size + t8.size ≤ 9223372036854775807 then (spec_SetupText.l3 k k (x1 ++ t8, 0, x3, x4, x5, x6, x7, ())) else none))
def spec_SetupText.l1 (k : Nat)  : Nat → ByteArray × Int × (List (Int × Int)) × (List (Int × Int)) × (List (Int × Int × Int × Int × Int)) × (List (Int × Int × Int)) × List ByteArray × Unit → Option (ByteArray × Bool)
  | 0, _ => none
  | n + 1, (x1, x2, x3, x4, x5, x6, x7, _) => if x2 < (x3.length : Int) then (if 0 ≤ x2 then (if x2 < (x3.length : Int) then ((spec_l01Var.f k ((el (.pair (.int .i64) (.int .i64)) x3 x2.toNat).1)).bind fun t3 => (if x1.size + t3.size ≤ 9223372036854775807 then (if 0 ≤ x2 then (if x2 < (x3.length : Int) then ((spec_l01Var.f k ((el (.pair (.int .i64) (.int .i64)) x3 x2.toNat).2)).bind fun t4 => (if (x1 ++ t3).size + t4.size ≤ 9223372036854775807 then (spec_SetupText.l1 k n ((x1 ++ t3) ++ t4, w64 (x2 + 1), x3, x4, x5, x6, x7, ())) else none)) else none) else none) else none)) else none) else none) else ((spec_l01Var.f k (x4.length : Int)).bind fun t5 => (if x1.size + t5.size ≤ 9223372036854775807 then (spec_SetupText.l2 k k (x1 ++ t5, 0, x3, x4, x5, x6, x7, ())) else none))
def spec_SetupText.f (k : Nat) (a0 : List (Int × Int) × List (Int × Int) × List (Int × Int × Int × Int × Int) × List (Int × Int × Int) × List ByteArray) : Option (ByteArray × Bool) :=
  (spec_SetupFault.f k a0).bind fun t1 => (if ¬ t1 = 0 then (some ((⟨#[]⟩ : ByteArray), false)) else ((spec_l01Var.f k (a0.1.length : Int)).bind fun t2 => (spec_SetupText.l1 k k (t2, 0, a0.1, a0.2.1, a0.2.2.1, a0.2.2.2.1, a0.2.2.2.2, ()))))
def spec_SetupText.Sl1 : Shape := ⟨[(1, false, [.ptr 5 0]), (4, false, [.str]), (5, false, [.int .i64])], [(5, .blk 30 [.own 0, .own 1, .own 2, .own 3, .own 4]), (0, .view false 53 (.pair (.int .i64) (.int .i64))), (1, .view false 35 (.pair (.int .i64) (.int .i64))), (2, .view false 42 (.pair (.int .i64) (.pair (.int .i64) (.pair (.int .i64) (.pair (.int .i64) (.int .i64)))))), (3, .view false 40 (.pair (.int .i64) (.pair (.int .i64) (.int .i64)))), (4, .view false 9 .str)], 6⟩
def spec_SetupText.Sl2 : Shape := ⟨[(1, false, [.ptr 5 0]), (4, false, [.str]), (6, false, [.int .i64])], [(5, .blk 30 [.own 0, .own 1, .own 2, .own 3, .own 4]), (0, .view false 53 (.pair (.int .i64) (.int .i64))), (1, .view false 35 (.pair (.int .i64) (.int .i64))), (2, .view false 42 (.pair (.int .i64) (.pair (.int .i64) (.pair (.int .i64) (.pair (.int .i64) (.int .i64)))))), (3, .view false 40 (.pair (.int .i64) (.pair (.int .i64) (.int .i64)))), (4, .view false 9 .str)], 6⟩
def spec_SetupText.Sl3 : Shape := ⟨[(1, false, [.ptr 5 0]), (4, false, [.str]), (7, false, [.int .i64])], [(5, .blk 30 [.own 0, .own 1, .own 2, .own 3, .own 4]), (0, .view false 53 (.pair (.int .i64) (.int .i64))), (1, .view false 35 (.pair (.int .i64) (.int .i64))), (2, .view false 42 (.pair (.int .i64) (.pair (.int .i64) (.pair (.int .i64) (.pair (.int .i64) (.int .i64)))))), (3, .view false 40 (.pair (.int .i64) (.pair (.int .i64) (.int .i64)))), (4, .view false 9 .str)], 6⟩
def spec_SetupText.Sl4 : Shape := ⟨[(1, false, [.ptr 5 0]), (4, false, [.str]), (9, false, [.int .i64])], [(5, .blk 30 [.own 0, .own 1, .own 2, .own 3, .own 4]), (0, .view false 53 (.pair (.int .i64) (.int .i64))), (1, .view false 35 (.pair (.int .i64) (.int .i64))), (2, .view false 42 (.pair (.int .i64) (.pair (.int .i64) (.pair (.int .i64) (.pair (.int .i64) (.int .i64)))))), (3, .view false 40 (.pair (.int .i64) (.pair (.int .i64) (.int .i64)))), (4, .view false 9 .str)], 6⟩
def spec_SetupText.Sl5 : Shape := ⟨[(1, false, [.ptr 5 0]), (4, false, [.str]), (10, false, [.int .i64])], [(5, .blk 30 [.own 0, .own 1, .own 2, .own 3, .own 4]), (0, .view false 53 (.pair (.int .i64) (.int .i64))), (1, .view false 35 (.pair (.int .i64) (.int .i64))), (2, .view false 42 (.pair (.int .i64) (.pair (.int .i64) (.pair (.int .i64) (.pair (.int .i64) (.int .i64)))))), (3, .view false 40 (.pair (.int .i64) (.pair (.int .i64) (.int .i64)))), (4, .view false 9 .str)], 6⟩
def spec_SetupText.sig : Sig := ⟨[.val true (.pair (.sl 53 (.pair (.int .i64) (.int .i64))) (.pair (.sl 35 (.pair (.int .i64) (.int .i64))) (.pair (.sl 42 (.pair (.int .i64) (.pair (.int .i64) (.pair (.int .i64) (.pair (.int .i64) (.int .i64)))))) (.pair (.sl 40 (.pair (.int .i64) (.pair (.int .i64) (.int .i64)))) (.sl 9 .str))))) [0, 0, 0, 0, 0]], [.val false .str [], .val false .bool []]⟩
def spec_SetupText.F (k : Nat) (x : Args spec_SetupText.sig.ps) : Option (Res spec_SetupText.sig) := spec_SetupText.f k x.1
def spec_SetupText.ann (k : Nat) : Ann (Res spec_SetupText.sig) := (.seq .nil (.seq .nil (.seq .nil (.seq (.seq .nil (.block (.loop spec_SetupText.Sl1 (spec_SetupText.l1 k) fun n1 => .nil))) (.seq .nil (.seq (.seq .nil (.block (.loop spec_SetupText.Sl2 (spec_SetupText.l2 k) fun n1 => .nil))) (.seq .nil (.seq (.seq .nil (.block (.loop spec_SetupText.Sl3 (spec_SetupText.l3 k) fun n1 => .nil))) (.seq .nil (.seq (.seq .nil (.block (.loop spec_SetupText.Sl4 (spec_SetupText.l4 k) fun n1 => .nil))) (.seq (.seq .nil (.block (.loop spec_SetupText.Sl5 (spec_SetupText.l5 k) fun n1 => .nil))) .nil)))))))))))
def spec_SetupText.ent : Ent := ⟨57, spec_SetupText.sig, spec_SetupText.F⟩
def spec_SetupText.ctx (k : Nat) : Ctx := ⟨tds, [spec_SetupFault.ent, spec_l01Var.ent], k, 172⟩
theorem spec_SetupText.runs (k : Nat) (x : Args spec_SetupText.sig.ps) : spec_SetupText.F k x = runF (spec_SetupText.ctx k) spec_SetupText.sig Try.f57 (Try.f57.body.getD .skip) (spec_SetupText.ann k) x := by kernel_rfl
theorem spec_SetupText.obls (k : Nat) : obl (spec_SetupText.ctx k) 5 (Try.f57.body.getD .skip) (spec_SetupText.ann k) (retK tds spec_SetupText.sig Try.f57.results.toList) := ⟨trivial, ⟨⟨trivial, ⟨⟨trivial, trivial⟩, trivial⟩⟩, ⟨trivial, ⟨⟨trivial, ⟨⟨by kernel_rfl, fun x => by kernel_rfl⟩, fun n => ⟨fun x => by kernel_rfl, ⟨⟨trivial, ⟨trivial, trivial⟩⟩, ⟨trivial, trivial⟩⟩⟩⟩⟩, ⟨trivial, ⟨⟨trivial, ⟨⟨by kernel_rfl, fun x => by kernel_rfl⟩, fun n => ⟨fun x => by kernel_rfl, ⟨⟨trivial, ⟨trivial, trivial⟩⟩, ⟨trivial, trivial⟩⟩⟩⟩⟩, ⟨trivial, ⟨⟨trivial, ⟨⟨by kernel_rfl, fun x => by kernel_rfl⟩, fun n => ⟨fun x => by kernel_rfl, ⟨⟨trivial, ⟨trivial, trivial⟩⟩, ⟨⟨trivial, trivial⟩, trivial⟩⟩⟩⟩⟩, ⟨trivial, ⟨⟨trivial, ⟨⟨by kernel_rfl, fun x => by kernel_rfl⟩, fun n => ⟨fun x => by kernel_rfl, ⟨⟨trivial, ⟨trivial, trivial⟩⟩, ⟨trivial, trivial⟩⟩⟩⟩⟩, ⟨⟨trivial, ⟨⟨by kernel_rfl, fun x => by kernel_rfl⟩, fun n => ⟨fun x => by kernel_rfl, ⟨⟨trivial, ⟨trivial, trivial⟩⟩, ⟨trivial, trivial⟩⟩⟩⟩⟩, ⟨trivial, trivial⟩⟩⟩⟩⟩⟩⟩⟩⟩⟩⟩⟩
theorem spec_SetupText.ok (k : Nat) : EntOk Try.prog k spec_SetupText.ent := fn_ok (C := spec_SetupText.ctx k) Try.func57 (by kernel_rfl) (by kernel_rfl) mixed tdsOk (.cons (spec_SetupFault.ok k) (.cons (spec_l01Var.ok k) EntsOk.nil)) (by kernel_rfl) (Nat.le_of_ble_eq_true (by kernel_rfl)) (by kernel_rfl) (spec_SetupText.runs k) (spec_SetupText.obls k)
/-! loop.example/g00200/impl.within -/
def impl_within.f (k : Nat) (a0 : Int) (a1 : Int) (a2 : Int) : Option (Bool) :=
  if a1 ≤ a0 then (some (decide (a0 ≤ a2))) else (some false)
def impl_within.sig : Sig := ⟨[.val false (.int .i64) [], .val false (.int .i64) [], .val false (.int .i64) []], [.val false .bool []]⟩
def impl_within.F (k : Nat) (x : Args impl_within.sig.ps) : Option (Res impl_within.sig) := impl_within.f k x.1 x.2.1 x.2.2.1
def impl_within.ann (k : Nat) : Ann (Res impl_within.sig) := .nil
def impl_within.ent : Ent := ⟨71, impl_within.sig, impl_within.F⟩
def impl_within.ctx (k : Nat) : Ctx := ⟨tds, [], k, 15⟩
theorem impl_within.runs (k : Nat) (x : Args impl_within.sig.ps) : impl_within.F k x = runF (impl_within.ctx k) impl_within.sig Try.f71 (Try.f71.body.getD .skip) (impl_within.ann k) x := by kernel_rfl
theorem impl_within.obls (k : Nat) : obl (impl_within.ctx k) 0 (Try.f71.body.getD .skip) (impl_within.ann k) (retK tds impl_within.sig Try.f71.results.toList) := ⟨trivial, ⟨trivial, trivial⟩⟩
theorem impl_within.ok (k : Nat) : EntOk Try.prog k impl_within.ent := fn_ok (C := impl_within.ctx k) Try.func71 (by kernel_rfl) (by kernel_rfl) mixed tdsOk EntsOk.nil (by kernel_rfl) (Nat.le_of_ble_eq_true (by kernel_rfl)) (by kernel_rfl) (impl_within.runs k) (impl_within.obls k)
/-! loop.example/g00200/impl.RegionsOk -/
def impl_RegionsOk.l2 (k : Nat) (c0 : Int × Int × (List (Int × Int)) × Unit → Option (Bool)) : Nat → Int × Int × Int × Int × Int × Int × (List (Int × Int)) × (List (Int × Int)) × Unit → Option (Bool)
  | 0, _ => none
  | n + 1, (x1, x2, x3, x4, x5, x6, x7, x8, _) => if x4 < x3 then (if 0 ≤ x4 then (if x4 < (x8.length : Int) then (if x5 < (w64 (((el (.pair (.int .i64) (.int .i64)) x8 x4.toNat).1) + ((el (.pair (.int .i64) (.int .i64)) x8 x4.toNat).2))) then (if ((el (.pair (.int .i64) (.int .i64)) x8 x4.toNat).1) < (w64 (x5 + x6)) then (some false) else (impl_RegionsOk.l2 k c0 n (x1, x2, x3, w64 (x4 + 1), x5, x6, x7, x8, ()))) else (impl_RegionsOk.l2 k c0 n (x1, x2, x3, w64 (x4 + 1), x5, x6, x7, x8, ()))) else none) else none) else (c0 (x1, w64 (x2 + 1), x7, ()))
def impl_RegionsOk.l1 (k : Nat)  : Nat → Int × Int × (List (Int × Int)) × Unit → Option (Bool)
  | 0, _ => none
  | n + 1, (x1, x2, x3, _) => if x2 < x1 then (if 0 ≤ x2 then (if x2 < (x3.length : Int) then (if ((el (.pair (.int .i64) (.int .i64)) x3 x2.toNat).1) < 0 then (some false) else (if ((el (.pair (.int .i64) (.int .i64)) x3 x2.toNat).2) < 1 then (some false) else (if 64 < ((el (.pair (.int .i64) (.int .i64)) x3 x2.toNat).2) then (some false) else (if (w64 (64 - ((el (.pair (.int .i64) (.int .i64)) x3 x2.toNat).2))) < ((el (.pair (.int .i64) (.int .i64)) x3 x2.toNat).1) then (some false) else (if 0 ≤ x2 then (if x2 ≤ (x3.length : Int) then (impl_RegionsOk.l2 k (impl_RegionsOk.l1 k n) k (x1, x2, ((x2.toNat : Nat) : Int), 0, (el (.pair (.int .i64) (.int .i64)) x3 x2.toNat).1, (el (.pair (.int .i64) (.int .i64)) x3 x2.toNat).2, x3, x3.take x2.toNat, ())) else none) else none))))) else none) else none) else ((impl_within.f k (x3.length : Int) 1 4).bind fun t1 => (some t1))
def impl_RegionsOk.f (k : Nat) (a0 : List (Int × Int)) : Option (Bool) :=
  impl_RegionsOk.l1 k k ((a0.length : Int), 0, a0, ())
def impl_RegionsOk.Sl1 : Shape := ⟨[(0, false, [.own 0]), (7, false, [.own 0]), (8, false, [.int .i64]), (9, false, [.int .i64])], [(0, .view false 53 (.pair (.int .i64) (.int .i64)))], 1⟩
def impl_RegionsOk.Sl2 : Shape := ⟨[(0, false, [.own 0]), (4, false, [.ptr 1 0]), (7, false, [.own 0]), (8, false, [.int .i64]), (9, false, [.int .i64]), (37, false, [.own 2]), (38, false, [.int .i64]), (39, false, [.int .i64])], [(1, .blk 53 [.int .i64, .int .i64]), (0, .view false 53 (.pair (.int .i64) (.int .i64))), (2, .view false 53 (.pair (.int .i64) (.int .i64)))], 3⟩
def impl_RegionsOk.sig : Sig := ⟨[.val false (.sl 53 (.pair (.int .i64) (.int .i64))) [0]], [.val false .bool []]⟩
def impl_RegionsOk.F (k : Nat) (x : Args impl_RegionsOk.sig.ps) : Option (Res impl_RegionsOk.sig) := impl_RegionsOk.f k x.1
def impl_RegionsOk.ann (k : Nat) : Ann (Res impl_RegionsOk.sig) := (.seq .nil (.seq (.seq .nil (.block (.loop impl_RegionsOk.Sl1 (impl_RegionsOk.l1 k) fun n1 => (.seq .nil (.seq .nil (.seq (.block (.seq .nil (.seq .nil (.seq .nil (.block (.loop impl_RegionsOk.Sl2 (impl_RegionsOk.l2 k (impl_RegionsOk.l1 k n1)) fun n2 => .nil)))))) .nil)))))) .nil))
def impl_RegionsOk.ent : Ent := ⟨72, impl_RegionsOk.sig, impl_RegionsOk.F⟩
def impl_RegionsOk.ctx (k : Nat) : Ctx := ⟨tds, [impl_within.ent], k, 66⟩
theorem impl_RegionsOk.runs (k : Nat) (x : Args impl_RegionsOk.sig.ps) : impl_RegionsOk.F k x = runF (impl_RegionsOk.ctx k) impl_RegionsOk.sig Try.f72 (Try.f72.body.getD .skip) (impl_RegionsOk.ann k) x := by kernel_rfl
theorem impl_RegionsOk.obls (k : Nat) : obl (impl_RegionsOk.ctx k) 1 (Try.f72.body.getD .skip) (impl_RegionsOk.ann k) (retK tds impl_RegionsOk.sig Try.f72.results.toList) := ⟨trivial, ⟨⟨trivial, ⟨⟨by kernel_rfl, fun x => by kernel_rfl⟩, fun n => ⟨fun x => by kernel_rfl, ⟨trivial, ⟨⟨trivial, trivial⟩, ⟨⟨trivial, ⟨⟨trivial, ⟨⟨trivial, trivial⟩, trivial⟩⟩, ⟨trivial, ⟨⟨by kernel_rfl, fun x => by kernel_rfl⟩, fun n => ⟨fun x => by kernel_rfl, ⟨trivial, ⟨⟨trivial, trivial⟩, ⟨⟨trivial, ⟨trivial, ⟨⟨trivial, trivial⟩, trivial⟩⟩⟩, trivial⟩⟩⟩⟩⟩⟩⟩⟩, trivial⟩⟩⟩⟩⟩⟩, ⟨trivial, trivial⟩⟩⟩
theorem impl_RegionsOk.ok (k : Nat) : EntOk Try.prog k impl_RegionsOk.ent := fn_ok (C := impl_RegionsOk.ctx k) Try.func72 (by kernel_rfl) (by kernel_rfl) mixed tdsOk (.cons (impl_within.ok k) EntsOk.nil) (by kernel_rfl) (Nat.le_of_ble_eq_true (by kernel_rfl)) (by kernel_rfl) (impl_RegionsOk.runs k) (impl_RegionsOk.obls k)
/-! loop.example/g00200/impl.isPart -/
def impl_isPart.f (k : Nat) (a0 : Int) : Option (Bool) :=
  (impl_within.f k a0 1 4).bind fun t1 => (some t1)
def impl_isPart.sig : Sig := ⟨[.val false (.int .i64) []], [.val false .bool []]⟩
def impl_isPart.F (k : Nat) (x : Args impl_isPart.sig.ps) : Option (Res impl_isPart.sig) := impl_isPart.f k x.1
def impl_isPart.ann (k : Nat) : Ann (Res impl_isPart.sig) := .nil
def impl_isPart.ent : Ent := ⟨69, impl_isPart.sig, impl_isPart.F⟩
def impl_isPart.ctx (k : Nat) : Ctx := ⟨tds, [impl_within.ent], k, 5⟩
theorem impl_isPart.runs (k : Nat) (x : Args impl_isPart.sig.ps) : impl_isPart.F k x = runF (impl_isPart.ctx k) impl_isPart.sig Try.f69 (Try.f69.body.getD .skip) (impl_isPart.ann k) x := by kernel_rfl
theorem impl_isPart.obls (k : Nat) : obl (impl_isPart.ctx k) 0 (Try.f69.body.getD .skip) (impl_isPart.ann k) (retK tds impl_isPart.sig Try.f69.results.toList) := ⟨trivial, ⟨trivial, trivial⟩⟩
theorem impl_isPart.ok (k : Nat) : EntOk Try.prog k impl_isPart.ent := fn_ok (C := impl_isPart.ctx k) Try.func69 (by kernel_rfl) (by kernel_rfl) mixed tdsOk (.cons (impl_within.ok k) EntsOk.nil) (by kernel_rfl) (Nat.le_of_ble_eq_true (by kernel_rfl)) (by kernel_rfl) (impl_isPart.runs k) (impl_isPart.obls k)
/-! loop.example/g00200/impl.isBudget -/
def impl_isBudget.f (k : Nat) (a0 : Int) : Option (Bool) :=
  (impl_within.f k a0 1 200).bind fun t1 => (some t1)
def impl_isBudget.sig : Sig := ⟨[.val false (.int .i64) []], [.val false .bool []]⟩
def impl_isBudget.F (k : Nat) (x : Args impl_isBudget.sig.ps) : Option (Res impl_isBudget.sig) := impl_isBudget.f k x.1
def impl_isBudget.ann (k : Nat) : Ann (Res impl_isBudget.sig) := .nil
def impl_isBudget.ent : Ent := ⟨70, impl_isBudget.sig, impl_isBudget.F⟩
def impl_isBudget.ctx (k : Nat) : Ctx := ⟨tds, [impl_within.ent], k, 5⟩
theorem impl_isBudget.runs (k : Nat) (x : Args impl_isBudget.sig.ps) : impl_isBudget.F k x = runF (impl_isBudget.ctx k) impl_isBudget.sig Try.f70 (Try.f70.body.getD .skip) (impl_isBudget.ann k) x := by kernel_rfl
theorem impl_isBudget.obls (k : Nat) : obl (impl_isBudget.ctx k) 0 (Try.f70.body.getD .skip) (impl_isBudget.ann k) (retK tds impl_isBudget.sig Try.f70.results.toList) := ⟨trivial, ⟨trivial, trivial⟩⟩
theorem impl_isBudget.ok (k : Nat) : EntOk Try.prog k impl_isBudget.ent := fn_ok (C := impl_isBudget.ctx k) Try.func70 (by kernel_rfl) (by kernel_rfl) mixed tdsOk (.cons (impl_within.ok k) EntsOk.nil) (by kernel_rfl) (Nat.le_of_ble_eq_true (by kernel_rfl)) (by kernel_rfl) (impl_isBudget.runs k) (impl_isBudget.obls k)
/-! loop.example/g00200/impl.PlanOk -/
def impl_PlanOk.l1 (k : Nat)  : Nat → Int × Int × (List (Int × Int)) × Unit → Option (Bool)
  | 0, _ => none
  | n + 1, (x1, x2, x3, _) => if x2 < x1 then (if 0 ≤ x2 then (if x2 < (x3.length : Int) then ((impl_isPart.f k ((el (.pair (.int .i64) (.int .i64)) x3 x2.toNat).1)).bind fun t1 => (if ¬ t1 = true then (some false) else ((impl_isBudget.f k ((el (.pair (.int .i64) (.int .i64)) x3 x2.toNat).2)).bind fun t2 => (if ¬ t2 = true then (some false) else (impl_PlanOk.l1 k n (x1, w64 (x2 + 1), x3, ())))))) else none) else none) else ((impl_within.f k (x3.length : Int) 1 12).bind fun t3 => (some t3))
def impl_PlanOk.f (k : Nat) (a0 : List (Int × Int)) : Option (Bool) :=
  impl_PlanOk.l1 k k ((a0.length : Int), 0, a0, ())
def impl_PlanOk.Sl1 : Shape := ⟨[(0, false, [.own 0]), (5, false, [.own 0]), (6, false, [.int .i64]), (7, false, [.int .i64])], [(0, .view false 35 (.pair (.int .i64) (.int .i64)))], 1⟩
def impl_PlanOk.sig : Sig := ⟨[.val false (.sl 35 (.pair (.int .i64) (.int .i64))) [0]], [.val false .bool []]⟩
def impl_PlanOk.F (k : Nat) (x : Args impl_PlanOk.sig.ps) : Option (Res impl_PlanOk.sig) := impl_PlanOk.f k x.1
def impl_PlanOk.ann (k : Nat) : Ann (Res impl_PlanOk.sig) := (.seq .nil (.seq (.seq .nil (.block (.loop impl_PlanOk.Sl1 (impl_PlanOk.l1 k) fun n1 => .nil))) .nil))
def impl_PlanOk.ent : Ent := ⟨19, impl_PlanOk.sig, impl_PlanOk.F⟩
def impl_PlanOk.ctx (k : Nat) : Ctx := ⟨tds, [impl_isPart.ent, impl_isBudget.ent, impl_within.ent], k, 25⟩
theorem impl_PlanOk.runs (k : Nat) (x : Args impl_PlanOk.sig.ps) : impl_PlanOk.F k x = runF (impl_PlanOk.ctx k) impl_PlanOk.sig Try.f19 (Try.f19.body.getD .skip) (impl_PlanOk.ann k) x := by kernel_rfl
theorem impl_PlanOk.obls (k : Nat) : obl (impl_PlanOk.ctx k) 1 (Try.f19.body.getD .skip) (impl_PlanOk.ann k) (retK tds impl_PlanOk.sig Try.f19.results.toList) := ⟨trivial, ⟨⟨trivial, ⟨⟨by kernel_rfl, fun x => by kernel_rfl⟩, fun n => ⟨fun x => by kernel_rfl, ⟨trivial, ⟨⟨trivial, trivial⟩, ⟨⟨trivial, ⟨trivial, ⟨⟨trivial, trivial⟩, trivial⟩⟩⟩, trivial⟩⟩⟩⟩⟩⟩, ⟨trivial, trivial⟩⟩⟩
theorem impl_PlanOk.ok (k : Nat) : EntOk Try.prog k impl_PlanOk.ent := fn_ok (C := impl_PlanOk.ctx k) Try.func19 (by kernel_rfl) (by kernel_rfl) mixed tdsOk (.cons (impl_isPart.ok k) (.cons (impl_isBudget.ok k) (.cons (impl_within.ok k) EntsOk.nil))) (by kernel_rfl) (Nat.le_of_ble_eq_true (by kernel_rfl)) (by kernel_rfl) (impl_PlanOk.runs k) (impl_PlanOk.obls k)
/-! loop.example/g00200/impl.PortOk -/
def impl_PortOk.f (k : Nat) (a0 : Int × Int × Int × Int × Int) : Option (Bool) :=
  (impl_isPart.f k a0.2.1).bind fun t1 => (if ¬ t1 = true then (some false) else ((impl_isPart.f k a0.2.2.1).bind fun t2 => (if ¬ t2 = true then (some false) else (if a0.2.1 = a0.2.2.1 then (some false) else (if a0.1 = 1 then ((impl_within.f k a0.2.2.2.1 1 6).bind fun t3 => (if t3 = true then (some (decide (a0.2.2.2.2 = 0))) else (some false))) else (if a0.1 = 2 then (if a0.2.2.2.1 = 1 then ((impl_within.f k a0.2.2.2.2 1 100).bind fun t4 => (some t4)) else (some false)) else (some false)))))))
def impl_PortOk.sig : Sig := ⟨[.val true (.pair (.int .i64) (.pair (.int .i64) (.pair (.int .i64) (.pair (.int .i64) (.int .i64))))) []], [.val false .bool []]⟩
def impl_PortOk.F (k : Nat) (x : Args impl_PortOk.sig.ps) : Option (Res impl_PortOk.sig) := impl_PortOk.f k x.1
def impl_PortOk.ann (k : Nat) : Ann (Res impl_PortOk.sig) := .nil
def impl_PortOk.ent : Ent := ⟨163, impl_PortOk.sig, impl_PortOk.F⟩
def impl_PortOk.ctx (k : Nat) : Ctx := ⟨tds, [impl_isPart.ent, impl_within.ent], k, 44⟩
theorem impl_PortOk.runs (k : Nat) (x : Args impl_PortOk.sig.ps) : impl_PortOk.F k x = runF (impl_PortOk.ctx k) impl_PortOk.sig Try.f163 (Try.f163.body.getD .skip) (impl_PortOk.ann k) x := by kernel_rfl
theorem impl_PortOk.obls (k : Nat) : obl (impl_PortOk.ctx k) 0 (Try.f163.body.getD .skip) (impl_PortOk.ann k) (retK tds impl_PortOk.sig Try.f163.results.toList) := ⟨trivial, ⟨⟨trivial, ⟨⟨trivial, trivial⟩, trivial⟩⟩, ⟨⟨trivial, ⟨⟨trivial, trivial⟩, trivial⟩⟩, ⟨trivial, trivial⟩⟩⟩⟩
theorem impl_PortOk.ok (k : Nat) : EntOk Try.prog k impl_PortOk.ent := fn_ok (C := impl_PortOk.ctx k) Try.func163 (by kernel_rfl) (by kernel_rfl) mixed tdsOk (.cons (impl_isPart.ok k) (.cons (impl_within.ok k) EntsOk.nil)) (by kernel_rfl) (Nat.le_of_ble_eq_true (by kernel_rfl)) (by kernel_rfl) (impl_PortOk.runs k) (impl_PortOk.obls k)
/-! loop.example/g00200/impl.portsOk -/
def impl_portsOk.l1 (k : Nat)  : Nat → Int × Int × (List (Int × Int × Int × Int × Int)) × Unit → Option (Bool)
  | 0, _ => none
  | n + 1, (x1, x2, x3, _) => if x2 < x1 then (if 0 ≤ x2 then (if x2 < (x3.length : Int) then ((impl_PortOk.f k ((el (.pair (.int .i64) (.pair (.int .i64) (.pair (.int .i64) (.pair (.int .i64) (.int .i64))))) x3 x2.toNat).1, (((el (.pair (.int .i64) (.pair (.int .i64) (.pair (.int .i64) (.pair (.int .i64) (.int .i64))))) x3 x2.toNat).2).1, ((((el (.pair (.int .i64) (.pair (.int .i64) (.pair (.int .i64) (.pair (.int .i64) (.int .i64))))) x3 x2.toNat).2).2).1, ((((el (.pair (.int .i64) (.pair (.int .i64) (.pair (.int .i64) (.pair (.int .i64) (.int .i64))))) x3 x2.toNat).2).2).2))))).bind fun t1 => (if ¬ t1 = true then (some false) else (impl_portsOk.l1 k n (x1, w64 (x2 + 1), x3, ())))) else none) else none) else (some (decide ((x3.length : Int) ≤ 6)))
def impl_portsOk.f (k : Nat) (a0 : List (Int × Int × Int × Int × Int)) : Option (Bool) :=
  impl_portsOk.l1 k k ((a0.length : Int), 0, a0, ())
def impl_portsOk.Sl1 : Shape := ⟨[(0, false, [.own 0]), (5, false, [.own 0]), (6, false, [.int .i64]), (7, false, [.int .i64])], [(0, .view false 42 (.pair (.int .i64) (.pair (.int .i64) (.pair (.int .i64) (.pair (.int .i64) (.int .i64))))))], 1⟩
def impl_portsOk.sig : Sig := ⟨[.val false (.sl 42 (.pair (.int .i64) (.pair (.int .i64) (.pair (.int .i64) (.pair (.int .i64) (.int .i64)))))) [0]], [.val false .bool []]⟩
def impl_portsOk.F (k : Nat) (x : Args impl_portsOk.sig.ps) : Option (Res impl_portsOk.sig) := impl_portsOk.f k x.1
def impl_portsOk.ann (k : Nat) : Ann (Res impl_portsOk.sig) := (.seq .nil (.seq (.seq .nil (.block (.loop impl_portsOk.Sl1 (impl_portsOk.l1 k) fun n1 => .nil))) .nil))
def impl_portsOk.ent : Ent := ⟨73, impl_portsOk.sig, impl_portsOk.F⟩
def impl_portsOk.ctx (k : Nat) : Ctx := ⟨tds, [impl_PortOk.ent], k, 18⟩
theorem impl_portsOk.runs (k : Nat) (x : Args impl_portsOk.sig.ps) : impl_portsOk.F k x = runF (impl_portsOk.ctx k) impl_portsOk.sig Try.f73 (Try.f73.body.getD .skip) (impl_portsOk.ann k) x := by kernel_rfl
theorem impl_portsOk.obls (k : Nat) : obl (impl_portsOk.ctx k) 1 (Try.f73.body.getD .skip) (impl_portsOk.ann k) (retK tds impl_portsOk.sig Try.f73.results.toList) := ⟨trivial, ⟨⟨trivial, ⟨⟨by kernel_rfl, fun x => by kernel_rfl⟩, fun n => ⟨fun x => by kernel_rfl, ⟨trivial, ⟨⟨trivial, trivial⟩, ⟨⟨trivial, ⟨trivial, ⟨⟨trivial, trivial⟩, trivial⟩⟩⟩, trivial⟩⟩⟩⟩⟩⟩, ⟨trivial, trivial⟩⟩⟩
theorem impl_portsOk.ok (k : Nat) : EntOk Try.prog k impl_portsOk.ent := fn_ok (C := impl_portsOk.ctx k) Try.func73 (by kernel_rfl) (by kernel_rfl) mixed tdsOk (.cons (impl_PortOk.ok k) EntsOk.nil) (by kernel_rfl) (Nat.le_of_ble_eq_true (by kernel_rfl)) (by kernel_rfl) (impl_portsOk.runs k) (impl_portsOk.obls k)
/-! loop.example/g00200/impl.ruleFor -/
def impl_ruleFor.l1 (k : Nat)  : Nat → Int × Int × Int × Int × (List (Int × Int × Int)) × Unit → Option (Int)
  | 0, _ => none
  | n + 1, (x1, x2, x3, x4, x5, _) => if x4 < x3 then (if 0 ≤ x4 then (if x4 < (x5.length : Int) then (if ((el (.pair (.int .i64) (.pair (.int .i64) (.int .i64))) x5 x4.toNat).1) = x1 then (if (((el (.pair (.int .i64) (.pair (.int .i64) (.int .i64))) x5 x4.toNat).2).1) = x2 then (some x4) else (impl_ruleFor.l1 k n (x1, x2, x3, w64 (x4 + 1), x5, ()))) else (impl_ruleFor.l1 k n (x1, x2, x3, w64 (x4 + 1), x5, ()))) else none) else none) else (some (-1))
def impl_ruleFor.f (k : Nat) (a0 : List (Int × Int × Int)) (a1 : Int) (a2 : Int) : Option (Int) :=
  impl_ruleFor.l1 k k (a1, a2, (a0.length : Int), 0, a0, ())
def impl_ruleFor.Sl1 : Shape := ⟨[(1, false, [.int .i64]), (2, false, [.int .i64]), (9, false, [.own 0]), (10, false, [.int .i64]), (11, false, [.int .i64])], [(0, .view false 40 (.pair (.int .i64) (.pair (.int .i64) (.int .i64))))], 1⟩
def impl_ruleFor.sig : Sig := ⟨[.val false (.sl 40 (.pair (.int .i64) (.pair (.int .i64) (.int .i64)))) [0], .val false (.int .i64) [], .val false (.int .i64) []], [.val false (.int .i64) []]⟩
def impl_ruleFor.F (k : Nat) (x : Args impl_ruleFor.sig.ps) : Option (Res impl_ruleFor.sig) := impl_ruleFor.f k x.1 x.2.1 x.2.2.1
def impl_ruleFor.ann (k : Nat) : Ann (Res impl_ruleFor.sig) := (.seq .nil (.seq (.seq .nil (.block (.loop impl_ruleFor.Sl1 (impl_ruleFor.l1 k) fun n1 => .nil))) .nil))
def impl_ruleFor.ent : Ent := ⟨164, impl_ruleFor.sig, impl_ruleFor.F⟩
def impl_ruleFor.ctx (k : Nat) : Ctx := ⟨tds, [], k, 28⟩
theorem impl_ruleFor.runs (k : Nat) (x : Args impl_ruleFor.sig.ps) : impl_ruleFor.F k x = runF (impl_ruleFor.ctx k) impl_ruleFor.sig Try.f164 (Try.f164.body.getD .skip) (impl_ruleFor.ann k) x := by kernel_rfl
theorem impl_ruleFor.obls (k : Nat) : obl (impl_ruleFor.ctx k) 1 (Try.f164.body.getD .skip) (impl_ruleFor.ann k) (retK tds impl_ruleFor.sig Try.f164.results.toList) := ⟨trivial, ⟨⟨trivial, ⟨⟨by kernel_rfl, fun x => by kernel_rfl⟩, fun n => ⟨fun x => by kernel_rfl, ⟨trivial, ⟨⟨trivial, trivial⟩, ⟨⟨trivial, ⟨trivial, ⟨⟨trivial, trivial⟩, trivial⟩⟩⟩, trivial⟩⟩⟩⟩⟩⟩, ⟨trivial, trivial⟩⟩⟩
theorem impl_ruleFor.ok (k : Nat) : EntOk Try.prog k impl_ruleFor.ent := fn_ok (C := impl_ruleFor.ctx k) Try.func164 (by kernel_rfl) (by kernel_rfl) mixed tdsOk EntsOk.nil (by kernel_rfl) (Nat.le_of_ble_eq_true (by kernel_rfl)) (by kernel_rfl) (impl_ruleFor.runs k) (impl_ruleFor.obls k)
/-! loop.example/g00200/impl.RulesOk -/
def impl_RulesOk.l1 (k : Nat)  : Nat → Int × Int × (List (Int × Int × Int)) × Unit → Option (Bool)
  | 0, _ => none
  | n + 1, (x1, x2, x3, _) => if x2 < x1 then (if 0 ≤ x2 then (if x2 < (x3.length : Int) then ((impl_isPart.f k ((el (.pair (.int .i64) (.pair (.int .i64) (.int .i64))) x3 x2.toNat).1)).bind fun t1 => (if ¬ t1 = true then (some false) else ((impl_within.f k (((el (.pair (.int .i64) (.pair (.int .i64) (.int .i64))) x3 x2.toNat).2).1) 1 2).bind fun t2 => (if ¬ t2 = true then (some false) else ((impl_within.f k (((el (.pair (.int .i64) (.pair (.int .i64) (.int .i64))) x3 x2.toNat).2).2) 0 4).bind fun t3 => (if ¬ t3 = true then (some false) else ((impl_ruleFor.f k x3 ((el (.pair (.int .i64) (.pair (.int .i64) (.int .i64))) x3 x2.toNat).1) (((el (.pair (.int .i64) (.pair (.int .i64) (.int .i64))) x3 x2.toNat).2).1)).bind fun t4 => (if ¬ t4 = x2 then (some false) else (if (((el (.pair (.int .i64) (.pair (.int .i64) (.int .i64))) x3 x2.toNat).2).1) = 1 then (if (((el (.pair (.int .i64) (.pair (.int .i64) (.int .i64))) x3 x2.toNat).2).2) = 0 then (some false) else (impl_RulesOk.l1 k n (x1, w64 (x2 + 1), x3, ()))) else (impl_RulesOk.l1 k n (x1, w64 (x2 + 1), x3, ()))))))))))) else none) else none) else (some (decide ((x3.length : Int) ≤ 8)))
def impl_RulesOk.f (k : Nat) (a0 : List (Int × Int × Int)) : Option (Bool) :=
  impl_RulesOk.l1 k k ((a0.length : Int), 0, a0, ())
def impl_RulesOk.Sl1 : Shape := ⟨[(0, false, [.own 0]), (5, false, [.own 0]), (6, false, [.int .i64]), (7, false, [.int .i64])], [(0, .view false 40 (.pair (.int .i64) (.pair (.int .i64) (.int .i64))))], 1⟩
def impl_RulesOk.sig : Sig := ⟨[.val false (.sl 40 (.pair (.int .i64) (.pair (.int .i64) (.int .i64)))) [0]], [.val false .bool []]⟩
def impl_RulesOk.F (k : Nat) (x : Args impl_RulesOk.sig.ps) : Option (Res impl_RulesOk.sig) := impl_RulesOk.f k x.1
def impl_RulesOk.ann (k : Nat) : Ann (Res impl_RulesOk.sig) := (.seq .nil (.seq (.seq .nil (.block (.loop impl_RulesOk.Sl1 (impl_RulesOk.l1 k) fun n1 => .nil))) .nil))
def impl_RulesOk.ent : Ent := ⟨74, impl_RulesOk.sig, impl_RulesOk.F⟩
def impl_RulesOk.ctx (k : Nat) : Ctx := ⟨tds, [impl_isPart.ent, impl_within.ent, impl_ruleFor.ent], k, 50⟩
theorem impl_RulesOk.runs (k : Nat) (x : Args impl_RulesOk.sig.ps) : impl_RulesOk.F k x = runF (impl_RulesOk.ctx k) impl_RulesOk.sig Try.f74 (Try.f74.body.getD .skip) (impl_RulesOk.ann k) x := by kernel_rfl
theorem impl_RulesOk.obls (k : Nat) : obl (impl_RulesOk.ctx k) 1 (Try.f74.body.getD .skip) (impl_RulesOk.ann k) (retK tds impl_RulesOk.sig Try.f74.results.toList) := ⟨trivial, ⟨⟨trivial, ⟨⟨by kernel_rfl, fun x => by kernel_rfl⟩, fun n => ⟨fun x => by kernel_rfl, ⟨trivial, ⟨⟨trivial, trivial⟩, ⟨⟨trivial, ⟨⟨trivial, ⟨⟨trivial, trivial⟩, trivial⟩⟩, ⟨trivial, ⟨⟨trivial, trivial⟩, trivial⟩⟩⟩⟩, trivial⟩⟩⟩⟩⟩⟩, ⟨trivial, trivial⟩⟩⟩
theorem impl_RulesOk.ok (k : Nat) : EntOk Try.prog k impl_RulesOk.ent := fn_ok (C := impl_RulesOk.ctx k) Try.func74 (by kernel_rfl) (by kernel_rfl) mixed tdsOk (.cons (impl_isPart.ok k) (.cons (impl_within.ok k) (.cons (impl_ruleFor.ok k) EntsOk.nil))) (by kernel_rfl) (Nat.le_of_ble_eq_true (by kernel_rfl)) (by kernel_rfl) (impl_RulesOk.runs k) (impl_RulesOk.obls k)
/-! loop.example/g00200/impl.ReadCode -/
def impl_ReadCode.l1 (k : Nat)  : Nat → ByteArray × Int × (List (Int × Int)) × Unit → Option ((List (Int × Int)) × Bool)
  | 0, _ => none
  | n + 1, (x1, x2, x3, _) => if x2 < (x1.size : Int) then (if 0 ≤ x2 then (if x2 < (x1.size : Int) then (if 0 ≤ w64 (x2 + 1) then (if w64 (x2 + 1) < (x1.size : Int) then (((some ([(w64 (bt x1 x2), w64 (bt x1 (w64 (x2 + 1))))] : List (Int × Int)))).bind fun y2 => (if (x3.length + y2.length) * 16 ≤ 140737488355328 then (((some (x3 ++ y2))).bind fun y3 => (impl_ReadCode.l1 k n (x1, w64 (x2 + 2), y3, ()))) else none)) else none) else none) else none) else none) else (some (x3, true))
def impl_ReadCode.f (k : Nat) (a0 : ByteArray) : Option ((List (Int × Int)) × Bool) :=
  if ¬ (Int.tmod (a0.size : Int) 2) = 0 then (some ([], false)) else (if 120 < (a0.size : Int) then (some ([], false)) else (((some ([] : List (Int × Int)))).bind fun y1 => (impl_ReadCode.l1 k k (a0, 0, y1, ()))))
def impl_ReadCode.Sl1 : Shape := ⟨[(0, false, [.str]), (4, false, [.own 0]), (5, false, [.int .i64])], [(0, .row 46 (.pair (.int .i64) (.int .i64)))], 1⟩
def impl_ReadCode.sig : Sig := ⟨[.val false .str []], [.val false (.sl 46 (.pair (.int .i64) (.int .i64))) [none], .val false .bool []]⟩
def impl_ReadCode.F (k : Nat) (x : Args impl_ReadCode.sig.ps) : Option (Res impl_ReadCode.sig) := impl_ReadCode.f k x.1
def impl_ReadCode.ann (k : Nat) : Ann (Res impl_ReadCode.sig) := (.seq .nil (.seq .nil (.seq .nil (.seq (.seq .nil (.block (.loop impl_ReadCode.Sl1 (impl_ReadCode.l1 k) fun n1 => .nil))) .nil))))
def impl_ReadCode.ent : Ent := ⟨165, impl_ReadCode.sig, impl_ReadCode.F⟩
def impl_ReadCode.ctx (k : Nat) : Ctx := ⟨tds, [], k, 36⟩
theorem impl_ReadCode.runs (k : Nat) (x : Args impl_ReadCode.sig.ps) : impl_ReadCode.F k x = runF (impl_ReadCode.ctx k) impl_ReadCode.sig Try.f165 (Try.f165.body.getD .skip) (impl_ReadCode.ann k) x := by kernel_rfl
theorem impl_ReadCode.obls (k : Nat) : obl (impl_ReadCode.ctx k) 0 (Try.f165.body.getD .skip) (impl_ReadCode.ann k) (retK tds impl_ReadCode.sig Try.f165.results.toList) := ⟨trivial, ⟨⟨trivial, ⟨⟨trivial, trivial⟩, trivial⟩⟩, ⟨trivial, ⟨⟨trivial, ⟨⟨by kernel_rfl, fun x => by kernel_rfl⟩, fun n => ⟨fun x => by kernel_rfl, ⟨⟨trivial, ⟨trivial, trivial⟩⟩, ⟨trivial, trivial⟩⟩⟩⟩⟩, ⟨trivial, trivial⟩⟩⟩⟩⟩
theorem impl_ReadCode.ok (k : Nat) : EntOk Try.prog k impl_ReadCode.ent := fn_ok (C := impl_ReadCode.ctx k) Try.func165 (by kernel_rfl) (by kernel_rfl) mixed tdsOk EntsOk.nil (by kernel_rfl) (Nat.le_of_ble_eq_true (by kernel_rfl)) (by kernel_rfl) (impl_ReadCode.runs k) (impl_ReadCode.obls k)
/-! loop.example/g00200/impl.codesOk -/
def impl_codesOk.l1 (k : Nat)  : Nat → Int × Int × Int × List ByteArray × Unit → Option (Bool)
  | 0, _ => none
  | n + 1, (x1, x2, x3, x4, _) => if x3 < x2 then (if 0 ≤ x3 then (if x3 < (x4.length : Int) then ((impl_ReadCode.f k (el .str x4 x3.toNat)).bind fun t1 => (if ¬ t1.2 = true then (some false) else (impl_codesOk.l1 k n (x1, x2, w64 (x3 + 1), x4, ())))) else none) else none) else (some (decide ((x4.length : Int) = x1)))
def impl_codesOk.f (k : Nat) (a0 : List ByteArray) (a1 : Int) : Option (Bool) :=
  impl_codesOk.l1 k k (a1, (a0.length : Int), 0, a0, ())
def impl_codesOk.Sl1 : Shape := ⟨[(0, false, [.own 0]), (1, false, [.int .i64]), (9, false, [.own 0]), (10, false, [.int .i64]), (11, false, [.int .i64])], [(0, .view false 9 .str)], 1⟩
def impl_codesOk.sig : Sig := ⟨[.val false (.sl 9 .str) [0], .val false (.int .i64) []], [.val false .bool []]⟩
def impl_codesOk.F (k : Nat) (x : Args impl_codesOk.sig.ps) : Option (Res impl_codesOk.sig) := impl_codesOk.f k x.1 x.2.1
def impl_codesOk.ann (k : Nat) : Ann (Res impl_codesOk.sig) := (.seq .nil (.seq (.seq .nil (.block (.loop impl_codesOk.Sl1 (impl_codesOk.l1 k) fun n1 => .nil))) .nil))
def impl_codesOk.ent : Ent := ⟨75, impl_codesOk.sig, impl_codesOk.F⟩
def impl_codesOk.ctx (k : Nat) : Ctx := ⟨tds, [impl_ReadCode.ent], k, 27⟩
theorem impl_codesOk.runs (k : Nat) (x : Args impl_codesOk.sig.ps) : impl_codesOk.F k x = runF (impl_codesOk.ctx k) impl_codesOk.sig Try.f75 (Try.f75.body.getD .skip) (impl_codesOk.ann k) x := by kernel_rfl
theorem impl_codesOk.obls (k : Nat) : obl (impl_codesOk.ctx k) 1 (Try.f75.body.getD .skip) (impl_codesOk.ann k) (retK tds impl_codesOk.sig Try.f75.results.toList) := ⟨trivial, ⟨⟨trivial, ⟨⟨by kernel_rfl, fun x => by kernel_rfl⟩, fun n => ⟨fun x => by kernel_rfl, ⟨trivial, ⟨⟨trivial, trivial⟩, ⟨⟨trivial, ⟨trivial, ⟨trivial, ⟨⟨trivial, trivial⟩, trivial⟩⟩⟩⟩, trivial⟩⟩⟩⟩⟩⟩, ⟨trivial, trivial⟩⟩⟩
theorem impl_codesOk.ok (k : Nat) : EntOk Try.prog k impl_codesOk.ent := fn_ok (C := impl_codesOk.ctx k) Try.func75 (by kernel_rfl) (by kernel_rfl) mixed tdsOk (.cons (impl_ReadCode.ok k) EntsOk.nil) (by kernel_rfl) (Nat.le_of_ble_eq_true (by kernel_rfl)) (by kernel_rfl) (impl_codesOk.runs k) (impl_codesOk.obls k)
/-! loop.example/g00200/impl.partsOk -/
def impl_partsOk.l3 (k : Nat)  : Nat → Int × Int × Int × (List (Int × Int)) × (List (Int × Int)) × (List (Int × Int × Int × Int × Int)) × (List (Int × Int × Int)) × List ByteArray × Unit → Option (Bool)
  | 0, _ => none
  | n + 1, (x1, x2, x3, x4, x5, x6, x7, x8, _) => if x3 < x2 then (if 0 ≤ x3 then (if x3 < (x7.length : Int) then (impl_partsOk.l3 k n (max x1 ((el (.pair (.int .i64) (.pair (.int .i64) (.int .i64))) x7 x3.toNat).1), x2, w64 (x3 + 1), x4, x5, x6, x7, x8, ())) else none) else none) else (some (decide (x1 ≤ (x4.length : Int))))
def impl_partsOk.l2 (k : Nat)  : Nat → Int × Int × Int × (List (Int × Int)) × (List (Int × Int)) × (List (Int × Int × Int × Int × Int)) × (List (Int × Int × Int)) × List ByteArray × Unit → Option (Bool)
  | 0, _ => none
  | n + 1, (x1, x2, x3, x4, x5, x6, x7, x8, _) => if x3 < x2 then (if 0 ≤ x3 then (if x3 < (x6.length : Int) then (impl_partsOk.l2 k n (max (max x1 (((el (.pair (.int .i64) (.pair (.int .i64) (.pair (.int .i64) (.pair (.int .i64) (.int .i64))))) x6 x3.toNat).2).1)) ((((el (.pair (.int .i64) (.pair (.int .i64) (.pair (.int .i64) (.pair (.int .i64) (.int .i64))))) x6 x3.toNat).2).2).1), x2, w64 (x3 + 1), x4, x5, x6, x7, x8, ())) else none) else none) else (impl_partsOk.l3 k k (x1, (x7.length : Int), 0, x4, x5, x6, x7, x8, ()))
def impl_partsOk.l1 (k : Nat)  : Nat → Int × Int × Int × (List (Int × Int)) × (List (Int × Int)) × (List (Int × Int × Int × Int × Int)) × (List (Int × Int × Int)) × List ByteArray × Unit → Option (Bool)
  | 0, _ => none
  | n + 1, (x1, x2, x3, x4, x5, x6, x7, x8, _) => if x3 < x2 then (if 0 ≤ x3 then (if x3 < (x5.length : Int) then (impl_partsOk.l1 k n (max x1 ((el (.pair (.int .i64) (.int .i64)) x5 x3.toNat).1), x2, w64 (x3 + 1), x4, x5, x6, x7, x8, ())) else none) else none) else (impl_partsOk.l2 k k (x1, (x6.length : Int), 0, x4, x5, x6, x7, x8, ()))
def impl_partsOk.f (k : Nat) (a0 : List (Int × Int) × List (Int × Int) × List (Int × Int × Int × Int × Int) × List (Int × Int × Int) × List ByteArray) : Option (Bool) :=
  impl_partsOk.l1 k k (0, (a0.2.1.length : Int), 0, a0.1, a0.2.1, a0.2.2.1, a0.2.2.2.1, a0.2.2.2.2, ())
def impl_partsOk.Sl1 : Shape := ⟨[(1, false, [.ptr 5 0]), (3, false, [.int .i64]), (11, false, [.own 1]), (12, false, [.int .i64]), (13, false, [.int .i64])], [(5, .blk 30 [.own 0, .own 1, .own 2, .own 3, .own 4]), (0, .view false 53 (.pair (.int .i64) (.int .i64))), (1, .view false 35 (.pair (.int .i64) (.int .i64))), (2, .view false 42 (.pair (.int .i64) (.pair (.int .i64) (.pair (.int .i64) (.pair (.int .i64) (.int .i64)))))), (3, .view false 40 (.pair (.int .i64) (.pair (.int .i64) (.int .i64)))), (4, .view false 9 .str)], 6⟩
def impl_partsOk.Sl2 : Shape := ⟨[(1, false, [.ptr 5 0]), (3, false, [.int .i64]), (23, false, [.own 2]), (24, false, [.int .i64]), (25, false, [.int .i64])], [(5, .blk 30 [.own 0, .own 1, .own 2, .own 3, .own 4]), (0, .view false 53 (.pair (.int .i64) (.int .i64))), (1, .view false 35 (.pair (.int .i64) (.int .i64))), (2, .view false 42 (.pair (.int .i64) (.pair (.int .i64) (.pair (.int .i64) (.pair (.int .i64) (.int .i64)))))), (3, .view false 40 (.pair (.int .i64) (.pair (.int .i64) (.int .i64)))), (4, .view false 9 .str)], 6⟩
def impl_partsOk.Sl3 : Shape := ⟨[(1, false, [.ptr 5 0]), (3, false, [.int .i64]), (37, false, [.own 3]), (38, false, [.int .i64]), (39, false, [.int .i64])], [(5, .blk 30 [.own 0, .own 1, .own 2, .own 3, .own 4]), (0, .view false 53 (.pair (.int .i64) (.int .i64))), (1, .view false 35 (.pair (.int .i64) (.int .i64))), (2, .view false 42 (.pair (.int .i64) (.pair (.int .i64) (.pair (.int .i64) (.pair (.int .i64) (.int .i64)))))), (3, .view false 40 (.pair (.int .i64) (.pair (.int .i64) (.int .i64)))), (4, .view false 9 .str)], 6⟩
def impl_partsOk.sig : Sig := ⟨[.val true (.pair (.sl 53 (.pair (.int .i64) (.int .i64))) (.pair (.sl 35 (.pair (.int .i64) (.int .i64))) (.pair (.sl 42 (.pair (.int .i64) (.pair (.int .i64) (.pair (.int .i64) (.pair (.int .i64) (.int .i64)))))) (.pair (.sl 40 (.pair (.int .i64) (.pair (.int .i64) (.int .i64)))) (.sl 9 .str))))) [0, 0, 0, 0, 0]], [.val false .bool []]⟩
def impl_partsOk.F (k : Nat) (x : Args impl_partsOk.sig.ps) : Option (Res impl_partsOk.sig) := impl_partsOk.f k x.1
def impl_partsOk.ann (k : Nat) : Ann (Res impl_partsOk.sig) := (.seq .nil (.seq .nil (.seq (.seq .nil (.block (.loop impl_partsOk.Sl1 (impl_partsOk.l1 k) fun n1 => .nil))) (.seq (.seq .nil (.block (.loop impl_partsOk.Sl2 (impl_partsOk.l2 k) fun n1 => .nil))) (.seq (.seq .nil (.block (.loop impl_partsOk.Sl3 (impl_partsOk.l3 k) fun n1 => .nil))) .nil)))))
def impl_partsOk.ent : Ent := ⟨76, impl_partsOk.sig, impl_partsOk.F⟩
def impl_partsOk.ctx (k : Nat) : Ctx := ⟨tds, [], k, 53⟩
theorem impl_partsOk.runs (k : Nat) (x : Args impl_partsOk.sig.ps) : impl_partsOk.F k x = runF (impl_partsOk.ctx k) impl_partsOk.sig Try.f76 (Try.f76.body.getD .skip) (impl_partsOk.ann k) x := by kernel_rfl
theorem impl_partsOk.obls (k : Nat) : obl (impl_partsOk.ctx k) 5 (Try.f76.body.getD .skip) (impl_partsOk.ann k) (retK tds impl_partsOk.sig Try.f76.results.toList) := ⟨trivial, ⟨trivial, ⟨⟨trivial, ⟨⟨by kernel_rfl, fun x => by kernel_rfl⟩, fun n => ⟨fun x => by kernel_rfl, ⟨trivial, ⟨⟨trivial, trivial⟩, ⟨⟨trivial, trivial⟩, trivial⟩⟩⟩⟩⟩⟩, ⟨⟨trivial, ⟨⟨by kernel_rfl, fun x => by kernel_rfl⟩, fun n => ⟨fun x => by kernel_rfl, ⟨trivial, ⟨⟨trivial, trivial⟩, ⟨⟨trivial, trivial⟩, trivial⟩⟩⟩⟩⟩⟩, ⟨⟨trivial, ⟨⟨by kernel_rfl, fun x => by kernel_rfl⟩, fun n => ⟨fun x => by kernel_rfl, ⟨trivial, ⟨⟨trivial, trivial⟩, ⟨⟨trivial, trivial⟩, trivial⟩⟩⟩⟩⟩⟩, ⟨trivial, trivial⟩⟩⟩⟩⟩⟩
theorem impl_partsOk.ok (k : Nat) : EntOk Try.prog k impl_partsOk.ent := fn_ok (C := impl_partsOk.ctx k) Try.func76 (by kernel_rfl) (by kernel_rfl) mixed tdsOk EntsOk.nil (by kernel_rfl) (Nat.le_of_ble_eq_true (by kernel_rfl)) (by kernel_rfl) (impl_partsOk.runs k) (impl_partsOk.obls k)
/-! loop.example/g00200/impl.SetupFault -/
def impl_SetupFault.f (k : Nat) (a0 : List (Int × Int) × List (Int × Int) × List (Int × Int × Int × Int × Int) × List (Int × Int × Int) × List ByteArray) : Option (Int) :=
  (impl_RegionsOk.f k a0.1).bind fun t1 => (if ¬ t1 = true then (some 1) else ((impl_PlanOk.f k a0.2.1).bind fun t2 => (if ¬ t2 = true then (some 2) else ((impl_portsOk.f k a0.2.2.1).bind fun t3 => (if ¬ t3 = true then (some 3) else ((impl_RulesOk.f k a0.2.2.2.1).bind fun t4 => (if ¬ t4 = true then (some 4) else ((impl_codesOk.f k a0.2.2.2.2 (a0.1.length : Int)).bind fun t5 => (if ¬ t5 = true then (some 5) else ((impl_partsOk.f k a0).bind fun t6 => (if ¬ t6 = true then (some 6) else (some 0))))))))))))
def impl_SetupFault.sig : Sig := ⟨[.val true (.pair (.sl 53 (.pair (.int .i64) (.int .i64))) (.pair (.sl 35 (.pair (.int .i64) (.int .i64))) (.pair (.sl 42 (.pair (.int .i64) (.pair (.int .i64) (.pair (.int .i64) (.pair (.int .i64) (.int .i64)))))) (.pair (.sl 40 (.pair (.int .i64) (.pair (.int .i64) (.int .i64)))) (.sl 9 .str))))) [0, 0, 0, 0, 0]], [.val false (.int .i64) []]⟩
def impl_SetupFault.F (k : Nat) (x : Args impl_SetupFault.sig.ps) : Option (Res impl_SetupFault.sig) := impl_SetupFault.f k x.1
def impl_SetupFault.ann (k : Nat) : Ann (Res impl_SetupFault.sig) := .nil
def impl_SetupFault.ent : Ent := ⟨20, impl_SetupFault.sig, impl_SetupFault.F⟩
def impl_SetupFault.ctx (k : Nat) : Ctx := ⟨tds, [impl_PlanOk.ent, impl_RegionsOk.ent, impl_portsOk.ent, impl_RulesOk.ent, impl_codesOk.ent, impl_partsOk.ent], k, 35⟩
theorem impl_SetupFault.runs (k : Nat) (x : Args impl_SetupFault.sig.ps) : impl_SetupFault.F k x = runF (impl_SetupFault.ctx k) impl_SetupFault.sig Try.f20 (Try.f20.body.getD .skip) (impl_SetupFault.ann k) x := by kernel_rfl
theorem impl_SetupFault.obls (k : Nat) : obl (impl_SetupFault.ctx k) 5 (Try.f20.body.getD .skip) (impl_SetupFault.ann k) (retK tds impl_SetupFault.sig Try.f20.results.toList) := ⟨trivial, ⟨⟨trivial, ⟨⟨trivial, trivial⟩, ⟨trivial, ⟨⟨trivial, trivial⟩, ⟨trivial, ⟨⟨trivial, trivial⟩, ⟨trivial, ⟨⟨trivial, trivial⟩, ⟨trivial, ⟨⟨trivial, trivial⟩, ⟨trivial, ⟨⟨trivial, trivial⟩, trivial⟩⟩⟩⟩⟩⟩⟩⟩⟩⟩⟩⟩, ⟨trivial, trivial⟩⟩⟩
theorem impl_SetupFault.ok (k : Nat) : EntOk Try.prog k impl_SetupFault.ent := fn_ok (C := impl_SetupFault.ctx k) Try.func20 (by kernel_rfl) (by kernel_rfl) mixed tdsOk (.cons (impl_PlanOk.ok k) (.cons (impl_RegionsOk.ok k) (.cons (impl_portsOk.ok k) (.cons (impl_RulesOk.ok k) (.cons (impl_codesOk.ok k) (.cons (impl_partsOk.ok k) EntsOk.nil)))))) (by kernel_rfl) (Nat.le_of_ble_eq_true (by kernel_rfl)) (by kernel_rfl) (impl_SetupFault.runs k) (impl_SetupFault.obls k)
/-! loop.example/g00200/impl.VarText -/
def impl_VarText.l1 (k : Nat)  : Nat → Int × List Int × Unit → Option (ByteArray × Bool)
  | 0, _ => none
  | n + 1, (x1, x2, _) => if 127 < x1 then (((some ([IntKind.u8.wrap (w64 ((Int.tmod x1 128) + 128))] : List Int))).bind fun y3 => (if (x2.length + y3.length) * 1 ≤ 140737488355328 then (((some (x2 ++ y3))).bind fun y4 => (impl_VarText.l1 k n (w64 (Int.tdiv x1 128), y4, ()))) else none)) else (((some ([IntKind.u8.wrap (x1)] : List Int))).bind fun y5 => (if (x2.length + y5.length) * 1 ≤ 140737488355328 then (((some (x2 ++ y5))).bind fun y6 => (some (chrs y6, true))) else none))
def impl_VarText.f (k : Nat) (a0 : Int) : Option (ByteArray × Bool) :=
  (impl_within.f k a0 0 1000000000).bind fun t1 => (if ¬ t1 = true then (some ((⟨#[]⟩ : ByteArray), false)) else (((some ([] : List Int))).bind fun y2 => (impl_VarText.l1 k k (a0, y2, ()))))
def impl_VarText.Sl1 : Shape := ⟨[(0, false, [.int .i64]), (4, false, [.own 0])], [(0, .row 5 (.int .u8))], 1⟩
def impl_VarText.sig : Sig := ⟨[.val false (.int .i64) []], [.val false .str [], .val false .bool []]⟩
def impl_VarText.F (k : Nat) (x : Args impl_VarText.sig.ps) : Option (Res impl_VarText.sig) := impl_VarText.f k x.1
def impl_VarText.ann (k : Nat) : Ann (Res impl_VarText.sig) := (.seq .nil (.seq .nil (.seq .nil (.seq (.block (.loop impl_VarText.Sl1 (impl_VarText.l1 k) fun n1 => .nil)) .nil))))
def impl_VarText.ent : Ent := ⟨180, impl_VarText.sig, impl_VarText.F⟩
def impl_VarText.ctx (k : Nat) : Ctx := ⟨tds, [impl_within.ent], k, 26⟩
theorem impl_VarText.runs (k : Nat) (x : Args impl_VarText.sig.ps) : impl_VarText.F k x = runF (impl_VarText.ctx k) impl_VarText.sig Try.f180 (Try.f180.body.getD .skip) (impl_VarText.ann k) x := by kernel_rfl
theorem impl_VarText.obls (k : Nat) : obl (impl_VarText.ctx k) 0 (Try.f180.body.getD .skip) (impl_VarText.ann k) (retK tds impl_VarText.sig Try.f180.results.toList) := ⟨trivial, ⟨⟨trivial, ⟨⟨trivial, trivial⟩, trivial⟩⟩, ⟨trivial, ⟨⟨⟨by kernel_rfl, fun x => by kernel_rfl⟩, fun n => ⟨fun x => by kernel_rfl, ⟨⟨trivial, ⟨trivial, trivial⟩⟩, ⟨trivial, trivial⟩⟩⟩⟩, ⟨trivial, trivial⟩⟩⟩⟩⟩
theorem impl_VarText.ok (k : Nat) : EntOk Try.prog k impl_VarText.ent := fn_ok (C := impl_VarText.ctx k) Try.func180 (by kernel_rfl) (by kernel_rfl) mixed tdsOk (.cons (impl_within.ok k) EntsOk.nil) (by kernel_rfl) (Nat.le_of_ble_eq_true (by kernel_rfl)) (by kernel_rfl) (impl_VarText.runs k) (impl_VarText.obls k)
/-! loop.example/g00200/impl.numbers -/
def impl_numbers.l1 (k : Nat)  : Nat → ByteArray × Int × Int × List Int × Unit → Option (ByteArray)
  | 0, _ => none
  | n + 1, (x1, x2, x3, x4, _) => if x3 < x2 then (if 0 ≤ x3 then (if x3 < (x4.length : Int) then ((impl_VarText.f k (el (.int .i64) x4 x3.toNat)).bind fun t1 => (if x1.size + t1.1.size ≤ 9223372036854775807 then (impl_numbers.l1 k n (x1 ++ t1.1, x2, w64 (x3 + 1), x4, ())) else none)) else none) else none) else (some x1)
def impl_numbers.f (k : Nat) (a0 : List Int) : Option (ByteArray) :=
  impl_numbers.l1 k k ((⟨#[]⟩ : ByteArray), (a0.length : Int), 0, a0, ())
def impl_numbers.Sl1 : Shape := ⟨[(3, false, [.str]), (8, false, [.own 0]), (9, false, [.int .i64]), (10, false, [.int .i64])], [(0, .view false 3 (.int .i64))], 1⟩
def impl_numbers.sig : Sig := ⟨[.val false (.sl 3 (.int .i64)) [0]], [.val false .str []]⟩
def impl_numbers.F (k : Nat) (x : Args impl_numbers.sig.ps) : Option (Res impl_numbers.sig) := impl_numbers.f k x.1
def impl_numbers.ann (k : Nat) : Ann (Res impl_numbers.sig) := (.seq .nil (.seq .nil (.seq (.seq .nil (.block (.loop impl_numbers.Sl1 (impl_numbers.l1 k) fun n1 => .nil))) .nil)))
def impl_numbers.ent : Ent := ⟨140, impl_numbers.sig, impl_numbers.F⟩
def impl_numbers.ctx (k : Nat) : Ctx := ⟨tds, [impl_VarText.ent], k, 24⟩
theorem impl_numbers.runs (k : Nat) (x : Args impl_numbers.sig.ps) : impl_numbers.F k x = runF (impl_numbers.ctx k) impl_numbers.sig Try.f140 (Try.f140.body.getD .skip) (impl_numbers.ann k) x := by kernel_rfl
theorem impl_numbers.obls (k : Nat) : obl (impl_numbers.ctx k) 1 (Try.f140.body.getD .skip) (impl_numbers.ann k) (retK tds impl_numbers.sig Try.f140.results.toList) := ⟨trivial, ⟨trivial, ⟨⟨trivial, ⟨⟨by kernel_rfl, fun x => by kernel_rfl⟩, fun n => ⟨fun x => by kernel_rfl, ⟨trivial, ⟨⟨trivial, trivial⟩, ⟨⟨trivial, ⟨trivial, trivial⟩⟩, trivial⟩⟩⟩⟩⟩⟩, ⟨trivial, trivial⟩⟩⟩⟩
theorem impl_numbers.ok (k : Nat) : EntOk Try.prog k impl_numbers.ent := fn_ok (C := impl_numbers.ctx k) Try.func140 (by kernel_rfl) (by kernel_rfl) mixed tdsOk (.cons (impl_VarText.ok k) EntsOk.nil) (by kernel_rfl) (Nat.le_of_ble_eq_true (by kernel_rfl)) (by kernel_rfl) (impl_numbers.runs k) (impl_numbers.obls k)
/-! loop.example/g00200/impl.ShortText -/
def impl_ShortText.f (k : Nat) (a0 : ByteArray) : Option (ByteArray × Bool) :=
  if 20000 < (a0.size : Int) then (some ((⟨#[]⟩ : ByteArray), false)) else ((impl_VarText.f k (a0.size : Int)).bind fun t1 => (if t1.1.size + a0.size ≤ 9223372036854775807 then (some (t1.1 ++ a0, true)) else none))
def impl_ShortText.sig : Sig := ⟨[.val false .str []], [.val false .str [], .val false .bool []]⟩
def impl_ShortText.F (k : Nat) (x : Args impl_ShortText.sig.ps) : Option (Res impl_ShortText.sig) := impl_ShortText.f k x.1
def impl_ShortText.ann (k : Nat) : Ann (Res impl_ShortText.sig) := .nil
def impl_ShortText.ent : Ent := ⟨141, impl_ShortText.sig, impl_ShortText.F⟩
def impl_ShortText.ctx (k : Nat) : Ctx := ⟨tds, [impl_VarText.ent], k, 18⟩
theorem impl_ShortText.runs (k : Nat) (x : Args impl_ShortText.sig.ps) : impl_ShortText.F k x = runF (impl_ShortText.ctx k) impl_ShortText.sig Try.f141 (Try.f141.body.getD .skip) (impl_ShortText.ann k) x := by kernel_rfl
theorem impl_ShortText.obls (k : Nat) : obl (impl_ShortText.ctx k) 0 (Try.f141.body.getD .skip) (impl_ShortText.ann k) (retK tds impl_ShortText.sig Try.f141.results.toList) := ⟨trivial, ⟨⟨trivial, ⟨⟨trivial, trivial⟩, trivial⟩⟩, ⟨trivial, ⟨trivial, trivial⟩⟩⟩⟩
theorem impl_ShortText.ok (k : Nat) : EntOk Try.prog k impl_ShortText.ent := fn_ok (C := impl_ShortText.ctx k) Try.func141 (by kernel_rfl) (by kernel_rfl) mixed tdsOk (.cons (impl_VarText.ok k) EntsOk.nil) (by kernel_rfl) (Nat.le_of_ble_eq_true (by kernel_rfl)) (by kernel_rfl) (impl_ShortText.runs k) (impl_ShortText.obls k)
/-! loop.example/g00200/impl.SetupText -/
def impl_SetupText.l5 (k : Nat)  : Nat → ByteArray × Int × Int × List ByteArray × Unit → Option (ByteArray × Bool)
  | 0, _ => none
  | n + 1, (x1, x2, x3, x4, _) => if x3 < x2 then (if 0 ≤ x3 then (if x3 < (x4.length : Int) then ((impl_ShortText.f k (el .str x4 x3.toNat)).bind fun t18 => (if x1.size + t18.1.size ≤ 9223372036854775807 then (impl_SetupText.l5 k n (x1 ++ t18.1, x2, w64 (x3 + 1), x4, ())) else none)) else none) else none) else (some (x1, true))
def impl_SetupText.l4 (k : Nat)  : Nat → ByteArray × Int × Int × (List (Int × Int)) × (List (Int × Int)) × (List (Int × Int × Int × Int × Int)) × (List (Int × Int × Int)) × List ByteArray × Unit → Option (ByteArray × Bool)
  | 0, _ => none
  | n + 1, (x1, x2, x3, x4, x5, x6, x7, x8, _) => if x3 < x2 then (if 0 ≤ x3 then (if x3 < (x7.length : Int) then (((some ([(el (.pair (.int .i64) (.pair (.int .i64) (.int .i64))) x7 x3.toNat).1, ((el (.pair (.int .i64) (.pair (.int .i64) (.int .i64))) x7 x3.toNat).2).1, ((el (.pair (.int .i64) (.pair (.int .i64) (.int .i64))) x7 x3.toNat).2).2] : List Int))).bind fun y16 => ((impl_numbers.f k y16).bind fun t17 => (if x1.size + t17.size ≤ 9223372036854775807 then (impl_SetupText.l4 k n (x1 ++ t17, x2, w64 (x3 + 1), x4, x5, x6, x7, x8, ())) else none))) else none) else none) else (impl_SetupText.l5 k k (x1, (x8.length : Int), 0, x8, ()))
def impl_SetupText.l3 (k : Nat)  : Nat → ByteArray × Int × Int × (List (Int × Int)) × (List (Int × Int)) × (List (Int × Int × Int × Int × Int)) × (List (Int × Int × Int)) × List ByteArray × Unit → Option (ByteArray × Bool)
  | 0, _ => none
  | n + 1, (x1, x2, x3, x4, x5, x6, x7, x8, _) => if x3 < x2 then (if 0 ≤ x3 then (if x3 < (x6.length : Int) then (((some ([(el (.pair (.int .i64) (.pair (.int .i64) (.pair (.int .i64) (.pair (.int .i64) (.int .i64))))) x6 x3.toNat).1, ((el (.pair (.int .i64) (.pair (.int .i64) (.pair (.int .i64) (.pair (.int .i64) (.int .i64))))) x6 x3.toNat).2).1, (((el (.pair (.int .i64) (.pair (.int .i64) (.pair (.int .i64) (.pair (.int .i64) (.int .i64))))) x6 x3.toNat).2).2).1, ((((el (.pair (.int .i64) (.pair (.int .i64) (.pair (.int .i64) (.pair (.int .i64) (.int .i64))))) x6 x3.toNat).2).2).2).1, ((((el (.pair (.int .i64) (.pair (.int .i64) (.pair (.int .i64) (.pair (.int .i64) (.int .i64))))) x6 x3.toNat).2).2).2).2] : List Int))).bind fun y12 => ((impl_numbers.f k y12).bind fun t13 => (if x1.size + t13.size ≤ 9223372036854775807 then (impl_SetupText.l3 k n (x1 ++ t13, x2, w64 (x3 + 1), x4, x5, x6, x7, x8, ())) else none))) else none) else none) else (((some ([(x7.length : Int)] : List Int))).bind fun y14 => ((impl_numbers.f k y14).bind fun t15 => (if x1.size + t15.size ≤ 9223372036854775807 then (impl_SetupText.l4 k k (x1 ++ t15, (x7.length : Int), 0, x4, x5, x6, x7, x8, ())) else none)))
def impl_SetupText.l2 (k : Nat)  : Nat → ByteArray × Int × Int × (List (Int × Int)) × (List (Int × Int)) × (List (Int × Int × Int × Int × Int)) × (List (Int × Int × Int)) × List ByteArray × Unit → Option (ByteArray × Bool)
  | 0, _ => none
  | n + 1, (x1, x2, x3, x4, x5, x6, x7, x8, _) => if x3 < x2 then (if 0 ≤ x3 then (if x3 < (x5.length : Int) then (((some ([(el (.pair (.int .i64) (.int .i64)) x5 x3.toNat).1, (el (.pair (.int .i64) (.int .i64)) x5 x3.toNat).2] : List Int))).bind fun y8 => ((impl_numbers.f k y8).bind fun t9 => (if x1.size + t9.size ≤ 9223372036854775807 then (impl_SetupText.l2 k n (x1 ++ t9, x2, w64 (x3 + 1), x4, x5, x6, x7, x8, ())) else none))) else none) else none) else (((some ([(x6.length : Int)] : List Int))).bind fun y10 => ((impl_numbers.f k y10).bind fun t11 => (if x1.size + t11.size ≤ 9223372036854775807 then (impl_SetupText.l3 k k (x1 ++ t11, (x6.length : Int), 0, x4, x5, x6, x7, x8, ())) else none)))
def impl_SetupText.l1 (k : Nat)  : Nat → ByteArray × Int × Int × (List (Int × Int)) × (List (Int × Int)) × (List (Int × Int × Int × Int × Int)) × (List (Int × Int × Int)) × List ByteArray × Unit → Option (ByteArray × Bool)
  | 0, _ => none
  | n + 1, (x1, x2, x3, x4, x5, x6, x7, x8, _) => if x3 < x2 then (if 0 ≤ x3 then (if x3 < (x4.length : Int) then (((some ([(el (.pair (.int .i64) (.int .i64)) x4 x3.toNat).1, (el (.pair (.int .i64) (.int .i64)) x4 x3.toNat).2] : List Int))).bind fun y4 => ((impl_numbers.f k y4).bind fun t5 => (if x1.size + t5.size ≤ 9223372036854775807 then (impl_SetupText.l1 k n (x1 ++ t5, x2, w64 (x3 + 1), x4, x5, x6, x7, x8, ())) else none))) else none) else none) else (((some ([(x5.length : Int)] : List Int))).bind fun y6 => ((impl_numbers.f k y6).bind fun t7 => (if x1.size + t7.size ≤ 9223372036854775807 then (impl_SetupText.l2 k k (x1 ++ t7, (x5.length : Int), 0, x4, x5, x6, x7, x8, ())) else none)))
def impl_SetupText.f (k : Nat) (a0 : List (Int × Int) × List (Int × Int) × List (Int × Int × Int × Int × Int) × List (Int × Int × Int) × List ByteArray) : Option (ByteArray × Bool) :=
  (impl_SetupFault.f k a0).bind fun t1 => (if ¬ t1 = 0 then (some ((⟨#[]⟩ : ByteArray), false)) else (((some ([(a0.1.length : Int)] : List Int))).bind fun y2 => ((impl_numbers.f k y2).bind fun t3 => (impl_SetupText.l1 k k (t3, (a0.1.length : Int), 0, a0.1, a0.2.1, a0.2.2.1, a0.2.2.2.1, a0.2.2.2.2, ())))))
def impl_SetupText.Sl1 : Shape := ⟨[(1, false, [.ptr 5 0]), (4, false, [.str]), (26, false, [.own 0]), (27, false, [.int .i64]), (28, false, [.int .i64])], [(5, .blk 30 [.own 0, .own 1, .own 2, .own 3, .own 4]), (0, .view false 53 (.pair (.int .i64) (.int .i64))), (1, .view false 35 (.pair (.int .i64) (.int .i64))), (2, .view false 42 (.pair (.int .i64) (.pair (.int .i64) (.pair (.int .i64) (.pair (.int .i64) (.int .i64)))))), (3, .view false 40 (.pair (.int .i64) (.pair (.int .i64) (.int .i64)))), (4, .view false 9 .str)], 6⟩
def impl_SetupText.Sl2 : Shape := ⟨[(1, false, [.ptr 5 0]), (4, false, [.str]), (49, false, [.own 1]), (50, false, [.int .i64]), (51, false, [.int .i64])], [(5, .blk 30 [.own 0, .own 1, .own 2, .own 3, .own 4]), (0, .view false 53 (.pair (.int .i64) (.int .i64))), (1, .view false 35 (.pair (.int .i64) (.int .i64))), (2, .view false 42 (.pair (.int .i64) (.pair (.int .i64) (.pair (.int .i64) (.pair (.int .i64) (.int .i64)))))), (3, .view false 40 (.pair (.int .i64) (.pair (.int .i64) (.int .i64)))), (4, .view false 9 .str)], 6⟩
def impl_SetupText.Sl3 : Shape := ⟨[(1, false, [.ptr 5 0]), (4, false, [.str]), (72, false, [.own 2]), (73, false, [.int .i64]), (74, false, [.int .i64])], [(5, .blk 30 [.own 0, .own 1, .own 2, .own 3, .own 4]), (0, .view false 53 (.pair (.int .i64) (.int .i64))), (1, .view false 35 (.pair (.int .i64) (.int .i64))), (2, .view false 42 (.pair (.int .i64) (.pair (.int .i64) (.pair (.int .i64) (.pair (.int .i64) (.int .i64)))))), (3, .view false 40 (.pair (.int .i64) (.pair (.int .i64) (.int .i64)))), (4, .view false 9 .str)], 6⟩
def impl_SetupText.Sl4 : Shape := ⟨[(1, false, [.ptr 5 0]), (4, false, [.str]), (101, false, [.own 3]), (102, false, [.int .i64]), (103, false, [.int .i64])], [(5, .blk 30 [.own 0, .own 1, .own 2, .own 3, .own 4]), (0, .view false 53 (.pair (.int .i64) (.int .i64))), (1, .view false 35 (.pair (.int .i64) (.int .i64))), (2, .view false 42 (.pair (.int .i64) (.pair (.int .i64) (.pair (.int .i64) (.pair (.int .i64) (.int .i64)))))), (3, .view false 40 (.pair (.int .i64) (.pair (.int .i64) (.int .i64)))), (4, .view false 9 .str)], 6⟩
def impl_SetupText.Sl5 : Shape := ⟨[(4, false, [.str]), (119, false, [.own 4]), (120, false, [.int .i64]), (121, false, [.int .i64])], [(4, .view false 9 .str)], 5⟩
def impl_SetupText.sig : Sig := ⟨[.val true (.pair (.sl 53 (.pair (.int .i64) (.int .i64))) (.pair (.sl 35 (.pair (.int .i64) (.int .i64))) (.pair (.sl 42 (.pair (.int .i64) (.pair (.int .i64) (.pair (.int .i64) (.pair (.int .i64) (.int .i64)))))) (.pair (.sl 40 (.pair (.int .i64) (.pair (.int .i64) (.int .i64)))) (.sl 9 .str))))) [0, 0, 0, 0, 0]], [.val false .str [], .val false .bool []]⟩
def impl_SetupText.F (k : Nat) (x : Args impl_SetupText.sig.ps) : Option (Res impl_SetupText.sig) := impl_SetupText.f k x.1
def impl_SetupText.ann (k : Nat) : Ann (Res impl_SetupText.sig) := (.seq .nil (.seq .nil (.seq .nil (.seq (.seq .nil (.block (.loop impl_SetupText.Sl1 (impl_SetupText.l1 k) fun n1 => .nil))) (.seq .nil (.seq (.seq .nil (.block (.loop impl_SetupText.Sl2 (impl_SetupText.l2 k) fun n1 => .nil))) (.seq .nil (.seq (.seq .nil (.block (.loop impl_SetupText.Sl3 (impl_SetupText.l3 k) fun n1 => .nil))) (.seq .nil (.seq (.seq .nil (.block (.loop impl_SetupText.Sl4 (impl_SetupText.l4 k) fun n1 => .nil))) (.seq (.seq .nil (.block (.loop impl_SetupText.Sl5 (impl_SetupText.l5 k) fun n1 => .nil))) .nil)))))))))))
def impl_SetupText.ent : Ent := ⟨58, impl_SetupText.sig, impl_SetupText.F⟩
def impl_SetupText.ctx (k : Nat) : Ctx := ⟨tds, [impl_SetupFault.ent, impl_numbers.ent, impl_ShortText.ent], k, 135⟩
theorem impl_SetupText.runs (k : Nat) (x : Args impl_SetupText.sig.ps) : impl_SetupText.F k x = runF (impl_SetupText.ctx k) impl_SetupText.sig Try.f58 (Try.f58.body.getD .skip) (impl_SetupText.ann k) x := by kernel_rfl
theorem impl_SetupText.obls (k : Nat) : obl (impl_SetupText.ctx k) 5 (Try.f58.body.getD .skip) (impl_SetupText.ann k) (retK tds impl_SetupText.sig Try.f58.results.toList) := ⟨trivial, ⟨⟨trivial, ⟨⟨trivial, trivial⟩, trivial⟩⟩, ⟨trivial, ⟨⟨trivial, ⟨⟨by kernel_rfl, fun x => by kernel_rfl⟩, fun n => ⟨fun x => by kernel_rfl, ⟨trivial, ⟨⟨trivial, trivial⟩, ⟨⟨trivial, trivial⟩, trivial⟩⟩⟩⟩⟩⟩, ⟨trivial, ⟨⟨trivial, ⟨⟨by kernel_rfl, fun x => by kernel_rfl⟩, fun n => ⟨fun x => by kernel_rfl, ⟨trivial, ⟨⟨trivial, trivial⟩, ⟨⟨trivial, trivial⟩, trivial⟩⟩⟩⟩⟩⟩, ⟨trivial, ⟨⟨trivial, ⟨⟨by kernel_rfl, fun x => by kernel_rfl⟩, fun n => ⟨fun x => by kernel_rfl, ⟨trivial, ⟨⟨trivial, trivial⟩, ⟨⟨trivial, trivial⟩, trivial⟩⟩⟩⟩⟩⟩, ⟨trivial, ⟨⟨trivial, ⟨⟨by kernel_rfl, fun x => by kernel_rfl⟩, fun n => ⟨fun x => by kernel_rfl, ⟨trivial, ⟨⟨trivial, trivial⟩, ⟨⟨trivial, trivial⟩, trivial⟩⟩⟩⟩⟩⟩, ⟨⟨trivial, ⟨⟨by kernel_rfl, fun x => by kernel_rfl⟩, fun n => ⟨fun x => by kernel_rfl, ⟨trivial, ⟨⟨trivial, trivial⟩, ⟨⟨trivial, ⟨trivial, trivial⟩⟩, trivial⟩⟩⟩⟩⟩⟩, ⟨trivial, trivial⟩⟩⟩⟩⟩⟩⟩⟩⟩⟩⟩⟩
theorem impl_SetupText.ok (k : Nat) : EntOk Try.prog k impl_SetupText.ent := fn_ok (C := impl_SetupText.ctx k) Try.func58 (by kernel_rfl) (by kernel_rfl) mixed tdsOk (.cons (impl_SetupFault.ok k) (.cons (impl_numbers.ok k) (.cons (impl_ShortText.ok k) EntsOk.nil))) (by kernel_rfl) (Nat.le_of_ble_eq_true (by kernel_rfl)) (by kernel_rfl) (impl_SetupText.runs k) (impl_SetupText.obls k)
/-! loop.example/g00200/laws.eqRegion -/
def laws_eqRegion.f (k : Nat) (a0 : Int × Int) (a1 : Int × Int) : Option (Bool) :=
  if ¬ a0.1 = a1.1 then (some false) else (if ¬ a0.2 = a1.2 then (some false) else (some true))
def laws_eqRegion.sig : Sig := ⟨[.val true (.pair (.int .i64) (.int .i64)) [], .val true (.pair (.int .i64) (.int .i64)) []], [.val false .bool []]⟩
def laws_eqRegion.F (k : Nat) (x : Args laws_eqRegion.sig.ps) : Option (Res laws_eqRegion.sig) := laws_eqRegion.f k x.1 x.2.1
def laws_eqRegion.ann (k : Nat) : Ann (Res laws_eqRegion.sig) := .nil
def laws_eqRegion.ent : Ent := ⟨176, laws_eqRegion.sig, laws_eqRegion.F⟩
def laws_eqRegion.ctx (k : Nat) : Ctx := ⟨tds, [], k, 15⟩
theorem laws_eqRegion.runs (k : Nat) (x : Args laws_eqRegion.sig.ps) : laws_eqRegion.F k x = runF (laws_eqRegion.ctx k) laws_eqRegion.sig Try.f176 (Try.f176.body.getD .skip) (laws_eqRegion.ann k) x := by kernel_rfl
theorem laws_eqRegion.obls (k : Nat) : obl (laws_eqRegion.ctx k) 0 (Try.f176.body.getD .skip) (laws_eqRegion.ann k) (retK tds laws_eqRegion.sig Try.f176.results.toList) := ⟨trivial, ⟨⟨trivial, ⟨⟨trivial, trivial⟩, trivial⟩⟩, ⟨⟨trivial, ⟨⟨trivial, trivial⟩, trivial⟩⟩, ⟨trivial, trivial⟩⟩⟩⟩
theorem laws_eqRegion.ok (k : Nat) : EntOk Try.prog k laws_eqRegion.ent := fn_ok (C := laws_eqRegion.ctx k) Try.func176 (by kernel_rfl) (by kernel_rfl) mixed tdsOk EntsOk.nil (by kernel_rfl) (Nat.le_of_ble_eq_true (by kernel_rfl)) (by kernel_rfl) (laws_eqRegion.runs k) (laws_eqRegion.obls k)
/-! loop.example/g00200/laws.eqRegionS -/
def laws_eqRegionS.l1 (k : Nat)  : Nat → Int × (List (Int × Int)) × (List (Int × Int)) × Unit → Option (Bool)
  | 0, _ => none
  | n + 1, (x1, x2, x3, _) => if x1 < (x2.length : Int) then (if 0 ≤ x1 then (if x1 < (x2.length : Int) then (if 0 ≤ x1 then (if x1 < (x3.length : Int) then ((laws_eqRegion.f k (el (.pair (.int .i64) (.int .i64)) x2 x1.toNat) (el (.pair (.int .i64) (.int .i64)) x3 x1.toNat)).bind fun t1 => (if ¬ t1 = true then (some false) else (laws_eqRegionS.l1 k n (w64 (x1 + 1), x2, x3, ())))) else none) else none) else none) else none) else (some true)
def laws_eqRegionS.f (k : Nat) (a0 : List (Int × Int)) (a1 : List (Int × Int)) : Option (Bool) :=
  if ¬ (a0.length : Int) = (a1.length : Int) then (some false) else (laws_eqRegionS.l1 k k (0, a0, a1, ()))
def laws_eqRegionS.Sl1 : Shape := ⟨[(0, false, [.own 0]), (1, false, [.own 1]), (5, false, [.int .i64])], [(0, .view false 53 (.pair (.int .i64) (.int .i64))), (1, .view false 53 (.pair (.int .i64) (.int .i64)))], 2⟩
def laws_eqRegionS.sig : Sig := ⟨[.val false (.sl 53 (.pair (.int .i64) (.int .i64))) [0], .val false (.sl 53 (.pair (.int .i64) (.int .i64))) [0]], [.val false .bool []]⟩
def laws_eqRegionS.F (k : Nat) (x : Args laws_eqRegionS.sig.ps) : Option (Res laws_eqRegionS.sig) := laws_eqRegionS.f k x.1 x.2.1
def laws_eqRegionS.ann (k : Nat) : Ann (Res laws_eqRegionS.sig) := (.seq .nil (.seq .nil (.seq (.seq .nil (.block (.loop laws_eqRegionS.Sl1 (laws_eqRegionS.l1 k) fun n1 => .nil))) .nil)))
def laws_eqRegionS.ent : Ent := ⟨130, laws_eqRegionS.sig, laws_eqRegionS.F⟩
def laws_eqRegionS.ctx (k : Nat) : Ctx := ⟨tds, [laws_eqRegion.ent], k, 27⟩
theorem laws_eqRegionS.runs (k : Nat) (x : Args laws_eqRegionS.sig.ps) : laws_eqRegionS.F k x = runF (laws_eqRegionS.ctx k) laws_eqRegionS.sig Try.f130 (Try.f130.body.getD .skip) (laws_eqRegionS.ann k) x := by kernel_rfl
theorem laws_eqRegionS.obls (k : Nat) : obl (laws_eqRegionS.ctx k) 2 (Try.f130.body.getD .skip) (laws_eqRegionS.ann k) (retK tds laws_eqRegionS.sig Try.f130.results.toList) := ⟨trivial, ⟨⟨trivial, ⟨⟨trivial, trivial⟩, trivial⟩⟩, ⟨⟨trivial, ⟨⟨by kernel_rfl, fun x => by kernel_rfl⟩, fun n => ⟨fun x => by kernel_rfl, ⟨⟨trivial, ⟨trivial, trivial⟩⟩, ⟨⟨trivial, ⟨⟨trivial, trivial⟩, trivial⟩⟩, trivial⟩⟩⟩⟩⟩, ⟨trivial, trivial⟩⟩⟩⟩
theorem laws_eqRegionS.ok (k : Nat) : EntOk Try.prog k laws_eqRegionS.ent := fn_ok (C := laws_eqRegionS.ctx k) Try.func130 (by kernel_rfl) (by kernel_rfl) mixed tdsOk (.cons (laws_eqRegion.ok k) EntsOk.nil) (by kernel_rfl) (Nat.le_of_ble_eq_true (by kernel_rfl)) (by kernel_rfl) (laws_eqRegionS.runs k) (laws_eqRegionS.obls k)
/-! loop.example/g00200/laws.eqWindow -/
def laws_eqWindow.f (k : Nat) (a0 : Int × Int) (a1 : Int × Int) : Option (Bool) :=
  if ¬ a0.1 = a1.1 then (some false) else (if ¬ a0.2 = a1.2 then (some false) else (some true))
def laws_eqWindow.sig : Sig := ⟨[.val true (.pair (.int .i64) (.int .i64)) [], .val true (.pair (.int .i64) (.int .i64)) []], [.val false .bool []]⟩
def laws_eqWindow.F (k : Nat) (x : Args laws_eqWindow.sig.ps) : Option (Res laws_eqWindow.sig) := laws_eqWindow.f k x.1 x.2.1
def laws_eqWindow.ann (k : Nat) : Ann (Res laws_eqWindow.sig) := .nil
def laws_eqWindow.ent : Ent := ⟨177, laws_eqWindow.sig, laws_eqWindow.F⟩
def laws_eqWindow.ctx (k : Nat) : Ctx := ⟨tds, [], k, 15⟩
theorem laws_eqWindow.runs (k : Nat) (x : Args laws_eqWindow.sig.ps) : laws_eqWindow.F k x = runF (laws_eqWindow.ctx k) laws_eqWindow.sig Try.f177 (Try.f177.body.getD .skip) (laws_eqWindow.ann k) x := by kernel_rfl
theorem laws_eqWindow.obls (k : Nat) : obl (laws_eqWindow.ctx k) 0 (Try.f177.body.getD .skip) (laws_eqWindow.ann k) (retK tds laws_eqWindow.sig Try.f177.results.toList) := ⟨trivial, ⟨⟨trivial, ⟨⟨trivial, trivial⟩, trivial⟩⟩, ⟨⟨trivial, ⟨⟨trivial, trivial⟩, trivial⟩⟩, ⟨trivial, trivial⟩⟩⟩⟩
theorem laws_eqWindow.ok (k : Nat) : EntOk Try.prog k laws_eqWindow.ent := fn_ok (C := laws_eqWindow.ctx k) Try.func177 (by kernel_rfl) (by kernel_rfl) mixed tdsOk EntsOk.nil (by kernel_rfl) (Nat.le_of_ble_eq_true (by kernel_rfl)) (by kernel_rfl) (laws_eqWindow.runs k) (laws_eqWindow.obls k)
/-! loop.example/g00200/laws.eqWindowS -/
def laws_eqWindowS.l1 (k : Nat)  : Nat → Int × (List (Int × Int)) × (List (Int × Int)) × Unit → Option (Bool)
  | 0, _ => none
  | n + 1, (x1, x2, x3, _) => if x1 < (x2.length : Int) then (if 0 ≤ x1 then (if x1 < (x2.length : Int) then (if 0 ≤ x1 then (if x1 < (x3.length : Int) then ((laws_eqWindow.f k (el (.pair (.int .i64) (.int .i64)) x2 x1.toNat) (el (.pair (.int .i64) (.int .i64)) x3 x1.toNat)).bind fun t1 => (if ¬ t1 = true then (some false) else (laws_eqWindowS.l1 k n (w64 (x1 + 1), x2, x3, ())))) else none) else none) else none) else none) else (some true)
def laws_eqWindowS.f (k : Nat) (a0 : List (Int × Int)) (a1 : List (Int × Int)) : Option (Bool) :=
  if ¬ (a0.length : Int) = (a1.length : Int) then (some false) else (laws_eqWindowS.l1 k k (0, a0, a1, ()))
def laws_eqWindowS.Sl1 : Shape := ⟨[(0, false, [.own 0]), (1, false, [.own 1]), (5, false, [.int .i64])], [(0, .view false 35 (.pair (.int .i64) (.int .i64))), (1, .view false 35 (.pair (.int .i64) (.int .i64)))], 2⟩
def laws_eqWindowS.sig : Sig := ⟨[.val false (.sl 35 (.pair (.int .i64) (.int .i64))) [0], .val false (.sl 35 (.pair (.int .i64) (.int .i64))) [0]], [.val false .bool []]⟩
def laws_eqWindowS.F (k : Nat) (x : Args laws_eqWindowS.sig.ps) : Option (Res laws_eqWindowS.sig) := laws_eqWindowS.f k x.1 x.2.1
def laws_eqWindowS.ann (k : Nat) : Ann (Res laws_eqWindowS.sig) := (.seq .nil (.seq .nil (.seq (.seq .nil (.block (.loop laws_eqWindowS.Sl1 (laws_eqWindowS.l1 k) fun n1 => .nil))) .nil)))
def laws_eqWindowS.ent : Ent := ⟨131, laws_eqWindowS.sig, laws_eqWindowS.F⟩
def laws_eqWindowS.ctx (k : Nat) : Ctx := ⟨tds, [laws_eqWindow.ent], k, 27⟩
theorem laws_eqWindowS.runs (k : Nat) (x : Args laws_eqWindowS.sig.ps) : laws_eqWindowS.F k x = runF (laws_eqWindowS.ctx k) laws_eqWindowS.sig Try.f131 (Try.f131.body.getD .skip) (laws_eqWindowS.ann k) x := by kernel_rfl
theorem laws_eqWindowS.obls (k : Nat) : obl (laws_eqWindowS.ctx k) 2 (Try.f131.body.getD .skip) (laws_eqWindowS.ann k) (retK tds laws_eqWindowS.sig Try.f131.results.toList) := ⟨trivial, ⟨⟨trivial, ⟨⟨trivial, trivial⟩, trivial⟩⟩, ⟨⟨trivial, ⟨⟨by kernel_rfl, fun x => by kernel_rfl⟩, fun n => ⟨fun x => by kernel_rfl, ⟨⟨trivial, ⟨trivial, trivial⟩⟩, ⟨⟨trivial, ⟨⟨trivial, trivial⟩, trivial⟩⟩, trivial⟩⟩⟩⟩⟩, ⟨trivial, trivial⟩⟩⟩⟩
theorem laws_eqWindowS.ok (k : Nat) : EntOk Try.prog k laws_eqWindowS.ent := fn_ok (C := laws_eqWindowS.ctx k) Try.func131 (by kernel_rfl) (by kernel_rfl) mixed tdsOk (.cons (laws_eqWindow.ok k) EntsOk.nil) (by kernel_rfl) (Nat.le_of_ble_eq_true (by kernel_rfl)) (by kernel_rfl) (laws_eqWindowS.runs k) (laws_eqWindowS.obls k)
/-! loop.example/g00200/laws.eqPort -/
def laws_eqPort.f (k : Nat) (a0 : Int × Int × Int × Int × Int) (a1 : Int × Int × Int × Int × Int) : Option (Bool) :=
  if ¬ a0.1 = a1.1 then (some false) else (if ¬ a0.2.1 = a1.2.1 then (some false) else (if ¬ a0.2.2.1 = a1.2.2.1 then (some false) else (if ¬ a0.2.2.2.1 = a1.2.2.2.1 then (some false) else (if ¬ a0.2.2.2.2 = a1.2.2.2.2 then (some false) else (some true)))))
def laws_eqPort.sig : Sig := ⟨[.val true (.pair (.int .i64) (.pair (.int .i64) (.pair (.int .i64) (.pair (.int .i64) (.int .i64))))) [], .val true (.pair (.int .i64) (.pair (.int .i64) (.pair (.int .i64) (.pair (.int .i64) (.int .i64))))) []], [.val false .bool []]⟩
def laws_eqPort.F (k : Nat) (x : Args laws_eqPort.sig.ps) : Option (Res laws_eqPort.sig) := laws_eqPort.f k x.1 x.2.1
def laws_eqPort.ann (k : Nat) : Ann (Res laws_eqPort.sig) := .nil
def laws_eqPort.ent : Ent := ⟨178, laws_eqPort.sig, laws_eqPort.F⟩
def laws_eqPort.ctx (k : Nat) : Ctx := ⟨tds, [], k, 30⟩
theorem laws_eqPort.runs (k : Nat) (x : Args laws_eqPort.sig.ps) : laws_eqPort.F k x = runF (laws_eqPort.ctx k) laws_eqPort.sig Try.f178 (Try.f178.body.getD .skip) (laws_eqPort.ann k) x := by kernel_rfl
theorem laws_eqPort.obls (k : Nat) : obl (laws_eqPort.ctx k) 0 (Try.f178.body.getD .skip) (laws_eqPort.ann k) (retK tds laws_eqPort.sig Try.f178.results.toList) := ⟨trivial, ⟨⟨trivial, ⟨⟨trivial, trivial⟩, trivial⟩⟩, ⟨⟨trivial, ⟨⟨trivial, trivial⟩, trivial⟩⟩, ⟨⟨trivial, ⟨⟨trivial, trivial⟩, trivial⟩⟩, ⟨⟨trivial, ⟨⟨trivial, trivial⟩, trivial⟩⟩, ⟨⟨trivial, ⟨⟨trivial, trivial⟩, trivial⟩⟩, ⟨trivial, trivial⟩⟩⟩⟩⟩⟩⟩
theorem laws_eqPort.ok (k : Nat) : EntOk Try.prog k laws_eqPort.ent := fn_ok (C := laws_eqPort.ctx k) Try.func178 (by kernel_rfl) (by kernel_rfl) mixed tdsOk EntsOk.nil (by kernel_rfl) (Nat.le_of_ble_eq_true (by kernel_rfl)) (by kernel_rfl) (laws_eqPort.runs k) (laws_eqPort.obls k)
/-! loop.example/g00200/laws.eqPortS -/
def laws_eqPortS.l1 (k : Nat)  : Nat → Int × (List (Int × Int × Int × Int × Int)) × (List (Int × Int × Int × Int × Int)) × Unit → Option (Bool)
  | 0, _ => none
  | n + 1, (x1, x2, x3, _) => if x1 < (x2.length : Int) then (if 0 ≤ x1 then (if x1 < (x2.length : Int) then (if 0 ≤ x1 then (if x1 < (x3.length : Int) then ((laws_eqPort.f k ((el (.pair (.int .i64) (.pair (.int .i64) (.pair (.int .i64) (.pair (.int .i64) (.int .i64))))) x2 x1.toNat).1, (((el (.pair (.int .i64) (.pair (.int .i64) (.pair (.int .i64) (.pair (.int .i64) (.int .i64))))) x2 x1.toNat).2).1, ((((el (.pair (.int .i64) (.pair (.int .i64) (.pair (.int .i64) (.pair (.int .i64) (.int .i64))))) x2 x1.toNat).2).2).1, ((((el (.pair (.int .i64) (.pair (.int .i64) (.pair (.int .i64) (.pair (.int .i64) (.int .i64))))) x2 x1.toNat).2).2).2)))) ((el (.pair (.int .i64) (.pair (.int .i64) (.pair (.int .i64) (.pair (.int .i64) (.int .i64))))) x3 x1.toNat).1, (((el (.pair (.int .i64) (.pair (.int .i64) (.pair (.int .i64) (.pair (.int .i64) (.int .i64))))) x3 x1.toNat).2).1, ((((el (.pair (.int .i64) (.pair (.int .i64) (.pair (.int .i64) (.pair (.int .i64) (.int .i64))))) x3 x1.toNat).2).2).1, ((((el (.pair (.int .i64) (.pair (.int .i64) (.pair (.int .i64) (.pair (.int .i64) (.int .i64))))) x3 x1.toNat).2).2).2))))).bind fun t1 => (if ¬ t1 = true then (some false) else (laws_eqPortS.l1 k n (w64 (x1 + 1), x2, x3, ())))) else none) else none) else none) else none) else (some true)
def laws_eqPortS.f (k : Nat) (a0 : List (Int × Int × Int × Int × Int)) (a1 : List (Int × Int × Int × Int × Int)) : Option (Bool) :=
  if ¬ (a0.length : Int) = (a1.length : Int) then (some false) else (laws_eqPortS.l1 k k (0, a0, a1, ()))
def laws_eqPortS.Sl1 : Shape := ⟨[(0, false, [.own 0]), (1, false, [.own 1]), (5, false, [.int .i64])], [(0, .view false 42 (.pair (.int .i64) (.pair (.int .i64) (.pair (.int .i64) (.pair (.int .i64) (.int .i64)))))), (1, .view false 42 (.pair (.int .i64) (.pair (.int .i64) (.pair (.int .i64) (.pair (.int .i64) (.int .i64))))))], 2⟩
def laws_eqPortS.sig : Sig := ⟨[.val false (.sl 42 (.pair (.int .i64) (.pair (.int .i64) (.pair (.int .i64) (.pair (.int .i64) (.int .i64)))))) [0], .val false (.sl 42 (.pair (.int .i64) (.pair (.int .i64) (.pair (.int .i64) (.pair (.int .i64) (.int .i64)))))) [0]], [.val false .bool []]⟩
def laws_eqPortS.F (k : Nat) (x : Args laws_eqPortS.sig.ps) : Option (Res laws_eqPortS.sig) := laws_eqPortS.f k x.1 x.2.1
def laws_eqPortS.ann (k : Nat) : Ann (Res laws_eqPortS.sig) := (.seq .nil (.seq .nil (.seq (.seq .nil (.block (.loop laws_eqPortS.Sl1 (laws_eqPortS.l1 k) fun n1 => .nil))) .nil)))
def laws_eqPortS.ent : Ent := ⟨132, laws_eqPortS.sig, laws_eqPortS.F⟩
def laws_eqPortS.ctx (k : Nat) : Ctx := ⟨tds, [laws_eqPort.ent], k, 27⟩
theorem laws_eqPortS.runs (k : Nat) (x : Args laws_eqPortS.sig.ps) : laws_eqPortS.F k x = runF (laws_eqPortS.ctx k) laws_eqPortS.sig Try.f132 (Try.f132.body.getD .skip) (laws_eqPortS.ann k) x := by kernel_rfl
theorem laws_eqPortS.obls (k : Nat) : obl (laws_eqPortS.ctx k) 2 (Try.f132.body.getD .skip) (laws_eqPortS.ann k) (retK tds laws_eqPortS.sig Try.f132.results.toList) := ⟨trivial, ⟨⟨trivial, ⟨⟨trivial, trivial⟩, trivial⟩⟩, ⟨⟨trivial, ⟨⟨by kernel_rfl, fun x => by kernel_rfl⟩, fun n => ⟨fun x => by kernel_rfl, ⟨⟨trivial, ⟨trivial, trivial⟩⟩, ⟨⟨trivial, ⟨⟨trivial, trivial⟩, trivial⟩⟩, trivial⟩⟩⟩⟩⟩, ⟨trivial, trivial⟩⟩⟩⟩
theorem laws_eqPortS.ok (k : Nat) : EntOk Try.prog k laws_eqPortS.ent := fn_ok (C := laws_eqPortS.ctx k) Try.func132 (by kernel_rfl) (by kernel_rfl) mixed tdsOk (.cons (laws_eqPort.ok k) EntsOk.nil) (by kernel_rfl) (Nat.le_of_ble_eq_true (by kernel_rfl)) (by kernel_rfl) (laws_eqPortS.runs k) (laws_eqPortS.obls k)
/-! loop.example/g00200/laws.eqRule -/
def laws_eqRule.f (k : Nat) (a0 : Int × Int × Int) (a1 : Int × Int × Int) : Option (Bool) :=
  if ¬ a0.1 = a1.1 then (some false) else (if ¬ a0.2.1 = a1.2.1 then (some false) else (if ¬ a0.2.2 = a1.2.2 then (some false) else (some true)))
def laws_eqRule.sig : Sig := ⟨[.val true (.pair (.int .i64) (.pair (.int .i64) (.int .i64))) [], .val true (.pair (.int .i64) (.pair (.int .i64) (.int .i64))) []], [.val false .bool []]⟩
def laws_eqRule.F (k : Nat) (x : Args laws_eqRule.sig.ps) : Option (Res laws_eqRule.sig) := laws_eqRule.f k x.1 x.2.1
def laws_eqRule.ann (k : Nat) : Ann (Res laws_eqRule.sig) := .nil
def laws_eqRule.ent : Ent := ⟨179, laws_eqRule.sig, laws_eqRule.F⟩
def laws_eqRule.ctx (k : Nat) : Ctx := ⟨tds, [], k, 20⟩
theorem laws_eqRule.runs (k : Nat) (x : Args laws_eqRule.sig.ps) : laws_eqRule.F k x = runF (laws_eqRule.ctx k) laws_eqRule.sig Try.f179 (Try.f179.body.getD .skip) (laws_eqRule.ann k) x := by kernel_rfl
theorem laws_eqRule.obls (k : Nat) : obl (laws_eqRule.ctx k) 0 (Try.f179.body.getD .skip) (laws_eqRule.ann k) (retK tds laws_eqRule.sig Try.f179.results.toList) := ⟨trivial, ⟨⟨trivial, ⟨⟨trivial, trivial⟩, trivial⟩⟩, ⟨⟨trivial, ⟨⟨trivial, trivial⟩, trivial⟩⟩, ⟨⟨trivial, ⟨⟨trivial, trivial⟩, trivial⟩⟩, ⟨trivial, trivial⟩⟩⟩⟩⟩
theorem laws_eqRule.ok (k : Nat) : EntOk Try.prog k laws_eqRule.ent := fn_ok (C := laws_eqRule.ctx k) Try.func179 (by kernel_rfl) (by kernel_rfl) mixed tdsOk EntsOk.nil (by kernel_rfl) (Nat.le_of_ble_eq_true (by kernel_rfl)) (by kernel_rfl) (laws_eqRule.runs k) (laws_eqRule.obls k)
/-! loop.example/g00200/laws.eqRuleS -/
def laws_eqRuleS.l1 (k : Nat)  : Nat → Int × (List (Int × Int × Int)) × (List (Int × Int × Int)) × Unit → Option (Bool)
  | 0, _ => none
  | n + 1, (x1, x2, x3, _) => if x1 < (x2.length : Int) then (if 0 ≤ x1 then (if x1 < (x2.length : Int) then (if 0 ≤ x1 then (if x1 < (x3.length : Int) then ((laws_eqRule.f k ((el (.pair (.int .i64) (.pair (.int .i64) (.int .i64))) x2 x1.toNat).1, ((el (.pair (.int .i64) (.pair (.int .i64) (.int .i64))) x2 x1.toNat).2)) ((el (.pair (.int .i64) (.pair (.int .i64) (.int .i64))) x3 x1.toNat).1, ((el (.pair (.int .i64) (.pair (.int .i64) (.int .i64))) x3 x1.toNat).2))).bind fun t1 => (if ¬ t1 = true then (some false) else (laws_eqRuleS.l1 k n (w64 (x1 + 1), x2, x3, ())))) else none) else none) else none) else none) else (some true)
def laws_eqRuleS.f (k : Nat) (a0 : List (Int × Int × Int)) (a1 : List (Int × Int × Int)) : Option (Bool) :=
  if ¬ (a0.length : Int) = (a1.length : Int) then (some false) else (laws_eqRuleS.l1 k k (0, a0, a1, ()))
def laws_eqRuleS.Sl1 : Shape := ⟨[(0, false, [.own 0]), (1, false, [.own 1]), (5, false, [.int .i64])], [(0, .view false 40 (.pair (.int .i64) (.pair (.int .i64) (.int .i64)))), (1, .view false 40 (.pair (.int .i64) (.pair (.int .i64) (.int .i64))))], 2⟩
def laws_eqRuleS.sig : Sig := ⟨[.val false (.sl 40 (.pair (.int .i64) (.pair (.int .i64) (.int .i64)))) [0], .val false (.sl 40 (.pair (.int .i64) (.pair (.int .i64) (.int .i64)))) [0]], [.val false .bool []]⟩
def laws_eqRuleS.F (k : Nat) (x : Args laws_eqRuleS.sig.ps) : Option (Res laws_eqRuleS.sig) := laws_eqRuleS.f k x.1 x.2.1
def laws_eqRuleS.ann (k : Nat) : Ann (Res laws_eqRuleS.sig) := (.seq .nil (.seq .nil (.seq (.seq .nil (.block (.loop laws_eqRuleS.Sl1 (laws_eqRuleS.l1 k) fun n1 => .nil))) .nil)))
def laws_eqRuleS.ent : Ent := ⟨133, laws_eqRuleS.sig, laws_eqRuleS.F⟩
def laws_eqRuleS.ctx (k : Nat) : Ctx := ⟨tds, [laws_eqRule.ent], k, 27⟩
theorem laws_eqRuleS.runs (k : Nat) (x : Args laws_eqRuleS.sig.ps) : laws_eqRuleS.F k x = runF (laws_eqRuleS.ctx k) laws_eqRuleS.sig Try.f133 (Try.f133.body.getD .skip) (laws_eqRuleS.ann k) x := by kernel_rfl
theorem laws_eqRuleS.obls (k : Nat) : obl (laws_eqRuleS.ctx k) 2 (Try.f133.body.getD .skip) (laws_eqRuleS.ann k) (retK tds laws_eqRuleS.sig Try.f133.results.toList) := ⟨trivial, ⟨⟨trivial, ⟨⟨trivial, trivial⟩, trivial⟩⟩, ⟨⟨trivial, ⟨⟨by kernel_rfl, fun x => by kernel_rfl⟩, fun n => ⟨fun x => by kernel_rfl, ⟨⟨trivial, ⟨trivial, trivial⟩⟩, ⟨⟨trivial, ⟨⟨trivial, trivial⟩, trivial⟩⟩, trivial⟩⟩⟩⟩⟩, ⟨trivial, trivial⟩⟩⟩⟩
theorem laws_eqRuleS.ok (k : Nat) : EntOk Try.prog k laws_eqRuleS.ent := fn_ok (C := laws_eqRuleS.ctx k) Try.func133 (by kernel_rfl) (by kernel_rfl) mixed tdsOk (.cons (laws_eqRule.ok k) EntsOk.nil) (by kernel_rfl) (Nat.le_of_ble_eq_true (by kernel_rfl)) (by kernel_rfl) (laws_eqRuleS.runs k) (laws_eqRuleS.obls k)
/-! loop.example/g00200/laws.eqStringS -/
def laws_eqStringS.l1 (k : Nat)  : Nat → Int × List ByteArray × List ByteArray × Unit → Option (Bool)
  | 0, _ => none
  | n + 1, (x1, x2, x3, _) => if x1 < (x2.length : Int) then (if 0 ≤ x1 then (if x1 < (x2.length : Int) then (if 0 ≤ x1 then (if x1 < (x3.length : Int) then (if ¬ (el .str x2 x1.toNat) = (el .str x3 x1.toNat) then (some false) else (laws_eqStringS.l1 k n (w64 (x1 + 1), x2, x3, ()))) else none) else none) else none) else none) else (some true)
def laws_eqStringS.f (k : Nat) (a0 : List ByteArray) (a1 : List ByteArray) : Option (Bool) :=
  if ¬ (a0.length : Int) = (a1.length : Int) then (some false) else (laws_eqStringS.l1 k k (0, a0, a1, ()))
def laws_eqStringS.Sl1 : Shape := ⟨[(0, false, [.own 0]), (1, false, [.own 1]), (5, false, [.int .i64])], [(0, .view false 9 .str), (1, .view false 9 .str)], 2⟩
def laws_eqStringS.sig : Sig := ⟨[.val false (.sl 9 .str) [0], .val false (.sl 9 .str) [0]], [.val false .bool []]⟩
def laws_eqStringS.F (k : Nat) (x : Args laws_eqStringS.sig.ps) : Option (Res laws_eqStringS.sig) := laws_eqStringS.f k x.1 x.2.1
def laws_eqStringS.ann (k : Nat) : Ann (Res laws_eqStringS.sig) := (.seq .nil (.seq .nil (.seq (.seq .nil (.block (.loop laws_eqStringS.Sl1 (laws_eqStringS.l1 k) fun n1 => .nil))) .nil)))
def laws_eqStringS.ent : Ent := ⟨134, laws_eqStringS.sig, laws_eqStringS.F⟩
def laws_eqStringS.ctx (k : Nat) : Ctx := ⟨tds, [], k, 26⟩
theorem laws_eqStringS.runs (k : Nat) (x : Args laws_eqStringS.sig.ps) : laws_eqStringS.F k x = runF (laws_eqStringS.ctx k) laws_eqStringS.sig Try.f134 (Try.f134.body.getD .skip) (laws_eqStringS.ann k) x := by kernel_rfl
theorem laws_eqStringS.obls (k : Nat) : obl (laws_eqStringS.ctx k) 2 (Try.f134.body.getD .skip) (laws_eqStringS.ann k) (retK tds laws_eqStringS.sig Try.f134.results.toList) := ⟨trivial, ⟨⟨trivial, ⟨⟨trivial, trivial⟩, trivial⟩⟩, ⟨⟨trivial, ⟨⟨by kernel_rfl, fun x => by kernel_rfl⟩, fun n => ⟨fun x => by kernel_rfl, ⟨⟨trivial, ⟨trivial, trivial⟩⟩, ⟨⟨trivial, ⟨⟨trivial, trivial⟩, trivial⟩⟩, trivial⟩⟩⟩⟩⟩, ⟨trivial, trivial⟩⟩⟩⟩
theorem laws_eqStringS.ok (k : Nat) : EntOk Try.prog k laws_eqStringS.ent := fn_ok (C := laws_eqStringS.ctx k) Try.func134 (by kernel_rfl) (by kernel_rfl) mixed tdsOk EntsOk.nil (by kernel_rfl) (Nat.le_of_ble_eq_true (by kernel_rfl)) (by kernel_rfl) (laws_eqStringS.runs k) (laws_eqStringS.obls k)
/-! loop.example/g00200/laws.eqSetup -/
def laws_eqSetup.f (k : Nat) (a0 : List (Int × Int) × List (Int × Int) × List (Int × Int × Int × Int × Int) × List (Int × Int × Int) × List ByteArray) (a1 : List (Int × Int) × List (Int × Int) × List (Int × Int × Int × Int × Int) × List (Int × Int × Int) × List ByteArray) : Option (Bool) :=
  (laws_eqRegionS.f k a0.1 a1.1).bind fun t1 => (if ¬ t1 = true then (some false) else ((laws_eqWindowS.f k a0.2.1 a1.2.1).bind fun t2 => (if ¬ t2 = true then (some false) else ((laws_eqPortS.f k a0.2.2.1 a1.2.2.1).bind fun t3 => (if ¬ t3 = true then (some false) else ((laws_eqRuleS.f k a0.2.2.2.1 a1.2.2.2.1).bind fun t4 => (if ¬ t4 = true then (some false) else ((laws_eqStringS.f k a0.2.2.2.2 a1.2.2.2.2).bind fun t5 => (if ¬ t5 = true then (some false) else (some true))))))))))
def laws_eqSetup.sig : Sig := ⟨[.val true (.pair (.sl 53 (.pair (.int .i64) (.int .i64))) (.pair (.sl 35 (.pair (.int .i64) (.int .i64))) (.pair (.sl 42 (.pair (.int .i64) (.pair (.int .i64) (.pair (.int .i64) (.pair (.int .i64) (.int .i64)))))) (.pair (.sl 40 (.pair (.int .i64) (.pair (.int .i64) (.int .i64)))) (.sl 9 .str))))) [0, 0, 0, 0, 0], .val true (.pair (.sl 53 (.pair (.int .i64) (.int .i64))) (.pair (.sl 35 (.pair (.int .i64) (.int .i64))) (.pair (.sl 42 (.pair (.int .i64) (.pair (.int .i64) (.pair (.int .i64) (.pair (.int .i64) (.int .i64)))))) (.pair (.sl 40 (.pair (.int .i64) (.pair (.int .i64) (.int .i64)))) (.sl 9 .str))))) [0, 0, 0, 0, 0]], [.val false .bool []]⟩
def laws_eqSetup.F (k : Nat) (x : Args laws_eqSetup.sig.ps) : Option (Res laws_eqSetup.sig) := laws_eqSetup.f k x.1 x.2.1
def laws_eqSetup.ann (k : Nat) : Ann (Res laws_eqSetup.sig) := .nil
def laws_eqSetup.ent : Ent := ⟨54, laws_eqSetup.sig, laws_eqSetup.F⟩
def laws_eqSetup.ctx (k : Nat) : Ctx := ⟨tds, [laws_eqRegionS.ent, laws_eqWindowS.ent, laws_eqPortS.ent, laws_eqRuleS.ent, laws_eqStringS.ent], k, 35⟩
theorem laws_eqSetup.runs (k : Nat) (x : Args laws_eqSetup.sig.ps) : laws_eqSetup.F k x = runF (laws_eqSetup.ctx k) laws_eqSetup.sig Try.f54 (Try.f54.body.getD .skip) (laws_eqSetup.ann k) x := by kernel_rfl
theorem laws_eqSetup.obls (k : Nat) : obl (laws_eqSetup.ctx k) 10 (Try.f54.body.getD .skip) (laws_eqSetup.ann k) (retK tds laws_eqSetup.sig Try.f54.results.toList) := ⟨trivial, ⟨⟨trivial, ⟨⟨trivial, trivial⟩, trivial⟩⟩, ⟨⟨trivial, ⟨⟨trivial, trivial⟩, trivial⟩⟩, ⟨⟨trivial, ⟨⟨trivial, trivial⟩, trivial⟩⟩, ⟨⟨trivial, ⟨⟨trivial, trivial⟩, trivial⟩⟩, ⟨⟨trivial, ⟨⟨trivial, trivial⟩, trivial⟩⟩, ⟨trivial, trivial⟩⟩⟩⟩⟩⟩⟩
theorem laws_eqSetup.ok (k : Nat) : EntOk Try.prog k laws_eqSetup.ent := fn_ok (C := laws_eqSetup.ctx k) Try.func54 (by kernel_rfl) (by kernel_rfl) mixed tdsOk (.cons (laws_eqRegionS.ok k) (.cons (laws_eqWindowS.ok k) (.cons (laws_eqPortS.ok k) (.cons (laws_eqRuleS.ok k) (.cons (laws_eqStringS.ok k) EntsOk.nil))))) (by kernel_rfl) (Nat.le_of_ble_eq_true (by kernel_rfl)) (by kernel_rfl) (laws_eqSetup.runs k) (laws_eqSetup.obls k)
end Go.Proofs.Ytcnaldcinkmpbaa.QA
