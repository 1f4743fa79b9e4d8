/- The plain functions of Go functions, and that each Go function does what its plain function tells. Printed by a program of this session (gen.py). -/
import Derived.Test.YtcnaldcinkmpbaaProg
import Derived.Test.YtcnaldcinkmpbaaAbDa
import Derived.KernelRfl
namespace Go.Proofs.Ytcnaldcinkmpbaa.QA
open Go Go.Proofs Go.Proofs.YtcnaldcinkmpbaaA
set_option linter.unusedVariables false
set_option maxRecDepth 100000
def tds : List (Nat × TD) := [(2, ⟨.int .i64, 1, 8, (.int .i64), false, false⟩),
  (3, ⟨.int .i64, 1, 8, (.int .i64), false, false⟩),
  (4, ⟨.bool, 1, 1, .bool, false, false⟩),
  (5, ⟨.int .u8, 1, 1, (.int .u8), false, false⟩),
  (6, ⟨.int .u8, 1, 1, (.int .u8), false, false⟩),
  (7, ⟨.struct [(0, 2), (1, 3), (2, 4), (3, 6)], 4, 24, (.pair (.int .i64) (.pair (.int .i64) (.pair .bool (.int .u8)))), true, false⟩),
  (8, ⟨.struct [(0, 2), (1, 3), (2, 4), (3, 6)], 4, 24, (.pair (.int .i64) (.pair (.int .i64) (.pair .bool (.int .u8)))), true, false⟩),
  (9, ⟨.str, 1, 16, .str, false, false⟩),
  (10, ⟨.str, 1, 16, .str, false, false⟩),
  (11, ⟨.str, 1, 16, .str, false, false⟩),
  (12, ⟨.int .u64, 1, 8, (.int .u64), false, false⟩),
  (13, ⟨.struct [(0, 9), (1, 12)], 2, 24, (.pair .str (.int .u64)), true, false⟩),
  (14, ⟨.struct [(0, 9), (1, 12)], 2, 24, (.pair .str (.int .u64)), true, false⟩),
  (21, ⟨.int .i32, 1, 4, (.int .i32), false, false⟩),
  (22, ⟨.slice 5, 1, 24, (.sl 5 (.int .u8)), false, false⟩),
  (24, ⟨.slice 53, 1, 24, (.sl 53 (.pair (.int .i64) (.int .i64))), false, false⟩),
  (25, ⟨.slice 35, 1, 24, (.sl 35 (.pair (.int .i64) (.int .i64))), false, false⟩),
  (26, ⟨.slice 42, 1, 24, (.sl 42 (.pair (.int .i64) (.pair (.int .i64) (.pair (.int .i64) (.pair (.int .i64) (.int .i64)))))), false, false⟩),
  (27, ⟨.slice 40, 1, 24, (.sl 40 (.pair (.int .i64) (.pair (.int .i64) (.int .i64)))), false, false⟩),
  (28, ⟨.slice 9, 1, 24, (.sl 9 .str), false, false⟩),
  (29, ⟨.struct [(0, 24), (1, 25), (2, 26), (3, 27), (4, 28)], 5, 120, (.pair (.sl 53 (.pair (.int .i64) (.int .i64))) (.pair (.sl 35 (.pair (.int .i64) (.int .i64))) (.pair (.sl 42 (.pair (.int .i64) (.pair (.int .i64) (.pair (.int .i64) (.pair (.int .i64) (.int .i64)))))) (.pair (.sl 40 (.pair (.int .i64) (.pair (.int .i64) (.int .i64)))) (.sl 9 .str))))), true, false⟩),
  (30, ⟨.struct [(0, 24), (1, 25), (2, 26), (3, 27), (4, 28)], 5, 120, (.pair (.sl 53 (.pair (.int .i64) (.int .i64))) (.pair (.sl 35 (.pair (.int .i64) (.int .i64))) (.pair (.sl 42 (.pair (.int .i64) (.pair (.int .i64) (.pair (.int .i64) (.pair (.int .i64) (.int .i64)))))) (.pair (.sl 40 (.pair (.int .i64) (.pair (.int .i64) (.int .i64)))) (.sl 9 .str))))), true, false⟩),
  (32, ⟨.slice 3, 1, 24, (.sl 3 (.int .i64)), false, false⟩),
  (34, ⟨.struct [(0, 3), (1, 3)], 2, 16, (.pair (.int .i64) (.int .i64)), true, false⟩),
  (35, ⟨.struct [(0, 3), (1, 3)], 2, 16, (.pair (.int .i64) (.int .i64)), true, false⟩),
  (39, ⟨.struct [(0, 3), (1, 3), (2, 3)], 3, 24, (.pair (.int .i64) (.pair (.int .i64) (.int .i64))), true, false⟩),
  (40, ⟨.struct [(0, 3), (1, 3), (2, 3)], 3, 24, (.pair (.int .i64) (.pair (.int .i64) (.int .i64))), true, false⟩),
  (41, ⟨.struct [(0, 3), (1, 3), (2, 3), (3, 3), (4, 3)], 5, 40, (.pair (.int .i64) (.pair (.int .i64) (.pair (.int .i64) (.pair (.int .i64) (.int .i64))))), true, false⟩),
  (42, ⟨.struct [(0, 3), (1, 3), (2, 3), (3, 3), (4, 3)], 5, 40, (.pair (.int .i64) (.pair (.int .i64) (.pair (.int .i64) (.pair (.int .i64) (.int .i64))))), true, false⟩),
  (44, ⟨.slice 46, 1, 24, (.sl 46 (.pair (.int .i64) (.int .i64))), false, false⟩),
  (45, ⟨.struct [(0, 3), (1, 3)], 2, 16, (.pair (.int .i64) (.int .i64)), true, false⟩),
  (46, ⟨.struct [(0, 3), (1, 3)], 2, 16, (.pair (.int .i64) (.int .i64)), true, false⟩),
  (49, ⟨.struct [(0, 32)], 1, 24, (.sl 3 (.int .i64)), true, false⟩),
  (50, ⟨.struct [(0, 32)], 1, 24, (.sl 3 (.int .i64)), true, false⟩),
  (52, ⟨.struct [(0, 3), (1, 3)], 2, 16, (.pair (.int .i64) (.int .i64)), true, false⟩),
  (53, ⟨.struct [(0, 3), (1, 3)], 2, 16, (.pair (.int .i64) (.int .i64)), true, false⟩),
  (58, ⟨.struct [(0, 3), (1, 32)], 2, 32, (.pair (.int .i64) (.sl 3 (.int .i64))), true, false⟩),
  (59, ⟨.struct [(0, 3), (1, 32)], 2, 32, (.pair (.int .i64) (.sl 3 (.int .i64))), true, false⟩),
  (62, ⟨.struct [(0, 3), (1, 3), (2, 3), (3, 3)], 4, 32, (.pair (.int .i64) (.pair (.int .i64) (.pair (.int .i64) (.int .i64)))), true, false⟩),
  (63, ⟨.struct [(0, 3), (1, 3), (2, 3), (3, 3)], 4, 32, (.pair (.int .i64) (.pair (.int .i64) (.pair (.int .i64) (.int .i64)))), true, false⟩),
  (71, ⟨.struct [(0, 3), (1, 32)], 2, 32, (.pair (.int .i64) (.sl 3 (.int .i64))), true, false⟩),
  (72, ⟨.slice 145, 1, 24, (.sl 145 (.pair (.int .i64) (.int .i64))), false, false⟩),
  (73, ⟨.struct [(0, 32)], 1, 24, (.sl 3 (.int .i64)), true, false⟩),
  (74, ⟨.struct [(0, 3), (1, 3)], 2, 16, (.pair (.int .i64) (.int .i64)), true, false⟩),
  (89, ⟨.slice 74, 1, 24, (.sl 74 (.pair (.int .i64) (.int .i64))), false, false⟩),
  (90, ⟨.slice 193, 1, 24, (.sl 193 (.pair (.int .i64) (.int .i64))), false, false⟩),
  (91, ⟨.slice 195, 1, 24, (.sl 195 (.pair (.int .i64) (.pair (.int .i64) (.pair (.int .i64) (.pair (.int .i64) (.int .i64)))))), false, false⟩),
  (92, ⟨.slice 197, 1, 24, (.sl 197 (.pair (.int .i64) (.pair (.int .i64) (.int .i64)))), false, false⟩),
  (93, ⟨.struct [(0, 89), (1, 90), (2, 91), (3, 92), (4, 28)], 5, 120, (.pair (.sl 74 (.pair (.int .i64) (.int .i64))) (.pair (.sl 193 (.pair (.int .i64) (.int .i64))) (.pair (.sl 195 (.pair (.int .i64) (.pair (.int .i64) (.pair (.int .i64) (.pair (.int .i64) (.int .i64)))))) (.pair (.sl 197 (.pair (.int .i64) (.pair (.int .i64) (.int .i64)))) (.sl 9 .str))))), true, false⟩),
  (94, ⟨.struct [(0, 89), (1, 90), (2, 91), (3, 92), (4, 28)], 5, 120, (.pair (.sl 74 (.pair (.int .i64) (.int .i64))) (.pair (.sl 193 (.pair (.int .i64) (.int .i64))) (.pair (.sl 195 (.pair (.int .i64) (.pair (.int .i64) (.pair (.int .i64) (.pair (.int .i64) (.int .i64)))))) (.pair (.sl 197 (.pair (.int .i64) (.pair (.int .i64) (.int .i64)))) (.sl 9 .str))))), true, false⟩),
  (145, ⟨.struct [(0, 3), (1, 3)], 2, 16, (.pair (.int .i64) (.int .i64)), true, false⟩),
  (170, ⟨.struct [(0, 9), (1, 3), (2, 4)], 3, 32, (.pair .str (.pair (.int .i64) .bool)), true, false⟩),
  (171, ⟨.struct [(0, 9), (1, 3), (2, 4)], 3, 32, (.pair .str (.pair (.int .i64) .bool)), true, false⟩),
  (175, ⟨.struct [(0, 9), (1, 3), (2, 4)], 3, 32, (.pair .str (.pair (.int .i64) .bool)), true, false⟩),
  (176, ⟨.struct [(0, 9), (1, 3), (2, 4)], 3, 32, (.pair .str (.pair (.int .i64) .bool)), true, false⟩),
  (187, ⟨.struct [(0, 22), (1, 3), (2, 3)], 3, 40, (.pair (.sl 5 (.int .u8)) (.pair (.int .i64) (.int .i64))), true, false⟩),
  (188, ⟨.struct [(0, 22), (1, 3), (2, 3)], 3, 40, (.pair (.sl 5 (.int .u8)) (.pair (.int .i64) (.int .i64))), true, false⟩),
  (189, ⟨.int .u64, 1, 8, (.int .u64), false, false⟩),
  (193, ⟨.struct [(0, 3), (1, 3)], 2, 16, (.pair (.int .i64) (.int .i64)), true, false⟩),
  (195, ⟨.struct [(0, 3), (1, 3), (2, 3), (3, 3), (4, 3)], 5, 40, (.pair (.int .i64) (.pair (.int .i64) (.pair (.int .i64) (.pair (.int .i64) (.int .i64))))), true, false⟩),
  (197, ⟨.struct [(0, 3), (1, 3), (2, 3)], 3, 24, (.pair (.int .i64) (.pair (.int .i64) (.int .i64))), true, false⟩),
  (218, ⟨.int .u32, 1, 4, (.int .u32), false, false⟩),
  (219, ⟨.int .u8, 1, 1, (.int .u8), false, false⟩),
  (220, ⟨.int .u8, 1, 1, (.int .u8), false, false⟩),
  (223, ⟨.int .i32, 1, 4, (.int .i32), false, false⟩),
  (224, ⟨.int .i32, 1, 4, (.int .i32), false, false⟩)]
theorem mixed : Try.prog.follows .mixedOrders = true := by kernel_rfl
theorem tdsOk : TdsOk Try.prog tds := tds_ok (by kernel_rfl) (by kernel_rfl)
def w64 (z : Int) : Int := IntKind.i64.wrap z
/-! loop.example/g00200/laws.big -/
def laws_big.f (k : Nat) (a0 : List Int) : Option (Bool) :=
  some (decide (1048576 < (a0.length : Int)))
def laws_big.sig : Sig := ⟨[.val false (.sl 5 (.int .u8)) [0]], [.val false .bool []]⟩
def laws_big.F (k : Nat) (x : Args laws_big.sig.ps) : Option (Res laws_big.sig) := laws_big.f k x.1
def laws_big.ann (k : Nat) : Ann (Res laws_big.sig) := .nil
def laws_big.ent : Ent := ⟨14, laws_big.sig, laws_big.F⟩
def laws_big.ctx (k : Nat) : Ctx := ⟨tds, [], k, 6⟩
theorem laws_big.runs (k : Nat) (x : Args laws_big.sig.ps) : laws_big.F k x = runF (laws_big.ctx k) laws_big.sig Try.f14 (Try.f14.body.getD .skip) (laws_big.ann k) x := by kernel_rfl
theorem laws_big.obls (k : Nat) : obl (laws_big.ctx k) 1 (Try.f14.body.getD .skip) (laws_big.ann k) (retK tds laws_big.sig Try.f14.results.toList) := ⟨trivial, ⟨trivial, trivial⟩⟩
theorem laws_big.ok (k : Nat) : EntOk Try.prog k laws_big.ent := fn_ok (C := laws_big.ctx k) Try.func14 (by kernel_rfl) (by kernel_rfl) mixed tdsOk EntsOk.nil (by kernel_rfl) (Nat.le_of_ble_eq_true (by kernel_rfl)) (by kernel_rfl) (laws_big.runs k) (laws_big.obls k)
/-! loop.example/g00200/spec.l01New -/
def spec_l01New.l1 (k : Nat)  : Nat → Int × Int × List Int × Unit → Option (List Int × Int × Int)
  | 0, _ => none
  | n + 1, (x1, x2, x3, _) => if x2 < (x3.length : Int) then (if x2 < 4000 then (if 0 ≤ x2 then (if x2 < (x3.length : Int) then (spec_l01New.l1 k n (bits .and .i64 (w64 ((w64 ((w64 (x1 * 131)) + (w64 (el (.int .u8) x3 x2.toNat)))) + 7)) 1073741823, w64 (x2 + 1), x3, ())) else none) else none) else (some (x3, (0, x1)))) else (some (x3, (0, x1)))
def spec_l01New.f (k : Nat) (a0 : List Int) : Option (List Int × Int × Int) :=
  spec_l01New.l1 k k (w64 (37101 + (a0.length : Int)), 0, a0, ())
def spec_l01New.Sl1 : Shape := ⟨[(0, false, [.own 0]), (3, false, [.int .i64]), (4, false, [.int .i64])], [(0, .view false 5 (.int .u8))], 1⟩
def spec_l01New.sig : Sig := ⟨[.val false (.sl 5 (.int .u8)) [0]], [.ptr 188 (.pair (.sl 5 (.int .u8)) (.pair (.int .i64) (.int .i64))) [some 0]]⟩
def spec_l01New.F (k : Nat) (x : Args spec_l01New.sig.ps) : Option (Res spec_l01New.sig) := spec_l01New.f k x.1
def spec_l01New.ann (k : Nat) : Ann (Res spec_l01New.sig) := (.seq .nil (.seq .nil (.seq (.seq .nil (.block (.loop spec_l01New.Sl1 (spec_l01New.l1 k) fun n1 => .nil))) .nil)))
def spec_l01New.ent : Ent := ⟨66, spec_l01New.sig, spec_l01New.F⟩
def spec_l01New.ctx (k : Nat) : Ctx := ⟨tds, [], k, 32⟩
theorem spec_l01New.runs (k : Nat) (x : Args spec_l01New.sig.ps) : spec_l01New.F k x = runF (spec_l01New.ctx k) spec_l01New.sig Try.f66 (Try.f66.body.getD .skip) (spec_l01New.ann k) x := by kernel_rfl
theorem spec_l01New.obls (k : Nat) : obl (spec_l01New.ctx k) 1 (Try.f66.body.getD .skip) (spec_l01New.ann k) (retK tds spec_l01New.sig Try.f66.results.toList) := ⟨trivial, ⟨trivial, ⟨⟨trivial, ⟨⟨by kernel_rfl, fun x => by kernel_rfl⟩, fun n => ⟨fun x => by kernel_rfl, ⟨⟨trivial, ⟨trivial, trivial⟩⟩, ⟨trivial, trivial⟩⟩⟩⟩⟩, ⟨trivial, trivial⟩⟩⟩⟩
theorem spec_l01New.ok (k : Nat) : EntOk Try.prog k spec_l01New.ent := fn_ok (C := spec_l01New.ctx k) Try.func66 (by kernel_rfl) (by kernel_rfl) mixed tdsOk EntsOk.nil (by kernel_rfl) (Nat.le_of_ble_eq_true (by kernel_rfl)) (by kernel_rfl) (spec_l01New.runs k) (spec_l01New.obls k)
/-! loop.example/g00200/spec.l01Byte -/
def spec_l01Byte.f (k : Nat) (a0 : List Int × Int × Int) : Option (Int × List Int × Int × Int) :=
  if a0.2.1 < (a0.1.length : Int) then (if 0 ≤ a0.2.1 then (if a0.2.1 < (a0.1.length : Int) then (some (bits .and .i64 (w64 ((bits .and .i64 (bits .xor .i64 ((w64 ((w64 (a0.2.2 * 6364136223846793005)) + 1442695040888963407)) / 8589934592) ((w64 ((w64 (a0.2.2 * 6364136223846793005)) + 1442695040888963407)) / 35184372088832)) 255) + (w64 (el (.int .u8) a0.1 a0.2.1.toNat)))) 255, (a0.1, (w64 (a0.2.1 + 1), w64 ((w64 (a0.2.2 * 6364136223846793005)) + 1442695040888963407))))) else none) else none) else (some (bits .and .i64 (bits .xor .i64 ((w64 ((w64 (a0.2.2 * 6364136223846793005)) + 1442695040888963407)) / 8589934592) ((w64 ((w64 (a0.2.2 * 6364136223846793005)) + 1442695040888963407)) / 35184372088832)) 255, (a0.1, (a0.2.1, w64 ((w64 (a0.2.2 * 6364136223846793005)) + 1442695040888963407)))))
def spec_l01Byte.sig : Sig := ⟨[.ptr 188 (.pair (.sl 5 (.int .u8)) (.pair (.int .i64) (.int .i64))) [0]], [.val false (.int .i64) []]⟩
def spec_l01Byte.F (k : Nat) (x : Args spec_l01Byte.sig.ps) : Option (Res spec_l01Byte.sig) := spec_l01Byte.f k x.1
def spec_l01Byte.ann (k : Nat) : Ann (Res spec_l01Byte.sig) := .nil
def spec_l01Byte.ent : Ent := ⟨67, spec_l01Byte.sig, spec_l01Byte.F⟩
def spec_l01Byte.ctx (k : Nat) : Ctx := ⟨tds, [], k, 58⟩
theorem spec_l01Byte.runs (k : Nat) (x : Args spec_l01Byte.sig.ps) : spec_l01Byte.F k x = runF (spec_l01Byte.ctx k) spec_l01Byte.sig Try.f67 (Try.f67.body.getD .skip) (spec_l01Byte.ann k) x := by kernel_rfl
theorem spec_l01Byte.obls (k : Nat) : obl (spec_l01Byte.ctx k) 2 (Try.f67.body.getD .skip) (spec_l01Byte.ann k) (retK tds spec_l01Byte.sig Try.f67.results.toList) := ⟨trivial, ⟨trivial, ⟨trivial, ⟨⟨trivial, ⟨⟨trivial, trivial⟩, trivial⟩⟩, ⟨trivial, trivial⟩⟩⟩⟩⟩
theorem spec_l01Byte.ok (k : Nat) : EntOk Try.prog k spec_l01Byte.ent := fn_ok (C := spec_l01Byte.ctx k) Try.func67 (by kernel_rfl) (by kernel_rfl) mixed tdsOk EntsOk.nil (by kernel_rfl) (Nat.le_of_ble_eq_true (by kernel_rfl)) (by kernel_rfl) (spec_l01Byte.runs k) (spec_l01Byte.obls k)
/-! loop.example/g00200/spec.l01Below -/
def spec_l01Below.f (k : Nat) (a0 : List Int × Int × Int) (a1 : Int) : Option (Int × List Int × Int × Int) :=
  if a1 ≤ 0 then (some (0, a0)) else (if a1 ≤ 256 then ((spec_l01Byte.f k a0).bind fun t1 => (if ¬ a1 = 0 then (some (Int.tmod t1.1 a1, (a0.1, t1.2.2))) else none)) else ((spec_l01Byte.f k a0).bind fun t2 => ((spec_l01Byte.f k (a0.1, t2.2.2)).bind fun t3 => ((spec_l01Byte.f k (a0.1, t3.2.2)).bind fun t4 => ((spec_l01Byte.f k (a0.1, t4.2.2)).bind fun t5 => (if ¬ a1 = 0 then (some (Int.tmod (w64 ((w64 ((w64 ((w64 (t2.1 * 16777216)) + (w64 (t3.1 * 65536)))) + (w64 (t4.1 * 256)))) + t5.1)) a1, (a0.1, t5.2.2))) else none))))))
def spec_l01Below.sig : Sig := ⟨[.ptr 188 (.pair (.sl 5 (.int .u8)) (.pair (.int .i64) (.int .i64))) [0], .val false (.int .i64) []], [.val false (.int .i64) []]⟩
def spec_l01Below.F (k : Nat) (x : Args spec_l01Below.sig.ps) : Option (Res spec_l01Below.sig) := spec_l01Below.f k x.1 x.2.1
def spec_l01Below.ann (k : Nat) : Ann (Res spec_l01Below.sig) := .nil
def spec_l01Below.ent : Ent := ⟨68, spec_l01Below.sig, spec_l01Below.F⟩
def spec_l01Below.ctx (k : Nat) : Ctx := ⟨tds, [spec_l01Byte.ent], k, 37⟩
theorem spec_l01Below.runs (k : Nat) (x : Args spec_l01Below.sig.ps) : spec_l01Below.F k x = runF (spec_l01Below.ctx k) spec_l01Below.sig Try.f68 (Try.f68.body.getD .skip) (spec_l01Below.ann k) x := by kernel_rfl
theorem spec_l01Below.obls (k : Nat) : obl (spec_l01Below.ctx k) 2 (Try.f68.body.getD .skip) (spec_l01Below.ann k) (retK tds spec_l01Below.sig Try.f68.results.toList) := ⟨trivial, ⟨⟨trivial, ⟨⟨trivial, trivial⟩, trivial⟩⟩, ⟨⟨trivial, ⟨⟨trivial, trivial⟩, trivial⟩⟩, ⟨trivial, ⟨trivial, ⟨trivial, ⟨trivial, ⟨trivial, trivial⟩⟩⟩⟩⟩⟩⟩⟩
theorem spec_l01Below.ok (k : Nat) : EntOk Try.prog k spec_l01Below.ent := fn_ok (C := spec_l01Below.ctx k) Try.func68 (by kernel_rfl) (by kernel_rfl) mixed tdsOk (.cons (spec_l01Byte.ok k) EntsOk.nil) (by kernel_rfl) (Nat.le_of_ble_eq_true (by kernel_rfl)) (by kernel_rfl) (spec_l01Below.runs k) (spec_l01Below.obls k)
/-! loop.example/g00200/spec.DrawPlaces -/
def spec_DrawPlaces.l1 (k : Nat)  : Nat → Int × Int × Int × List Int × List Int × Unit → Option (List Int)
  | 0, _ => none
  | n + 1, (x1, x2, x3, x4, x5, _) => if x1 < 12 then ((spec_l01Below.f k (x4, (x2, x3)) 10000).bind fun t4 => (((some ([t4.1] : List Int))).bind fun y5 => (if (x5.length + y5.length) * 8 ≤ 140737488355328 then (((some (x5 ++ y5))).bind fun y6 => (spec_DrawPlaces.l1 k n (w64 (x1 + 1), t4.2.2.1, t4.2.2.2, x4, y6, ()))) else none))) else (some x5)
def spec_DrawPlaces.f (k : Nat) (a0 : List Int) : Option (List Int) :=
  (spec_l01New.f k a0).bind fun t1 => ((spec_l01Byte.f k (a0, t1.2)).bind fun t2 => (((some ([] : List Int))).bind fun y3 => (spec_DrawPlaces.l1 k k (0, t2.2.2.1, t2.2.2.2, a0, y3, ()))))
def spec_DrawPlaces.Sl1 : Shape := ⟨[(3, false, [.ptr 1 0]), (4, false, [.own 2]), (5, false, [.int .i64])], [(1, .blk 188 [.own 0, .int .i64, .int .i64]), (0, .view false 5 (.int .u8)), (2, .row 3 (.int .i64))], 3⟩
def spec_DrawPlaces.sig : Sig := ⟨[.val false (.sl 5 (.int .u8)) [0]], [.val false (.sl 3 (.int .i64)) [none]]⟩
def spec_DrawPlaces.F (k : Nat) (x : Args spec_DrawPlaces.sig.ps) : Option (Res spec_DrawPlaces.sig) := spec_DrawPlaces.f k x.1
def spec_DrawPlaces.ann (k : Nat) : Ann (Res spec_DrawPlaces.sig) := (.seq .nil (.seq .nil (.seq .nil (.seq .nil (.seq (.seq .nil (.block (.loop spec_DrawPlaces.Sl1 (spec_DrawPlaces.l1 k) fun n1 => .nil))) .nil)))))
def spec_DrawPlaces.ent : Ent := ⟨16, spec_DrawPlaces.sig, spec_DrawPlaces.F⟩
def spec_DrawPlaces.ctx (k : Nat) : Ctx := ⟨tds, [spec_l01New.ent, spec_l01Byte.ent, spec_l01Below.ent], k, 21⟩
theorem spec_DrawPlaces.runs (k : Nat) (x : Args spec_DrawPlaces.sig.ps) : spec_DrawPlaces.F k x = runF (spec_DrawPlaces.ctx k) spec_DrawPlaces.sig Try.f16 (Try.f16.body.getD .skip) (spec_DrawPlaces.ann k) x := by kernel_rfl
theorem spec_DrawPlaces.obls (k : Nat) : obl (spec_DrawPlaces.ctx k) 1 (Try.f16.body.getD .skip) (spec_DrawPlaces.ann k) (retK tds spec_DrawPlaces.sig Try.f16.results.toList) := ⟨trivial, ⟨trivial, ⟨trivial, ⟨trivial, ⟨⟨trivial, ⟨⟨by kernel_rfl, fun x => by kernel_rfl⟩, fun n => ⟨fun x => by kernel_rfl, ⟨⟨trivial, ⟨trivial, trivial⟩⟩, ⟨trivial, trivial⟩⟩⟩⟩⟩, ⟨trivial, trivial⟩⟩⟩⟩⟩⟩
theorem spec_DrawPlaces.ok (k : Nat) : EntOk Try.prog k spec_DrawPlaces.ent := fn_ok (C := spec_DrawPlaces.ctx k) Try.func16 (by kernel_rfl) (by kernel_rfl) mixed tdsOk (.cons (spec_l01New.ok k) (.cons (spec_l01Byte.ok k) (.cons (spec_l01Below.ok k) EntsOk.nil))) (by kernel_rfl) (Nat.le_of_ble_eq_true (by kernel_rfl)) (by kernel_rfl) (spec_DrawPlaces.runs k) (spec_DrawPlaces.obls k)
/-! loop.example/g00200/impl.ArenaNew -/
def impl_ArenaNew.f (k : Nat)  : Option (List Int) :=
  if 64 = 64 then (if 0 ≤ 64 then (if 64 * 8 ≤ 281474976710656 then (((some (List.replicate 64 0 : List Int))).bind fun y1 => (some y1)) else none) else none) else none
def impl_ArenaNew.sig : Sig := ⟨[], [.val true (.sl 3 (.int .i64)) [none]]⟩
def impl_ArenaNew.F (k : Nat) (x : Args impl_ArenaNew.sig.ps) : Option (Res impl_ArenaNew.sig) := impl_ArenaNew.f k 
def impl_ArenaNew.ann (k : Nat) : Ann (Res impl_ArenaNew.sig) := .nil
def impl_ArenaNew.ent : Ent := ⟨22, impl_ArenaNew.sig, impl_ArenaNew.F⟩
def impl_ArenaNew.ctx (k : Nat) : Ctx := ⟨tds, [], k, 3⟩
theorem impl_ArenaNew.runs (k : Nat) (x : Args impl_ArenaNew.sig.ps) : impl_ArenaNew.F k x = runF (impl_ArenaNew.ctx k) impl_ArenaNew.sig Try.f22 (Try.f22.body.getD .skip) (impl_ArenaNew.ann k) x := by kernel_rfl
theorem impl_ArenaNew.obls (k : Nat) : obl (impl_ArenaNew.ctx k) 0 (Try.f22.body.getD .skip) (impl_ArenaNew.ann k) (retK tds impl_ArenaNew.sig Try.f22.results.toList) := ⟨trivial, ⟨trivial, trivial⟩⟩
theorem impl_ArenaNew.ok (k : Nat) : EntOk Try.prog k impl_ArenaNew.ent := fn_ok (C := impl_ArenaNew.ctx k) Try.func22 (by kernel_rfl) (by kernel_rfl) mixed tdsOk EntsOk.nil (by kernel_rfl) (Nat.le_of_ble_eq_true (by kernel_rfl)) (by kernel_rfl) (impl_ArenaNew.runs k) (impl_ArenaNew.obls k)
/-! loop.example/g00200/impl.copyInts -/
def impl_copyInts.f (k : Nat) (a0 : List Int) : Option (List Int) :=
  ((some ([] : List Int))).bind fun y1 => (if (y1.length + a0.length) * 8 ≤ 140737488355328 then (((some (y1 ++ a0))).bind fun y2 => (some y2)) else none)
def impl_copyInts.sig : Sig := ⟨[.val false (.sl 3 (.int .i64)) [0]], [.val false (.sl 3 (.int .i64)) [none]]⟩
def impl_copyInts.F (k : Nat) (x : Args impl_copyInts.sig.ps) : Option (Res impl_copyInts.sig) := impl_copyInts.f k x.1
def impl_copyInts.ann (k : Nat) : Ann (Res impl_copyInts.sig) := .nil
def impl_copyInts.ent : Ent := ⟨166, impl_copyInts.sig, impl_copyInts.F⟩
def impl_copyInts.ctx (k : Nat) : Ctx := ⟨tds, [], k, 6⟩
theorem impl_copyInts.runs (k : Nat) (x : Args impl_copyInts.sig.ps) : impl_copyInts.F k x = runF (impl_copyInts.ctx k) impl_copyInts.sig Try.f166 (Try.f166.body.getD .skip) (impl_copyInts.ann k) x := by kernel_rfl
theorem impl_copyInts.obls (k : Nat) : obl (impl_copyInts.ctx k) 1 (Try.f166.body.getD .skip) (impl_copyInts.ann k) (retK tds impl_copyInts.sig Try.f166.results.toList) := ⟨trivial, ⟨trivial, trivial⟩⟩
theorem impl_copyInts.ok (k : Nat) : EntOk Try.prog k impl_copyInts.ent := fn_ok (C := impl_copyInts.ctx k) Try.func166 (by kernel_rfl) (by kernel_rfl) mixed tdsOk EntsOk.nil (by kernel_rfl) (Nat.le_of_ble_eq_true (by kernel_rfl)) (by kernel_rfl) (impl_copyInts.runs k) (impl_copyInts.obls k)
/-! loop.example/g00200/impl.copyArena -/
def impl_copyArena.f (k : Nat) (a0 : List Int) : Option (List Int) :=
  (impl_copyInts.f k a0).bind fun t1 => (some t1)
def impl_copyArena.sig : Sig := ⟨[.val true (.sl 3 (.int .i64)) [0]], [.val true (.sl 3 (.int .i64)) [none]]⟩
def impl_copyArena.F (k : Nat) (x : Args impl_copyArena.sig.ps) : Option (Res impl_copyArena.sig) := impl_copyArena.f k x.1
def impl_copyArena.ann (k : Nat) : Ann (Res impl_copyArena.sig) := .nil
def impl_copyArena.ent : Ent := ⟨77, impl_copyArena.sig, impl_copyArena.F⟩
def impl_copyArena.ctx (k : Nat) : Ctx := ⟨tds, [impl_copyInts.ent], k, 7⟩
theorem impl_copyArena.runs (k : Nat) (x : Args impl_copyArena.sig.ps) : impl_copyArena.F k x = runF (impl_copyArena.ctx k) impl_copyArena.sig Try.f77 (Try.f77.body.getD .skip) (impl_copyArena.ann k) x := by kernel_rfl
theorem impl_copyArena.obls (k : Nat) : obl (impl_copyArena.ctx k) 1 (Try.f77.body.getD .skip) (impl_copyArena.ann k) (retK tds impl_copyArena.sig Try.f77.results.toList) := ⟨trivial, ⟨trivial, trivial⟩⟩
theorem impl_copyArena.ok (k : Nat) : EntOk Try.prog k impl_copyArena.ent := fn_ok (C := impl_copyArena.ctx k) Try.func77 (by kernel_rfl) (by kernel_rfl) mixed tdsOk (.cons (impl_copyInts.ok k) EntsOk.nil) (by kernel_rfl) (Nat.le_of_ble_eq_true (by kernel_rfl)) (by kernel_rfl) (impl_copyArena.runs k) (impl_copyArena.obls k)
/-! loop.example/g00200/impl.CostOf -/
def impl_CostOf.j2 (k : Nat)  : Int × Bool × Unit → Option (Int)
  | (z1, z2, _) => if z2 = true then (some 3) else (if z1 = 13 then (some 4) else (if z1 = 14 then (some 4) else (some 1)))
def impl_CostOf.j1 (k : Nat)  : Int × Bool × Unit → Option (Int)
  | (z1, z2, _) => if z2 = true then (some 2) else (if z1 = 6 then (impl_CostOf.j2 k (z1, true, ())) else (impl_CostOf.j2 k (z1, decide (z1 = 7), ())))
def impl_CostOf.f (k : Nat) (a0 : Int) : Option (Int) :=
  if a0 = 2 then (impl_CostOf.j1 k (a0, true, ())) else (if a0 = 3 then (impl_CostOf.j1 k (a0, true, ())) else (if a0 = 15 then (impl_CostOf.j1 k (a0, true, ())) else (impl_CostOf.j1 k (a0, decide (a0 = 16), ()))))
def impl_CostOf.Sj1 : Shape := ⟨[(3, false, [.int .i64]), (4, false, [.bool])], [], 0⟩
def impl_CostOf.Sj2 : Shape := ⟨[(3, false, [.int .i64]), (9, false, [.bool])], [], 0⟩
def impl_CostOf.sig : Sig := ⟨[.val false (.int .i64) []], [.val false (.int .i64) []]⟩
def impl_CostOf.F (k : Nat) (x : Args impl_CostOf.sig.ps) : Option (Res impl_CostOf.sig) := impl_CostOf.f k x.1
def impl_CostOf.ann (k : Nat) : Ann (Res impl_CostOf.sig) := (.seq .nil (.seq (.seq .nil (.block (.join impl_CostOf.Sj1 (impl_CostOf.j1 k) .nil (.cond .nil (.join impl_CostOf.Sj2 (impl_CostOf.j2 k) .nil .nil))))) .nil))
def impl_CostOf.ent : Ent := ⟨78, impl_CostOf.sig, impl_CostOf.F⟩
def impl_CostOf.ctx (k : Nat) : Ctx := ⟨tds, [], k, 15⟩
theorem impl_CostOf.runs (k : Nat) (x : Args impl_CostOf.sig.ps) : impl_CostOf.F k x = runF (impl_CostOf.ctx k) impl_CostOf.sig Try.f78 (Try.f78.body.getD .skip) (impl_CostOf.ann k) x := by kernel_rfl
theorem impl_CostOf.obls (k : Nat) : obl (impl_CostOf.ctx k) 0 (Try.f78.body.getD .skip) (impl_CostOf.ann k) (retK tds impl_CostOf.sig Try.f78.results.toList) := ⟨trivial, ⟨⟨trivial, ⟨⟨by kernel_rfl, fun x => by kernel_rfl⟩, ⟨trivial, ⟨trivial, ⟨trivial, ⟨trivial, ⟨trivial, ⟨trivial, trivial⟩⟩⟩⟩⟩⟩, ⟨⟨trivial, trivial⟩, ⟨⟨by kernel_rfl, fun x => by kernel_rfl⟩, ⟨trivial, ⟨trivial, trivial⟩⟩, ⟨⟨trivial, trivial⟩, ⟨⟨trivial, ⟨trivial, trivial⟩⟩, ⟨⟨trivial, trivial⟩, trivial⟩⟩⟩⟩⟩⟩⟩, ⟨trivial, trivial⟩⟩⟩
theorem impl_CostOf.ok (k : Nat) : EntOk Try.prog k impl_CostOf.ent := fn_ok (C := impl_CostOf.ctx k) Try.func78 (by kernel_rfl) (by kernel_rfl) mixed tdsOk EntsOk.nil (by kernel_rfl) (Nat.le_of_ble_eq_true (by kernel_rfl)) (by kernel_rfl) (impl_CostOf.runs k) (impl_CostOf.obls k)
/-! loop.example/g00200/impl.copyCpu -/
def impl_copyCpu.f (k : Nat) (a0 : Int × List Int) : Option (Int × List Int) :=
  (impl_copyInts.f k a0.2).bind fun t1 => (some (a0.1, t1))
def impl_copyCpu.sig : Sig := ⟨[.val true (.pair (.int .i64) (.sl 3 (.int .i64))) [0]], [.val true (.pair (.int .i64) (.sl 3 (.int .i64))) [none]]⟩
def impl_copyCpu.F (k : Nat) (x : Args impl_copyCpu.sig.ps) : Option (Res impl_copyCpu.sig) := impl_copyCpu.f k x.1
def impl_copyCpu.ann (k : Nat) : Ann (Res impl_copyCpu.sig) := .nil
def impl_copyCpu.ent : Ent := ⟨90, impl_copyCpu.sig, impl_copyCpu.F⟩
def impl_copyCpu.ctx (k : Nat) : Ctx := ⟨tds, [impl_copyInts.ent], k, 9⟩
theorem impl_copyCpu.runs (k : Nat) (x : Args impl_copyCpu.sig.ps) : impl_copyCpu.F k x = runF (impl_copyCpu.ctx k) impl_copyCpu.sig Try.f90 (Try.f90.body.getD .skip) (impl_copyCpu.ann k) x := by kernel_rfl
theorem impl_copyCpu.obls (k : Nat) : obl (impl_copyCpu.ctx k) 1 (Try.f90.body.getD .skip) (impl_copyCpu.ann k) (retK tds impl_copyCpu.sig Try.f90.results.toList) := ⟨trivial, ⟨trivial, trivial⟩⟩
theorem impl_copyCpu.ok (k : Nat) : EntOk Try.prog k impl_copyCpu.ent := fn_ok (C := impl_copyCpu.ctx k) Try.func90 (by kernel_rfl) (by kernel_rfl) mixed tdsOk (.cons (impl_copyInts.ok k) EntsOk.nil) (by kernel_rfl) (Nat.le_of_ble_eq_true (by kernel_rfl)) (by kernel_rfl) (impl_copyCpu.runs k) (impl_copyCpu.obls k)
/-! loop.example/g00200/impl.within -/
def impl_within.f (k : Nat) (a0 : Int) (a1 : Int) (a2 : Int) : Option (Bool) :=
  if a1 ≤ a0 then (some (decide (a0 ≤ a2))) else (some false)
def impl_within.sig : Sig := ⟨[.val false (.int .i64) [], .val false (.int .i64) [], .val false (.int .i64) []], [.val false .bool []]⟩
def impl_within.F (k : Nat) (x : Args impl_within.sig.ps) : Option (Res impl_within.sig) := impl_within.f k x.1 x.2.1 x.2.2.1
def impl_within.ann (k : Nat) : Ann (Res impl_within.sig) := .nil
def impl_within.ent : Ent := ⟨71, impl_within.sig, impl_within.F⟩
def impl_within.ctx (k : Nat) : Ctx := ⟨tds, [], k, 15⟩
theorem impl_within.runs (k : Nat) (x : Args impl_within.sig.ps) : impl_within.F k x = runF (impl_within.ctx k) impl_within.sig Try.f71 (Try.f71.body.getD .skip) (impl_within.ann k) x := by kernel_rfl
theorem impl_within.obls (k : Nat) : obl (impl_within.ctx k) 0 (Try.f71.body.getD .skip) (impl_within.ann k) (retK tds impl_within.sig Try.f71.results.toList) := ⟨trivial, ⟨trivial, trivial⟩⟩
theorem impl_within.ok (k : Nat) : EntOk Try.prog k impl_within.ent := fn_ok (C := impl_within.ctx k) Try.func71 (by kernel_rfl) (by kernel_rfl) mixed tdsOk EntsOk.nil (by kernel_rfl) (Nat.le_of_ble_eq_true (by kernel_rfl)) (by kernel_rfl) (impl_within.runs k) (impl_within.obls k)
/-! loop.example/g00200/impl.isWord -/
def impl_isWord.f (k : Nat) (a0 : Int) : Option (Bool) :=
  (impl_within.f k a0 0 65535).bind fun t1 => (some t1)
def impl_isWord.sig : Sig := ⟨[.val false (.int .i64) []], [.val false .bool []]⟩
def impl_isWord.F (k : Nat) (x : Args impl_isWord.sig.ps) : Option (Res impl_isWord.sig) := impl_isWord.f k x.1
def impl_isWord.ann (k : Nat) : Ann (Res impl_isWord.sig) := .nil
def impl_isWord.ent : Ent := ⟨172, impl_isWord.sig, impl_isWord.F⟩
def impl_isWord.ctx (k : Nat) : Ctx := ⟨tds, [impl_within.ent], k, 5⟩
theorem impl_isWord.runs (k : Nat) (x : Args impl_isWord.sig.ps) : impl_isWord.F k x = runF (impl_isWord.ctx k) impl_isWord.sig Try.f172 (Try.f172.body.getD .skip) (impl_isWord.ann k) x := by kernel_rfl
theorem impl_isWord.obls (k : Nat) : obl (impl_isWord.ctx k) 0 (Try.f172.body.getD .skip) (impl_isWord.ann k) (retK tds impl_isWord.sig Try.f172.results.toList) := ⟨trivial, ⟨trivial, trivial⟩⟩
theorem impl_isWord.ok (k : Nat) : EntOk Try.prog k impl_isWord.ent := fn_ok (C := impl_isWord.ctx k) Try.func172 (by kernel_rfl) (by kernel_rfl) mixed tdsOk (.cons (impl_within.ok k) EntsOk.nil) (by kernel_rfl) (Nat.le_of_ble_eq_true (by kernel_rfl)) (by kernel_rfl) (impl_isWord.runs k) (impl_isWord.obls k)
/-! loop.example/g00200/impl.wordsOk -/
def impl_wordsOk.l1 (k : Nat)  : Nat → Int × Int × List Int × Unit → Option (Bool)
  | 0, _ => none
  | n + 1, (x1, x2, x3, _) => if x2 < x1 then (if 0 ≤ x2 then (if x2 < (x3.length : Int) then ((impl_isWord.f k (el (.int .i64) x3 x2.toNat)).bind fun t1 => (if ¬ t1 = true then (some false) else (impl_wordsOk.l1 k n (x1, w64 (x2 + 1), x3, ())))) else none) else none) else (some true)
def impl_wordsOk.f (k : Nat) (a0 : List Int) : Option (Bool) :=
  impl_wordsOk.l1 k k ((a0.length : Int), 0, a0, ())
def impl_wordsOk.Sl1 : Shape := ⟨[(5, false, [.own 0]), (6, false, [.int .i64]), (7, false, [.int .i64])], [(0, .view false 3 (.int .i64))], 1⟩
def impl_wordsOk.sig : Sig := ⟨[.val false (.sl 3 (.int .i64)) [0]], [.val false .bool []]⟩
def impl_wordsOk.F (k : Nat) (x : Args impl_wordsOk.sig.ps) : Option (Res impl_wordsOk.sig) := impl_wordsOk.f k x.1
def impl_wordsOk.ann (k : Nat) : Ann (Res impl_wordsOk.sig) := (.seq .nil (.seq (.seq .nil (.block (.loop impl_wordsOk.Sl1 (impl_wordsOk.l1 k) fun n1 => .nil))) .nil))
def impl_wordsOk.ent : Ent := ⟨105, impl_wordsOk.sig, impl_wordsOk.F⟩
def impl_wordsOk.ctx (k : Nat) : Ctx := ⟨tds, [impl_isWord.ent], k, 15⟩
theorem impl_wordsOk.runs (k : Nat) (x : Args impl_wordsOk.sig.ps) : impl_wordsOk.F k x = runF (impl_wordsOk.ctx k) impl_wordsOk.sig Try.f105 (Try.f105.body.getD .skip) (impl_wordsOk.ann k) x := by kernel_rfl
theorem impl_wordsOk.obls (k : Nat) : obl (impl_wordsOk.ctx k) 1 (Try.f105.body.getD .skip) (impl_wordsOk.ann k) (retK tds impl_wordsOk.sig Try.f105.results.toList) := ⟨trivial, ⟨⟨trivial, ⟨⟨by kernel_rfl, fun x => by kernel_rfl⟩, fun n => ⟨fun x => by kernel_rfl, ⟨trivial, ⟨⟨trivial, trivial⟩, ⟨⟨trivial, ⟨trivial, ⟨⟨trivial, trivial⟩, trivial⟩⟩⟩, trivial⟩⟩⟩⟩⟩⟩, ⟨trivial, trivial⟩⟩⟩
theorem impl_wordsOk.ok (k : Nat) : EntOk Try.prog k impl_wordsOk.ent := fn_ok (C := impl_wordsOk.ctx k) Try.func105 (by kernel_rfl) (by kernel_rfl) mixed tdsOk (.cons (impl_isWord.ok k) EntsOk.nil) (by kernel_rfl) (Nat.le_of_ble_eq_true (by kernel_rfl)) (by kernel_rfl) (impl_wordsOk.runs k) (impl_wordsOk.obls k)
/-! loop.example/g00200/impl.CpuOk -/
def impl_CpuOk.f (k : Nat) (a0 : Int × List Int) : Option (Bool) :=
  (impl_within.f k a0.1 0 60).bind fun t1 => (if t1 = true then (if (a0.2.length : Int) ≤ 8 then ((impl_wordsOk.f k a0.2).bind fun t2 => (some t2)) else (some false)) else (some false))
def impl_CpuOk.sig : Sig := ⟨[.val true (.pair (.int .i64) (.sl 3 (.int .i64))) [0]], [.val false .bool []]⟩
def impl_CpuOk.F (k : Nat) (x : Args impl_CpuOk.sig.ps) : Option (Res impl_CpuOk.sig) := impl_CpuOk.f k x.1
def impl_CpuOk.ann (k : Nat) : Ann (Res impl_CpuOk.sig) := .nil
def impl_CpuOk.ent : Ent := ⟨32, impl_CpuOk.sig, impl_CpuOk.F⟩
def impl_CpuOk.ctx (k : Nat) : Ctx := ⟨tds, [impl_within.ent, impl_wordsOk.ent], k, 17⟩
theorem impl_CpuOk.runs (k : Nat) (x : Args impl_CpuOk.sig.ps) : impl_CpuOk.F k x = runF (impl_CpuOk.ctx k) impl_CpuOk.sig Try.f32 (Try.f32.body.getD .skip) (impl_CpuOk.ann k) x := by kernel_rfl
theorem impl_CpuOk.obls (k : Nat) : obl (impl_CpuOk.ctx k) 1 (Try.f32.body.getD .skip) (impl_CpuOk.ann k) (retK tds impl_CpuOk.sig Try.f32.results.toList) := ⟨trivial, ⟨trivial, trivial⟩⟩
theorem impl_CpuOk.ok (k : Nat) : EntOk Try.prog k impl_CpuOk.ent := fn_ok (C := impl_CpuOk.ctx k) Try.func32 (by kernel_rfl) (by kernel_rfl) mixed tdsOk (.cons (impl_within.ok k) (.cons (impl_wordsOk.ok k) EntsOk.nil)) (by kernel_rfl) (Nat.le_of_ble_eq_true (by kernel_rfl)) (by kernel_rfl) (impl_CpuOk.runs k) (impl_CpuOk.obls k)
/-! loop.example/g00200/impl.CodeOk -/
def impl_CodeOk.l1 (k : Nat)  : Nat → Int × Int × (List (Int × Int)) × Unit → Option (Bool)
  | 0, _ => none
  | n + 1, (x1, x2, x3, _) => if x2 < x1 then (if 0 ≤ x2 then (if x2 < (x3.length : Int) then ((impl_within.f k ((el (.pair (.int .i64) (.int .i64)) x3 x2.toNat).1) 0 255).bind fun t1 => (if ¬ t1 = true then (some false) else ((impl_within.f k ((el (.pair (.int .i64) (.int .i64)) x3 x2.toNat).2) 0 255).bind fun t2 => (if ¬ t2 = true then (some false) else (impl_CodeOk.l1 k n (x1, w64 (x2 + 1), x3, ())))))) else none) else none) else (some (decide ((x3.length : Int) ≤ 60)))
def impl_CodeOk.f (k : Nat) (a0 : List (Int × Int)) : Option (Bool) :=
  impl_CodeOk.l1 k k ((a0.length : Int), 0, a0, ())
def impl_CodeOk.Sl1 : Shape := ⟨[(0, false, [.own 0]), (5, false, [.own 0]), (6, false, [.int .i64]), (7, false, [.int .i64])], [(0, .view false 46 (.pair (.int .i64) (.int .i64)))], 1⟩
def impl_CodeOk.sig : Sig := ⟨[.val false (.sl 46 (.pair (.int .i64) (.int .i64))) [0]], [.val false .bool []]⟩
def impl_CodeOk.F (k : Nat) (x : Args impl_CodeOk.sig.ps) : Option (Res impl_CodeOk.sig) := impl_CodeOk.f k x.1
def impl_CodeOk.ann (k : Nat) : Ann (Res impl_CodeOk.sig) := (.seq .nil (.seq (.seq .nil (.block (.loop impl_CodeOk.Sl1 (impl_CodeOk.l1 k) fun n1 => .nil))) .nil))
def impl_CodeOk.ent : Ent := ⟨83, impl_CodeOk.sig, impl_CodeOk.F⟩
def impl_CodeOk.ctx (k : Nat) : Ctx := ⟨tds, [impl_within.ent], k, 25⟩
theorem impl_CodeOk.runs (k : Nat) (x : Args impl_CodeOk.sig.ps) : impl_CodeOk.F k x = runF (impl_CodeOk.ctx k) impl_CodeOk.sig Try.f83 (Try.f83.body.getD .skip) (impl_CodeOk.ann k) x := by kernel_rfl
theorem impl_CodeOk.obls (k : Nat) : obl (impl_CodeOk.ctx k) 1 (Try.f83.body.getD .skip) (impl_CodeOk.ann k) (retK tds impl_CodeOk.sig Try.f83.results.toList) := ⟨trivial, ⟨⟨trivial, ⟨⟨by kernel_rfl, fun x => by kernel_rfl⟩, fun n => ⟨fun x => by kernel_rfl, ⟨trivial, ⟨⟨trivial, trivial⟩, ⟨⟨trivial, ⟨trivial, ⟨⟨trivial, trivial⟩, trivial⟩⟩⟩, trivial⟩⟩⟩⟩⟩⟩, ⟨trivial, trivial⟩⟩⟩
theorem impl_CodeOk.ok (k : Nat) : EntOk Try.prog k impl_CodeOk.ent := fn_ok (C := impl_CodeOk.ctx k) Try.func83 (by kernel_rfl) (by kernel_rfl) mixed tdsOk (.cons (impl_within.ok k) EntsOk.nil) (by kernel_rfl) (Nat.le_of_ble_eq_true (by kernel_rfl)) (by kernel_rfl) (impl_CodeOk.runs k) (impl_CodeOk.obls k)
/-! loop.example/g00200/impl.hasOp -/
def impl_hasOp.f (k : Nat) (a0 : Int) : Option (Bool) :=
  (impl_within.f k a0 0 17).bind fun t1 => (some t1)
def impl_hasOp.sig : Sig := ⟨[.val false (.int .i64) []], [.val false .bool []]⟩
def impl_hasOp.F (k : Nat) (x : Args impl_hasOp.sig.ps) : Option (Res impl_hasOp.sig) := impl_hasOp.f k x.1
def impl_hasOp.ann (k : Nat) : Ann (Res impl_hasOp.sig) := .nil
def impl_hasOp.ent : Ent := ⟨169, impl_hasOp.sig, impl_hasOp.F⟩
def impl_hasOp.ctx (k : Nat) : Ctx := ⟨tds, [impl_within.ent], k, 5⟩
theorem impl_hasOp.runs (k : Nat) (x : Args impl_hasOp.sig.ps) : impl_hasOp.F k x = runF (impl_hasOp.ctx k) impl_hasOp.sig Try.f169 (Try.f169.body.getD .skip) (impl_hasOp.ann k) x := by kernel_rfl
theorem impl_hasOp.obls (k : Nat) : obl (impl_hasOp.ctx k) 0 (Try.f169.body.getD .skip) (impl_hasOp.ann k) (retK tds impl_hasOp.sig Try.f169.results.toList) := ⟨trivial, ⟨trivial, trivial⟩⟩
theorem impl_hasOp.ok (k : Nat) : EntOk Try.prog k impl_hasOp.ent := fn_ok (C := impl_hasOp.ctx k) Try.func169 (by kernel_rfl) (by kernel_rfl) mixed tdsOk (.cons (impl_within.ok k) EntsOk.nil) (by kernel_rfl) (Nat.le_of_ble_eq_true (by kernel_rfl)) (by kernel_rfl) (impl_hasOp.runs k) (impl_hasOp.obls k)
/-! loop.example/g00200/impl.takes -/
def impl_takes.j1 (k : Nat)  : Int × Bool × Unit → Option (Int)
  | (z1, z2, _) => if z2 = true then (some 1) else (if z1 = 3 then (some 2) else (if z1 = 4 then (some 2) else (if z1 = 5 then (some 2) else (if z1 = 6 then (some 2) else (if z1 = 7 then (some 2) else (if z1 = 8 then (some 2) else (some 0)))))))
def impl_takes.f (k : Nat) (a0 : Int) : Option (Int) :=
  if a0 = 2 then (impl_takes.j1 k (a0, true, ())) else (if a0 = 10 then (impl_takes.j1 k (a0, true, ())) else (if a0 = 11 then (impl_takes.j1 k (a0, true, ())) else (if a0 = 12 then (impl_takes.j1 k (a0, true, ())) else (if a0 = 13 then (impl_takes.j1 k (a0, true, ())) else (impl_takes.j1 k (a0, decide (a0 = 16), ()))))))
def impl_takes.Sj1 : Shape := ⟨[(3, false, [.int .i64]), (4, false, [.bool])], [], 0⟩
def impl_takes.sig : Sig := ⟨[.val false (.int .i64) []], [.val false (.int .i64) []]⟩
def impl_takes.F (k : Nat) (x : Args impl_takes.sig.ps) : Option (Res impl_takes.sig) := impl_takes.f k x.1
def impl_takes.ann (k : Nat) : Ann (Res impl_takes.sig) := (.seq .nil (.seq (.seq .nil (.block (.join impl_takes.Sj1 (impl_takes.j1 k) .nil .nil))) .nil))
def impl_takes.ent : Ent := ⟨93, impl_takes.sig, impl_takes.F⟩
def impl_takes.ctx (k : Nat) : Ctx := ⟨tds, [], k, 18⟩
theorem impl_takes.runs (k : Nat) (x : Args impl_takes.sig.ps) : impl_takes.F k x = runF (impl_takes.ctx k) impl_takes.sig Try.f93 (Try.f93.body.getD .skip) (impl_takes.ann k) x := by kernel_rfl
theorem impl_takes.obls (k : Nat) : obl (impl_takes.ctx k) 0 (Try.f93.body.getD .skip) (impl_takes.ann k) (retK tds impl_takes.sig Try.f93.results.toList) := ⟨trivial, ⟨⟨trivial, ⟨⟨by kernel_rfl, fun x => by kernel_rfl⟩, ⟨trivial, ⟨trivial, ⟨trivial, ⟨trivial, ⟨trivial, ⟨trivial, ⟨trivial, ⟨trivial, ⟨trivial, ⟨trivial, trivial⟩⟩⟩⟩⟩⟩⟩⟩⟩⟩, ⟨⟨trivial, trivial⟩, ⟨⟨trivial, ⟨trivial, ⟨trivial, ⟨trivial, ⟨trivial, ⟨trivial, ⟨trivial, ⟨trivial, ⟨trivial, ⟨trivial, trivial⟩⟩⟩⟩⟩⟩⟩⟩⟩⟩, ⟨⟨trivial, trivial⟩, trivial⟩⟩⟩⟩⟩, ⟨trivial, trivial⟩⟩⟩
theorem impl_takes.ok (k : Nat) : EntOk Try.prog k impl_takes.ent := fn_ok (C := impl_takes.ctx k) Try.func93 (by kernel_rfl) (by kernel_rfl) mixed tdsOk EntsOk.nil (by kernel_rfl) (Nat.le_of_ble_eq_true (by kernel_rfl)) (by kernel_rfl) (impl_takes.runs k) (impl_takes.obls k)
/-! loop.example/g00200/impl.cellAt -/
def impl_cellAt.f (k : Nat) (a0 : List Int) (a1 : Int × Int) (a2 : Int) : Option (Int) :=
  if a1.1 < 0 then (some (-1)) else (if a2 < 0 then (some (-1)) else (if a1.2 ≤ a2 then (some (-1)) else (if (w64 ((a0.length : Int) - a1.1)) ≤ a2 then (some (-1)) else (some (w64 (a1.1 + a2))))))
def impl_cellAt.sig : Sig := ⟨[.val true (.sl 3 (.int .i64)) [0], .val true (.pair (.int .i64) (.int .i64)) [], .val false (.int .i64) []], [.val false (.int .i64) []]⟩
def impl_cellAt.F (k : Nat) (x : Args impl_cellAt.sig.ps) : Option (Res impl_cellAt.sig) := impl_cellAt.f k x.1 x.2.1 x.2.2.1
def impl_cellAt.ann (k : Nat) : Ann (Res impl_cellAt.sig) := .nil
def impl_cellAt.ent : Ent := ⟨96, impl_cellAt.sig, impl_cellAt.F⟩
def impl_cellAt.ctx (k : Nat) : Ctx := ⟨tds, [], k, 34⟩
theorem impl_cellAt.runs (k : Nat) (x : Args impl_cellAt.sig.ps) : impl_cellAt.F k x = runF (impl_cellAt.ctx k) impl_cellAt.sig Try.f96 (Try.f96.body.getD .skip) (impl_cellAt.ann k) x := by kernel_rfl
theorem impl_cellAt.obls (k : Nat) : obl (impl_cellAt.ctx k) 1 (Try.f96.body.getD .skip) (impl_cellAt.ann k) (retK tds impl_cellAt.sig Try.f96.results.toList) := ⟨trivial, ⟨⟨trivial, ⟨⟨trivial, trivial⟩, trivial⟩⟩, ⟨trivial, trivial⟩⟩⟩
theorem impl_cellAt.ok (k : Nat) : EntOk Try.prog k impl_cellAt.ent := fn_ok (C := impl_cellAt.ctx k) Try.func96 (by kernel_rfl) (by kernel_rfl) mixed tdsOk EntsOk.nil (by kernel_rfl) (Nat.le_of_ble_eq_true (by kernel_rfl)) (by kernel_rfl) (impl_cellAt.runs k) (impl_cellAt.obls k)
/-! loop.example/g00200/impl.puts -/
def impl_puts.f (k : Nat) (a0 : Int) : Option (Int) :=
  if a0 = 1 then (some 1) else (if a0 = 2 then (some 1) else (if a0 = 4 then (some 1) else (if a0 = 5 then (some 1) else (if a0 = 6 then (some 1) else (if a0 = 7 then (some 1) else (if a0 = 8 then (some 1) else (if a0 = 17 then (some 1) else (if a0 = 11 then (some 2) else (some 0)))))))))
def impl_puts.sig : Sig := ⟨[.val false (.int .i64) []], [.val false (.int .i64) []]⟩
def impl_puts.F (k : Nat) (x : Args impl_puts.sig.ps) : Option (Res impl_puts.sig) := impl_puts.f k x.1
def impl_puts.ann (k : Nat) : Ann (Res impl_puts.sig) := .nil
def impl_puts.ent : Ent := ⟨170, impl_puts.sig, impl_puts.F⟩
def impl_puts.ctx (k : Nat) : Ctx := ⟨tds, [], k, 15⟩
theorem impl_puts.runs (k : Nat) (x : Args impl_puts.sig.ps) : impl_puts.F k x = runF (impl_puts.ctx k) impl_puts.sig Try.f170 (Try.f170.body.getD .skip) (impl_puts.ann k) x := by kernel_rfl
theorem impl_puts.obls (k : Nat) : obl (impl_puts.ctx k) 0 (Try.f170.body.getD .skip) (impl_puts.ann k) (retK tds impl_puts.sig Try.f170.results.toList) := ⟨trivial, ⟨⟨trivial, ⟨⟨trivial, ⟨trivial, ⟨trivial, ⟨trivial, ⟨trivial, ⟨trivial, ⟨trivial, ⟨trivial, ⟨trivial, ⟨trivial, ⟨trivial, ⟨trivial, ⟨trivial, ⟨trivial, trivial⟩⟩⟩⟩⟩⟩⟩⟩⟩⟩⟩⟩⟩⟩, ⟨⟨trivial, trivial⟩, ⟨trivial, ⟨⟨trivial, trivial⟩, trivial⟩⟩⟩⟩⟩, ⟨trivial, trivial⟩⟩⟩
theorem impl_puts.ok (k : Nat) : EntOk Try.prog k impl_puts.ent := fn_ok (C := impl_puts.ctx k) Try.func170 (by kernel_rfl) (by kernel_rfl) mixed tdsOk EntsOk.nil (by kernel_rfl) (Nat.le_of_ble_eq_true (by kernel_rfl)) (by kernel_rfl) (impl_puts.runs k) (impl_puts.obls k)
/-! loop.example/g00200/impl.trapOf -/
def impl_trapOf.f (k : Nat) (a0 : Int × List Int) (a1 : List (Int × Int)) (a2 : List Int) (a3 : Int × Int) : Option (Int) :=
  (impl_CpuOk.f k a0).bind fun t1 => (if ¬ t1 = true then (some 6) else ((impl_CodeOk.f k a1).bind fun t2 => (if ¬ t2 = true then (some 6) else (if (a1.length : Int) ≤ a0.1 then (some 6) else (if 0 ≤ a0.1 then (if a0.1 < (a1.length : Int) then ((impl_hasOp.f k ((el (.pair (.int .i64) (.int .i64)) a1 a0.1.toNat).1)).bind fun t3 => (if ¬ t3 = true then (some 1) else ((impl_takes.f k ((el (.pair (.int .i64) (.int .i64)) a1 a0.1.toNat).1)).bind fun t4 => (if (a0.2.length : Int) < t4 then (some 5) else (if ((el (.pair (.int .i64) (.int .i64)) a1 a0.1.toNat).1) = 2 then (if 0 ≤ w64 ((a0.2.length : Int) - 1) then (if w64 ((a0.2.length : Int) - 1) < (a0.2.length : Int) then ((impl_cellAt.f k a2 a3 (w64 ((el (.int .i64) a0.2 ((w64 ((a0.2.length : Int) - 1)).toNat)) + ((el (.pair (.int .i64) (.int .i64)) a1 a0.1.toNat).2)))).bind fun t5 => (if t5 < 0 then (some 2) else (if ((el (.pair (.int .i64) (.int .i64)) a1 a0.1.toNat).1) = 3 then (if 0 ≤ w64 ((a0.2.length : Int) - 2) then (if w64 ((a0.2.length : Int) - 2) < (a0.2.length : Int) then ((impl_cellAt.f k a2 a3 (w64 ((el (.int .i64) a0.2 ((w64 ((a0.2.length : Int) - 2)).toNat)) + ((el (.pair (.int .i64) (.int .i64)) a1 a0.1.toNat).2)))).bind fun t6 => (if t6 < 0 then (some 2) else (if ((el (.pair (.int .i64) (.int .i64)) a1 a0.1.toNat).1) = 7 then (if 0 ≤ w64 ((a0.2.length : Int) - 1) then (if w64 ((a0.2.length : Int) - 1) < (a0.2.length : Int) then (if (el (.int .i64) a0.2 ((w64 ((a0.2.length : Int) - 1)).toNat)) = 0 then (some 3) else ((impl_takes.f k ((el (.pair (.int .i64) (.int .i64)) a1 a0.1.toNat).1)).bind fun t7 => ((impl_puts.f k ((el (.pair (.int .i64) (.int .i64)) a1 a0.1.toNat).1)).bind fun t8 => (if 8 < (w64 ((w64 ((a0.2.length : Int) - t7)) + t8)) then (some 4) else (some 0))))) else none) else none) else ((impl_takes.f k ((el (.pair (.int .i64) (.int .i64)) a1 a0.1.toNat).1)).bind fun t9 => ((impl_puts.f k ((el (.pair (.int .i64) (.int .i64)) a1 a0.1.toNat).1)).bind fun t10 => (if 8 < (w64 ((w64 ((a0.2.length : Int) - t9)) + t10)) then (some 4) else (some 0))))))) else none) else none) else (if ((el (.pair (.int .i64) (.int .i64)) a1 a0.1.toNat).1) = 7 then (if 0 ≤ w64 ((a0.2.length : Int) - 1) then (if w64 ((a0.2.length : Int) - 1) < (a0.2.length : Int) then (if (el (.int .i64) a0.2 ((w64 ((a0.2.length : Int) - 1)).toNat)) = 0 then (some 3) else ((impl_takes.f k ((el (.pair (.int .i64) (.int .i64)) a1 a0.1.toNat).1)).bind fun t11 => ((impl_puts.f k ((el (.pair (.int .i64) (.int .i64)) a1 a0.1.toNat).1)).bind fun t12 => (if 8 < (w64 ((w64 ((a0.2.length : Int) - t11)) + t12)) then (some 4) else (some 0))))) else none) else none) else ((impl_takes.f k ((el (.pair (.int .i64) (.int .i64)) a1 a0.1.toNat).1)).bind fun t13 => ((impl_puts.f k ((el (.pair (.int .i64) (.int .i64)) a1 a0.1.toNat).1)).bind fun t14 => (if 8 < (w64 ((w64 ((a0.2.length : Int) - t13)) + t14)) then (some 4) else (some 0)))))))) else none) else none) else (if ((el (.pair (.int .i64) (.int .i64)) a1 a0.1.toNat).1) = 3 then (if 0 ≤ w64 ((a0.2.length : Int) - 2) then (if w64 ((a0.2.length : Int) - 2) < (a0.2.length : Int) then ((impl_cellAt.f k a2 a3 (w64 ((el (.int .i64) a0.2 ((w64 ((a0.2.length : Int) - 2)).toNat)) + ((el (.pair (.int .i64) (.int .i64)) a1 a0.1.toNat).2)))).bind fun t15 => (if t15 < 0 then (some 2) else (if ((el (.pair (.int .i64) (.int .i64)) a1 a0.1.toNat).1) = 7 then (if 0 ≤ w64 ((a0.2.length : Int) - 1) then (if w64 ((a0.2.length : Int) - 1) < (a0.2.length : Int) then (if (el (.int .i64) a0.2 ((w64 ((a0.2.length : Int) - 1)).toNat)) = 0 then (some 3) else ((impl_takes.f k ((el (.pair (.int .i64) (.int .i64)) a1 a0.1.toNat).1)).bind fun t16 => ((impl_puts.f k ((el (.pair (.int .i64) (.int .i64)) a1 a0.1.toNat).1)).bind fun t17 => (if 8 < (w64 ((w64 ((a0.2.length : Int) - t16)) + t17)) then (some 4) else (some 0))))) else none) else none) else ((impl_takes.f k ((el (.pair (.int .i64) (.int .i64)) a1 a0.1.toNat).1)).bind fun t18 => ((impl_puts.f k ((el (.pair (.int .i64) (.int .i64)) a1 a0.1.toNat).1)).bind fun t19 => (if 8 < (w64 ((w64 ((a0.2.length : Int) - t18)) + t19)) then (some 4) else (some 0))))))) else none) else none) else (if ((el (.pair (.int .i64) (.int .i64)) a1 a0.1.toNat).1) = 7 then (if 0 ≤ w64 ((a0.2.length : Int) - 1) then (if w64 ((a0.2.length : Int) - 1) < (a0.2.length : Int) then (if (el (.int .i64) a0.2 ((w64 ((a0.2.length : Int) - 1)).toNat)) = 0 then (some 3) else ((impl_takes.f k ((el (.pair (.int .i64) (.int .i64)) a1 a0.1.toNat).1)).bind fun t20 => ((impl_puts.f k ((el (.pair (.int .i64) (.int .i64)) a1 a0.1.toNat).1)).bind fun t21 => (if 8 < (w64 ((w64 ((a0.2.length : Int) - t20)) + t21)) then (some 4) else (some 0))))) else none) else none) else ((impl_takes.f k ((el (.pair (.int .i64) (.int .i64)) a1 a0.1.toNat).1)).bind fun t22 => ((impl_puts.f k ((el (.pair (.int .i64) (.int .i64)) a1 a0.1.toNat).1)).bind fun t23 => (if 8 < (w64 ((w64 ((a0.2.length : Int) - t22)) + t23)) then (some 4) else (some 0))))))))))) else none) else none)))))
def impl_trapOf.sig : Sig := ⟨[.val true (.pair (.int .i64) (.sl 3 (.int .i64))) [0], .val false (.sl 46 (.pair (.int .i64) (.int .i64))) [0], .val true (.sl 3 (.int .i64)) [0], .val true (.pair (.int .i64) (.int .i64)) []], [.val false (.int .i64) []]⟩
def impl_trapOf.F (k : Nat) (x : Args impl_trapOf.sig.ps) : Option (Res impl_trapOf.sig) := impl_trapOf.f k x.1 x.2.1 x.2.2.1 x.2.2.2.1
def impl_trapOf.ann (k : Nat) : Ann (Res impl_trapOf.sig) := .nil
def impl_trapOf.ent : Ent := ⟨91, impl_trapOf.sig, impl_trapOf.F⟩
def impl_trapOf.ctx (k : Nat) : Ctx := ⟨tds, [impl_CpuOk.ent, impl_CodeOk.ent, impl_takes.ent, impl_cellAt.ent, impl_hasOp.ent, impl_puts.ent], k, 107⟩
theorem impl_trapOf.runs (k : Nat) (x : Args impl_trapOf.sig.ps) : impl_trapOf.F k x = runF (impl_trapOf.ctx k) impl_trapOf.sig Try.f91 (Try.f91.body.getD .skip) (impl_trapOf.ann k) x := by kernel_rfl
theorem impl_trapOf.obls (k : Nat) : obl (impl_trapOf.ctx k) 3 (Try.f91.body.getD .skip) (impl_trapOf.ann k) (retK tds impl_trapOf.sig Try.f91.results.toList) := ⟨trivial, ⟨⟨trivial, ⟨⟨trivial, trivial⟩, trivial⟩⟩, ⟨trivial, ⟨trivial, ⟨⟨trivial, ⟨⟨trivial, trivial⟩, ⟨trivial, ⟨⟨trivial, trivial⟩, ⟨trivial, ⟨⟨trivial, trivial⟩, ⟨trivial, ⟨⟨trivial, trivial⟩, ⟨trivial, ⟨⟨trivial, trivial⟩, ⟨trivial, ⟨⟨trivial, trivial⟩, trivial⟩⟩⟩⟩⟩⟩⟩⟩⟩⟩⟩⟩, ⟨trivial, trivial⟩⟩⟩⟩⟩⟩
theorem impl_trapOf.ok (k : Nat) : EntOk Try.prog k impl_trapOf.ent := fn_ok (C := impl_trapOf.ctx k) Try.func91 (by kernel_rfl) (by kernel_rfl) mixed tdsOk (.cons (impl_CpuOk.ok k) (.cons (impl_CodeOk.ok k) (.cons (impl_takes.ok k) (.cons (impl_cellAt.ok k) (.cons (impl_hasOp.ok k) (.cons (impl_puts.ok k) EntsOk.nil)))))) (by kernel_rfl) (Nat.le_of_ble_eq_true (by kernel_rfl)) (by kernel_rfl) (impl_trapOf.runs k) (impl_trapOf.obls k)
/-! (*loop.example/g00200/impl.Cpu).taken -/
def impl_Cpu_taken.f (k : Nat) (a0 : Int × List Int) (a1 : Int) : Option (List Int × Int × List Int) :=
  if 0 ≤ w64 ((a0.2.length : Int) - a1) then (if w64 ((a0.2.length : Int) - a1) ≤ (a0.2.length : Int) then ((impl_copyInts.f k (a0.2.drop ((w64 ((a0.2.length : Int) - a1)).toNat))).bind fun t1 => (if 0 ≤ w64 ((a0.2.length : Int) - a1) then (if w64 ((a0.2.length : Int) - a1) ≤ (a0.2.length : Int) then (some (t1, (a0.1, a0.2.take ((w64 ((a0.2.length : Int) - a1)).toNat)))) else none) else none)) else none) else none
def impl_Cpu_taken.sig : Sig := ⟨[.ptr 59 (.pair (.int .i64) (.sl 3 (.int .i64))) [2], .val false (.int .i64) []], [.val false (.sl 3 (.int .i64)) [none]]⟩
def impl_Cpu_taken.F (k : Nat) (x : Args impl_Cpu_taken.sig.ps) : Option (Res impl_Cpu_taken.sig) := impl_Cpu_taken.f k x.1 x.2.1
def impl_Cpu_taken.ann (k : Nat) : Ann (Res impl_Cpu_taken.sig) := .nil
def impl_Cpu_taken.ent : Ent := ⟨92, impl_Cpu_taken.sig, impl_Cpu_taken.F⟩
def impl_Cpu_taken.ctx (k : Nat) : Ctx := ⟨tds, [impl_copyInts.ent], k, 31⟩
theorem impl_Cpu_taken.runs (k : Nat) (x : Args impl_Cpu_taken.sig.ps) : impl_Cpu_taken.F k x = runF (impl_Cpu_taken.ctx k) impl_Cpu_taken.sig Try.f92 (Try.f92.body.getD .skip) (impl_Cpu_taken.ann k) x := by kernel_rfl
theorem impl_Cpu_taken.obls (k : Nat) : obl (impl_Cpu_taken.ctx k) 2 (Try.f92.body.getD .skip) (impl_Cpu_taken.ann k) (retK tds impl_Cpu_taken.sig Try.f92.results.toList) := ⟨trivial, ⟨trivial, ⟨trivial, ⟨trivial, ⟨trivial, trivial⟩⟩⟩⟩⟩
theorem impl_Cpu_taken.ok (k : Nat) : EntOk Try.prog k impl_Cpu_taken.ent := fn_ok (C := impl_Cpu_taken.ctx k) Try.func92 (by kernel_rfl) (by kernel_rfl) mixed tdsOk (.cons (impl_copyInts.ok k) EntsOk.nil) (by kernel_rfl) (Nat.le_of_ble_eq_true (by kernel_rfl)) (by kernel_rfl) (impl_Cpu_taken.runs k) (impl_Cpu_taken.obls k)
/-! (*loop.example/g00200/impl.Cpu).put -/
def impl_Cpu_put.f (k : Nat) (a0 : Int × List Int) (a1 : Int) : Option (Int × List Int) :=
  ((some ([a1] : List Int))).bind fun y1 => (if (a0.2.length + y1.length) * 8 ≤ 140737488355328 then (((some (a0.2 ++ y1))).bind fun y2 => (some (a0.1, y2))) else none)
def impl_Cpu_put.sig : Sig := ⟨[.ptr 59 (.pair (.int .i64) (.sl 3 (.int .i64))) [2], .val false (.int .i64) []], []⟩
def impl_Cpu_put.F (k : Nat) (x : Args impl_Cpu_put.sig.ps) : Option (Res impl_Cpu_put.sig) := impl_Cpu_put.f k x.1 x.2.1
def impl_Cpu_put.ann (k : Nat) : Ann (Res impl_Cpu_put.sig) := .nil
def impl_Cpu_put.ent : Ent := ⟨94, impl_Cpu_put.sig, impl_Cpu_put.F⟩
def impl_Cpu_put.ctx (k : Nat) : Ctx := ⟨tds, [], k, 14⟩
theorem impl_Cpu_put.runs (k : Nat) (x : Args impl_Cpu_put.sig.ps) : impl_Cpu_put.F k x = runF (impl_Cpu_put.ctx k) impl_Cpu_put.sig Try.f94 (Try.f94.body.getD .skip) (impl_Cpu_put.ann k) x := by kernel_rfl
theorem impl_Cpu_put.obls (k : Nat) : obl (impl_Cpu_put.ctx k) 2 (Try.f94.body.getD .skip) (impl_Cpu_put.ann k) (retK tds impl_Cpu_put.sig Try.f94.results.toList) := trivial
theorem impl_Cpu_put.ok (k : Nat) : EntOk Try.prog k impl_Cpu_put.ent := fn_ok (C := impl_Cpu_put.ctx k) Try.func94 (by kernel_rfl) (by kernel_rfl) mixed tdsOk EntsOk.nil (by kernel_rfl) (Nat.le_of_ble_eq_true (by kernel_rfl)) (by kernel_rfl) (impl_Cpu_put.runs k) (impl_Cpu_put.obls k)
/-! loop.example/g00200/impl.modulo -/
def impl_modulo.f (k : Nat) (a0 : Int) (a1 : Int) : Option (Int) :=
  if ¬ a1 = 0 then (if ¬ a1 = 0 then (some (Int.tmod (w64 ((Int.tmod a0 a1) + a1)) a1)) else none) else none
def impl_modulo.sig : Sig := ⟨[.val false (.int .i64) [], .val false (.int .i64) []], [.val false (.int .i64) []]⟩
def impl_modulo.F (k : Nat) (x : Args impl_modulo.sig.ps) : Option (Res impl_modulo.sig) := impl_modulo.f k x.1 x.2.1
def impl_modulo.ann (k : Nat) : Ann (Res impl_modulo.sig) := .nil
def impl_modulo.ent : Ent := ⟨95, impl_modulo.sig, impl_modulo.F⟩
def impl_modulo.ctx (k : Nat) : Ctx := ⟨tds, [], k, 12⟩
theorem impl_modulo.runs (k : Nat) (x : Args impl_modulo.sig.ps) : impl_modulo.F k x = runF (impl_modulo.ctx k) impl_modulo.sig Try.f95 (Try.f95.body.getD .skip) (impl_modulo.ann k) x := by kernel_rfl
theorem impl_modulo.obls (k : Nat) : obl (impl_modulo.ctx k) 0 (Try.f95.body.getD .skip) (impl_modulo.ann k) (retK tds impl_modulo.sig Try.f95.results.toList) := ⟨trivial, ⟨trivial, trivial⟩⟩
theorem impl_modulo.ok (k : Nat) : EntOk Try.prog k impl_modulo.ent := fn_ok (C := impl_modulo.ctx k) Try.func95 (by kernel_rfl) (by kernel_rfl) mixed tdsOk EntsOk.nil (by kernel_rfl) (Nat.le_of_ble_eq_true (by kernel_rfl)) (by kernel_rfl) (impl_modulo.runs k) (impl_modulo.obls k)
/-! loop.example/g00200/impl.computed -/
def impl_computed.f (k : Nat) (a0 : Int) (a1 : Int) (a2 : Int) : Option (Int) :=
  if a0 = 4 then ((impl_modulo.f k (w64 (a1 + a2)) 65536).bind fun t1 => (some t1)) else (if a0 = 5 then ((impl_modulo.f k (w64 (a1 - a2)) 65536).bind fun t2 => (some t2)) else (if a0 = 6 then ((impl_modulo.f k (w64 (a1 * a2)) 65536).bind fun t3 => (some t3)) else (if a0 = 7 then (if ¬ a2 = 0 then (some (w64 (Int.tdiv a1 a2))) else none) else (if a1 < a2 then (some 1) else (some 0)))))
def impl_computed.sig : Sig := ⟨[.val false (.int .i64) [], .val false (.int .i64) [], .val false (.int .i64) []], [.val false (.int .i64) []]⟩
def impl_computed.F (k : Nat) (x : Args impl_computed.sig.ps) : Option (Res impl_computed.sig) := impl_computed.f k x.1 x.2.1 x.2.2.1
def impl_computed.ann (k : Nat) : Ann (Res impl_computed.sig) := .nil
def impl_computed.ent : Ent := ⟨97, impl_computed.sig, impl_computed.F⟩
def impl_computed.ctx (k : Nat) : Ctx := ⟨tds, [impl_modulo.ent], k, 34⟩
theorem impl_computed.runs (k : Nat) (x : Args impl_computed.sig.ps) : impl_computed.F k x = runF (impl_computed.ctx k) impl_computed.sig Try.f97 (Try.f97.body.getD .skip) (impl_computed.ann k) x := by kernel_rfl
theorem impl_computed.obls (k : Nat) : obl (impl_computed.ctx k) 0 (Try.f97.body.getD .skip) (impl_computed.ann k) (retK tds impl_computed.sig Try.f97.results.toList) := ⟨trivial, ⟨⟨trivial, ⟨trivial, ⟨⟨trivial, trivial⟩, ⟨trivial, ⟨⟨trivial, trivial⟩, ⟨trivial, ⟨⟨trivial, trivial⟩, ⟨trivial, ⟨⟨trivial, trivial⟩, trivial⟩⟩⟩⟩⟩⟩⟩⟩⟩, ⟨⟨trivial, ⟨⟨trivial, trivial⟩, trivial⟩⟩, ⟨trivial, trivial⟩⟩⟩⟩
theorem impl_computed.ok (k : Nat) : EntOk Try.prog k impl_computed.ent := fn_ok (C := impl_computed.ctx k) Try.func97 (by kernel_rfl) (by kernel_rfl) mixed tdsOk (.cons (impl_modulo.ok k) EntsOk.nil) (by kernel_rfl) (Nat.le_of_ble_eq_true (by kernel_rfl)) (by kernel_rfl) (impl_computed.runs k) (impl_computed.obls k)
/-! loop.example/g00200/impl.StepCpu -/
def impl_StepCpu.j3 (k : Nat)  : Int × Int × Bool × Int × Int × Int × Int × Int × Int × Int × Int × Int × Int × Int × Int × List Int × List Int × List Int × List Int × Unit → Option ((Int × List Int) × List Int × Int × Int × Int × Int)
  | (z1, z2, z3, z4, z5, z6, z7, z8, z9, z10, z11, z12, z13, z14, z15, z16, z17, z18, z19, _) => if z3 = true then (some ((z9, z18), z19, (z10, (z11, (0, 0))))) else (if z2 = 17 then ((impl_modulo.f k z1 65536).bind fun t16 => ((impl_Cpu_put.f k (z9, z18) t16).bind fun t17 => (some (t17, z19, (z12, (z13, (z14, z15))))))) else (some ((z9, z18), z19, (z12, (z13, (z14, z15))))))
def impl_StepCpu.j2 (k : Nat)  : Int × Int × Bool × Int × Int × Int × Int × Int × Int × Int × Int × Int × Int × Int × Int × List Int × List Int × List Int × List Int × List Int × Unit → Option ((Int × List Int) × List Int × Int × Int × Int × Int)
  | (z1, z2, z3, z4, z5, z6, z7, z8, z9, z10, z11, z12, z13, z14, z15, z16, z17, z18, z19, z20, _) => if z3 = true then (if 0 ≤ 0 then (if 0 < (z20.length : Int) then (some ((z9, z18), z19, (z10, (z11, (el (.int .i64) z20 0, 0))))) else none) else none) else (if z2 = 14 then (impl_StepCpu.j3 k (z1, z2, true, z4, z5, z6, z7, z8, z9, z10, z11, z12, z13, z14, z15, z16, z17, z18, z19, ())) else (impl_StepCpu.j3 k (z1, z2, decide (z2 = 15), z4, z5, z6, z7, z8, z9, z10, z11, z12, z13, z14, z15, z16, z17, z18, z19, ())))
def impl_StepCpu.j1 (k : Nat)  : Int × Int × Bool × Int × Int × Int × Int × Int × Int × Int × Int × Int × Int × Int × Int × List Int × List Int × List Int × List Int × List Int × Unit → Option ((Int × List Int) × List Int × Int × Int × Int × Int)
  | (z1, z2, z3, z4, z5, z6, z7, z8, z9, z10, z11, z12, z13, z14, z15, z16, z17, z18, z19, z20, _) => if z3 = true then (if 0 ≤ 0 then (if 0 < (z20.length : Int) then (if 0 ≤ 1 then (if 1 < (z20.length : Int) then ((impl_computed.f k z10 (el (.int .i64) z20 0) (el (.int .i64) z20 1)).bind fun t12 => ((impl_Cpu_put.f k (z9, z18) t12).bind fun t13 => (some (t13, z19, (z12, (z13, (z14, z15))))))) else none) else none) else none) else none) else (if z2 = 9 then (some ((min z11 60, z18), z19, (z12, (z13, (z14, z15))))) else (if z2 = 10 then (if 0 ≤ 0 then (if 0 < (z20.length : Int) then (if (el (.int .i64) z20 0) = 0 then (some ((min z11 60, z18), z19, (z12, (z13, (z14, z15))))) else (some ((z9, z18), z19, (z12, (z13, (z14, z15)))))) else none) else none) else (if z2 = 11 then (if 0 ≤ 0 then (if 0 < (z20.length : Int) then ((impl_Cpu_put.f k (z9, z18) (el (.int .i64) z20 0)).bind fun t14 => (if 0 ≤ 0 then (if 0 < (z20.length : Int) then ((impl_Cpu_put.f k t14 (el (.int .i64) z20 0)).bind fun t15 => (some (t15, z19, (z12, (z13, (z14, z15)))))) else none) else none)) else none) else none) else (if z2 = 13 then (impl_StepCpu.j2 k (z1, z2, true, z4, z5, z6, z7, z8, z9, z10, z11, z12, z13, z14, z15, z16, z17, z18, z19, z20, ())) else (impl_StepCpu.j2 k (z1, z2, decide (z2 = 16), z4, z5, z6, z7, z8, z9, z10, z11, z12, z13, z14, z15, z16, z17, z18, z19, z20, ()))))))
def impl_StepCpu.f (k : Nat) (a0 : Int × List Int) (a1 : List (Int × Int)) (a2 : List Int) (a3 : Int × Int) (a4 : Int) : Option ((Int × List Int) × List Int × Int × Int × Int × Int) :=
  (impl_copyCpu.f k a0).bind fun t1 => ((impl_copyArena.f k a2).bind fun t2 => ((impl_trapOf.f k a0 a1 a2 a3).bind fun t3 => (if ¬ t3 = 0 then (some (t1, t2, (0, (0, (0, t3))))) else (if 0 ≤ a0.1 then (if a0.1 < (a1.length : Int) then ((impl_takes.f k ((el (.pair (.int .i64) (.int .i64)) a1 a0.1.toNat).1)).bind fun t4 => ((impl_Cpu_taken.f k t1 t4).bind fun t5 => (if ((el (.pair (.int .i64) (.int .i64)) a1 a0.1.toNat).1) = 1 then ((impl_Cpu_put.f k (w64 (t5.2.1 + 1), t5.2.2) ((el (.pair (.int .i64) (.int .i64)) a1 a0.1.toNat).2)).bind fun t6 => (some (t6, t2, (0, (0, (0, 0)))))) else (if ((el (.pair (.int .i64) (.int .i64)) a1 a0.1.toNat).1) = 2 then (if 0 ≤ 0 then (if 0 < (t5.1.length : Int) then ((impl_cellAt.f k a2 a3 (w64 ((el (.int .i64) t5.1 0) + ((el (.pair (.int .i64) (.int .i64)) a1 a0.1.toNat).2)))).bind fun t7 => (if 0 ≤ t7 then (if t7 < (a2.length : Int) then ((impl_modulo.f k (el (.int .i64) a2 t7.toNat) 65536).bind fun t8 => ((impl_Cpu_put.f k (w64 (t5.2.1 + 1), t5.2.2) t8).bind fun t9 => (some (t9, t2, (0, (0, (0, 0))))))) else none) else none)) else none) else none) else (if ((el (.pair (.int .i64) (.int .i64)) a1 a0.1.toNat).1) = 3 then (if 0 ≤ 0 then (if 0 < (t5.1.length : Int) then ((impl_cellAt.f k a2 a3 (w64 ((el (.int .i64) t5.1 0) + ((el (.pair (.int .i64) (.int .i64)) a1 a0.1.toNat).2)))).bind fun t10 => (if 0 ≤ 1 then (if 1 < (t5.1.length : Int) then (if 0 ≤ t10 then (if t10 < (t2.length : Int) then (((some (t2.set t10.toNat (el (.int .i64) t5.1 1)))).bind fun y11 => (some ((w64 (t5.2.1 + 1), t5.2.2), y11, (0, (0, (0, 0)))))) else none) else none) else none) else none)) else none) else none) else (if ((el (.pair (.int .i64) (.int .i64)) a1 a0.1.toNat).1) = 4 then (impl_StepCpu.j1 k (a4, (el (.pair (.int .i64) (.int .i64)) a1 a0.1.toNat).1, true, 0, 0, 0, 0, 0, w64 (t5.2.1 + 1), (el (.pair (.int .i64) (.int .i64)) a1 a0.1.toNat).1, (el (.pair (.int .i64) (.int .i64)) a1 a0.1.toNat).2, 0, 0, 0, 0, [], [], t5.2.2, t2, t5.1, ())) else (if ((el (.pair (.int .i64) (.int .i64)) a1 a0.1.toNat).1) = 5 then (impl_StepCpu.j1 k (a4, (el (.pair (.int .i64) (.int .i64)) a1 a0.1.toNat).1, true, 0, 0, 0, 0, 0, w64 (t5.2.1 + 1), (el (.pair (.int .i64) (.int .i64)) a1 a0.1.toNat).1, (el (.pair (.int .i64) (.int .i64)) a1 a0.1.toNat).2, 0, 0, 0, 0, [], [], t5.2.2, t2, t5.1, ())) else (if ((el (.pair (.int .i64) (.int .i64)) a1 a0.1.toNat).1) = 6 then (impl_StepCpu.j1 k (a4, (el (.pair (.int .i64) (.int .i64)) a1 a0.1.toNat).1, true, 0, 0, 0, 0, 0, w64 (t5.2.1 + 1), (el (.pair (.int .i64) (.int .i64)) a1 a0.1.toNat).1, (el (.pair (.int .i64) (.int .i64)) a1 a0.1.toNat).2, 0, 0, 0, 0, [], [], t5.2.2, t2, t5.1, ())) else (if ((el (.pair (.int .i64) (.int .i64)) a1 a0.1.toNat).1) = 7 then (impl_StepCpu.j1 k (a4, (el (.pair (.int .i64) (.int .i64)) a1 a0.1.toNat).1, true, 0, 0, 0, 0, 0, w64 (t5.2.1 + 1), (el (.pair (.int .i64) (.int .i64)) a1 a0.1.toNat).1, (el (.pair (.int .i64) (.int .i64)) a1 a0.1.toNat).2, 0, 0, 0, 0, [], [], t5.2.2, t2, t5.1, ())) else (impl_StepCpu.j1 k (a4, (el (.pair (.int .i64) (.int .i64)) a1 a0.1.toNat).1, decide (((el (.pair (.int .i64) (.int .i64)) a1 a0.1.toNat).1) = 8), 0, 0, 0, 0, 0, w64 (t5.2.1 + 1), (el (.pair (.int .i64) (.int .i64)) a1 a0.1.toNat).1, (el (.pair (.int .i64) (.int .i64)) a1 a0.1.toNat).2, 0, 0, 0, 0, [], [], t5.2.2, t2, t5.1, ()))))))))))) else none) else none))))
def impl_StepCpu.Sj1 : Shape := ⟨[(4, false, [.int .i64]), (10, false, [.ptr 3 0]), (11, false, [.ptr 5 0]), (12, false, [.ptr 7 0]), (13, false, [.ptr 8 0]), (14, false, [.ptr 10 0]), (16, false, [.ptr 12 0]), (17, false, [.own 13]), (18, false, [.ptr 14 0]), (49, false, [.int .i64]), (89, false, [.bool])], [(3, .blk 59 [.int .i64, .own 4]), (5, .blk 50 [.own 6]), (7, .blk 63 [.int .i64, .int .i64, .int .i64, .int .i64]), (8, .blk 59 [.int .i64, .own 9]), (10, .blk 50 [.own 11]), (12, .blk 46 [.int .i64, .int .i64]), (14, .blk 63 [.int .i64, .int .i64, .int .i64, .int .i64]), (4, .row 3 (.int .i64)), (6, .row 3 (.int .i64)), (9, .row 3 (.int .i64)), (11, .row 3 (.int .i64)), (13, .row 3 (.int .i64))], 15⟩
def impl_StepCpu.Sj2 : Shape := ⟨[(4, false, [.int .i64]), (10, false, [.ptr 3 0]), (11, false, [.ptr 5 0]), (12, false, [.ptr 7 0]), (13, false, [.ptr 8 0]), (14, false, [.ptr 10 0]), (16, false, [.ptr 12 0]), (17, false, [.own 13]), (18, false, [.ptr 14 0]), (49, false, [.int .i64]), (131, false, [.bool])], [(3, .blk 59 [.int .i64, .own 4]), (5, .blk 50 [.own 6]), (7, .blk 63 [.int .i64, .int .i64, .int .i64, .int .i64]), (8, .blk 59 [.int .i64, .own 9]), (10, .blk 50 [.own 11]), (12, .blk 46 [.int .i64, .int .i64]), (14, .blk 63 [.int .i64, .int .i64, .int .i64, .int .i64]), (4, .row 3 (.int .i64)), (6, .row 3 (.int .i64)), (9, .row 3 (.int .i64)), (11, .row 3 (.int .i64)), (13, .row 3 (.int .i64))], 15⟩
def impl_StepCpu.Sj3 : Shape := ⟨[(4, false, [.int .i64]), (10, false, [.ptr 3 0]), (11, false, [.ptr 5 0]), (12, false, [.ptr 7 0]), (13, false, [.ptr 8 0]), (14, false, [.ptr 10 0]), (16, false, [.ptr 12 0]), (18, false, [.ptr 13 0]), (49, false, [.int .i64]), (142, false, [.bool])], [(3, .blk 59 [.int .i64, .own 4]), (5, .blk 50 [.own 6]), (7, .blk 63 [.int .i64, .int .i64, .int .i64, .int .i64]), (8, .blk 59 [.int .i64, .own 9]), (10, .blk 50 [.own 11]), (12, .blk 46 [.int .i64, .int .i64]), (13, .blk 63 [.int .i64, .int .i64, .int .i64, .int .i64]), (4, .row 3 (.int .i64)), (6, .row 3 (.int .i64)), (9, .row 3 (.int .i64)), (11, .row 3 (.int .i64))], 14⟩
def impl_StepCpu.sig : Sig := ⟨[.val true (.pair (.int .i64) (.sl 3 (.int .i64))) [0], .val false (.sl 46 (.pair (.int .i64) (.int .i64))) [0], .val true (.sl 3 (.int .i64)) [0], .val true (.pair (.int .i64) (.int .i64)) [], .val false (.int .i64) []], [.val true (.pair (.int .i64) (.sl 3 (.int .i64))) [none], .val true (.sl 3 (.int .i64)) [none], .val true (.pair (.int .i64) (.pair (.int .i64) (.pair (.int .i64) (.int .i64)))) []]⟩
def impl_StepCpu.F (k : Nat) (x : Args impl_StepCpu.sig.ps) : Option (Res impl_StepCpu.sig) := impl_StepCpu.f k x.1 x.2.1 x.2.2.1 x.2.2.2.1 x.2.2.2.2.1
def impl_StepCpu.ann (k : Nat) : Ann (Res impl_StepCpu.sig) := (.seq .nil (.seq .nil (.seq .nil (.seq .nil (.seq .nil (.seq .nil (.seq .nil (.seq .nil (.seq (.seq .nil (.block (.seq .nil (.cond .nil (.seq .nil (.cond .nil (.seq .nil (.cond .nil (.join impl_StepCpu.Sj1 (impl_StepCpu.j1 k) .nil (.cond .nil (.seq .nil (.cond .nil (.seq .nil (.cond .nil (.seq .nil (.cond .nil (.join impl_StepCpu.Sj2 (impl_StepCpu.j2 k) .nil (.cond .nil (.join impl_StepCpu.Sj3 (impl_StepCpu.j3 k) .nil .nil))))))))))))))))))) .nil)))))))))
def impl_StepCpu.ent : Ent := ⟨28, impl_StepCpu.sig, impl_StepCpu.F⟩
def impl_StepCpu.ctx (k : Nat) : Ctx := ⟨tds, [impl_copyArena.ent, impl_copyCpu.ent, impl_trapOf.ent, impl_Cpu_taken.ent, impl_takes.ent, impl_Cpu_put.ent, impl_modulo.ent, impl_cellAt.ent, impl_computed.ent], k, 158⟩
theorem impl_StepCpu.runs (k : Nat) (x : Args impl_StepCpu.sig.ps) : impl_StepCpu.F k x = runF (impl_StepCpu.ctx k) impl_StepCpu.sig Try.f28 (Try.f28.body.getD .skip) (impl_StepCpu.ann k) x := by kernel_rfl
theorem impl_StepCpu.obls (k : Nat) : obl (impl_StepCpu.ctx k) 3 (Try.f28.body.getD .skip) (impl_StepCpu.ann k) (retK tds impl_StepCpu.sig Try.f28.results.toList) := ⟨trivial, ⟨trivial, ⟨trivial, ⟨⟨trivial, ⟨⟨trivial, trivial⟩, trivial⟩⟩, ⟨trivial, ⟨trivial, ⟨trivial, ⟨trivial, ⟨⟨trivial, ⟨trivial, ⟨trivial, ⟨trivial, ⟨trivial, ⟨trivial, ⟨trivial, ⟨⟨by kernel_rfl, fun x => by kernel_rfl⟩, ⟨trivial, ⟨trivial, ⟨trivial, ⟨trivial, ⟨trivial, ⟨trivial, ⟨trivial, ⟨trivial, trivial⟩⟩⟩⟩⟩⟩⟩⟩, ⟨trivial, ⟨trivial, ⟨trivial, ⟨trivial, ⟨⟨trivial, ⟨trivial, trivial⟩⟩, ⟨trivial, ⟨⟨trivial, trivial⟩, ⟨⟨by kernel_rfl, fun x => by kernel_rfl⟩, ⟨trivial, ⟨trivial, trivial⟩⟩, ⟨trivial, ⟨⟨by kernel_rfl, fun x => by kernel_rfl⟩, ⟨trivial, ⟨trivial, trivial⟩⟩, ⟨trivial, ⟨trivial, ⟨trivial, trivial⟩⟩⟩⟩⟩⟩⟩⟩⟩⟩⟩⟩⟩⟩⟩⟩⟩⟩⟩⟩⟩, ⟨trivial, trivial⟩⟩⟩⟩⟩⟩⟩⟩⟩⟩
theorem impl_StepCpu.ok (k : Nat) : EntOk Try.prog k impl_StepCpu.ent := fn_ok (C := impl_StepCpu.ctx k) Try.func28 (by kernel_rfl) (by kernel_rfl) mixed tdsOk (.cons (impl_copyArena.ok k) (.cons (impl_copyCpu.ok k) (.cons (impl_trapOf.ok k) (.cons (impl_Cpu_taken.ok k) (.cons (impl_takes.ok k) (.cons (impl_Cpu_put.ok k) (.cons (impl_modulo.ok k) (.cons (impl_cellAt.ok k) (.cons (impl_computed.ok k) EntsOk.nil))))))))) (by kernel_rfl) (Nat.le_of_ble_eq_true (by kernel_rfl)) (by kernel_rfl) (impl_StepCpu.runs k) (impl_StepCpu.obls k)
/-! loop.example/g00200/impl.answersOf -/
def impl_answersOf.f (k : Nat) (a0 : Int) : Option (Int) :=
  if a0 = 13 then (some 1) else (if a0 = 15 then (some 1) else (if a0 = 14 then (some 2) else (some 0)))
def impl_answersOf.sig : Sig := ⟨[.val false (.int .i64) []], [.val false (.int .i64) []]⟩
def impl_answersOf.F (k : Nat) (x : Args impl_answersOf.sig.ps) : Option (Res impl_answersOf.sig) := impl_answersOf.f k x.1
def impl_answersOf.ann (k : Nat) : Ann (Res impl_answersOf.sig) := .nil
def impl_answersOf.ent : Ent := ⟨79, impl_answersOf.sig, impl_answersOf.F⟩
def impl_answersOf.ctx (k : Nat) : Ctx := ⟨tds, [], k, 9⟩
theorem impl_answersOf.runs (k : Nat) (x : Args impl_answersOf.sig.ps) : impl_answersOf.F k x = runF (impl_answersOf.ctx k) impl_answersOf.sig Try.f79 (Try.f79.body.getD .skip) (impl_answersOf.ann k) x := by kernel_rfl
theorem impl_answersOf.obls (k : Nat) : obl (impl_answersOf.ctx k) 0 (Try.f79.body.getD .skip) (impl_answersOf.ann k) (retK tds impl_answersOf.sig Try.f79.results.toList) := ⟨trivial, ⟨⟨trivial, ⟨⟨trivial, ⟨trivial, trivial⟩⟩, ⟨⟨trivial, trivial⟩, ⟨trivial, ⟨⟨trivial, trivial⟩, trivial⟩⟩⟩⟩⟩, ⟨trivial, trivial⟩⟩⟩
theorem impl_answersOf.ok (k : Nat) : EntOk Try.prog k impl_answersOf.ent := fn_ok (C := impl_answersOf.ctx k) Try.func79 (by kernel_rfl) (by kernel_rfl) mixed tdsOk EntsOk.nil (by kernel_rfl) (Nat.le_of_ble_eq_true (by kernel_rfl)) (by kernel_rfl) (impl_answersOf.runs k) (impl_answersOf.obls k)
/-! loop.example/g00200/impl.Answer -/
def impl_Answer.f (k : Nat) (a0 : Int × List Int) (a1 : Int) : Option ((Int × List Int) × Bool) :=
  (impl_copyCpu.f k a0).bind fun t1 => ((impl_CpuOk.f k a0).bind fun t2 => (if ¬ t2 = true then (some (t1, false)) else (if (a0.2.length : Int) = 8 then (some (t1, false)) else ((impl_modulo.f k a1 65536).bind fun t3 => ((impl_Cpu_put.f k t1 t3).bind fun t4 => (some (t4, true)))))))
def impl_Answer.sig : Sig := ⟨[.val true (.pair (.int .i64) (.sl 3 (.int .i64))) [0], .val false (.int .i64) []], [.val true (.pair (.int .i64) (.sl 3 (.int .i64))) [none], .val false .bool []]⟩
def impl_Answer.F (k : Nat) (x : Args impl_Answer.sig.ps) : Option (Res impl_Answer.sig) := impl_Answer.f k x.1 x.2.1
def impl_Answer.ann (k : Nat) : Ann (Res impl_Answer.sig) := .nil
def impl_Answer.ent : Ent := ⟨34, impl_Answer.sig, impl_Answer.F⟩
def impl_Answer.ctx (k : Nat) : Ctx := ⟨tds, [impl_CpuOk.ent, impl_copyCpu.ent, impl_Cpu_put.ent, impl_modulo.ent], k, 23⟩
theorem impl_Answer.runs (k : Nat) (x : Args impl_Answer.sig.ps) : impl_Answer.F k x = runF (impl_Answer.ctx k) impl_Answer.sig Try.f34 (Try.f34.body.getD .skip) (impl_Answer.ann k) x := by kernel_rfl
theorem impl_Answer.obls (k : Nat) : obl (impl_Answer.ctx k) 1 (Try.f34.body.getD .skip) (impl_Answer.ann k) (retK tds impl_Answer.sig Try.f34.results.toList) := ⟨trivial, ⟨trivial, ⟨⟨trivial, ⟨⟨trivial, trivial⟩, trivial⟩⟩, ⟨trivial, ⟨trivial, trivial⟩⟩⟩⟩⟩
theorem impl_Answer.ok (k : Nat) : EntOk Try.prog k impl_Answer.ent := fn_ok (C := impl_Answer.ctx k) Try.func34 (by kernel_rfl) (by kernel_rfl) mixed tdsOk (.cons (impl_CpuOk.ok k) (.cons (impl_copyCpu.ok k) (.cons (impl_Cpu_put.ok k) (.cons (impl_modulo.ok k) EntsOk.nil)))) (by kernel_rfl) (Nat.le_of_ble_eq_true (by kernel_rfl)) (by kernel_rfl) (impl_Answer.runs k) (impl_Answer.obls k)
/-! loop.example/g00200/impl.RunCost -/
def impl_RunCost.l2 (k : Nat) (c0 : Int × Int × Int × Int × Int × (List (Int × Int)) × List Int × List Int × Unit → Option (Int × Int)) : Nat → Int × Int × Int × Int × Int × Int × Int × Int × (List (Int × Int)) × List Int × List Int × List Int × List Int × Unit → Option (Int × Int)
  | 0, _ => none
  | n + 1, (x1, x2, x3, x4, x5, x6, x7, x8, x9, x10, x11, x12, x13, _) => if x4 < x3 then ((impl_Answer.f k (x8, x12) 0).bind fun t6 => (if ¬ t6.2 = true then (some (x2, 4)) else (impl_RunCost.l2 k c0 n (x1, x2, x3, w64 (x4 + 1), x5, x6, x7, t6.1.1, x9, x10, x11, t6.1.2, x13, ())))) else (c0 (x1, x2, x5, x6, x8, x9, x12, x13, ()))
def impl_RunCost.l1 (k : Nat)  : Nat → Int × Int × Int × Int × Int × (List (Int × Int)) × List Int × List Int × Unit → Option (Int × Int)
  | 0, _ => none
  | n + 1, (x1, x2, x3, x4, x5, x6, x7, x8, _) => if x5 < (x6.length : Int) then (if 0 ≤ x5 then (if x5 < (x6.length : Int) then ((impl_CostOf.f k ((el (.pair (.int .i64) (.int .i64)) x6 x5.toNat).1)).bind fun t2 => (if x1 < (w64 (x2 + t2)) then (some (x2, 0)) else ((impl_CostOf.f k ((el (.pair (.int .i64) (.int .i64)) x6 x5.toNat).1)).bind fun t3 => ((impl_StepCpu.f k (x5, x7) x6 x8 (x3, x4) 0).bind fun t4 => (if ¬ t4.2.2.2.2.2 = 0 then (some (w64 (x2 + t3), t4.2.2.2.2.2)) else (if ((el (.pair (.int .i64) (.int .i64)) x6 x5.toNat).1) = 0 then (some (w64 (x2 + t3), 0)) else ((impl_answersOf.f k ((el (.pair (.int .i64) (.int .i64)) x6 x5.toNat).1)).bind fun t5 => (impl_RunCost.l2 k (impl_RunCost.l1 k n) k (x1, w64 (x2 + t3), t5, 0, x3, x4, x5, t4.1.1, x6, x7, x8, t4.1.2, t4.2.1, ()))))))))) else none) else none) else (some (x2, 0))
def impl_RunCost.f (k : Nat) (a0 : List (Int × Int)) (a1 : List Int) (a2 : Int × Int) (a3 : Int) : Option (Int × Int) :=
  (impl_copyArena.f k a1).bind fun t1 => (impl_RunCost.l1 k k (min a3 5000, 0, a2.1, a2.2, 0, a0, [], t1, ()))
def impl_RunCost.Sl1 : Shape := ⟨[(0, false, [.own 0]), (3, false, [.int .i64]), (6, false, [.ptr 2 0]), (10, false, [.ptr 3 0]), (11, false, [.ptr 5 0]), (12, false, [.int .i64])], [(2, .blk 53 [.int .i64, .int .i64]), (3, .blk 59 [.int .i64, .own 4]), (5, .blk 50 [.own 6]), (0, .view false 46 (.pair (.int .i64) (.int .i64))), (4, .row 3 (.int .i64)), (6, .row 3 (.int .i64))], 7⟩
def impl_RunCost.Sl2 : Shape := ⟨[(0, false, [.own 0]), (3, false, [.int .i64]), (6, false, [.ptr 2 0]), (10, false, [.ptr 3 0]), (11, false, [.ptr 5 0]), (12, false, [.int .i64]), (14, false, [.ptr 7 0]), (15, false, [.ptr 9 0]), (63, false, [.int .i64]), (64, false, [.int .i64])], [(2, .blk 53 [.int .i64, .int .i64]), (3, .blk 59 [.int .i64, .own 4]), (5, .blk 50 [.own 6]), (7, .blk 59 [.int .i64, .own 8]), (9, .blk 50 [.own 10]), (0, .view false 46 (.pair (.int .i64) (.int .i64))), (4, .row 3 (.int .i64)), (6, .row 3 (.int .i64)), (8, .row 3 (.int .i64)), (10, .row 3 (.int .i64))], 11⟩
def impl_RunCost.sig : Sig := ⟨[.val false (.sl 46 (.pair (.int .i64) (.int .i64))) [0], .val true (.sl 3 (.int .i64)) [0], .val true (.pair (.int .i64) (.int .i64)) [], .val false (.int .i64) []], [.val false (.int .i64) [], .val false (.int .i64) []]⟩
def impl_RunCost.F (k : Nat) (x : Args impl_RunCost.sig.ps) : Option (Res impl_RunCost.sig) := impl_RunCost.f k x.1 x.2.1 x.2.2.1 x.2.2.2.1
def impl_RunCost.ann (k : Nat) : Ann (Res impl_RunCost.sig) := (.seq .nil (.seq .nil (.seq .nil (.seq .nil (.seq (.block (.loop impl_RunCost.Sl1 (impl_RunCost.l1 k) fun n1 => (.seq .nil (.block (.seq .nil (.seq .nil (.seq .nil (.seq .nil (.seq .nil (.seq .nil (.seq (.seq .nil (.block (.loop impl_RunCost.Sl2 (impl_RunCost.l2 k (impl_RunCost.l1 k n1)) fun n2 => .nil))) .nil))))))))))) .nil)))))
def impl_RunCost.ent : Ent := ⟨21, impl_RunCost.sig, impl_RunCost.F⟩
def impl_RunCost.ctx (k : Nat) : Ctx := ⟨tds, [impl_StepCpu.ent, impl_Answer.ent, impl_copyArena.ent, impl_CostOf.ent, impl_answersOf.ent], k, 79⟩
theorem impl_RunCost.runs (k : Nat) (x : Args impl_RunCost.sig.ps) : impl_RunCost.F k x = runF (impl_RunCost.ctx k) impl_RunCost.sig Try.f21 (Try.f21.body.getD .skip) (impl_RunCost.ann k) x := by kernel_rfl
theorem impl_RunCost.obls (k : Nat) : obl (impl_RunCost.ctx k) 2 (Try.f21.body.getD .skip) (impl_RunCost.ann k) (retK tds impl_RunCost.sig Try.f21.results.toList) := ⟨trivial, ⟨trivial, ⟨trivial, ⟨trivial, ⟨⟨⟨by kernel_rfl, fun x => by kernel_rfl⟩, fun n => ⟨fun x => by kernel_rfl, ⟨⟨trivial, ⟨trivial, trivial⟩⟩, ⟨trivial, ⟨⟨trivial, ⟨trivial, trivial⟩⟩, ⟨trivial, ⟨trivial, ⟨⟨trivial, ⟨⟨trivial, trivial⟩, trivial⟩⟩, ⟨⟨trivial, ⟨trivial, trivial⟩⟩, ⟨⟨trivial, ⟨⟨by kernel_rfl, fun x => by kernel_rfl⟩, fun n => ⟨fun x => by kernel_rfl, ⟨trivial, ⟨⟨trivial, trivial⟩, ⟨⟨trivial, ⟨⟨trivial, ⟨⟨trivial, trivial⟩, trivial⟩⟩, trivial⟩⟩, trivial⟩⟩⟩⟩⟩⟩, trivial⟩⟩⟩⟩⟩⟩⟩⟩⟩⟩, ⟨trivial, trivial⟩⟩⟩⟩⟩⟩
theorem impl_RunCost.ok (k : Nat) : EntOk Try.prog k impl_RunCost.ent := fn_ok (C := impl_RunCost.ctx k) Try.func21 (by kernel_rfl) (by kernel_rfl) mixed tdsOk (.cons (impl_StepCpu.ok k) (.cons (impl_Answer.ok k) (.cons (impl_copyArena.ok k) (.cons (impl_CostOf.ok k) (.cons (impl_answersOf.ok k) EntsOk.nil))))) (by kernel_rfl) (Nat.le_of_ble_eq_true (by kernel_rfl)) (by kernel_rfl) (impl_RunCost.runs k) (impl_RunCost.obls k)
/-! loop.example/g00200/impl.Forward -/
def impl_Forward.l1 (k : Nat)  : Nat → Int × Int × (List (Int × Int)) × Unit → Option (Bool)
  | 0, _ => none
  | n + 1, (x1, x2, x3, _) => if x2 < x1 then (if 0 ≤ x2 then (if x2 < (x3.length : Int) then (if ((el (.pair (.int .i64) (.int .i64)) x3 x2.toNat).1) = 9 then (if ((el (.pair (.int .i64) (.int .i64)) x3 x2.toNat).2) ≤ x2 then (some false) else (impl_Forward.l1 k n (x1, w64 (x2 + 1), x3, ()))) else (if ((el (.pair (.int .i64) (.int .i64)) x3 x2.toNat).1) = 10 then (if ((el (.pair (.int .i64) (.int .i64)) x3 x2.toNat).2) ≤ x2 then (some false) else (impl_Forward.l1 k n (x1, w64 (x2 + 1), x3, ()))) else (impl_Forward.l1 k n (x1, w64 (x2 + 1), x3, ())))) else none) else none) else ((impl_CodeOk.f k x3).bind fun t1 => (some t1))
def impl_Forward.f (k : Nat) (a0 : List (Int × Int)) : Option (Bool) :=
  impl_Forward.l1 k k ((a0.length : Int), 0, a0, ())
def impl_Forward.Sl1 : Shape := ⟨[(0, false, [.own 0]), (5, false, [.own 0]), (6, false, [.int .i64]), (7, false, [.int .i64])], [(0, .view false 46 (.pair (.int .i64) (.int .i64)))], 1⟩
def impl_Forward.sig : Sig := ⟨[.val false (.sl 46 (.pair (.int .i64) (.int .i64))) [0]], [.val false .bool []]⟩
def impl_Forward.F (k : Nat) (x : Args impl_Forward.sig.ps) : Option (Res impl_Forward.sig) := impl_Forward.f k x.1
def impl_Forward.ann (k : Nat) : Ann (Res impl_Forward.sig) := (.seq .nil (.seq (.seq .nil (.block (.loop impl_Forward.Sl1 (impl_Forward.l1 k) fun n1 => .nil))) .nil))
def impl_Forward.ent : Ent := ⟨25, impl_Forward.sig, impl_Forward.F⟩
def impl_Forward.ctx (k : Nat) : Ctx := ⟨tds, [impl_CodeOk.ent], k, 29⟩
theorem impl_Forward.runs (k : Nat) (x : Args impl_Forward.sig.ps) : impl_Forward.F k x = runF (impl_Forward.ctx k) impl_Forward.sig Try.f25 (Try.f25.body.getD .skip) (impl_Forward.ann k) x := by kernel_rfl
theorem impl_Forward.obls (k : Nat) : obl (impl_Forward.ctx k) 1 (Try.f25.body.getD .skip) (impl_Forward.ann k) (retK tds impl_Forward.sig Try.f25.results.toList) := ⟨trivial, ⟨⟨trivial, ⟨⟨by kernel_rfl, fun x => by kernel_rfl⟩, fun n => ⟨fun x => by kernel_rfl, ⟨trivial, ⟨⟨trivial, trivial⟩, ⟨⟨trivial, ⟨trivial, ⟨⟨trivial, trivial⟩, trivial⟩⟩⟩, trivial⟩⟩⟩⟩⟩⟩, ⟨trivial, trivial⟩⟩⟩
theorem impl_Forward.ok (k : Nat) : EntOk Try.prog k impl_Forward.ent := fn_ok (C := impl_Forward.ctx k) Try.func25 (by kernel_rfl) (by kernel_rfl) mixed tdsOk (.cons (impl_CodeOk.ok k) EntsOk.nil) (by kernel_rfl) (Nat.le_of_ble_eq_true (by kernel_rfl)) (by kernel_rfl) (impl_Forward.runs k) (impl_Forward.obls k)
/-! loop.example/g00200/impl.WorstCost -/
def impl_WorstCost.j2 (k : Nat) (c0 : Int × (List (Int × Int)) × List Int × Unit → Option (Int × Bool)) : Int × Int × Int × Int × (List (Int × Int)) × List Int × Unit → Option (Int × Bool)
  | (z1, z2, z3, z4, z5, z6, _) => (impl_CostOf.f k z3).bind fun t3 => (if 0 ≤ z1 then (if z1 < (z6.length : Int) then (((some (z6.set z1.toNat (w64 (t3 + z2))))).bind fun y4 => (c0 (w64 (z1 - 1), z5, y4, ()))) else none) else none)
def impl_WorstCost.l1 (k : Nat)  : Nat → Int × (List (Int × Int)) × List Int × Unit → Option (Int × Bool)
  | 0, _ => none
  | n + 1, (x1, x2, x3, _) => if 0 ≤ x1 then (if 0 ≤ x1 then (if x1 < (x2.length : Int) then (if 0 ≤ w64 (x1 + 1) then (if w64 (x1 + 1) < (x3.length : Int) then (if ((el (.pair (.int .i64) (.int .i64)) x2 x1.toNat).1) = 0 then (impl_WorstCost.j2 k (impl_WorstCost.l1 k n) (x1, 0, (el (.pair (.int .i64) (.int .i64)) x2 x1.toNat).1, (el (.pair (.int .i64) (.int .i64)) x2 x1.toNat).2, x2, x3, ())) else (if ((el (.pair (.int .i64) (.int .i64)) x2 x1.toNat).1) = 9 then (if 0 ≤ (el (.pair (.int .i64) (.int .i64)) x2 x1.toNat).2 then (if (el (.pair (.int .i64) (.int .i64)) x2 x1.toNat).2 < (x3.length : Int) then (impl_WorstCost.j2 k (impl_WorstCost.l1 k n) (x1, el (.int .i64) x3 (((el (.pair (.int .i64) (.int .i64)) x2 x1.toNat).2).toNat), (el (.pair (.int .i64) (.int .i64)) x2 x1.toNat).1, (el (.pair (.int .i64) (.int .i64)) x2 x1.toNat).2, x2, x3, ())) else none) else none) else (if ((el (.pair (.int .i64) (.int .i64)) x2 x1.toNat).1) = 10 then (if 0 ≤ (el (.pair (.int .i64) (.int .i64)) x2 x1.toNat).2 then (if (el (.pair (.int .i64) (.int .i64)) x2 x1.toNat).2 < (x3.length : Int) then (impl_WorstCost.j2 k (impl_WorstCost.l1 k n) (x1, max (el (.int .i64) x3 ((w64 (x1 + 1)).toNat)) (el (.int .i64) x3 (((el (.pair (.int .i64) (.int .i64)) x2 x1.toNat).2).toNat)), (el (.pair (.int .i64) (.int .i64)) x2 x1.toNat).1, (el (.pair (.int .i64) (.int .i64)) x2 x1.toNat).2, x2, x3, ())) else none) else none) else (impl_WorstCost.j2 k (impl_WorstCost.l1 k n) (x1, el (.int .i64) x3 ((w64 (x1 + 1)).toNat), (el (.pair (.int .i64) (.int .i64)) x2 x1.toNat).1, (el (.pair (.int .i64) (.int .i64)) x2 x1.toNat).2, x2, x3, ()))))) else none) else none) else none) else none) else (if 0 ≤ 0 then (if 0 < (x3.length : Int) then (some (el (.int .i64) x3 0, true)) else none) else none)
def impl_WorstCost.f (k : Nat) (a0 : List (Int × Int)) : Option (Int × Bool) :=
  (impl_Forward.f k a0).bind fun t1 => (if ¬ t1 = true then (some (0, false)) else (if 257 = 257 then (if 0 ≤ 257 then (if 257 * 8 ≤ 281474976710656 then (((some (List.replicate 257 0 : List Int))).bind fun y2 => (impl_WorstCost.l1 k k (w64 ((a0.length : Int) - 1), a0, y2, ()))) else none) else none) else none))
def impl_WorstCost.Sl1 : Shape := ⟨[(0, false, [.own 0]), (4, false, [.own 1]), (5, false, [.int .i64])], [(0, .view false 46 (.pair (.int .i64) (.int .i64))), (1, .row 3 (.int .i64))], 2⟩
def impl_WorstCost.Sj2 : Shape := ⟨[(0, false, [.own 0]), (4, false, [.own 1]), (5, false, [.int .i64]), (6, false, [.ptr 2 0]), (7, false, [.int .i64])], [(2, .blk 46 [.int .i64, .int .i64]), (0, .view false 46 (.pair (.int .i64) (.int .i64))), (1, .row 3 (.int .i64))], 3⟩
def impl_WorstCost.sig : Sig := ⟨[.val false (.sl 46 (.pair (.int .i64) (.int .i64))) [0]], [.val false (.int .i64) [], .val false .bool []]⟩
def impl_WorstCost.F (k : Nat) (x : Args impl_WorstCost.sig.ps) : Option (Res impl_WorstCost.sig) := impl_WorstCost.f k x.1
def impl_WorstCost.ann (k : Nat) : Ann (Res impl_WorstCost.sig) := (.seq .nil (.seq .nil (.seq .nil (.seq (.seq .nil (.block (.loop impl_WorstCost.Sl1 (impl_WorstCost.l1 k) fun n1 => (.seq .nil (.seq (.block (.seq .nil (.seq .nil (.join impl_WorstCost.Sj2 (impl_WorstCost.j2 k (impl_WorstCost.l1 k n1)) .nil .nil)))) .nil))))) .nil))))
def impl_WorstCost.ent : Ent := ⟨23, impl_WorstCost.sig, impl_WorstCost.F⟩
def impl_WorstCost.ctx (k : Nat) : Ctx := ⟨tds, [impl_Forward.ent, impl_CostOf.ent], k, 59⟩
theorem impl_WorstCost.runs (k : Nat) (x : Args impl_WorstCost.sig.ps) : impl_WorstCost.F k x = runF (impl_WorstCost.ctx k) impl_WorstCost.sig Try.f23 (Try.f23.body.getD .skip) (impl_WorstCost.ann k) x := by kernel_rfl
theorem impl_WorstCost.obls (k : Nat) : obl (impl_WorstCost.ctx k) 1 (Try.f23.body.getD .skip) (impl_WorstCost.ann k) (retK tds impl_WorstCost.sig Try.f23.results.toList) := ⟨trivial, ⟨⟨trivial, ⟨⟨trivial, trivial⟩, trivial⟩⟩, ⟨trivial, ⟨⟨trivial, ⟨⟨by kernel_rfl, fun x => by kernel_rfl⟩, fun n => ⟨fun x => by kernel_rfl, ⟨⟨trivial, ⟨trivial, trivial⟩⟩, ⟨⟨trivial, ⟨trivial, ⟨⟨by kernel_rfl, fun x => by kernel_rfl⟩, ⟨trivial, ⟨trivial, ⟨trivial, ⟨trivial, ⟨trivial, ⟨trivial, ⟨trivial, trivial⟩⟩⟩⟩⟩⟩⟩, trivial⟩⟩⟩, trivial⟩⟩⟩⟩⟩, ⟨trivial, trivial⟩⟩⟩⟩⟩
theorem impl_WorstCost.ok (k : Nat) : EntOk Try.prog k impl_WorstCost.ent := fn_ok (C := impl_WorstCost.ctx k) Try.func23 (by kernel_rfl) (by kernel_rfl) mixed tdsOk (.cons (impl_Forward.ok k) (.cons (impl_CostOf.ok k) EntsOk.nil)) (by kernel_rfl) (Nat.le_of_ble_eq_true (by kernel_rfl)) (by kernel_rfl) (impl_WorstCost.runs k) (impl_WorstCost.obls k)
/-! loop.example/g00200/spec.l01Once -/
def spec_l01Once.f (k : Nat) (a0 : List Int × Int × Int) (a1 : Int) : Option (Bool × List Int × Int × Int) :=
  (spec_l01Below.f k a0 a1).bind fun t1 => (some (decide (t1.1 = 0), (a0.1, t1.2.2)))
def spec_l01Once.sig : Sig := ⟨[.ptr 188 (.pair (.sl 5 (.int .u8)) (.pair (.int .i64) (.int .i64))) [0], .val false (.int .i64) []], [.val false .bool []]⟩
def spec_l01Once.F (k : Nat) (x : Args spec_l01Once.sig.ps) : Option (Res spec_l01Once.sig) := spec_l01Once.f k x.1 x.2.1
def spec_l01Once.ann (k : Nat) : Ann (Res spec_l01Once.sig) := .nil
def spec_l01Once.ent : Ent := ⟨80, spec_l01Once.sig, spec_l01Once.F⟩
def spec_l01Once.ctx (k : Nat) : Ctx := ⟨tds, [spec_l01Below.ent], k, 9⟩
theorem spec_l01Once.runs (k : Nat) (x : Args spec_l01Once.sig.ps) : spec_l01Once.F k x = runF (spec_l01Once.ctx k) spec_l01Once.sig Try.f80 (Try.f80.body.getD .skip) (spec_l01Once.ann k) x := by kernel_rfl
theorem spec_l01Once.obls (k : Nat) : obl (spec_l01Once.ctx k) 2 (Try.f80.body.getD .skip) (spec_l01Once.ann k) (retK tds spec_l01Once.sig Try.f80.results.toList) := ⟨trivial, ⟨trivial, trivial⟩⟩
theorem spec_l01Once.ok (k : Nat) : EntOk Try.prog k spec_l01Once.ent := fn_ok (C := spec_l01Once.ctx k) Try.func80 (by kernel_rfl) (by kernel_rfl) mixed tdsOk (.cons (spec_l01Below.ok k) EntsOk.nil) (by kernel_rfl) (Nat.le_of_ble_eq_true (by kernel_rfl)) (by kernel_rfl) (spec_l01Once.runs k) (spec_l01Once.obls k)
/-! loop.example/g00200/spec.l01PickInt -/
def spec_l01PickInt.f (k : Nat) (a0 : List Int × Int × Int) (a1 : List Int) : Option (Int × List Int × Int × Int) :=
  (spec_l01Below.f k a0 (a1.length : Int)).bind fun t1 => (if 0 ≤ t1.1 then (if t1.1 < (a1.length : Int) then (some (el (.int .i64) a1 t1.1.toNat, (a0.1, t1.2.2))) else none) else none)
def spec_l01PickInt.sig : Sig := ⟨[.ptr 188 (.pair (.sl 5 (.int .u8)) (.pair (.int .i64) (.int .i64))) [0], .val false (.sl 3 (.int .i64)) [0]], [.val false (.int .i64) []]⟩
def spec_l01PickInt.F (k : Nat) (x : Args spec_l01PickInt.sig.ps) : Option (Res spec_l01PickInt.sig) := spec_l01PickInt.f k x.1 x.2.1
def spec_l01PickInt.ann (k : Nat) : Ann (Res spec_l01PickInt.sig) := .nil
def spec_l01PickInt.ent : Ent := ⟨138, spec_l01PickInt.sig, spec_l01PickInt.F⟩
def spec_l01PickInt.ctx (k : Nat) : Ctx := ⟨tds, [spec_l01Below.ent], k, 12⟩
theorem spec_l01PickInt.runs (k : Nat) (x : Args spec_l01PickInt.sig.ps) : spec_l01PickInt.F k x = runF (spec_l01PickInt.ctx k) spec_l01PickInt.sig Try.f138 (Try.f138.body.getD .skip) (spec_l01PickInt.ann k) x := by kernel_rfl
theorem spec_l01PickInt.obls (k : Nat) : obl (spec_l01PickInt.ctx k) 3 (Try.f138.body.getD .skip) (spec_l01PickInt.ann k) (retK tds spec_l01PickInt.sig Try.f138.results.toList) := ⟨trivial, ⟨trivial, trivial⟩⟩
theorem spec_l01PickInt.ok (k : Nat) : EntOk Try.prog k spec_l01PickInt.ent := fn_ok (C := spec_l01PickInt.ctx k) Try.func138 (by kernel_rfl) (by kernel_rfl) mixed tdsOk (.cons (spec_l01Below.ok k) EntsOk.nil) (by kernel_rfl) (Nat.le_of_ble_eq_true (by kernel_rfl)) (by kernel_rfl) (spec_l01PickInt.runs k) (spec_l01PickInt.obls k)
/-! loop.example/g00200/spec.l05Instr -/
def spec_l05Instr.j2 (k : Nat)  : Int × Int × Int × Int × Int × Int × List Int × Unit → Option ((Int × Int) × List Int × Int × Int)
  | (z1, z2, z3, z4, z5, z6, z7, _) => (spec_l01Once.f k (z7, (z1, z2)) 40).bind fun t7 => (if t7.1 = true then ((spec_l01Below.f k (z7, t7.2.2) 256).bind fun t8 => (some ((t8.1, z6), (z7, t8.2.2)))) else (some ((z5, z6), (z7, t7.2.2))))
def spec_l05Instr.j1 (k : Nat)  : Int × Int × Int × Int × Int × Int × List Int × Unit → Option ((Int × Int) × List Int × Int × Int)
  | (z1, z2, z3, z4, z5, z6, z7, _) => if z5 = 9 then ((spec_l01Below.f k (z7, (z1, z2)) 14).bind fun t5 => (spec_l05Instr.j2 k (t5.2.2.1, t5.2.2.2, z3, z4, z5, t5.1, z7, ()))) else (if z5 = 10 then ((spec_l01Below.f k (z7, (z1, z2)) 14).bind fun t6 => (spec_l05Instr.j2 k (t6.2.2.1, t6.2.2.2, z3, z4, z5, t6.1, z7, ()))) else (spec_l05Instr.j2 k (z1, z2, z3, z4, z5, z6, z7, ())))
def spec_l05Instr.f (k : Nat) (a0 : List Int × Int × Int) : Option ((Int × Int) × List Int × Int × Int) :=
  ((some ([0, 1, 1, 1, 1, 1, 2, 3, 3, 4, 5, 6, 7, 8, 9, 10, 11, 12, 13, 14, 15, 16, 17] : List Int))).bind fun y1 => ((spec_l01PickInt.f k a0 y1).bind fun t2 => ((spec_l01Below.f k (a0.1, t2.2.2) 4).bind fun t3 => (if t2.1 = 1 then ((spec_l01Below.f k (a0.1, t3.2.2) 8).bind fun t4 => (spec_l05Instr.j1 k (t4.2.2.1, t4.2.2.2, 0, 0, t2.1, t4.1, a0.1, ()))) else (spec_l05Instr.j1 k (t3.2.2.1, t3.2.2.2, 0, 0, t2.1, t3.1, a0.1, ())))))
def spec_l05Instr.Sj1 : Shape := ⟨[(0, false, [.ptr 0 0]), (2, false, [.ptr 2 0]), (3, false, [.ptr 3 0])], [(0, .blk 188 [.own 1, .int .i64, .int .i64]), (2, .blk 46 [.int .i64, .int .i64]), (3, .blk 46 [.int .i64, .int .i64]), (1, .view false 5 (.int .u8))], 4⟩
def spec_l05Instr.Sj2 : Shape := ⟨[(0, false, [.ptr 0 0]), (2, false, [.ptr 2 0]), (3, false, [.ptr 3 0])], [(0, .blk 188 [.own 1, .int .i64, .int .i64]), (2, .blk 46 [.int .i64, .int .i64]), (3, .blk 46 [.int .i64, .int .i64]), (1, .view false 5 (.int .u8))], 4⟩
def spec_l05Instr.sig : Sig := ⟨[.ptr 188 (.pair (.sl 5 (.int .u8)) (.pair (.int .i64) (.int .i64))) [0]], [.val true (.pair (.int .i64) (.int .i64)) []]⟩
def spec_l05Instr.F (k : Nat) (x : Args spec_l05Instr.sig.ps) : Option (Res spec_l05Instr.sig) := spec_l05Instr.f k x.1
def spec_l05Instr.ann (k : Nat) : Ann (Res spec_l05Instr.sig) := (.seq .nil (.seq .nil (.join spec_l05Instr.Sj1 (spec_l05Instr.j1 k) .nil (.join spec_l05Instr.Sj2 (spec_l05Instr.j2 k) .nil .nil))))
def spec_l05Instr.ent : Ent := ⟨191, spec_l05Instr.sig, spec_l05Instr.F⟩
def spec_l05Instr.ctx (k : Nat) : Ctx := ⟨tds, [spec_l01Below.ent, spec_l01Once.ent, spec_l01PickInt.ent], k, 33⟩
theorem spec_l05Instr.runs (k : Nat) (x : Args spec_l05Instr.sig.ps) : spec_l05Instr.F k x = runF (spec_l05Instr.ctx k) spec_l05Instr.sig Try.f191 (Try.f191.body.getD .skip) (spec_l05Instr.ann k) x := by kernel_rfl
theorem spec_l05Instr.obls (k : Nat) : obl (spec_l05Instr.ctx k) 2 (Try.f191.body.getD .skip) (spec_l05Instr.ann k) (retK tds spec_l05Instr.sig Try.f191.results.toList) := ⟨trivial, ⟨trivial, ⟨⟨by kernel_rfl, fun x => by kernel_rfl⟩, ⟨trivial, ⟨trivial, trivial⟩⟩, ⟨⟨by kernel_rfl, fun x => by kernel_rfl⟩, ⟨trivial, ⟨trivial, trivial⟩⟩, ⟨⟨trivial, ⟨trivial, trivial⟩⟩, ⟨trivial, trivial⟩⟩⟩⟩⟩⟩
theorem spec_l05Instr.ok (k : Nat) : EntOk Try.prog k spec_l05Instr.ent := fn_ok (C := spec_l05Instr.ctx k) Try.func191 (by kernel_rfl) (by kernel_rfl) mixed tdsOk (.cons (spec_l01Below.ok k) (.cons (spec_l01Once.ok k) (.cons (spec_l01PickInt.ok k) EntsOk.nil))) (by kernel_rfl) (Nat.le_of_ble_eq_true (by kernel_rfl)) (by kernel_rfl) (spec_l05Instr.runs k) (spec_l05Instr.obls k)
/-! loop.example/g00200/spec.l05Code -/
def spec_l05Code.l1 (k : Nat)  : Nat → Int × Int × Int × List Int × (List (Int × Int)) × Unit → Option ((List (Int × Int)) × List Int × Int × Int)
  | 0, _ => none
  | n + 1, (x1, x2, x3, x4, x5, _) => (spec_l01Below.f k (x4, (x2, x3)) 16).bind fun t2 => (if x1 < t2.1 then ((spec_l01Below.f k (x4, t2.2.2) 6).bind fun t3 => (if t3.1 = 0 then ((spec_l01Below.f k (x4, t3.2.2) 5).bind fun t4 => ((spec_l01Below.f k (x4, t4.2.2) 9).bind fun t5 => (((some ([(1, t4.1), (1, t5.1), (3, 0)] : List (Int × Int)))).bind fun y6 => (if (x5.length + y6.length) * 16 ≤ 140737488355328 then (((some (x5 ++ y6))).bind fun y7 => (spec_l05Code.l1 k n (w64 (x1 + 1), t5.2.2.1, t5.2.2.2, x4, y7, ()))) else none)))) else (if t3.1 = 1 then ((spec_l01Below.f k (x4, t3.2.2) 5).bind fun t8 => ((spec_l01Below.f k (x4, t8.2.2) 2).bind fun t9 => (((some ([(1, t8.1), (2, 0), (16, t9.1)] : List (Int × Int)))).bind fun y10 => (if (x5.length + y10.length) * 16 ≤ 140737488355328 then (((some (x5 ++ y10))).bind fun y11 => (spec_l05Code.l1 k n (w64 (x1 + 1), t9.2.2.1, t9.2.2.2, x4, y11, ()))) else none)))) else (if t3.1 = 2 then ((spec_l01Below.f k (x4, t3.2.2) 3).bind fun t12 => ((spec_l01Below.f k (x4, t12.2.2) 3).bind fun t13 => (((some ([(15, t12.1), (13, t13.1), (12, 0)] : List (Int × Int)))).bind fun y14 => (if (x5.length + y14.length) * 16 ≤ 140737488355328 then (((some (x5 ++ y14))).bind fun y15 => (spec_l05Code.l1 k n (w64 (x1 + 1), t13.2.2.1, t13.2.2.2, x4, y15, ()))) else none)))) else ((spec_l05Instr.f k (x4, t3.2.2)).bind fun t16 => (((some ([t16.1] : List (Int × Int)))).bind fun y17 => (if (x5.length + y17.length) * 16 ≤ 140737488355328 then (((some (x5 ++ y17))).bind fun y18 => (spec_l05Code.l1 k n (w64 (x1 + 1), t16.2.2.1, t16.2.2.2, x4, y18, ()))) else none))))))) else ((spec_l01Once.f k (x4, t2.2.2) 2).bind fun t19 => (if t19.1 = true then (((some ([(0, 0)] : List (Int × Int)))).bind fun y20 => (if (x5.length + y20.length) * 16 ≤ 140737488355328 then (((some (x5 ++ y20))).bind fun y21 => (some (y21, (x4, t19.2.2)))) else none)) else (some (x5, (x4, t19.2.2))))))
def spec_l05Code.f (k : Nat) (a0 : List Int × Int × Int) : Option ((List (Int × Int)) × List Int × Int × Int) :=
  ((some ([] : List (Int × Int)))).bind fun y1 => (spec_l05Code.l1 k k (0, a0.2.1, a0.2.2, a0.1, y1, ()))
def spec_l05Code.Sl1 : Shape := ⟨[(0, false, [.ptr 0 0]), (3, false, [.own 2]), (4, false, [.int .i64])], [(0, .blk 188 [.own 1, .int .i64, .int .i64]), (1, .view false 5 (.int .u8)), (2, .row 46 (.pair (.int .i64) (.int .i64)))], 3⟩
def spec_l05Code.sig : Sig := ⟨[.ptr 188 (.pair (.sl 5 (.int .u8)) (.pair (.int .i64) (.int .i64))) [0]], [.val false (.sl 46 (.pair (.int .i64) (.int .i64))) [none]]⟩
def spec_l05Code.F (k : Nat) (x : Args spec_l05Code.sig.ps) : Option (Res spec_l05Code.sig) := spec_l05Code.f k x.1
def spec_l05Code.ann (k : Nat) : Ann (Res spec_l05Code.sig) := (.seq .nil (.seq .nil (.seq (.seq .nil (.block (.loop spec_l05Code.Sl1 (spec_l05Code.l1 k) fun n1 => .nil))) .nil)))
def spec_l05Code.ent : Ent := ⟨162, spec_l05Code.sig, spec_l05Code.F⟩
def spec_l05Code.ctx (k : Nat) : Ctx := ⟨tds, [spec_l01Below.ent, spec_l01Once.ent, spec_l05Instr.ent], k, 62⟩
theorem spec_l05Code.runs (k : Nat) (x : Args spec_l05Code.sig.ps) : spec_l05Code.F k x = runF (spec_l05Code.ctx k) spec_l05Code.sig Try.f162 (Try.f162.body.getD .skip) (spec_l05Code.ann k) x := by kernel_rfl
theorem spec_l05Code.obls (k : Nat) : obl (spec_l05Code.ctx k) 2 (Try.f162.body.getD .skip) (spec_l05Code.ann k) (retK tds spec_l05Code.sig Try.f162.results.toList) := ⟨trivial, ⟨trivial, ⟨⟨trivial, ⟨⟨by kernel_rfl, fun x => by kernel_rfl⟩, fun n => ⟨fun x => by kernel_rfl, ⟨⟨trivial, ⟨trivial, trivial⟩⟩, ⟨⟨trivial, ⟨trivial, ⟨trivial, ⟨trivial, ⟨trivial, ⟨trivial, ⟨trivial, trivial⟩⟩⟩⟩⟩⟩⟩, trivial⟩⟩⟩⟩⟩, ⟨⟨trivial, ⟨trivial, trivial⟩⟩, ⟨trivial, trivial⟩⟩⟩⟩⟩
theorem spec_l05Code.ok (k : Nat) : EntOk Try.prog k spec_l05Code.ent := fn_ok (C := spec_l05Code.ctx k) Try.func162 (by kernel_rfl) (by kernel_rfl) mixed tdsOk (.cons (spec_l01Below.ok k) (.cons (spec_l01Once.ok k) (.cons (spec_l05Instr.ok k) EntsOk.nil))) (by kernel_rfl) (Nat.le_of_ble_eq_true (by kernel_rfl)) (by kernel_rfl) (spec_l05Code.runs k) (spec_l05Code.obls k)
/-! loop.example/g00200/spec.l05Any -/
def spec_l05Any.l1 (k : Nat)  : Nat → Int × Int × List Int × (List (Int × Int)) × Unit → Option ((List (Int × Int)) × List Int × Int × Int)
  | 0, _ => none
  | n + 1, (x1, x2, x3, x4, _) => (spec_l01Below.f k (x3, (x1, x2)) 2).bind fun t13 => (if (x4.length : Int) < (w64 (60 + t13.1)) then (((some ([(17, 0)] : List (Int × Int)))).bind fun y14 => (if (x4.length + y14.length) * 16 ≤ 140737488355328 then (((some (x4 ++ y14))).bind fun y15 => (spec_l05Any.l1 k n (t13.2.2.1, t13.2.2.2, x3, y15, ()))) else none)) else (some (x4, (x3, t13.2.2))))
def spec_l05Any.f (k : Nat) (a0 : List Int × Int × Int) : Option ((List (Int × Int)) × List Int × Int × Int) :=
  ((some ([] : List (Int × Int)))).bind fun y1 => ((spec_l05Code.f k a0).bind fun t2 => (if (y1.length + t2.1.length) * 16 ≤ 140737488355328 then (((some (y1 ++ t2.1))).bind fun y3 => ((spec_l01Below.f k (a0.1, t2.2.2) 12).bind fun t4 => (if t4.1 = 0 then (((some ([(-1), 255, 256] : List Int))).bind fun y5 => ((spec_l01PickInt.f k (a0.1, t4.2.2) y5).bind fun t6 => (((some ([(t6.1, 1)] : List (Int × Int)))).bind fun y7 => (if (y3.length + y7.length) * 16 ≤ 140737488355328 then (((some (y3 ++ y7))).bind fun y8 => (some (y8, (a0.1, t6.2.2)))) else none)))) else (if t4.1 = 1 then (((some ([(-1), 255, 256] : List Int))).bind fun y9 => ((spec_l01PickInt.f k (a0.1, t4.2.2) y9).bind fun t10 => (((some ([(1, t10.1)] : List (Int × Int)))).bind fun y11 => (if (y3.length + y11.length) * 16 ≤ 140737488355328 then (((some (y3 ++ y11))).bind fun y12 => (some (y12, (a0.1, t10.2.2)))) else none)))) else (if t4.1 = 2 then (spec_l05Any.l1 k k (t4.2.2.1, t4.2.2.2, a0.1, y3, ())) else (some (y3, (a0.1, t4.2.2)))))))) else none))
def spec_l05Any.Sl1 : Shape := ⟨[(0, false, [.ptr 0 0]), (3, false, [.own 2])], [(0, .blk 188 [.own 1, .int .i64, .int .i64]), (1, .view false 5 (.int .u8)), (2, .row 46 (.pair (.int .i64) (.int .i64)))], 3⟩
def spec_l05Any.sig : Sig := ⟨[.ptr 188 (.pair (.sl 5 (.int .u8)) (.pair (.int .i64) (.int .i64))) [0]], [.val false (.sl 46 (.pair (.int .i64) (.int .i64))) [none]]⟩
def spec_l05Any.F (k : Nat) (x : Args spec_l05Any.sig.ps) : Option (Res spec_l05Any.sig) := spec_l05Any.f k x.1
def spec_l05Any.ann (k : Nat) : Ann (Res spec_l05Any.sig) := (.seq .nil (.seq .nil (.seq (.seq .nil (.block (.seq .nil (.cond .nil (.seq .nil (.cond .nil (.seq .nil (.cond (.block (.loop spec_l05Any.Sl1 (spec_l05Any.l1 k) fun n1 => .nil)) .nil)))))))) .nil)))
def spec_l05Any.ent : Ent := ⟨81, spec_l05Any.sig, spec_l05Any.F⟩
def spec_l05Any.ctx (k : Nat) : Ctx := ⟨tds, [spec_l01Below.ent, spec_l01PickInt.ent, spec_l05Code.ent], k, 41⟩
theorem spec_l05Any.runs (k : Nat) (x : Args spec_l05Any.sig.ps) : spec_l05Any.F k x = runF (spec_l05Any.ctx k) spec_l05Any.sig Try.f81 (Try.f81.body.getD .skip) (spec_l05Any.ann k) x := by kernel_rfl
theorem spec_l05Any.obls (k : Nat) : obl (spec_l05Any.ctx k) 2 (Try.f81.body.getD .skip) (spec_l05Any.ann k) (retK tds spec_l05Any.sig Try.f81.results.toList) := ⟨trivial, ⟨trivial, ⟨⟨trivial, ⟨trivial, ⟨trivial, ⟨trivial, ⟨trivial, ⟨trivial, ⟨⟨⟨by kernel_rfl, fun x => by kernel_rfl⟩, fun n => ⟨fun x => by kernel_rfl, ⟨⟨trivial, ⟨trivial, trivial⟩⟩, trivial⟩⟩⟩, trivial⟩⟩⟩⟩⟩⟩⟩, ⟨trivial, trivial⟩⟩⟩⟩
theorem spec_l05Any.ok (k : Nat) : EntOk Try.prog k spec_l05Any.ent := fn_ok (C := spec_l05Any.ctx k) Try.func81 (by kernel_rfl) (by kernel_rfl) mixed tdsOk (.cons (spec_l01Below.ok k) (.cons (spec_l01PickInt.ok k) (.cons (spec_l05Code.ok k) EntsOk.nil))) (by kernel_rfl) (Nat.le_of_ble_eq_true (by kernel_rfl)) (by kernel_rfl) (spec_l05Any.runs k) (spec_l05Any.obls k)
/-! loop.example/g00200/spec.l07Goes -/
def spec_l07Goes.f (k : Nat) (a0 : Int × Int) : Option (Bool) :=
  if a0.1 = 9 then (some true) else (some (decide (a0.1 = 10)))
def spec_l07Goes.sig : Sig := ⟨[.val true (.pair (.int .i64) (.int .i64)) []], [.val false .bool []]⟩
def spec_l07Goes.F (k : Nat) (x : Args spec_l07Goes.sig.ps) : Option (Res spec_l07Goes.sig) := spec_l07Goes.f k x.1
def spec_l07Goes.ann (k : Nat) : Ann (Res spec_l07Goes.sig) := .nil
def spec_l07Goes.ent : Ent := ⟨84, spec_l07Goes.sig, spec_l07Goes.F⟩
def spec_l07Goes.ctx (k : Nat) : Ctx := ⟨tds, [], k, 11⟩
theorem spec_l07Goes.runs (k : Nat) (x : Args spec_l07Goes.sig.ps) : spec_l07Goes.F k x = runF (spec_l07Goes.ctx k) spec_l07Goes.sig Try.f84 (Try.f84.body.getD .skip) (spec_l07Goes.ann k) x := by kernel_rfl
theorem spec_l07Goes.obls (k : Nat) : obl (spec_l07Goes.ctx k) 0 (Try.f84.body.getD .skip) (spec_l07Goes.ann k) (retK tds spec_l07Goes.sig Try.f84.results.toList) := ⟨trivial, ⟨trivial, trivial⟩⟩
theorem spec_l07Goes.ok (k : Nat) : EntOk Try.prog k spec_l07Goes.ent := fn_ok (C := spec_l07Goes.ctx k) Try.func84 (by kernel_rfl) (by kernel_rfl) mixed tdsOk EntsOk.nil (by kernel_rfl) (Nat.le_of_ble_eq_true (by kernel_rfl)) (by kernel_rfl) (spec_l07Goes.runs k) (spec_l07Goes.obls k)
/-! loop.example/g00200/spec.l07Code -/
def spec_l07Code.l1 (k : Nat)  : Nat → Int × Int × Int × List Int × (List (Int × Int)) × Unit → Option ((List (Int × Int)) × List Int × Int × Int)
  | 0, _ => none
  | n + 1, (x1, x2, x3, x4, x5, _) => if x1 < (x5.length : Int) then (if 0 ≤ x1 then (if x1 < (x5.length : Int) then ((spec_l07Goes.f k (el (.pair (.int .i64) (.int .i64)) x5 x1.toNat)).bind fun t4 => (if t4 = true then ((spec_l01Once.f k (x4, (x2, x3)) 12).bind fun t5 => (if ¬ t5.1 = true then ((spec_l01Below.f k (x4, t5.2.2) 5).bind fun t6 => (if 0 ≤ x1 then (if x1 < (x5.length : Int) then (((some (x5.set x1.toNat ((el (.pair (.int .i64) (.int .i64)) x5 x1.toNat).1, w64 ((w64 (x1 + 1)) + t6.1))))).bind fun y7 => (spec_l07Code.l1 k n (w64 (x1 + 1), t6.2.2.1, t6.2.2.2, x4, y7, ()))) else none) else none)) else (spec_l07Code.l1 k n (w64 (x1 + 1), t5.2.2.1, t5.2.2.2, x4, x5, ())))) else (spec_l07Code.l1 k n (w64 (x1 + 1), x2, x3, x4, x5, ())))) else none) else none) else (some (x5, (x4, (x2, x3))))
def spec_l07Code.f (k : Nat) (a0 : List Int × Int × Int) : Option ((List (Int × Int)) × List Int × Int × Int) :=
  ((some ([] : List (Int × Int)))).bind fun y1 => ((spec_l05Code.f k a0).bind fun t2 => (if (y1.length + t2.1.length) * 16 ≤ 140737488355328 then (((some (y1 ++ t2.1))).bind fun y3 => (spec_l07Code.l1 k k (0, t2.2.2.1, t2.2.2.2, a0.1, y3, ()))) else none))
def spec_l07Code.Sl1 : Shape := ⟨[(0, false, [.ptr 0 0]), (3, false, [.own 2]), (4, false, [.int .i64])], [(0, .blk 188 [.own 1, .int .i64, .int .i64]), (1, .view false 5 (.int .u8)), (2, .row 46 (.pair (.int .i64) (.int .i64)))], 3⟩
def spec_l07Code.sig : Sig := ⟨[.ptr 188 (.pair (.sl 5 (.int .u8)) (.pair (.int .i64) (.int .i64))) [0]], [.val false (.sl 46 (.pair (.int .i64) (.int .i64))) [none]]⟩
def spec_l07Code.F (k : Nat) (x : Args spec_l07Code.sig.ps) : Option (Res spec_l07Code.sig) := spec_l07Code.f k x.1
def spec_l07Code.ann (k : Nat) : Ann (Res spec_l07Code.sig) := (.seq .nil (.seq .nil (.seq (.seq .nil (.block (.loop spec_l07Code.Sl1 (spec_l07Code.l1 k) fun n1 => .nil))) .nil)))
def spec_l07Code.ent : Ent := ⟨82, spec_l07Code.sig, spec_l07Code.F⟩
def spec_l07Code.ctx (k : Nat) : Ctx := ⟨tds, [spec_l01Below.ent, spec_l01Once.ent, spec_l07Goes.ent, spec_l05Code.ent], k, 35⟩
theorem spec_l07Code.runs (k : Nat) (x : Args spec_l07Code.sig.ps) : spec_l07Code.F k x = runF (spec_l07Code.ctx k) spec_l07Code.sig Try.f82 (Try.f82.body.getD .skip) (spec_l07Code.ann k) x := by kernel_rfl
theorem spec_l07Code.obls (k : Nat) : obl (spec_l07Code.ctx k) 2 (Try.f82.body.getD .skip) (spec_l07Code.ann k) (retK tds spec_l07Code.sig Try.f82.results.toList) := ⟨trivial, ⟨trivial, ⟨⟨trivial, ⟨⟨by kernel_rfl, fun x => by kernel_rfl⟩, fun n => ⟨fun x => by kernel_rfl, ⟨⟨trivial, ⟨trivial, trivial⟩⟩, ⟨⟨trivial, ⟨trivial, trivial⟩⟩, trivial⟩⟩⟩⟩⟩, ⟨trivial, trivial⟩⟩⟩⟩
theorem spec_l07Code.ok (k : Nat) : EntOk Try.prog k spec_l07Code.ent := fn_ok (C := spec_l07Code.ctx k) Try.func82 (by kernel_rfl) (by kernel_rfl) mixed tdsOk (.cons (spec_l01Below.ok k) (.cons (spec_l01Once.ok k) (.cons (spec_l07Goes.ok k) (.cons (spec_l05Code.ok k) EntsOk.nil)))) (by kernel_rfl) (Nat.le_of_ble_eq_true (by kernel_rfl)) (by kernel_rfl) (spec_l07Code.runs k) (spec_l07Code.obls k)
/-! loop.example/g00200/spec.DrawForward -/
def spec_DrawForward.f (k : Nat) (a0 : List Int) : Option (List (Int × Int)) :=
  (spec_l01New.f k a0).bind fun t1 => ((spec_l01Once.f k (a0, t1.2) 6).bind fun t2 => (if t2.1 = true then ((spec_l05Any.f k (a0, t2.2.2)).bind fun t3 => (some t3.1)) else ((spec_l07Code.f k (a0, t2.2.2)).bind fun t4 => (some t4.1))))
def spec_DrawForward.sig : Sig := ⟨[.val false (.sl 5 (.int .u8)) [0]], [.val false (.sl 46 (.pair (.int .i64) (.int .i64))) [none]]⟩
def spec_DrawForward.F (k : Nat) (x : Args spec_DrawForward.sig.ps) : Option (Res spec_DrawForward.sig) := spec_DrawForward.f k x.1
def spec_DrawForward.ann (k : Nat) : Ann (Res spec_DrawForward.sig) := .nil
def spec_DrawForward.ent : Ent := ⟨24, spec_DrawForward.sig, spec_DrawForward.F⟩
def spec_DrawForward.ctx (k : Nat) : Ctx := ⟨tds, [spec_l01New.ent, spec_l01Once.ent, spec_l05Any.ent, spec_l07Code.ent], k, 12⟩
theorem spec_DrawForward.runs (k : Nat) (x : Args spec_DrawForward.sig.ps) : spec_DrawForward.F k x = runF (spec_DrawForward.ctx k) spec_DrawForward.sig Try.f24 (Try.f24.body.getD .skip) (spec_DrawForward.ann k) x := by kernel_rfl
theorem spec_DrawForward.obls (k : Nat) : obl (spec_DrawForward.ctx k) 1 (Try.f24.body.getD .skip) (spec_DrawForward.ann k) (retK tds spec_DrawForward.sig Try.f24.results.toList) := ⟨trivial, ⟨trivial, ⟨⟨trivial, ⟨⟨trivial, trivial⟩, trivial⟩⟩, ⟨trivial, trivial⟩⟩⟩⟩
theorem spec_DrawForward.ok (k : Nat) : EntOk Try.prog k spec_DrawForward.ent := fn_ok (C := spec_DrawForward.ctx k) Try.func24 (by kernel_rfl) (by kernel_rfl) mixed tdsOk (.cons (spec_l01New.ok k) (.cons (spec_l01Once.ok k) (.cons (spec_l05Any.ok k) (.cons (spec_l07Code.ok k) EntsOk.nil)))) (by kernel_rfl) (Nat.le_of_ble_eq_true (by kernel_rfl)) (by kernel_rfl) (spec_DrawForward.runs k) (spec_DrawForward.obls k)
/-! loop.example/g00200/spec.l01In -/
def spec_l01In.f (k : Nat) (a0 : Int) (a1 : Int) (a2 : Int) : Option (Bool) :=
  if a1 ≤ a0 then (some (decide (a0 ≤ a2))) else (some false)
def spec_l01In.sig : Sig := ⟨[.val false (.int .i64) [], .val false (.int .i64) [], .val false (.int .i64) []], [.val false .bool []]⟩
def spec_l01In.F (k : Nat) (x : Args spec_l01In.sig.ps) : Option (Res spec_l01In.sig) := spec_l01In.f k x.1 x.2.1 x.2.2.1
def spec_l01In.ann (k : Nat) : Ann (Res spec_l01In.sig) := .nil
def spec_l01In.ent : Ent := ⟨106, spec_l01In.sig, spec_l01In.F⟩
def spec_l01In.ctx (k : Nat) : Ctx := ⟨tds, [], k, 15⟩
theorem spec_l01In.runs (k : Nat) (x : Args spec_l01In.sig.ps) : spec_l01In.F k x = runF (spec_l01In.ctx k) spec_l01In.sig Try.f106 (Try.f106.body.getD .skip) (spec_l01In.ann k) x := by kernel_rfl
theorem spec_l01In.obls (k : Nat) : obl (spec_l01In.ctx k) 0 (Try.f106.body.getD .skip) (spec_l01In.ann k) (retK tds spec_l01In.sig Try.f106.results.toList) := ⟨trivial, ⟨trivial, trivial⟩⟩
theorem spec_l01In.ok (k : Nat) : EntOk Try.prog k spec_l01In.ent := fn_ok (C := spec_l01In.ctx k) Try.func106 (by kernel_rfl) (by kernel_rfl) mixed tdsOk EntsOk.nil (by kernel_rfl) (Nat.le_of_ble_eq_true (by kernel_rfl)) (by kernel_rfl) (spec_l01In.runs k) (spec_l01In.obls k)
/-! loop.example/g00200/spec.CodeOk -/
def spec_CodeOk.l1 (k : Nat)  : Nat → Int × (List (Int × Int)) × Unit → Option (Bool)
  | 0, _ => none
  | n + 1, (x1, x2, _) => if x1 < (x2.length : Int) then (if 0 ≤ x1 then (if x1 < (x2.length : Int) then ((spec_l01In.f k ((el (.pair (.int .i64) (.int .i64)) x2 x1.toNat).1) 0 255).bind fun t1 => (if ¬ t1 = true then (some false) else (if 0 ≤ x1 then (if x1 < (x2.length : Int) then ((spec_l01In.f k ((el (.pair (.int .i64) (.int .i64)) x2 x1.toNat).2) 0 255).bind fun t2 => (if ¬ t2 = true then (some false) else (spec_CodeOk.l1 k n (w64 (x1 + 1), x2, ())))) else none) else none))) else none) else none) else (some (decide ((x2.length : Int) ≤ 60)))
def spec_CodeOk.f (k : Nat) (a0 : List (Int × Int)) : Option (Bool) :=
  spec_CodeOk.l1 k k (0, a0, ())
def spec_CodeOk.Sl1 : Shape := ⟨[(0, false, [.own 0]), (3, false, [.int .i64])], [(0, .view false 46 (.pair (.int .i64) (.int .i64)))], 1⟩
def spec_CodeOk.sig : Sig := ⟨[.val false (.sl 46 (.pair (.int .i64) (.int .i64))) [0]], [.val false .bool []]⟩
def spec_CodeOk.F (k : Nat) (x : Args spec_CodeOk.sig.ps) : Option (Res spec_CodeOk.sig) := spec_CodeOk.f k x.1
def spec_CodeOk.ann (k : Nat) : Ann (Res spec_CodeOk.sig) := (.seq .nil (.seq (.seq .nil (.block (.loop spec_CodeOk.Sl1 (spec_CodeOk.l1 k) fun n1 => .nil))) .nil))
def spec_CodeOk.ent : Ent := ⟨85, spec_CodeOk.sig, spec_CodeOk.F⟩
def spec_CodeOk.ctx (k : Nat) : Ctx := ⟨tds, [spec_l01In.ent], k, 29⟩
theorem spec_CodeOk.runs (k : Nat) (x : Args spec_CodeOk.sig.ps) : spec_CodeOk.F k x = runF (spec_CodeOk.ctx k) spec_CodeOk.sig Try.f85 (Try.f85.body.getD .skip) (spec_CodeOk.ann k) x := by kernel_rfl
theorem spec_CodeOk.obls (k : Nat) : obl (spec_CodeOk.ctx k) 1 (Try.f85.body.getD .skip) (spec_CodeOk.ann k) (retK tds spec_CodeOk.sig Try.f85.results.toList) := ⟨trivial, ⟨⟨trivial, ⟨⟨by kernel_rfl, fun x => by kernel_rfl⟩, fun n => ⟨fun x => by kernel_rfl, ⟨⟨trivial, ⟨trivial, trivial⟩⟩, ⟨⟨trivial, ⟨⟨trivial, trivial⟩, trivial⟩⟩, trivial⟩⟩⟩⟩⟩, ⟨trivial, trivial⟩⟩⟩
theorem spec_CodeOk.ok (k : Nat) : EntOk Try.prog k spec_CodeOk.ent := fn_ok (C := spec_CodeOk.ctx k) Try.func85 (by kernel_rfl) (by kernel_rfl) mixed tdsOk (.cons (spec_l01In.ok k) EntsOk.nil) (by kernel_rfl) (Nat.le_of_ble_eq_true (by kernel_rfl)) (by kernel_rfl) (spec_CodeOk.runs k) (spec_CodeOk.obls k)
/-! loop.example/g00200/spec.Forward -/
def spec_Forward.l1 (k : Nat)  : Nat → Int × (List (Int × Int)) × Unit → Option (Bool)
  | 0, _ => none
  | n + 1, (x1, x2, _) => if x1 < (x2.length : Int) then (if 0 ≤ x1 then (if x1 < (x2.length : Int) then ((spec_l07Goes.f k (el (.pair (.int .i64) (.int .i64)) x2 x1.toNat)).bind fun t1 => (if t1 = true then (if 0 ≤ x1 then (if x1 < (x2.length : Int) then (if ((el (.pair (.int .i64) (.int .i64)) x2 x1.toNat).2) ≤ x1 then (some false) else (spec_Forward.l1 k n (w64 (x1 + 1), x2, ()))) else none) else none) else (spec_Forward.l1 k n (w64 (x1 + 1), x2, ())))) else none) else none) else ((spec_CodeOk.f k x2).bind fun t2 => (some t2))
def spec_Forward.f (k : Nat) (a0 : List (Int × Int)) : Option (Bool) :=
  spec_Forward.l1 k k (0, a0, ())
def spec_Forward.Sl1 : Shape := ⟨[(0, false, [.own 0]), (3, false, [.int .i64])], [(0, .view false 46 (.pair (.int .i64) (.int .i64)))], 1⟩
def spec_Forward.sig : Sig := ⟨[.val false (.sl 46 (.pair (.int .i64) (.int .i64))) [0]], [.val false .bool []]⟩
def spec_Forward.F (k : Nat) (x : Args spec_Forward.sig.ps) : Option (Res spec_Forward.sig) := spec_Forward.f k x.1
def spec_Forward.ann (k : Nat) : Ann (Res spec_Forward.sig) := (.seq .nil (.seq (.seq .nil (.block (.loop spec_Forward.Sl1 (spec_Forward.l1 k) fun n1 => .nil))) .nil))
def spec_Forward.ent : Ent := ⟨26, spec_Forward.sig, spec_Forward.F⟩
def spec_Forward.ctx (k : Nat) : Ctx := ⟨tds, [spec_l07Goes.ent, spec_CodeOk.ent], k, 26⟩
theorem spec_Forward.runs (k : Nat) (x : Args spec_Forward.sig.ps) : spec_Forward.F k x = runF (spec_Forward.ctx k) spec_Forward.sig Try.f26 (Try.f26.body.getD .skip) (spec_Forward.ann k) x := by kernel_rfl
theorem spec_Forward.obls (k : Nat) : obl (spec_Forward.ctx k) 1 (Try.f26.body.getD .skip) (spec_Forward.ann k) (retK tds spec_Forward.sig Try.f26.results.toList) := ⟨trivial, ⟨⟨trivial, ⟨⟨by kernel_rfl, fun x => by kernel_rfl⟩, fun n => ⟨fun x => by kernel_rfl, ⟨⟨trivial, ⟨trivial, trivial⟩⟩, ⟨⟨trivial, ⟨⟨trivial, trivial⟩, trivial⟩⟩, trivial⟩⟩⟩⟩⟩, ⟨trivial, trivial⟩⟩⟩
theorem spec_Forward.ok (k : Nat) : EntOk Try.prog k spec_Forward.ent := fn_ok (C := spec_Forward.ctx k) Try.func26 (by kernel_rfl) (by kernel_rfl) mixed tdsOk (.cons (spec_l07Goes.ok k) (.cons (spec_CodeOk.ok k) EntsOk.nil)) (by kernel_rfl) (Nat.le_of_ble_eq_true (by kernel_rfl)) (by kernel_rfl) (spec_Forward.runs k) (spec_Forward.obls k)
end Go.Proofs.Ytcnaldcinkmpbaa.QA
