/- The plain functions of Go functions, and that each Go function does what its plain function tells. Printed by a program of this session (gen.py). -/
import Derived.Test.YtcnaldcinkmpbaaProg
import Derived.Test.YtcnaldcinkmpbaaAbDa
import Derived.KernelRfl
namespace Go.Proofs.Ytcnaldcinkmpbaa.QA
open Go Go.Proofs Go.Proofs.YtcnaldcinkmpbaaA
set_option linter.unusedVariables false
set_option maxRecDepth 100000
def tds : List (Nat × TD) := [(2, ⟨.int .i64, 1, 8, (.int .i64), false, false⟩),
  (3, ⟨.int .i64, 1, 8, (.int .i64), false, false⟩),
  (4, ⟨.bool, 1, 1, .bool, false, false⟩),
  (5, ⟨.int .u8, 1, 1, (.int .u8), false, false⟩),
  (6, ⟨.int .u8, 1, 1, (.int .u8), false, false⟩),
  (7, ⟨.struct [(0, 2), (1, 3), (2, 4), (3, 6)], 4, 24, (.pair (.int .i64) (.pair (.int .i64) (.pair .bool (.int .u8)))), true, false⟩),
  (8, ⟨.struct [(0, 2), (1, 3), (2, 4), (3, 6)], 4, 24, (.pair (.int .i64) (.pair (.int .i64) (.pair .bool (.int .u8)))), true, false⟩),
  (9, ⟨.str, 1, 16, .str, false, false⟩),
  (10, ⟨.str, 1, 16, .str, false, false⟩),
  (11, ⟨.str, 1, 16, .str, false, false⟩),
  (12, ⟨.int .u64, 1, 8, (.int .u64), false, false⟩),
  (13, ⟨.struct [(0, 9), (1, 12)], 2, 24, (.pair .str (.int .u64)), true, false⟩),
  (14, ⟨.struct [(0, 9), (1, 12)], 2, 24, (.pair .str (.int .u64)), true, false⟩),
  (21, ⟨.int .i32, 1, 4, (.int .i32), false, false⟩),
  (22, ⟨.slice 5, 1, 24, (.sl 5 (.int .u8)), false, false⟩),
  (24, ⟨.slice 53, 1, 24, (.sl 53 (.pair (.int .i64) (.int .i64))), false, false⟩),
  (25, ⟨.slice 35, 1, 24, (.sl 35 (.pair (.int .i64) (.int .i64))), false, false⟩),
  (26, ⟨.slice 42, 1, 24, (.sl 42 (.pair (.int .i64) (.pair (.int .i64) (.pair (.int .i64) (.pair (.int .i64) (.int .i64)))))), false, false⟩),
  (27, ⟨.slice 40, 1, 24, (.sl 40 (.pair (.int .i64) (.pair (.int .i64) (.int .i64)))), false, false⟩),
  (28, ⟨.slice 9, 1, 24, (.sl 9 .str), false, false⟩),
  (29, ⟨.struct [(0, 24), (1, 25), (2, 26), (3, 27), (4, 28)], 5, 120, (.pair (.sl 53 (.pair (.int .i64) (.int .i64))) (.pair (.sl 35 (.pair (.int .i64) (.int .i64))) (.pair (.sl 42 (.pair (.int .i64) (.pair (.int .i64) (.pair (.int .i64) (.pair (.int .i64) (.int .i64)))))) (.pair (.sl 40 (.pair (.int .i64) (.pair (.int .i64) (.int .i64)))) (.sl 9 .str))))), true, false⟩),
  (30, ⟨.struct [(0, 24), (1, 25), (2, 26), (3, 27), (4, 28)], 5, 120, (.pair (.sl 53 (.pair (.int .i64) (.int .i64))) (.pair (.sl 35 (.pair (.int .i64) (.int .i64))) (.pair (.sl 42 (.pair (.int .i64) (.pair (.int .i64) (.pair (.int .i64) (.pair (.int .i64) (.int .i64)))))) (.pair (.sl 40 (.pair (.int .i64) (.pair (.int .i64) (.int .i64)))) (.sl 9 .str))))), true, false⟩),
  (32, ⟨.slice 3, 1, 24, (.sl 3 (.int .i64)), false, false⟩),
  (34, ⟨.struct [(0, 3), (1, 3)], 2, 16, (.pair (.int .i64) (.int .i64)), true, false⟩),
  (35, ⟨.struct [(0, 3), (1, 3)], 2, 16, (.pair (.int .i64) (.int .i64)), true, true⟩),
  (39, ⟨.struct [(0, 3), (1, 3), (2, 3)], 3, 24, (.pair (.int .i64) (.pair (.int .i64) (.int .i64))), true, false⟩),
  (40, ⟨.struct [(0, 3), (1, 3), (2, 3)], 3, 24, (.pair (.int .i64) (.pair (.int .i64) (.int .i64))), true, false⟩),
  (41, ⟨.struct [(0, 3), (1, 3), (2, 3), (3, 3), (4, 3)], 5, 40, (.pair (.int .i64) (.pair (.int .i64) (.pair (.int .i64) (.pair (.int .i64) (.int .i64))))), true, false⟩),
  (42, ⟨.struct [(0, 3), (1, 3), (2, 3), (3, 3), (4, 3)], 5, 40, (.pair (.int .i64) (.pair (.int .i64) (.pair (.int .i64) (.pair (.int .i64) (.int .i64))))), true, false⟩),
  (44, ⟨.slice 46, 1, 24, (.sl 46 (.pair (.int .i64) (.int .i64))), false, false⟩),
  (45, ⟨.struct [(0, 3), (1, 3)], 2, 16, (.pair (.int .i64) (.int .i64)), true, false⟩),
  (46, ⟨.struct [(0, 3), (1, 3)], 2, 16, (.pair (.int .i64) (.int .i64)), true, false⟩),
  (49, ⟨.struct [(0, 32)], 1, 24, (.sl 3 (.int .i64)), true, false⟩),
  (50, ⟨.struct [(0, 32)], 1, 24, (.sl 3 (.int .i64)), true, false⟩),
  (52, ⟨.struct [(0, 3), (1, 3)], 2, 16, (.pair (.int .i64) (.int .i64)), true, false⟩),
  (53, ⟨.struct [(0, 3), (1, 3)], 2, 16, (.pair (.int .i64) (.int .i64)), true, false⟩),
  (58, ⟨.struct [(0, 3), (1, 32)], 2, 32, (.pair (.int .i64) (.sl 3 (.int .i64))), true, false⟩),
  (59, ⟨.struct [(0, 3), (1, 32)], 2, 32, (.pair (.int .i64) (.sl 3 (.int .i64))), true, false⟩),
  (62, ⟨.struct [(0, 3), (1, 3), (2, 3), (3, 3)], 4, 32, (.pair (.int .i64) (.pair (.int .i64) (.pair (.int .i64) (.int .i64)))), true, false⟩),
  (63, ⟨.struct [(0, 3), (1, 3), (2, 3), (3, 3)], 4, 32, (.pair (.int .i64) (.pair (.int .i64) (.pair (.int .i64) (.int .i64)))), true, false⟩),
  (71, ⟨.struct [(0, 3), (1, 32)], 2, 32, (.pair (.int .i64) (.sl 3 (.int .i64))), true, false⟩),
  (72, ⟨.slice 145, 1, 24, (.sl 145 (.pair (.int .i64) (.int .i64))), false, false⟩),
  (73, ⟨.struct [(0, 32)], 1, 24, (.sl 3 (.int .i64)), true, false⟩),
  (74, ⟨.struct [(0, 3), (1, 3)], 2, 16, (.pair (.int .i64) (.int .i64)), true, false⟩),
  (89, ⟨.slice 74, 1, 24, (.sl 74 (.pair (.int .i64) (.int .i64))), false, false⟩),
  (90, ⟨.slice 193, 1, 24, (.sl 193 (.pair (.int .i64) (.int .i64))), false, false⟩),
  (91, ⟨.slice 195, 1, 24, (.sl 195 (.pair (.int .i64) (.pair (.int .i64) (.pair (.int .i64) (.pair (.int .i64) (.int .i64)))))), false, false⟩),
  (92, ⟨.slice 197, 1, 24, (.sl 197 (.pair (.int .i64) (.pair (.int .i64) (.int .i64)))), false, false⟩),
  (93, ⟨.struct [(0, 89), (1, 90), (2, 91), (3, 92), (4, 28)], 5, 120, (.pair (.sl 74 (.pair (.int .i64) (.int .i64))) (.pair (.sl 193 (.pair (.int .i64) (.int .i64))) (.pair (.sl 195 (.pair (.int .i64) (.pair (.int .i64) (.pair (.int .i64) (.pair (.int .i64) (.int .i64)))))) (.pair (.sl 197 (.pair (.int .i64) (.pair (.int .i64) (.int .i64)))) (.sl 9 .str))))), true, false⟩),
  (94, ⟨.struct [(0, 89), (1, 90), (2, 91), (3, 92), (4, 28)], 5, 120, (.pair (.sl 74 (.pair (.int .i64) (.int .i64))) (.pair (.sl 193 (.pair (.int .i64) (.int .i64))) (.pair (.sl 195 (.pair (.int .i64) (.pair (.int .i64) (.pair (.int .i64) (.pair (.int .i64) (.int .i64)))))) (.pair (.sl 197 (.pair (.int .i64) (.pair (.int .i64) (.int .i64)))) (.sl 9 .str))))), true, false⟩),
  (145, ⟨.struct [(0, 3), (1, 3)], 2, 16, (.pair (.int .i64) (.int .i64)), true, false⟩),
  (170, ⟨.struct [(0, 9), (1, 3), (2, 4)], 3, 32, (.pair .str (.pair (.int .i64) .bool)), true, false⟩),
  (171, ⟨.struct [(0, 9), (1, 3), (2, 4)], 3, 32, (.pair .str (.pair (.int .i64) .bool)), true, false⟩),
  (175, ⟨.struct [(0, 9), (1, 3), (2, 4)], 3, 32, (.pair .str (.pair (.int .i64) .bool)), true, false⟩),
  (176, ⟨.struct [(0, 9), (1, 3), (2, 4)], 3, 32, (.pair .str (.pair (.int .i64) .bool)), true, false⟩),
  (187, ⟨.struct [(0, 22), (1, 3), (2, 3)], 3, 40, (.pair (.sl 5 (.int .u8)) (.pair (.int .i64) (.int .i64))), true, false⟩),
  (188, ⟨.struct [(0, 22), (1, 3), (2, 3)], 3, 40, (.pair (.sl 5 (.int .u8)) (.pair (.int .i64) (.int .i64))), true, false⟩),
  (189, ⟨.int .u64, 1, 8, (.int .u64), false, false⟩),
  (193, ⟨.struct [(0, 3), (1, 3)], 2, 16, (.pair (.int .i64) (.int .i64)), true, false⟩),
  (195, ⟨.struct [(0, 3), (1, 3), (2, 3), (3, 3), (4, 3)], 5, 40, (.pair (.int .i64) (.pair (.int .i64) (.pair (.int .i64) (.pair (.int .i64) (.int .i64))))), true, false⟩),
  (197, ⟨.struct [(0, 3), (1, 3), (2, 3)], 3, 24, (.pair (.int .i64) (.pair (.int .i64) (.int .i64))), true, false⟩),
  (218, ⟨.int .u32, 1, 4, (.int .u32), false, false⟩),
  (219, ⟨.int .u8, 1, 1, (.int .u8), false, false⟩),
  (220, ⟨.int .u8, 1, 1, (.int .u8), false, false⟩),
  (223, ⟨.int .i32, 1, 4, (.int .i32), false, false⟩),
  (224, ⟨.int .i32, 1, 4, (.int .i32), false, false⟩)]
theorem mixed : Try.prog.follows .mixedOrders = true := by kernel_rfl
theorem tdsOk : TdsOk Try.prog tds := tds_ok (by kernel_rfl) (by kernel_rfl)
def w64 (z : Int) : Int := IntKind.i64.wrap z
/-! loop.example/g00200/laws.big -/
def laws_big.f (k : Nat) (a0 : List Int) : Option (Bool) :=
  some (decide (1048576 < (a0.length : Int)))
def laws_big.sig : Sig := ⟨[.val false (.sl 5 (.int .u8)) [0]], [.val false .bool []]⟩
def laws_big.F (k : Nat) (x : Args laws_big.sig.ps) : Option (Res laws_big.sig) := laws_big.f k x.1
def laws_big.ann (k : Nat) : Ann (Res laws_big.sig) := .nil
def laws_big.ent : Ent := ⟨14, laws_big.sig, laws_big.F⟩
def laws_big.ctx (k : Nat) : Ctx := ⟨tds, [], k, 6⟩
theorem laws_big.runs (k : Nat) (x : Args laws_big.sig.ps) : laws_big.F k x = runF (laws_big.ctx k) laws_big.sig Try.f14 (Try.f14.body.getD .skip) (laws_big.ann k) x := by kernel_rfl
theorem laws_big.obls (k : Nat) : obl (laws_big.ctx k) 1 (Try.f14.body.getD .skip) (laws_big.ann k) (retK tds laws_big.sig Try.f14.results.toList) := ⟨trivial, ⟨trivial, trivial⟩⟩
theorem laws_big.ok (k : Nat) : EntOk Try.prog k laws_big.ent := fn_ok (C := laws_big.ctx k) Try.func14 (by kernel_rfl) (by kernel_rfl) mixed tdsOk EntsOk.nil (by kernel_rfl) (Nat.le_of_ble_eq_true (by kernel_rfl)) (by kernel_rfl) (laws_big.runs k) (laws_big.obls k)
/-! loop.example/g00200/spec.l01New -/
def spec_l01New.l1 (k : Nat)  : Nat → Int × Int × List Int × Unit → Option (List Int × Int × Int)
  | 0, _ => none
  | n + 1, (x1, x2, x3, _) => if x2 < (x3.length : Int) then (if x2 < 4000 then (if 0 ≤ x2 then (if x2 < (x3.length : Int) then (spec_l01New.l1 k n (bits .and .i64 (w64 ((w64 ((w64 (x1 * 131)) + (w64 (el (.int .u8) x3 x2.toNat)))) + 7)) 1073741823, w64 (x2 + 1), x3, ())) else none) else none) else (some (x3, (0, x1)))) else (some (x3, (0, x1)))
def spec_l01New.f (k : Nat) (a0 : List Int) : Option (List Int × Int × Int) :=
  spec_l01New.l1 k k (w64 (37101 + (a0.length : Int)), 0, a0, ())
def spec_l01New.Sl1 : Shape := ⟨[(0, false, [.own 0]), (3, false, [.int .i64]), (4, false, [.int .i64])], [(0, .view false 5 (.int .u8))], 1⟩
def spec_l01New.sig : Sig := ⟨[.val false (.sl 5 (.int .u8)) [0]], [.ptr 188 (.pair (.sl 5 (.int .u8)) (.pair (.int .i64) (.int .i64))) [some 0]]⟩
def spec_l01New.F (k : Nat) (x : Args spec_l01New.sig.ps) : Option (Res spec_l01New.sig) := spec_l01New.f k x.1
def spec_l01New.ann (k : Nat) : Ann (Res spec_l01New.sig) := (.seq .nil (.seq .nil (.seq (.seq .nil (.block (.loop spec_l01New.Sl1 (spec_l01New.l1 k) fun n1 => .nil))) .nil)))
def spec_l01New.ent : Ent := ⟨66, spec_l01New.sig, spec_l01New.F⟩
def spec_l01New.ctx (k : Nat) : Ctx := ⟨tds, [], k, 32⟩
theorem spec_l01New.runs (k : Nat) (x : Args spec_l01New.sig.ps) : spec_l01New.F k x = runF (spec_l01New.ctx k) spec_l01New.sig Try.f66 (Try.f66.body.getD .skip) (spec_l01New.ann k) x := by kernel_rfl
theorem spec_l01New.obls (k : Nat) : obl (spec_l01New.ctx k) 1 (Try.f66.body.getD .skip) (spec_l01New.ann k) (retK tds spec_l01New.sig Try.f66.results.toList) := ⟨trivial, ⟨trivial, ⟨⟨trivial, ⟨⟨by kernel_rfl, fun x => by kernel_rfl⟩, fun n => ⟨fun x => by kernel_rfl, ⟨⟨trivial, ⟨trivial, trivial⟩⟩, ⟨trivial, trivial⟩⟩⟩⟩⟩, ⟨trivial, trivial⟩⟩⟩⟩
theorem spec_l01New.ok (k : Nat) : EntOk Try.prog k spec_l01New.ent := fn_ok (C := spec_l01New.ctx k) Try.func66 (by kernel_rfl) (by kernel_rfl) mixed tdsOk EntsOk.nil (by kernel_rfl) (Nat.le_of_ble_eq_true (by kernel_rfl)) (by kernel_rfl) (spec_l01New.runs k) (spec_l01New.obls k)
/-! loop.example/g00200/spec.l01Byte -/
def spec_l01Byte.f (k : Nat) (a0 : List Int × Int × Int) : Option (Int × List Int × Int × Int) :=
  if a0.2.1 < (a0.1.length : Int) then (if 0 ≤ a0.2.1 then (if a0.2.1 < (a0.1.length : Int) then (some (bits .and .i64 (w64 ((bits .and .i64 (bits .xor .i64 ((w64 ((w64 (a0.2.2 * 6364136223846793005)) + 1442695040888963407)) / 8589934592) ((w64 ((w64 (a0.2.2 * 6364136223846793005)) + 1442695040888963407)) / 35184372088832)) 255) + (w64 (el (.int .u8) a0.1 a0.2.1.toNat)))) 255, (a0.1, (w64 (a0.2.1 + 1), w64 ((w64 (a0.2.2 * 6364136223846793005)) + 1442695040888963407))))) else none) else none) else (some (bits .and .i64 (bits .xor .i64 ((w64 ((w64 (a0.2.2 * 6364136223846793005)) + 1442695040888963407)) / 8589934592) ((w64 ((w64 (a0.2.2 * 6364136223846793005)) + 1442695040888963407)) / 35184372088832)) 255, (a0.1, (a0.2.1, w64 ((w64 (a0.2.2 * 6364136223846793005)) + 1442695040888963407)))))
def spec_l01Byte.sig : Sig := ⟨[.ptr 188 (.pair (.sl 5 (.int .u8)) (.pair (.int .i64) (.int .i64))) [0]], [.val false (.int .i64) []]⟩
def spec_l01Byte.F (k : Nat) (x : Args spec_l01Byte.sig.ps) : Option (Res spec_l01Byte.sig) := spec_l01Byte.f k x.1
def spec_l01Byte.ann (k : Nat) : Ann (Res spec_l01Byte.sig) := .nil
def spec_l01Byte.ent : Ent := ⟨67, spec_l01Byte.sig, spec_l01Byte.F⟩
def spec_l01Byte.ctx (k : Nat) : Ctx := ⟨tds, [], k, 58⟩
theorem spec_l01Byte.runs (k : Nat) (x : Args spec_l01Byte.sig.ps) : spec_l01Byte.F k x = runF (spec_l01Byte.ctx k) spec_l01Byte.sig Try.f67 (Try.f67.body.getD .skip) (spec_l01Byte.ann k) x := by kernel_rfl
theorem spec_l01Byte.obls (k : Nat) : obl (spec_l01Byte.ctx k) 2 (Try.f67.body.getD .skip) (spec_l01Byte.ann k) (retK tds spec_l01Byte.sig Try.f67.results.toList) := ⟨trivial, ⟨trivial, ⟨trivial, ⟨⟨trivial, ⟨⟨trivial, trivial⟩, trivial⟩⟩, ⟨trivial, trivial⟩⟩⟩⟩⟩
theorem spec_l01Byte.ok (k : Nat) : EntOk Try.prog k spec_l01Byte.ent := fn_ok (C := spec_l01Byte.ctx k) Try.func67 (by kernel_rfl) (by kernel_rfl) mixed tdsOk EntsOk.nil (by kernel_rfl) (Nat.le_of_ble_eq_true (by kernel_rfl)) (by kernel_rfl) (spec_l01Byte.runs k) (spec_l01Byte.obls k)
/-! loop.example/g00200/spec.l01Below -/
def spec_l01Below.f (k : Nat) (a0 : List Int × Int × Int) (a1 : Int) : Option (Int × List Int × Int × Int) :=
  if a1 ≤ 0 then (some (0, a0)) else (if a1 ≤ 256 then ((spec_l01Byte.f k a0).bind fun t1 => (if ¬ a1 = 0 then (some (Int.tmod t1.1 a1, (a0.1, t1.2.2))) else none)) else ((spec_l01Byte.f k a0).bind fun t2 => ((spec_l01Byte.f k (a0.1, t2.2.2)).bind fun t3 => ((spec_l01Byte.f k (a0.1, t3.2.2)).bind fun t4 => ((spec_l01Byte.f k (a0.1, t4.2.2)).bind fun t5 => (if ¬ a1 = 0 then (some (Int.tmod (w64 ((w64 ((w64 ((w64 (t2.1 * 16777216)) + (w64 (t3.1 * 65536)))) + (w64 (t4.1 * 256)))) + t5.1)) a1, (a0.1, t5.2.2))) else none))))))
def spec_l01Below.sig : Sig := ⟨[.ptr 188 (.pair (.sl 5 (.int .u8)) (.pair (.int .i64) (.int .i64))) [0], .val false (.int .i64) []], [.val false (.int .i64) []]⟩
def spec_l01Below.F (k : Nat) (x : Args spec_l01Below.sig.ps) : Option (Res spec_l01Below.sig) := spec_l01Below.f k x.1 x.2.1
def spec_l01Below.ann (k : Nat) : Ann (Res spec_l01Below.sig) := .nil
def spec_l01Below.ent : Ent := ⟨68, spec_l01Below.sig, spec_l01Below.F⟩
def spec_l01Below.ctx (k : Nat) : Ctx := ⟨tds, [spec_l01Byte.ent], k, 37⟩
theorem spec_l01Below.runs (k : Nat) (x : Args spec_l01Below.sig.ps) : spec_l01Below.F k x = runF (spec_l01Below.ctx k) spec_l01Below.sig Try.f68 (Try.f68.body.getD .skip) (spec_l01Below.ann k) x := by kernel_rfl
theorem spec_l01Below.obls (k : Nat) : obl (spec_l01Below.ctx k) 2 (Try.f68.body.getD .skip) (spec_l01Below.ann k) (retK tds spec_l01Below.sig Try.f68.results.toList) := ⟨trivial, ⟨⟨trivial, ⟨⟨trivial, trivial⟩, trivial⟩⟩, ⟨⟨trivial, ⟨⟨trivial, trivial⟩, trivial⟩⟩, ⟨trivial, ⟨trivial, ⟨trivial, ⟨trivial, ⟨trivial, trivial⟩⟩⟩⟩⟩⟩⟩⟩
theorem spec_l01Below.ok (k : Nat) : EntOk Try.prog k spec_l01Below.ent := fn_ok (C := spec_l01Below.ctx k) Try.func68 (by kernel_rfl) (by kernel_rfl) mixed tdsOk (.cons (spec_l01Byte.ok k) EntsOk.nil) (by kernel_rfl) (Nat.le_of_ble_eq_true (by kernel_rfl)) (by kernel_rfl) (spec_l01Below.runs k) (spec_l01Below.obls k)
/-! loop.example/g00200/spec.l04Regions -/
def spec_l04Regions.j2 (k : Nat) (c0 : Int × Int × Int × Int × List Int × (List (Int × Int)) × Unit → Option ((List (Int × Int)) × List Int × Int × Int)) : Int × Int × Int × Int × Int × List Int × (List (Int × Int)) × Unit → Option ((List (Int × Int)) × List Int × Int × Int)
  | (z1, z2, z3, z4, z5, z6, z7, _) => (spec_l01Below.f k (z6, (z2, z3)) 3).bind fun t7 => (c0 (w64 ((w64 (z4 + z5)) + t7.1), w64 (z1 + 1), t7.2.2.1, t7.2.2.2, z6, z7, ()))
def spec_l04Regions.l1 (k : Nat)  : Nat → Int × Int × Int × Int × List Int × (List (Int × Int)) × Unit → Option ((List (Int × Int)) × List Int × Int × Int)
  | 0, _ => none
  | n + 1, (x1, x2, x3, x4, x5, x6, _) => (spec_l01Below.f k (x5, (x3, x4)) 4).bind fun t3 => (if x2 < (w64 (1 + t3.1)) then ((spec_l01Below.f k (x5, t3.2.2) 14).bind fun t4 => (if (w64 (x1 + (w64 (1 + t4.1)))) ≤ 64 then (((some ([(x1, w64 (1 + t4.1))] : List (Int × Int)))).bind fun y5 => (if (x6.length + y5.length) * 16 ≤ 140737488355328 then (((some (x6 ++ y5))).bind fun y6 => (spec_l04Regions.j2 k (spec_l04Regions.l1 k n) (x2, t4.2.2.1, t4.2.2.2, x1, w64 (1 + t4.1), x5, y6, ()))) else none)) else (spec_l04Regions.j2 k (spec_l04Regions.l1 k n) (x2, t4.2.2.1, t4.2.2.2, x1, w64 (1 + t4.1), x5, x6, ())))) else (some (x6, (x5, t3.2.2))))
def spec_l04Regions.f (k : Nat) (a0 : List Int × Int × Int) : Option ((List (Int × Int)) × List Int × Int × Int) :=
  ((some ([] : List (Int × Int)))).bind fun y1 => ((spec_l01Below.f k a0 6).bind fun t2 => (spec_l04Regions.l1 k k (t2.1, 0, t2.2.2.1, t2.2.2.2, a0.1, y1, ())))
def spec_l04Regions.Sl1 : Shape := ⟨[(0, false, [.ptr 0 0]), (3, false, [.own 2]), (4, false, [.int .i64]), (5, false, [.int .i64])], [(0, .blk 188 [.own 1, .int .i64, .int .i64]), (1, .view false 5 (.int .u8)), (2, .row 53 (.pair (.int .i64) (.int .i64)))], 3⟩
def spec_l04Regions.Sj2 : Shape := ⟨[(0, false, [.ptr 0 0]), (3, false, [.own 2]), (5, false, [.int .i64]), (6, false, [.ptr 3 0])], [(0, .blk 188 [.own 1, .int .i64, .int .i64]), (3, .blk 53 [.int .i64, .int .i64]), (1, .view false 5 (.int .u8)), (2, .row 53 (.pair (.int .i64) (.int .i64)))], 4⟩
def spec_l04Regions.sig : Sig := ⟨[.ptr 188 (.pair (.sl 5 (.int .u8)) (.pair (.int .i64) (.int .i64))) [0]], [.val false (.sl 53 (.pair (.int .i64) (.int .i64))) [none]]⟩
def spec_l04Regions.F (k : Nat) (x : Args spec_l04Regions.sig.ps) : Option (Res spec_l04Regions.sig) := spec_l04Regions.f k x.1
def spec_l04Regions.ann (k : Nat) : Ann (Res spec_l04Regions.sig) := (.seq .nil (.seq .nil (.seq .nil (.seq (.seq .nil (.block (.loop spec_l04Regions.Sl1 (spec_l04Regions.l1 k) fun n1 => (.seq .nil (.seq (.block (.seq .nil (.join spec_l04Regions.Sj2 (spec_l04Regions.j2 k (spec_l04Regions.l1 k n1)) .nil .nil))) .nil))))) .nil))))
def spec_l04Regions.ent : Ent := ⟨157, spec_l04Regions.sig, spec_l04Regions.F⟩
def spec_l04Regions.ctx (k : Nat) : Ctx := ⟨tds, [spec_l01Below.ent], k, 41⟩
theorem spec_l04Regions.runs (k : Nat) (x : Args spec_l04Regions.sig.ps) : spec_l04Regions.F k x = runF (spec_l04Regions.ctx k) spec_l04Regions.sig Try.f157 (Try.f157.body.getD .skip) (spec_l04Regions.ann k) x := by kernel_rfl
theorem spec_l04Regions.obls (k : Nat) : obl (spec_l04Regions.ctx k) 2 (Try.f157.body.getD .skip) (spec_l04Regions.ann k) (retK tds spec_l04Regions.sig Try.f157.results.toList) := ⟨trivial, ⟨trivial, ⟨trivial, ⟨⟨trivial, ⟨⟨by kernel_rfl, fun x => by kernel_rfl⟩, fun n => ⟨fun x => by kernel_rfl, ⟨⟨trivial, ⟨trivial, trivial⟩⟩, ⟨⟨trivial, ⟨⟨by kernel_rfl, fun x => by kernel_rfl⟩, ⟨trivial, ⟨trivial, trivial⟩⟩, trivial⟩⟩, trivial⟩⟩⟩⟩⟩, ⟨trivial, trivial⟩⟩⟩⟩⟩
theorem spec_l04Regions.ok (k : Nat) : EntOk Try.prog k spec_l04Regions.ent := fn_ok (C := spec_l04Regions.ctx k) Try.func157 (by kernel_rfl) (by kernel_rfl) mixed tdsOk (.cons (spec_l01Below.ok k) EntsOk.nil) (by kernel_rfl) (Nat.le_of_ble_eq_true (by kernel_rfl)) (by kernel_rfl) (spec_l04Regions.runs k) (spec_l04Regions.obls k)
/-! loop.example/g00200/spec.l09Plan -/
def spec_l09Plan.l1 (k : Nat)  : Nat → Int × Int × Int × Int × List Int × (List (Int × Int)) × Unit → Option ((List (Int × Int)) × List Int × Int × Int)
  | 0, _ => none
  | n + 1, (x1, x2, x3, x4, x5, x6, _) => (spec_l01Below.f k (x5, (x3, x4)) 5).bind fun t2 => (if x2 < (w64 (1 + t2.1)) then ((spec_l01Below.f k (x5, t2.2.2) x1).bind fun t3 => ((spec_l01Below.f k (x5, t3.2.2) 40).bind fun t4 => (((some ([(w64 (1 + t3.1), w64 (1 + t4.1))] : List (Int × Int)))).bind fun y5 => (if (x6.length + y5.length) * 16 ≤ 140737488355328 then (((some (x6 ++ y5))).bind fun y6 => (spec_l09Plan.l1 k n (x1, w64 (x2 + 1), t4.2.2.1, t4.2.2.2, x5, y6, ()))) else none)))) else (some (x6, (x5, t2.2.2))))
def spec_l09Plan.f (k : Nat) (a0 : List Int × Int × Int) (a1 : Int) : Option ((List (Int × Int)) × List Int × Int × Int) :=
  ((some ([] : List (Int × Int)))).bind fun y1 => (spec_l09Plan.l1 k k (a1, 0, a0.2.1, a0.2.2, a0.1, y1, ()))
def spec_l09Plan.Sl1 : Shape := ⟨[(0, false, [.ptr 0 0]), (1, false, [.int .i64]), (5, false, [.own 2]), (6, false, [.int .i64])], [(0, .blk 188 [.own 1, .int .i64, .int .i64]), (1, .view false 5 (.int .u8)), (2, .row 35 (.pair (.int .i64) (.int .i64)))], 3⟩
def spec_l09Plan.sig : Sig := ⟨[.ptr 188 (.pair (.sl 5 (.int .u8)) (.pair (.int .i64) (.int .i64))) [0], .val false (.int .i64) []], [.val false (.sl 35 (.pair (.int .i64) (.int .i64))) [none]]⟩
def spec_l09Plan.F (k : Nat) (x : Args spec_l09Plan.sig.ps) : Option (Res spec_l09Plan.sig) := spec_l09Plan.f k x.1 x.2.1
def spec_l09Plan.ann (k : Nat) : Ann (Res spec_l09Plan.sig) := (.seq .nil (.seq .nil (.seq (.seq .nil (.block (.loop spec_l09Plan.Sl1 (spec_l09Plan.l1 k) fun n1 => .nil))) .nil)))
def spec_l09Plan.ent : Ent := ⟨158, spec_l09Plan.sig, spec_l09Plan.F⟩
def spec_l09Plan.ctx (k : Nat) : Ctx := ⟨tds, [spec_l01Below.ent], k, 27⟩
theorem spec_l09Plan.runs (k : Nat) (x : Args spec_l09Plan.sig.ps) : spec_l09Plan.F k x = runF (spec_l09Plan.ctx k) spec_l09Plan.sig Try.f158 (Try.f158.body.getD .skip) (spec_l09Plan.ann k) x := by kernel_rfl
theorem spec_l09Plan.obls (k : Nat) : obl (spec_l09Plan.ctx k) 2 (Try.f158.body.getD .skip) (spec_l09Plan.ann k) (retK tds spec_l09Plan.sig Try.f158.results.toList) := ⟨trivial, ⟨trivial, ⟨⟨trivial, ⟨⟨by kernel_rfl, fun x => by kernel_rfl⟩, fun n => ⟨fun x => by kernel_rfl, ⟨⟨trivial, ⟨trivial, trivial⟩⟩, ⟨trivial, trivial⟩⟩⟩⟩⟩, ⟨trivial, trivial⟩⟩⟩⟩
theorem spec_l09Plan.ok (k : Nat) : EntOk Try.prog k spec_l09Plan.ent := fn_ok (C := spec_l09Plan.ctx k) Try.func158 (by kernel_rfl) (by kernel_rfl) mixed tdsOk (.cons (spec_l01Below.ok k) EntsOk.nil) (by kernel_rfl) (Nat.le_of_ble_eq_true (by kernel_rfl)) (by kernel_rfl) (spec_l09Plan.runs k) (spec_l09Plan.obls k)
/-! loop.example/g00200/spec.l01Once -/
def spec_l01Once.f (k : Nat) (a0 : List Int × Int × Int) (a1 : Int) : Option (Bool × List Int × Int × Int) :=
  (spec_l01Below.f k a0 a1).bind fun t1 => (some (decide (t1.1 = 0), (a0.1, t1.2.2)))
def spec_l01Once.sig : Sig := ⟨[.ptr 188 (.pair (.sl 5 (.int .u8)) (.pair (.int .i64) (.int .i64))) [0], .val false (.int .i64) []], [.val false .bool []]⟩
def spec_l01Once.F (k : Nat) (x : Args spec_l01Once.sig.ps) : Option (Res spec_l01Once.sig) := spec_l01Once.f k x.1 x.2.1
def spec_l01Once.ann (k : Nat) : Ann (Res spec_l01Once.sig) := .nil
def spec_l01Once.ent : Ent := ⟨80, spec_l01Once.sig, spec_l01Once.F⟩
def spec_l01Once.ctx (k : Nat) : Ctx := ⟨tds, [spec_l01Below.ent], k, 9⟩
theorem spec_l01Once.runs (k : Nat) (x : Args spec_l01Once.sig.ps) : spec_l01Once.F k x = runF (spec_l01Once.ctx k) spec_l01Once.sig Try.f80 (Try.f80.body.getD .skip) (spec_l01Once.ann k) x := by kernel_rfl
theorem spec_l01Once.obls (k : Nat) : obl (spec_l01Once.ctx k) 2 (Try.f80.body.getD .skip) (spec_l01Once.ann k) (retK tds spec_l01Once.sig Try.f80.results.toList) := ⟨trivial, ⟨trivial, trivial⟩⟩
theorem spec_l01Once.ok (k : Nat) : EntOk Try.prog k spec_l01Once.ent := fn_ok (C := spec_l01Once.ctx k) Try.func80 (by kernel_rfl) (by kernel_rfl) mixed tdsOk (.cons (spec_l01Below.ok k) EntsOk.nil) (by kernel_rfl) (Nat.le_of_ble_eq_true (by kernel_rfl)) (by kernel_rfl) (spec_l01Once.runs k) (spec_l01Once.obls k)
/-! loop.example/g00200/spec.l01In -/
def spec_l01In.f (k : Nat) (a0 : Int) (a1 : Int) (a2 : Int) : Option (Bool) :=
  if a1 ≤ a0 then (some (decide (a0 ≤ a2))) else (some false)
def spec_l01In.sig : Sig := ⟨[.val false (.int .i64) [], .val false (.int .i64) [], .val false (.int .i64) []], [.val false .bool []]⟩
def spec_l01In.F (k : Nat) (x : Args spec_l01In.sig.ps) : Option (Res spec_l01In.sig) := spec_l01In.f k x.1 x.2.1 x.2.2.1
def spec_l01In.ann (k : Nat) : Ann (Res spec_l01In.sig) := .nil
def spec_l01In.ent : Ent := ⟨106, spec_l01In.sig, spec_l01In.F⟩
def spec_l01In.ctx (k : Nat) : Ctx := ⟨tds, [], k, 15⟩
theorem spec_l01In.runs (k : Nat) (x : Args spec_l01In.sig.ps) : spec_l01In.F k x = runF (spec_l01In.ctx k) spec_l01In.sig Try.f106 (Try.f106.body.getD .skip) (spec_l01In.ann k) x := by kernel_rfl
theorem spec_l01In.obls (k : Nat) : obl (spec_l01In.ctx k) 0 (Try.f106.body.getD .skip) (spec_l01In.ann k) (retK tds spec_l01In.sig Try.f106.results.toList) := ⟨trivial, ⟨trivial, trivial⟩⟩
theorem spec_l01In.ok (k : Nat) : EntOk Try.prog k spec_l01In.ent := fn_ok (C := spec_l01In.ctx k) Try.func106 (by kernel_rfl) (by kernel_rfl) mixed tdsOk EntsOk.nil (by kernel_rfl) (Nat.le_of_ble_eq_true (by kernel_rfl)) (by kernel_rfl) (spec_l01In.runs k) (spec_l01In.obls k)
/-! loop.example/g00200/spec.RulesOk -/
def spec_RulesOk.l2 (k : Nat) (c0 : Int × (List (Int × Int × Int)) × Unit → Option (Bool)) : Nat → Int × Int × Int × Int × Int × (List (Int × Int × Int)) × Unit → Option (Bool)
  | 0, _ => none
  | n + 1, (x1, x2, x3, x4, x5, x6, _) => if x2 < x1 then (if 0 ≤ x2 then (if x2 < (x6.length : Int) then (if ((el (.pair (.int .i64) (.pair (.int .i64) (.int .i64))) x6 x2.toNat).1) = x3 then (if 0 ≤ x2 then (if x2 < (x6.length : Int) then (if (((el (.pair (.int .i64) (.pair (.int .i64) (.int .i64))) x6 x2.toNat).2).1) = x4 then (some false) else (spec_RulesOk.l2 k c0 n (x1, w64 (x2 + 1), x3, x4, x5, x6, ()))) else none) else none) else (spec_RulesOk.l2 k c0 n (x1, w64 (x2 + 1), x3, x4, x5, x6, ()))) else none) else none) else (c0 (w64 (x1 + 1), x6, ()))
def spec_RulesOk.l1 (k : Nat)  : Nat → Int × (List (Int × Int × Int)) × Unit → Option (Bool)
  | 0, _ => none
  | n + 1, (x1, x2, _) => if x1 < (x2.length : Int) then (if 0 ≤ x1 then (if x1 < (x2.length : Int) then ((spec_l01In.f k ((el (.pair (.int .i64) (.pair (.int .i64) (.int .i64))) x2 x1.toNat).1) 1 4).bind fun t1 => (if ¬ t1 = true then (some false) else ((spec_l01In.f k (((el (.pair (.int .i64) (.pair (.int .i64) (.int .i64))) x2 x1.toNat).2).1) 1 2).bind fun t2 => (if ¬ t2 = true then (some false) else ((spec_l01In.f k (((el (.pair (.int .i64) (.pair (.int .i64) (.int .i64))) x2 x1.toNat).2).2) 0 4).bind fun t3 => (if ¬ t3 = true then (some false) else (if (((el (.pair (.int .i64) (.pair (.int .i64) (.int .i64))) x2 x1.toNat).2).1) = 1 then (if (((el (.pair (.int .i64) (.pair (.int .i64) (.int .i64))) x2 x1.toNat).2).2) = 0 then (some false) else (spec_RulesOk.l2 k (spec_RulesOk.l1 k n) k (x1, 0, (el (.pair (.int .i64) (.pair (.int .i64) (.int .i64))) x2 x1.toNat).1, ((el (.pair (.int .i64) (.pair (.int .i64) (.int .i64))) x2 x1.toNat).2).1, ((el (.pair (.int .i64) (.pair (.int .i64) (.int .i64))) x2 x1.toNat).2).2, x2, ()))) else (spec_RulesOk.l2 k (spec_RulesOk.l1 k n) k (x1, 0, (el (.pair (.int .i64) (.pair (.int .i64) (.int .i64))) x2 x1.toNat).1, ((el (.pair (.int .i64) (.pair (.int .i64) (.int .i64))) x2 x1.toNat).2).1, ((el (.pair (.int .i64) (.pair (.int .i64) (.int .i64))) x2 x1.toNat).2).2, x2, ()))))))))) else none) else none) else (some (decide ((x2.length : Int) ≤ 8)))
def spec_RulesOk.f (k : Nat) (a0 : List (Int × Int × Int)) : Option (Bool) :=
  spec_RulesOk.l1 k k (0, a0, ())
def spec_RulesOk.Sl1 : Shape := ⟨[(0, false, [.own 0]), (3, false, [.int .i64])], [(0, .view false 40 (.pair (.int .i64) (.pair (.int .i64) (.int .i64))))], 1⟩
def spec_RulesOk.Sl2 : Shape := ⟨[(0, false, [.own 0]), (3, false, [.int .i64]), (4, false, [.ptr 1 0]), (5, false, [.int .i64])], [(1, .blk 40 [.int .i64, .int .i64, .int .i64]), (0, .view false 40 (.pair (.int .i64) (.pair (.int .i64) (.int .i64))))], 2⟩
def spec_RulesOk.sig : Sig := ⟨[.val false (.sl 40 (.pair (.int .i64) (.pair (.int .i64) (.int .i64)))) [0]], [.val false .bool []]⟩
def spec_RulesOk.F (k : Nat) (x : Args spec_RulesOk.sig.ps) : Option (Res spec_RulesOk.sig) := spec_RulesOk.f k x.1
def spec_RulesOk.ann (k : Nat) : Ann (Res spec_RulesOk.sig) := (.seq .nil (.seq (.seq .nil (.block (.loop spec_RulesOk.Sl1 (spec_RulesOk.l1 k) fun n1 => (.seq .nil (.seq (.block (.seq .nil (.seq .nil (.seq .nil (.block (.loop spec_RulesOk.Sl2 (spec_RulesOk.l2 k (spec_RulesOk.l1 k n1)) fun n2 => .nil)))))) .nil))))) .nil))
def spec_RulesOk.ent : Ent := ⟨122, spec_RulesOk.sig, spec_RulesOk.F⟩
def spec_RulesOk.ctx (k : Nat) : Ctx := ⟨tds, [spec_l01In.ent], k, 68⟩
theorem spec_RulesOk.runs (k : Nat) (x : Args spec_RulesOk.sig.ps) : spec_RulesOk.F k x = runF (spec_RulesOk.ctx k) spec_RulesOk.sig Try.f122 (Try.f122.body.getD .skip) (spec_RulesOk.ann k) x := by kernel_rfl
theorem spec_RulesOk.obls (k : Nat) : obl (spec_RulesOk.ctx k) 1 (Try.f122.body.getD .skip) (spec_RulesOk.ann k) (retK tds spec_RulesOk.sig Try.f122.results.toList) := ⟨trivial, ⟨⟨trivial, ⟨⟨by kernel_rfl, fun x => by kernel_rfl⟩, fun n => ⟨fun x => by kernel_rfl, ⟨⟨trivial, ⟨trivial, trivial⟩⟩, ⟨⟨trivial, ⟨⟨trivial, ⟨⟨trivial, trivial⟩, trivial⟩⟩, ⟨trivial, ⟨⟨by kernel_rfl, fun x => by kernel_rfl⟩, fun n => ⟨fun x => by kernel_rfl, ⟨⟨trivial, ⟨trivial, trivial⟩⟩, ⟨⟨trivial, ⟨⟨trivial, trivial⟩, trivial⟩⟩, trivial⟩⟩⟩⟩⟩⟩⟩, trivial⟩⟩⟩⟩⟩, ⟨trivial, trivial⟩⟩⟩
theorem spec_RulesOk.ok (k : Nat) : EntOk Try.prog k spec_RulesOk.ent := fn_ok (C := spec_RulesOk.ctx k) Try.func122 (by kernel_rfl) (by kernel_rfl) mixed tdsOk (.cons (spec_l01In.ok k) EntsOk.nil) (by kernel_rfl) (Nat.le_of_ble_eq_true (by kernel_rfl)) (by kernel_rfl) (spec_RulesOk.runs k) (spec_RulesOk.obls k)
/-! loop.example/g00200/spec.l10Rules -/
def spec_l10Rules.j2 (k : Nat) (c0 : Int × Int × Int × Int × List Int × (List (Int × Int × Int)) × Unit → Option ((List (Int × Int × Int)) × List Int × Int × Int)) : Int × Int × Int × Int × Int × Int × Int × List Int × (List (Int × Int × Int)) × Unit → Option ((List (Int × Int × Int)) × List Int × Int × Int)
  | (z1, z2, z3, z4, z5, z6, z7, z8, z9, _) => ((some ([] : List (Int × Int × Int)))).bind fun y7 => (if (y7.length + z9.length) * 24 ≤ 140737488355328 then (((some (y7 ++ z9))).bind fun y8 => (((some ([(z5, (z6, z7))] : List (Int × Int × Int)))).bind fun y9 => (if (y8.length + y9.length) * 24 ≤ 140737488355328 then (((some (y8 ++ y9))).bind fun y10 => ((spec_RulesOk.f k y10).bind fun t11 => (if t11 = true then (c0 (z1, w64 (z2 + 1), z3, z4, z8, y10, ())) else (c0 (z1, w64 (z2 + 1), z3, z4, z8, z9, ()))))) else none))) else none)
def spec_l10Rules.l1 (k : Nat)  : Nat → Int × Int × Int × Int × List Int × (List (Int × Int × Int)) × Unit → Option ((List (Int × Int × Int)) × List Int × Int × Int)
  | 0, _ => none
  | n + 1, (x1, x2, x3, x4, x5, x6, _) => (spec_l01Below.f k (x5, (x3, x4)) 6).bind fun t2 => (if x2 < t2.1 then ((spec_l01Below.f k (x5, t2.2.2) x1).bind fun t3 => ((spec_l01Below.f k (x5, t3.2.2) 2).bind fun t4 => ((spec_l01Below.f k (x5, t4.2.2) 3).bind fun t5 => ((spec_l01Once.f k (x5, t5.2.2) 8).bind fun t6 => (if t6.1 = true then (spec_l10Rules.j2 k (spec_l10Rules.l1 k n) (x1, x2, t6.2.2.1, t6.2.2.2, w64 (1 + t3.1), w64 (1 + t4.1), 4, x5, x6, ())) else (spec_l10Rules.j2 k (spec_l10Rules.l1 k n) (x1, x2, t6.2.2.1, t6.2.2.2, w64 (1 + t3.1), w64 (1 + t4.1), w64 (1 + t5.1), x5, x6, ()))))))) else (some (x6, (x5, t2.2.2))))
def spec_l10Rules.f (k : Nat) (a0 : List Int × Int × Int) (a1 : Int) : Option ((List (Int × Int × Int)) × List Int × Int × Int) :=
  ((some ([] : List (Int × Int × Int)))).bind fun y1 => (spec_l10Rules.l1 k k (a1, 0, a0.2.1, a0.2.2, a0.1, y1, ()))
def spec_l10Rules.Sl1 : Shape := ⟨[(0, false, [.ptr 0 0]), (1, false, [.int .i64]), (5, false, [.own 2]), (6, false, [.int .i64])], [(0, .blk 188 [.own 1, .int .i64, .int .i64]), (1, .view false 5 (.int .u8)), (2, .row 40 (.pair (.int .i64) (.pair (.int .i64) (.int .i64))))], 3⟩
def spec_l10Rules.Sj2 : Shape := ⟨[(0, false, [.ptr 0 0]), (1, false, [.int .i64]), (5, false, [.own 2]), (6, false, [.int .i64]), (7, false, [.ptr 3 0])], [(0, .blk 188 [.own 1, .int .i64, .int .i64]), (3, .blk 40 [.int .i64, .int .i64, .int .i64]), (1, .view false 5 (.int .u8)), (2, .row 40 (.pair (.int .i64) (.pair (.int .i64) (.int .i64))))], 4⟩
def spec_l10Rules.sig : Sig := ⟨[.ptr 188 (.pair (.sl 5 (.int .u8)) (.pair (.int .i64) (.int .i64))) [0], .val false (.int .i64) []], [.val false (.sl 40 (.pair (.int .i64) (.pair (.int .i64) (.int .i64)))) [none]]⟩
def spec_l10Rules.F (k : Nat) (x : Args spec_l10Rules.sig.ps) : Option (Res spec_l10Rules.sig) := spec_l10Rules.f k x.1 x.2.1
def spec_l10Rules.ann (k : Nat) : Ann (Res spec_l10Rules.sig) := (.seq .nil (.seq .nil (.seq (.seq .nil (.block (.loop spec_l10Rules.Sl1 (spec_l10Rules.l1 k) fun n1 => (.seq .nil (.seq (.block (.seq .nil (.join spec_l10Rules.Sj2 (spec_l10Rules.j2 k (spec_l10Rules.l1 k n1)) .nil .nil))) .nil))))) .nil)))
def spec_l10Rules.ent : Ent := ⟨159, spec_l10Rules.sig, spec_l10Rules.F⟩
def spec_l10Rules.ctx (k : Nat) : Ctx := ⟨tds, [spec_l01Below.ent, spec_l01Once.ent, spec_RulesOk.ent], k, 40⟩
theorem spec_l10Rules.runs (k : Nat) (x : Args spec_l10Rules.sig.ps) : spec_l10Rules.F k x = runF (spec_l10Rules.ctx k) spec_l10Rules.sig Try.f159 (Try.f159.body.getD .skip) (spec_l10Rules.ann k) x := by kernel_rfl
theorem spec_l10Rules.obls (k : Nat) : obl (spec_l10Rules.ctx k) 2 (Try.f159.body.getD .skip) (spec_l10Rules.ann k) (retK tds spec_l10Rules.sig Try.f159.results.toList) := ⟨trivial, ⟨trivial, ⟨⟨trivial, ⟨⟨by kernel_rfl, fun x => by kernel_rfl⟩, fun n => ⟨fun x => by kernel_rfl, ⟨⟨trivial, ⟨trivial, trivial⟩⟩, ⟨⟨trivial, ⟨⟨by kernel_rfl, fun x => by kernel_rfl⟩, ⟨trivial, ⟨trivial, trivial⟩⟩, ⟨trivial, ⟨trivial, ⟨trivial, trivial⟩⟩⟩⟩⟩, trivial⟩⟩⟩⟩⟩, ⟨trivial, trivial⟩⟩⟩⟩
theorem spec_l10Rules.ok (k : Nat) : EntOk Try.prog k spec_l10Rules.ent := fn_ok (C := spec_l10Rules.ctx k) Try.func159 (by kernel_rfl) (by kernel_rfl) mixed tdsOk (.cons (spec_l01Below.ok k) (.cons (spec_l01Once.ok k) (.cons (spec_RulesOk.ok k) EntsOk.nil))) (by kernel_rfl) (Nat.le_of_ble_eq_true (by kernel_rfl)) (by kernel_rfl) (spec_l10Rules.runs k) (spec_l10Rules.obls k)
/-! loop.example/g00200/spec.l08Port -/
def spec_l08Port.j1 (k : Nat)  : Int × Int × Int × Int × Int × Int × Int × Int × Int × Int × Int × Int × List Int × Unit → Option ((Int × Int × Int × Int × Int) × List Int × Int × Int)
  | (z1, z2, z3, z4, z5, z6, z7, z8, z9, z10, z11, z12, z13, _) => (spec_l01Once.f k (z13, (z1, z2)) 3).bind fun t4 => (if t4.1 = true then ((spec_l01Below.f k (z13, t4.2.2) 8).bind fun t5 => (some ((2, (z9, (z10, (1, w64 (1 + t5.1))))), (z13, t5.2.2)))) else (some ((z8, (z9, (z10, (z11, z12)))), (z13, t4.2.2))))
def spec_l08Port.f (k : Nat) (a0 : List Int × Int × Int) : Option ((Int × Int × Int × Int × Int) × List Int × Int × Int) :=
  (spec_l01Below.f k a0 3).bind fun t1 => ((spec_l01Below.f k (a0.1, t1.2.2) 3).bind fun t2 => ((spec_l01Below.f k (a0.1, t2.2.2) 3).bind fun t3 => (if (w64 (1 + t1.1)) = (w64 (1 + t2.1)) then (spec_l08Port.j1 k (t3.2.2.1, t3.2.2.2, 0, 0, 0, 0, 0, 1, w64 (1 + t1.1), w64 (1 + (Int.tmod (w64 (1 + t1.1)) 3)), w64 (1 + t3.1), 0, a0.1, ())) else (spec_l08Port.j1 k (t3.2.2.1, t3.2.2.2, 0, 0, 0, 0, 0, 1, w64 (1 + t1.1), w64 (1 + t2.1), w64 (1 + t3.1), 0, a0.1, ())))))
def spec_l08Port.Sj1 : Shape := ⟨[(0, false, [.ptr 0 0]), (2, false, [.ptr 2 0]), (3, false, [.ptr 3 0])], [(0, .blk 188 [.own 1, .int .i64, .int .i64]), (2, .blk 42 [.int .i64, .int .i64, .int .i64, .int .i64, .int .i64]), (3, .blk 42 [.int .i64, .int .i64, .int .i64, .int .i64, .int .i64]), (1, .view false 5 (.int .u8))], 4⟩
def spec_l08Port.sig : Sig := ⟨[.ptr 188 (.pair (.sl 5 (.int .u8)) (.pair (.int .i64) (.int .i64))) [0]], [.val true (.pair (.int .i64) (.pair (.int .i64) (.pair (.int .i64) (.pair (.int .i64) (.int .i64))))) []]⟩
def spec_l08Port.F (k : Nat) (x : Args spec_l08Port.sig.ps) : Option (Res spec_l08Port.sig) := spec_l08Port.f k x.1
def spec_l08Port.ann (k : Nat) : Ann (Res spec_l08Port.sig) := (.seq .nil (.seq .nil (.join spec_l08Port.Sj1 (spec_l08Port.j1 k) .nil .nil)))
def spec_l08Port.ent : Ent := ⟨160, spec_l08Port.sig, spec_l08Port.F⟩
def spec_l08Port.ctx (k : Nat) : Ctx := ⟨tds, [spec_l01Below.ent, spec_l01Once.ent], k, 33⟩
theorem spec_l08Port.runs (k : Nat) (x : Args spec_l08Port.sig.ps) : spec_l08Port.F k x = runF (spec_l08Port.ctx k) spec_l08Port.sig Try.f160 (Try.f160.body.getD .skip) (spec_l08Port.ann k) x := by kernel_rfl
theorem spec_l08Port.obls (k : Nat) : obl (spec_l08Port.ctx k) 2 (Try.f160.body.getD .skip) (spec_l08Port.ann k) (retK tds spec_l08Port.sig Try.f160.results.toList) := ⟨trivial, ⟨trivial, ⟨⟨by kernel_rfl, fun x => by kernel_rfl⟩, ⟨trivial, ⟨trivial, trivial⟩⟩, ⟨⟨trivial, ⟨⟨trivial, ⟨trivial, trivial⟩⟩, trivial⟩⟩, ⟨trivial, trivial⟩⟩⟩⟩⟩
theorem spec_l08Port.ok (k : Nat) : EntOk Try.prog k spec_l08Port.ent := fn_ok (C := spec_l08Port.ctx k) Try.func160 (by kernel_rfl) (by kernel_rfl) mixed tdsOk (.cons (spec_l01Below.ok k) (.cons (spec_l01Once.ok k) EntsOk.nil)) (by kernel_rfl) (Nat.le_of_ble_eq_true (by kernel_rfl)) (by kernel_rfl) (spec_l08Port.runs k) (spec_l08Port.obls k)
/-! loop.example/g00200/spec.l01PickInt -/
def spec_l01PickInt.f (k : Nat) (a0 : List Int × Int × Int) (a1 : List Int) : Option (Int × List Int × Int × Int) :=
  (spec_l01Below.f k a0 (a1.length : Int)).bind fun t1 => (if 0 ≤ t1.1 then (if t1.1 < (a1.length : Int) then (some (el (.int .i64) a1 t1.1.toNat, (a0.1, t1.2.2))) else none) else none)
def spec_l01PickInt.sig : Sig := ⟨[.ptr 188 (.pair (.sl 5 (.int .u8)) (.pair (.int .i64) (.int .i64))) [0], .val false (.sl 3 (.int .i64)) [0]], [.val false (.int .i64) []]⟩
def spec_l01PickInt.F (k : Nat) (x : Args spec_l01PickInt.sig.ps) : Option (Res spec_l01PickInt.sig) := spec_l01PickInt.f k x.1 x.2.1
def spec_l01PickInt.ann (k : Nat) : Ann (Res spec_l01PickInt.sig) := .nil
def spec_l01PickInt.ent : Ent := ⟨138, spec_l01PickInt.sig, spec_l01PickInt.F⟩
def spec_l01PickInt.ctx (k : Nat) : Ctx := ⟨tds, [spec_l01Below.ent], k, 12⟩
theorem spec_l01PickInt.runs (k : Nat) (x : Args spec_l01PickInt.sig.ps) : spec_l01PickInt.F k x = runF (spec_l01PickInt.ctx k) spec_l01PickInt.sig Try.f138 (Try.f138.body.getD .skip) (spec_l01PickInt.ann k) x := by kernel_rfl
theorem spec_l01PickInt.obls (k : Nat) : obl (spec_l01PickInt.ctx k) 3 (Try.f138.body.getD .skip) (spec_l01PickInt.ann k) (retK tds spec_l01PickInt.sig Try.f138.results.toList) := ⟨trivial, ⟨trivial, trivial⟩⟩
theorem spec_l01PickInt.ok (k : Nat) : EntOk Try.prog k spec_l01PickInt.ent := fn_ok (C := spec_l01PickInt.ctx k) Try.func138 (by kernel_rfl) (by kernel_rfl) mixed tdsOk (.cons (spec_l01Below.ok k) EntsOk.nil) (by kernel_rfl) (Nat.le_of_ble_eq_true (by kernel_rfl)) (by kernel_rfl) (spec_l01PickInt.runs k) (spec_l01PickInt.obls k)
/-! loop.example/g00200/spec.l05Instr -/
def spec_l05Instr.j2 (k : Nat)  : Int × Int × Int × Int × Int × Int × List Int × Unit → Option ((Int × Int) × List Int × Int × Int)
  | (z1, z2, z3, z4, z5, z6, z7, _) => (spec_l01Once.f k (z7, (z1, z2)) 40).bind fun t7 => (if t7.1 = true then ((spec_l01Below.f k (z7, t7.2.2) 256).bind fun t8 => (some ((t8.1, z6), (z7, t8.2.2)))) else (some ((z5, z6), (z7, t7.2.2))))
def spec_l05Instr.j1 (k : Nat)  : Int × Int × Int × Int × Int × Int × List Int × Unit → Option ((Int × Int) × List Int × Int × Int)
  | (z1, z2, z3, z4, z5, z6, z7, _) => if z5 = 9 then ((spec_l01Below.f k (z7, (z1, z2)) 14).bind fun t5 => (spec_l05Instr.j2 k (t5.2.2.1, t5.2.2.2, z3, z4, z5, t5.1, z7, ()))) else (if z5 = 10 then ((spec_l01Below.f k (z7, (z1, z2)) 14).bind fun t6 => (spec_l05Instr.j2 k (t6.2.2.1, t6.2.2.2, z3, z4, z5, t6.1, z7, ()))) else (spec_l05Instr.j2 k (z1, z2, z3, z4, z5, z6, z7, ())))
def spec_l05Instr.f (k : Nat) (a0 : List Int × Int × Int) : Option ((Int × Int) × List Int × Int × Int) :=
  ((some ([0, 1, 1, 1, 1, 1, 2, 3, 3, 4, 5, 6, 7, 8, 9, 10, 11, 12, 13, 14, 15, 16, 17] : List Int))).bind fun y1 => ((spec_l01PickInt.f k a0 y1).bind fun t2 => ((spec_l01Below.f k (a0.1, t2.2.2) 4).bind fun t3 => (if t2.1 = 1 then ((spec_l01Below.f k (a0.1, t3.2.2) 8).bind fun t4 => (spec_l05Instr.j1 k (t4.2.2.1, t4.2.2.2, 0, 0, t2.1, t4.1, a0.1, ()))) else (spec_l05Instr.j1 k (t3.2.2.1, t3.2.2.2, 0, 0, t2.1, t3.1, a0.1, ())))))
def spec_l05Instr.Sj1 : Shape := ⟨[(0, false, [.ptr 0 0]), (2, false, [.ptr 2 0]), (3, false, [.ptr 3 0])], [(0, .blk 188 [.own 1, .int .i64, .int .i64]), (2, .blk 46 [.int .i64, .int .i64]), (3, .blk 46 [.int .i64, .int .i64]), (1, .view false 5 (.int .u8))], 4⟩
def spec_l05Instr.Sj2 : Shape := ⟨[(0, false, [.ptr 0 0]), (2, false, [.ptr 2 0]), (3, false, [.ptr 3 0])], [(0, .blk 188 [.own 1, .int .i64, .int .i64]), (2, .blk 46 [.int .i64, .int .i64]), (3, .blk 46 [.int .i64, .int .i64]), (1, .view false 5 (.int .u8))], 4⟩
def spec_l05Instr.sig : Sig := ⟨[.ptr 188 (.pair (.sl 5 (.int .u8)) (.pair (.int .i64) (.int .i64))) [0]], [.val true (.pair (.int .i64) (.int .i64)) []]⟩
def spec_l05Instr.F (k : Nat) (x : Args spec_l05Instr.sig.ps) : Option (Res spec_l05Instr.sig) := spec_l05Instr.f k x.1
def spec_l05Instr.ann (k : Nat) : Ann (Res spec_l05Instr.sig) := (.seq .nil (.seq .nil (.join spec_l05Instr.Sj1 (spec_l05Instr.j1 k) .nil (.join spec_l05Instr.Sj2 (spec_l05Instr.j2 k) .nil .nil))))
def spec_l05Instr.ent : Ent := ⟨191, spec_l05Instr.sig, spec_l05Instr.F⟩
def spec_l05Instr.ctx (k : Nat) : Ctx := ⟨tds, [spec_l01Below.ent, spec_l01Once.ent, spec_l01PickInt.ent], k, 33⟩
theorem spec_l05Instr.runs (k : Nat) (x : Args spec_l05Instr.sig.ps) : spec_l05Instr.F k x = runF (spec_l05Instr.ctx k) spec_l05Instr.sig Try.f191 (Try.f191.body.getD .skip) (spec_l05Instr.ann k) x := by kernel_rfl
theorem spec_l05Instr.obls (k : Nat) : obl (spec_l05Instr.ctx k) 2 (Try.f191.body.getD .skip) (spec_l05Instr.ann k) (retK tds spec_l05Instr.sig Try.f191.results.toList) := ⟨trivial, ⟨trivial, ⟨⟨by kernel_rfl, fun x => by kernel_rfl⟩, ⟨trivial, ⟨trivial, trivial⟩⟩, ⟨⟨by kernel_rfl, fun x => by kernel_rfl⟩, ⟨trivial, ⟨trivial, trivial⟩⟩, ⟨⟨trivial, ⟨trivial, trivial⟩⟩, ⟨trivial, trivial⟩⟩⟩⟩⟩⟩
theorem spec_l05Instr.ok (k : Nat) : EntOk Try.prog k spec_l05Instr.ent := fn_ok (C := spec_l05Instr.ctx k) Try.func191 (by kernel_rfl) (by kernel_rfl) mixed tdsOk (.cons (spec_l01Below.ok k) (.cons (spec_l01Once.ok k) (.cons (spec_l01PickInt.ok k) EntsOk.nil))) (by kernel_rfl) (Nat.le_of_ble_eq_true (by kernel_rfl)) (by kernel_rfl) (spec_l05Instr.runs k) (spec_l05Instr.obls k)
/-! loop.example/g00200/spec.l05Code -/
def spec_l05Code.l1 (k : Nat)  : Nat → Int × Int × Int × List Int × (List (Int × Int)) × Unit → Option ((List (Int × Int)) × List Int × Int × Int)
  | 0, _ => none
  | n + 1, (x1, x2, x3, x4, x5, _) => (spec_l01Below.f k (x4, (x2, x3)) 16).bind fun t2 => (if x1 < t2.1 then ((spec_l01Below.f k (x4, t2.2.2) 6).bind fun t3 => (if t3.1 = 0 then ((spec_l01Below.f k (x4, t3.2.2) 5).bind fun t4 => ((spec_l01Below.f k (x4, t4.2.2) 9).bind fun t5 => (((some ([(1, t4.1), (1, t5.1), (3, 0)] : List (Int × Int)))).bind fun y6 => (if (x5.length + y6.length) * 16 ≤ 140737488355328 then (((some (x5 ++ y6))).bind fun y7 => (spec_l05Code.l1 k n (w64 (x1 + 1), t5.2.2.1, t5.2.2.2, x4, y7, ()))) else none)))) else (if t3.1 = 1 then ((spec_l01Below.f k (x4, t3.2.2) 5).bind fun t8 => ((spec_l01Below.f k (x4, t8.2.2) 2).bind fun t9 => (((some ([(1, t8.1), (2, 0), (16, t9.1)] : List (Int × Int)))).bind fun y10 => (if (x5.length + y10.length) * 16 ≤ 140737488355328 then (((some (x5 ++ y10))).bind fun y11 => (spec_l05Code.l1 k n (w64 (x1 + 1), t9.2.2.1, t9.2.2.2, x4, y11, ()))) else none)))) else (if t3.1 = 2 then ((spec_l01Below.f k (x4, t3.2.2) 3).bind fun t12 => ((spec_l01Below.f k (x4, t12.2.2) 3).bind fun t13 => (((some ([(15, t12.1), (13, t13.1), (12, 0)] : List (Int × Int)))).bind fun y14 => (if (x5.length + y14.length) * 16 ≤ 140737488355328 then (((some (x5 ++ y14))).bind fun y15 => (spec_l05Code.l1 k n (w64 (x1 + 1), t13.2.2.1, t13.2.2.2, x4, y15, ()))) else none)))) else ((spec_l05Instr.f k (x4, t3.2.2)).bind fun t16 => (((some ([t16.1] : List (Int × Int)))).bind fun y17 => (if (x5.length + y17.length) * 16 ≤ 140737488355328 then (((some (x5 ++ y17))).bind fun y18 => (spec_l05Code.l1 k n (w64 (x1 + 1), t16.2.2.1, t16.2.2.2, x4, y18, ()))) else none))))))) else ((spec_l01Once.f k (x4, t2.2.2) 2).bind fun t19 => (if t19.1 = true then (((some ([(0, 0)] : List (Int × Int)))).bind fun y20 => (if (x5.length + y20.length) * 16 ≤ 140737488355328 then (((some (x5 ++ y20))).bind fun y21 => (some (y21, (x4, t19.2.2)))) else none)) else (some (x5, (x4, t19.2.2))))))
def spec_l05Code.f (k : Nat) (a0 : List Int × Int × Int) : Option ((List (Int × Int)) × List Int × Int × Int) :=
  ((some ([] : List (Int × Int)))).bind fun y1 => (spec_l05Code.l1 k k (0, a0.2.1, a0.2.2, a0.1, y1, ()))
def spec_l05Code.Sl1 : Shape := ⟨[(0, false, [.ptr 0 0]), (3, false, [.own 2]), (4, false, [.int .i64])], [(0, .blk 188 [.own 1, .int .i64, .int .i64]), (1, .view false 5 (.int .u8)), (2, .row 46 (.pair (.int .i64) (.int .i64)))], 3⟩
def spec_l05Code.sig : Sig := ⟨[.ptr 188 (.pair (.sl 5 (.int .u8)) (.pair (.int .i64) (.int .i64))) [0]], [.val false (.sl 46 (.pair (.int .i64) (.int .i64))) [none]]⟩
def spec_l05Code.F (k : Nat) (x : Args spec_l05Code.sig.ps) : Option (Res spec_l05Code.sig) := spec_l05Code.f k x.1
def spec_l05Code.ann (k : Nat) : Ann (Res spec_l05Code.sig) := (.seq .nil (.seq .nil (.seq (.seq .nil (.block (.loop spec_l05Code.Sl1 (spec_l05Code.l1 k) fun n1 => .nil))) .nil)))
def spec_l05Code.ent : Ent := ⟨162, spec_l05Code.sig, spec_l05Code.F⟩
def spec_l05Code.ctx (k : Nat) : Ctx := ⟨tds, [spec_l01Below.ent, spec_l01Once.ent, spec_l05Instr.ent], k, 62⟩
theorem spec_l05Code.runs (k : Nat) (x : Args spec_l05Code.sig.ps) : spec_l05Code.F k x = runF (spec_l05Code.ctx k) spec_l05Code.sig Try.f162 (Try.f162.body.getD .skip) (spec_l05Code.ann k) x := by kernel_rfl
theorem spec_l05Code.obls (k : Nat) : obl (spec_l05Code.ctx k) 2 (Try.f162.body.getD .skip) (spec_l05Code.ann k) (retK tds spec_l05Code.sig Try.f162.results.toList) := ⟨trivial, ⟨trivial, ⟨⟨trivial, ⟨⟨by kernel_rfl, fun x => by kernel_rfl⟩, fun n => ⟨fun x => by kernel_rfl, ⟨⟨trivial, ⟨trivial, trivial⟩⟩, ⟨⟨trivial, ⟨trivial, ⟨trivial, ⟨trivial, ⟨trivial, ⟨trivial, ⟨trivial, trivial⟩⟩⟩⟩⟩⟩⟩, trivial⟩⟩⟩⟩⟩, ⟨⟨trivial, ⟨trivial, trivial⟩⟩, ⟨trivial, trivial⟩⟩⟩⟩⟩
theorem spec_l05Code.ok (k : Nat) : EntOk Try.prog k spec_l05Code.ent := fn_ok (C := spec_l05Code.ctx k) Try.func162 (by kernel_rfl) (by kernel_rfl) mixed tdsOk (.cons (spec_l01Below.ok k) (.cons (spec_l01Once.ok k) (.cons (spec_l05Instr.ok k) EntsOk.nil))) (by kernel_rfl) (Nat.le_of_ble_eq_true (by kernel_rfl)) (by kernel_rfl) (spec_l05Code.runs k) (spec_l05Code.obls k)
/-! loop.example/g00200/spec.CodeOk -/
def spec_CodeOk.l1 (k : Nat)  : Nat → Int × (List (Int × Int)) × Unit → Option (Bool)
  | 0, _ => none
  | n + 1, (x1, x2, _) => if x1 < (x2.length : Int) then (if 0 ≤ x1 then (if x1 < (x2.length : Int) then ((spec_l01In.f k ((el (.pair (.int .i64) (.int .i64)) x2 x1.toNat).1) 0 255).bind fun t1 => (if ¬ t1 = true then (some false) else (if 0 ≤ x1 then (if x1 < (x2.length : Int) then ((spec_l01In.f k ((el (.pair (.int .i64) (.int .i64)) x2 x1.toNat).2) 0 255).bind fun t2 => (if ¬ t2 = true then (some false) else (spec_CodeOk.l1 k n (w64 (x1 + 1), x2, ())))) else none) else none))) else none) else none) else (some (decide ((x2.length : Int) ≤ 60)))
def spec_CodeOk.f (k : Nat) (a0 : List (Int × Int)) : Option (Bool) :=
  spec_CodeOk.l1 k k (0, a0, ())
def spec_CodeOk.Sl1 : Shape := ⟨[(0, false, [.own 0]), (3, false, [.int .i64])], [(0, .view false 46 (.pair (.int .i64) (.int .i64)))], 1⟩
def spec_CodeOk.sig : Sig := ⟨[.val false (.sl 46 (.pair (.int .i64) (.int .i64))) [0]], [.val false .bool []]⟩
def spec_CodeOk.F (k : Nat) (x : Args spec_CodeOk.sig.ps) : Option (Res spec_CodeOk.sig) := spec_CodeOk.f k x.1
def spec_CodeOk.ann (k : Nat) : Ann (Res spec_CodeOk.sig) := (.seq .nil (.seq (.seq .nil (.block (.loop spec_CodeOk.Sl1 (spec_CodeOk.l1 k) fun n1 => .nil))) .nil))
def spec_CodeOk.ent : Ent := ⟨85, spec_CodeOk.sig, spec_CodeOk.F⟩
def spec_CodeOk.ctx (k : Nat) : Ctx := ⟨tds, [spec_l01In.ent], k, 29⟩
theorem spec_CodeOk.runs (k : Nat) (x : Args spec_CodeOk.sig.ps) : spec_CodeOk.F k x = runF (spec_CodeOk.ctx k) spec_CodeOk.sig Try.f85 (Try.f85.body.getD .skip) (spec_CodeOk.ann k) x := by kernel_rfl
theorem spec_CodeOk.obls (k : Nat) : obl (spec_CodeOk.ctx k) 1 (Try.f85.body.getD .skip) (spec_CodeOk.ann k) (retK tds spec_CodeOk.sig Try.f85.results.toList) := ⟨trivial, ⟨⟨trivial, ⟨⟨by kernel_rfl, fun x => by kernel_rfl⟩, fun n => ⟨fun x => by kernel_rfl, ⟨⟨trivial, ⟨trivial, trivial⟩⟩, ⟨⟨trivial, ⟨⟨trivial, trivial⟩, trivial⟩⟩, trivial⟩⟩⟩⟩⟩, ⟨trivial, trivial⟩⟩⟩
theorem spec_CodeOk.ok (k : Nat) : EntOk Try.prog k spec_CodeOk.ent := fn_ok (C := spec_CodeOk.ctx k) Try.func85 (by kernel_rfl) (by kernel_rfl) mixed tdsOk (.cons (spec_l01In.ok k) EntsOk.nil) (by kernel_rfl) (Nat.le_of_ble_eq_true (by kernel_rfl)) (by kernel_rfl) (spec_CodeOk.runs k) (spec_CodeOk.obls k)
/-! loop.example/g00200/spec.CodeText -/
def spec_CodeText.l1 (k : Nat)  : Nat → Int × (List (Int × Int)) × List Int × Unit → Option (ByteArray × Bool)
  | 0, _ => none
  | n + 1, (x1, x2, x3, _) => if x1 < (x2.length : Int) then (if 0 ≤ x1 then (if x1 < (x2.length : Int) then (if 0 ≤ x1 then (if x1 < (x2.length : Int) then (((some ([IntKind.u8.wrap ((el (.pair (.int .i64) (.int .i64)) x2 x1.toNat).1), IntKind.u8.wrap ((el (.pair (.int .i64) (.int .i64)) x2 x1.toNat).2)] : List Int))).bind fun y3 => (if (x3.length + y3.length) * 1 ≤ 140737488355328 then (((some (x3 ++ y3))).bind fun y4 => (spec_CodeText.l1 k n (w64 (x1 + 1), x2, y4, ()))) else none)) else none) else none) else none) else none) else (some (chrs x3, true))
def spec_CodeText.f (k : Nat) (a0 : List (Int × Int)) : Option (ByteArray × Bool) :=
  (spec_CodeOk.f k a0).bind fun t1 => (if ¬ t1 = true then (some ((⟨#[]⟩ : ByteArray), false)) else (((some ([] : List Int))).bind fun y2 => (spec_CodeText.l1 k k (0, a0, y2, ()))))
def spec_CodeText.Sl1 : Shape := ⟨[(0, false, [.own 0]), (4, false, [.own 1]), (5, false, [.int .i64])], [(0, .view false 46 (.pair (.int .i64) (.int .i64))), (1, .row 5 (.int .u8))], 2⟩
def spec_CodeText.sig : Sig := ⟨[.val false (.sl 46 (.pair (.int .i64) (.int .i64))) [0]], [.val false .str [], .val false .bool []]⟩
def spec_CodeText.F (k : Nat) (x : Args spec_CodeText.sig.ps) : Option (Res spec_CodeText.sig) := spec_CodeText.f k x.1
def spec_CodeText.ann (k : Nat) : Ann (Res spec_CodeText.sig) := (.seq .nil (.seq .nil (.seq .nil (.seq (.seq .nil (.block (.loop spec_CodeText.Sl1 (spec_CodeText.l1 k) fun n1 => .nil))) .nil))))
def spec_CodeText.ent : Ent := ⟨161, spec_CodeText.sig, spec_CodeText.F⟩
def spec_CodeText.ctx (k : Nat) : Ctx := ⟨tds, [spec_CodeOk.ent], k, 33⟩
theorem spec_CodeText.runs (k : Nat) (x : Args spec_CodeText.sig.ps) : spec_CodeText.F k x = runF (spec_CodeText.ctx k) spec_CodeText.sig Try.f161 (Try.f161.body.getD .skip) (spec_CodeText.ann k) x := by kernel_rfl
theorem spec_CodeText.obls (k : Nat) : obl (spec_CodeText.ctx k) 1 (Try.f161.body.getD .skip) (spec_CodeText.ann k) (retK tds spec_CodeText.sig Try.f161.results.toList) := ⟨trivial, ⟨⟨trivial, ⟨⟨trivial, trivial⟩, trivial⟩⟩, ⟨trivial, ⟨⟨trivial, ⟨⟨by kernel_rfl, fun x => by kernel_rfl⟩, fun n => ⟨fun x => by kernel_rfl, ⟨⟨trivial, ⟨trivial, trivial⟩⟩, ⟨trivial, trivial⟩⟩⟩⟩⟩, ⟨trivial, trivial⟩⟩⟩⟩⟩
theorem spec_CodeText.ok (k : Nat) : EntOk Try.prog k spec_CodeText.ent := fn_ok (C := spec_CodeText.ctx k) Try.func161 (by kernel_rfl) (by kernel_rfl) mixed tdsOk (.cons (spec_CodeOk.ok k) EntsOk.nil) (by kernel_rfl) (Nat.le_of_ble_eq_true (by kernel_rfl)) (by kernel_rfl) (spec_CodeText.runs k) (spec_CodeText.obls k)
/-! loop.example/g00200/spec.l11Setup -/
def spec_l11Setup.l2 (k : Nat)  : Nat → Int × Int × Int × Int × List Int × (List (Int × Int)) × (List (Int × Int)) × (List (Int × Int × Int × Int × Int)) × (List (Int × Int × Int)) × List ByteArray × (List (Int × Int)) × (List (Int × Int)) × (List (Int × Int × Int × Int × Int)) × (List (Int × Int × Int)) × List ByteArray × Unit → Option ((List (Int × Int) × List (Int × Int) × List (Int × Int × Int × Int × Int) × List (Int × Int × Int) × List ByteArray) × List Int × Int × Int)
  | 0, _ => none
  | n + 1, (x1, x2, x3, x4, x5, x6, x7, x8, x9, x10, x11, x12, x13, x14, x15, _) => if x2 < x1 then ((spec_l05Code.f k (x5, (x3, x4))).bind fun t8 => ((spec_CodeText.f k t8.1).bind fun t9 => (((some ([t9.1] : List ByteArray))).bind fun y10 => (if (x15.length + y10.length) * 16 ≤ 140737488355328 then (((some (x15 ++ y10))).bind fun y11 => (spec_l11Setup.l2 k n (x1, w64 (x2 + 1), t8.2.2.1, t8.2.2.2, x5, x6, x7, x8, x9, x10, x11, x12, x13, x14, y11, ()))) else none)))) else (some ((x11, (x12, (x13, (x14, x15)))), (x5, (x3, x4))))
def spec_l11Setup.l1 (k : Nat)  : Nat → Int × Int × Int × Int × List Int × (List (Int × Int)) × (List (Int × Int)) × (List (Int × Int × Int × Int × Int)) × (List (Int × Int × Int)) × List ByteArray × (List (Int × Int)) × (List (Int × Int)) × (List (Int × Int × Int × Int × Int)) × (List (Int × Int × Int)) × List ByteArray × Unit → Option ((List (Int × Int) × List (Int × Int) × List (Int × Int × Int × Int × Int) × List (Int × Int × Int) × List ByteArray) × List Int × Int × Int)
  | 0, _ => none
  | n + 1, (x1, x2, x3, x4, x5, x6, x7, x8, x9, x10, x11, x12, x13, x14, x15, _) => (spec_l01Below.f k (x5, (x3, x4)) 4).bind fun t4 => (if x2 < t4.1 then ((spec_l08Port.f k (x5, t4.2.2)).bind fun t5 => (if t5.1.2.1 ≤ x1 then (if t5.1.2.2.1 ≤ x1 then (((some ([t5.1] : List (Int × Int × Int × Int × Int)))).bind fun y6 => (if (x13.length + y6.length) * 40 ≤ 140737488355328 then (((some (x13 ++ y6))).bind fun y7 => (spec_l11Setup.l1 k n (x1, w64 (x2 + 1), t5.2.2.1, t5.2.2.2, x5, x6, x7, x8, x9, x10, x11, x12, y7, x14, x15, ()))) else none)) else (spec_l11Setup.l1 k n (x1, w64 (x2 + 1), t5.2.2.1, t5.2.2.2, x5, x6, x7, x8, x9, x10, x11, x12, x13, x14, x15, ()))) else (spec_l11Setup.l1 k n (x1, w64 (x2 + 1), t5.2.2.1, t5.2.2.2, x5, x6, x7, x8, x9, x10, x11, x12, x13, x14, x15, ())))) else (spec_l11Setup.l2 k k (x1, 0, t4.2.2.1, t4.2.2.2, x5, x6, x7, x8, x9, x10, x11, x12, x13, x14, x15, ())))
def spec_l11Setup.f (k : Nat) (a0 : List Int × Int × Int) : Option ((List (Int × Int) × List (Int × Int) × List (Int × Int × Int × Int × Int) × List (Int × Int × Int) × List ByteArray) × List Int × Int × Int) :=
  (spec_l04Regions.f k a0).bind fun t1 => ((spec_l09Plan.f k (a0.1, t1.2.2) (t1.1.length : Int)).bind fun t2 => ((spec_l10Rules.f k (a0.1, t2.2.2) (t1.1.length : Int)).bind fun t3 => (spec_l11Setup.l1 k k ((t1.1.length : Int), 0, t3.2.2.1, t3.2.2.2, a0.1, [], [], [], [], [], t1.1, t2.1, [], t3.1, [], ()))))
def spec_l11Setup.Sl1 : Shape := ⟨[(0, false, [.ptr 0 0]), (2, false, [.ptr 2 0]), (3, false, [.ptr 8 0]), (4, false, [.int .i64]), (5, false, [.int .i64])], [(0, .blk 188 [.own 1, .int .i64, .int .i64]), (2, .blk 30 [.own 3, .own 4, .own 5, .own 6, .own 7]), (8, .blk 30 [.own 9, .own 10, .own 11, .own 12, .own 13]), (1, .view false 5 (.int .u8)), (3, .row 53 (.pair (.int .i64) (.int .i64))), (4, .row 35 (.pair (.int .i64) (.int .i64))), (5, .row 42 (.pair (.int .i64) (.pair (.int .i64) (.pair (.int .i64) (.pair (.int .i64) (.int .i64)))))), (6, .row 40 (.pair (.int .i64) (.pair (.int .i64) (.int .i64)))), (7, .row 9 .str), (9, .row 53 (.pair (.int .i64) (.int .i64))), (10, .row 35 (.pair (.int .i64) (.int .i64))), (11, .row 42 (.pair (.int .i64) (.pair (.int .i64) (.pair (.int .i64) (.pair (.int .i64) (.int .i64)))))), (12, .row 40 (.pair (.int .i64) (.pair (.int .i64) (.int .i64)))), (13, .row 9 .str)], 14⟩
def spec_l11Setup.Sl2 : Shape := ⟨[(0, false, [.ptr 0 0]), (2, false, [.ptr 2 0]), (3, false, [.ptr 8 0]), (4, false, [.int .i64]), (7, false, [.int .i64])], [(0, .blk 188 [.own 1, .int .i64, .int .i64]), (2, .blk 30 [.own 3, .own 4, .own 5, .own 6, .own 7]), (8, .blk 30 [.own 9, .own 10, .own 11, .own 12, .own 13]), (1, .view false 5 (.int .u8)), (3, .row 53 (.pair (.int .i64) (.int .i64))), (4, .row 35 (.pair (.int .i64) (.int .i64))), (5, .row 42 (.pair (.int .i64) (.pair (.int .i64) (.pair (.int .i64) (.pair (.int .i64) (.int .i64)))))), (6, .row 40 (.pair (.int .i64) (.pair (.int .i64) (.int .i64)))), (7, .row 9 .str), (9, .row 53 (.pair (.int .i64) (.int .i64))), (10, .row 35 (.pair (.int .i64) (.int .i64))), (11, .row 42 (.pair (.int .i64) (.pair (.int .i64) (.pair (.int .i64) (.pair (.int .i64) (.int .i64)))))), (12, .row 40 (.pair (.int .i64) (.pair (.int .i64) (.int .i64)))), (13, .row 9 .str)], 14⟩
def spec_l11Setup.sig : Sig := ⟨[.ptr 188 (.pair (.sl 5 (.int .u8)) (.pair (.int .i64) (.int .i64))) [0]], [.val true (.pair (.sl 53 (.pair (.int .i64) (.int .i64))) (.pair (.sl 35 (.pair (.int .i64) (.int .i64))) (.pair (.sl 42 (.pair (.int .i64) (.pair (.int .i64) (.pair (.int .i64) (.pair (.int .i64) (.int .i64)))))) (.pair (.sl 40 (.pair (.int .i64) (.pair (.int .i64) (.int .i64)))) (.sl 9 .str))))) [none, none, none, none, none]]⟩
def spec_l11Setup.F (k : Nat) (x : Args spec_l11Setup.sig.ps) : Option (Res spec_l11Setup.sig) := spec_l11Setup.f k x.1
def spec_l11Setup.ann (k : Nat) : Ann (Res spec_l11Setup.sig) := (.seq .nil (.seq .nil (.seq .nil (.seq .nil (.seq .nil (.seq (.seq .nil (.block (.loop spec_l11Setup.Sl1 (spec_l11Setup.l1 k) fun n1 => .nil))) (.seq (.seq .nil (.block (.loop spec_l11Setup.Sl2 (spec_l11Setup.l2 k) fun n1 => .nil))) .nil)))))))
def spec_l11Setup.ent : Ent := ⟨65, spec_l11Setup.sig, spec_l11Setup.F⟩
def spec_l11Setup.ctx (k : Nat) : Ctx := ⟨tds, [spec_l01Below.ent, spec_l04Regions.ent, spec_l09Plan.ent, spec_l10Rules.ent, spec_l08Port.ent, spec_CodeText.ent, spec_l05Code.ent], k, 66⟩
theorem spec_l11Setup.runs (k : Nat) (x : Args spec_l11Setup.sig.ps) : spec_l11Setup.F k x = runF (spec_l11Setup.ctx k) spec_l11Setup.sig Try.f65 (Try.f65.body.getD .skip) (spec_l11Setup.ann k) x := by kernel_rfl
theorem spec_l11Setup.obls (k : Nat) : obl (spec_l11Setup.ctx k) 2 (Try.f65.body.getD .skip) (spec_l11Setup.ann k) (retK tds spec_l11Setup.sig Try.f65.results.toList) := ⟨trivial, ⟨trivial, ⟨trivial, ⟨trivial, ⟨trivial, ⟨⟨trivial, ⟨⟨by kernel_rfl, fun x => by kernel_rfl⟩, fun n => ⟨fun x => by kernel_rfl, ⟨⟨trivial, ⟨trivial, trivial⟩⟩, ⟨⟨trivial, ⟨trivial, ⟨trivial, trivial⟩⟩⟩, trivial⟩⟩⟩⟩⟩, ⟨⟨trivial, ⟨⟨by kernel_rfl, fun x => by kernel_rfl⟩, fun n => ⟨fun x => by kernel_rfl, ⟨⟨trivial, ⟨trivial, trivial⟩⟩, ⟨⟨trivial, trivial⟩, trivial⟩⟩⟩⟩⟩, ⟨trivial, trivial⟩⟩⟩⟩⟩⟩⟩⟩
theorem spec_l11Setup.ok (k : Nat) : EntOk Try.prog k spec_l11Setup.ent := fn_ok (C := spec_l11Setup.ctx k) Try.func65 (by kernel_rfl) (by kernel_rfl) mixed tdsOk (.cons (spec_l01Below.ok k) (.cons (spec_l04Regions.ok k) (.cons (spec_l09Plan.ok k) (.cons (spec_l10Rules.ok k) (.cons (spec_l08Port.ok k) (.cons (spec_CodeText.ok k) (.cons (spec_l05Code.ok k) EntsOk.nil))))))) (by kernel_rfl) (Nat.le_of_ble_eq_true (by kernel_rfl)) (by kernel_rfl) (spec_l11Setup.runs k) (spec_l11Setup.obls k)
/-! loop.example/g00200/spec.DrawSetup -/
def spec_DrawSetup.f (k : Nat) (a0 : List Int) : Option (List (Int × Int) × List (Int × Int) × List (Int × Int × Int × Int × Int) × List (Int × Int × Int) × List ByteArray) :=
  (spec_l01New.f k a0).bind fun t1 => ((spec_l11Setup.f k (a0, t1.2)).bind fun t2 => (some t2.1))
def spec_DrawSetup.sig : Sig := ⟨[.val false (.sl 5 (.int .u8)) [0]], [.val true (.pair (.sl 53 (.pair (.int .i64) (.int .i64))) (.pair (.sl 35 (.pair (.int .i64) (.int .i64))) (.pair (.sl 42 (.pair (.int .i64) (.pair (.int .i64) (.pair (.int .i64) (.pair (.int .i64) (.int .i64)))))) (.pair (.sl 40 (.pair (.int .i64) (.pair (.int .i64) (.int .i64)))) (.sl 9 .str))))) [none, none, none, none, none]]⟩
def spec_DrawSetup.F (k : Nat) (x : Args spec_DrawSetup.sig.ps) : Option (Res spec_DrawSetup.sig) := spec_DrawSetup.f k x.1
def spec_DrawSetup.ann (k : Nat) : Ann (Res spec_DrawSetup.sig) := .nil
def spec_DrawSetup.ent : Ent := ⟨15, spec_DrawSetup.sig, spec_DrawSetup.F⟩
def spec_DrawSetup.ctx (k : Nat) : Ctx := ⟨tds, [spec_l11Setup.ent, spec_l01New.ent], k, 6⟩
theorem spec_DrawSetup.runs (k : Nat) (x : Args spec_DrawSetup.sig.ps) : spec_DrawSetup.F k x = runF (spec_DrawSetup.ctx k) spec_DrawSetup.sig Try.f15 (Try.f15.body.getD .skip) (spec_DrawSetup.ann k) x := by kernel_rfl
theorem spec_DrawSetup.obls (k : Nat) : obl (spec_DrawSetup.ctx k) 1 (Try.f15.body.getD .skip) (spec_DrawSetup.ann k) (retK tds spec_DrawSetup.sig Try.f15.results.toList) := ⟨trivial, ⟨trivial, trivial⟩⟩
theorem spec_DrawSetup.ok (k : Nat) : EntOk Try.prog k spec_DrawSetup.ent := fn_ok (C := spec_DrawSetup.ctx k) Try.func15 (by kernel_rfl) (by kernel_rfl) mixed tdsOk (.cons (spec_l11Setup.ok k) (.cons (spec_l01New.ok k) EntsOk.nil)) (by kernel_rfl) (Nat.le_of_ble_eq_true (by kernel_rfl)) (by kernel_rfl) (spec_DrawSetup.runs k) (spec_DrawSetup.obls k)
/-! loop.example/g00200/spec.DrawPlaces -/
def spec_DrawPlaces.l1 (k : Nat)  : Nat → Int × Int × Int × List Int × List Int × Unit → Option (List Int)
  | 0, _ => none
  | n + 1, (x1, x2, x3, x4, x5, _) => if x1 < 12 then ((spec_l01Below.f k (x4, (x2, x3)) 10000).bind fun t4 => (((some ([t4.1] : List Int))).bind fun y5 => (if (x5.length + y5.length) * 8 ≤ 140737488355328 then (((some (x5 ++ y5))).bind fun y6 => (spec_DrawPlaces.l1 k n (w64 (x1 + 1), t4.2.2.1, t4.2.2.2, x4, y6, ()))) else none))) else (some x5)
def spec_DrawPlaces.f (k : Nat) (a0 : List Int) : Option (List Int) :=
  (spec_l01New.f k a0).bind fun t1 => ((spec_l01Byte.f k (a0, t1.2)).bind fun t2 => (((some ([] : List Int))).bind fun y3 => (spec_DrawPlaces.l1 k k (0, t2.2.2.1, t2.2.2.2, a0, y3, ()))))
def spec_DrawPlaces.Sl1 : Shape := ⟨[(3, false, [.ptr 1 0]), (4, false, [.own 2]), (5, false, [.int .i64])], [(1, .blk 188 [.own 0, .int .i64, .int .i64]), (0, .view false 5 (.int .u8)), (2, .row 3 (.int .i64))], 3⟩
def spec_DrawPlaces.sig : Sig := ⟨[.val false (.sl 5 (.int .u8)) [0]], [.val false (.sl 3 (.int .i64)) [none]]⟩
def spec_DrawPlaces.F (k : Nat) (x : Args spec_DrawPlaces.sig.ps) : Option (Res spec_DrawPlaces.sig) := spec_DrawPlaces.f k x.1
def spec_DrawPlaces.ann (k : Nat) : Ann (Res spec_DrawPlaces.sig) := (.seq .nil (.seq .nil (.seq .nil (.seq .nil (.seq (.seq .nil (.block (.loop spec_DrawPlaces.Sl1 (spec_DrawPlaces.l1 k) fun n1 => .nil))) .nil)))))
def spec_DrawPlaces.ent : Ent := ⟨16, spec_DrawPlaces.sig, spec_DrawPlaces.F⟩
def spec_DrawPlaces.ctx (k : Nat) : Ctx := ⟨tds, [spec_l01New.ent, spec_l01Byte.ent, spec_l01Below.ent], k, 21⟩
theorem spec_DrawPlaces.runs (k : Nat) (x : Args spec_DrawPlaces.sig.ps) : spec_DrawPlaces.F k x = runF (spec_DrawPlaces.ctx k) spec_DrawPlaces.sig Try.f16 (Try.f16.body.getD .skip) (spec_DrawPlaces.ann k) x := by kernel_rfl
theorem spec_DrawPlaces.obls (k : Nat) : obl (spec_DrawPlaces.ctx k) 1 (Try.f16.body.getD .skip) (spec_DrawPlaces.ann k) (retK tds spec_DrawPlaces.sig Try.f16.results.toList) := ⟨trivial, ⟨trivial, ⟨trivial, ⟨trivial, ⟨⟨trivial, ⟨⟨by kernel_rfl, fun x => by kernel_rfl⟩, fun n => ⟨fun x => by kernel_rfl, ⟨⟨trivial, ⟨trivial, trivial⟩⟩, ⟨trivial, trivial⟩⟩⟩⟩⟩, ⟨trivial, trivial⟩⟩⟩⟩⟩⟩
theorem spec_DrawPlaces.ok (k : Nat) : EntOk Try.prog k spec_DrawPlaces.ent := fn_ok (C := spec_DrawPlaces.ctx k) Try.func16 (by kernel_rfl) (by kernel_rfl) mixed tdsOk (.cons (spec_l01New.ok k) (.cons (spec_l01Byte.ok k) (.cons (spec_l01Below.ok k) EntsOk.nil))) (by kernel_rfl) (Nat.le_of_ble_eq_true (by kernel_rfl)) (by kernel_rfl) (spec_DrawPlaces.runs k) (spec_DrawPlaces.obls k)
/-! loop.example/g00200/impl.within -/
def impl_within.f (k : Nat) (a0 : Int) (a1 : Int) (a2 : Int) : Option (Bool) :=
  if a1 ≤ a0 then (some (decide (a0 ≤ a2))) else (some false)
def impl_within.sig : Sig := ⟨[.val false (.int .i64) [], .val false (.int .i64) [], .val false (.int .i64) []], [.val false .bool []]⟩
def impl_within.F (k : Nat) (x : Args impl_within.sig.ps) : Option (Res impl_within.sig) := impl_within.f k x.1 x.2.1 x.2.2.1
def impl_within.ann (k : Nat) : Ann (Res impl_within.sig) := .nil
def impl_within.ent : Ent := ⟨71, impl_within.sig, impl_within.F⟩
def impl_within.ctx (k : Nat) : Ctx := ⟨tds, [], k, 15⟩
theorem impl_within.runs (k : Nat) (x : Args impl_within.sig.ps) : impl_within.F k x = runF (impl_within.ctx k) impl_within.sig Try.f71 (Try.f71.body.getD .skip) (impl_within.ann k) x := by kernel_rfl
theorem impl_within.obls (k : Nat) : obl (impl_within.ctx k) 0 (Try.f71.body.getD .skip) (impl_within.ann k) (retK tds impl_within.sig Try.f71.results.toList) := ⟨trivial, ⟨trivial, trivial⟩⟩
theorem impl_within.ok (k : Nat) : EntOk Try.prog k impl_within.ent := fn_ok (C := impl_within.ctx k) Try.func71 (by kernel_rfl) (by kernel_rfl) mixed tdsOk EntsOk.nil (by kernel_rfl) (Nat.le_of_ble_eq_true (by kernel_rfl)) (by kernel_rfl) (impl_within.runs k) (impl_within.obls k)
/-! loop.example/g00200/impl.isPart -/
def impl_isPart.f (k : Nat) (a0 : Int) : Option (Bool) :=
  (impl_within.f k a0 1 4).bind fun t1 => (some t1)
def impl_isPart.sig : Sig := ⟨[.val false (.int .i64) []], [.val false .bool []]⟩
def impl_isPart.F (k : Nat) (x : Args impl_isPart.sig.ps) : Option (Res impl_isPart.sig) := impl_isPart.f k x.1
def impl_isPart.ann (k : Nat) : Ann (Res impl_isPart.sig) := .nil
def impl_isPart.ent : Ent := ⟨69, impl_isPart.sig, impl_isPart.F⟩
def impl_isPart.ctx (k : Nat) : Ctx := ⟨tds, [impl_within.ent], k, 5⟩
theorem impl_isPart.runs (k : Nat) (x : Args impl_isPart.sig.ps) : impl_isPart.F k x = runF (impl_isPart.ctx k) impl_isPart.sig Try.f69 (Try.f69.body.getD .skip) (impl_isPart.ann k) x := by kernel_rfl
theorem impl_isPart.obls (k : Nat) : obl (impl_isPart.ctx k) 0 (Try.f69.body.getD .skip) (impl_isPart.ann k) (retK tds impl_isPart.sig Try.f69.results.toList) := ⟨trivial, ⟨trivial, trivial⟩⟩
theorem impl_isPart.ok (k : Nat) : EntOk Try.prog k impl_isPart.ent := fn_ok (C := impl_isPart.ctx k) Try.func69 (by kernel_rfl) (by kernel_rfl) mixed tdsOk (.cons (impl_within.ok k) EntsOk.nil) (by kernel_rfl) (Nat.le_of_ble_eq_true (by kernel_rfl)) (by kernel_rfl) (impl_isPart.runs k) (impl_isPart.obls k)
/-! loop.example/g00200/impl.isBudget -/
def impl_isBudget.f (k : Nat) (a0 : Int) : Option (Bool) :=
  (impl_within.f k a0 1 200).bind fun t1 => (some t1)
def impl_isBudget.sig : Sig := ⟨[.val false (.int .i64) []], [.val false .bool []]⟩
def impl_isBudget.F (k : Nat) (x : Args impl_isBudget.sig.ps) : Option (Res impl_isBudget.sig) := impl_isBudget.f k x.1
def impl_isBudget.ann (k : Nat) : Ann (Res impl_isBudget.sig) := .nil
def impl_isBudget.ent : Ent := ⟨70, impl_isBudget.sig, impl_isBudget.F⟩
def impl_isBudget.ctx (k : Nat) : Ctx := ⟨tds, [impl_within.ent], k, 5⟩
theorem impl_isBudget.runs (k : Nat) (x : Args impl_isBudget.sig.ps) : impl_isBudget.F k x = runF (impl_isBudget.ctx k) impl_isBudget.sig Try.f70 (Try.f70.body.getD .skip) (impl_isBudget.ann k) x := by kernel_rfl
theorem impl_isBudget.obls (k : Nat) : obl (impl_isBudget.ctx k) 0 (Try.f70.body.getD .skip) (impl_isBudget.ann k) (retK tds impl_isBudget.sig Try.f70.results.toList) := ⟨trivial, ⟨trivial, trivial⟩⟩
theorem impl_isBudget.ok (k : Nat) : EntOk Try.prog k impl_isBudget.ent := fn_ok (C := impl_isBudget.ctx k) Try.func70 (by kernel_rfl) (by kernel_rfl) mixed tdsOk (.cons (impl_within.ok k) EntsOk.nil) (by kernel_rfl) (Nat.le_of_ble_eq_true (by kernel_rfl)) (by kernel_rfl) (impl_isBudget.runs k) (impl_isBudget.obls k)
/-! loop.example/g00200/impl.PlanOk -/
def impl_PlanOk.l1 (k : Nat)  : Nat → Int × Int × (List (Int × Int)) × Unit → Option (Bool)
  | 0, _ => none
  | n + 1, (x1, x2, x3, _) => if x2 < x1 then (if 0 ≤ x2 then (if x2 < (x3.length : Int) then ((impl_isPart.f k ((el (.pair (.int .i64) (.int .i64)) x3 x2.toNat).1)).bind fun t1 => (if ¬ t1 = true then (some false) else ((impl_isBudget.f k ((el (.pair (.int .i64) (.int .i64)) x3 x2.toNat).2)).bind fun t2 => (if ¬ t2 = true then (some false) else (impl_PlanOk.l1 k n (x1, w64 (x2 + 1), x3, ())))))) else none) else none) else ((impl_within.f k (x3.length : Int) 1 12).bind fun t3 => (some t3))
def impl_PlanOk.f (k : Nat) (a0 : List (Int × Int)) : Option (Bool) :=
  impl_PlanOk.l1 k k ((a0.length : Int), 0, a0, ())
def impl_PlanOk.Sl1 : Shape := ⟨[(0, false, [.own 0]), (5, false, [.own 0]), (6, false, [.int .i64]), (7, false, [.int .i64])], [(0, .view false 35 (.pair (.int .i64) (.int .i64)))], 1⟩
def impl_PlanOk.sig : Sig := ⟨[.val false (.sl 35 (.pair (.int .i64) (.int .i64))) [0]], [.val false .bool []]⟩
def impl_PlanOk.F (k : Nat) (x : Args impl_PlanOk.sig.ps) : Option (Res impl_PlanOk.sig) := impl_PlanOk.f k x.1
def impl_PlanOk.ann (k : Nat) : Ann (Res impl_PlanOk.sig) := (.seq .nil (.seq (.seq .nil (.block (.loop impl_PlanOk.Sl1 (impl_PlanOk.l1 k) fun n1 => .nil))) .nil))
def impl_PlanOk.ent : Ent := ⟨19, impl_PlanOk.sig, impl_PlanOk.F⟩
def impl_PlanOk.ctx (k : Nat) : Ctx := ⟨tds, [impl_isPart.ent, impl_isBudget.ent, impl_within.ent], k, 25⟩
theorem impl_PlanOk.runs (k : Nat) (x : Args impl_PlanOk.sig.ps) : impl_PlanOk.F k x = runF (impl_PlanOk.ctx k) impl_PlanOk.sig Try.f19 (Try.f19.body.getD .skip) (impl_PlanOk.ann k) x := by kernel_rfl
theorem impl_PlanOk.obls (k : Nat) : obl (impl_PlanOk.ctx k) 1 (Try.f19.body.getD .skip) (impl_PlanOk.ann k) (retK tds impl_PlanOk.sig Try.f19.results.toList) := ⟨trivial, ⟨⟨trivial, ⟨⟨by kernel_rfl, fun x => by kernel_rfl⟩, fun n => ⟨fun x => by kernel_rfl, ⟨trivial, ⟨⟨trivial, trivial⟩, ⟨⟨trivial, ⟨trivial, ⟨⟨trivial, trivial⟩, trivial⟩⟩⟩, trivial⟩⟩⟩⟩⟩⟩, ⟨trivial, trivial⟩⟩⟩
theorem impl_PlanOk.ok (k : Nat) : EntOk Try.prog k impl_PlanOk.ent := fn_ok (C := impl_PlanOk.ctx k) Try.func19 (by kernel_rfl) (by kernel_rfl) mixed tdsOk (.cons (impl_isPart.ok k) (.cons (impl_isBudget.ok k) (.cons (impl_within.ok k) EntsOk.nil))) (by kernel_rfl) (Nat.le_of_ble_eq_true (by kernel_rfl)) (by kernel_rfl) (impl_PlanOk.runs k) (impl_PlanOk.obls k)
/-! loop.example/g00200/impl.WindowAt -/
def impl_WindowAt.f (k : Nat) (a0 : List (Int × Int)) (a1 : Int) : Option (Int × Int) :=
  (impl_PlanOk.f k a0).bind fun t1 => (if ¬ t1 = true then (some (0, 0)) else (if a1 < 0 then (some (0, 0)) else (if ¬ (a0.length : Int) = 0 then (if 0 ≤ Int.tmod a1 (a0.length : Int) then (if Int.tmod a1 (a0.length : Int) < (a0.length : Int) then (some (el (.pair (.int .i64) (.int .i64)) a0 ((Int.tmod a1 (a0.length : Int)).toNat))) else none) else none) else none)))
def impl_WindowAt.sig : Sig := ⟨[.val false (.sl 35 (.pair (.int .i64) (.int .i64))) [0], .val false (.int .i64) []], [.val true (.pair (.int .i64) (.int .i64)) []]⟩
def impl_WindowAt.F (k : Nat) (x : Args impl_WindowAt.sig.ps) : Option (Res impl_WindowAt.sig) := impl_WindowAt.f k x.1 x.2.1
def impl_WindowAt.ann (k : Nat) : Ann (Res impl_WindowAt.sig) := .nil
def impl_WindowAt.ent : Ent := ⟨17, impl_WindowAt.sig, impl_WindowAt.F⟩
def impl_WindowAt.ctx (k : Nat) : Ctx := ⟨tds, [impl_PlanOk.ent], k, 20⟩
theorem impl_WindowAt.runs (k : Nat) (x : Args impl_WindowAt.sig.ps) : impl_WindowAt.F k x = runF (impl_WindowAt.ctx k) impl_WindowAt.sig Try.f17 (Try.f17.body.getD .skip) (impl_WindowAt.ann k) x := by kernel_rfl
theorem impl_WindowAt.obls (k : Nat) : obl (impl_WindowAt.ctx k) 1 (Try.f17.body.getD .skip) (impl_WindowAt.ann k) (retK tds impl_WindowAt.sig Try.f17.results.toList) := ⟨trivial, ⟨⟨trivial, ⟨⟨trivial, trivial⟩, trivial⟩⟩, ⟨trivial, trivial⟩⟩⟩
theorem impl_WindowAt.ok (k : Nat) : EntOk Try.prog k impl_WindowAt.ent := fn_ok (C := impl_WindowAt.ctx k) Try.func17 (by kernel_rfl) (by kernel_rfl) mixed tdsOk (.cons (impl_PlanOk.ok k) EntsOk.nil) (by kernel_rfl) (Nat.le_of_ble_eq_true (by kernel_rfl)) (by kernel_rfl) (impl_WindowAt.runs k) (impl_WindowAt.obls k)
/-! loop.example/g00200/impl.TimeOf -/
def impl_TimeOf.l1 (k : Nat)  : Nat → Int × Int × Int × Int × (List (Int × Int)) × Unit → Option (Int)
  | 0, _ => none
  | n + 1, (x1, x2, x3, x4, x5, _) => if x4 < x3 then (if 0 ≤ x4 then (if x4 < (x5.length : Int) then (if ((el (.pair (.int .i64) (.int .i64)) x5 x4.toNat).1) = x1 then (impl_TimeOf.l1 k n (x1, w64 (x2 + ((el (.pair (.int .i64) (.int .i64)) x5 x4.toNat).2)), x3, w64 (x4 + 1), x5, ())) else (impl_TimeOf.l1 k n (x1, x2, x3, w64 (x4 + 1), x5, ()))) else none) else none) else (some x2)
def impl_TimeOf.f (k : Nat) (a0 : List (Int × Int)) (a1 : Int) : Option (Int) :=
  impl_TimeOf.l1 k k (a1, 0, (a0.length : Int), 0, a0, ())
def impl_TimeOf.Sl1 : Shape := ⟨[(1, false, [.int .i64]), (5, false, [.int .i64]), (8, false, [.own 0]), (9, false, [.int .i64]), (10, false, [.int .i64])], [(0, .view false 35 (.pair (.int .i64) (.int .i64)))], 1⟩
def impl_TimeOf.sig : Sig := ⟨[.val false (.sl 35 (.pair (.int .i64) (.int .i64))) [0], .val false (.int .i64) []], [.val false (.int .i64) []]⟩
def impl_TimeOf.F (k : Nat) (x : Args impl_TimeOf.sig.ps) : Option (Res impl_TimeOf.sig) := impl_TimeOf.f k x.1 x.2.1
def impl_TimeOf.ann (k : Nat) : Ann (Res impl_TimeOf.sig) := (.seq .nil (.seq .nil (.seq (.seq .nil (.block (.loop impl_TimeOf.Sl1 (impl_TimeOf.l1 k) fun n1 => .nil))) .nil)))
def impl_TimeOf.ent : Ent := ⟨18, impl_TimeOf.sig, impl_TimeOf.F⟩
def impl_TimeOf.ctx (k : Nat) : Ctx := ⟨tds, [], k, 24⟩
theorem impl_TimeOf.runs (k : Nat) (x : Args impl_TimeOf.sig.ps) : impl_TimeOf.F k x = runF (impl_TimeOf.ctx k) impl_TimeOf.sig Try.f18 (Try.f18.body.getD .skip) (impl_TimeOf.ann k) x := by kernel_rfl
theorem impl_TimeOf.obls (k : Nat) : obl (impl_TimeOf.ctx k) 1 (Try.f18.body.getD .skip) (impl_TimeOf.ann k) (retK tds impl_TimeOf.sig Try.f18.results.toList) := ⟨trivial, ⟨trivial, ⟨⟨trivial, ⟨⟨by kernel_rfl, fun x => by kernel_rfl⟩, fun n => ⟨fun x => by kernel_rfl, ⟨trivial, ⟨⟨trivial, trivial⟩, ⟨⟨trivial, ⟨trivial, ⟨trivial, trivial⟩⟩⟩, trivial⟩⟩⟩⟩⟩⟩, ⟨trivial, trivial⟩⟩⟩⟩
theorem impl_TimeOf.ok (k : Nat) : EntOk Try.prog k impl_TimeOf.ent := fn_ok (C := impl_TimeOf.ctx k) Try.func18 (by kernel_rfl) (by kernel_rfl) mixed tdsOk EntsOk.nil (by kernel_rfl) (Nat.le_of_ble_eq_true (by kernel_rfl)) (by kernel_rfl) (impl_TimeOf.runs k) (impl_TimeOf.obls k)
end Go.Proofs.Ytcnaldcinkmpbaa.QA
