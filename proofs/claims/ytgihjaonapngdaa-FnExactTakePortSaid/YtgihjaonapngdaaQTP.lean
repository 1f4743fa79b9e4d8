/- test -/
import Derived.Test.YtgihjaonapngdaaProg
import Derived.Test.YtgihjaonapngdaaAbDa
import Derived.KernelRfl
namespace Go.Proofs.Ytgihjaonapngdaa.QTP
open Go Go.Proofs Go.Proofs.YtgihjaonapngdaaA
set_option linter.unusedVariables false
set_option maxRecDepth 100000
def tds : List (Nat × TD) := [(2, ⟨.int .i64, 1, 8, (.int .i64), false, false⟩),
  (3, ⟨.int .i64, 1, 8, (.int .i64), false, false⟩),
  (4, ⟨.bool, 1, 1, .bool, false, false⟩),
  (5, ⟨.int .u8, 1, 1, (.int .u8), false, false⟩),
  (6, ⟨.int .u8, 1, 1, (.int .u8), false, false⟩),
  (7, ⟨.struct [(0, 2), (1, 3), (2, 4), (3, 6)], 4, 24, (.pair (.int .i64) (.pair (.int .i64) (.pair .bool (.int .u8)))), true, false⟩),
  (8, ⟨.struct [(0, 2), (1, 3), (2, 4), (3, 6)], 4, 24, (.pair (.int .i64) (.pair (.int .i64) (.pair .bool (.int .u8)))), true, false⟩),
  (9, ⟨.str, 1, 16, .str, false, false⟩),
  (10, ⟨.str, 1, 16, .str, false, false⟩),
  (11, ⟨.str, 1, 16, .str, false, false⟩),
  (12, ⟨.int .u64, 1, 8, (.int .u64), false, false⟩),
  (13, ⟨.struct [(0, 9), (1, 12)], 2, 24, (.pair .str (.int .u64)), true, false⟩),
  (14, ⟨.struct [(0, 9), (1, 12)], 2, 24, (.pair .str (.int .u64)), true, false⟩),
  (21, ⟨.int .i32, 1, 4, (.int .i32), false, false⟩),
  (22, ⟨.slice 96, 1, 24, (.sl 96 (.pair (.int .i64) (.pair (.int .i64) (.int .i64)))), false, false⟩),
  (25, ⟨.slice 44, 1, 24, (.sl 44 (.pair (.int .i64) (.pair (.int .i64) (.int .i64)))), false, false⟩),
  (31, ⟨.struct [(0, 3), (1, 3), (2, 3), (3, 3)], 4, 32, (.pair (.int .i64) (.pair (.int .i64) (.pair (.int .i64) (.int .i64)))), true, false⟩),
  (32, ⟨.struct [(0, 3), (1, 3), (2, 3), (3, 3)], 4, 32, (.pair (.int .i64) (.pair (.int .i64) (.pair (.int .i64) (.int .i64)))), true, false⟩),
  (35, ⟨.struct [(0, 3), (1, 3), (2, 3), (3, 3)], 4, 32, (.pair (.int .i64) (.pair (.int .i64) (.pair (.int .i64) (.int .i64)))), true, false⟩),
  (38, ⟨.slice 5, 1, 24, (.sl 5 (.int .u8)), false, false⟩),
  (43, ⟨.struct [(0, 3), (1, 3), (2, 3)], 3, 24, (.pair (.int .i64) (.pair (.int .i64) (.int .i64))), true, false⟩),
  (44, ⟨.struct [(0, 3), (1, 3), (2, 3)], 3, 24, (.pair (.int .i64) (.pair (.int .i64) (.int .i64))), true, false⟩),
  (45, ⟨.slice 3, 1, 24, (.sl 3 (.int .i64)), false, false⟩),
  (46, ⟨.slice 57, 1, 24, (.sl 57 (.pair (.int .i64) (.int .i64))), false, false⟩),
  (56, ⟨.struct [(0, 3), (1, 3)], 2, 16, (.pair (.int .i64) (.int .i64)), true, false⟩),
  (57, ⟨.struct [(0, 3), (1, 3)], 2, 16, (.pair (.int .i64) (.int .i64)), true, false⟩),
  (62, ⟨.slice 117, 1, 24, (.sl 117 (.pair (.int .i64) (.int .i64))), false, false⟩),
  (65, ⟨.slice 113, 1, 24, (.sl 113 (.pair (.int .i64) (.int .i64))), false, false⟩),
  (69, ⟨.struct [(0, 3), (1, 3), (2, 3), (3, 3), (4, 3)], 5, 40, (.pair (.int .i64) (.pair (.int .i64) (.pair (.int .i64) (.pair (.int .i64) (.int .i64))))), true, false⟩),
  (70, ⟨.struct [(0, 3), (1, 3), (2, 3), (3, 3), (4, 3)], 5, 40, (.pair (.int .i64) (.pair (.int .i64) (.pair (.int .i64) (.pair (.int .i64) (.int .i64))))), true, false⟩),
  (71, ⟨.slice 123, 1, 24, (.sl 123 (.pair (.int .i64) (.int .i64))), false, false⟩),
  (72, ⟨.struct [(0, 71)], 1, 24, (.sl 123 (.pair (.int .i64) (.int .i64))), true, false⟩),
  (73, ⟨.struct [(0, 71)], 1, 24, (.sl 123 (.pair (.int .i64) (.int .i64))), true, false⟩),
  (81, ⟨.struct [(0, 3), (1, 3), (2, 3), (3, 3), (4, 3)], 5, 40, (.pair (.int .i64) (.pair (.int .i64) (.pair (.int .i64) (.pair (.int .i64) (.int .i64))))), true, false⟩),
  (82, ⟨.slice 150, 1, 24, (.sl 150 (.pair (.int .i64) (.int .i64))), false, false⟩),
  (83, ⟨.struct [(0, 82)], 1, 24, (.sl 150 (.pair (.int .i64) (.int .i64))), true, false⟩),
  (84, ⟨.struct [(0, 82)], 1, 24, (.sl 150 (.pair (.int .i64) (.int .i64))), true, false⟩),
  (96, ⟨.struct [(0, 3), (1, 3), (2, 3)], 3, 24, (.pair (.int .i64) (.pair (.int .i64) (.int .i64))), true, false⟩),
  (99, ⟨.slice 9, 1, 24, (.sl 9 .str), false, false⟩),
  (112, ⟨.struct [(0, 3), (1, 3)], 2, 16, (.pair (.int .i64) (.int .i64)), true, false⟩),
  (113, ⟨.struct [(0, 3), (1, 3)], 2, 16, (.pair (.int .i64) (.int .i64)), true, false⟩),
  (117, ⟨.struct [(0, 3), (1, 3)], 2, 16, (.pair (.int .i64) (.int .i64)), true, false⟩),
  (122, ⟨.struct [(0, 3), (1, 3)], 2, 16, (.pair (.int .i64) (.int .i64)), true, false⟩),
  (123, ⟨.struct [(0, 3), (1, 3)], 2, 16, (.pair (.int .i64) (.int .i64)), true, false⟩),
  (124, ⟨.int .u64, 1, 8, (.int .u64), false, false⟩),
  (142, ⟨.int .u32, 1, 4, (.int .u32), false, false⟩),
  (146, ⟨.struct [(0, 38), (1, 3), (2, 3)], 3, 40, (.pair (.sl 5 (.int .u8)) (.pair (.int .i64) (.int .i64))), true, false⟩),
  (147, ⟨.struct [(0, 38), (1, 3), (2, 3)], 3, 40, (.pair (.sl 5 (.int .u8)) (.pair (.int .i64) (.int .i64))), true, false⟩),
  (150, ⟨.struct [(0, 3), (1, 3)], 2, 16, (.pair (.int .i64) (.int .i64)), true, false⟩),
  (163, ⟨.int .u8, 1, 1, (.int .u8), false, false⟩),
  (164, ⟨.int .u8, 1, 1, (.int .u8), false, false⟩),
  (166, ⟨.int .i32, 1, 4, (.int .i32), false, false⟩),
  (167, ⟨.int .i32, 1, 4, (.int .i32), false, false⟩)]
theorem mixed : Try.prog.follows .mixedOrders = true := by kernel_rfl
theorem tdsOk : TdsOk Try.prog tds := tds_ok (by kernel_rfl) (by kernel_rfl)
def w64 (z : Int) : Int := IntKind.i64.wrap z
/-! loop.example/g00200/laws.szMsgS -/
def laws_szMsgS.f (k : Nat) (a0 : List (Int × Int)) (a1 : Int) : Option (Int) :=
  if (w64 (a1 - (a0.length : Int))) < 0 then (some (-1)) else (some (w64 (a1 - (a0.length : Int))))
def laws_szMsgS.sig : Sig := ⟨[.val false (.sl 150 (.pair (.int .i64) (.int .i64))) [0], .val false (.int .i64) []], [.val false (.int .i64) []]⟩
def laws_szMsgS.F (k : Nat) (x : Args laws_szMsgS.sig.ps) : Option (Res laws_szMsgS.sig) := laws_szMsgS.f k x.1 x.2.1
def laws_szMsgS.ann (k : Nat) : Ann (Res laws_szMsgS.sig) := .nil
def laws_szMsgS.ent : Ent := ⟨96, laws_szMsgS.sig, laws_szMsgS.F⟩
def laws_szMsgS.ctx (k : Nat) : Ctx := ⟨tds, [], k, 12⟩
theorem laws_szMsgS.runs (k : Nat) (x : Args laws_szMsgS.sig.ps) : laws_szMsgS.F k x = runF (laws_szMsgS.ctx k) laws_szMsgS.sig Try.f96 (Try.f96.body.getD .skip) (laws_szMsgS.ann k) x := by kernel_rfl
theorem laws_szMsgS.obls (k : Nat) : obl (laws_szMsgS.ctx k) 1 (Try.f96.body.getD .skip) (laws_szMsgS.ann k) (retK tds laws_szMsgS.sig Try.f96.results.toList) := ⟨trivial, ⟨trivial, ⟨⟨trivial, ⟨⟨trivial, trivial⟩, trivial⟩⟩, ⟨trivial, trivial⟩⟩⟩⟩
theorem laws_szMsgS.ok (k : Nat) : EntOk Try.prog k laws_szMsgS.ent := fn_ok (C := laws_szMsgS.ctx k) Try.func96 (by kernel_rfl) (by kernel_rfl) mixed tdsOk EntsOk.nil (by kernel_rfl) (Nat.le_of_ble_eq_true (by kernel_rfl)) (by kernel_rfl) (laws_szMsgS.runs k) (laws_szMsgS.obls k)
/-! loop.example/g00200/laws.szLine -/
def laws_szLine.f (k : Nat) (a0 : List (Int × Int)) (a1 : Int) : Option (Int) :=
  (laws_szMsgS.f k a0 a1).bind fun t1 => (if t1 < 0 then (some (-1)) else (some t1))
def laws_szLine.sig : Sig := ⟨[.val true (.sl 150 (.pair (.int .i64) (.int .i64))) [0], .val false (.int .i64) []], [.val false (.int .i64) []]⟩
def laws_szLine.F (k : Nat) (x : Args laws_szLine.sig.ps) : Option (Res laws_szLine.sig) := laws_szLine.f k x.1 x.2.1
def laws_szLine.ann (k : Nat) : Ann (Res laws_szLine.sig) := .nil
def laws_szLine.ent : Ent := ⟨54, laws_szLine.sig, laws_szLine.F⟩
def laws_szLine.ctx (k : Nat) : Ctx := ⟨tds, [laws_szMsgS.ent], k, 12⟩
theorem laws_szLine.runs (k : Nat) (x : Args laws_szLine.sig.ps) : laws_szLine.F k x = runF (laws_szLine.ctx k) laws_szLine.sig Try.f54 (Try.f54.body.getD .skip) (laws_szLine.ann k) x := by kernel_rfl
theorem laws_szLine.obls (k : Nat) : obl (laws_szLine.ctx k) 1 (Try.f54.body.getD .skip) (laws_szLine.ann k) (retK tds laws_szLine.sig Try.f54.results.toList) := ⟨trivial, ⟨trivial, ⟨⟨trivial, ⟨⟨trivial, trivial⟩, trivial⟩⟩, ⟨trivial, trivial⟩⟩⟩⟩
theorem laws_szLine.ok (k : Nat) : EntOk Try.prog k laws_szLine.ent := fn_ok (C := laws_szLine.ctx k) Try.func54 (by kernel_rfl) (by kernel_rfl) mixed tdsOk (.cons (laws_szMsgS.ok k) EntsOk.nil) (by kernel_rfl) (Nat.le_of_ble_eq_true (by kernel_rfl)) (by kernel_rfl) (laws_szLine.runs k) (laws_szLine.obls k)
/-! loop.example/g00200/laws.toPort -/
def laws_toPort.f (k : Nat) (a0 : Int × Int × Int × Int × Int) : Option (Int × Int × Int × Int × Int) :=
  some a0
def laws_toPort.sig : Sig := ⟨[.val true (.pair (.int .i64) (.pair (.int .i64) (.pair (.int .i64) (.pair (.int .i64) (.int .i64))))) []], [.val true (.pair (.int .i64) (.pair (.int .i64) (.pair (.int .i64) (.pair (.int .i64) (.int .i64))))) []]⟩
def laws_toPort.F (k : Nat) (x : Args laws_toPort.sig.ps) : Option (Res laws_toPort.sig) := laws_toPort.f k x.1
def laws_toPort.ann (k : Nat) : Ann (Res laws_toPort.sig) := .nil
def laws_toPort.ent : Ent := ⟨55, laws_toPort.sig, laws_toPort.F⟩
def laws_toPort.ctx (k : Nat) : Ctx := ⟨tds, [], k, 20⟩
theorem laws_toPort.runs (k : Nat) (x : Args laws_toPort.sig.ps) : laws_toPort.F k x = runF (laws_toPort.ctx k) laws_toPort.sig Try.f55 (Try.f55.body.getD .skip) (laws_toPort.ann k) x := by kernel_rfl
theorem laws_toPort.obls (k : Nat) : obl (laws_toPort.ctx k) 0 (Try.f55.body.getD .skip) (laws_toPort.ann k) (retK tds laws_toPort.sig Try.f55.results.toList) := ⟨trivial, ⟨trivial, ⟨trivial, ⟨trivial, ⟨trivial, ⟨trivial, ⟨trivial, ⟨trivial, trivial⟩⟩⟩⟩⟩⟩⟩⟩
theorem laws_toPort.ok (k : Nat) : EntOk Try.prog k laws_toPort.ent := fn_ok (C := laws_toPort.ctx k) Try.func55 (by kernel_rfl) (by kernel_rfl) mixed tdsOk EntsOk.nil (by kernel_rfl) (Nat.le_of_ble_eq_true (by kernel_rfl)) (by kernel_rfl) (laws_toPort.runs k) (laws_toPort.obls k)
/-! loop.example/g00200/laws.toMsg -/
def laws_toMsg.f (k : Nat) (a0 : Int × Int) : Option (Int × Int) :=
  some a0
def laws_toMsg.sig : Sig := ⟨[.val true (.pair (.int .i64) (.int .i64)) []], [.val true (.pair (.int .i64) (.int .i64)) []]⟩
def laws_toMsg.F (k : Nat) (x : Args laws_toMsg.sig.ps) : Option (Res laws_toMsg.sig) := laws_toMsg.f k x.1
def laws_toMsg.ann (k : Nat) : Ann (Res laws_toMsg.sig) := .nil
def laws_toMsg.ent : Ent := ⟨116, laws_toMsg.sig, laws_toMsg.F⟩
def laws_toMsg.ctx (k : Nat) : Ctx := ⟨tds, [], k, 11⟩
theorem laws_toMsg.runs (k : Nat) (x : Args laws_toMsg.sig.ps) : laws_toMsg.F k x = runF (laws_toMsg.ctx k) laws_toMsg.sig Try.f116 (Try.f116.body.getD .skip) (laws_toMsg.ann k) x := by kernel_rfl
theorem laws_toMsg.obls (k : Nat) : obl (laws_toMsg.ctx k) 0 (Try.f116.body.getD .skip) (laws_toMsg.ann k) (retK tds laws_toMsg.sig Try.f116.results.toList) := ⟨trivial, ⟨trivial, ⟨trivial, ⟨trivial, ⟨trivial, trivial⟩⟩⟩⟩⟩
theorem laws_toMsg.ok (k : Nat) : EntOk Try.prog k laws_toMsg.ent := fn_ok (C := laws_toMsg.ctx k) Try.func116 (by kernel_rfl) (by kernel_rfl) mixed tdsOk EntsOk.nil (by kernel_rfl) (Nat.le_of_ble_eq_true (by kernel_rfl)) (by kernel_rfl) (laws_toMsg.runs k) (laws_toMsg.obls k)
/-! loop.example/g00200/laws.toMsgS -/
def laws_toMsgS.l1 (k : Nat)  : Nat → Int × (List (Int × Int)) × (List (Int × Int)) × Unit → Option (List (Int × Int))
  | 0, _ => none
  | n + 1, (x1, x2, x3, _) => if x1 < (x2.length : Int) then (if 0 ≤ x1 then (if x1 < (x2.length : Int) then ((laws_toMsg.f k (el (.pair (.int .i64) (.int .i64)) x2 x1.toNat)).bind fun t2 => (if 0 ≤ x1 then (if x1 < (x3.length : Int) then (((some (x3.set x1.toNat t2))).bind fun y3 => (laws_toMsgS.l1 k n (w64 (x1 + 1), x2, y3, ()))) else none) else none)) else none) else none) else (some x3)
def laws_toMsgS.f (k : Nat) (a0 : List (Int × Int)) : Option (List (Int × Int)) :=
  if (a0.length : Int) = (a0.length : Int) then (if 0 ≤ (a0.length : Int) then (if ((a0.length : Int)).toNat * 16 ≤ 281474976710656 then (((some (List.replicate ((a0.length : Int)).toNat (0, 0) : List (Int × Int)))).bind fun y1 => (laws_toMsgS.l1 k k (0, a0, y1, ()))) else none) else none) else none
def laws_toMsgS.Sl1 : Shape := ⟨[(0, false, [.own 0]), (3, false, [.own 1]), (4, false, [.int .i64])], [(0, .view false 150 (.pair (.int .i64) (.int .i64))), (1, .row 123 (.pair (.int .i64) (.int .i64)))], 2⟩
def laws_toMsgS.sig : Sig := ⟨[.val false (.sl 150 (.pair (.int .i64) (.int .i64))) [0]], [.val false (.sl 123 (.pair (.int .i64) (.int .i64))) [none]]⟩
def laws_toMsgS.F (k : Nat) (x : Args laws_toMsgS.sig.ps) : Option (Res laws_toMsgS.sig) := laws_toMsgS.f k x.1
def laws_toMsgS.ann (k : Nat) : Ann (Res laws_toMsgS.sig) := (.seq .nil (.seq .nil (.seq (.seq .nil (.block (.loop laws_toMsgS.Sl1 (laws_toMsgS.l1 k) fun n1 => .nil))) .nil)))
def laws_toMsgS.ent : Ent := ⟨97, laws_toMsgS.sig, laws_toMsgS.F⟩
def laws_toMsgS.ctx (k : Nat) : Ctx := ⟨tds, [laws_toMsg.ent], k, 23⟩
theorem laws_toMsgS.runs (k : Nat) (x : Args laws_toMsgS.sig.ps) : laws_toMsgS.F k x = runF (laws_toMsgS.ctx k) laws_toMsgS.sig Try.f97 (Try.f97.body.getD .skip) (laws_toMsgS.ann k) x := by kernel_rfl
theorem laws_toMsgS.obls (k : Nat) : obl (laws_toMsgS.ctx k) 1 (Try.f97.body.getD .skip) (laws_toMsgS.ann k) (retK tds laws_toMsgS.sig Try.f97.results.toList) := ⟨trivial, ⟨trivial, ⟨⟨trivial, ⟨⟨by kernel_rfl, fun x => by kernel_rfl⟩, fun n => ⟨fun x => by kernel_rfl, ⟨⟨trivial, ⟨trivial, trivial⟩⟩, ⟨trivial, trivial⟩⟩⟩⟩⟩, ⟨trivial, trivial⟩⟩⟩⟩
theorem laws_toMsgS.ok (k : Nat) : EntOk Try.prog k laws_toMsgS.ent := fn_ok (C := laws_toMsgS.ctx k) Try.func97 (by kernel_rfl) (by kernel_rfl) mixed tdsOk (.cons (laws_toMsg.ok k) EntsOk.nil) (by kernel_rfl) (Nat.le_of_ble_eq_true (by kernel_rfl)) (by kernel_rfl) (laws_toMsgS.runs k) (laws_toMsgS.obls k)
/-! loop.example/g00200/laws.toLine -/
def laws_toLine.f (k : Nat) (a0 : List (Int × Int)) : Option (List (Int × Int)) :=
  (laws_toMsgS.f k a0).bind fun t1 => (some t1)
def laws_toLine.sig : Sig := ⟨[.val true (.sl 150 (.pair (.int .i64) (.int .i64))) [0]], [.val true (.sl 123 (.pair (.int .i64) (.int .i64))) [none]]⟩
def laws_toLine.F (k : Nat) (x : Args laws_toLine.sig.ps) : Option (Res laws_toLine.sig) := laws_toLine.f k x.1
def laws_toLine.ann (k : Nat) : Ann (Res laws_toLine.sig) := .nil
def laws_toLine.ent : Ent := ⟨56, laws_toLine.sig, laws_toLine.F⟩
def laws_toLine.ctx (k : Nat) : Ctx := ⟨tds, [laws_toMsgS.ent], k, 9⟩
theorem laws_toLine.runs (k : Nat) (x : Args laws_toLine.sig.ps) : laws_toLine.F k x = runF (laws_toLine.ctx k) laws_toLine.sig Try.f56 (Try.f56.body.getD .skip) (laws_toLine.ann k) x := by kernel_rfl
theorem laws_toLine.obls (k : Nat) : obl (laws_toLine.ctx k) 1 (Try.f56.body.getD .skip) (laws_toLine.ann k) (retK tds laws_toLine.sig Try.f56.results.toList) := ⟨trivial, ⟨trivial, ⟨trivial, ⟨trivial, trivial⟩⟩⟩⟩
theorem laws_toLine.ok (k : Nat) : EntOk Try.prog k laws_toLine.ent := fn_ok (C := laws_toLine.ctx k) Try.func56 (by kernel_rfl) (by kernel_rfl) mixed tdsOk (.cons (laws_toMsgS.ok k) EntsOk.nil) (by kernel_rfl) (Nat.le_of_ble_eq_true (by kernel_rfl)) (by kernel_rfl) (laws_toLine.runs k) (laws_toLine.obls k)
/-! loop.example/g00200/spec.l08Copy -/
def spec_l08Copy.f (k : Nat) (a0 : List (Int × Int)) : Option (List (Int × Int)) :=
  ((some ([] : List (Int × Int)))).bind fun y1 => (if (y1.length + a0.length) * 16 ≤ 140737488355328 then (((some (y1 ++ a0))).bind fun y2 => (some y2)) else none)
def spec_l08Copy.sig : Sig := ⟨[.val true (.sl 123 (.pair (.int .i64) (.int .i64))) [0]], [.val true (.sl 123 (.pair (.int .i64) (.int .i64))) [none]]⟩
def spec_l08Copy.F (k : Nat) (x : Args spec_l08Copy.sig.ps) : Option (Res spec_l08Copy.sig) := spec_l08Copy.f k x.1
def spec_l08Copy.ann (k : Nat) : Ann (Res spec_l08Copy.sig) := .nil
def spec_l08Copy.ent : Ent := ⟨95, spec_l08Copy.sig, spec_l08Copy.F⟩
def spec_l08Copy.ctx (k : Nat) : Ctx := ⟨tds, [], k, 8⟩
theorem spec_l08Copy.runs (k : Nat) (x : Args spec_l08Copy.sig.ps) : spec_l08Copy.F k x = runF (spec_l08Copy.ctx k) spec_l08Copy.sig Try.f95 (Try.f95.body.getD .skip) (spec_l08Copy.ann k) x := by kernel_rfl
theorem spec_l08Copy.obls (k : Nat) : obl (spec_l08Copy.ctx k) 1 (Try.f95.body.getD .skip) (spec_l08Copy.ann k) (retK tds spec_l08Copy.sig Try.f95.results.toList) := ⟨trivial, ⟨trivial, trivial⟩⟩
theorem spec_l08Copy.ok (k : Nat) : EntOk Try.prog k spec_l08Copy.ent := fn_ok (C := spec_l08Copy.ctx k) Try.func95 (by kernel_rfl) (by kernel_rfl) mixed tdsOk EntsOk.nil (by kernel_rfl) (Nat.le_of_ble_eq_true (by kernel_rfl)) (by kernel_rfl) (spec_l08Copy.runs k) (spec_l08Copy.obls k)
/-! loop.example/g00200/spec.l01In -/
def spec_l01In.f (k : Nat) (a0 : Int) (a1 : Int) (a2 : Int) : Option (Bool) :=
  if a1 ≤ a0 then (some (decide (a0 ≤ a2))) else (some false)
def spec_l01In.sig : Sig := ⟨[.val false (.int .i64) [], .val false (.int .i64) [], .val false (.int .i64) []], [.val false .bool []]⟩
def spec_l01In.F (k : Nat) (x : Args spec_l01In.sig.ps) : Option (Res spec_l01In.sig) := spec_l01In.f k x.1 x.2.1 x.2.2.1
def spec_l01In.ann (k : Nat) : Ann (Res spec_l01In.sig) := .nil
def spec_l01In.ent : Ent := ⟨81, spec_l01In.sig, spec_l01In.F⟩
def spec_l01In.ctx (k : Nat) : Ctx := ⟨tds, [], k, 15⟩
theorem spec_l01In.runs (k : Nat) (x : Args spec_l01In.sig.ps) : spec_l01In.F k x = runF (spec_l01In.ctx k) spec_l01In.sig Try.f81 (Try.f81.body.getD .skip) (spec_l01In.ann k) x := by kernel_rfl
theorem spec_l01In.obls (k : Nat) : obl (spec_l01In.ctx k) 0 (Try.f81.body.getD .skip) (spec_l01In.ann k) (retK tds spec_l01In.sig Try.f81.results.toList) := ⟨trivial, ⟨trivial, trivial⟩⟩
theorem spec_l01In.ok (k : Nat) : EntOk Try.prog k spec_l01In.ent := fn_ok (C := spec_l01In.ctx k) Try.func81 (by kernel_rfl) (by kernel_rfl) mixed tdsOk EntsOk.nil (by kernel_rfl) (Nat.le_of_ble_eq_true (by kernel_rfl)) (by kernel_rfl) (spec_l01In.runs k) (spec_l01In.obls k)
/-! loop.example/g00200/spec.PortOk -/
def spec_PortOk.f (k : Nat) (a0 : Int × Int × Int × Int × Int) : Option (Bool) :=
  (spec_l01In.f k a0.2.1 1 4).bind fun t1 => (if ¬ t1 = true then (some false) else ((spec_l01In.f k a0.2.2.1 1 4).bind fun t2 => (if ¬ t2 = true then (some false) else (if a0.2.1 = a0.2.2.1 then (some false) else (if a0.1 = 1 then ((spec_l01In.f k a0.2.2.2.1 1 6).bind fun t3 => (if t3 = true then (some (decide (a0.2.2.2.2 = 0))) else (some false))) else (if a0.1 = 2 then (if a0.2.2.2.1 = 1 then ((spec_l01In.f k a0.2.2.2.2 1 100).bind fun t4 => (some t4)) else (some false)) else (some false)))))))
def spec_PortOk.sig : Sig := ⟨[.val true (.pair (.int .i64) (.pair (.int .i64) (.pair (.int .i64) (.pair (.int .i64) (.int .i64))))) []], [.val false .bool []]⟩
def spec_PortOk.F (k : Nat) (x : Args spec_PortOk.sig.ps) : Option (Res spec_PortOk.sig) := spec_PortOk.f k x.1
def spec_PortOk.ann (k : Nat) : Ann (Res spec_PortOk.sig) := .nil
def spec_PortOk.ent : Ent := ⟨53, spec_PortOk.sig, spec_PortOk.F⟩
def spec_PortOk.ctx (k : Nat) : Ctx := ⟨tds, [spec_l01In.ent], k, 44⟩
theorem spec_PortOk.runs (k : Nat) (x : Args spec_PortOk.sig.ps) : spec_PortOk.F k x = runF (spec_PortOk.ctx k) spec_PortOk.sig Try.f53 (Try.f53.body.getD .skip) (spec_PortOk.ann k) x := by kernel_rfl
theorem spec_PortOk.obls (k : Nat) : obl (spec_PortOk.ctx k) 0 (Try.f53.body.getD .skip) (spec_PortOk.ann k) (retK tds spec_PortOk.sig Try.f53.results.toList) := ⟨trivial, ⟨⟨trivial, ⟨⟨trivial, trivial⟩, trivial⟩⟩, ⟨⟨trivial, ⟨⟨trivial, trivial⟩, trivial⟩⟩, ⟨trivial, trivial⟩⟩⟩⟩
theorem spec_PortOk.ok (k : Nat) : EntOk Try.prog k spec_PortOk.ent := fn_ok (C := spec_PortOk.ctx k) Try.func53 (by kernel_rfl) (by kernel_rfl) mixed tdsOk (.cons (spec_l01In.ok k) EntsOk.nil) (by kernel_rfl) (Nat.le_of_ble_eq_true (by kernel_rfl)) (by kernel_rfl) (spec_PortOk.runs k) (spec_PortOk.obls k)
/-! loop.example/g00200/spec.TakePort -/
def spec_TakePort.f (k : Nat) (a0 : Int × Int × Int × Int × Int) (a1 : List (Int × Int)) (a2 : Int) : Option ((List (Int × Int)) × Int × Int) :=
  (spec_l08Copy.f k a1).bind fun t1 => ((spec_PortOk.f k a0).bind fun t2 => (if ¬ t2 = true then (some (t1, 0, 2)) else (if (a1.length : Int) = 0 then (some (t1, 0, 2)) else (if 0 ≤ 0 then (if 0 < (a1.length : Int) then (if a0.1 = 1 then (((some ([] : List (Int × Int)))).bind fun y3 => (if 0 ≤ 1 then (if 1 ≤ (a1.length : Int) then (if (y3.length + (a1.drop 1).length) * 16 ≤ 140737488355328 then (((some (y3 ++ (a1.drop 1)))).bind fun y4 => (some (y4, (el (.pair (.int .i64) (.int .i64)) a1 0).1, 0))) else none) else none) else none)) else (if ((el (.pair (.int .i64) (.int .i64)) a1 0).2) < a2 then (if (w64 (a2 - ((el (.pair (.int .i64) (.int .i64)) a1 0).2))) < 0 then (some (t1, (el (.pair (.int .i64) (.int .i64)) a1 0).1, 3)) else (if a0.2.2.2.2 < (w64 (a2 - ((el (.pair (.int .i64) (.int .i64)) a1 0).2))) then (some (t1, (el (.pair (.int .i64) (.int .i64)) a1 0).1, 3)) else (some (t1, (el (.pair (.int .i64) (.int .i64)) a1 0).1, 0)))) else (some (t1, (el (.pair (.int .i64) (.int .i64)) a1 0).1, 0)))) else none) else none))))
def spec_TakePort.sig : Sig := ⟨[.val true (.pair (.int .i64) (.pair (.int .i64) (.pair (.int .i64) (.pair (.int .i64) (.int .i64))))) [], .val true (.sl 123 (.pair (.int .i64) (.int .i64))) [0], .val false (.int .i64) []], [.val true (.sl 123 (.pair (.int .i64) (.int .i64))) [none], .val false (.int .i64) [], .val false (.int .i64) []]⟩
def spec_TakePort.F (k : Nat) (x : Args spec_TakePort.sig.ps) : Option (Res spec_TakePort.sig) := spec_TakePort.f k x.1 x.2.1 x.2.2.1
def spec_TakePort.ann (k : Nat) : Ann (Res spec_TakePort.sig) := .nil
def spec_TakePort.ent : Ent := ⟨51, spec_TakePort.sig, spec_TakePort.F⟩
def spec_TakePort.ctx (k : Nat) : Ctx := ⟨tds, [spec_PortOk.ent, spec_l08Copy.ent], k, 65⟩
theorem spec_TakePort.runs (k : Nat) (x : Args spec_TakePort.sig.ps) : spec_TakePort.F k x = runF (spec_TakePort.ctx k) spec_TakePort.sig Try.f51 (Try.f51.body.getD .skip) (spec_TakePort.ann k) x := by kernel_rfl
theorem spec_TakePort.obls (k : Nat) : obl (spec_TakePort.ctx k) 1 (Try.f51.body.getD .skip) (spec_TakePort.ann k) (retK tds spec_TakePort.sig Try.f51.results.toList) := ⟨trivial, ⟨trivial, ⟨⟨trivial, ⟨⟨trivial, trivial⟩, trivial⟩⟩, ⟨trivial, ⟨⟨trivial, ⟨⟨trivial, ⟨trivial, trivial⟩⟩, trivial⟩⟩, ⟨⟨trivial, ⟨⟨trivial, trivial⟩, trivial⟩⟩, ⟨trivial, trivial⟩⟩⟩⟩⟩⟩⟩
theorem spec_TakePort.ok (k : Nat) : EntOk Try.prog k spec_TakePort.ent := fn_ok (C := spec_TakePort.ctx k) Try.func51 (by kernel_rfl) (by kernel_rfl) mixed tdsOk (.cons (spec_PortOk.ok k) (.cons (spec_l08Copy.ok k) EntsOk.nil)) (by kernel_rfl) (Nat.le_of_ble_eq_true (by kernel_rfl)) (by kernel_rfl) (spec_TakePort.runs k) (spec_TakePort.obls k)
/-! loop.example/g00200/impl.copyLine -/
def impl_copyLine.f (k : Nat) (a0 : List (Int × Int)) : Option (List (Int × Int)) :=
  ((some ([] : List (Int × Int)))).bind fun y1 => (if (y1.length + a0.length) * 16 ≤ 140737488355328 then (((some (y1 ++ a0))).bind fun y2 => (some y2)) else none)
def impl_copyLine.sig : Sig := ⟨[.val true (.sl 123 (.pair (.int .i64) (.int .i64))) [0]], [.val true (.sl 123 (.pair (.int .i64) (.int .i64))) [none]]⟩
def impl_copyLine.F (k : Nat) (x : Args impl_copyLine.sig.ps) : Option (Res impl_copyLine.sig) := impl_copyLine.f k x.1
def impl_copyLine.ann (k : Nat) : Ann (Res impl_copyLine.sig) := .nil
def impl_copyLine.ent : Ent := ⟨94, impl_copyLine.sig, impl_copyLine.F⟩
def impl_copyLine.ctx (k : Nat) : Ctx := ⟨tds, [], k, 8⟩
theorem impl_copyLine.runs (k : Nat) (x : Args impl_copyLine.sig.ps) : impl_copyLine.F k x = runF (impl_copyLine.ctx k) impl_copyLine.sig Try.f94 (Try.f94.body.getD .skip) (impl_copyLine.ann k) x := by kernel_rfl
theorem impl_copyLine.obls (k : Nat) : obl (impl_copyLine.ctx k) 1 (Try.f94.body.getD .skip) (impl_copyLine.ann k) (retK tds impl_copyLine.sig Try.f94.results.toList) := ⟨trivial, ⟨trivial, trivial⟩⟩
theorem impl_copyLine.ok (k : Nat) : EntOk Try.prog k impl_copyLine.ent := fn_ok (C := impl_copyLine.ctx k) Try.func94 (by kernel_rfl) (by kernel_rfl) mixed tdsOk EntsOk.nil (by kernel_rfl) (Nat.le_of_ble_eq_true (by kernel_rfl)) (by kernel_rfl) (impl_copyLine.runs k) (impl_copyLine.obls k)
/-! loop.example/g00200/impl.within -/
def impl_within.f (k : Nat) (a0 : Int) (a1 : Int) (a2 : Int) : Option (Bool) :=
  if a1 ≤ a0 then (some (decide (a0 ≤ a2))) else (some false)
def impl_within.sig : Sig := ⟨[.val false (.int .i64) [], .val false (.int .i64) [], .val false (.int .i64) []], [.val false .bool []]⟩
def impl_within.F (k : Nat) (x : Args impl_within.sig.ps) : Option (Res impl_within.sig) := impl_within.f k x.1 x.2.1 x.2.2.1
def impl_within.ann (k : Nat) : Ann (Res impl_within.sig) := .nil
def impl_within.ent : Ent := ⟨80, impl_within.sig, impl_within.F⟩
def impl_within.ctx (k : Nat) : Ctx := ⟨tds, [], k, 15⟩
theorem impl_within.runs (k : Nat) (x : Args impl_within.sig.ps) : impl_within.F k x = runF (impl_within.ctx k) impl_within.sig Try.f80 (Try.f80.body.getD .skip) (impl_within.ann k) x := by kernel_rfl
theorem impl_within.obls (k : Nat) : obl (impl_within.ctx k) 0 (Try.f80.body.getD .skip) (impl_within.ann k) (retK tds impl_within.sig Try.f80.results.toList) := ⟨trivial, ⟨trivial, trivial⟩⟩
theorem impl_within.ok (k : Nat) : EntOk Try.prog k impl_within.ent := fn_ok (C := impl_within.ctx k) Try.func80 (by kernel_rfl) (by kernel_rfl) mixed tdsOk EntsOk.nil (by kernel_rfl) (Nat.le_of_ble_eq_true (by kernel_rfl)) (by kernel_rfl) (impl_within.runs k) (impl_within.obls k)
/-! loop.example/g00200/impl.isPart -/
def impl_isPart.f (k : Nat) (a0 : Int) : Option (Bool) :=
  (impl_within.f k a0 1 4).bind fun t1 => (some t1)
def impl_isPart.sig : Sig := ⟨[.val false (.int .i64) []], [.val false .bool []]⟩
def impl_isPart.F (k : Nat) (x : Args impl_isPart.sig.ps) : Option (Res impl_isPart.sig) := impl_isPart.f k x.1
def impl_isPart.ann (k : Nat) : Ann (Res impl_isPart.sig) := .nil
def impl_isPart.ent : Ent := ⟨79, impl_isPart.sig, impl_isPart.F⟩
def impl_isPart.ctx (k : Nat) : Ctx := ⟨tds, [impl_within.ent], k, 5⟩
theorem impl_isPart.runs (k : Nat) (x : Args impl_isPart.sig.ps) : impl_isPart.F k x = runF (impl_isPart.ctx k) impl_isPart.sig Try.f79 (Try.f79.body.getD .skip) (impl_isPart.ann k) x := by kernel_rfl
theorem impl_isPart.obls (k : Nat) : obl (impl_isPart.ctx k) 0 (Try.f79.body.getD .skip) (impl_isPart.ann k) (retK tds impl_isPart.sig Try.f79.results.toList) := ⟨trivial, ⟨trivial, trivial⟩⟩
theorem impl_isPart.ok (k : Nat) : EntOk Try.prog k impl_isPart.ent := fn_ok (C := impl_isPart.ctx k) Try.func79 (by kernel_rfl) (by kernel_rfl) mixed tdsOk (.cons (impl_within.ok k) EntsOk.nil) (by kernel_rfl) (Nat.le_of_ble_eq_true (by kernel_rfl)) (by kernel_rfl) (impl_isPart.runs k) (impl_isPart.obls k)
/-! loop.example/g00200/impl.PortOk -/
def impl_PortOk.f (k : Nat) (a0 : Int × Int × Int × Int × Int) : Option (Bool) :=
  (impl_isPart.f k a0.2.1).bind fun t1 => (if ¬ t1 = true then (some false) else ((impl_isPart.f k a0.2.2.1).bind fun t2 => (if ¬ t2 = true then (some false) else (if a0.2.1 = a0.2.2.1 then (some false) else (if a0.1 = 1 then ((impl_within.f k a0.2.2.2.1 1 6).bind fun t3 => (if t3 = true then (some (decide (a0.2.2.2.2 = 0))) else (some false))) else (if a0.1 = 2 then (if a0.2.2.2.1 = 1 then ((impl_within.f k a0.2.2.2.2 1 100).bind fun t4 => (some t4)) else (some false)) else (some false)))))))
def impl_PortOk.sig : Sig := ⟨[.val true (.pair (.int .i64) (.pair (.int .i64) (.pair (.int .i64) (.pair (.int .i64) (.int .i64))))) []], [.val false .bool []]⟩
def impl_PortOk.F (k : Nat) (x : Args impl_PortOk.sig.ps) : Option (Res impl_PortOk.sig) := impl_PortOk.f k x.1
def impl_PortOk.ann (k : Nat) : Ann (Res impl_PortOk.sig) := .nil
def impl_PortOk.ent : Ent := ⟨52, impl_PortOk.sig, impl_PortOk.F⟩
def impl_PortOk.ctx (k : Nat) : Ctx := ⟨tds, [impl_isPart.ent, impl_within.ent], k, 44⟩
theorem impl_PortOk.runs (k : Nat) (x : Args impl_PortOk.sig.ps) : impl_PortOk.F k x = runF (impl_PortOk.ctx k) impl_PortOk.sig Try.f52 (Try.f52.body.getD .skip) (impl_PortOk.ann k) x := by kernel_rfl
theorem impl_PortOk.obls (k : Nat) : obl (impl_PortOk.ctx k) 0 (Try.f52.body.getD .skip) (impl_PortOk.ann k) (retK tds impl_PortOk.sig Try.f52.results.toList) := ⟨trivial, ⟨⟨trivial, ⟨⟨trivial, trivial⟩, trivial⟩⟩, ⟨⟨trivial, ⟨⟨trivial, trivial⟩, trivial⟩⟩, ⟨trivial, trivial⟩⟩⟩⟩
theorem impl_PortOk.ok (k : Nat) : EntOk Try.prog k impl_PortOk.ent := fn_ok (C := impl_PortOk.ctx k) Try.func52 (by kernel_rfl) (by kernel_rfl) mixed tdsOk (.cons (impl_isPart.ok k) (.cons (impl_within.ok k) EntsOk.nil)) (by kernel_rfl) (Nat.le_of_ble_eq_true (by kernel_rfl)) (by kernel_rfl) (impl_PortOk.runs k) (impl_PortOk.obls k)
/-! loop.example/g00200/impl.TakePort -/
def impl_TakePort.f (k : Nat) (a0 : Int × Int × Int × Int × Int) (a1 : List (Int × Int)) (a2 : Int) : Option ((List (Int × Int)) × Int × Int) :=
  (impl_copyLine.f k a1).bind fun t1 => ((impl_PortOk.f k a0).bind fun t2 => (if ¬ t2 = true then (some (t1, 0, 2)) else (if (a1.length : Int) = 0 then (some (t1, 0, 2)) else (if 0 ≤ 0 then (if 0 < (a1.length : Int) then (if a0.1 = 1 then (if 0 ≤ 1 then (if 1 ≤ (t1.length : Int) then (some (t1.drop 1, (el (.pair (.int .i64) (.int .i64)) a1 0).1, 0)) else none) else none) else (if ((el (.pair (.int .i64) (.int .i64)) a1 0).2) < a2 then (if (IntKind.u64.wrap (a0.2.2.2.2)) < (IntKind.u64.wrap ((IntKind.u64.wrap (a2)) - (IntKind.u64.wrap ((el (.pair (.int .i64) (.int .i64)) a1 0).2)))) then (some (t1, (el (.pair (.int .i64) (.int .i64)) a1 0).1, 3)) else (some (t1, (el (.pair (.int .i64) (.int .i64)) a1 0).1, 0))) else (some (t1, (el (.pair (.int .i64) (.int .i64)) a1 0).1, 0)))) else none) else none))))
def impl_TakePort.sig : Sig := ⟨[.val true (.pair (.int .i64) (.pair (.int .i64) (.pair (.int .i64) (.pair (.int .i64) (.int .i64))))) [], .val true (.sl 123 (.pair (.int .i64) (.int .i64))) [0], .val false (.int .i64) []], [.val true (.sl 123 (.pair (.int .i64) (.int .i64))) [none], .val false (.int .i64) [], .val false (.int .i64) []]⟩
def impl_TakePort.F (k : Nat) (x : Args impl_TakePort.sig.ps) : Option (Res impl_TakePort.sig) := impl_TakePort.f k x.1 x.2.1 x.2.2.1
def impl_TakePort.ann (k : Nat) : Ann (Res impl_TakePort.sig) := .nil
def impl_TakePort.ent : Ent := ⟨50, impl_TakePort.sig, impl_TakePort.F⟩
def impl_TakePort.ctx (k : Nat) : Ctx := ⟨tds, [impl_PortOk.ent, impl_copyLine.ent], k, 58⟩
theorem impl_TakePort.runs (k : Nat) (x : Args impl_TakePort.sig.ps) : impl_TakePort.F k x = runF (impl_TakePort.ctx k) impl_TakePort.sig Try.f50 (Try.f50.body.getD .skip) (impl_TakePort.ann k) x := by kernel_rfl
theorem impl_TakePort.obls (k : Nat) : obl (impl_TakePort.ctx k) 1 (Try.f50.body.getD .skip) (impl_TakePort.ann k) (retK tds impl_TakePort.sig Try.f50.results.toList) := ⟨trivial, ⟨trivial, ⟨⟨trivial, ⟨⟨trivial, trivial⟩, trivial⟩⟩, ⟨trivial, ⟨⟨trivial, ⟨trivial, ⟨trivial, ⟨⟨trivial, trivial⟩, trivial⟩⟩⟩⟩, ⟨trivial, trivial⟩⟩⟩⟩⟩⟩
theorem impl_TakePort.ok (k : Nat) : EntOk Try.prog k impl_TakePort.ent := fn_ok (C := impl_TakePort.ctx k) Try.func50 (by kernel_rfl) (by kernel_rfl) mixed tdsOk (.cons (impl_PortOk.ok k) (.cons (impl_copyLine.ok k) EntsOk.nil)) (by kernel_rfl) (Nat.le_of_ble_eq_true (by kernel_rfl)) (by kernel_rfl) (impl_TakePort.runs k) (impl_TakePort.obls k)
/-! loop.example/g00200/laws.eqMsg -/
def laws_eqMsg.f (k : Nat) (a0 : Int × Int) (a1 : Int × Int) : Option (Bool) :=
  if ¬ a0.1 = a1.1 then (some false) else (if ¬ a0.2 = a1.2 then (some false) else (some true))
def laws_eqMsg.sig : Sig := ⟨[.val true (.pair (.int .i64) (.int .i64)) [], .val true (.pair (.int .i64) (.int .i64)) []], [.val false .bool []]⟩
def laws_eqMsg.F (k : Nat) (x : Args laws_eqMsg.sig.ps) : Option (Res laws_eqMsg.sig) := laws_eqMsg.f k x.1 x.2.1
def laws_eqMsg.ann (k : Nat) : Ann (Res laws_eqMsg.sig) := .nil
def laws_eqMsg.ent : Ent := ⟨117, laws_eqMsg.sig, laws_eqMsg.F⟩
def laws_eqMsg.ctx (k : Nat) : Ctx := ⟨tds, [], k, 15⟩
theorem laws_eqMsg.runs (k : Nat) (x : Args laws_eqMsg.sig.ps) : laws_eqMsg.F k x = runF (laws_eqMsg.ctx k) laws_eqMsg.sig Try.f117 (Try.f117.body.getD .skip) (laws_eqMsg.ann k) x := by kernel_rfl
theorem laws_eqMsg.obls (k : Nat) : obl (laws_eqMsg.ctx k) 0 (Try.f117.body.getD .skip) (laws_eqMsg.ann k) (retK tds laws_eqMsg.sig Try.f117.results.toList) := ⟨trivial, ⟨⟨trivial, ⟨⟨trivial, trivial⟩, trivial⟩⟩, ⟨⟨trivial, ⟨⟨trivial, trivial⟩, trivial⟩⟩, ⟨trivial, trivial⟩⟩⟩⟩
theorem laws_eqMsg.ok (k : Nat) : EntOk Try.prog k laws_eqMsg.ent := fn_ok (C := laws_eqMsg.ctx k) Try.func117 (by kernel_rfl) (by kernel_rfl) mixed tdsOk EntsOk.nil (by kernel_rfl) (Nat.le_of_ble_eq_true (by kernel_rfl)) (by kernel_rfl) (laws_eqMsg.runs k) (laws_eqMsg.obls k)
/-! loop.example/g00200/laws.eqMsgS -/
def laws_eqMsgS.l1 (k : Nat)  : Nat → Int × (List (Int × Int)) × (List (Int × Int)) × Unit → Option (Bool)
  | 0, _ => none
  | n + 1, (x1, x2, x3, _) => if x1 < (x2.length : Int) then (if 0 ≤ x1 then (if x1 < (x2.length : Int) then (if 0 ≤ x1 then (if x1 < (x3.length : Int) then ((laws_eqMsg.f k (el (.pair (.int .i64) (.int .i64)) x2 x1.toNat) (el (.pair (.int .i64) (.int .i64)) x3 x1.toNat)).bind fun t1 => (if ¬ t1 = true then (some false) else (laws_eqMsgS.l1 k n (w64 (x1 + 1), x2, x3, ())))) else none) else none) else none) else none) else (some true)
def laws_eqMsgS.f (k : Nat) (a0 : List (Int × Int)) (a1 : List (Int × Int)) : Option (Bool) :=
  if ¬ (a0.length : Int) = (a1.length : Int) then (some false) else (laws_eqMsgS.l1 k k (0, a0, a1, ()))
def laws_eqMsgS.Sl1 : Shape := ⟨[(0, false, [.own 0]), (1, false, [.own 1]), (5, false, [.int .i64])], [(0, .view false 123 (.pair (.int .i64) (.int .i64))), (1, .view false 123 (.pair (.int .i64) (.int .i64)))], 2⟩
def laws_eqMsgS.sig : Sig := ⟨[.val false (.sl 123 (.pair (.int .i64) (.int .i64))) [0], .val false (.sl 123 (.pair (.int .i64) (.int .i64))) [0]], [.val false .bool []]⟩
def laws_eqMsgS.F (k : Nat) (x : Args laws_eqMsgS.sig.ps) : Option (Res laws_eqMsgS.sig) := laws_eqMsgS.f k x.1 x.2.1
def laws_eqMsgS.ann (k : Nat) : Ann (Res laws_eqMsgS.sig) := (.seq .nil (.seq .nil (.seq (.seq .nil (.block (.loop laws_eqMsgS.Sl1 (laws_eqMsgS.l1 k) fun n1 => .nil))) .nil)))
def laws_eqMsgS.ent : Ent := ⟨98, laws_eqMsgS.sig, laws_eqMsgS.F⟩
def laws_eqMsgS.ctx (k : Nat) : Ctx := ⟨tds, [laws_eqMsg.ent], k, 27⟩
theorem laws_eqMsgS.runs (k : Nat) (x : Args laws_eqMsgS.sig.ps) : laws_eqMsgS.F k x = runF (laws_eqMsgS.ctx k) laws_eqMsgS.sig Try.f98 (Try.f98.body.getD .skip) (laws_eqMsgS.ann k) x := by kernel_rfl
theorem laws_eqMsgS.obls (k : Nat) : obl (laws_eqMsgS.ctx k) 2 (Try.f98.body.getD .skip) (laws_eqMsgS.ann k) (retK tds laws_eqMsgS.sig Try.f98.results.toList) := ⟨trivial, ⟨⟨trivial, ⟨⟨trivial, trivial⟩, trivial⟩⟩, ⟨⟨trivial, ⟨⟨by kernel_rfl, fun x => by kernel_rfl⟩, fun n => ⟨fun x => by kernel_rfl, ⟨⟨trivial, ⟨trivial, trivial⟩⟩, ⟨⟨trivial, ⟨⟨trivial, trivial⟩, trivial⟩⟩, trivial⟩⟩⟩⟩⟩, ⟨trivial, trivial⟩⟩⟩⟩
theorem laws_eqMsgS.ok (k : Nat) : EntOk Try.prog k laws_eqMsgS.ent := fn_ok (C := laws_eqMsgS.ctx k) Try.func98 (by kernel_rfl) (by kernel_rfl) mixed tdsOk (.cons (laws_eqMsg.ok k) EntsOk.nil) (by kernel_rfl) (Nat.le_of_ble_eq_true (by kernel_rfl)) (by kernel_rfl) (laws_eqMsgS.runs k) (laws_eqMsgS.obls k)
/-! loop.example/g00200/laws.eqLine -/
def laws_eqLine.f (k : Nat) (a0 : List (Int × Int)) (a1 : List (Int × Int)) : Option (Bool) :=
  (laws_eqMsgS.f k a0 a1).bind fun t1 => (if ¬ t1 = true then (some false) else (some true))
def laws_eqLine.sig : Sig := ⟨[.val true (.sl 123 (.pair (.int .i64) (.int .i64))) [0], .val true (.sl 123 (.pair (.int .i64) (.int .i64))) [0]], [.val false .bool []]⟩
def laws_eqLine.F (k : Nat) (x : Args laws_eqLine.sig.ps) : Option (Res laws_eqLine.sig) := laws_eqLine.f k x.1 x.2.1
def laws_eqLine.ann (k : Nat) : Ann (Res laws_eqLine.sig) := .nil
def laws_eqLine.ent : Ent := ⟨57, laws_eqLine.sig, laws_eqLine.F⟩
def laws_eqLine.ctx (k : Nat) : Ctx := ⟨tds, [laws_eqMsgS.ent], k, 11⟩
theorem laws_eqLine.runs (k : Nat) (x : Args laws_eqLine.sig.ps) : laws_eqLine.F k x = runF (laws_eqLine.ctx k) laws_eqLine.sig Try.f57 (Try.f57.body.getD .skip) (laws_eqLine.ann k) x := by kernel_rfl
theorem laws_eqLine.obls (k : Nat) : obl (laws_eqLine.ctx k) 2 (Try.f57.body.getD .skip) (laws_eqLine.ann k) (retK tds laws_eqLine.sig Try.f57.results.toList) := ⟨trivial, ⟨⟨trivial, ⟨⟨trivial, trivial⟩, trivial⟩⟩, ⟨trivial, trivial⟩⟩⟩
theorem laws_eqLine.ok (k : Nat) : EntOk Try.prog k laws_eqLine.ent := fn_ok (C := laws_eqLine.ctx k) Try.func57 (by kernel_rfl) (by kernel_rfl) mixed tdsOk (.cons (laws_eqMsgS.ok k) EntsOk.nil) (by kernel_rfl) (Nat.le_of_ble_eq_true (by kernel_rfl)) (by kernel_rfl) (laws_eqLine.runs k) (laws_eqLine.obls k)
/-! loop.example/g00200/laws.markMsgS -/
def laws_markMsgS.l1 (k : Nat)  : Nat → Int × Int × (List (Int × Int)) × Unit → Option (Int × List (Int × Int))
  | 0, _ => none
  | n + 1, (x1, x2, x3, _) => if x2 < (x3.length : Int) then (if 0 ≤ x2 then (if x2 < (x3.length : Int) then (((some (x3.set x2.toNat (x1, (el (.pair (.int .i64) (.int .i64)) x3 x2.toNat).2)))).bind fun y1 => (if 0 ≤ x2 then (if x2 < (y1.length : Int) then (((some (y1.set x2.toNat ((el (.pair (.int .i64) (.int .i64)) y1 x2.toNat).1, w64 (x1 + 1))))).bind fun y2 => (laws_markMsgS.l1 k n (w64 ((w64 (x1 + 1)) + 1), w64 (x2 + 1), y2, ()))) else none) else none)) else none) else none) else (some (x1, x3))
def laws_markMsgS.f (k : Nat) (a0 : List (Int × Int)) (a1 : Int) : Option (Int × List (Int × Int)) :=
  laws_markMsgS.l1 k k (a1, 0, a0, ())
def laws_markMsgS.Sl1 : Shape := ⟨[(0, false, [.own 0]), (1, false, [.int .i64]), (5, false, [.int .i64])], [(0, .row 123 (.pair (.int .i64) (.int .i64)))], 1⟩
def laws_markMsgS.sig : Sig := ⟨[.val false (.sl 123 (.pair (.int .i64) (.int .i64))) [1], .val false (.int .i64) []], [.val false (.int .i64) []]⟩
def laws_markMsgS.F (k : Nat) (x : Args laws_markMsgS.sig.ps) : Option (Res laws_markMsgS.sig) := laws_markMsgS.f k x.1 x.2.1
def laws_markMsgS.ann (k : Nat) : Ann (Res laws_markMsgS.sig) := (.seq .nil (.seq (.seq .nil (.block (.loop laws_markMsgS.Sl1 (laws_markMsgS.l1 k) fun n1 => .nil))) .nil))
def laws_markMsgS.ent : Ent := ⟨99, laws_markMsgS.sig, laws_markMsgS.F⟩
def laws_markMsgS.ctx (k : Nat) : Ctx := ⟨tds, [], k, 27⟩
theorem laws_markMsgS.runs (k : Nat) (x : Args laws_markMsgS.sig.ps) : laws_markMsgS.F k x = runF (laws_markMsgS.ctx k) laws_markMsgS.sig Try.f99 (Try.f99.body.getD .skip) (laws_markMsgS.ann k) x := by kernel_rfl
theorem laws_markMsgS.obls (k : Nat) : obl (laws_markMsgS.ctx k) 1 (Try.f99.body.getD .skip) (laws_markMsgS.ann k) (retK tds laws_markMsgS.sig Try.f99.results.toList) := ⟨trivial, ⟨⟨trivial, ⟨⟨by kernel_rfl, fun x => by kernel_rfl⟩, fun n => ⟨fun x => by kernel_rfl, ⟨⟨trivial, ⟨trivial, trivial⟩⟩, ⟨⟨trivial, ⟨trivial, ⟨trivial, trivial⟩⟩⟩, trivial⟩⟩⟩⟩⟩, ⟨trivial, trivial⟩⟩⟩
theorem laws_markMsgS.ok (k : Nat) : EntOk Try.prog k laws_markMsgS.ent := fn_ok (C := laws_markMsgS.ctx k) Try.func99 (by kernel_rfl) (by kernel_rfl) mixed tdsOk EntsOk.nil (by kernel_rfl) (Nat.le_of_ble_eq_true (by kernel_rfl)) (by kernel_rfl) (laws_markMsgS.runs k) (laws_markMsgS.obls k)
/-! loop.example/g00200/laws.markLine -/
def laws_markLine.f (k : Nat) (a0 : List (Int × Int)) (a1 : Int) : Option (Int × List (Int × Int)) :=
  (laws_markMsgS.f k a0 a1).bind fun t1 => (some (t1.1, t1.2))
def laws_markLine.sig : Sig := ⟨[.val true (.sl 123 (.pair (.int .i64) (.int .i64))) [1], .val false (.int .i64) []], [.val false (.int .i64) []]⟩
def laws_markLine.F (k : Nat) (x : Args laws_markLine.sig.ps) : Option (Res laws_markLine.sig) := laws_markLine.f k x.1 x.2.1
def laws_markLine.ann (k : Nat) : Ann (Res laws_markLine.sig) := .nil
def laws_markLine.ent : Ent := ⟨58, laws_markLine.sig, laws_markLine.F⟩
def laws_markLine.ctx (k : Nat) : Ctx := ⟨tds, [laws_markMsgS.ent], k, 10⟩
theorem laws_markLine.runs (k : Nat) (x : Args laws_markLine.sig.ps) : laws_markLine.F k x = runF (laws_markLine.ctx k) laws_markLine.sig Try.f58 (Try.f58.body.getD .skip) (laws_markLine.ann k) x := by kernel_rfl
theorem laws_markLine.obls (k : Nat) : obl (laws_markLine.ctx k) 1 (Try.f58.body.getD .skip) (laws_markLine.ann k) (retK tds laws_markLine.sig Try.f58.results.toList) := ⟨trivial, ⟨trivial, ⟨trivial, trivial⟩⟩⟩
theorem laws_markLine.ok (k : Nat) : EntOk Try.prog k laws_markLine.ent := fn_ok (C := laws_markLine.ctx k) Try.func58 (by kernel_rfl) (by kernel_rfl) mixed tdsOk (.cons (laws_markMsgS.ok k) EntsOk.nil) (by kernel_rfl) (Nat.le_of_ble_eq_true (by kernel_rfl)) (by kernel_rfl) (laws_markLine.runs k) (laws_markLine.obls k)
/-! loop.example/g00200/laws.heldMsgS -/
def laws_heldMsgS.l1 (k : Nat)  : Nat → Int × Int × (List (Int × Int)) × Unit → Option (Int)
  | 0, _ => none
  | n + 1, (x1, x2, x3, _) => if x2 < (x3.length : Int) then (if 0 ≤ x2 then (if x2 < (x3.length : Int) then (if ¬ ((el (.pair (.int .i64) (.int .i64)) x3 x2.toNat).1) = x1 then (some (-1)) else (if 0 ≤ x2 then (if x2 < (x3.length : Int) then (if ¬ ((el (.pair (.int .i64) (.int .i64)) x3 x2.toNat).2) = (w64 (x1 + 1)) then (some (-1)) else (laws_heldMsgS.l1 k n (w64 ((w64 (x1 + 1)) + 1), w64 (x2 + 1), x3, ()))) else none) else none)) else none) else none) else (some x1)
def laws_heldMsgS.f (k : Nat) (a0 : List (Int × Int)) (a1 : Int) : Option (Int) :=
  laws_heldMsgS.l1 k k (a1, 0, a0, ())
def laws_heldMsgS.Sl1 : Shape := ⟨[(0, false, [.own 0]), (1, false, [.int .i64]), (5, false, [.int .i64])], [(0, .view false 123 (.pair (.int .i64) (.int .i64)))], 1⟩
def laws_heldMsgS.sig : Sig := ⟨[.val false (.sl 123 (.pair (.int .i64) (.int .i64))) [0], .val false (.int .i64) []], [.val false (.int .i64) []]⟩
def laws_heldMsgS.F (k : Nat) (x : Args laws_heldMsgS.sig.ps) : Option (Res laws_heldMsgS.sig) := laws_heldMsgS.f k x.1 x.2.1
def laws_heldMsgS.ann (k : Nat) : Ann (Res laws_heldMsgS.sig) := (.seq .nil (.seq (.seq .nil (.block (.loop laws_heldMsgS.Sl1 (laws_heldMsgS.l1 k) fun n1 => .nil))) .nil))
def laws_heldMsgS.ent : Ent := ⟨100, laws_heldMsgS.sig, laws_heldMsgS.F⟩
def laws_heldMsgS.ctx (k : Nat) : Ctx := ⟨tds, [], k, 31⟩
theorem laws_heldMsgS.runs (k : Nat) (x : Args laws_heldMsgS.sig.ps) : laws_heldMsgS.F k x = runF (laws_heldMsgS.ctx k) laws_heldMsgS.sig Try.f100 (Try.f100.body.getD .skip) (laws_heldMsgS.ann k) x := by kernel_rfl
theorem laws_heldMsgS.obls (k : Nat) : obl (laws_heldMsgS.ctx k) 1 (Try.f100.body.getD .skip) (laws_heldMsgS.ann k) (retK tds laws_heldMsgS.sig Try.f100.results.toList) := ⟨trivial, ⟨⟨trivial, ⟨⟨by kernel_rfl, fun x => by kernel_rfl⟩, fun n => ⟨fun x => by kernel_rfl, ⟨⟨trivial, ⟨trivial, trivial⟩⟩, ⟨⟨⟨trivial, ⟨⟨trivial, trivial⟩, trivial⟩⟩, ⟨trivial, ⟨⟨trivial, ⟨⟨trivial, trivial⟩, trivial⟩⟩, trivial⟩⟩⟩, trivial⟩⟩⟩⟩⟩, ⟨trivial, trivial⟩⟩⟩
theorem laws_heldMsgS.ok (k : Nat) : EntOk Try.prog k laws_heldMsgS.ent := fn_ok (C := laws_heldMsgS.ctx k) Try.func100 (by kernel_rfl) (by kernel_rfl) mixed tdsOk EntsOk.nil (by kernel_rfl) (Nat.le_of_ble_eq_true (by kernel_rfl)) (by kernel_rfl) (laws_heldMsgS.runs k) (laws_heldMsgS.obls k)
/-! loop.example/g00200/laws.heldLine -/
def laws_heldLine.f (k : Nat) (a0 : List (Int × Int)) (a1 : Int) : Option (Int) :=
  (laws_heldMsgS.f k a0 a1).bind fun t1 => (if t1 < 0 then (some (-1)) else (some t1))
def laws_heldLine.sig : Sig := ⟨[.val true (.sl 123 (.pair (.int .i64) (.int .i64))) [0], .val false (.int .i64) []], [.val false (.int .i64) []]⟩
def laws_heldLine.F (k : Nat) (x : Args laws_heldLine.sig.ps) : Option (Res laws_heldLine.sig) := laws_heldLine.f k x.1 x.2.1
def laws_heldLine.ann (k : Nat) : Ann (Res laws_heldLine.sig) := .nil
def laws_heldLine.ent : Ent := ⟨59, laws_heldLine.sig, laws_heldLine.F⟩
def laws_heldLine.ctx (k : Nat) : Ctx := ⟨tds, [laws_heldMsgS.ent], k, 12⟩
theorem laws_heldLine.runs (k : Nat) (x : Args laws_heldLine.sig.ps) : laws_heldLine.F k x = runF (laws_heldLine.ctx k) laws_heldLine.sig Try.f59 (Try.f59.body.getD .skip) (laws_heldLine.ann k) x := by kernel_rfl
theorem laws_heldLine.obls (k : Nat) : obl (laws_heldLine.ctx k) 1 (Try.f59.body.getD .skip) (laws_heldLine.ann k) (retK tds laws_heldLine.sig Try.f59.results.toList) := ⟨trivial, ⟨trivial, ⟨⟨trivial, ⟨⟨trivial, trivial⟩, trivial⟩⟩, ⟨trivial, trivial⟩⟩⟩⟩
theorem laws_heldLine.ok (k : Nat) : EntOk Try.prog k laws_heldLine.ent := fn_ok (C := laws_heldLine.ctx k) Try.func59 (by kernel_rfl) (by kernel_rfl) mixed tdsOk (.cons (laws_heldMsgS.ok k) EntsOk.nil) (by kernel_rfl) (Nat.le_of_ble_eq_true (by kernel_rfl)) (by kernel_rfl) (laws_heldLine.runs k) (laws_heldLine.obls k)
/-! loop.example/g00200/laws.FnExactTakePort -/
def laws_FnExactTakePort.f (k : Nat) (a0 : Int × Int × Int × Int × Int) (a1 : List (Int × Int)) (a2 : Int) : Option (Bool) :=
  (laws_szLine.f k a1 1048576).bind fun t1 => (if t1 < 0 then (some true) else ((laws_toPort.f k a0).bind fun t2 => ((laws_toLine.f k a1).bind fun t3 => ((spec_TakePort.f k t2 t3 a2).bind fun t4 => ((laws_toLine.f k a1).bind fun t5 => ((laws_toPort.f k a0).bind fun t6 => ((impl_TakePort.f k t6 t5 a2).bind fun t7 => ((laws_eqLine.f k t7.1 t4.1).bind fun t8 => (if ¬ t8 = true then (some false) else (if ¬ t7.2.1 = t4.2.1 then (some false) else (if ¬ t7.2.2 = t4.2.2 then (some false) else ((laws_toLine.f k a1).bind fun t9 => ((laws_eqLine.f k t5 t9).bind fun t10 => (if ¬ t10 = true then (some false) else ((laws_markLine.f k t5 1).bind fun t11 => (if t11.1 < 0 then (some false) else ((laws_eqLine.f k t7.1 t4.1).bind fun t12 => (if ¬ t12 = true then (some false) else (if ¬ t7.2.1 = t4.2.1 then (some false) else (if ¬ t7.2.2 = t4.2.2 then (some false) else ((laws_markLine.f k t7.1 1).bind fun t13 => ((laws_heldLine.f k t13.2 1).bind fun t14 => (if t14 < 0 then (some false) else (if ¬ t14 = t13.1 then (some false) else ((laws_toPort.f k a0).bind fun t15 => ((laws_toLine.f k a1).bind fun t16 => ((impl_TakePort.f k t15 t16 a2).bind fun t17 => ((laws_eqLine.f k t17.1 t4.1).bind fun t18 => (if ¬ t18 = true then (some false) else (if ¬ t17.2.1 = t4.2.1 then (some false) else (if ¬ t17.2.2 = t4.2.2 then (some false) else ((laws_heldLine.f k t13.2 1).bind fun t19 => (if t19 < 0 then (some false) else (if ¬ t19 = t13.1 then (some false) else (some true)))))))))))))))))))))))))))))))))))
def laws_FnExactTakePort.sig : Sig := ⟨[.val true (.pair (.int .i64) (.pair (.int .i64) (.pair (.int .i64) (.pair (.int .i64) (.int .i64))))) [], .val true (.sl 150 (.pair (.int .i64) (.int .i64))) [0], .val false (.int .i64) []], [.val false .bool []]⟩
def laws_FnExactTakePort.F (k : Nat) (x : Args laws_FnExactTakePort.sig.ps) : Option (Res laws_FnExactTakePort.sig) := laws_FnExactTakePort.f k x.1 x.2.1 x.2.2.1
def laws_FnExactTakePort.ann (k : Nat) : Ann (Res laws_FnExactTakePort.sig) := .nil
def laws_FnExactTakePort.ent : Ent := ⟨13, laws_FnExactTakePort.sig, laws_FnExactTakePort.F⟩
def laws_FnExactTakePort.ctx (k : Nat) : Ctx := ⟨tds, [impl_TakePort.ent, spec_TakePort.ent, laws_szLine.ent, laws_toPort.ent, laws_toLine.ent, laws_eqLine.ent, laws_markLine.ent, laws_heldLine.ent], k, 130⟩
theorem laws_FnExactTakePort.runs (k : Nat) (x : Args laws_FnExactTakePort.sig.ps) : laws_FnExactTakePort.F k x = runF (laws_FnExactTakePort.ctx k) laws_FnExactTakePort.sig Try.f13 (Try.f13.body.getD .skip) (laws_FnExactTakePort.ann k) x := by kernel_rfl
theorem laws_FnExactTakePort.obls (k : Nat) : obl (laws_FnExactTakePort.ctx k) 1 (Try.f13.body.getD .skip) (laws_FnExactTakePort.ann k) (retK tds laws_FnExactTakePort.sig Try.f13.results.toList) := ⟨trivial, ⟨trivial, ⟨trivial, ⟨⟨trivial, ⟨⟨trivial, trivial⟩, trivial⟩⟩, ⟨trivial, ⟨trivial, ⟨trivial, ⟨⟨trivial, ⟨⟨trivial, trivial⟩, trivial⟩⟩, ⟨⟨trivial, ⟨⟨trivial, trivial⟩, trivial⟩⟩, ⟨trivial, ⟨trivial, ⟨⟨trivial, ⟨⟨trivial, trivial⟩, trivial⟩⟩, ⟨trivial, ⟨trivial, ⟨trivial, ⟨trivial, ⟨⟨trivial, ⟨⟨trivial, trivial⟩, trivial⟩⟩, ⟨⟨trivial, ⟨⟨trivial, trivial⟩, trivial⟩⟩, ⟨trivial, ⟨⟨trivial, ⟨⟨trivial, trivial⟩, trivial⟩⟩, ⟨trivial, ⟨trivial, ⟨⟨trivial, ⟨⟨trivial, trivial⟩, trivial⟩⟩, ⟨⟨trivial, ⟨⟨trivial, trivial⟩, trivial⟩⟩, ⟨trivial, trivial⟩⟩⟩⟩⟩⟩⟩⟩⟩⟩⟩⟩⟩⟩⟩⟩⟩⟩⟩⟩⟩⟩⟩⟩⟩
theorem laws_FnExactTakePort.ok (k : Nat) : EntOk Try.prog k laws_FnExactTakePort.ent := fn_ok (C := laws_FnExactTakePort.ctx k) Try.func13 (by kernel_rfl) (by kernel_rfl) mixed tdsOk (.cons (impl_TakePort.ok k) (.cons (spec_TakePort.ok k) (.cons (laws_szLine.ok k) (.cons (laws_toPort.ok k) (.cons (laws_toLine.ok k) (.cons (laws_eqLine.ok k) (.cons (laws_markLine.ok k) (.cons (laws_heldLine.ok k) EntsOk.nil)))))))) (by kernel_rfl) (Nat.le_of_ble_eq_true (by kernel_rfl)) (by kernel_rfl) (laws_FnExactTakePort.runs k) (laws_FnExactTakePort.obls k)
end Go.Proofs.Ytgihjaonapngdaa.QTP
