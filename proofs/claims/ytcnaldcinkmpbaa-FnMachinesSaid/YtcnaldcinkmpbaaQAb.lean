/- The plain functions of Go functions, and that each Go function does what its plain function tells. Printed by a program of this session (gen.py). -/
import Derived.Test.YtcnaldcinkmpbaaQA
import Derived.Test.YtcnaldcinkmpbaaProg
import Derived.Test.YtcnaldcinkmpbaaAbDa
import Derived.KernelRfl
namespace Go.Proofs.Ytcnaldcinkmpbaa.QA
open Go Go.Proofs Go.Proofs.YtcnaldcinkmpbaaA
set_option linter.unusedVariables false
set_option maxRecDepth 100000
/-! loop.example/g00200/laws.toCpu -/
def laws_toCpu.f (k : Nat) (a0 : Int × List Int) : Option (Int × List Int) :=
  (laws_toIntS.f k a0.2).bind fun t1 => (some (a0.1, t1))
def laws_toCpu.sig : Sig := ⟨[.val true (.pair (.int .i64) (.sl 3 (.int .i64))) [0]], [.val true (.pair (.int .i64) (.sl 3 (.int .i64))) [none]]⟩
def laws_toCpu.F (k : Nat) (x : Args laws_toCpu.sig.ps) : Option (Res laws_toCpu.sig) := laws_toCpu.f k x.1
def laws_toCpu.ann (k : Nat) : Ann (Res laws_toCpu.sig) := .nil
def laws_toCpu.ent : Ent := ⟨38, laws_toCpu.sig, laws_toCpu.F⟩
def laws_toCpu.ctx (k : Nat) : Ctx := ⟨tds, [laws_toIntS.ent], k, 12⟩
theorem laws_toCpu.runs (k : Nat) (x : Args laws_toCpu.sig.ps) : laws_toCpu.F k x = runF (laws_toCpu.ctx k) laws_toCpu.sig Try.f38 (Try.f38.body.getD .skip) (laws_toCpu.ann k) x := by kernel_rfl
theorem laws_toCpu.obls (k : Nat) : obl (laws_toCpu.ctx k) 1 (Try.f38.body.getD .skip) (laws_toCpu.ann k) (retK tds laws_toCpu.sig Try.f38.results.toList) := ⟨trivial, ⟨trivial, ⟨trivial, ⟨trivial, ⟨trivial, trivial⟩⟩⟩⟩⟩
theorem laws_toCpu.ok (k : Nat) : EntOk Try.prog k laws_toCpu.ent := fn_ok (C := laws_toCpu.ctx k) Try.func38 (by kernel_rfl) (by kernel_rfl) mixed tdsOk (.cons (laws_toIntS.ok k) EntsOk.nil) (by kernel_rfl) (Nat.le_of_ble_eq_true (by kernel_rfl)) (by kernel_rfl) (laws_toCpu.runs k) (laws_toCpu.obls k)
/-! loop.example/g00200/laws.toInstr -/
def laws_toInstr.f (k : Nat) (a0 : Int × Int) : Option (Int × Int) :=
  some a0
def laws_toInstr.sig : Sig := ⟨[.val true (.pair (.int .i64) (.int .i64)) []], [.val true (.pair (.int .i64) (.int .i64)) []]⟩
def laws_toInstr.F (k : Nat) (x : Args laws_toInstr.sig.ps) : Option (Res laws_toInstr.sig) := laws_toInstr.f k x.1
def laws_toInstr.ann (k : Nat) : Ann (Res laws_toInstr.sig) := .nil
def laws_toInstr.ent : Ent := ⟨109, laws_toInstr.sig, laws_toInstr.F⟩
def laws_toInstr.ctx (k : Nat) : Ctx := ⟨tds, [], k, 11⟩
theorem laws_toInstr.runs (k : Nat) (x : Args laws_toInstr.sig.ps) : laws_toInstr.F k x = runF (laws_toInstr.ctx k) laws_toInstr.sig Try.f109 (Try.f109.body.getD .skip) (laws_toInstr.ann k) x := by kernel_rfl
theorem laws_toInstr.obls (k : Nat) : obl (laws_toInstr.ctx k) 0 (Try.f109.body.getD .skip) (laws_toInstr.ann k) (retK tds laws_toInstr.sig Try.f109.results.toList) := ⟨trivial, ⟨trivial, ⟨trivial, ⟨trivial, ⟨trivial, trivial⟩⟩⟩⟩⟩
theorem laws_toInstr.ok (k : Nat) : EntOk Try.prog k laws_toInstr.ent := fn_ok (C := laws_toInstr.ctx k) Try.func109 (by kernel_rfl) (by kernel_rfl) mixed tdsOk EntsOk.nil (by kernel_rfl) (Nat.le_of_ble_eq_true (by kernel_rfl)) (by kernel_rfl) (laws_toInstr.runs k) (laws_toInstr.obls k)
/-! loop.example/g00200/laws.toInstrS -/
def laws_toInstrS.l1 (k : Nat)  : Nat → Int × (List (Int × Int)) × (List (Int × Int)) × Unit → Option (List (Int × Int))
  | 0, _ => none
  | n + 1, (x1, x2, x3, _) => if x1 < (x2.length : Int) then (if 0 ≤ x1 then (if x1 < (x2.length : Int) then ((laws_toInstr.f k (el (.pair (.int .i64) (.int .i64)) x2 x1.toNat)).bind fun t2 => (if 0 ≤ x1 then (if x1 < (x3.length : Int) then (((some (x3.set x1.toNat t2))).bind fun y3 => (laws_toInstrS.l1 k n (w64 (x1 + 1), x2, y3, ()))) else none) else none)) else none) else none) else (some x3)
def laws_toInstrS.f (k : Nat) (a0 : List (Int × Int)) : Option (List (Int × Int)) :=
  if (a0.length : Int) = (a0.length : Int) then (if 0 ≤ (a0.length : Int) then (if ((a0.length : Int)).toNat * 16 ≤ 281474976710656 then (((some (List.replicate ((a0.length : Int)).toNat (0, 0) : List (Int × Int)))).bind fun y1 => (laws_toInstrS.l1 k k (0, a0, y1, ()))) else none) else none) else none
def laws_toInstrS.Sl1 : Shape := ⟨[(0, false, [.own 0]), (3, false, [.own 1]), (4, false, [.int .i64])], [(0, .view false 145 (.pair (.int .i64) (.int .i64))), (1, .row 46 (.pair (.int .i64) (.int .i64)))], 2⟩
def laws_toInstrS.sig : Sig := ⟨[.val false (.sl 145 (.pair (.int .i64) (.int .i64))) [0]], [.val false (.sl 46 (.pair (.int .i64) (.int .i64))) [none]]⟩
def laws_toInstrS.F (k : Nat) (x : Args laws_toInstrS.sig.ps) : Option (Res laws_toInstrS.sig) := laws_toInstrS.f k x.1
def laws_toInstrS.ann (k : Nat) : Ann (Res laws_toInstrS.sig) := (.seq .nil (.seq .nil (.seq (.seq .nil (.block (.loop laws_toInstrS.Sl1 (laws_toInstrS.l1 k) fun n1 => .nil))) .nil)))
def laws_toInstrS.ent : Ent := ⟨39, laws_toInstrS.sig, laws_toInstrS.F⟩
def laws_toInstrS.ctx (k : Nat) : Ctx := ⟨tds, [laws_toInstr.ent], k, 23⟩
theorem laws_toInstrS.runs (k : Nat) (x : Args laws_toInstrS.sig.ps) : laws_toInstrS.F k x = runF (laws_toInstrS.ctx k) laws_toInstrS.sig Try.f39 (Try.f39.body.getD .skip) (laws_toInstrS.ann k) x := by kernel_rfl
theorem laws_toInstrS.obls (k : Nat) : obl (laws_toInstrS.ctx k) 1 (Try.f39.body.getD .skip) (laws_toInstrS.ann k) (retK tds laws_toInstrS.sig Try.f39.results.toList) := ⟨trivial, ⟨trivial, ⟨⟨trivial, ⟨⟨by kernel_rfl, fun x => by kernel_rfl⟩, fun n => ⟨fun x => by kernel_rfl, ⟨⟨trivial, ⟨trivial, trivial⟩⟩, ⟨trivial, trivial⟩⟩⟩⟩⟩, ⟨trivial, trivial⟩⟩⟩⟩
theorem laws_toInstrS.ok (k : Nat) : EntOk Try.prog k laws_toInstrS.ent := fn_ok (C := laws_toInstrS.ctx k) Try.func39 (by kernel_rfl) (by kernel_rfl) mixed tdsOk (.cons (laws_toInstr.ok k) EntsOk.nil) (by kernel_rfl) (Nat.le_of_ble_eq_true (by kernel_rfl)) (by kernel_rfl) (laws_toInstrS.runs k) (laws_toInstrS.obls k)
/-! loop.example/g00200/laws.toArena -/
def laws_toArena.f (k : Nat) (a0 : List Int) : Option (List Int) :=
  (laws_toIntS.f k a0).bind fun t1 => (some t1)
def laws_toArena.sig : Sig := ⟨[.val true (.sl 3 (.int .i64)) [0]], [.val true (.sl 3 (.int .i64)) [none]]⟩
def laws_toArena.F (k : Nat) (x : Args laws_toArena.sig.ps) : Option (Res laws_toArena.sig) := laws_toArena.f k x.1
def laws_toArena.ann (k : Nat) : Ann (Res laws_toArena.sig) := .nil
def laws_toArena.ent : Ent := ⟨40, laws_toArena.sig, laws_toArena.F⟩
def laws_toArena.ctx (k : Nat) : Ctx := ⟨tds, [laws_toIntS.ent], k, 9⟩
theorem laws_toArena.runs (k : Nat) (x : Args laws_toArena.sig.ps) : laws_toArena.F k x = runF (laws_toArena.ctx k) laws_toArena.sig Try.f40 (Try.f40.body.getD .skip) (laws_toArena.ann k) x := by kernel_rfl
theorem laws_toArena.obls (k : Nat) : obl (laws_toArena.ctx k) 1 (Try.f40.body.getD .skip) (laws_toArena.ann k) (retK tds laws_toArena.sig Try.f40.results.toList) := ⟨trivial, ⟨trivial, ⟨trivial, ⟨trivial, trivial⟩⟩⟩⟩
theorem laws_toArena.ok (k : Nat) : EntOk Try.prog k laws_toArena.ent := fn_ok (C := laws_toArena.ctx k) Try.func40 (by kernel_rfl) (by kernel_rfl) mixed tdsOk (.cons (laws_toIntS.ok k) EntsOk.nil) (by kernel_rfl) (Nat.le_of_ble_eq_true (by kernel_rfl)) (by kernel_rfl) (laws_toArena.runs k) (laws_toArena.obls k)
/-! loop.example/g00200/laws.toRegion -/
def laws_toRegion.f (k : Nat) (a0 : Int × Int) : Option (Int × Int) :=
  some a0
def laws_toRegion.sig : Sig := ⟨[.val true (.pair (.int .i64) (.int .i64)) []], [.val true (.pair (.int .i64) (.int .i64)) []]⟩
def laws_toRegion.F (k : Nat) (x : Args laws_toRegion.sig.ps) : Option (Res laws_toRegion.sig) := laws_toRegion.f k x.1
def laws_toRegion.ann (k : Nat) : Ann (Res laws_toRegion.sig) := .nil
def laws_toRegion.ent : Ent := ⟨41, laws_toRegion.sig, laws_toRegion.F⟩
def laws_toRegion.ctx (k : Nat) : Ctx := ⟨tds, [], k, 11⟩
theorem laws_toRegion.runs (k : Nat) (x : Args laws_toRegion.sig.ps) : laws_toRegion.F k x = runF (laws_toRegion.ctx k) laws_toRegion.sig Try.f41 (Try.f41.body.getD .skip) (laws_toRegion.ann k) x := by kernel_rfl
theorem laws_toRegion.obls (k : Nat) : obl (laws_toRegion.ctx k) 0 (Try.f41.body.getD .skip) (laws_toRegion.ann k) (retK tds laws_toRegion.sig Try.f41.results.toList) := ⟨trivial, ⟨trivial, ⟨trivial, ⟨trivial, ⟨trivial, trivial⟩⟩⟩⟩⟩
theorem laws_toRegion.ok (k : Nat) : EntOk Try.prog k laws_toRegion.ent := fn_ok (C := laws_toRegion.ctx k) Try.func41 (by kernel_rfl) (by kernel_rfl) mixed tdsOk EntsOk.nil (by kernel_rfl) (Nat.le_of_ble_eq_true (by kernel_rfl)) (by kernel_rfl) (laws_toRegion.runs k) (laws_toRegion.obls k)
/-! loop.example/g00200/laws.eqIntS -/
def laws_eqIntS.l1 (k : Nat)  : Nat → Int × List Int × List Int × Unit → Option (Bool)
  | 0, _ => none
  | n + 1, (x1, x2, x3, _) => if x1 < (x2.length : Int) then (if 0 ≤ x1 then (if x1 < (x2.length : Int) then (if 0 ≤ x1 then (if x1 < (x3.length : Int) then (if ¬ (el (.int .i64) x2 x1.toNat) = (el (.int .i64) x3 x1.toNat) then (some false) else (laws_eqIntS.l1 k n (w64 (x1 + 1), x2, x3, ()))) else none) else none) else none) else none) else (some true)
def laws_eqIntS.f (k : Nat) (a0 : List Int) (a1 : List Int) : Option (Bool) :=
  if ¬ (a0.length : Int) = (a1.length : Int) then (some false) else (laws_eqIntS.l1 k k (0, a0, a1, ()))
def laws_eqIntS.Sl1 : Shape := ⟨[(0, false, [.own 0]), (1, false, [.own 1]), (5, false, [.int .i64])], [(0, .view false 3 (.int .i64)), (1, .view false 3 (.int .i64))], 2⟩
def laws_eqIntS.sig : Sig := ⟨[.val false (.sl 3 (.int .i64)) [0], .val false (.sl 3 (.int .i64)) [0]], [.val false .bool []]⟩
def laws_eqIntS.F (k : Nat) (x : Args laws_eqIntS.sig.ps) : Option (Res laws_eqIntS.sig) := laws_eqIntS.f k x.1 x.2.1
def laws_eqIntS.ann (k : Nat) : Ann (Res laws_eqIntS.sig) := (.seq .nil (.seq .nil (.seq (.seq .nil (.block (.loop laws_eqIntS.Sl1 (laws_eqIntS.l1 k) fun n1 => .nil))) .nil)))
def laws_eqIntS.ent : Ent := ⟨110, laws_eqIntS.sig, laws_eqIntS.F⟩
def laws_eqIntS.ctx (k : Nat) : Ctx := ⟨tds, [], k, 26⟩
theorem laws_eqIntS.runs (k : Nat) (x : Args laws_eqIntS.sig.ps) : laws_eqIntS.F k x = runF (laws_eqIntS.ctx k) laws_eqIntS.sig Try.f110 (Try.f110.body.getD .skip) (laws_eqIntS.ann k) x := by kernel_rfl
theorem laws_eqIntS.obls (k : Nat) : obl (laws_eqIntS.ctx k) 2 (Try.f110.body.getD .skip) (laws_eqIntS.ann k) (retK tds laws_eqIntS.sig Try.f110.results.toList) := ⟨trivial, ⟨⟨trivial, ⟨⟨trivial, trivial⟩, trivial⟩⟩, ⟨⟨trivial, ⟨⟨by kernel_rfl, fun x => by kernel_rfl⟩, fun n => ⟨fun x => by kernel_rfl, ⟨⟨trivial, ⟨trivial, trivial⟩⟩, ⟨⟨trivial, ⟨⟨trivial, trivial⟩, trivial⟩⟩, trivial⟩⟩⟩⟩⟩, ⟨trivial, trivial⟩⟩⟩⟩
theorem laws_eqIntS.ok (k : Nat) : EntOk Try.prog k laws_eqIntS.ent := fn_ok (C := laws_eqIntS.ctx k) Try.func110 (by kernel_rfl) (by kernel_rfl) mixed tdsOk EntsOk.nil (by kernel_rfl) (Nat.le_of_ble_eq_true (by kernel_rfl)) (by kernel_rfl) (laws_eqIntS.runs k) (laws_eqIntS.obls k)
/-! loop.example/g00200/laws.eqCpu -/
def laws_eqCpu.f (k : Nat) (a0 : Int × List Int) (a1 : Int × List Int) : Option (Bool) :=
  if ¬ a0.1 = a1.1 then (some false) else ((laws_eqIntS.f k a0.2 a1.2).bind fun t1 => (if ¬ t1 = true then (some false) else (some true)))
def laws_eqCpu.sig : Sig := ⟨[.val true (.pair (.int .i64) (.sl 3 (.int .i64))) [0], .val true (.pair (.int .i64) (.sl 3 (.int .i64))) [0]], [.val false .bool []]⟩
def laws_eqCpu.F (k : Nat) (x : Args laws_eqCpu.sig.ps) : Option (Res laws_eqCpu.sig) := laws_eqCpu.f k x.1 x.2.1
def laws_eqCpu.ann (k : Nat) : Ann (Res laws_eqCpu.sig) := .nil
def laws_eqCpu.ent : Ent := ⟨42, laws_eqCpu.sig, laws_eqCpu.F⟩
def laws_eqCpu.ctx (k : Nat) : Ctx := ⟨tds, [laws_eqIntS.ent], k, 16⟩
theorem laws_eqCpu.runs (k : Nat) (x : Args laws_eqCpu.sig.ps) : laws_eqCpu.F k x = runF (laws_eqCpu.ctx k) laws_eqCpu.sig Try.f42 (Try.f42.body.getD .skip) (laws_eqCpu.ann k) x := by kernel_rfl
theorem laws_eqCpu.obls (k : Nat) : obl (laws_eqCpu.ctx k) 2 (Try.f42.body.getD .skip) (laws_eqCpu.ann k) (retK tds laws_eqCpu.sig Try.f42.results.toList) := ⟨trivial, ⟨⟨trivial, ⟨⟨trivial, trivial⟩, trivial⟩⟩, ⟨⟨trivial, ⟨⟨trivial, trivial⟩, trivial⟩⟩, ⟨trivial, trivial⟩⟩⟩⟩
theorem laws_eqCpu.ok (k : Nat) : EntOk Try.prog k laws_eqCpu.ent := fn_ok (C := laws_eqCpu.ctx k) Try.func42 (by kernel_rfl) (by kernel_rfl) mixed tdsOk (.cons (laws_eqIntS.ok k) EntsOk.nil) (by kernel_rfl) (Nat.le_of_ble_eq_true (by kernel_rfl)) (by kernel_rfl) (laws_eqCpu.runs k) (laws_eqCpu.obls k)
/-! loop.example/g00200/laws.eqArena -/
def laws_eqArena.f (k : Nat) (a0 : List Int) (a1 : List Int) : Option (Bool) :=
  (laws_eqIntS.f k a0 a1).bind fun t1 => (if ¬ t1 = true then (some false) else (some true))
def laws_eqArena.sig : Sig := ⟨[.val true (.sl 3 (.int .i64)) [0], .val true (.sl 3 (.int .i64)) [0]], [.val false .bool []]⟩
def laws_eqArena.F (k : Nat) (x : Args laws_eqArena.sig.ps) : Option (Res laws_eqArena.sig) := laws_eqArena.f k x.1 x.2.1
def laws_eqArena.ann (k : Nat) : Ann (Res laws_eqArena.sig) := .nil
def laws_eqArena.ent : Ent := ⟨43, laws_eqArena.sig, laws_eqArena.F⟩
def laws_eqArena.ctx (k : Nat) : Ctx := ⟨tds, [laws_eqIntS.ent], k, 11⟩
theorem laws_eqArena.runs (k : Nat) (x : Args laws_eqArena.sig.ps) : laws_eqArena.F k x = runF (laws_eqArena.ctx k) laws_eqArena.sig Try.f43 (Try.f43.body.getD .skip) (laws_eqArena.ann k) x := by kernel_rfl
theorem laws_eqArena.obls (k : Nat) : obl (laws_eqArena.ctx k) 2 (Try.f43.body.getD .skip) (laws_eqArena.ann k) (retK tds laws_eqArena.sig Try.f43.results.toList) := ⟨trivial, ⟨⟨trivial, ⟨⟨trivial, trivial⟩, trivial⟩⟩, ⟨trivial, trivial⟩⟩⟩
theorem laws_eqArena.ok (k : Nat) : EntOk Try.prog k laws_eqArena.ent := fn_ok (C := laws_eqArena.ctx k) Try.func43 (by kernel_rfl) (by kernel_rfl) mixed tdsOk (.cons (laws_eqIntS.ok k) EntsOk.nil) (by kernel_rfl) (Nat.le_of_ble_eq_true (by kernel_rfl)) (by kernel_rfl) (laws_eqArena.runs k) (laws_eqArena.obls k)
/-! loop.example/g00200/laws.eqEffect -/
def laws_eqEffect.f (k : Nat) (a0 : Int × Int × Int × Int) (a1 : Int × Int × Int × Int) : Option (Bool) :=
  if ¬ a0.1 = a1.1 then (some false) else (if ¬ a0.2.1 = a1.2.1 then (some false) else (if ¬ a0.2.2.1 = a1.2.2.1 then (some false) else (if ¬ a0.2.2.2 = a1.2.2.2 then (some false) else (some true))))
def laws_eqEffect.sig : Sig := ⟨[.val true (.pair (.int .i64) (.pair (.int .i64) (.pair (.int .i64) (.int .i64)))) [], .val true (.pair (.int .i64) (.pair (.int .i64) (.pair (.int .i64) (.int .i64)))) []], [.val false .bool []]⟩
def laws_eqEffect.F (k : Nat) (x : Args laws_eqEffect.sig.ps) : Option (Res laws_eqEffect.sig) := laws_eqEffect.f k x.1 x.2.1
def laws_eqEffect.ann (k : Nat) : Ann (Res laws_eqEffect.sig) := .nil
def laws_eqEffect.ent : Ent := ⟨44, laws_eqEffect.sig, laws_eqEffect.F⟩
def laws_eqEffect.ctx (k : Nat) : Ctx := ⟨tds, [], k, 25⟩
theorem laws_eqEffect.runs (k : Nat) (x : Args laws_eqEffect.sig.ps) : laws_eqEffect.F k x = runF (laws_eqEffect.ctx k) laws_eqEffect.sig Try.f44 (Try.f44.body.getD .skip) (laws_eqEffect.ann k) x := by kernel_rfl
theorem laws_eqEffect.obls (k : Nat) : obl (laws_eqEffect.ctx k) 0 (Try.f44.body.getD .skip) (laws_eqEffect.ann k) (retK tds laws_eqEffect.sig Try.f44.results.toList) := ⟨trivial, ⟨⟨trivial, ⟨⟨trivial, trivial⟩, trivial⟩⟩, ⟨⟨trivial, ⟨⟨trivial, trivial⟩, trivial⟩⟩, ⟨⟨trivial, ⟨⟨trivial, trivial⟩, trivial⟩⟩, ⟨⟨trivial, ⟨⟨trivial, trivial⟩, trivial⟩⟩, ⟨trivial, trivial⟩⟩⟩⟩⟩⟩
theorem laws_eqEffect.ok (k : Nat) : EntOk Try.prog k laws_eqEffect.ent := fn_ok (C := laws_eqEffect.ctx k) Try.func44 (by kernel_rfl) (by kernel_rfl) mixed tdsOk EntsOk.nil (by kernel_rfl) (Nat.le_of_ble_eq_true (by kernel_rfl)) (by kernel_rfl) (laws_eqEffect.runs k) (laws_eqEffect.obls k)
/-! loop.example/g00200/laws.eqInstr -/
def laws_eqInstr.f (k : Nat) (a0 : Int × Int) (a1 : Int × Int) : Option (Bool) :=
  if ¬ a0.1 = a1.1 then (some false) else (if ¬ a0.2 = a1.2 then (some false) else (some true))
def laws_eqInstr.sig : Sig := ⟨[.val true (.pair (.int .i64) (.int .i64)) [], .val true (.pair (.int .i64) (.int .i64)) []], [.val false .bool []]⟩
def laws_eqInstr.F (k : Nat) (x : Args laws_eqInstr.sig.ps) : Option (Res laws_eqInstr.sig) := laws_eqInstr.f k x.1 x.2.1
def laws_eqInstr.ann (k : Nat) : Ann (Res laws_eqInstr.sig) := .nil
def laws_eqInstr.ent : Ent := ⟨111, laws_eqInstr.sig, laws_eqInstr.F⟩
def laws_eqInstr.ctx (k : Nat) : Ctx := ⟨tds, [], k, 15⟩
theorem laws_eqInstr.runs (k : Nat) (x : Args laws_eqInstr.sig.ps) : laws_eqInstr.F k x = runF (laws_eqInstr.ctx k) laws_eqInstr.sig Try.f111 (Try.f111.body.getD .skip) (laws_eqInstr.ann k) x := by kernel_rfl
theorem laws_eqInstr.obls (k : Nat) : obl (laws_eqInstr.ctx k) 0 (Try.f111.body.getD .skip) (laws_eqInstr.ann k) (retK tds laws_eqInstr.sig Try.f111.results.toList) := ⟨trivial, ⟨⟨trivial, ⟨⟨trivial, trivial⟩, trivial⟩⟩, ⟨⟨trivial, ⟨⟨trivial, trivial⟩, trivial⟩⟩, ⟨trivial, trivial⟩⟩⟩⟩
theorem laws_eqInstr.ok (k : Nat) : EntOk Try.prog k laws_eqInstr.ent := fn_ok (C := laws_eqInstr.ctx k) Try.func111 (by kernel_rfl) (by kernel_rfl) mixed tdsOk EntsOk.nil (by kernel_rfl) (Nat.le_of_ble_eq_true (by kernel_rfl)) (by kernel_rfl) (laws_eqInstr.runs k) (laws_eqInstr.obls k)
/-! loop.example/g00200/laws.eqInstrS -/
def laws_eqInstrS.l1 (k : Nat)  : Nat → Int × (List (Int × Int)) × (List (Int × Int)) × Unit → Option (Bool)
  | 0, _ => none
  | n + 1, (x1, x2, x3, _) => if x1 < (x2.length : Int) then (if 0 ≤ x1 then (if x1 < (x2.length : Int) then (if 0 ≤ x1 then (if x1 < (x3.length : Int) then ((laws_eqInstr.f k (el (.pair (.int .i64) (.int .i64)) x2 x1.toNat) (el (.pair (.int .i64) (.int .i64)) x3 x1.toNat)).bind fun t1 => (if ¬ t1 = true then (some false) else (laws_eqInstrS.l1 k n (w64 (x1 + 1), x2, x3, ())))) else none) else none) else none) else none) else (some true)
def laws_eqInstrS.f (k : Nat) (a0 : List (Int × Int)) (a1 : List (Int × Int)) : Option (Bool) :=
  if ¬ (a0.length : Int) = (a1.length : Int) then (some false) else (laws_eqInstrS.l1 k k (0, a0, a1, ()))
def laws_eqInstrS.Sl1 : Shape := ⟨[(0, false, [.own 0]), (1, false, [.own 1]), (5, false, [.int .i64])], [(0, .view false 46 (.pair (.int .i64) (.int .i64))), (1, .view false 46 (.pair (.int .i64) (.int .i64)))], 2⟩
def laws_eqInstrS.sig : Sig := ⟨[.val false (.sl 46 (.pair (.int .i64) (.int .i64))) [0], .val false (.sl 46 (.pair (.int .i64) (.int .i64))) [0]], [.val false .bool []]⟩
def laws_eqInstrS.F (k : Nat) (x : Args laws_eqInstrS.sig.ps) : Option (Res laws_eqInstrS.sig) := laws_eqInstrS.f k x.1 x.2.1
def laws_eqInstrS.ann (k : Nat) : Ann (Res laws_eqInstrS.sig) := (.seq .nil (.seq .nil (.seq (.seq .nil (.block (.loop laws_eqInstrS.Sl1 (laws_eqInstrS.l1 k) fun n1 => .nil))) .nil)))
def laws_eqInstrS.ent : Ent := ⟨45, laws_eqInstrS.sig, laws_eqInstrS.F⟩
def laws_eqInstrS.ctx (k : Nat) : Ctx := ⟨tds, [laws_eqInstr.ent], k, 27⟩
theorem laws_eqInstrS.runs (k : Nat) (x : Args laws_eqInstrS.sig.ps) : laws_eqInstrS.F k x = runF (laws_eqInstrS.ctx k) laws_eqInstrS.sig Try.f45 (Try.f45.body.getD .skip) (laws_eqInstrS.ann k) x := by kernel_rfl
theorem laws_eqInstrS.obls (k : Nat) : obl (laws_eqInstrS.ctx k) 2 (Try.f45.body.getD .skip) (laws_eqInstrS.ann k) (retK tds laws_eqInstrS.sig Try.f45.results.toList) := ⟨trivial, ⟨⟨trivial, ⟨⟨trivial, trivial⟩, trivial⟩⟩, ⟨⟨trivial, ⟨⟨by kernel_rfl, fun x => by kernel_rfl⟩, fun n => ⟨fun x => by kernel_rfl, ⟨⟨trivial, ⟨trivial, trivial⟩⟩, ⟨⟨trivial, ⟨⟨trivial, trivial⟩, trivial⟩⟩, trivial⟩⟩⟩⟩⟩, ⟨trivial, trivial⟩⟩⟩⟩
theorem laws_eqInstrS.ok (k : Nat) : EntOk Try.prog k laws_eqInstrS.ent := fn_ok (C := laws_eqInstrS.ctx k) Try.func45 (by kernel_rfl) (by kernel_rfl) mixed tdsOk (.cons (laws_eqInstr.ok k) EntsOk.nil) (by kernel_rfl) (Nat.le_of_ble_eq_true (by kernel_rfl)) (by kernel_rfl) (laws_eqInstrS.runs k) (laws_eqInstrS.obls k)
/-! loop.example/g00200/laws.markIntS -/
def laws_markIntS.l1 (k : Nat)  : Nat → Int × Int × List Int × Unit → Option (Int × List Int)
  | 0, _ => none
  | n + 1, (x1, x2, x3, _) => if x2 < (x3.length : Int) then (if 0 ≤ x2 then (if x2 < (x3.length : Int) then (((some (x3.set x2.toNat x1))).bind fun y1 => (laws_markIntS.l1 k n (w64 (x1 + 1), w64 (x2 + 1), y1, ()))) else none) else none) else (some (x1, x3))
def laws_markIntS.f (k : Nat) (a0 : List Int) (a1 : Int) : Option (Int × List Int) :=
  laws_markIntS.l1 k k (a1, 0, a0, ())
def laws_markIntS.Sl1 : Shape := ⟨[(0, false, [.own 0]), (1, false, [.int .i64]), (5, false, [.int .i64])], [(0, .row 3 (.int .i64))], 1⟩
def laws_markIntS.sig : Sig := ⟨[.val false (.sl 3 (.int .i64)) [1], .val false (.int .i64) []], [.val false (.int .i64) []]⟩
def laws_markIntS.F (k : Nat) (x : Args laws_markIntS.sig.ps) : Option (Res laws_markIntS.sig) := laws_markIntS.f k x.1 x.2.1
def laws_markIntS.ann (k : Nat) : Ann (Res laws_markIntS.sig) := (.seq .nil (.seq (.seq .nil (.block (.loop laws_markIntS.Sl1 (laws_markIntS.l1 k) fun n1 => .nil))) .nil))
def laws_markIntS.ent : Ent := ⟨112, laws_markIntS.sig, laws_markIntS.F⟩
def laws_markIntS.ctx (k : Nat) : Ctx := ⟨tds, [], k, 19⟩
theorem laws_markIntS.runs (k : Nat) (x : Args laws_markIntS.sig.ps) : laws_markIntS.F k x = runF (laws_markIntS.ctx k) laws_markIntS.sig Try.f112 (Try.f112.body.getD .skip) (laws_markIntS.ann k) x := by kernel_rfl
theorem laws_markIntS.obls (k : Nat) : obl (laws_markIntS.ctx k) 1 (Try.f112.body.getD .skip) (laws_markIntS.ann k) (retK tds laws_markIntS.sig Try.f112.results.toList) := ⟨trivial, ⟨⟨trivial, ⟨⟨by kernel_rfl, fun x => by kernel_rfl⟩, fun n => ⟨fun x => by kernel_rfl, ⟨⟨trivial, ⟨trivial, trivial⟩⟩, ⟨⟨trivial, trivial⟩, trivial⟩⟩⟩⟩⟩, ⟨trivial, trivial⟩⟩⟩
theorem laws_markIntS.ok (k : Nat) : EntOk Try.prog k laws_markIntS.ent := fn_ok (C := laws_markIntS.ctx k) Try.func112 (by kernel_rfl) (by kernel_rfl) mixed tdsOk EntsOk.nil (by kernel_rfl) (Nat.le_of_ble_eq_true (by kernel_rfl)) (by kernel_rfl) (laws_markIntS.runs k) (laws_markIntS.obls k)
/-! loop.example/g00200/laws.markCpu -/
def laws_markCpu.f (k : Nat) (a0 : Int × List Int) (a1 : Int) : Option (Int × List Int) :=
  (laws_markIntS.f k a0.2 a1).bind fun t1 => (some (t1.1, t1.2))
def laws_markCpu.sig : Sig := ⟨[.val true (.pair (.int .i64) (.sl 3 (.int .i64))) [1], .val false (.int .i64) []], [.val false (.int .i64) []]⟩
def laws_markCpu.F (k : Nat) (x : Args laws_markCpu.sig.ps) : Option (Res laws_markCpu.sig) := laws_markCpu.f k x.1 x.2.1
def laws_markCpu.ann (k : Nat) : Ann (Res laws_markCpu.sig) := .nil
def laws_markCpu.ent : Ent := ⟨46, laws_markCpu.sig, laws_markCpu.F⟩
def laws_markCpu.ctx (k : Nat) : Ctx := ⟨tds, [laws_markIntS.ent], k, 10⟩
theorem laws_markCpu.runs (k : Nat) (x : Args laws_markCpu.sig.ps) : laws_markCpu.F k x = runF (laws_markCpu.ctx k) laws_markCpu.sig Try.f46 (Try.f46.body.getD .skip) (laws_markCpu.ann k) x := by kernel_rfl
theorem laws_markCpu.obls (k : Nat) : obl (laws_markCpu.ctx k) 1 (Try.f46.body.getD .skip) (laws_markCpu.ann k) (retK tds laws_markCpu.sig Try.f46.results.toList) := ⟨trivial, ⟨trivial, ⟨trivial, trivial⟩⟩⟩
theorem laws_markCpu.ok (k : Nat) : EntOk Try.prog k laws_markCpu.ent := fn_ok (C := laws_markCpu.ctx k) Try.func46 (by kernel_rfl) (by kernel_rfl) mixed tdsOk (.cons (laws_markIntS.ok k) EntsOk.nil) (by kernel_rfl) (Nat.le_of_ble_eq_true (by kernel_rfl)) (by kernel_rfl) (laws_markCpu.runs k) (laws_markCpu.obls k)
/-! loop.example/g00200/laws.markInstrS -/
def laws_markInstrS.l1 (k : Nat)  : Nat → Int × Int × (List (Int × Int)) × Unit → Option (Int × List (Int × Int))
  | 0, _ => none
  | n + 1, (x1, x2, x3, _) => if x2 < (x3.length : Int) then (if 0 ≤ x2 then (if x2 < (x3.length : Int) then (((some (x3.set x2.toNat (x1, (el (.pair (.int .i64) (.int .i64)) x3 x2.toNat).2)))).bind fun y1 => (if 0 ≤ x2 then (if x2 < (y1.length : Int) then (((some (y1.set x2.toNat ((el (.pair (.int .i64) (.int .i64)) y1 x2.toNat).1, w64 (x1 + 1))))).bind fun y2 => (laws_markInstrS.l1 k n (w64 ((w64 (x1 + 1)) + 1), w64 (x2 + 1), y2, ()))) else none) else none)) else none) else none) else (some (x1, x3))
def laws_markInstrS.f (k : Nat) (a0 : List (Int × Int)) (a1 : Int) : Option (Int × List (Int × Int)) :=
  laws_markInstrS.l1 k k (a1, 0, a0, ())
def laws_markInstrS.Sl1 : Shape := ⟨[(0, false, [.own 0]), (1, false, [.int .i64]), (5, false, [.int .i64])], [(0, .row 46 (.pair (.int .i64) (.int .i64)))], 1⟩
def laws_markInstrS.sig : Sig := ⟨[.val false (.sl 46 (.pair (.int .i64) (.int .i64))) [1], .val false (.int .i64) []], [.val false (.int .i64) []]⟩
def laws_markInstrS.F (k : Nat) (x : Args laws_markInstrS.sig.ps) : Option (Res laws_markInstrS.sig) := laws_markInstrS.f k x.1 x.2.1
def laws_markInstrS.ann (k : Nat) : Ann (Res laws_markInstrS.sig) := (.seq .nil (.seq (.seq .nil (.block (.loop laws_markInstrS.Sl1 (laws_markInstrS.l1 k) fun n1 => .nil))) .nil))
def laws_markInstrS.ent : Ent := ⟨47, laws_markInstrS.sig, laws_markInstrS.F⟩
def laws_markInstrS.ctx (k : Nat) : Ctx := ⟨tds, [], k, 27⟩
theorem laws_markInstrS.runs (k : Nat) (x : Args laws_markInstrS.sig.ps) : laws_markInstrS.F k x = runF (laws_markInstrS.ctx k) laws_markInstrS.sig Try.f47 (Try.f47.body.getD .skip) (laws_markInstrS.ann k) x := by kernel_rfl
theorem laws_markInstrS.obls (k : Nat) : obl (laws_markInstrS.ctx k) 1 (Try.f47.body.getD .skip) (laws_markInstrS.ann k) (retK tds laws_markInstrS.sig Try.f47.results.toList) := ⟨trivial, ⟨⟨trivial, ⟨⟨by kernel_rfl, fun x => by kernel_rfl⟩, fun n => ⟨fun x => by kernel_rfl, ⟨⟨trivial, ⟨trivial, trivial⟩⟩, ⟨⟨trivial, ⟨trivial, ⟨trivial, trivial⟩⟩⟩, trivial⟩⟩⟩⟩⟩, ⟨trivial, trivial⟩⟩⟩
theorem laws_markInstrS.ok (k : Nat) : EntOk Try.prog k laws_markInstrS.ent := fn_ok (C := laws_markInstrS.ctx k) Try.func47 (by kernel_rfl) (by kernel_rfl) mixed tdsOk EntsOk.nil (by kernel_rfl) (Nat.le_of_ble_eq_true (by kernel_rfl)) (by kernel_rfl) (laws_markInstrS.runs k) (laws_markInstrS.obls k)
/-! loop.example/g00200/laws.markArena -/
def laws_markArena.f (k : Nat) (a0 : List Int) (a1 : Int) : Option (Int × List Int) :=
  (laws_markIntS.f k a0 a1).bind fun t1 => (some (t1.1, t1.2))
def laws_markArena.sig : Sig := ⟨[.val true (.sl 3 (.int .i64)) [1], .val false (.int .i64) []], [.val false (.int .i64) []]⟩
def laws_markArena.F (k : Nat) (x : Args laws_markArena.sig.ps) : Option (Res laws_markArena.sig) := laws_markArena.f k x.1 x.2.1
def laws_markArena.ann (k : Nat) : Ann (Res laws_markArena.sig) := .nil
def laws_markArena.ent : Ent := ⟨48, laws_markArena.sig, laws_markArena.F⟩
def laws_markArena.ctx (k : Nat) : Ctx := ⟨tds, [laws_markIntS.ent], k, 10⟩
theorem laws_markArena.runs (k : Nat) (x : Args laws_markArena.sig.ps) : laws_markArena.F k x = runF (laws_markArena.ctx k) laws_markArena.sig Try.f48 (Try.f48.body.getD .skip) (laws_markArena.ann k) x := by kernel_rfl
theorem laws_markArena.obls (k : Nat) : obl (laws_markArena.ctx k) 1 (Try.f48.body.getD .skip) (laws_markArena.ann k) (retK tds laws_markArena.sig Try.f48.results.toList) := ⟨trivial, ⟨trivial, ⟨trivial, trivial⟩⟩⟩
theorem laws_markArena.ok (k : Nat) : EntOk Try.prog k laws_markArena.ent := fn_ok (C := laws_markArena.ctx k) Try.func48 (by kernel_rfl) (by kernel_rfl) mixed tdsOk (.cons (laws_markIntS.ok k) EntsOk.nil) (by kernel_rfl) (Nat.le_of_ble_eq_true (by kernel_rfl)) (by kernel_rfl) (laws_markArena.runs k) (laws_markArena.obls k)
/-! loop.example/g00200/laws.heldIntS -/
def laws_heldIntS.l1 (k : Nat)  : Nat → Int × Int × List Int × Unit → Option (Int)
  | 0, _ => none
  | n + 1, (x1, x2, x3, _) => if x2 < (x3.length : Int) then (if 0 ≤ x2 then (if x2 < (x3.length : Int) then (if ¬ (el (.int .i64) x3 x2.toNat) = x1 then (some (-1)) else (laws_heldIntS.l1 k n (w64 (x1 + 1), w64 (x2 + 1), x3, ()))) else none) else none) else (some x1)
def laws_heldIntS.f (k : Nat) (a0 : List Int) (a1 : Int) : Option (Int) :=
  laws_heldIntS.l1 k k (a1, 0, a0, ())
def laws_heldIntS.Sl1 : Shape := ⟨[(0, false, [.own 0]), (1, false, [.int .i64]), (5, false, [.int .i64])], [(0, .view false 3 (.int .i64))], 1⟩
def laws_heldIntS.sig : Sig := ⟨[.val false (.sl 3 (.int .i64)) [0], .val false (.int .i64) []], [.val false (.int .i64) []]⟩
def laws_heldIntS.F (k : Nat) (x : Args laws_heldIntS.sig.ps) : Option (Res laws_heldIntS.sig) := laws_heldIntS.f k x.1 x.2.1
def laws_heldIntS.ann (k : Nat) : Ann (Res laws_heldIntS.sig) := (.seq .nil (.seq (.seq .nil (.block (.loop laws_heldIntS.Sl1 (laws_heldIntS.l1 k) fun n1 => .nil))) .nil))
def laws_heldIntS.ent : Ent := ⟨113, laws_heldIntS.sig, laws_heldIntS.F⟩
def laws_heldIntS.ctx (k : Nat) : Ctx := ⟨tds, [], k, 21⟩
theorem laws_heldIntS.runs (k : Nat) (x : Args laws_heldIntS.sig.ps) : laws_heldIntS.F k x = runF (laws_heldIntS.ctx k) laws_heldIntS.sig Try.f113 (Try.f113.body.getD .skip) (laws_heldIntS.ann k) x := by kernel_rfl
theorem laws_heldIntS.obls (k : Nat) : obl (laws_heldIntS.ctx k) 1 (Try.f113.body.getD .skip) (laws_heldIntS.ann k) (retK tds laws_heldIntS.sig Try.f113.results.toList) := ⟨trivial, ⟨⟨trivial, ⟨⟨by kernel_rfl, fun x => by kernel_rfl⟩, fun n => ⟨fun x => by kernel_rfl, ⟨⟨trivial, ⟨trivial, trivial⟩⟩, ⟨⟨⟨trivial, ⟨⟨trivial, trivial⟩, trivial⟩⟩, trivial⟩, trivial⟩⟩⟩⟩⟩, ⟨trivial, trivial⟩⟩⟩
theorem laws_heldIntS.ok (k : Nat) : EntOk Try.prog k laws_heldIntS.ent := fn_ok (C := laws_heldIntS.ctx k) Try.func113 (by kernel_rfl) (by kernel_rfl) mixed tdsOk EntsOk.nil (by kernel_rfl) (Nat.le_of_ble_eq_true (by kernel_rfl)) (by kernel_rfl) (laws_heldIntS.runs k) (laws_heldIntS.obls k)
/-! loop.example/g00200/laws.heldCpu -/
def laws_heldCpu.f (k : Nat) (a0 : Int × List Int) (a1 : Int) : Option (Int) :=
  (laws_heldIntS.f k a0.2 a1).bind fun t1 => (if t1 < 0 then (some (-1)) else (some t1))
def laws_heldCpu.sig : Sig := ⟨[.val true (.pair (.int .i64) (.sl 3 (.int .i64))) [0], .val false (.int .i64) []], [.val false (.int .i64) []]⟩
def laws_heldCpu.F (k : Nat) (x : Args laws_heldCpu.sig.ps) : Option (Res laws_heldCpu.sig) := laws_heldCpu.f k x.1 x.2.1
def laws_heldCpu.ann (k : Nat) : Ann (Res laws_heldCpu.sig) := .nil
def laws_heldCpu.ent : Ent := ⟨49, laws_heldCpu.sig, laws_heldCpu.F⟩
def laws_heldCpu.ctx (k : Nat) : Ctx := ⟨tds, [laws_heldIntS.ent], k, 12⟩
theorem laws_heldCpu.runs (k : Nat) (x : Args laws_heldCpu.sig.ps) : laws_heldCpu.F k x = runF (laws_heldCpu.ctx k) laws_heldCpu.sig Try.f49 (Try.f49.body.getD .skip) (laws_heldCpu.ann k) x := by kernel_rfl
theorem laws_heldCpu.obls (k : Nat) : obl (laws_heldCpu.ctx k) 1 (Try.f49.body.getD .skip) (laws_heldCpu.ann k) (retK tds laws_heldCpu.sig Try.f49.results.toList) := ⟨trivial, ⟨trivial, ⟨⟨trivial, ⟨⟨trivial, trivial⟩, trivial⟩⟩, ⟨trivial, trivial⟩⟩⟩⟩
theorem laws_heldCpu.ok (k : Nat) : EntOk Try.prog k laws_heldCpu.ent := fn_ok (C := laws_heldCpu.ctx k) Try.func49 (by kernel_rfl) (by kernel_rfl) mixed tdsOk (.cons (laws_heldIntS.ok k) EntsOk.nil) (by kernel_rfl) (Nat.le_of_ble_eq_true (by kernel_rfl)) (by kernel_rfl) (laws_heldCpu.runs k) (laws_heldCpu.obls k)
/-! loop.example/g00200/laws.heldArena -/
def laws_heldArena.f (k : Nat) (a0 : List Int) (a1 : Int) : Option (Int) :=
  (laws_heldIntS.f k a0 a1).bind fun t1 => (if t1 < 0 then (some (-1)) else (some t1))
def laws_heldArena.sig : Sig := ⟨[.val true (.sl 3 (.int .i64)) [0], .val false (.int .i64) []], [.val false (.int .i64) []]⟩
def laws_heldArena.F (k : Nat) (x : Args laws_heldArena.sig.ps) : Option (Res laws_heldArena.sig) := laws_heldArena.f k x.1 x.2.1
def laws_heldArena.ann (k : Nat) : Ann (Res laws_heldArena.sig) := .nil
def laws_heldArena.ent : Ent := ⟨50, laws_heldArena.sig, laws_heldArena.F⟩
def laws_heldArena.ctx (k : Nat) : Ctx := ⟨tds, [laws_heldIntS.ent], k, 12⟩
theorem laws_heldArena.runs (k : Nat) (x : Args laws_heldArena.sig.ps) : laws_heldArena.F k x = runF (laws_heldArena.ctx k) laws_heldArena.sig Try.f50 (Try.f50.body.getD .skip) (laws_heldArena.ann k) x := by kernel_rfl
theorem laws_heldArena.obls (k : Nat) : obl (laws_heldArena.ctx k) 1 (Try.f50.body.getD .skip) (laws_heldArena.ann k) (retK tds laws_heldArena.sig Try.f50.results.toList) := ⟨trivial, ⟨trivial, ⟨⟨trivial, ⟨⟨trivial, trivial⟩, trivial⟩⟩, ⟨trivial, trivial⟩⟩⟩⟩
theorem laws_heldArena.ok (k : Nat) : EntOk Try.prog k laws_heldArena.ent := fn_ok (C := laws_heldArena.ctx k) Try.func50 (by kernel_rfl) (by kernel_rfl) mixed tdsOk (.cons (laws_heldIntS.ok k) EntsOk.nil) (by kernel_rfl) (Nat.le_of_ble_eq_true (by kernel_rfl)) (by kernel_rfl) (laws_heldArena.runs k) (laws_heldArena.obls k)
/-! loop.example/g00200/laws.szRegionS -/
def laws_szRegionS.f (k : Nat) (a0 : List (Int × Int)) (a1 : Int) : Option (Int) :=
  if (w64 (a1 - (a0.length : Int))) < 0 then (some (-1)) else (some (w64 (a1 - (a0.length : Int))))
def laws_szRegionS.sig : Sig := ⟨[.val false (.sl 74 (.pair (.int .i64) (.int .i64))) [0], .val false (.int .i64) []], [.val false (.int .i64) []]⟩
def laws_szRegionS.F (k : Nat) (x : Args laws_szRegionS.sig.ps) : Option (Res laws_szRegionS.sig) := laws_szRegionS.f k x.1 x.2.1
def laws_szRegionS.ann (k : Nat) : Ann (Res laws_szRegionS.sig) := .nil
def laws_szRegionS.ent : Ent := ⟨114, laws_szRegionS.sig, laws_szRegionS.F⟩
def laws_szRegionS.ctx (k : Nat) : Ctx := ⟨tds, [], k, 12⟩
theorem laws_szRegionS.runs (k : Nat) (x : Args laws_szRegionS.sig.ps) : laws_szRegionS.F k x = runF (laws_szRegionS.ctx k) laws_szRegionS.sig Try.f114 (Try.f114.body.getD .skip) (laws_szRegionS.ann k) x := by kernel_rfl
theorem laws_szRegionS.obls (k : Nat) : obl (laws_szRegionS.ctx k) 1 (Try.f114.body.getD .skip) (laws_szRegionS.ann k) (retK tds laws_szRegionS.sig Try.f114.results.toList) := ⟨trivial, ⟨trivial, ⟨⟨trivial, ⟨⟨trivial, trivial⟩, trivial⟩⟩, ⟨trivial, trivial⟩⟩⟩⟩
theorem laws_szRegionS.ok (k : Nat) : EntOk Try.prog k laws_szRegionS.ent := fn_ok (C := laws_szRegionS.ctx k) Try.func114 (by kernel_rfl) (by kernel_rfl) mixed tdsOk EntsOk.nil (by kernel_rfl) (Nat.le_of_ble_eq_true (by kernel_rfl)) (by kernel_rfl) (laws_szRegionS.runs k) (laws_szRegionS.obls k)
/-! loop.example/g00200/laws.szWindowS -/
def laws_szWindowS.f (k : Nat) (a0 : List (Int × Int)) (a1 : Int) : Option (Int) :=
  if (w64 (a1 - (a0.length : Int))) < 0 then (some (-1)) else (some (w64 (a1 - (a0.length : Int))))
def laws_szWindowS.sig : Sig := ⟨[.val false (.sl 193 (.pair (.int .i64) (.int .i64))) [0], .val false (.int .i64) []], [.val false (.int .i64) []]⟩
def laws_szWindowS.F (k : Nat) (x : Args laws_szWindowS.sig.ps) : Option (Res laws_szWindowS.sig) := laws_szWindowS.f k x.1 x.2.1
def laws_szWindowS.ann (k : Nat) : Ann (Res laws_szWindowS.sig) := .nil
def laws_szWindowS.ent : Ent := ⟨115, laws_szWindowS.sig, laws_szWindowS.F⟩
def laws_szWindowS.ctx (k : Nat) : Ctx := ⟨tds, [], k, 12⟩
theorem laws_szWindowS.runs (k : Nat) (x : Args laws_szWindowS.sig.ps) : laws_szWindowS.F k x = runF (laws_szWindowS.ctx k) laws_szWindowS.sig Try.f115 (Try.f115.body.getD .skip) (laws_szWindowS.ann k) x := by kernel_rfl
theorem laws_szWindowS.obls (k : Nat) : obl (laws_szWindowS.ctx k) 1 (Try.f115.body.getD .skip) (laws_szWindowS.ann k) (retK tds laws_szWindowS.sig Try.f115.results.toList) := ⟨trivial, ⟨trivial, ⟨⟨trivial, ⟨⟨trivial, trivial⟩, trivial⟩⟩, ⟨trivial, trivial⟩⟩⟩⟩
theorem laws_szWindowS.ok (k : Nat) : EntOk Try.prog k laws_szWindowS.ent := fn_ok (C := laws_szWindowS.ctx k) Try.func115 (by kernel_rfl) (by kernel_rfl) mixed tdsOk EntsOk.nil (by kernel_rfl) (Nat.le_of_ble_eq_true (by kernel_rfl)) (by kernel_rfl) (laws_szWindowS.runs k) (laws_szWindowS.obls k)
/-! loop.example/g00200/laws.szPortS -/
def laws_szPortS.f (k : Nat) (a0 : List (Int × Int × Int × Int × Int)) (a1 : Int) : Option (Int) :=
  if (w64 (a1 - (a0.length : Int))) < 0 then (some (-1)) else (some (w64 (a1 - (a0.length : Int))))
def laws_szPortS.sig : Sig := ⟨[.val false (.sl 195 (.pair (.int .i64) (.pair (.int .i64) (.pair (.int .i64) (.pair (.int .i64) (.int .i64)))))) [0], .val false (.int .i64) []], [.val false (.int .i64) []]⟩
def laws_szPortS.F (k : Nat) (x : Args laws_szPortS.sig.ps) : Option (Res laws_szPortS.sig) := laws_szPortS.f k x.1 x.2.1
def laws_szPortS.ann (k : Nat) : Ann (Res laws_szPortS.sig) := .nil
def laws_szPortS.ent : Ent := ⟨116, laws_szPortS.sig, laws_szPortS.F⟩
def laws_szPortS.ctx (k : Nat) : Ctx := ⟨tds, [], k, 12⟩
theorem laws_szPortS.runs (k : Nat) (x : Args laws_szPortS.sig.ps) : laws_szPortS.F k x = runF (laws_szPortS.ctx k) laws_szPortS.sig Try.f116 (Try.f116.body.getD .skip) (laws_szPortS.ann k) x := by kernel_rfl
theorem laws_szPortS.obls (k : Nat) : obl (laws_szPortS.ctx k) 1 (Try.f116.body.getD .skip) (laws_szPortS.ann k) (retK tds laws_szPortS.sig Try.f116.results.toList) := ⟨trivial, ⟨trivial, ⟨⟨trivial, ⟨⟨trivial, trivial⟩, trivial⟩⟩, ⟨trivial, trivial⟩⟩⟩⟩
theorem laws_szPortS.ok (k : Nat) : EntOk Try.prog k laws_szPortS.ent := fn_ok (C := laws_szPortS.ctx k) Try.func116 (by kernel_rfl) (by kernel_rfl) mixed tdsOk EntsOk.nil (by kernel_rfl) (Nat.le_of_ble_eq_true (by kernel_rfl)) (by kernel_rfl) (laws_szPortS.runs k) (laws_szPortS.obls k)
/-! loop.example/g00200/laws.szRuleS -/
def laws_szRuleS.f (k : Nat) (a0 : List (Int × Int × Int)) (a1 : Int) : Option (Int) :=
  if (w64 (a1 - (a0.length : Int))) < 0 then (some (-1)) else (some (w64 (a1 - (a0.length : Int))))
def laws_szRuleS.sig : Sig := ⟨[.val false (.sl 197 (.pair (.int .i64) (.pair (.int .i64) (.int .i64)))) [0], .val false (.int .i64) []], [.val false (.int .i64) []]⟩
def laws_szRuleS.F (k : Nat) (x : Args laws_szRuleS.sig.ps) : Option (Res laws_szRuleS.sig) := laws_szRuleS.f k x.1 x.2.1
def laws_szRuleS.ann (k : Nat) : Ann (Res laws_szRuleS.sig) := .nil
def laws_szRuleS.ent : Ent := ⟨117, laws_szRuleS.sig, laws_szRuleS.F⟩
def laws_szRuleS.ctx (k : Nat) : Ctx := ⟨tds, [], k, 12⟩
theorem laws_szRuleS.runs (k : Nat) (x : Args laws_szRuleS.sig.ps) : laws_szRuleS.F k x = runF (laws_szRuleS.ctx k) laws_szRuleS.sig Try.f117 (Try.f117.body.getD .skip) (laws_szRuleS.ann k) x := by kernel_rfl
theorem laws_szRuleS.obls (k : Nat) : obl (laws_szRuleS.ctx k) 1 (Try.f117.body.getD .skip) (laws_szRuleS.ann k) (retK tds laws_szRuleS.sig Try.f117.results.toList) := ⟨trivial, ⟨trivial, ⟨⟨trivial, ⟨⟨trivial, trivial⟩, trivial⟩⟩, ⟨trivial, trivial⟩⟩⟩⟩
theorem laws_szRuleS.ok (k : Nat) : EntOk Try.prog k laws_szRuleS.ent := fn_ok (C := laws_szRuleS.ctx k) Try.func117 (by kernel_rfl) (by kernel_rfl) mixed tdsOk EntsOk.nil (by kernel_rfl) (Nat.le_of_ble_eq_true (by kernel_rfl)) (by kernel_rfl) (laws_szRuleS.runs k) (laws_szRuleS.obls k)
/-! loop.example/g00200/laws.szStringS -/
def laws_szStringS.l1 (k : Nat)  : Nat → Int × Int × List ByteArray × Unit → Option (Int)
  | 0, _ => none
  | n + 1, (x1, x2, x3, _) => if x2 < (x3.length : Int) then (if 0 ≤ x2 then (if x2 < (x3.length : Int) then (if (w64 (x1 - ((el .str x3 x2.toNat).size : Int))) < 0 then (some (-1)) else (laws_szStringS.l1 k n (w64 (x1 - ((el .str x3 x2.toNat).size : Int)), w64 (x2 + 1), x3, ()))) else none) else none) else (some x1)
def laws_szStringS.f (k : Nat) (a0 : List ByteArray) (a1 : Int) : Option (Int) :=
  if (w64 (a1 - (a0.length : Int))) < 0 then (some (-1)) else (laws_szStringS.l1 k k (w64 (a1 - (a0.length : Int)), 0, a0, ()))
def laws_szStringS.Sl1 : Shape := ⟨[(0, false, [.own 0]), (1, false, [.int .i64]), (5, false, [.int .i64])], [(0, .view false 9 .str)], 1⟩
def laws_szStringS.sig : Sig := ⟨[.val false (.sl 9 .str) [0], .val false (.int .i64) []], [.val false (.int .i64) []]⟩
def laws_szStringS.F (k : Nat) (x : Args laws_szStringS.sig.ps) : Option (Res laws_szStringS.sig) := laws_szStringS.f k x.1 x.2.1
def laws_szStringS.ann (k : Nat) : Ann (Res laws_szStringS.sig) := (.seq .nil (.seq .nil (.seq .nil (.seq (.seq .nil (.block (.loop laws_szStringS.Sl1 (laws_szStringS.l1 k) fun n1 => .nil))) .nil))))
def laws_szStringS.ent : Ent := ⟨118, laws_szStringS.sig, laws_szStringS.F⟩
def laws_szStringS.ctx (k : Nat) : Ctx := ⟨tds, [], k, 28⟩
theorem laws_szStringS.runs (k : Nat) (x : Args laws_szStringS.sig.ps) : laws_szStringS.F k x = runF (laws_szStringS.ctx k) laws_szStringS.sig Try.f118 (Try.f118.body.getD .skip) (laws_szStringS.ann k) x := by kernel_rfl
theorem laws_szStringS.obls (k : Nat) : obl (laws_szStringS.ctx k) 1 (Try.f118.body.getD .skip) (laws_szStringS.ann k) (retK tds laws_szStringS.sig Try.f118.results.toList) := ⟨trivial, ⟨trivial, ⟨⟨trivial, ⟨⟨trivial, trivial⟩, trivial⟩⟩, ⟨⟨trivial, ⟨⟨by kernel_rfl, fun x => by kernel_rfl⟩, fun n => ⟨fun x => by kernel_rfl, ⟨⟨trivial, ⟨trivial, trivial⟩⟩, ⟨⟨trivial, ⟨trivial, ⟨⟨trivial, trivial⟩, trivial⟩⟩⟩, trivial⟩⟩⟩⟩⟩, ⟨trivial, trivial⟩⟩⟩⟩⟩
theorem laws_szStringS.ok (k : Nat) : EntOk Try.prog k laws_szStringS.ent := fn_ok (C := laws_szStringS.ctx k) Try.func118 (by kernel_rfl) (by kernel_rfl) mixed tdsOk EntsOk.nil (by kernel_rfl) (Nat.le_of_ble_eq_true (by kernel_rfl)) (by kernel_rfl) (laws_szStringS.runs k) (laws_szStringS.obls k)
/-! loop.example/g00200/laws.szSetup -/
def laws_szSetup.f (k : Nat) (a0 : List (Int × Int) × List (Int × Int) × List (Int × Int × Int × Int × Int) × List (Int × Int × Int) × List ByteArray) (a1 : Int) : Option (Int) :=
  (laws_szRegionS.f k a0.1 a1).bind fun t1 => (if t1 < 0 then (some (-1)) else ((laws_szWindowS.f k a0.2.1 t1).bind fun t2 => (if t2 < 0 then (some (-1)) else ((laws_szPortS.f k a0.2.2.1 t2).bind fun t3 => (if t3 < 0 then (some (-1)) else ((laws_szRuleS.f k a0.2.2.2.1 t3).bind fun t4 => (if t4 < 0 then (some (-1)) else ((laws_szStringS.f k a0.2.2.2.2 t4).bind fun t5 => (if t5 < 0 then (some (-1)) else (some t5))))))))))
def laws_szSetup.sig : Sig := ⟨[.val true (.pair (.sl 74 (.pair (.int .i64) (.int .i64))) (.pair (.sl 193 (.pair (.int .i64) (.int .i64))) (.pair (.sl 195 (.pair (.int .i64) (.pair (.int .i64) (.pair (.int .i64) (.pair (.int .i64) (.int .i64)))))) (.pair (.sl 197 (.pair (.int .i64) (.pair (.int .i64) (.int .i64)))) (.sl 9 .str))))) [0, 0, 0, 0, 0], .val false (.int .i64) []], [.val false (.int .i64) []]⟩
def laws_szSetup.F (k : Nat) (x : Args laws_szSetup.sig.ps) : Option (Res laws_szSetup.sig) := laws_szSetup.f k x.1 x.2.1
def laws_szSetup.ann (k : Nat) : Ann (Res laws_szSetup.sig) := .nil
def laws_szSetup.ent : Ent := ⟨51, laws_szSetup.sig, laws_szSetup.F⟩
def laws_szSetup.ctx (k : Nat) : Ctx := ⟨tds, [laws_szRegionS.ent, laws_szWindowS.ent, laws_szPortS.ent, laws_szRuleS.ent, laws_szStringS.ent], k, 36⟩
theorem laws_szSetup.runs (k : Nat) (x : Args laws_szSetup.sig.ps) : laws_szSetup.F k x = runF (laws_szSetup.ctx k) laws_szSetup.sig Try.f51 (Try.f51.body.getD .skip) (laws_szSetup.ann k) x := by kernel_rfl
theorem laws_szSetup.obls (k : Nat) : obl (laws_szSetup.ctx k) 5 (Try.f51.body.getD .skip) (laws_szSetup.ann k) (retK tds laws_szSetup.sig Try.f51.results.toList) := ⟨trivial, ⟨trivial, ⟨⟨trivial, ⟨⟨trivial, trivial⟩, trivial⟩⟩, ⟨trivial, ⟨⟨trivial, ⟨⟨trivial, trivial⟩, trivial⟩⟩, ⟨trivial, ⟨⟨trivial, ⟨⟨trivial, trivial⟩, trivial⟩⟩, ⟨trivial, ⟨⟨trivial, ⟨⟨trivial, trivial⟩, trivial⟩⟩, ⟨trivial, ⟨⟨trivial, ⟨⟨trivial, trivial⟩, trivial⟩⟩, ⟨trivial, trivial⟩⟩⟩⟩⟩⟩⟩⟩⟩⟩⟩⟩
theorem laws_szSetup.ok (k : Nat) : EntOk Try.prog k laws_szSetup.ent := fn_ok (C := laws_szSetup.ctx k) Try.func51 (by kernel_rfl) (by kernel_rfl) mixed tdsOk (.cons (laws_szRegionS.ok k) (.cons (laws_szWindowS.ok k) (.cons (laws_szPortS.ok k) (.cons (laws_szRuleS.ok k) (.cons (laws_szStringS.ok k) EntsOk.nil))))) (by kernel_rfl) (Nat.le_of_ble_eq_true (by kernel_rfl)) (by kernel_rfl) (laws_szSetup.runs k) (laws_szSetup.obls k)
/-! loop.example/g00200/laws.toRegionS -/
def laws_toRegionS.l1 (k : Nat)  : Nat → Int × (List (Int × Int)) × (List (Int × Int)) × Unit → Option (List (Int × Int))
  | 0, _ => none
  | n + 1, (x1, x2, x3, _) => if x1 < (x2.length : Int) then (if 0 ≤ x1 then (if x1 < (x2.length : Int) then ((laws_toRegion.f k (el (.pair (.int .i64) (.int .i64)) x2 x1.toNat)).bind fun t2 => (if 0 ≤ x1 then (if x1 < (x3.length : Int) then (((some (x3.set x1.toNat t2))).bind fun y3 => (laws_toRegionS.l1 k n (w64 (x1 + 1), x2, y3, ()))) else none) else none)) else none) else none) else (some x3)
def laws_toRegionS.f (k : Nat) (a0 : List (Int × Int)) : Option (List (Int × Int)) :=
  if (a0.length : Int) = (a0.length : Int) then (if 0 ≤ (a0.length : Int) then (if ((a0.length : Int)).toNat * 16 ≤ 281474976710656 then (((some (List.replicate ((a0.length : Int)).toNat (0, 0) : List (Int × Int)))).bind fun y1 => (laws_toRegionS.l1 k k (0, a0, y1, ()))) else none) else none) else none
def laws_toRegionS.Sl1 : Shape := ⟨[(0, false, [.own 0]), (3, false, [.own 1]), (4, false, [.int .i64])], [(0, .view false 74 (.pair (.int .i64) (.int .i64))), (1, .row 53 (.pair (.int .i64) (.int .i64)))], 2⟩
def laws_toRegionS.sig : Sig := ⟨[.val false (.sl 74 (.pair (.int .i64) (.int .i64))) [0]], [.val false (.sl 53 (.pair (.int .i64) (.int .i64))) [none]]⟩
def laws_toRegionS.F (k : Nat) (x : Args laws_toRegionS.sig.ps) : Option (Res laws_toRegionS.sig) := laws_toRegionS.f k x.1
def laws_toRegionS.ann (k : Nat) : Ann (Res laws_toRegionS.sig) := (.seq .nil (.seq .nil (.seq (.seq .nil (.block (.loop laws_toRegionS.Sl1 (laws_toRegionS.l1 k) fun n1 => .nil))) .nil)))
def laws_toRegionS.ent : Ent := ⟨125, laws_toRegionS.sig, laws_toRegionS.F⟩
def laws_toRegionS.ctx (k : Nat) : Ctx := ⟨tds, [laws_toRegion.ent], k, 23⟩
theorem laws_toRegionS.runs (k : Nat) (x : Args laws_toRegionS.sig.ps) : laws_toRegionS.F k x = runF (laws_toRegionS.ctx k) laws_toRegionS.sig Try.f125 (Try.f125.body.getD .skip) (laws_toRegionS.ann k) x := by kernel_rfl
theorem laws_toRegionS.obls (k : Nat) : obl (laws_toRegionS.ctx k) 1 (Try.f125.body.getD .skip) (laws_toRegionS.ann k) (retK tds laws_toRegionS.sig Try.f125.results.toList) := ⟨trivial, ⟨trivial, ⟨⟨trivial, ⟨⟨by kernel_rfl, fun x => by kernel_rfl⟩, fun n => ⟨fun x => by kernel_rfl, ⟨⟨trivial, ⟨trivial, trivial⟩⟩, ⟨trivial, trivial⟩⟩⟩⟩⟩, ⟨trivial, trivial⟩⟩⟩⟩
theorem laws_toRegionS.ok (k : Nat) : EntOk Try.prog k laws_toRegionS.ent := fn_ok (C := laws_toRegionS.ctx k) Try.func125 (by kernel_rfl) (by kernel_rfl) mixed tdsOk (.cons (laws_toRegion.ok k) EntsOk.nil) (by kernel_rfl) (Nat.le_of_ble_eq_true (by kernel_rfl)) (by kernel_rfl) (laws_toRegionS.runs k) (laws_toRegionS.obls k)
/-! loop.example/g00200/laws.toWindow -/
def laws_toWindow.f (k : Nat) (a0 : Int × Int) : Option (Int × Int) :=
  some a0
def laws_toWindow.sig : Sig := ⟨[.val true (.pair (.int .i64) (.int .i64)) []], [.val true (.pair (.int .i64) (.int .i64)) []]⟩
def laws_toWindow.F (k : Nat) (x : Args laws_toWindow.sig.ps) : Option (Res laws_toWindow.sig) := laws_toWindow.f k x.1
def laws_toWindow.ann (k : Nat) : Ann (Res laws_toWindow.sig) := .nil
def laws_toWindow.ent : Ent := ⟨173, laws_toWindow.sig, laws_toWindow.F⟩
def laws_toWindow.ctx (k : Nat) : Ctx := ⟨tds, [], k, 11⟩
theorem laws_toWindow.runs (k : Nat) (x : Args laws_toWindow.sig.ps) : laws_toWindow.F k x = runF (laws_toWindow.ctx k) laws_toWindow.sig Try.f173 (Try.f173.body.getD .skip) (laws_toWindow.ann k) x := by kernel_rfl
theorem laws_toWindow.obls (k : Nat) : obl (laws_toWindow.ctx k) 0 (Try.f173.body.getD .skip) (laws_toWindow.ann k) (retK tds laws_toWindow.sig Try.f173.results.toList) := ⟨trivial, ⟨trivial, ⟨trivial, ⟨trivial, ⟨trivial, trivial⟩⟩⟩⟩⟩
theorem laws_toWindow.ok (k : Nat) : EntOk Try.prog k laws_toWindow.ent := fn_ok (C := laws_toWindow.ctx k) Try.func173 (by kernel_rfl) (by kernel_rfl) mixed tdsOk EntsOk.nil (by kernel_rfl) (Nat.le_of_ble_eq_true (by kernel_rfl)) (by kernel_rfl) (laws_toWindow.runs k) (laws_toWindow.obls k)
/-! loop.example/g00200/laws.toWindowS -/
def laws_toWindowS.l1 (k : Nat)  : Nat → Int × (List (Int × Int)) × (List (Int × Int)) × Unit → Option (List (Int × Int))
  | 0, _ => none
  | n + 1, (x1, x2, x3, _) => if x1 < (x2.length : Int) then (if 0 ≤ x1 then (if x1 < (x2.length : Int) then ((laws_toWindow.f k (el (.pair (.int .i64) (.int .i64)) x2 x1.toNat)).bind fun t2 => (if 0 ≤ x1 then (if x1 < (x3.length : Int) then (((some (x3.set x1.toNat t2))).bind fun y3 => (laws_toWindowS.l1 k n (w64 (x1 + 1), x2, y3, ()))) else none) else none)) else none) else none) else (some x3)
def laws_toWindowS.f (k : Nat) (a0 : List (Int × Int)) : Option (List (Int × Int)) :=
  if (a0.length : Int) = (a0.length : Int) then (if 0 ≤ (a0.length : Int) then (if ((a0.length : Int)).toNat * 16 ≤ 281474976710656 then (((some (List.replicate ((a0.length : Int)).toNat (0, 0) : List (Int × Int)))).bind fun y1 => (laws_toWindowS.l1 k k (0, a0, y1, ()))) else none) else none) else none
def laws_toWindowS.Sl1 : Shape := ⟨[(0, false, [.own 0]), (3, false, [.own 1]), (4, false, [.int .i64])], [(0, .view false 193 (.pair (.int .i64) (.int .i64))), (1, .row 35 (.pair (.int .i64) (.int .i64)))], 2⟩
def laws_toWindowS.sig : Sig := ⟨[.val false (.sl 193 (.pair (.int .i64) (.int .i64))) [0]], [.val false (.sl 35 (.pair (.int .i64) (.int .i64))) [none]]⟩
def laws_toWindowS.F (k : Nat) (x : Args laws_toWindowS.sig.ps) : Option (Res laws_toWindowS.sig) := laws_toWindowS.f k x.1
def laws_toWindowS.ann (k : Nat) : Ann (Res laws_toWindowS.sig) := (.seq .nil (.seq .nil (.seq (.seq .nil (.block (.loop laws_toWindowS.Sl1 (laws_toWindowS.l1 k) fun n1 => .nil))) .nil)))
def laws_toWindowS.ent : Ent := ⟨126, laws_toWindowS.sig, laws_toWindowS.F⟩
def laws_toWindowS.ctx (k : Nat) : Ctx := ⟨tds, [laws_toWindow.ent], k, 23⟩
theorem laws_toWindowS.runs (k : Nat) (x : Args laws_toWindowS.sig.ps) : laws_toWindowS.F k x = runF (laws_toWindowS.ctx k) laws_toWindowS.sig Try.f126 (Try.f126.body.getD .skip) (laws_toWindowS.ann k) x := by kernel_rfl
theorem laws_toWindowS.obls (k : Nat) : obl (laws_toWindowS.ctx k) 1 (Try.f126.body.getD .skip) (laws_toWindowS.ann k) (retK tds laws_toWindowS.sig Try.f126.results.toList) := ⟨trivial, ⟨trivial, ⟨⟨trivial, ⟨⟨by kernel_rfl, fun x => by kernel_rfl⟩, fun n => ⟨fun x => by kernel_rfl, ⟨⟨trivial, ⟨trivial, trivial⟩⟩, ⟨trivial, trivial⟩⟩⟩⟩⟩, ⟨trivial, trivial⟩⟩⟩⟩
theorem laws_toWindowS.ok (k : Nat) : EntOk Try.prog k laws_toWindowS.ent := fn_ok (C := laws_toWindowS.ctx k) Try.func126 (by kernel_rfl) (by kernel_rfl) mixed tdsOk (.cons (laws_toWindow.ok k) EntsOk.nil) (by kernel_rfl) (Nat.le_of_ble_eq_true (by kernel_rfl)) (by kernel_rfl) (laws_toWindowS.runs k) (laws_toWindowS.obls k)
/-! loop.example/g00200/laws.toPort -/
def laws_toPort.f (k : Nat) (a0 : Int × Int × Int × Int × Int) : Option (Int × Int × Int × Int × Int) :=
  some a0
def laws_toPort.sig : Sig := ⟨[.val true (.pair (.int .i64) (.pair (.int .i64) (.pair (.int .i64) (.pair (.int .i64) (.int .i64))))) []], [.val true (.pair (.int .i64) (.pair (.int .i64) (.pair (.int .i64) (.pair (.int .i64) (.int .i64))))) []]⟩
def laws_toPort.F (k : Nat) (x : Args laws_toPort.sig.ps) : Option (Res laws_toPort.sig) := laws_toPort.f k x.1
def laws_toPort.ann (k : Nat) : Ann (Res laws_toPort.sig) := .nil
def laws_toPort.ent : Ent := ⟨174, laws_toPort.sig, laws_toPort.F⟩
def laws_toPort.ctx (k : Nat) : Ctx := ⟨tds, [], k, 20⟩
theorem laws_toPort.runs (k : Nat) (x : Args laws_toPort.sig.ps) : laws_toPort.F k x = runF (laws_toPort.ctx k) laws_toPort.sig Try.f174 (Try.f174.body.getD .skip) (laws_toPort.ann k) x := by kernel_rfl
theorem laws_toPort.obls (k : Nat) : obl (laws_toPort.ctx k) 0 (Try.f174.body.getD .skip) (laws_toPort.ann k) (retK tds laws_toPort.sig Try.f174.results.toList) := ⟨trivial, ⟨trivial, ⟨trivial, ⟨trivial, ⟨trivial, ⟨trivial, ⟨trivial, ⟨trivial, trivial⟩⟩⟩⟩⟩⟩⟩⟩
theorem laws_toPort.ok (k : Nat) : EntOk Try.prog k laws_toPort.ent := fn_ok (C := laws_toPort.ctx k) Try.func174 (by kernel_rfl) (by kernel_rfl) mixed tdsOk EntsOk.nil (by kernel_rfl) (Nat.le_of_ble_eq_true (by kernel_rfl)) (by kernel_rfl) (laws_toPort.runs k) (laws_toPort.obls k)
/-! loop.example/g00200/laws.toPortS -/
def laws_toPortS.l1 (k : Nat)  : Nat → Int × (List (Int × Int × Int × Int × Int)) × (List (Int × Int × Int × Int × Int)) × Unit → Option (List (Int × Int × Int × Int × Int))
  | 0, _ => none
  | n + 1, (x1, x2, x3, _) => if x1 < (x2.length : Int) then (if 0 ≤ x1 then (if x1 < (x2.length : Int) then ((laws_toPort.f k ((el (.pair (.int .i64) (.pair (.int .i64) (.pair (.int .i64) (.pair (.int .i64) (.int .i64))))) x2 x1.toNat).1, (((el (.pair (.int .i64) (.pair (.int .i64) (.pair (.int .i64) (.pair (.int .i64) (.int .i64))))) x2 x1.toNat).2).1, ((((el (.pair (.int .i64) (.pair (.int .i64) (.pair (.int .i64) (.pair (.int .i64) (.int .i64))))) x2 x1.toNat).2).2).1, ((((el (.pair (.int .i64) (.pair (.int .i64) (.pair (.int .i64) (.pair (.int .i64) (.int .i64))))) x2 x1.toNat).2).2).2))))).bind fun t2 => (if 0 ≤ x1 then (if x1 < (x3.length : Int) then (((some (x3.set x1.toNat t2))).bind fun y3 => (laws_toPortS.l1 k n (w64 (x1 + 1), x2, y3, ()))) else none) else none)) else none) else none) else (some x3)
def laws_toPortS.f (k : Nat) (a0 : List (Int × Int × Int × Int × Int)) : Option (List (Int × Int × Int × Int × Int)) :=
  if (a0.length : Int) = (a0.length : Int) then (if 0 ≤ (a0.length : Int) then (if ((a0.length : Int)).toNat * 40 ≤ 281474976710656 then (((some (List.replicate ((a0.length : Int)).toNat (0, (0, (0, (0, 0)))) : List (Int × Int × Int × Int × Int)))).bind fun y1 => (laws_toPortS.l1 k k (0, a0, y1, ()))) else none) else none) else none
def laws_toPortS.Sl1 : Shape := ⟨[(0, false, [.own 0]), (3, false, [.own 1]), (4, false, [.int .i64])], [(0, .view false 195 (.pair (.int .i64) (.pair (.int .i64) (.pair (.int .i64) (.pair (.int .i64) (.int .i64)))))), (1, .row 42 (.pair (.int .i64) (.pair (.int .i64) (.pair (.int .i64) (.pair (.int .i64) (.int .i64))))))], 2⟩
def laws_toPortS.sig : Sig := ⟨[.val false (.sl 195 (.pair (.int .i64) (.pair (.int .i64) (.pair (.int .i64) (.pair (.int .i64) (.int .i64)))))) [0]], [.val false (.sl 42 (.pair (.int .i64) (.pair (.int .i64) (.pair (.int .i64) (.pair (.int .i64) (.int .i64)))))) [none]]⟩
def laws_toPortS.F (k : Nat) (x : Args laws_toPortS.sig.ps) : Option (Res laws_toPortS.sig) := laws_toPortS.f k x.1
def laws_toPortS.ann (k : Nat) : Ann (Res laws_toPortS.sig) := (.seq .nil (.seq .nil (.seq (.seq .nil (.block (.loop laws_toPortS.Sl1 (laws_toPortS.l1 k) fun n1 => .nil))) .nil)))
def laws_toPortS.ent : Ent := ⟨127, laws_toPortS.sig, laws_toPortS.F⟩
def laws_toPortS.ctx (k : Nat) : Ctx := ⟨tds, [laws_toPort.ent], k, 23⟩
theorem laws_toPortS.runs (k : Nat) (x : Args laws_toPortS.sig.ps) : laws_toPortS.F k x = runF (laws_toPortS.ctx k) laws_toPortS.sig Try.f127 (Try.f127.body.getD .skip) (laws_toPortS.ann k) x := by kernel_rfl
theorem laws_toPortS.obls (k : Nat) : obl (laws_toPortS.ctx k) 1 (Try.f127.body.getD .skip) (laws_toPortS.ann k) (retK tds laws_toPortS.sig Try.f127.results.toList) := ⟨trivial, ⟨trivial, ⟨⟨trivial, ⟨⟨by kernel_rfl, fun x => by kernel_rfl⟩, fun n => ⟨fun x => by kernel_rfl, ⟨⟨trivial, ⟨trivial, trivial⟩⟩, ⟨trivial, trivial⟩⟩⟩⟩⟩, ⟨trivial, trivial⟩⟩⟩⟩
theorem laws_toPortS.ok (k : Nat) : EntOk Try.prog k laws_toPortS.ent := fn_ok (C := laws_toPortS.ctx k) Try.func127 (by kernel_rfl) (by kernel_rfl) mixed tdsOk (.cons (laws_toPort.ok k) EntsOk.nil) (by kernel_rfl) (Nat.le_of_ble_eq_true (by kernel_rfl)) (by kernel_rfl) (laws_toPortS.runs k) (laws_toPortS.obls k)
/-! loop.example/g00200/laws.toRule -/
def laws_toRule.f (k : Nat) (a0 : Int × Int × Int) : Option (Int × Int × Int) :=
  some a0
def laws_toRule.sig : Sig := ⟨[.val true (.pair (.int .i64) (.pair (.int .i64) (.int .i64))) []], [.val true (.pair (.int .i64) (.pair (.int .i64) (.int .i64))) []]⟩
def laws_toRule.F (k : Nat) (x : Args laws_toRule.sig.ps) : Option (Res laws_toRule.sig) := laws_toRule.f k x.1
def laws_toRule.ann (k : Nat) : Ann (Res laws_toRule.sig) := .nil
def laws_toRule.ent : Ent := ⟨175, laws_toRule.sig, laws_toRule.F⟩
def laws_toRule.ctx (k : Nat) : Ctx := ⟨tds, [], k, 14⟩
theorem laws_toRule.runs (k : Nat) (x : Args laws_toRule.sig.ps) : laws_toRule.F k x = runF (laws_toRule.ctx k) laws_toRule.sig Try.f175 (Try.f175.body.getD .skip) (laws_toRule.ann k) x := by kernel_rfl
theorem laws_toRule.obls (k : Nat) : obl (laws_toRule.ctx k) 0 (Try.f175.body.getD .skip) (laws_toRule.ann k) (retK tds laws_toRule.sig Try.f175.results.toList) := ⟨trivial, ⟨trivial, ⟨trivial, ⟨trivial, ⟨trivial, ⟨trivial, trivial⟩⟩⟩⟩⟩⟩
theorem laws_toRule.ok (k : Nat) : EntOk Try.prog k laws_toRule.ent := fn_ok (C := laws_toRule.ctx k) Try.func175 (by kernel_rfl) (by kernel_rfl) mixed tdsOk EntsOk.nil (by kernel_rfl) (Nat.le_of_ble_eq_true (by kernel_rfl)) (by kernel_rfl) (laws_toRule.runs k) (laws_toRule.obls k)
/-! loop.example/g00200/laws.toRuleS -/
def laws_toRuleS.l1 (k : Nat)  : Nat → Int × (List (Int × Int × Int)) × (List (Int × Int × Int)) × Unit → Option (List (Int × Int × Int))
  | 0, _ => none
  | n + 1, (x1, x2, x3, _) => if x1 < (x2.length : Int) then (if 0 ≤ x1 then (if x1 < (x2.length : Int) then ((laws_toRule.f k ((el (.pair (.int .i64) (.pair (.int .i64) (.int .i64))) x2 x1.toNat).1, ((el (.pair (.int .i64) (.pair (.int .i64) (.int .i64))) x2 x1.toNat).2))).bind fun t2 => (if 0 ≤ x1 then (if x1 < (x3.length : Int) then (((some (x3.set x1.toNat t2))).bind fun y3 => (laws_toRuleS.l1 k n (w64 (x1 + 1), x2, y3, ()))) else none) else none)) else none) else none) else (some x3)
def laws_toRuleS.f (k : Nat) (a0 : List (Int × Int × Int)) : Option (List (Int × Int × Int)) :=
  if (a0.length : Int) = (a0.length : Int) then (if 0 ≤ (a0.length : Int) then (if ((a0.length : Int)).toNat * 24 ≤ 281474976710656 then (((some (List.replicate ((a0.length : Int)).toNat (0, (0, 0)) : List (Int × Int × Int)))).bind fun y1 => (laws_toRuleS.l1 k k (0, a0, y1, ()))) else none) else none) else none
def laws_toRuleS.Sl1 : Shape := ⟨[(0, false, [.own 0]), (3, false, [.own 1]), (4, false, [.int .i64])], [(0, .view false 197 (.pair (.int .i64) (.pair (.int .i64) (.int .i64)))), (1, .row 40 (.pair (.int .i64) (.pair (.int .i64) (.int .i64))))], 2⟩
def laws_toRuleS.sig : Sig := ⟨[.val false (.sl 197 (.pair (.int .i64) (.pair (.int .i64) (.int .i64)))) [0]], [.val false (.sl 40 (.pair (.int .i64) (.pair (.int .i64) (.int .i64)))) [none]]⟩
def laws_toRuleS.F (k : Nat) (x : Args laws_toRuleS.sig.ps) : Option (Res laws_toRuleS.sig) := laws_toRuleS.f k x.1
def laws_toRuleS.ann (k : Nat) : Ann (Res laws_toRuleS.sig) := (.seq .nil (.seq .nil (.seq (.seq .nil (.block (.loop laws_toRuleS.Sl1 (laws_toRuleS.l1 k) fun n1 => .nil))) .nil)))
def laws_toRuleS.ent : Ent := ⟨128, laws_toRuleS.sig, laws_toRuleS.F⟩
def laws_toRuleS.ctx (k : Nat) : Ctx := ⟨tds, [laws_toRule.ent], k, 23⟩
theorem laws_toRuleS.runs (k : Nat) (x : Args laws_toRuleS.sig.ps) : laws_toRuleS.F k x = runF (laws_toRuleS.ctx k) laws_toRuleS.sig Try.f128 (Try.f128.body.getD .skip) (laws_toRuleS.ann k) x := by kernel_rfl
theorem laws_toRuleS.obls (k : Nat) : obl (laws_toRuleS.ctx k) 1 (Try.f128.body.getD .skip) (laws_toRuleS.ann k) (retK tds laws_toRuleS.sig Try.f128.results.toList) := ⟨trivial, ⟨trivial, ⟨⟨trivial, ⟨⟨by kernel_rfl, fun x => by kernel_rfl⟩, fun n => ⟨fun x => by kernel_rfl, ⟨⟨trivial, ⟨trivial, trivial⟩⟩, ⟨trivial, trivial⟩⟩⟩⟩⟩, ⟨trivial, trivial⟩⟩⟩⟩
theorem laws_toRuleS.ok (k : Nat) : EntOk Try.prog k laws_toRuleS.ent := fn_ok (C := laws_toRuleS.ctx k) Try.func128 (by kernel_rfl) (by kernel_rfl) mixed tdsOk (.cons (laws_toRule.ok k) EntsOk.nil) (by kernel_rfl) (Nat.le_of_ble_eq_true (by kernel_rfl)) (by kernel_rfl) (laws_toRuleS.runs k) (laws_toRuleS.obls k)
/-! loop.example/g00200/laws.toStringS -/
def laws_toStringS.l1 (k : Nat)  : Nat → Int × List ByteArray × List ByteArray × Unit → Option (List ByteArray)
  | 0, _ => none
  | n + 1, (x1, x2, x3, _) => if x1 < (x2.length : Int) then (if 0 ≤ x1 then (if x1 < (x2.length : Int) then (if 0 ≤ x1 then (if x1 < (x3.length : Int) then (((some (x3.set x1.toNat (el .str x2 x1.toNat)))).bind fun y2 => (laws_toStringS.l1 k n (w64 (x1 + 1), x2, y2, ()))) else none) else none) else none) else none) else (some x3)
def laws_toStringS.f (k : Nat) (a0 : List ByteArray) : Option (List ByteArray) :=
  if (a0.length : Int) = (a0.length : Int) then (if 0 ≤ (a0.length : Int) then (if ((a0.length : Int)).toNat * 16 ≤ 281474976710656 then (((some (List.replicate ((a0.length : Int)).toNat (⟨#[]⟩ : ByteArray) : List ByteArray))).bind fun y1 => (laws_toStringS.l1 k k (0, a0, y1, ()))) else none) else none) else none
def laws_toStringS.Sl1 : Shape := ⟨[(0, false, [.own 0]), (3, false, [.own 1]), (4, false, [.int .i64])], [(0, .view false 9 .str), (1, .row 9 .str)], 2⟩
def laws_toStringS.sig : Sig := ⟨[.val false (.sl 9 .str) [0]], [.val false (.sl 9 .str) [none]]⟩
def laws_toStringS.F (k : Nat) (x : Args laws_toStringS.sig.ps) : Option (Res laws_toStringS.sig) := laws_toStringS.f k x.1
def laws_toStringS.ann (k : Nat) : Ann (Res laws_toStringS.sig) := (.seq .nil (.seq .nil (.seq (.seq .nil (.block (.loop laws_toStringS.Sl1 (laws_toStringS.l1 k) fun n1 => .nil))) .nil)))
def laws_toStringS.ent : Ent := ⟨129, laws_toStringS.sig, laws_toStringS.F⟩
def laws_toStringS.ctx (k : Nat) : Ctx := ⟨tds, [], k, 22⟩
theorem laws_toStringS.runs (k : Nat) (x : Args laws_toStringS.sig.ps) : laws_toStringS.F k x = runF (laws_toStringS.ctx k) laws_toStringS.sig Try.f129 (Try.f129.body.getD .skip) (laws_toStringS.ann k) x := by kernel_rfl
theorem laws_toStringS.obls (k : Nat) : obl (laws_toStringS.ctx k) 1 (Try.f129.body.getD .skip) (laws_toStringS.ann k) (retK tds laws_toStringS.sig Try.f129.results.toList) := ⟨trivial, ⟨trivial, ⟨⟨trivial, ⟨⟨by kernel_rfl, fun x => by kernel_rfl⟩, fun n => ⟨fun x => by kernel_rfl, ⟨⟨trivial, ⟨trivial, trivial⟩⟩, ⟨trivial, trivial⟩⟩⟩⟩⟩, ⟨trivial, trivial⟩⟩⟩⟩
theorem laws_toStringS.ok (k : Nat) : EntOk Try.prog k laws_toStringS.ent := fn_ok (C := laws_toStringS.ctx k) Try.func129 (by kernel_rfl) (by kernel_rfl) mixed tdsOk EntsOk.nil (by kernel_rfl) (Nat.le_of_ble_eq_true (by kernel_rfl)) (by kernel_rfl) (laws_toStringS.runs k) (laws_toStringS.obls k)
/-! loop.example/g00200/laws.toSetup -/
def laws_toSetup.f (k : Nat) (a0 : List (Int × Int) × List (Int × Int) × List (Int × Int × Int × Int × Int) × List (Int × Int × Int) × List ByteArray) : Option (List (Int × Int) × List (Int × Int) × List (Int × Int × Int × Int × Int) × List (Int × Int × Int) × List ByteArray) :=
  (laws_toRegionS.f k a0.1).bind fun t1 => ((laws_toWindowS.f k a0.2.1).bind fun t2 => ((laws_toPortS.f k a0.2.2.1).bind fun t3 => ((laws_toRuleS.f k a0.2.2.2.1).bind fun t4 => ((laws_toStringS.f k a0.2.2.2.2).bind fun t5 => (some (t1, (t2, (t3, (t4, t5)))))))))
def laws_toSetup.sig : Sig := ⟨[.val true (.pair (.sl 74 (.pair (.int .i64) (.int .i64))) (.pair (.sl 193 (.pair (.int .i64) (.int .i64))) (.pair (.sl 195 (.pair (.int .i64) (.pair (.int .i64) (.pair (.int .i64) (.pair (.int .i64) (.int .i64)))))) (.pair (.sl 197 (.pair (.int .i64) (.pair (.int .i64) (.int .i64)))) (.sl 9 .str))))) [0, 0, 0, 0, 0]], [.val true (.pair (.sl 53 (.pair (.int .i64) (.int .i64))) (.pair (.sl 35 (.pair (.int .i64) (.int .i64))) (.pair (.sl 42 (.pair (.int .i64) (.pair (.int .i64) (.pair (.int .i64) (.pair (.int .i64) (.int .i64)))))) (.pair (.sl 40 (.pair (.int .i64) (.pair (.int .i64) (.int .i64)))) (.sl 9 .str))))) [none, none, none, none, none]]⟩
def laws_toSetup.F (k : Nat) (x : Args laws_toSetup.sig.ps) : Option (Res laws_toSetup.sig) := laws_toSetup.f k x.1
def laws_toSetup.ann (k : Nat) : Ann (Res laws_toSetup.sig) := .nil
def laws_toSetup.ent : Ent := ⟨53, laws_toSetup.sig, laws_toSetup.F⟩
def laws_toSetup.ctx (k : Nat) : Ctx := ⟨tds, [laws_toRegionS.ent, laws_toWindowS.ent, laws_toPortS.ent, laws_toRuleS.ent, laws_toStringS.ent], k, 25⟩
theorem laws_toSetup.runs (k : Nat) (x : Args laws_toSetup.sig.ps) : laws_toSetup.F k x = runF (laws_toSetup.ctx k) laws_toSetup.sig Try.f53 (Try.f53.body.getD .skip) (laws_toSetup.ann k) x := by kernel_rfl
theorem laws_toSetup.obls (k : Nat) : obl (laws_toSetup.ctx k) 5 (Try.f53.body.getD .skip) (laws_toSetup.ann k) (retK tds laws_toSetup.sig Try.f53.results.toList) := ⟨trivial, ⟨trivial, ⟨trivial, ⟨trivial, ⟨trivial, ⟨trivial, ⟨trivial, ⟨trivial, trivial⟩⟩⟩⟩⟩⟩⟩⟩
theorem laws_toSetup.ok (k : Nat) : EntOk Try.prog k laws_toSetup.ent := fn_ok (C := laws_toSetup.ctx k) Try.func53 (by kernel_rfl) (by kernel_rfl) mixed tdsOk (.cons (laws_toRegionS.ok k) (.cons (laws_toWindowS.ok k) (.cons (laws_toPortS.ok k) (.cons (laws_toRuleS.ok k) (.cons (laws_toStringS.ok k) EntsOk.nil))))) (by kernel_rfl) (Nat.le_of_ble_eq_true (by kernel_rfl)) (by kernel_rfl) (laws_toSetup.runs k) (laws_toSetup.obls k)
/-! loop.example/g00200/spec.RegionsOk -/
def spec_RegionsOk.l2 (k : Nat) (c0 : Int × (List (Int × Int)) × Unit → Option (Bool)) : Nat → Int × Int × Int × Int × (List (Int × Int)) × Unit → Option (Bool)
  | 0, _ => none
  | n + 1, (x1, x2, x3, x4, x5, _) => if x2 < x1 then (if 0 ≤ x2 then (if x2 < (x5.length : Int) then (if 0 ≤ x2 then (if x2 < (x5.length : Int) then (if x3 < (w64 (((el (.pair (.int .i64) (.int .i64)) x5 x2.toNat).1) + ((el (.pair (.int .i64) (.int .i64)) x5 x2.toNat).2))) then (if 0 ≤ x2 then (if x2 < (x5.length : Int) then (if ((el (.pair (.int .i64) (.int .i64)) x5 x2.toNat).1) < (w64 (x3 + x4)) then (some false) else (spec_RegionsOk.l2 k c0 n (x1, w64 (x2 + 1), x3, x4, x5, ()))) else none) else none) else (spec_RegionsOk.l2 k c0 n (x1, w64 (x2 + 1), x3, x4, x5, ()))) else none) else none) else none) else none) else (c0 (w64 (x1 + 1), x5, ()))
def spec_RegionsOk.l1 (k : Nat)  : Nat → Int × (List (Int × Int)) × Unit → Option (Bool)
  | 0, _ => none
  | n + 1, (x1, x2, _) => if x1 < (x2.length : Int) then (if 0 ≤ x1 then (if x1 < (x2.length : Int) then ((spec_l01In.f k ((el (.pair (.int .i64) (.int .i64)) x2 x1.toNat).1) 0 63).bind fun t1 => (if ¬ t1 = true then (some false) else ((spec_l01In.f k ((el (.pair (.int .i64) (.int .i64)) x2 x1.toNat).2) 1 (w64 (64 - ((el (.pair (.int .i64) (.int .i64)) x2 x1.toNat).1)))).bind fun t2 => (if ¬ t2 = true then (some false) else (spec_RegionsOk.l2 k (spec_RegionsOk.l1 k n) k (x1, 0, (el (.pair (.int .i64) (.int .i64)) x2 x1.toNat).1, (el (.pair (.int .i64) (.int .i64)) x2 x1.toNat).2, x2, ())))))) else none) else none) else ((spec_l01In.f k (x2.length : Int) 1 4).bind fun t3 => (some t3))
def spec_RegionsOk.f (k : Nat) (a0 : List (Int × Int)) : Option (Bool) :=
  spec_RegionsOk.l1 k k (0, a0, ())
def spec_RegionsOk.Sl1 : Shape := ⟨[(0, false, [.own 0]), (3, false, [.int .i64])], [(0, .view false 53 (.pair (.int .i64) (.int .i64)))], 1⟩
def spec_RegionsOk.Sl2 : Shape := ⟨[(0, false, [.own 0]), (3, false, [.int .i64]), (4, false, [.ptr 1 0]), (5, false, [.int .i64])], [(1, .blk 53 [.int .i64, .int .i64]), (0, .view false 53 (.pair (.int .i64) (.int .i64)))], 2⟩
def spec_RegionsOk.sig : Sig := ⟨[.val false (.sl 53 (.pair (.int .i64) (.int .i64))) [0]], [.val false .bool []]⟩
def spec_RegionsOk.F (k : Nat) (x : Args spec_RegionsOk.sig.ps) : Option (Res spec_RegionsOk.sig) := spec_RegionsOk.f k x.1
def spec_RegionsOk.ann (k : Nat) : Ann (Res spec_RegionsOk.sig) := (.seq .nil (.seq (.seq .nil (.block (.loop spec_RegionsOk.Sl1 (spec_RegionsOk.l1 k) fun n1 => (.seq .nil (.seq (.block (.seq .nil (.seq .nil (.seq .nil (.block (.loop spec_RegionsOk.Sl2 (spec_RegionsOk.l2 k (spec_RegionsOk.l1 k n1)) fun n2 => .nil)))))) .nil))))) .nil))
def spec_RegionsOk.ent : Ent := ⟨119, spec_RegionsOk.sig, spec_RegionsOk.F⟩
def spec_RegionsOk.ctx (k : Nat) : Ctx := ⟨tds, [spec_l01In.ent], k, 64⟩
theorem spec_RegionsOk.runs (k : Nat) (x : Args spec_RegionsOk.sig.ps) : spec_RegionsOk.F k x = runF (spec_RegionsOk.ctx k) spec_RegionsOk.sig Try.f119 (Try.f119.body.getD .skip) (spec_RegionsOk.ann k) x := by kernel_rfl
theorem spec_RegionsOk.obls (k : Nat) : obl (spec_RegionsOk.ctx k) 1 (Try.f119.body.getD .skip) (spec_RegionsOk.ann k) (retK tds spec_RegionsOk.sig Try.f119.results.toList) := ⟨trivial, ⟨⟨trivial, ⟨⟨by kernel_rfl, fun x => by kernel_rfl⟩, fun n => ⟨fun x => by kernel_rfl, ⟨⟨trivial, ⟨trivial, trivial⟩⟩, ⟨⟨trivial, ⟨⟨trivial, ⟨⟨trivial, trivial⟩, trivial⟩⟩, ⟨trivial, ⟨⟨by kernel_rfl, fun x => by kernel_rfl⟩, fun n => ⟨fun x => by kernel_rfl, ⟨⟨trivial, ⟨trivial, trivial⟩⟩, ⟨⟨trivial, ⟨⟨trivial, trivial⟩, trivial⟩⟩, trivial⟩⟩⟩⟩⟩⟩⟩, trivial⟩⟩⟩⟩⟩, ⟨trivial, trivial⟩⟩⟩
theorem spec_RegionsOk.ok (k : Nat) : EntOk Try.prog k spec_RegionsOk.ent := fn_ok (C := spec_RegionsOk.ctx k) Try.func119 (by kernel_rfl) (by kernel_rfl) mixed tdsOk (.cons (spec_l01In.ok k) EntsOk.nil) (by kernel_rfl) (Nat.le_of_ble_eq_true (by kernel_rfl)) (by kernel_rfl) (spec_RegionsOk.runs k) (spec_RegionsOk.obls k)
/-! loop.example/g00200/spec.PlanOk -/
def spec_PlanOk.l1 (k : Nat)  : Nat → Int × (List (Int × Int)) × Unit → Option (Bool)
  | 0, _ => none
  | n + 1, (x1, x2, _) => if x1 < (x2.length : Int) then (if 0 ≤ x1 then (if x1 < (x2.length : Int) then ((spec_l01In.f k ((el (.pair (.int .i64) (.int .i64)) x2 x1.toNat).1) 1 4).bind fun t1 => (if ¬ t1 = true then (some false) else (if 0 ≤ x1 then (if x1 < (x2.length : Int) then ((spec_l01In.f k ((el (.pair (.int .i64) (.int .i64)) x2 x1.toNat).2) 1 200).bind fun t2 => (if ¬ t2 = true then (some false) else (spec_PlanOk.l1 k n (w64 (x1 + 1), x2, ())))) else none) else none))) else none) else none) else ((spec_l01In.f k (x2.length : Int) 1 12).bind fun t3 => (some t3))
def spec_PlanOk.f (k : Nat) (a0 : List (Int × Int)) : Option (Bool) :=
  spec_PlanOk.l1 k k (0, a0, ())
def spec_PlanOk.Sl1 : Shape := ⟨[(0, false, [.own 0]), (3, false, [.int .i64])], [(0, .view false 35 (.pair (.int .i64) (.int .i64)))], 1⟩
def spec_PlanOk.sig : Sig := ⟨[.val false (.sl 35 (.pair (.int .i64) (.int .i64))) [0]], [.val false .bool []]⟩
def spec_PlanOk.F (k : Nat) (x : Args spec_PlanOk.sig.ps) : Option (Res spec_PlanOk.sig) := spec_PlanOk.f k x.1
def spec_PlanOk.ann (k : Nat) : Ann (Res spec_PlanOk.sig) := (.seq .nil (.seq (.seq .nil (.block (.loop spec_PlanOk.Sl1 (spec_PlanOk.l1 k) fun n1 => .nil))) .nil))
def spec_PlanOk.ent : Ent := ⟨120, spec_PlanOk.sig, spec_PlanOk.F⟩
def spec_PlanOk.ctx (k : Nat) : Ctx := ⟨tds, [spec_l01In.ent], k, 29⟩
theorem spec_PlanOk.runs (k : Nat) (x : Args spec_PlanOk.sig.ps) : spec_PlanOk.F k x = runF (spec_PlanOk.ctx k) spec_PlanOk.sig Try.f120 (Try.f120.body.getD .skip) (spec_PlanOk.ann k) x := by kernel_rfl
theorem spec_PlanOk.obls (k : Nat) : obl (spec_PlanOk.ctx k) 1 (Try.f120.body.getD .skip) (spec_PlanOk.ann k) (retK tds spec_PlanOk.sig Try.f120.results.toList) := ⟨trivial, ⟨⟨trivial, ⟨⟨by kernel_rfl, fun x => by kernel_rfl⟩, fun n => ⟨fun x => by kernel_rfl, ⟨⟨trivial, ⟨trivial, trivial⟩⟩, ⟨⟨trivial, ⟨⟨trivial, trivial⟩, trivial⟩⟩, trivial⟩⟩⟩⟩⟩, ⟨trivial, trivial⟩⟩⟩
theorem spec_PlanOk.ok (k : Nat) : EntOk Try.prog k spec_PlanOk.ent := fn_ok (C := spec_PlanOk.ctx k) Try.func120 (by kernel_rfl) (by kernel_rfl) mixed tdsOk (.cons (spec_l01In.ok k) EntsOk.nil) (by kernel_rfl) (Nat.le_of_ble_eq_true (by kernel_rfl)) (by kernel_rfl) (spec_PlanOk.runs k) (spec_PlanOk.obls k)
/-! loop.example/g00200/spec.PortOk -/
def spec_PortOk.f (k : Nat) (a0 : Int × Int × Int × Int × Int) : Option (Bool) :=
  (spec_l01In.f k a0.2.1 1 4).bind fun t1 => (if ¬ t1 = true then (some false) else ((spec_l01In.f k a0.2.2.1 1 4).bind fun t2 => (if ¬ t2 = true then (some false) else (if a0.2.1 = a0.2.2.1 then (some false) else (if a0.1 = 1 then ((spec_l01In.f k a0.2.2.2.1 1 6).bind fun t3 => (if t3 = true then (some (decide (a0.2.2.2.2 = 0))) else (some false))) else (if a0.1 = 2 then (if a0.2.2.2.1 = 1 then ((spec_l01In.f k a0.2.2.2.2 1 100).bind fun t4 => (some t4)) else (some false)) else (some false)))))))
def spec_PortOk.sig : Sig := ⟨[.val true (.pair (.int .i64) (.pair (.int .i64) (.pair (.int .i64) (.pair (.int .i64) (.int .i64))))) []], [.val false .bool []]⟩
def spec_PortOk.F (k : Nat) (x : Args spec_PortOk.sig.ps) : Option (Res spec_PortOk.sig) := spec_PortOk.f k x.1
def spec_PortOk.ann (k : Nat) : Ann (Res spec_PortOk.sig) := .nil
def spec_PortOk.ent : Ent := ⟨121, spec_PortOk.sig, spec_PortOk.F⟩
def spec_PortOk.ctx (k : Nat) : Ctx := ⟨tds, [spec_l01In.ent], k, 44⟩
theorem spec_PortOk.runs (k : Nat) (x : Args spec_PortOk.sig.ps) : spec_PortOk.F k x = runF (spec_PortOk.ctx k) spec_PortOk.sig Try.f121 (Try.f121.body.getD .skip) (spec_PortOk.ann k) x := by kernel_rfl
theorem spec_PortOk.obls (k : Nat) : obl (spec_PortOk.ctx k) 0 (Try.f121.body.getD .skip) (spec_PortOk.ann k) (retK tds spec_PortOk.sig Try.f121.results.toList) := ⟨trivial, ⟨⟨trivial, ⟨⟨trivial, trivial⟩, trivial⟩⟩, ⟨⟨trivial, ⟨⟨trivial, trivial⟩, trivial⟩⟩, ⟨trivial, trivial⟩⟩⟩⟩
theorem spec_PortOk.ok (k : Nat) : EntOk Try.prog k spec_PortOk.ent := fn_ok (C := spec_PortOk.ctx k) Try.func121 (by kernel_rfl) (by kernel_rfl) mixed tdsOk (.cons (spec_l01In.ok k) EntsOk.nil) (by kernel_rfl) (Nat.le_of_ble_eq_true (by kernel_rfl)) (by kernel_rfl) (spec_PortOk.runs k) (spec_PortOk.obls k)
/-! loop.example/g00200/spec.ReadCode -/
def spec_ReadCode.l1 (k : Nat)  : Nat → ByteArray × Int × (List (Int × Int)) × Unit → Option ((List (Int × Int)) × Bool)
  | 0, _ => none
  | n + 1, (x1, x2, x3, _) => if x2 < (x1.size : Int) then (if 0 ≤ x2 then (if x2 < (x1.size : Int) then (if 0 ≤ w64 (x2 + 1) then (if w64 (x2 + 1) < (x1.size : Int) then (((some ([(w64 (bt x1 x2), w64 (bt x1 (w64 (x2 + 1))))] : List (Int × Int)))).bind fun y2 => (if (x3.length + y2.length) * 16 ≤ 140737488355328 then (((some (x3 ++ y2))).bind fun y3 => (spec_ReadCode.l1 k n (x1, w64 (x2 + 2), y3, ()))) else none)) else none) else none) else none) else none) else (some (x3, true))
def spec_ReadCode.f (k : Nat) (a0 : ByteArray) : Option ((List (Int × Int)) × Bool) :=
  ((some ([] : List (Int × Int)))).bind fun y1 => (if ¬ (Int.tmod (a0.size : Int) 2) = 0 then (some (y1, false)) else (if 120 < (a0.size : Int) then (some (y1, false)) else (spec_ReadCode.l1 k k (a0, 0, y1, ()))))
def spec_ReadCode.Sl1 : Shape := ⟨[(0, false, [.str]), (4, false, [.own 0]), (5, false, [.int .i64])], [(0, .row 46 (.pair (.int .i64) (.int .i64)))], 1⟩
def spec_ReadCode.sig : Sig := ⟨[.val false .str []], [.val false (.sl 46 (.pair (.int .i64) (.int .i64))) [none], .val false .bool []]⟩
def spec_ReadCode.F (k : Nat) (x : Args spec_ReadCode.sig.ps) : Option (Res spec_ReadCode.sig) := spec_ReadCode.f k x.1
def spec_ReadCode.ann (k : Nat) : Ann (Res spec_ReadCode.sig) := (.seq .nil (.seq .nil (.seq .nil (.seq (.seq .nil (.block (.loop spec_ReadCode.Sl1 (spec_ReadCode.l1 k) fun n1 => .nil))) .nil))))
def spec_ReadCode.ent : Ent := ⟨123, spec_ReadCode.sig, spec_ReadCode.F⟩
def spec_ReadCode.ctx (k : Nat) : Ctx := ⟨tds, [], k, 37⟩
theorem spec_ReadCode.runs (k : Nat) (x : Args spec_ReadCode.sig.ps) : spec_ReadCode.F k x = runF (spec_ReadCode.ctx k) spec_ReadCode.sig Try.f123 (Try.f123.body.getD .skip) (spec_ReadCode.ann k) x := by kernel_rfl
theorem spec_ReadCode.obls (k : Nat) : obl (spec_ReadCode.ctx k) 0 (Try.f123.body.getD .skip) (spec_ReadCode.ann k) (retK tds spec_ReadCode.sig Try.f123.results.toList) := ⟨trivial, ⟨trivial, ⟨⟨trivial, ⟨⟨trivial, trivial⟩, trivial⟩⟩, ⟨⟨trivial, ⟨⟨by kernel_rfl, fun x => by kernel_rfl⟩, fun n => ⟨fun x => by kernel_rfl, ⟨⟨trivial, ⟨trivial, trivial⟩⟩, ⟨trivial, trivial⟩⟩⟩⟩⟩, ⟨trivial, trivial⟩⟩⟩⟩⟩
theorem spec_ReadCode.ok (k : Nat) : EntOk Try.prog k spec_ReadCode.ent := fn_ok (C := spec_ReadCode.ctx k) Try.func123 (by kernel_rfl) (by kernel_rfl) mixed tdsOk EntsOk.nil (by kernel_rfl) (Nat.le_of_ble_eq_true (by kernel_rfl)) (by kernel_rfl) (spec_ReadCode.runs k) (spec_ReadCode.obls k)
/-! loop.example/g00200/spec.l11Parts -/
def spec_l11Parts.l3 (k : Nat)  : Nat → Int × Int × (List (Int × Int)) × (List (Int × Int)) × (List (Int × Int × Int × Int × Int)) × (List (Int × Int × Int)) × List ByteArray × Unit → Option (Int)
  | 0, _ => none
  | n + 1, (x1, x2, x3, x4, x5, x6, x7, _) => if x2 < (x6.length : Int) then (if 0 ≤ x2 then (if x2 < (x6.length : Int) then (if x1 < ((el (.pair (.int .i64) (.pair (.int .i64) (.int .i64))) x6 x2.toNat).1) then (some 6) else (spec_l11Parts.l3 k n (x1, w64 (x2 + 1), x3, x4, x5, x6, x7, ()))) else none) else none) else (some 0)
def spec_l11Parts.l2 (k : Nat)  : Nat → Int × Int × (List (Int × Int)) × (List (Int × Int)) × (List (Int × Int × Int × Int × Int)) × (List (Int × Int × Int)) × List ByteArray × Unit → Option (Int)
  | 0, _ => none
  | n + 1, (x1, x2, x3, x4, x5, x6, x7, _) => if x2 < (x5.length : Int) then (if 0 ≤ x2 then (if x2 < (x5.length : Int) then (if x1 < (((el (.pair (.int .i64) (.pair (.int .i64) (.pair (.int .i64) (.pair (.int .i64) (.int .i64))))) x5 x2.toNat).2).1) then (some 6) else (if 0 ≤ x2 then (if x2 < (x5.length : Int) then (if x1 < ((((el (.pair (.int .i64) (.pair (.int .i64) (.pair (.int .i64) (.pair (.int .i64) (.int .i64))))) x5 x2.toNat).2).2).1) then (some 6) else (spec_l11Parts.l2 k n (x1, w64 (x2 + 1), x3, x4, x5, x6, x7, ()))) else none) else none)) else none) else none) else (spec_l11Parts.l3 k k (x1, 0, x3, x4, x5, x6, x7, ()))
def spec_l11Parts.l1 (k : Nat)  : Nat → Int × Int × (List (Int × Int)) × (List (Int × Int)) × (List (Int × Int × Int × Int × Int)) × (List (Int × Int × Int)) × List ByteArray × Unit → Option (Int)
  | 0, _ => none
  | n + 1, (x1, x2, x3, x4, x5, x6, x7, _) => if x2 < (x4.length : Int) then (if 0 ≤ x2 then (if x2 < (x4.length : Int) then (if x1 < ((el (.pair (.int .i64) (.int .i64)) x4 x2.toNat).1) then (some 6) else (spec_l11Parts.l1 k n (x1, w64 (x2 + 1), x3, x4, x5, x6, x7, ()))) else none) else none) else (spec_l11Parts.l2 k k (x1, 0, x3, x4, x5, x6, x7, ()))
def spec_l11Parts.f (k : Nat) (a0 : List (Int × Int) × List (Int × Int) × List (Int × Int × Int × Int × Int) × List (Int × Int × Int) × List ByteArray) : Option (Int) :=
  spec_l11Parts.l1 k k ((a0.1.length : Int), 0, a0.1, a0.2.1, a0.2.2.1, a0.2.2.2.1, a0.2.2.2.2, ())
def spec_l11Parts.Sl1 : Shape := ⟨[(1, false, [.ptr 5 0]), (3, false, [.int .i64]), (4, false, [.int .i64])], [(5, .blk 30 [.own 0, .own 1, .own 2, .own 3, .own 4]), (0, .view false 53 (.pair (.int .i64) (.int .i64))), (1, .view false 35 (.pair (.int .i64) (.int .i64))), (2, .view false 42 (.pair (.int .i64) (.pair (.int .i64) (.pair (.int .i64) (.pair (.int .i64) (.int .i64)))))), (3, .view false 40 (.pair (.int .i64) (.pair (.int .i64) (.int .i64)))), (4, .view false 9 .str)], 6⟩
def spec_l11Parts.Sl2 : Shape := ⟨[(1, false, [.ptr 5 0]), (3, false, [.int .i64]), (5, false, [.int .i64])], [(5, .blk 30 [.own 0, .own 1, .own 2, .own 3, .own 4]), (0, .view false 53 (.pair (.int .i64) (.int .i64))), (1, .view false 35 (.pair (.int .i64) (.int .i64))), (2, .view false 42 (.pair (.int .i64) (.pair (.int .i64) (.pair (.int .i64) (.pair (.int .i64) (.int .i64)))))), (3, .view false 40 (.pair (.int .i64) (.pair (.int .i64) (.int .i64)))), (4, .view false 9 .str)], 6⟩
def spec_l11Parts.Sl3 : Shape := ⟨[(1, false, [.ptr 5 0]), (3, false, [.int .i64]), (6, false, [.int .i64])], [(5, .blk 30 [.own 0, .own 1, .own 2, .own 3, .own 4]), (0, .view false 53 (.pair (.int .i64) (.int .i64))), (1, .view false 35 (.pair (.int .i64) (.int .i64))), (2, .view false 42 (.pair (.int .i64) (.pair (.int .i64) (.pair (.int .i64) (.pair (.int .i64) (.int .i64)))))), (3, .view false 40 (.pair (.int .i64) (.pair (.int .i64) (.int .i64)))), (4, .view false 9 .str)], 6⟩
def spec_l11Parts.sig : Sig := ⟨[.val true (.pair (.sl 53 (.pair (.int .i64) (.int .i64))) (.pair (.sl 35 (.pair (.int .i64) (.int .i64))) (.pair (.sl 42 (.pair (.int .i64) (.pair (.int .i64) (.pair (.int .i64) (.pair (.int .i64) (.int .i64)))))) (.pair (.sl 40 (.pair (.int .i64) (.pair (.int .i64) (.int .i64)))) (.sl 9 .str))))) [0, 0, 0, 0, 0]], [.val false (.int .i64) []]⟩
def spec_l11Parts.F (k : Nat) (x : Args spec_l11Parts.sig.ps) : Option (Res spec_l11Parts.sig) := spec_l11Parts.f k x.1
def spec_l11Parts.ann (k : Nat) : Ann (Res spec_l11Parts.sig) := (.seq .nil (.seq .nil (.seq (.seq .nil (.block (.loop spec_l11Parts.Sl1 (spec_l11Parts.l1 k) fun n1 => .nil))) (.seq (.seq .nil (.block (.loop spec_l11Parts.Sl2 (spec_l11Parts.l2 k) fun n1 => .nil))) (.seq (.seq .nil (.block (.loop spec_l11Parts.Sl3 (spec_l11Parts.l3 k) fun n1 => .nil))) .nil)))))
def spec_l11Parts.ent : Ent := ⟨124, spec_l11Parts.sig, spec_l11Parts.F⟩
def spec_l11Parts.ctx (k : Nat) : Ctx := ⟨tds, [], k, 65⟩
theorem spec_l11Parts.runs (k : Nat) (x : Args spec_l11Parts.sig.ps) : spec_l11Parts.F k x = runF (spec_l11Parts.ctx k) spec_l11Parts.sig Try.f124 (Try.f124.body.getD .skip) (spec_l11Parts.ann k) x := by kernel_rfl
theorem spec_l11Parts.obls (k : Nat) : obl (spec_l11Parts.ctx k) 5 (Try.f124.body.getD .skip) (spec_l11Parts.ann k) (retK tds spec_l11Parts.sig Try.f124.results.toList) := ⟨trivial, ⟨trivial, ⟨⟨trivial, ⟨⟨by kernel_rfl, fun x => by kernel_rfl⟩, fun n => ⟨fun x => by kernel_rfl, ⟨⟨trivial, ⟨trivial, trivial⟩⟩, ⟨⟨trivial, ⟨⟨trivial, trivial⟩, trivial⟩⟩, trivial⟩⟩⟩⟩⟩, ⟨⟨trivial, ⟨⟨by kernel_rfl, fun x => by kernel_rfl⟩, fun n => ⟨fun x => by kernel_rfl, ⟨⟨trivial, ⟨trivial, trivial⟩⟩, ⟨⟨trivial, ⟨⟨trivial, trivial⟩, trivial⟩⟩, trivial⟩⟩⟩⟩⟩, ⟨⟨trivial, ⟨⟨by kernel_rfl, fun x => by kernel_rfl⟩, fun n => ⟨fun x => by kernel_rfl, ⟨⟨trivial, ⟨trivial, trivial⟩⟩, ⟨⟨trivial, ⟨⟨trivial, trivial⟩, trivial⟩⟩, trivial⟩⟩⟩⟩⟩, ⟨trivial, trivial⟩⟩⟩⟩⟩⟩
theorem spec_l11Parts.ok (k : Nat) : EntOk Try.prog k spec_l11Parts.ent := fn_ok (C := spec_l11Parts.ctx k) Try.func124 (by kernel_rfl) (by kernel_rfl) mixed tdsOk EntsOk.nil (by kernel_rfl) (Nat.le_of_ble_eq_true (by kernel_rfl)) (by kernel_rfl) (spec_l11Parts.runs k) (spec_l11Parts.obls k)
/-! loop.example/g00200/spec.SetupFault -/
def spec_SetupFault.l2 (k : Nat)  : Nat → Int × (List (Int × Int)) × (List (Int × Int)) × (List (Int × Int × Int × Int × Int)) × (List (Int × Int × Int)) × List ByteArray × Unit → Option (Int)
  | 0, _ => none
  | n + 1, (x1, x2, x3, x4, x5, x6, _) => if x1 < (x6.length : Int) then (if 0 ≤ x1 then (if x1 < (x6.length : Int) then ((spec_ReadCode.f k (el .str x6 x1.toNat)).bind fun t5 => (if ¬ t5.2 = true then (some 5) else (spec_SetupFault.l2 k n (w64 (x1 + 1), x2, x3, x4, x5, x6, ())))) else none) else none) else ((spec_l11Parts.f k (x2, (x3, (x4, (x5, x6))))).bind fun t6 => (some t6))
def spec_SetupFault.l1 (k : Nat)  : Nat → Int × (List (Int × Int)) × (List (Int × Int)) × (List (Int × Int × Int × Int × Int)) × (List (Int × Int × Int)) × List ByteArray × Unit → Option (Int)
  | 0, _ => none
  | n + 1, (x1, x2, x3, x4, x5, x6, _) => if x1 < (x4.length : Int) then (if 0 ≤ x1 then (if x1 < (x4.length : Int) then ((spec_PortOk.f k ((el (.pair (.int .i64) (.pair (.int .i64) (.pair (.int .i64) (.pair (.int .i64) (.int .i64))))) x4 x1.toNat).1, (((el (.pair (.int .i64) (.pair (.int .i64) (.pair (.int .i64) (.pair (.int .i64) (.int .i64))))) x4 x1.toNat).2).1, ((((el (.pair (.int .i64) (.pair (.int .i64) (.pair (.int .i64) (.pair (.int .i64) (.int .i64))))) x4 x1.toNat).2).2).1, ((((el (.pair (.int .i64) (.pair (.int .i64) (.pair (.int .i64) (.pair (.int .i64) (.int .i64))))) x4 x1.toNat).2).2).2))))).bind fun t3 => (if ¬ t3 = true then (some 3) else (if 6 ≤ x1 then (some 3) else (spec_SetupFault.l1 k n (w64 (x1 + 1), x2, x3, x4, x5, x6, ()))))) else none) else none) else ((spec_RulesOk.f k x5).bind fun t4 => (if ¬ t4 = true then (some 4) else (if ¬ (x6.length : Int) = (x2.length : Int) then (some 5) else (spec_SetupFault.l2 k k (0, x2, x3, x4, x5, x6, ())))))
def spec_SetupFault.f (k : Nat) (a0 : List (Int × Int) × List (Int × Int) × List (Int × Int × Int × Int × Int) × List (Int × Int × Int) × List ByteArray) : Option (Int) :=
  (spec_RegionsOk.f k a0.1).bind fun t1 => (if ¬ t1 = true then (some 1) else ((spec_PlanOk.f k a0.2.1).bind fun t2 => (if ¬ t2 = true then (some 2) else (spec_SetupFault.l1 k k (0, a0.1, a0.2.1, a0.2.2.1, a0.2.2.2.1, a0.2.2.2.2, ())))))
def spec_SetupFault.Sl1 : Shape := ⟨[(1, false, [.ptr 5 0]), (3, false, [.int .i64])], [(5, .blk 30 [.own 0, .own 1, .own 2, .own 3, .own 4]), (0, .view false 53 (.pair (.int .i64) (.int .i64))), (1, .view false 35 (.pair (.int .i64) (.int .i64))), (2, .view false 42 (.pair (.int .i64) (.pair (.int .i64) (.pair (.int .i64) (.pair (.int .i64) (.int .i64)))))), (3, .view false 40 (.pair (.int .i64) (.pair (.int .i64) (.int .i64)))), (4, .view false 9 .str)], 6⟩
def spec_SetupFault.Sl2 : Shape := ⟨[(1, false, [.ptr 5 0]), (4, false, [.int .i64])], [(5, .blk 30 [.own 0, .own 1, .own 2, .own 3, .own 4]), (0, .view false 53 (.pair (.int .i64) (.int .i64))), (1, .view false 35 (.pair (.int .i64) (.int .i64))), (2, .view false 42 (.pair (.int .i64) (.pair (.int .i64) (.pair (.int .i64) (.pair (.int .i64) (.int .i64)))))), (3, .view false 40 (.pair (.int .i64) (.pair (.int .i64) (.int .i64)))), (4, .view false 9 .str)], 6⟩
def spec_SetupFault.sig : Sig := ⟨[.val true (.pair (.sl 53 (.pair (.int .i64) (.int .i64))) (.pair (.sl 35 (.pair (.int .i64) (.int .i64))) (.pair (.sl 42 (.pair (.int .i64) (.pair (.int .i64) (.pair (.int .i64) (.pair (.int .i64) (.int .i64)))))) (.pair (.sl 40 (.pair (.int .i64) (.pair (.int .i64) (.int .i64)))) (.sl 9 .str))))) [0, 0, 0, 0, 0]], [.val false (.int .i64) []]⟩
def spec_SetupFault.F (k : Nat) (x : Args spec_SetupFault.sig.ps) : Option (Res spec_SetupFault.sig) := spec_SetupFault.f k x.1
def spec_SetupFault.ann (k : Nat) : Ann (Res spec_SetupFault.sig) := (.seq .nil (.seq .nil (.seq .nil (.seq (.seq .nil (.block (.loop spec_SetupFault.Sl1 (spec_SetupFault.l1 k) fun n1 => .nil))) (.seq .nil (.seq .nil (.seq (.seq .nil (.block (.loop spec_SetupFault.Sl2 (spec_SetupFault.l2 k) fun n1 => .nil))) .nil)))))))
def spec_SetupFault.ent : Ent := ⟨52, spec_SetupFault.sig, spec_SetupFault.F⟩
def spec_SetupFault.ctx (k : Nat) : Ctx := ⟨tds, [spec_RegionsOk.ent, spec_PlanOk.ent, spec_PortOk.ent, spec_RulesOk.ent, spec_ReadCode.ent, spec_l11Parts.ent], k, 64⟩
theorem spec_SetupFault.runs (k : Nat) (x : Args spec_SetupFault.sig.ps) : spec_SetupFault.F k x = runF (spec_SetupFault.ctx k) spec_SetupFault.sig Try.f52 (Try.f52.body.getD .skip) (spec_SetupFault.ann k) x := by kernel_rfl
theorem spec_SetupFault.obls (k : Nat) : obl (spec_SetupFault.ctx k) 5 (Try.f52.body.getD .skip) (spec_SetupFault.ann k) (retK tds spec_SetupFault.sig Try.f52.results.toList) := ⟨trivial, ⟨⟨trivial, ⟨⟨trivial, trivial⟩, trivial⟩⟩, ⟨⟨trivial, ⟨⟨trivial, trivial⟩, trivial⟩⟩, ⟨⟨trivial, ⟨⟨by kernel_rfl, fun x => by kernel_rfl⟩, fun n => ⟨fun x => by kernel_rfl, ⟨⟨trivial, ⟨trivial, trivial⟩⟩, ⟨⟨trivial, ⟨⟨trivial, trivial⟩, trivial⟩⟩, trivial⟩⟩⟩⟩⟩, ⟨⟨trivial, ⟨⟨trivial, trivial⟩, trivial⟩⟩, ⟨⟨trivial, ⟨⟨trivial, trivial⟩, trivial⟩⟩, ⟨⟨trivial, ⟨⟨by kernel_rfl, fun x => by kernel_rfl⟩, fun n => ⟨fun x => by kernel_rfl, ⟨⟨trivial, ⟨trivial, trivial⟩⟩, ⟨⟨trivial, ⟨trivial, ⟨⟨trivial, trivial⟩, trivial⟩⟩⟩, trivial⟩⟩⟩⟩⟩, ⟨trivial, trivial⟩⟩⟩⟩⟩⟩⟩⟩
theorem spec_SetupFault.ok (k : Nat) : EntOk Try.prog k spec_SetupFault.ent := fn_ok (C := spec_SetupFault.ctx k) Try.func52 (by kernel_rfl) (by kernel_rfl) mixed tdsOk (.cons (spec_RegionsOk.ok k) (.cons (spec_PlanOk.ok k) (.cons (spec_PortOk.ok k) (.cons (spec_RulesOk.ok k) (.cons (spec_ReadCode.ok k) (.cons (spec_l11Parts.ok k) EntsOk.nil)))))) (by kernel_rfl) (Nat.le_of_ble_eq_true (by kernel_rfl)) (by kernel_rfl) (spec_SetupFault.runs k) (spec_SetupFault.obls k)
/-! loop.example/g00200/laws.eqRegion -/
def laws_eqRegion.f (k : Nat) (a0 : Int × Int) (a1 : Int × Int) : Option (Bool) :=
  if ¬ a0.1 = a1.1 then (some false) else (if ¬ a0.2 = a1.2 then (some false) else (some true))
def laws_eqRegion.sig : Sig := ⟨[.val true (.pair (.int .i64) (.int .i64)) [], .val true (.pair (.int .i64) (.int .i64)) []], [.val false .bool []]⟩
def laws_eqRegion.F (k : Nat) (x : Args laws_eqRegion.sig.ps) : Option (Res laws_eqRegion.sig) := laws_eqRegion.f k x.1 x.2.1
def laws_eqRegion.ann (k : Nat) : Ann (Res laws_eqRegion.sig) := .nil
def laws_eqRegion.ent : Ent := ⟨176, laws_eqRegion.sig, laws_eqRegion.F⟩
def laws_eqRegion.ctx (k : Nat) : Ctx := ⟨tds, [], k, 15⟩
theorem laws_eqRegion.runs (k : Nat) (x : Args laws_eqRegion.sig.ps) : laws_eqRegion.F k x = runF (laws_eqRegion.ctx k) laws_eqRegion.sig Try.f176 (Try.f176.body.getD .skip) (laws_eqRegion.ann k) x := by kernel_rfl
theorem laws_eqRegion.obls (k : Nat) : obl (laws_eqRegion.ctx k) 0 (Try.f176.body.getD .skip) (laws_eqRegion.ann k) (retK tds laws_eqRegion.sig Try.f176.results.toList) := ⟨trivial, ⟨⟨trivial, ⟨⟨trivial, trivial⟩, trivial⟩⟩, ⟨⟨trivial, ⟨⟨trivial, trivial⟩, trivial⟩⟩, ⟨trivial, trivial⟩⟩⟩⟩
theorem laws_eqRegion.ok (k : Nat) : EntOk Try.prog k laws_eqRegion.ent := fn_ok (C := laws_eqRegion.ctx k) Try.func176 (by kernel_rfl) (by kernel_rfl) mixed tdsOk EntsOk.nil (by kernel_rfl) (Nat.le_of_ble_eq_true (by kernel_rfl)) (by kernel_rfl) (laws_eqRegion.runs k) (laws_eqRegion.obls k)
/-! loop.example/g00200/laws.eqRegionS -/
def laws_eqRegionS.l1 (k : Nat)  : Nat → Int × (List (Int × Int)) × (List (Int × Int)) × Unit → Option (Bool)
  | 0, _ => none
  | n + 1, (x1, x2, x3, _) => if x1 < (x2.length : Int) then (if 0 ≤ x1 then (if x1 < (x2.length : Int) then (if 0 ≤ x1 then (if x1 < (x3.length : Int) then ((laws_eqRegion.f k (el (.pair (.int .i64) (.int .i64)) x2 x1.toNat) (el (.pair (.int .i64) (.int .i64)) x3 x1.toNat)).bind fun t1 => (if ¬ t1 = true then (some false) else (laws_eqRegionS.l1 k n (w64 (x1 + 1), x2, x3, ())))) else none) else none) else none) else none) else (some true)
def laws_eqRegionS.f (k : Nat) (a0 : List (Int × Int)) (a1 : List (Int × Int)) : Option (Bool) :=
  if ¬ (a0.length : Int) = (a1.length : Int) then (some false) else (laws_eqRegionS.l1 k k (0, a0, a1, ()))
def laws_eqRegionS.Sl1 : Shape := ⟨[(0, false, [.own 0]), (1, false, [.own 1]), (5, false, [.int .i64])], [(0, .view false 53 (.pair (.int .i64) (.int .i64))), (1, .view false 53 (.pair (.int .i64) (.int .i64)))], 2⟩
def laws_eqRegionS.sig : Sig := ⟨[.val false (.sl 53 (.pair (.int .i64) (.int .i64))) [0], .val false (.sl 53 (.pair (.int .i64) (.int .i64))) [0]], [.val false .bool []]⟩
def laws_eqRegionS.F (k : Nat) (x : Args laws_eqRegionS.sig.ps) : Option (Res laws_eqRegionS.sig) := laws_eqRegionS.f k x.1 x.2.1
def laws_eqRegionS.ann (k : Nat) : Ann (Res laws_eqRegionS.sig) := (.seq .nil (.seq .nil (.seq (.seq .nil (.block (.loop laws_eqRegionS.Sl1 (laws_eqRegionS.l1 k) fun n1 => .nil))) .nil)))
def laws_eqRegionS.ent : Ent := ⟨130, laws_eqRegionS.sig, laws_eqRegionS.F⟩
def laws_eqRegionS.ctx (k : Nat) : Ctx := ⟨tds, [laws_eqRegion.ent], k, 27⟩
theorem laws_eqRegionS.runs (k : Nat) (x : Args laws_eqRegionS.sig.ps) : laws_eqRegionS.F k x = runF (laws_eqRegionS.ctx k) laws_eqRegionS.sig Try.f130 (Try.f130.body.getD .skip) (laws_eqRegionS.ann k) x := by kernel_rfl
theorem laws_eqRegionS.obls (k : Nat) : obl (laws_eqRegionS.ctx k) 2 (Try.f130.body.getD .skip) (laws_eqRegionS.ann k) (retK tds laws_eqRegionS.sig Try.f130.results.toList) := ⟨trivial, ⟨⟨trivial, ⟨⟨trivial, trivial⟩, trivial⟩⟩, ⟨⟨trivial, ⟨⟨by kernel_rfl, fun x => by kernel_rfl⟩, fun n => ⟨fun x => by kernel_rfl, ⟨⟨trivial, ⟨trivial, trivial⟩⟩, ⟨⟨trivial, ⟨⟨trivial, trivial⟩, trivial⟩⟩, trivial⟩⟩⟩⟩⟩, ⟨trivial, trivial⟩⟩⟩⟩
theorem laws_eqRegionS.ok (k : Nat) : EntOk Try.prog k laws_eqRegionS.ent := fn_ok (C := laws_eqRegionS.ctx k) Try.func130 (by kernel_rfl) (by kernel_rfl) mixed tdsOk (.cons (laws_eqRegion.ok k) EntsOk.nil) (by kernel_rfl) (Nat.le_of_ble_eq_true (by kernel_rfl)) (by kernel_rfl) (laws_eqRegionS.runs k) (laws_eqRegionS.obls k)
/-! loop.example/g00200/laws.eqWindow -/
def laws_eqWindow.f (k : Nat) (a0 : Int × Int) (a1 : Int × Int) : Option (Bool) :=
  if ¬ a0.1 = a1.1 then (some false) else (if ¬ a0.2 = a1.2 then (some false) else (some true))
def laws_eqWindow.sig : Sig := ⟨[.val true (.pair (.int .i64) (.int .i64)) [], .val true (.pair (.int .i64) (.int .i64)) []], [.val false .bool []]⟩
def laws_eqWindow.F (k : Nat) (x : Args laws_eqWindow.sig.ps) : Option (Res laws_eqWindow.sig) := laws_eqWindow.f k x.1 x.2.1
def laws_eqWindow.ann (k : Nat) : Ann (Res laws_eqWindow.sig) := .nil
def laws_eqWindow.ent : Ent := ⟨177, laws_eqWindow.sig, laws_eqWindow.F⟩
def laws_eqWindow.ctx (k : Nat) : Ctx := ⟨tds, [], k, 15⟩
theorem laws_eqWindow.runs (k : Nat) (x : Args laws_eqWindow.sig.ps) : laws_eqWindow.F k x = runF (laws_eqWindow.ctx k) laws_eqWindow.sig Try.f177 (Try.f177.body.getD .skip) (laws_eqWindow.ann k) x := by kernel_rfl
theorem laws_eqWindow.obls (k : Nat) : obl (laws_eqWindow.ctx k) 0 (Try.f177.body.getD .skip) (laws_eqWindow.ann k) (retK tds laws_eqWindow.sig Try.f177.results.toList) := ⟨trivial, ⟨⟨trivial, ⟨⟨trivial, trivial⟩, trivial⟩⟩, ⟨⟨trivial, ⟨⟨trivial, trivial⟩, trivial⟩⟩, ⟨trivial, trivial⟩⟩⟩⟩
theorem laws_eqWindow.ok (k : Nat) : EntOk Try.prog k laws_eqWindow.ent := fn_ok (C := laws_eqWindow.ctx k) Try.func177 (by kernel_rfl) (by kernel_rfl) mixed tdsOk EntsOk.nil (by kernel_rfl) (Nat.le_of_ble_eq_true (by kernel_rfl)) (by kernel_rfl) (laws_eqWindow.runs k) (laws_eqWindow.obls k)
/-! loop.example/g00200/laws.eqWindowS -/
def laws_eqWindowS.l1 (k : Nat)  : Nat → Int × (List (Int × Int)) × (List (Int × Int)) × Unit → Option (Bool)
  | 0, _ => none
  | n + 1, (x1, x2, x3, _) => if x1 < (x2.length : Int) then (if 0 ≤ x1 then (if x1 < (x2.length : Int) then (if 0 ≤ x1 then (if x1 < (x3.length : Int) then ((laws_eqWindow.f k (el (.pair (.int .i64) (.int .i64)) x2 x1.toNat) (el (.pair (.int .i64) (.int .i64)) x3 x1.toNat)).bind fun t1 => (if ¬ t1 = true then (some false) else (laws_eqWindowS.l1 k n (w64 (x1 + 1), x2, x3, ())))) else none) else none) else none) else none) else (some true)
def laws_eqWindowS.f (k : Nat) (a0 : List (Int × Int)) (a1 : List (Int × Int)) : Option (Bool) :=
  if ¬ (a0.length : Int) = (a1.length : Int) then (some false) else (laws_eqWindowS.l1 k k (0, a0, a1, ()))
def laws_eqWindowS.Sl1 : Shape := ⟨[(0, false, [.own 0]), (1, false, [.own 1]), (5, false, [.int .i64])], [(0, .view false 35 (.pair (.int .i64) (.int .i64))), (1, .view false 35 (.pair (.int .i64) (.int .i64)))], 2⟩
def laws_eqWindowS.sig : Sig := ⟨[.val false (.sl 35 (.pair (.int .i64) (.int .i64))) [0], .val false (.sl 35 (.pair (.int .i64) (.int .i64))) [0]], [.val false .bool []]⟩
def laws_eqWindowS.F (k : Nat) (x : Args laws_eqWindowS.sig.ps) : Option (Res laws_eqWindowS.sig) := laws_eqWindowS.f k x.1 x.2.1
def laws_eqWindowS.ann (k : Nat) : Ann (Res laws_eqWindowS.sig) := (.seq .nil (.seq .nil (.seq (.seq .nil (.block (.loop laws_eqWindowS.Sl1 (laws_eqWindowS.l1 k) fun n1 => .nil))) .nil)))
def laws_eqWindowS.ent : Ent := ⟨131, laws_eqWindowS.sig, laws_eqWindowS.F⟩
def laws_eqWindowS.ctx (k : Nat) : Ctx := ⟨tds, [laws_eqWindow.ent], k, 27⟩
theorem laws_eqWindowS.runs (k : Nat) (x : Args laws_eqWindowS.sig.ps) : laws_eqWindowS.F k x = runF (laws_eqWindowS.ctx k) laws_eqWindowS.sig Try.f131 (Try.f131.body.getD .skip) (laws_eqWindowS.ann k) x := by kernel_rfl
theorem laws_eqWindowS.obls (k : Nat) : obl (laws_eqWindowS.ctx k) 2 (Try.f131.body.getD .skip) (laws_eqWindowS.ann k) (retK tds laws_eqWindowS.sig Try.f131.results.toList) := ⟨trivial, ⟨⟨trivial, ⟨⟨trivial, trivial⟩, trivial⟩⟩, ⟨⟨trivial, ⟨⟨by kernel_rfl, fun x => by kernel_rfl⟩, fun n => ⟨fun x => by kernel_rfl, ⟨⟨trivial, ⟨trivial, trivial⟩⟩, ⟨⟨trivial, ⟨⟨trivial, trivial⟩, trivial⟩⟩, trivial⟩⟩⟩⟩⟩, ⟨trivial, trivial⟩⟩⟩⟩
theorem laws_eqWindowS.ok (k : Nat) : EntOk Try.prog k laws_eqWindowS.ent := fn_ok (C := laws_eqWindowS.ctx k) Try.func131 (by kernel_rfl) (by kernel_rfl) mixed tdsOk (.cons (laws_eqWindow.ok k) EntsOk.nil) (by kernel_rfl) (Nat.le_of_ble_eq_true (by kernel_rfl)) (by kernel_rfl) (laws_eqWindowS.runs k) (laws_eqWindowS.obls k)
/-! loop.example/g00200/laws.eqPort -/
def laws_eqPort.f (k : Nat) (a0 : Int × Int × Int × Int × Int) (a1 : Int × Int × Int × Int × Int) : Option (Bool) :=
  if ¬ a0.1 = a1.1 then (some false) else (if ¬ a0.2.1 = a1.2.1 then (some false) else (if ¬ a0.2.2.1 = a1.2.2.1 then (some false) else (if ¬ a0.2.2.2.1 = a1.2.2.2.1 then (some false) else (if ¬ a0.2.2.2.2 = a1.2.2.2.2 then (some false) else (some true)))))
def laws_eqPort.sig : Sig := ⟨[.val true (.pair (.int .i64) (.pair (.int .i64) (.pair (.int .i64) (.pair (.int .i64) (.int .i64))))) [], .val true (.pair (.int .i64) (.pair (.int .i64) (.pair (.int .i64) (.pair (.int .i64) (.int .i64))))) []], [.val false .bool []]⟩
def laws_eqPort.F (k : Nat) (x : Args laws_eqPort.sig.ps) : Option (Res laws_eqPort.sig) := laws_eqPort.f k x.1 x.2.1
def laws_eqPort.ann (k : Nat) : Ann (Res laws_eqPort.sig) := .nil
def laws_eqPort.ent : Ent := ⟨178, laws_eqPort.sig, laws_eqPort.F⟩
def laws_eqPort.ctx (k : Nat) : Ctx := ⟨tds, [], k, 30⟩
theorem laws_eqPort.runs (k : Nat) (x : Args laws_eqPort.sig.ps) : laws_eqPort.F k x = runF (laws_eqPort.ctx k) laws_eqPort.sig Try.f178 (Try.f178.body.getD .skip) (laws_eqPort.ann k) x := by kernel_rfl
theorem laws_eqPort.obls (k : Nat) : obl (laws_eqPort.ctx k) 0 (Try.f178.body.getD .skip) (laws_eqPort.ann k) (retK tds laws_eqPort.sig Try.f178.results.toList) := ⟨trivial, ⟨⟨trivial, ⟨⟨trivial, trivial⟩, trivial⟩⟩, ⟨⟨trivial, ⟨⟨trivial, trivial⟩, trivial⟩⟩, ⟨⟨trivial, ⟨⟨trivial, trivial⟩, trivial⟩⟩, ⟨⟨trivial, ⟨⟨trivial, trivial⟩, trivial⟩⟩, ⟨⟨trivial, ⟨⟨trivial, trivial⟩, trivial⟩⟩, ⟨trivial, trivial⟩⟩⟩⟩⟩⟩⟩
theorem laws_eqPort.ok (k : Nat) : EntOk Try.prog k laws_eqPort.ent := fn_ok (C := laws_eqPort.ctx k) Try.func178 (by kernel_rfl) (by kernel_rfl) mixed tdsOk EntsOk.nil (by kernel_rfl) (Nat.le_of_ble_eq_true (by kernel_rfl)) (by kernel_rfl) (laws_eqPort.runs k) (laws_eqPort.obls k)
/-! loop.example/g00200/laws.eqPortS -/
def laws_eqPortS.l1 (k : Nat)  : Nat → Int × (List (Int × Int × Int × Int × Int)) × (List (Int × Int × Int × Int × Int)) × Unit → Option (Bool)
  | 0, _ => none
  | n + 1, (x1, x2, x3, _) => if x1 < (x2.length : Int) then (if 0 ≤ x1 then (if x1 < (x2.length : Int) then (if 0 ≤ x1 then (if x1 < (x3.length : Int) then ((laws_eqPort.f k ((el (.pair (.int .i64) (.pair (.int .i64) (.pair (.int .i64) (.pair (.int .i64) (.int .i64))))) x2 x1.toNat).1, (((el (.pair (.int .i64) (.pair (.int .i64) (.pair (.int .i64) (.pair (.int .i64) (.int .i64))))) x2 x1.toNat).2).1, ((((el (.pair (.int .i64) (.pair (.int .i64) (.pair (.int .i64) (.pair (.int .i64) (.int .i64))))) x2 x1.toNat).2).2).1, ((((el (.pair (.int .i64) (.pair (.int .i64) (.pair (.int .i64) (.pair (.int .i64) (.int .i64))))) x2 x1.toNat).2).2).2)))) ((el (.pair (.int .i64) (.pair (.int .i64) (.pair (.int .i64) (.pair (.int .i64) (.int .i64))))) x3 x1.toNat).1, (((el (.pair (.int .i64) (.pair (.int .i64) (.pair (.int .i64) (.pair (.int .i64) (.int .i64))))) x3 x1.toNat).2).1, ((((el (.pair (.int .i64) (.pair (.int .i64) (.pair (.int .i64) (.pair (.int .i64) (.int .i64))))) x3 x1.toNat).2).2).1, ((((el (.pair (.int .i64) (.pair (.int .i64) (.pair (.int .i64) (.pair (.int .i64) (.int .i64))))) x3 x1.toNat).2).2).2))))).bind fun t1 => (if ¬ t1 = true then (some false) else (laws_eqPortS.l1 k n (w64 (x1 + 1), x2, x3, ())))) else none) else none) else none) else none) else (some true)
def laws_eqPortS.f (k : Nat) (a0 : List (Int × Int × Int × Int × Int)) (a1 : List (Int × Int × Int × Int × Int)) : Option (Bool) :=
  if ¬ (a0.length : Int) = (a1.length : Int) then (some false) else (laws_eqPortS.l1 k k (0, a0, a1, ()))
def laws_eqPortS.Sl1 : Shape := ⟨[(0, false, [.own 0]), (1, false, [.own 1]), (5, false, [.int .i64])], [(0, .view false 42 (.pair (.int .i64) (.pair (.int .i64) (.pair (.int .i64) (.pair (.int .i64) (.int .i64)))))), (1, .view false 42 (.pair (.int .i64) (.pair (.int .i64) (.pair (.int .i64) (.pair (.int .i64) (.int .i64))))))], 2⟩
def laws_eqPortS.sig : Sig := ⟨[.val false (.sl 42 (.pair (.int .i64) (.pair (.int .i64) (.pair (.int .i64) (.pair (.int .i64) (.int .i64)))))) [0], .val false (.sl 42 (.pair (.int .i64) (.pair (.int .i64) (.pair (.int .i64) (.pair (.int .i64) (.int .i64)))))) [0]], [.val false .bool []]⟩
def laws_eqPortS.F (k : Nat) (x : Args laws_eqPortS.sig.ps) : Option (Res laws_eqPortS.sig) := laws_eqPortS.f k x.1 x.2.1
def laws_eqPortS.ann (k : Nat) : Ann (Res laws_eqPortS.sig) := (.seq .nil (.seq .nil (.seq (.seq .nil (.block (.loop laws_eqPortS.Sl1 (laws_eqPortS.l1 k) fun n1 => .nil))) .nil)))
def laws_eqPortS.ent : Ent := ⟨132, laws_eqPortS.sig, laws_eqPortS.F⟩
def laws_eqPortS.ctx (k : Nat) : Ctx := ⟨tds, [laws_eqPort.ent], k, 27⟩
theorem laws_eqPortS.runs (k : Nat) (x : Args laws_eqPortS.sig.ps) : laws_eqPortS.F k x = runF (laws_eqPortS.ctx k) laws_eqPortS.sig Try.f132 (Try.f132.body.getD .skip) (laws_eqPortS.ann k) x := by kernel_rfl
theorem laws_eqPortS.obls (k : Nat) : obl (laws_eqPortS.ctx k) 2 (Try.f132.body.getD .skip) (laws_eqPortS.ann k) (retK tds laws_eqPortS.sig Try.f132.results.toList) := ⟨trivial, ⟨⟨trivial, ⟨⟨trivial, trivial⟩, trivial⟩⟩, ⟨⟨trivial, ⟨⟨by kernel_rfl, fun x => by kernel_rfl⟩, fun n => ⟨fun x => by kernel_rfl, ⟨⟨trivial, ⟨trivial, trivial⟩⟩, ⟨⟨trivial, ⟨⟨trivial, trivial⟩, trivial⟩⟩, trivial⟩⟩⟩⟩⟩, ⟨trivial, trivial⟩⟩⟩⟩
theorem laws_eqPortS.ok (k : Nat) : EntOk Try.prog k laws_eqPortS.ent := fn_ok (C := laws_eqPortS.ctx k) Try.func132 (by kernel_rfl) (by kernel_rfl) mixed tdsOk (.cons (laws_eqPort.ok k) EntsOk.nil) (by kernel_rfl) (Nat.le_of_ble_eq_true (by kernel_rfl)) (by kernel_rfl) (laws_eqPortS.runs k) (laws_eqPortS.obls k)
/-! loop.example/g00200/laws.eqRule -/
def laws_eqRule.f (k : Nat) (a0 : Int × Int × Int) (a1 : Int × Int × Int) : Option (Bool) :=
  if ¬ a0.1 = a1.1 then (some false) else (if ¬ a0.2.1 = a1.2.1 then (some false) else (if ¬ a0.2.2 = a1.2.2 then (some false) else (some true)))
def laws_eqRule.sig : Sig := ⟨[.val true (.pair (.int .i64) (.pair (.int .i64) (.int .i64))) [], .val true (.pair (.int .i64) (.pair (.int .i64) (.int .i64))) []], [.val false .bool []]⟩
def laws_eqRule.F (k : Nat) (x : Args laws_eqRule.sig.ps) : Option (Res laws_eqRule.sig) := laws_eqRule.f k x.1 x.2.1
def laws_eqRule.ann (k : Nat) : Ann (Res laws_eqRule.sig) := .nil
def laws_eqRule.ent : Ent := ⟨179, laws_eqRule.sig, laws_eqRule.F⟩
def laws_eqRule.ctx (k : Nat) : Ctx := ⟨tds, [], k, 20⟩
theorem laws_eqRule.runs (k : Nat) (x : Args laws_eqRule.sig.ps) : laws_eqRule.F k x = runF (laws_eqRule.ctx k) laws_eqRule.sig Try.f179 (Try.f179.body.getD .skip) (laws_eqRule.ann k) x := by kernel_rfl
theorem laws_eqRule.obls (k : Nat) : obl (laws_eqRule.ctx k) 0 (Try.f179.body.getD .skip) (laws_eqRule.ann k) (retK tds laws_eqRule.sig Try.f179.results.toList) := ⟨trivial, ⟨⟨trivial, ⟨⟨trivial, trivial⟩, trivial⟩⟩, ⟨⟨trivial, ⟨⟨trivial, trivial⟩, trivial⟩⟩, ⟨⟨trivial, ⟨⟨trivial, trivial⟩, trivial⟩⟩, ⟨trivial, trivial⟩⟩⟩⟩⟩
theorem laws_eqRule.ok (k : Nat) : EntOk Try.prog k laws_eqRule.ent := fn_ok (C := laws_eqRule.ctx k) Try.func179 (by kernel_rfl) (by kernel_rfl) mixed tdsOk EntsOk.nil (by kernel_rfl) (Nat.le_of_ble_eq_true (by kernel_rfl)) (by kernel_rfl) (laws_eqRule.runs k) (laws_eqRule.obls k)
/-! loop.example/g00200/laws.eqRuleS -/
def laws_eqRuleS.l1 (k : Nat)  : Nat → Int × (List (Int × Int × Int)) × (List (Int × Int × Int)) × Unit → Option (Bool)
  | 0, _ => none
  | n + 1, (x1, x2, x3, _) => if x1 < (x2.length : Int) then (if 0 ≤ x1 then (if x1 < (x2.length : Int) then (if 0 ≤ x1 then (if x1 < (x3.length : Int) then ((laws_eqRule.f k ((el (.pair (.int .i64) (.pair (.int .i64) (.int .i64))) x2 x1.toNat).1, ((el (.pair (.int .i64) (.pair (.int .i64) (.int .i64))) x2 x1.toNat).2)) ((el (.pair (.int .i64) (.pair (.int .i64) (.int .i64))) x3 x1.toNat).1, ((el (.pair (.int .i64) (.pair (.int .i64) (.int .i64))) x3 x1.toNat).2))).bind fun t1 => (if ¬ t1 = true then (some false) else (laws_eqRuleS.l1 k n (w64 (x1 + 1), x2, x3, ())))) else none) else none) else none) else none) else (some true)
def laws_eqRuleS.f (k : Nat) (a0 : List (Int × Int × Int)) (a1 : List (Int × Int × Int)) : Option (Bool) :=
  if ¬ (a0.length : Int) = (a1.length : Int) then (some false) else (laws_eqRuleS.l1 k k (0, a0, a1, ()))
def laws_eqRuleS.Sl1 : Shape := ⟨[(0, false, [.own 0]), (1, false, [.own 1]), (5, false, [.int .i64])], [(0, .view false 40 (.pair (.int .i64) (.pair (.int .i64) (.int .i64)))), (1, .view false 40 (.pair (.int .i64) (.pair (.int .i64) (.int .i64))))], 2⟩
def laws_eqRuleS.sig : Sig := ⟨[.val false (.sl 40 (.pair (.int .i64) (.pair (.int .i64) (.int .i64)))) [0], .val false (.sl 40 (.pair (.int .i64) (.pair (.int .i64) (.int .i64)))) [0]], [.val false .bool []]⟩
def laws_eqRuleS.F (k : Nat) (x : Args laws_eqRuleS.sig.ps) : Option (Res laws_eqRuleS.sig) := laws_eqRuleS.f k x.1 x.2.1
def laws_eqRuleS.ann (k : Nat) : Ann (Res laws_eqRuleS.sig) := (.seq .nil (.seq .nil (.seq (.seq .nil (.block (.loop laws_eqRuleS.Sl1 (laws_eqRuleS.l1 k) fun n1 => .nil))) .nil)))
def laws_eqRuleS.ent : Ent := ⟨133, laws_eqRuleS.sig, laws_eqRuleS.F⟩
def laws_eqRuleS.ctx (k : Nat) : Ctx := ⟨tds, [laws_eqRule.ent], k, 27⟩
theorem laws_eqRuleS.runs (k : Nat) (x : Args laws_eqRuleS.sig.ps) : laws_eqRuleS.F k x = runF (laws_eqRuleS.ctx k) laws_eqRuleS.sig Try.f133 (Try.f133.body.getD .skip) (laws_eqRuleS.ann k) x := by kernel_rfl
theorem laws_eqRuleS.obls (k : Nat) : obl (laws_eqRuleS.ctx k) 2 (Try.f133.body.getD .skip) (laws_eqRuleS.ann k) (retK tds laws_eqRuleS.sig Try.f133.results.toList) := ⟨trivial, ⟨⟨trivial, ⟨⟨trivial, trivial⟩, trivial⟩⟩, ⟨⟨trivial, ⟨⟨by kernel_rfl, fun x => by kernel_rfl⟩, fun n => ⟨fun x => by kernel_rfl, ⟨⟨trivial, ⟨trivial, trivial⟩⟩, ⟨⟨trivial, ⟨⟨trivial, trivial⟩, trivial⟩⟩, trivial⟩⟩⟩⟩⟩, ⟨trivial, trivial⟩⟩⟩⟩
theorem laws_eqRuleS.ok (k : Nat) : EntOk Try.prog k laws_eqRuleS.ent := fn_ok (C := laws_eqRuleS.ctx k) Try.func133 (by kernel_rfl) (by kernel_rfl) mixed tdsOk (.cons (laws_eqRule.ok k) EntsOk.nil) (by kernel_rfl) (Nat.le_of_ble_eq_true (by kernel_rfl)) (by kernel_rfl) (laws_eqRuleS.runs k) (laws_eqRuleS.obls k)
/-! loop.example/g00200/laws.eqStringS -/
def laws_eqStringS.l1 (k : Nat)  : Nat → Int × List ByteArray × List ByteArray × Unit → Option (Bool)
  | 0, _ => none
  | n + 1, (x1, x2, x3, _) => if x1 < (x2.length : Int) then (if 0 ≤ x1 then (if x1 < (x2.length : Int) then (if 0 ≤ x1 then (if x1 < (x3.length : Int) then (if ¬ (el .str x2 x1.toNat) = (el .str x3 x1.toNat) then (some false) else (laws_eqStringS.l1 k n (w64 (x1 + 1), x2, x3, ()))) else none) else none) else none) else none) else (some true)
def laws_eqStringS.f (k : Nat) (a0 : List ByteArray) (a1 : List ByteArray) : Option (Bool) :=
  if ¬ (a0.length : Int) = (a1.length : Int) then (some false) else (laws_eqStringS.l1 k k (0, a0, a1, ()))
def laws_eqStringS.Sl1 : Shape := ⟨[(0, false, [.own 0]), (1, false, [.own 1]), (5, false, [.int .i64])], [(0, .view false 9 .str), (1, .view false 9 .str)], 2⟩
def laws_eqStringS.sig : Sig := ⟨[.val false (.sl 9 .str) [0], .val false (.sl 9 .str) [0]], [.val false .bool []]⟩
def laws_eqStringS.F (k : Nat) (x : Args laws_eqStringS.sig.ps) : Option (Res laws_eqStringS.sig) := laws_eqStringS.f k x.1 x.2.1
def laws_eqStringS.ann (k : Nat) : Ann (Res laws_eqStringS.sig) := (.seq .nil (.seq .nil (.seq (.seq .nil (.block (.loop laws_eqStringS.Sl1 (laws_eqStringS.l1 k) fun n1 => .nil))) .nil)))
def laws_eqStringS.ent : Ent := ⟨134, laws_eqStringS.sig, laws_eqStringS.F⟩
def laws_eqStringS.ctx (k : Nat) : Ctx := ⟨tds, [], k, 26⟩
theorem laws_eqStringS.runs (k : Nat) (x : Args laws_eqStringS.sig.ps) : laws_eqStringS.F k x = runF (laws_eqStringS.ctx k) laws_eqStringS.sig Try.f134 (Try.f134.body.getD .skip) (laws_eqStringS.ann k) x := by kernel_rfl
theorem laws_eqStringS.obls (k : Nat) : obl (laws_eqStringS.ctx k) 2 (Try.f134.body.getD .skip) (laws_eqStringS.ann k) (retK tds laws_eqStringS.sig Try.f134.results.toList) := ⟨trivial, ⟨⟨trivial, ⟨⟨trivial, trivial⟩, trivial⟩⟩, ⟨⟨trivial, ⟨⟨by kernel_rfl, fun x => by kernel_rfl⟩, fun n => ⟨fun x => by kernel_rfl, ⟨⟨trivial, ⟨trivial, trivial⟩⟩, ⟨⟨trivial, ⟨⟨trivial, trivial⟩, trivial⟩⟩, trivial⟩⟩⟩⟩⟩, ⟨trivial, trivial⟩⟩⟩⟩
theorem laws_eqStringS.ok (k : Nat) : EntOk Try.prog k laws_eqStringS.ent := fn_ok (C := laws_eqStringS.ctx k) Try.func134 (by kernel_rfl) (by kernel_rfl) mixed tdsOk EntsOk.nil (by kernel_rfl) (Nat.le_of_ble_eq_true (by kernel_rfl)) (by kernel_rfl) (laws_eqStringS.runs k) (laws_eqStringS.obls k)
/-! loop.example/g00200/laws.eqSetup -/
def laws_eqSetup.f (k : Nat) (a0 : List (Int × Int) × List (Int × Int) × List (Int × Int × Int × Int × Int) × List (Int × Int × Int) × List ByteArray) (a1 : List (Int × Int) × List (Int × Int) × List (Int × Int × Int × Int × Int) × List (Int × Int × Int) × List ByteArray) : Option (Bool) :=
  (laws_eqRegionS.f k a0.1 a1.1).bind fun t1 => (if ¬ t1 = true then (some false) else ((laws_eqWindowS.f k a0.2.1 a1.2.1).bind fun t2 => (if ¬ t2 = true then (some false) else ((laws_eqPortS.f k a0.2.2.1 a1.2.2.1).bind fun t3 => (if ¬ t3 = true then (some false) else ((laws_eqRuleS.f k a0.2.2.2.1 a1.2.2.2.1).bind fun t4 => (if ¬ t4 = true then (some false) else ((laws_eqStringS.f k a0.2.2.2.2 a1.2.2.2.2).bind fun t5 => (if ¬ t5 = true then (some false) else (some true))))))))))
def laws_eqSetup.sig : Sig := ⟨[.val true (.pair (.sl 53 (.pair (.int .i64) (.int .i64))) (.pair (.sl 35 (.pair (.int .i64) (.int .i64))) (.pair (.sl 42 (.pair (.int .i64) (.pair (.int .i64) (.pair (.int .i64) (.pair (.int .i64) (.int .i64)))))) (.pair (.sl 40 (.pair (.int .i64) (.pair (.int .i64) (.int .i64)))) (.sl 9 .str))))) [0, 0, 0, 0, 0], .val true (.pair (.sl 53 (.pair (.int .i64) (.int .i64))) (.pair (.sl 35 (.pair (.int .i64) (.int .i64))) (.pair (.sl 42 (.pair (.int .i64) (.pair (.int .i64) (.pair (.int .i64) (.pair (.int .i64) (.int .i64)))))) (.pair (.sl 40 (.pair (.int .i64) (.pair (.int .i64) (.int .i64)))) (.sl 9 .str))))) [0, 0, 0, 0, 0]], [.val false .bool []]⟩
def laws_eqSetup.F (k : Nat) (x : Args laws_eqSetup.sig.ps) : Option (Res laws_eqSetup.sig) := laws_eqSetup.f k x.1 x.2.1
def laws_eqSetup.ann (k : Nat) : Ann (Res laws_eqSetup.sig) := .nil
def laws_eqSetup.ent : Ent := ⟨54, laws_eqSetup.sig, laws_eqSetup.F⟩
def laws_eqSetup.ctx (k : Nat) : Ctx := ⟨tds, [laws_eqRegionS.ent, laws_eqWindowS.ent, laws_eqPortS.ent, laws_eqRuleS.ent, laws_eqStringS.ent], k, 35⟩
theorem laws_eqSetup.runs (k : Nat) (x : Args laws_eqSetup.sig.ps) : laws_eqSetup.F k x = runF (laws_eqSetup.ctx k) laws_eqSetup.sig Try.f54 (Try.f54.body.getD .skip) (laws_eqSetup.ann k) x := by kernel_rfl
theorem laws_eqSetup.obls (k : Nat) : obl (laws_eqSetup.ctx k) 10 (Try.f54.body.getD .skip) (laws_eqSetup.ann k) (retK tds laws_eqSetup.sig Try.f54.results.toList) := ⟨trivial, ⟨⟨trivial, ⟨⟨trivial, trivial⟩, trivial⟩⟩, ⟨⟨trivial, ⟨⟨trivial, trivial⟩, trivial⟩⟩, ⟨⟨trivial, ⟨⟨trivial, trivial⟩, trivial⟩⟩, ⟨⟨trivial, ⟨⟨trivial, trivial⟩, trivial⟩⟩, ⟨⟨trivial, ⟨⟨trivial, trivial⟩, trivial⟩⟩, ⟨trivial, trivial⟩⟩⟩⟩⟩⟩⟩
theorem laws_eqSetup.ok (k : Nat) : EntOk Try.prog k laws_eqSetup.ent := fn_ok (C := laws_eqSetup.ctx k) Try.func54 (by kernel_rfl) (by kernel_rfl) mixed tdsOk (.cons (laws_eqRegionS.ok k) (.cons (laws_eqWindowS.ok k) (.cons (laws_eqPortS.ok k) (.cons (laws_eqRuleS.ok k) (.cons (laws_eqStringS.ok k) EntsOk.nil))))) (by kernel_rfl) (Nat.le_of_ble_eq_true (by kernel_rfl)) (by kernel_rfl) (laws_eqSetup.runs k) (laws_eqSetup.obls k)
/-! loop.example/g00200/spec.CostOf -/
def spec_CostOf.j2 (k : Nat)  : Int × Bool × Unit → Option (Int)
  | (z1, z2, _) => if z2 = true then (some 3) else (if z1 = 13 then (some 4) else (if z1 = 14 then (some 4) else (some 1)))
def spec_CostOf.j1 (k : Nat)  : Int × Bool × Unit → Option (Int)
  | (z1, z2, _) => if z2 = true then (some 2) else (if z1 = 6 then (spec_CostOf.j2 k (z1, true, ())) else (spec_CostOf.j2 k (z1, decide (z1 = 7), ())))
def spec_CostOf.f (k : Nat) (a0 : Int) : Option (Int) :=
  if a0 = 2 then (spec_CostOf.j1 k (a0, true, ())) else (if a0 = 3 then (spec_CostOf.j1 k (a0, true, ())) else (if a0 = 15 then (spec_CostOf.j1 k (a0, true, ())) else (spec_CostOf.j1 k (a0, decide (a0 = 16), ()))))
def spec_CostOf.Sj1 : Shape := ⟨[(3, false, [.int .i64]), (4, false, [.bool])], [], 0⟩
def spec_CostOf.Sj2 : Shape := ⟨[(3, false, [.int .i64]), (9, false, [.bool])], [], 0⟩
def spec_CostOf.sig : Sig := ⟨[.val false (.int .i64) []], [.val false (.int .i64) []]⟩
def spec_CostOf.F (k : Nat) (x : Args spec_CostOf.sig.ps) : Option (Res spec_CostOf.sig) := spec_CostOf.f k x.1
def spec_CostOf.ann (k : Nat) : Ann (Res spec_CostOf.sig) := (.seq .nil (.seq (.seq .nil (.block (.join spec_CostOf.Sj1 (spec_CostOf.j1 k) .nil (.cond .nil (.join spec_CostOf.Sj2 (spec_CostOf.j2 k) .nil .nil))))) .nil))
def spec_CostOf.ent : Ent := ⟨135, spec_CostOf.sig, spec_CostOf.F⟩
def spec_CostOf.ctx (k : Nat) : Ctx := ⟨tds, [], k, 15⟩
theorem spec_CostOf.runs (k : Nat) (x : Args spec_CostOf.sig.ps) : spec_CostOf.F k x = runF (spec_CostOf.ctx k) spec_CostOf.sig Try.f135 (Try.f135.body.getD .skip) (spec_CostOf.ann k) x := by kernel_rfl
theorem spec_CostOf.obls (k : Nat) : obl (spec_CostOf.ctx k) 0 (Try.f135.body.getD .skip) (spec_CostOf.ann k) (retK tds spec_CostOf.sig Try.f135.results.toList) := ⟨trivial, ⟨⟨trivial, ⟨⟨by kernel_rfl, fun x => by kernel_rfl⟩, ⟨trivial, ⟨trivial, ⟨trivial, ⟨trivial, ⟨trivial, ⟨trivial, trivial⟩⟩⟩⟩⟩⟩, ⟨⟨trivial, trivial⟩, ⟨⟨by kernel_rfl, fun x => by kernel_rfl⟩, ⟨trivial, ⟨trivial, trivial⟩⟩, ⟨⟨trivial, trivial⟩, ⟨⟨trivial, ⟨trivial, trivial⟩⟩, ⟨⟨trivial, trivial⟩, trivial⟩⟩⟩⟩⟩⟩⟩, ⟨trivial, trivial⟩⟩⟩
theorem spec_CostOf.ok (k : Nat) : EntOk Try.prog k spec_CostOf.ent := fn_ok (C := spec_CostOf.ctx k) Try.func135 (by kernel_rfl) (by kernel_rfl) mixed tdsOk EntsOk.nil (by kernel_rfl) (Nat.le_of_ble_eq_true (by kernel_rfl)) (by kernel_rfl) (spec_CostOf.runs k) (spec_CostOf.obls k)
/-! loop.example/g00200/spec.l07Answers -/
def spec_l07Answers.f (k : Nat) (a0 : Int) : Option (Int) :=
  if a0 = 13 then (some 1) else (if a0 = 15 then (some 1) else (if a0 = 14 then (some 2) else (some 0)))
def spec_l07Answers.sig : Sig := ⟨[.val false (.int .i64) []], [.val false (.int .i64) []]⟩
def spec_l07Answers.F (k : Nat) (x : Args spec_l07Answers.sig.ps) : Option (Res spec_l07Answers.sig) := spec_l07Answers.f k x.1
def spec_l07Answers.ann (k : Nat) : Ann (Res spec_l07Answers.sig) := .nil
def spec_l07Answers.ent : Ent := ⟨136, spec_l07Answers.sig, spec_l07Answers.F⟩
def spec_l07Answers.ctx (k : Nat) : Ctx := ⟨tds, [], k, 9⟩
theorem spec_l07Answers.runs (k : Nat) (x : Args spec_l07Answers.sig.ps) : spec_l07Answers.F k x = runF (spec_l07Answers.ctx k) spec_l07Answers.sig Try.f136 (Try.f136.body.getD .skip) (spec_l07Answers.ann k) x := by kernel_rfl
theorem spec_l07Answers.obls (k : Nat) : obl (spec_l07Answers.ctx k) 0 (Try.f136.body.getD .skip) (spec_l07Answers.ann k) (retK tds spec_l07Answers.sig Try.f136.results.toList) := ⟨trivial, ⟨⟨trivial, ⟨⟨trivial, ⟨trivial, trivial⟩⟩, ⟨⟨trivial, trivial⟩, ⟨trivial, ⟨⟨trivial, trivial⟩, trivial⟩⟩⟩⟩⟩, ⟨trivial, trivial⟩⟩⟩
theorem spec_l07Answers.ok (k : Nat) : EntOk Try.prog k spec_l07Answers.ent := fn_ok (C := spec_l07Answers.ctx k) Try.func136 (by kernel_rfl) (by kernel_rfl) mixed tdsOk EntsOk.nil (by kernel_rfl) (Nat.le_of_ble_eq_true (by kernel_rfl)) (by kernel_rfl) (spec_l07Answers.runs k) (spec_l07Answers.obls k)
/-! loop.example/g00200/spec.Answer -/
def spec_Answer.f (k : Nat) (a0 : Int × List Int) (a1 : Int) : Option ((Int × List Int) × Bool) :=
  (spec_l06Copy.f k a0).bind fun t1 => ((spec_CpuOk.f k a0).bind fun t2 => (if ¬ t2 = true then (some (t1, false)) else (if (a0.2.length : Int) = 8 then (some (t1, false)) else ((spec_l04Mod.f k a1).bind fun t3 => (((some ([t3] : List Int))).bind fun y4 => (if (t1.2.length + y4.length) * 8 ≤ 140737488355328 then (((some (t1.2 ++ y4))).bind fun y5 => (some ((t1.1, y5), true))) else none))))))
def spec_Answer.sig : Sig := ⟨[.val true (.pair (.int .i64) (.sl 3 (.int .i64))) [0], .val false (.int .i64) []], [.val true (.pair (.int .i64) (.sl 3 (.int .i64))) [none], .val false .bool []]⟩
def spec_Answer.F (k : Nat) (x : Args spec_Answer.sig.ps) : Option (Res spec_Answer.sig) := spec_Answer.f k x.1 x.2.1
def spec_Answer.ann (k : Nat) : Ann (Res spec_Answer.sig) := .nil
def spec_Answer.ent : Ent := ⟨137, spec_Answer.sig, spec_Answer.F⟩
def spec_Answer.ctx (k : Nat) : Ctx := ⟨tds, [spec_CpuOk.ent, spec_l06Copy.ent, spec_l04Mod.ent], k, 27⟩
theorem spec_Answer.runs (k : Nat) (x : Args spec_Answer.sig.ps) : spec_Answer.F k x = runF (spec_Answer.ctx k) spec_Answer.sig Try.f137 (Try.f137.body.getD .skip) (spec_Answer.ann k) x := by kernel_rfl
theorem spec_Answer.obls (k : Nat) : obl (spec_Answer.ctx k) 1 (Try.f137.body.getD .skip) (spec_Answer.ann k) (retK tds spec_Answer.sig Try.f137.results.toList) := ⟨trivial, ⟨trivial, ⟨⟨trivial, ⟨⟨trivial, trivial⟩, trivial⟩⟩, ⟨trivial, ⟨trivial, trivial⟩⟩⟩⟩⟩
theorem spec_Answer.ok (k : Nat) : EntOk Try.prog k spec_Answer.ent := fn_ok (C := spec_Answer.ctx k) Try.func137 (by kernel_rfl) (by kernel_rfl) mixed tdsOk (.cons (spec_CpuOk.ok k) (.cons (spec_l06Copy.ok k) (.cons (spec_l04Mod.ok k) EntsOk.nil))) (by kernel_rfl) (Nat.le_of_ble_eq_true (by kernel_rfl)) (by kernel_rfl) (spec_Answer.runs k) (spec_Answer.obls k)
/-! loop.example/g00200/spec.RunCost -/
def spec_RunCost.l3 (k : Nat) (c0 : Int × Int × Int × Int × Int × (List (Int × Int)) × List Int × List Int × Unit → Option (Int × Int)) : Nat → Int × Int × Int × Int × Int × Int × Int × Int × (List (Int × Int)) × List Int × List Int × List Int × Unit → Option (Int × Int)
  | 0, _ => none
  | n + 1, (x1, x2, x3, x4, x5, x6, x7, x8, x9, x10, x11, x12, _) => (spec_l07Answers.f k x3).bind fun t4 => (if x4 < t4 then ((spec_Answer.f k (x8, x12) 0).bind fun t5 => (if ¬ t5.2 = true then (some (x2, 4)) else (spec_RunCost.l3 k c0 n (x1, x2, x3, w64 (x4 + 1), x5, x6, x7, t5.1.1, x9, x10, x11, t5.1.2, ())))) else (c0 (x1, x2, x5, x6, x8, x9, x10, x12, ())))
def spec_RunCost.l2 (k : Nat)  : Nat → Int × Int × Int × Int × Int × (List (Int × Int)) × List Int × List Int × Unit → Option (Int × Int)
  | 0, _ => none
  | n + 1, (x1, x2, x3, x4, x5, x6, x7, x8, _) => if x5 < (x6.length : Int) then (if 0 ≤ x5 then (if x5 < (x6.length : Int) then ((spec_CostOf.f k ((el (.pair (.int .i64) (.int .i64)) x6 x5.toNat).1)).bind fun t1 => (if x1 < (w64 (x2 + t1)) then (some (x2, 0)) else ((spec_CostOf.f k ((el (.pair (.int .i64) (.int .i64)) x6 x5.toNat).1)).bind fun t2 => ((spec_StepCpu.f k (x5, x8) x6 x7 (x3, x4) 0).bind fun t3 => (if ¬ t3.2.2.2.2.2 = 0 then (some (w64 (x2 + t2), t3.2.2.2.2.2)) else (if ((el (.pair (.int .i64) (.int .i64)) x6 x5.toNat).1) = 0 then (some (w64 (x2 + t2), 0)) else (spec_RunCost.l3 k (spec_RunCost.l2 k n) k (x1, w64 (x2 + t2), (el (.pair (.int .i64) (.int .i64)) x6 x5.toNat).1, 0, x3, x4, x5, t3.1.1, x6, t3.2.1, x8, t3.1.2, ())))))))) else none) else none) else (some (x2, 0))
def spec_RunCost.j1 (k : Nat)  : Int × Int × Int × Int × Int × (List (Int × Int)) × List Int × List Int × Unit → Option (Int × Int)
  | (z1, z2, z3, z4, z5, z6, z7, z8, _) => spec_RunCost.l2 k k (z1, z2, z3, z4, z5, z6, z7, z8, ())
def spec_RunCost.f (k : Nat) (a0 : List (Int × Int)) (a1 : List Int) (a2 : Int × Int) (a3 : Int) : Option (Int × Int) :=
  if 5000 < a3 then (spec_RunCost.j1 k (5000, 0, a2.1, a2.2, 0, a0, a1, [], ())) else (spec_RunCost.j1 k (a3, 0, a2.1, a2.2, 0, a0, a1, [], ()))
def spec_RunCost.Sj1 : Shape := ⟨[(0, false, [.own 0]), (3, false, [.int .i64]), (5, false, [.ptr 2 0]), (6, false, [.ptr 3 0]), (10, false, [.ptr 4 0]), (11, false, [.int .i64])], [(2, .blk 50 [.own 1]), (3, .blk 53 [.int .i64, .int .i64]), (4, .blk 59 [.int .i64, .own 5]), (0, .view false 46 (.pair (.int .i64) (.int .i64))), (1, .view false 3 (.int .i64)), (5, .row 3 (.int .i64))], 6⟩
def spec_RunCost.Sl2 : Shape := ⟨[(0, false, [.own 0]), (3, false, [.int .i64]), (5, false, [.ptr 2 0]), (6, false, [.ptr 4 0]), (10, false, [.ptr 5 0]), (11, false, [.int .i64])], [(2, .blk 50 [.own 3]), (4, .blk 53 [.int .i64, .int .i64]), (5, .blk 59 [.int .i64, .own 6]), (0, .view false 46 (.pair (.int .i64) (.int .i64))), (3, .view true 3 (.int .i64)), (6, .row 3 (.int .i64))], 7⟩
def spec_RunCost.Sl3 : Shape := ⟨[(0, false, [.own 0]), (3, false, [.int .i64]), (5, false, [.ptr 2 0]), (6, false, [.ptr 4 0]), (10, false, [.ptr 5 0]), (11, false, [.int .i64]), (12, false, [.int .i64]), (13, false, [.ptr 7 0]), (16, false, [.int .i64])], [(2, .blk 50 [.own 3]), (4, .blk 53 [.int .i64, .int .i64]), (5, .blk 59 [.int .i64, .own 6]), (7, .blk 59 [.int .i64, .own 8]), (0, .view false 46 (.pair (.int .i64) (.int .i64))), (3, .row 3 (.int .i64)), (6, .row 3 (.int .i64)), (8, .row 3 (.int .i64))], 9⟩
def spec_RunCost.sig : Sig := ⟨[.val false (.sl 46 (.pair (.int .i64) (.int .i64))) [0], .val true (.sl 3 (.int .i64)) [0], .val true (.pair (.int .i64) (.int .i64)) [], .val false (.int .i64) []], [.val false (.int .i64) [], .val false (.int .i64) []]⟩
def spec_RunCost.F (k : Nat) (x : Args spec_RunCost.sig.ps) : Option (Res spec_RunCost.sig) := spec_RunCost.f k x.1 x.2.1 x.2.2.1 x.2.2.2.1
def spec_RunCost.ann (k : Nat) : Ann (Res spec_RunCost.sig) := (.seq .nil (.seq .nil (.seq .nil (.join spec_RunCost.Sj1 (spec_RunCost.j1 k) .nil (.seq (.block (.loop spec_RunCost.Sl2 (spec_RunCost.l2 k) fun n1 => (.seq .nil (.block (.seq .nil (.seq .nil (.seq .nil (.seq .nil (.seq .nil (.seq .nil (.seq .nil (.seq (.seq .nil (.block (.loop spec_RunCost.Sl3 (spec_RunCost.l3 k (spec_RunCost.l2 k n1)) fun n2 => .nil))) .nil)))))))))))) .nil)))))
def spec_RunCost.ent : Ent := ⟨55, spec_RunCost.sig, spec_RunCost.F⟩
def spec_RunCost.ctx (k : Nat) : Ctx := ⟨tds, [spec_StepCpu.ent, spec_CostOf.ent, spec_l07Answers.ent, spec_Answer.ent], k, 80⟩
theorem spec_RunCost.runs (k : Nat) (x : Args spec_RunCost.sig.ps) : spec_RunCost.F k x = runF (spec_RunCost.ctx k) spec_RunCost.sig Try.f55 (Try.f55.body.getD .skip) (spec_RunCost.ann k) x := by kernel_rfl
theorem spec_RunCost.obls (k : Nat) : obl (spec_RunCost.ctx k) 2 (Try.f55.body.getD .skip) (spec_RunCost.ann k) (retK tds spec_RunCost.sig Try.f55.results.toList) := ⟨trivial, ⟨trivial, ⟨trivial, ⟨⟨by kernel_rfl, fun x => by kernel_rfl⟩, ⟨trivial, ⟨trivial, trivial⟩⟩, ⟨⟨⟨by kernel_rfl, fun x => by kernel_rfl⟩, fun n => ⟨fun x => by kernel_rfl, ⟨⟨trivial, ⟨trivial, trivial⟩⟩, ⟨trivial, ⟨⟨trivial, ⟨⟨trivial, trivial⟩, trivial⟩⟩, ⟨trivial, ⟨trivial, ⟨⟨trivial, ⟨⟨trivial, trivial⟩, trivial⟩⟩, ⟨⟨trivial, ⟨⟨trivial, trivial⟩, trivial⟩⟩, ⟨trivial, ⟨⟨trivial, ⟨⟨by kernel_rfl, fun x => by kernel_rfl⟩, fun n => ⟨fun x => by kernel_rfl, ⟨⟨trivial, ⟨trivial, trivial⟩⟩, ⟨⟨trivial, ⟨⟨trivial, ⟨⟨trivial, trivial⟩, trivial⟩⟩, trivial⟩⟩, trivial⟩⟩⟩⟩⟩, trivial⟩⟩⟩⟩⟩⟩⟩⟩⟩⟩⟩, ⟨trivial, trivial⟩⟩⟩⟩⟩⟩
theorem spec_RunCost.ok (k : Nat) : EntOk Try.prog k spec_RunCost.ent := fn_ok (C := spec_RunCost.ctx k) Try.func55 (by kernel_rfl) (by kernel_rfl) mixed tdsOk (.cons (spec_StepCpu.ok k) (.cons (spec_CostOf.ok k) (.cons (spec_l07Answers.ok k) (.cons (spec_Answer.ok k) EntsOk.nil)))) (by kernel_rfl) (Nat.le_of_ble_eq_true (by kernel_rfl)) (by kernel_rfl) (spec_RunCost.runs k) (spec_RunCost.obls k)
/-! loop.example/g00200/spec.DrawRunCost -/
def spec_DrawRunCost.f (k : Nat) (a0 : List Int) : Option ((List (Int × Int)) × List Int × (Int × Int) × Int) :=
  (spec_l01New.f k a0).bind fun t1 => ((spec_l07Code.f k (a0, t1.2)).bind fun t2 => ((spec_l04Arena.f k (a0, t2.2.2)).bind fun t3 => ((spec_l04Region.f k (a0, t3.2.2)).bind fun t4 => (((some ([0, 5, 20, 60, 200, 1000, (-1)] : List Int))).bind fun y5 => ((spec_l01PickInt.f k (a0, t4.2.2) y5).bind fun t6 => (some (t2.1, t3.1, t4.1, t6.1)))))))
def spec_DrawRunCost.sig : Sig := ⟨[.val false (.sl 5 (.int .u8)) [0]], [.val false (.sl 46 (.pair (.int .i64) (.int .i64))) [none], .val true (.sl 3 (.int .i64)) [none], .val true (.pair (.int .i64) (.int .i64)) [], .val false (.int .i64) []]⟩
def spec_DrawRunCost.F (k : Nat) (x : Args spec_DrawRunCost.sig.ps) : Option (Res spec_DrawRunCost.sig) := spec_DrawRunCost.f k x.1
def spec_DrawRunCost.ann (k : Nat) : Ann (Res spec_DrawRunCost.sig) := .nil
def spec_DrawRunCost.ent : Ent := ⟨56, spec_DrawRunCost.sig, spec_DrawRunCost.F⟩
def spec_DrawRunCost.ctx (k : Nat) : Ctx := ⟨tds, [spec_l01New.ent, spec_l07Code.ent, spec_l04Arena.ent, spec_l04Region.ent, spec_l01PickInt.ent], k, 20⟩
theorem spec_DrawRunCost.runs (k : Nat) (x : Args spec_DrawRunCost.sig.ps) : spec_DrawRunCost.F k x = runF (spec_DrawRunCost.ctx k) spec_DrawRunCost.sig Try.f56 (Try.f56.body.getD .skip) (spec_DrawRunCost.ann k) x := by kernel_rfl
theorem spec_DrawRunCost.obls (k : Nat) : obl (spec_DrawRunCost.ctx k) 1 (Try.f56.body.getD .skip) (spec_DrawRunCost.ann k) (retK tds spec_DrawRunCost.sig Try.f56.results.toList) := ⟨trivial, ⟨trivial, ⟨trivial, ⟨trivial, trivial⟩⟩⟩⟩
theorem spec_DrawRunCost.ok (k : Nat) : EntOk Try.prog k spec_DrawRunCost.ent := fn_ok (C := spec_DrawRunCost.ctx k) Try.func56 (by kernel_rfl) (by kernel_rfl) mixed tdsOk (.cons (spec_l01New.ok k) (.cons (spec_l07Code.ok k) (.cons (spec_l04Arena.ok k) (.cons (spec_l04Region.ok k) (.cons (spec_l01PickInt.ok k) EntsOk.nil))))) (by kernel_rfl) (Nat.le_of_ble_eq_true (by kernel_rfl)) (by kernel_rfl) (spec_DrawRunCost.runs k) (spec_DrawRunCost.obls k)
/-! loop.example/g00200/spec.l01Var -/
def spec_l01Var.l1 (k : Nat)  : Nat → Int × List Int × Unit → Option (ByteArray)
  | 0, _ => none
  | n + 1, (x1, x2, _) => if 127 < x1 then (((some ([IntKind.u8.wrap (w64 ((Int.tmod x1 128) + 128))] : List Int))).bind fun y2 => (if (x2.length + y2.length) * 1 ≤ 140737488355328 then (((some (x2 ++ y2))).bind fun y3 => (spec_l01Var.l1 k n (w64 (Int.tdiv x1 128), y3, ()))) else none)) else (((some ([IntKind.u8.wrap (x1)] : List Int))).bind fun y4 => (if (x2.length + y4.length) * 1 ≤ 140737488355328 then (((some (x2 ++ y4))).bind fun y5 => (some (chrs y5))) else none))
def spec_l01Var.f (k : Nat) (a0 : Int) : Option (ByteArray) :=
  ((some ([] : List Int))).bind fun y1 => (spec_l01Var.l1 k k (a0, y1, ()))
def spec_l01Var.Sl1 : Shape := ⟨[(0, false, [.int .i64]), (3, false, [.own 0])], [(0, .row 5 (.int .u8))], 1⟩
def spec_l01Var.sig : Sig := ⟨[.val false (.int .i64) []], [.val false .str []]⟩
def spec_l01Var.F (k : Nat) (x : Args spec_l01Var.sig.ps) : Option (Res spec_l01Var.sig) := spec_l01Var.f k x.1
def spec_l01Var.ann (k : Nat) : Ann (Res spec_l01Var.sig) := (.seq .nil (.seq .nil (.seq (.block (.loop spec_l01Var.Sl1 (spec_l01Var.l1 k) fun n1 => .nil)) .nil)))
def spec_l01Var.ent : Ent := ⟨139, spec_l01Var.sig, spec_l01Var.F⟩
def spec_l01Var.ctx (k : Nat) : Ctx := ⟨tds, [], k, 22⟩
theorem spec_l01Var.runs (k : Nat) (x : Args spec_l01Var.sig.ps) : spec_l01Var.F k x = runF (spec_l01Var.ctx k) spec_l01Var.sig Try.f139 (Try.f139.body.getD .skip) (spec_l01Var.ann k) x := by kernel_rfl
theorem spec_l01Var.obls (k : Nat) : obl (spec_l01Var.ctx k) 0 (Try.f139.body.getD .skip) (spec_l01Var.ann k) (retK tds spec_l01Var.sig Try.f139.results.toList) := ⟨trivial, ⟨trivial, ⟨⟨⟨by kernel_rfl, fun x => by kernel_rfl⟩, fun n => ⟨fun x => by kernel_rfl, ⟨⟨trivial, ⟨trivial, trivial⟩⟩, ⟨trivial, trivial⟩⟩⟩⟩, ⟨trivial, trivial⟩⟩⟩⟩
theorem spec_l01Var.ok (k : Nat) : EntOk Try.prog k spec_l01Var.ent := fn_ok (C := spec_l01Var.ctx k) Try.func139 (by kernel_rfl) (by kernel_rfl) mixed tdsOk EntsOk.nil (by kernel_rfl) (Nat.le_of_ble_eq_true (by kernel_rfl)) (by kernel_rfl) (spec_l01Var.runs k) (spec_l01Var.obls k)
/-! loop.example/g00200/spec.SetupText -/
def spec_SetupText.l5 (k : Nat)  : Nat → ByteArray × Int × (List (Int × Int)) × (List (Int × Int)) × (List (Int × Int × Int × Int × Int)) × (List (Int × Int × Int)) × List ByteArray × Unit → Option (ByteArray × Bool)
  | 0, _ => none
  | n + 1, (x1, x2, x3, x4, x5, x6, x7, _) => if x2 < (x7.length : Int) then (if 0 ≤ x2 then (if x2 < (x7.length : Int) then ((spec_l01Var.f k ((el .str x7 x2.toNat).size : Int)).bind fun t18 => (if x1.size + t18.size ≤ 9223372036854775807 then (if 0 ≤ x2 then (if x2 < (x7.length : Int) then (if (x1 ++ t18).size + (el .str x7 x2.toNat).size ≤ 9223372036854775807 then (spec_SetupText.l5 k n ((x1 ++ t18) ++ (el .str x7 x2.toNat), w64 (x2 + 1), x3, x4, x5, x6, x7, ())) else none) else none) else none) else none)) else none) else none) else (some (x1, true))
def spec_SetupText.l4 (k : Nat)  : Nat → ByteArray × Int × (List (Int × Int)) × (List (Int × Int)) × (List (Int × Int × Int × Int × Int)) × (List (Int × Int × Int)) × List ByteArray × Unit → Option (ByteArray × Bool)
  | 0, _ => none
  | n + 1, (x1, x2, x3, x4, x5, x6, x7, _) => if x2 < (x6.length : Int) then (if 0 ≤ x2 then (if x2 < (x6.length : Int) then ((spec_l01Var.f k ((el (.pair (.int .i64) (.pair (.int .i64) (.int .i64))) x6 x2.toNat).1)).bind fun t15 => (if x1.size + t15.size ≤ 9223372036854775807 then (if 0 ≤ x2 then (if x2 < (x6.length : Int) then ((spec_l01Var.f k (((el (.pair (.int .i64) (.pair (.int .i64) (.int .i64))) x6 x2.toNat).2).1)).bind fun t16 => (if (x1 ++ t15).size + t16.size ≤ 9223372036854775807 then (if 0 ≤ x2 then (if x2 < (x6.length : Int) then ((spec_l01Var.f k (((el (.pair (.int .i64) (.pair (.int .i64) (.int .i64))) x6 x2.toNat).2).2)).bind fun t17 => (if ((x1 ++ t15) ++ t16).size + t17.size ≤ 9223372036854775807 then (spec_SetupText.l4 k n (((x1 ++ t15) ++ t16) ++ t17, w64 (x2 + 1), x3, x4, x5, x6, x7, ())) else none)) else none) else none) else none)) else none) else none) else none)) else none) else none) else (spec_SetupText.l5 k k (x1, 0, x3, x4, x5, x6, x7, ()))
def spec_SetupText.l3 (k : Nat)  : Nat → ByteArray × Int × (List (Int × Int)) × (List (Int × Int)) × (List (Int × Int × Int × Int × Int)) × (List (Int × Int × Int)) × List ByteArray × Unit → Option (ByteArray × Bool)
  | 0, _ => none
  | n + 1, (x1, x2, x3, x4, x5, x6, x7, _) => if x2 < (x5.length : Int) then (if 0 ≤ x2 then (if x2 < (x5.length : Int) then ((spec_l01Var.f k ((el (.pair (.int .i64) (.pair (.int .i64) (.pair (.int .i64) (.pair (.int .i64) (.int .i64))))) x5 x2.toNat).1)).bind fun t9 => (if x1.size + t9.size ≤ 9223372036854775807 then ((spec_l01Var.f k (((el (.pair (.int .i64) (.pair (.int .i64) (.pair (.int .i64) (.pair (.int .i64) (.int .i64))))) x5 x2.toNat).2).1)).bind fun t10 => (if (x1 ++ t9).size + t10.size ≤ 9223372036854775807 then ((spec_l01Var.f k ((((el (.pair (.int .i64) (.pair (.int .i64) (.pair (.int .i64) (.pair (.int .i64) (.int .i64))))) x5 x2.toNat).2).2).1)).bind fun t11 => (if ((x1 ++ t9) ++ t10).size + t11.size ≤ 9223372036854775807 then ((spec_l01Var.f k (((((el (.pair (.int .i64) (.pair (.int .i64) (.pair (.int .i64) (.pair (.int .i64) (.int .i64))))) x5 x2.toNat).2).2).2).1)).bind fun t12 => (if (((x1 ++ t9) ++ t10) ++ t11).size + t12.size ≤ 9223372036854775807 then ((spec_l01Var.f k (((((el (.pair (.int .i64) (.pair (.int .i64) (.pair (.int .i64) (.pair (.int .i64) (.int .i64))))) x5 x2.toNat).2).2).2).2)).bind fun t13 => (if ((((x1 ++ t9) ++ t10) ++ t11) ++ t12).size + t13.size ≤ 9223372036854775807 then (spec_SetupText.l3 k n (((((x1 ++ t9) ++ t10) ++ t11) ++ t12) ++ t13, w64 (x2 + 1), x3, x4, x5, x6, x7, ())) else none)) else none)) else none)) else none)) else none)) else none) else none) else ((spec_l01Var.f k (x6.length : Int)).bind fun t14 => (if x1.size + t14.size ≤ 9223372036854775807 then (spec_SetupText.l4 k k (x1 ++ t14, 0, x3, x4, x5, x6, x7, ())) else none))
def spec_SetupText.l2 (k : Nat)  : Nat → ByteArray × Int × (List (Int × Int)) × (List (Int × Int)) × (List (Int × Int × Int × Int × Int)) × (List (Int × Int × Int)) × List ByteArray × Unit → Option (ByteArray × Bool)
  | 0, _ => none
  | n + 1, (x1, x2, x3, x4, x5, x6, x7, _) => if x2 < (x4.length : Int) then (if 0 ≤ x2 then (if x2 < (x4.length : Int) then ((spec_l01Var.f k ((el (.pair (.int .i64) (.int .i64)) x4 x2.toNat).1)).bind fun t6 => (if x1.size + t6.size ≤ 9223372036854775807 then (if 0 ≤ x2 then (if x2 < (x4.length : Int) then ((spec_l01Var.f k ((el (.pair (.int .i64) (.int .i64)) x4 x2.toNat).2)).bind fun t7 => (if (x1 ++ t6).size + t7.size ≤ 9223372036854775807 then (spec_SetupText.l2 k n ((x1 ++ t6) ++ t7, w64 (x2 + 1), x3, x4, x5, x6, x7, ())) else none)) else none) else none) else none)) else none) else none) else ((spec_l01Var.f k (x5.length : Int)).bind fun t8 => (if x1.size + t8.size ≤ 9223372036854775807 then (spec_SetupText.l3 k k (x1 ++ t8, 0, x3, x4, x5, x6, x7, ())) else none))
def spec_SetupText.l1 (k : Nat)  : Nat → ByteArray × Int × (List (Int × Int)) × (List (Int × Int)) × (List (Int × Int × Int × Int × Int)) × (List (Int × Int × Int)) × List ByteArray × Unit → Option (ByteArray × Bool)
  | 0, _ => none
  | n + 1, (x1, x2, x3, x4, x5, x6, x7, _) => if x2 < (x3.length : Int) then (if 0 ≤ x2 then (if x2 < (x3.length : Int) then ((spec_l01Var.f k ((el (.pair (.int .i64) (.int .i64)) x3 x2.toNat).1)).bind fun t3 => (if x1.size + t3.size ≤ 9223372036854775807 then (if 0 ≤ x2 then (if x2 < (x3.length : Int) then ((spec_l01Var.f k ((el (.pair (.int .i64) (.int .i64)) x3 x2.toNat).2)).bind fun t4 => (if (x1 ++ t3).size + t4.size ≤ 9223372036854775807 then (spec_SetupText.l1 k n ((x1 ++ t3) ++ t4, w64 (x2 + 1), x3, x4, x5, x6, x7, ())) else none)) else none) else none) else none)) else none) else none) else ((spec_l01Var.f k (x4.length : Int)).bind fun t5 => (if x1.size + t5.size ≤ 9223372036854775807 then (spec_SetupText.l2 k k (x1 ++ t5, 0, x3, x4, x5, x6, x7, ())) else none))
def spec_SetupText.f (k : Nat) (a0 : List (Int × Int) × List (Int × Int) × List (Int × Int × Int × Int × Int) × List (Int × Int × Int) × List ByteArray) : Option (ByteArray × Bool) :=
  (spec_SetupFault.f k a0).bind fun t1 => (if ¬ t1 = 0 then (some ((⟨#[]⟩ : ByteArray), false)) else ((spec_l01Var.f k (a0.1.length : Int)).bind fun t2 => (spec_SetupText.l1 k k (t2, 0, a0.1, a0.2.1, a0.2.2.1, a0.2.2.2.1, a0.2.2.2.2, ()))))
def spec_SetupText.Sl1 : Shape := ⟨[(1, false, [.ptr 5 0]), (4, false, [.str]), (5, false, [.int .i64])], [(5, .blk 30 [.own 0, .own 1, .own 2, .own 3, .own 4]), (0, .view false 53 (.pair (.int .i64) (.int .i64))), (1, .view false 35 (.pair (.int .i64) (.int .i64))), (2, .view false 42 (.pair (.int .i64) (.pair (.int .i64) (.pair (.int .i64) (.pair (.int .i64) (.int .i64)))))), (3, .view false 40 (.pair (.int .i64) (.pair (.int .i64) (.int .i64)))), (4, .view false 9 .str)], 6⟩
def spec_SetupText.Sl2 : Shape := ⟨[(1, false, [.ptr 5 0]), (4, false, [.str]), (6, false, [.int .i64])], [(5, .blk 30 [.own 0, .own 1, .own 2, .own 3, .own 4]), (0, .view false 53 (.pair (.int .i64) (.int .i64))), (1, .view false 35 (.pair (.int .i64) (.int .i64))), (2, .view false 42 (.pair (.int .i64) (.pair (.int .i64) (.pair (.int .i64) (.pair (.int .i64) (.int .i64)))))), (3, .view false 40 (.pair (.int .i64) (.pair (.int .i64) (.int .i64)))), (4, .view false 9 .str)], 6⟩
def spec_SetupText.Sl3 : Shape := ⟨[(1, false, [.ptr 5 0]), (4, false, [.str]), (7, false, [.int .i64])], [(5, .blk 30 [.own 0, .own 1, .own 2, .own 3, .own 4]), (0, .view false 53 (.pair (.int .i64) (.int .i64))), (1, .view false 35 (.pair (.int .i64) (.int .i64))), (2, .view false 42 (.pair (.int .i64) (.pair (.int .i64) (.pair (.int .i64) (.pair (.int .i64) (.int .i64)))))), (3, .view false 40 (.pair (.int .i64) (.pair (.int .i64) (.int .i64)))), (4, .view false 9 .str)], 6⟩
def spec_SetupText.Sl4 : Shape := ⟨[(1, false, [.ptr 5 0]), (4, false, [.str]), (9, false, [.int .i64])], [(5, .blk 30 [.own 0, .own 1, .own 2, .own 3, .own 4]), (0, .view false 53 (.pair (.int .i64) (.int .i64))), (1, .view false 35 (.pair (.int .i64) (.int .i64))), (2, .view false 42 (.pair (.int .i64) (.pair (.int .i64) (.pair (.int .i64) (.pair (.int .i64) (.int .i64)))))), (3, .view false 40 (.pair (.int .i64) (.pair (.int .i64) (.int .i64)))), (4, .view false 9 .str)], 6⟩
def spec_SetupText.Sl5 : Shape := ⟨[(1, false, [.ptr 5 0]), (4, false, [.str]), (10, false, [.int .i64])], [(5, .blk 30 [.own 0, .own 1, .own 2, .own 3, .own 4]), (0, .view false 53 (.pair (.int .i64) (.int .i64))), (1, .view false 35 (.pair (.int .i64) (.int .i64))), (2, .view false 42 (.pair (.int .i64) (.pair (.int .i64) (.pair (.int .i64) (.pair (.int .i64) (.int .i64)))))), (3, .view false 40 (.pair (.int .i64) (.pair (.int .i64) (.int .i64)))), (4, .view false 9 .str)], 6⟩
def spec_SetupText.sig : Sig := ⟨[.val true (.pair (.sl 53 (.pair (.int .i64) (.int .i64))) (.pair (.sl 35 (.pair (.int .i64) (.int .i64))) (.pair (.sl 42 (.pair (.int .i64) (.pair (.int .i64) (.pair (.int .i64) (.pair (.int .i64) (.int .i64)))))) (.pair (.sl 40 (.pair (.int .i64) (.pair (.int .i64) (.int .i64)))) (.sl 9 .str))))) [0, 0, 0, 0, 0]], [.val false .str [], .val false .bool []]⟩
def spec_SetupText.F (k : Nat) (x : Args spec_SetupText.sig.ps) : Option (Res spec_SetupText.sig) := spec_SetupText.f k x.1
def spec_SetupText.ann (k : Nat) : Ann (Res spec_SetupText.sig) := (.seq .nil (.seq .nil (.seq .nil (.seq (.seq .nil (.block (.loop spec_SetupText.Sl1 (spec_SetupText.l1 k) fun n1 => .nil))) (.seq .nil (.seq (.seq .nil (.block (.loop spec_SetupText.Sl2 (spec_SetupText.l2 k) fun n1 => .nil))) (.seq .nil (.seq (.seq .nil (.block (.loop spec_SetupText.Sl3 (spec_SetupText.l3 k) fun n1 => .nil))) (.seq .nil (.seq (.seq .nil (.block (.loop spec_SetupText.Sl4 (spec_SetupText.l4 k) fun n1 => .nil))) (.seq (.seq .nil (.block (.loop spec_SetupText.Sl5 (spec_SetupText.l5 k) fun n1 => .nil))) .nil)))))))))))
def spec_SetupText.ent : Ent := ⟨57, spec_SetupText.sig, spec_SetupText.F⟩
def spec_SetupText.ctx (k : Nat) : Ctx := ⟨tds, [spec_SetupFault.ent, spec_l01Var.ent], k, 172⟩
theorem spec_SetupText.runs (k : Nat) (x : Args spec_SetupText.sig.ps) : spec_SetupText.F k x = runF (spec_SetupText.ctx k) spec_SetupText.sig Try.f57 (Try.f57.body.getD .skip) (spec_SetupText.ann k) x := by kernel_rfl
theorem spec_SetupText.obls (k : Nat) : obl (spec_SetupText.ctx k) 5 (Try.f57.body.getD .skip) (spec_SetupText.ann k) (retK tds spec_SetupText.sig Try.f57.results.toList) := ⟨trivial, ⟨⟨trivial, ⟨⟨trivial, trivial⟩, trivial⟩⟩, ⟨trivial, ⟨⟨trivial, ⟨⟨by kernel_rfl, fun x => by kernel_rfl⟩, fun n => ⟨fun x => by kernel_rfl, ⟨⟨trivial, ⟨trivial, trivial⟩⟩, ⟨trivial, trivial⟩⟩⟩⟩⟩, ⟨trivial, ⟨⟨trivial, ⟨⟨by kernel_rfl, fun x => by kernel_rfl⟩, fun n => ⟨fun x => by kernel_rfl, ⟨⟨trivial, ⟨trivial, trivial⟩⟩, ⟨trivial, trivial⟩⟩⟩⟩⟩, ⟨trivial, ⟨⟨trivial, ⟨⟨by kernel_rfl, fun x => by kernel_rfl⟩, fun n => ⟨fun x => by kernel_rfl, ⟨⟨trivial, ⟨trivial, trivial⟩⟩, ⟨⟨trivial, trivial⟩, trivial⟩⟩⟩⟩⟩, ⟨trivial, ⟨⟨trivial, ⟨⟨by kernel_rfl, fun x => by kernel_rfl⟩, fun n => ⟨fun x => by kernel_rfl, ⟨⟨trivial, ⟨trivial, trivial⟩⟩, ⟨trivial, trivial⟩⟩⟩⟩⟩, ⟨⟨trivial, ⟨⟨by kernel_rfl, fun x => by kernel_rfl⟩, fun n => ⟨fun x => by kernel_rfl, ⟨⟨trivial, ⟨trivial, trivial⟩⟩, ⟨trivial, trivial⟩⟩⟩⟩⟩, ⟨trivial, trivial⟩⟩⟩⟩⟩⟩⟩⟩⟩⟩⟩⟩
theorem spec_SetupText.ok (k : Nat) : EntOk Try.prog k spec_SetupText.ent := fn_ok (C := spec_SetupText.ctx k) Try.func57 (by kernel_rfl) (by kernel_rfl) mixed tdsOk (.cons (spec_SetupFault.ok k) (.cons (spec_l01Var.ok k) EntsOk.nil)) (by kernel_rfl) (Nat.le_of_ble_eq_true (by kernel_rfl)) (by kernel_rfl) (spec_SetupText.runs k) (spec_SetupText.obls k)
/-! loop.example/g00200/impl.VarText -/
def impl_VarText.l1 (k : Nat)  : Nat → Int × List Int × Unit → Option (ByteArray × Bool)
  | 0, _ => none
  | n + 1, (x1, x2, _) => if 127 < x1 then (((some ([IntKind.u8.wrap (w64 ((Int.tmod x1 128) + 128))] : List Int))).bind fun y3 => (if (x2.length + y3.length) * 1 ≤ 140737488355328 then (((some (x2 ++ y3))).bind fun y4 => (impl_VarText.l1 k n (w64 (Int.tdiv x1 128), y4, ()))) else none)) else (((some ([IntKind.u8.wrap (x1)] : List Int))).bind fun y5 => (if (x2.length + y5.length) * 1 ≤ 140737488355328 then (((some (x2 ++ y5))).bind fun y6 => (some (chrs y6, true))) else none))
def impl_VarText.f (k : Nat) (a0 : Int) : Option (ByteArray × Bool) :=
  (impl_within.f k a0 0 1000000000).bind fun t1 => (if ¬ t1 = true then (some ((⟨#[]⟩ : ByteArray), false)) else (((some ([] : List Int))).bind fun y2 => (impl_VarText.l1 k k (a0, y2, ()))))
def impl_VarText.Sl1 : Shape := ⟨[(0, false, [.int .i64]), (4, false, [.own 0])], [(0, .row 5 (.int .u8))], 1⟩
def impl_VarText.sig : Sig := ⟨[.val false (.int .i64) []], [.val false .str [], .val false .bool []]⟩
def impl_VarText.F (k : Nat) (x : Args impl_VarText.sig.ps) : Option (Res impl_VarText.sig) := impl_VarText.f k x.1
def impl_VarText.ann (k : Nat) : Ann (Res impl_VarText.sig) := (.seq .nil (.seq .nil (.seq .nil (.seq (.block (.loop impl_VarText.Sl1 (impl_VarText.l1 k) fun n1 => .nil)) .nil))))
def impl_VarText.ent : Ent := ⟨180, impl_VarText.sig, impl_VarText.F⟩
def impl_VarText.ctx (k : Nat) : Ctx := ⟨tds, [impl_within.ent], k, 26⟩
theorem impl_VarText.runs (k : Nat) (x : Args impl_VarText.sig.ps) : impl_VarText.F k x = runF (impl_VarText.ctx k) impl_VarText.sig Try.f180 (Try.f180.body.getD .skip) (impl_VarText.ann k) x := by kernel_rfl
theorem impl_VarText.obls (k : Nat) : obl (impl_VarText.ctx k) 0 (Try.f180.body.getD .skip) (impl_VarText.ann k) (retK tds impl_VarText.sig Try.f180.results.toList) := ⟨trivial, ⟨⟨trivial, ⟨⟨trivial, trivial⟩, trivial⟩⟩, ⟨trivial, ⟨⟨⟨by kernel_rfl, fun x => by kernel_rfl⟩, fun n => ⟨fun x => by kernel_rfl, ⟨⟨trivial, ⟨trivial, trivial⟩⟩, ⟨trivial, trivial⟩⟩⟩⟩, ⟨trivial, trivial⟩⟩⟩⟩⟩
theorem impl_VarText.ok (k : Nat) : EntOk Try.prog k impl_VarText.ent := fn_ok (C := impl_VarText.ctx k) Try.func180 (by kernel_rfl) (by kernel_rfl) mixed tdsOk (.cons (impl_within.ok k) EntsOk.nil) (by kernel_rfl) (Nat.le_of_ble_eq_true (by kernel_rfl)) (by kernel_rfl) (impl_VarText.runs k) (impl_VarText.obls k)
/-! loop.example/g00200/impl.numbers -/
def impl_numbers.l1 (k : Nat)  : Nat → ByteArray × Int × Int × List Int × Unit → Option (ByteArray)
  | 0, _ => none
  | n + 1, (x1, x2, x3, x4, _) => if x3 < x2 then (if 0 ≤ x3 then (if x3 < (x4.length : Int) then ((impl_VarText.f k (el (.int .i64) x4 x3.toNat)).bind fun t1 => (if x1.size + t1.1.size ≤ 9223372036854775807 then (impl_numbers.l1 k n (x1 ++ t1.1, x2, w64 (x3 + 1), x4, ())) else none)) else none) else none) else (some x1)
def impl_numbers.f (k : Nat) (a0 : List Int) : Option (ByteArray) :=
  impl_numbers.l1 k k ((⟨#[]⟩ : ByteArray), (a0.length : Int), 0, a0, ())
def impl_numbers.Sl1 : Shape := ⟨[(3, false, [.str]), (8, false, [.own 0]), (9, false, [.int .i64]), (10, false, [.int .i64])], [(0, .view false 3 (.int .i64))], 1⟩
def impl_numbers.sig : Sig := ⟨[.val false (.sl 3 (.int .i64)) [0]], [.val false .str []]⟩
def impl_numbers.F (k : Nat) (x : Args impl_numbers.sig.ps) : Option (Res impl_numbers.sig) := impl_numbers.f k x.1
def impl_numbers.ann (k : Nat) : Ann (Res impl_numbers.sig) := (.seq .nil (.seq .nil (.seq (.seq .nil (.block (.loop impl_numbers.Sl1 (impl_numbers.l1 k) fun n1 => .nil))) .nil)))
def impl_numbers.ent : Ent := ⟨140, impl_numbers.sig, impl_numbers.F⟩
def impl_numbers.ctx (k : Nat) : Ctx := ⟨tds, [impl_VarText.ent], k, 24⟩
theorem impl_numbers.runs (k : Nat) (x : Args impl_numbers.sig.ps) : impl_numbers.F k x = runF (impl_numbers.ctx k) impl_numbers.sig Try.f140 (Try.f140.body.getD .skip) (impl_numbers.ann k) x := by kernel_rfl
theorem impl_numbers.obls (k : Nat) : obl (impl_numbers.ctx k) 1 (Try.f140.body.getD .skip) (impl_numbers.ann k) (retK tds impl_numbers.sig Try.f140.results.toList) := ⟨trivial, ⟨trivial, ⟨⟨trivial, ⟨⟨by kernel_rfl, fun x => by kernel_rfl⟩, fun n => ⟨fun x => by kernel_rfl, ⟨trivial, ⟨⟨trivial, trivial⟩, ⟨⟨trivial, ⟨trivial, trivial⟩⟩, trivial⟩⟩⟩⟩⟩⟩, ⟨trivial, trivial⟩⟩⟩⟩
theorem impl_numbers.ok (k : Nat) : EntOk Try.prog k impl_numbers.ent := fn_ok (C := impl_numbers.ctx k) Try.func140 (by kernel_rfl) (by kernel_rfl) mixed tdsOk (.cons (impl_VarText.ok k) EntsOk.nil) (by kernel_rfl) (Nat.le_of_ble_eq_true (by kernel_rfl)) (by kernel_rfl) (impl_numbers.runs k) (impl_numbers.obls k)
/-! loop.example/g00200/impl.ShortText -/
def impl_ShortText.f (k : Nat) (a0 : ByteArray) : Option (ByteArray × Bool) :=
  if 20000 < (a0.size : Int) then (some ((⟨#[]⟩ : ByteArray), false)) else ((impl_VarText.f k (a0.size : Int)).bind fun t1 => (if t1.1.size + a0.size ≤ 9223372036854775807 then (some (t1.1 ++ a0, true)) else none))
def impl_ShortText.sig : Sig := ⟨[.val false .str []], [.val false .str [], .val false .bool []]⟩
def impl_ShortText.F (k : Nat) (x : Args impl_ShortText.sig.ps) : Option (Res impl_ShortText.sig) := impl_ShortText.f k x.1
def impl_ShortText.ann (k : Nat) : Ann (Res impl_ShortText.sig) := .nil
def impl_ShortText.ent : Ent := ⟨141, impl_ShortText.sig, impl_ShortText.F⟩
def impl_ShortText.ctx (k : Nat) : Ctx := ⟨tds, [impl_VarText.ent], k, 18⟩
theorem impl_ShortText.runs (k : Nat) (x : Args impl_ShortText.sig.ps) : impl_ShortText.F k x = runF (impl_ShortText.ctx k) impl_ShortText.sig Try.f141 (Try.f141.body.getD .skip) (impl_ShortText.ann k) x := by kernel_rfl
theorem impl_ShortText.obls (k : Nat) : obl (impl_ShortText.ctx k) 0 (Try.f141.body.getD .skip) (impl_ShortText.ann k) (retK tds impl_ShortText.sig Try.f141.results.toList) := ⟨trivial, ⟨⟨trivial, ⟨⟨trivial, trivial⟩, trivial⟩⟩, ⟨trivial, ⟨trivial, trivial⟩⟩⟩⟩
theorem impl_ShortText.ok (k : Nat) : EntOk Try.prog k impl_ShortText.ent := fn_ok (C := impl_ShortText.ctx k) Try.func141 (by kernel_rfl) (by kernel_rfl) mixed tdsOk (.cons (impl_VarText.ok k) EntsOk.nil) (by kernel_rfl) (Nat.le_of_ble_eq_true (by kernel_rfl)) (by kernel_rfl) (impl_ShortText.runs k) (impl_ShortText.obls k)
/-! loop.example/g00200/impl.SetupText -/
def impl_SetupText.l5 (k : Nat)  : Nat → ByteArray × Int × Int × List ByteArray × Unit → Option (ByteArray × Bool)
  | 0, _ => none
  | n + 1, (x1, x2, x3, x4, _) => if x3 < x2 then (if 0 ≤ x3 then (if x3 < (x4.length : Int) then ((impl_ShortText.f k (el .str x4 x3.toNat)).bind fun t18 => (if x1.size + t18.1.size ≤ 9223372036854775807 then (impl_SetupText.l5 k n (x1 ++ t18.1, x2, w64 (x3 + 1), x4, ())) else none)) else none) else none) else (some (x1, true))
def impl_SetupText.l4 (k : Nat)  : Nat → ByteArray × Int × Int × (List (Int × Int)) × (List (Int × Int)) × (List (Int × Int × Int × Int × Int)) × (List (Int × Int × Int)) × List ByteArray × Unit → Option (ByteArray × Bool)
  | 0, _ => none
  | n + 1, (x1, x2, x3, x4, x5, x6, x7, x8, _) => if x3 < x2 then (if 0 ≤ x3 then (if x3 < (x7.length : Int) then (((some ([(el (.pair (.int .i64) (.pair (.int .i64) (.int .i64))) x7 x3.toNat).1, ((el (.pair (.int .i64) (.pair (.int .i64) (.int .i64))) x7 x3.toNat).2).1, ((el (.pair (.int .i64) (.pair (.int .i64) (.int .i64))) x7 x3.toNat).2).2] : List Int))).bind fun y16 => ((impl_numbers.f k y16).bind fun t17 => (if x1.size + t17.size ≤ 9223372036854775807 then (impl_SetupText.l4 k n (x1 ++ t17, x2, w64 (x3 + 1), x4, x5, x6, x7, x8, ())) else none))) else none) else none) else (impl_SetupText.l5 k k (x1, (x8.length : Int), 0, x8, ()))
def impl_SetupText.l3 (k : Nat)  : Nat → ByteArray × Int × Int × (List (Int × Int)) × (List (Int × Int)) × (List (Int × Int × Int × Int × Int)) × (List (Int × Int × Int)) × List ByteArray × Unit → Option (ByteArray × Bool)
  | 0, _ => none
  | n + 1, (x1, x2, x3, x4, x5, x6, x7, x8, _) => if x3 < x2 then (if 0 ≤ x3 then (if x3 < (x6.length : Int) then (((some ([(el (.pair (.int .i64) (.pair (.int .i64) (.pair (.int .i64) (.pair (.int .i64) (.int .i64))))) x6 x3.toNat).1, ((el (.pair (.int .i64) (.pair (.int .i64) (.pair (.int .i64) (.pair (.int .i64) (.int .i64))))) x6 x3.toNat).2).1, (((el (.pair (.int .i64) (.pair (.int .i64) (.pair (.int .i64) (.pair (.int .i64) (.int .i64))))) x6 x3.toNat).2).2).1, ((((el (.pair (.int .i64) (.pair (.int .i64) (.pair (.int .i64) (.pair (.int .i64) (.int .i64))))) x6 x3.toNat).2).2).2).1, ((((el (.pair (.int .i64) (.pair (.int .i64) (.pair (.int .i64) (.pair (.int .i64) (.int .i64))))) x6 x3.toNat).2).2).2).2] : List Int))).bind fun y12 => ((impl_numbers.f k y12).bind fun t13 => (if x1.size + t13.size ≤ 9223372036854775807 then (impl_SetupText.l3 k n (x1 ++ t13, x2, w64 (x3 + 1), x4, x5, x6, x7, x8, ())) else none))) else none) else none) else (((some ([(x7.length : Int)] : List Int))).bind fun y14 => ((impl_numbers.f k y14).bind fun t15 => (if x1.size + t15.size ≤ 9223372036854775807 then (impl_SetupText.l4 k k (x1 ++ t15, (x7.length : Int), 0, x4, x5, x6, x7, x8, ())) else none)))
def impl_SetupText.l2 (k : Nat)  : Nat → ByteArray × Int × Int × (List (Int × Int)) × (List (Int × Int)) × (List (Int × Int × Int × Int × Int)) × (List (Int × Int × Int)) × List ByteArray × Unit → Option (ByteArray × Bool)
  | 0, _ => none
  | n + 1, (x1, x2, x3, x4, x5, x6, x7, x8, _) => if x3 < x2 then (if 0 ≤ x3 then (if x3 < (x5.length : Int) then (((some ([(el (.pair (.int .i64) (.int .i64)) x5 x3.toNat).1, (el (.pair (.int .i64) (.int .i64)) x5 x3.toNat).2] : List Int))).bind fun y8 => ((impl_numbers.f k y8).bind fun t9 => (if x1.size + t9.size ≤ 9223372036854775807 then (impl_SetupText.l2 k n (x1 ++ t9, x2, w64 (x3 + 1), x4, x5, x6, x7, x8, ())) else none))) else none) else none) else (((some ([(x6.length : Int)] : List Int))).bind fun y10 => ((impl_numbers.f k y10).bind fun t11 => (if x1.size + t11.size ≤ 9223372036854775807 then (impl_SetupText.l3 k k (x1 ++ t11, (x6.length : Int), 0, x4, x5, x6, x7, x8, ())) else none)))
def impl_SetupText.l1 (k : Nat)  : Nat → ByteArray × Int × Int × (List (Int × Int)) × (List (Int × Int)) × (List (Int × Int × Int × Int × Int)) × (List (Int × Int × Int)) × List ByteArray × Unit → Option (ByteArray × Bool)
  | 0, _ => none
  | n + 1, (x1, x2, x3, x4, x5, x6, x7, x8, _) => if x3 < x2 then (if 0 ≤ x3 then (if x3 < (x4.length : Int) then (((some ([(el (.pair (.int .i64) (.int .i64)) x4 x3.toNat).1, (el (.pair (.int .i64) (.int .i64)) x4 x3.toNat).2] : List Int))).bind fun y4 => ((impl_numbers.f k y4).bind fun t5 => (if x1.size + t5.size ≤ 9223372036854775807 then (impl_SetupText.l1 k n (x1 ++ t5, x2, w64 (x3 + 1), x4, x5, x6, x7, x8, ())) else none))) else none) else none) else (((some ([(x5.length : Int)] : List Int))).bind fun y6 => ((impl_numbers.f k y6).bind fun t7 => (if x1.size + t7.size ≤ 9223372036854775807 then (impl_SetupText.l2 k k (x1 ++ t7, (x5.length : Int), 0, x4, x5, x6, x7, x8, ())) else none)))
def impl_SetupText.f (k : Nat) (a0 : List (Int × Int) × List (Int × Int) × List (Int × Int × Int × Int × Int) × List (Int × Int × Int) × List ByteArray) : Option (ByteArray × Bool) :=
  (impl_SetupFault.f k a0).bind fun t1 => (if ¬ t1 = 0 then (some ((⟨#[]⟩ : ByteArray), false)) else (((some ([(a0.1.length : Int)] : List Int))).bind fun y2 => ((impl_numbers.f k y2).bind fun t3 => (impl_SetupText.l1 k k (t3, (a0.1.length : Int), 0, a0.1, a0.2.1, a0.2.2.1, a0.2.2.2.1, a0.2.2.2.2, ())))))
def impl_SetupText.Sl1 : Shape := ⟨[(1, false, [.ptr 5 0]), (4, false, [.str]), (26, false, [.own 0]), (27, false, [.int .i64]), (28, false, [.int .i64])], [(5, .blk 30 [.own 0, .own 1, .own 2, .own 3, .own 4]), (0, .view false 53 (.pair (.int .i64) (.int .i64))), (1, .view false 35 (.pair (.int .i64) (.int .i64))), (2, .view false 42 (.pair (.int .i64) (.pair (.int .i64) (.pair (.int .i64) (.pair (.int .i64) (.int .i64)))))), (3, .view false 40 (.pair (.int .i64) (.pair (.int .i64) (.int .i64)))), (4, .view false 9 .str)], 6⟩
def impl_SetupText.Sl2 : Shape := ⟨[(1, false, [.ptr 5 0]), (4, false, [.str]), (49, false, [.own 1]), (50, false, [.int .i64]), (51, false, [.int .i64])], [(5, .blk 30 [.own 0, .own 1, .own 2, .own 3, .own 4]), (0, .view false 53 (.pair (.int .i64) (.int .i64))), (1, .view false 35 (.pair (.int .i64) (.int .i64))), (2, .view false 42 (.pair (.int .i64) (.pair (.int .i64) (.pair (.int .i64) (.pair (.int .i64) (.int .i64)))))), (3, .view false 40 (.pair (.int .i64) (.pair (.int .i64) (.int .i64)))), (4, .view false 9 .str)], 6⟩
def impl_SetupText.Sl3 : Shape := ⟨[(1, false, [.ptr 5 0]), (4, false, [.str]), (72, false, [.own 2]), (73, false, [.int .i64]), (74, false, [.int .i64])], [(5, .blk 30 [.own 0, .own 1, .own 2, .own 3, .own 4]), (0, .view false 53 (.pair (.int .i64) (.int .i64))), (1, .view false 35 (.pair (.int .i64) (.int .i64))), (2, .view false 42 (.pair (.int .i64) (.pair (.int .i64) (.pair (.int .i64) (.pair (.int .i64) (.int .i64)))))), (3, .view false 40 (.pair (.int .i64) (.pair (.int .i64) (.int .i64)))), (4, .view false 9 .str)], 6⟩
def impl_SetupText.Sl4 : Shape := ⟨[(1, false, [.ptr 5 0]), (4, false, [.str]), (101, false, [.own 3]), (102, false, [.int .i64]), (103, false, [.int .i64])], [(5, .blk 30 [.own 0, .own 1, .own 2, .own 3, .own 4]), (0, .view false 53 (.pair (.int .i64) (.int .i64))), (1, .view false 35 (.pair (.int .i64) (.int .i64))), (2, .view false 42 (.pair (.int .i64) (.pair (.int .i64) (.pair (.int .i64) (.pair (.int .i64) (.int .i64)))))), (3, .view false 40 (.pair (.int .i64) (.pair (.int .i64) (.int .i64)))), (4, .view false 9 .str)], 6⟩
def impl_SetupText.Sl5 : Shape := ⟨[(4, false, [.str]), (119, false, [.own 4]), (120, false, [.int .i64]), (121, false, [.int .i64])], [(4, .view false 9 .str)], 5⟩
def impl_SetupText.sig : Sig := ⟨[.val true (.pair (.sl 53 (.pair (.int .i64) (.int .i64))) (.pair (.sl 35 (.pair (.int .i64) (.int .i64))) (.pair (.sl 42 (.pair (.int .i64) (.pair (.int .i64) (.pair (.int .i64) (.pair (.int .i64) (.int .i64)))))) (.pair (.sl 40 (.pair (.int .i64) (.pair (.int .i64) (.int .i64)))) (.sl 9 .str))))) [0, 0, 0, 0, 0]], [.val false .str [], .val false .bool []]⟩
def impl_SetupText.F (k : Nat) (x : Args impl_SetupText.sig.ps) : Option (Res impl_SetupText.sig) := impl_SetupText.f k x.1
def impl_SetupText.ann (k : Nat) : Ann (Res impl_SetupText.sig) := (.seq .nil (.seq .nil (.seq .nil (.seq (.seq .nil (.block (.loop impl_SetupText.Sl1 (impl_SetupText.l1 k) fun n1 => .nil))) (.seq .nil (.seq (.seq .nil (.block (.loop impl_SetupText.Sl2 (impl_SetupText.l2 k) fun n1 => .nil))) (.seq .nil (.seq (.seq .nil (.block (.loop impl_SetupText.Sl3 (impl_SetupText.l3 k) fun n1 => .nil))) (.seq .nil (.seq (.seq .nil (.block (.loop impl_SetupText.Sl4 (impl_SetupText.l4 k) fun n1 => .nil))) (.seq (.seq .nil (.block (.loop impl_SetupText.Sl5 (impl_SetupText.l5 k) fun n1 => .nil))) .nil)))))))))))
def impl_SetupText.ent : Ent := ⟨58, impl_SetupText.sig, impl_SetupText.F⟩
def impl_SetupText.ctx (k : Nat) : Ctx := ⟨tds, [impl_SetupFault.ent, impl_numbers.ent, impl_ShortText.ent], k, 135⟩
theorem impl_SetupText.runs (k : Nat) (x : Args impl_SetupText.sig.ps) : impl_SetupText.F k x = runF (impl_SetupText.ctx k) impl_SetupText.sig Try.f58 (Try.f58.body.getD .skip) (impl_SetupText.ann k) x := by kernel_rfl
theorem impl_SetupText.obls (k : Nat) : obl (impl_SetupText.ctx k) 5 (Try.f58.body.getD .skip) (impl_SetupText.ann k) (retK tds impl_SetupText.sig Try.f58.results.toList) := ⟨trivial, ⟨⟨trivial, ⟨⟨trivial, trivial⟩, trivial⟩⟩, ⟨trivial, ⟨⟨trivial, ⟨⟨by kernel_rfl, fun x => by kernel_rfl⟩, fun n => ⟨fun x => by kernel_rfl, ⟨trivial, ⟨⟨trivial, trivial⟩, ⟨⟨trivial, trivial⟩, trivial⟩⟩⟩⟩⟩⟩, ⟨trivial, ⟨⟨trivial, ⟨⟨by kernel_rfl, fun x => by kernel_rfl⟩, fun n => ⟨fun x => by kernel_rfl, ⟨trivial, ⟨⟨trivial, trivial⟩, ⟨⟨trivial, trivial⟩, trivial⟩⟩⟩⟩⟩⟩, ⟨trivial, ⟨⟨trivial, ⟨⟨by kernel_rfl, fun x => by kernel_rfl⟩, fun n => ⟨fun x => by kernel_rfl, ⟨trivial, ⟨⟨trivial, trivial⟩, ⟨⟨trivial, trivial⟩, trivial⟩⟩⟩⟩⟩⟩, ⟨trivial, ⟨⟨trivial, ⟨⟨by kernel_rfl, fun x => by kernel_rfl⟩, fun n => ⟨fun x => by kernel_rfl, ⟨trivial, ⟨⟨trivial, trivial⟩, ⟨⟨trivial, trivial⟩, trivial⟩⟩⟩⟩⟩⟩, ⟨⟨trivial, ⟨⟨by kernel_rfl, fun x => by kernel_rfl⟩, fun n => ⟨fun x => by kernel_rfl, ⟨trivial, ⟨⟨trivial, trivial⟩, ⟨⟨trivial, ⟨trivial, trivial⟩⟩, trivial⟩⟩⟩⟩⟩⟩, ⟨trivial, trivial⟩⟩⟩⟩⟩⟩⟩⟩⟩⟩⟩⟩
theorem impl_SetupText.ok (k : Nat) : EntOk Try.prog k impl_SetupText.ent := fn_ok (C := impl_SetupText.ctx k) Try.func58 (by kernel_rfl) (by kernel_rfl) mixed tdsOk (.cons (impl_SetupFault.ok k) (.cons (impl_numbers.ok k) (.cons (impl_ShortText.ok k) EntsOk.nil))) (by kernel_rfl) (Nat.le_of_ble_eq_true (by kernel_rfl)) (by kernel_rfl) (impl_SetupText.runs k) (impl_SetupText.obls k)
/-! loop.example/g00200/spec.ReadVar -/
def spec_ReadVar.l1 (k : Nat)  : Nat → ByteArray × Int × Int × Int × Int × Unit → Option (Int × Int × Bool)
  | 0, _ => none
  | n + 1, (x1, x2, x3, x4, x5, _) => if x5 < (x1.size : Int) then (if x5 < (w64 (x2 + 5)) then (if 0 ≤ x5 then (if x5 < (x1.size : Int) then (if 0 ≤ x5 then (if x5 < (x1.size : Int) then (if (bt x1 x5) < 128 then (if 1000000000 < (w64 (x3 + (w64 ((Int.tmod (w64 (bt x1 x5)) 128) * x4)))) then (some (0, 0, false)) else ((spec_l01Var.f k (w64 (x3 + (w64 ((Int.tmod (w64 (bt x1 x5)) 128) * x4))))).bind fun t2 => (if 0 ≤ x2 then (if x2 ≤ w64 (x5 + 1) then (if w64 (x5 + 1) ≤ (x1.size : Int) then (if ¬ t2 = (x1.extract x2.toNat ((w64 (x5 + 1)).toNat)) then (some (0, 0, false)) else (some (w64 (x3 + (w64 ((Int.tmod (w64 (bt x1 x5)) 128) * x4))), w64 (x5 + 1), true))) else none) else none) else none))) else (spec_ReadVar.l1 k n (x1, x2, w64 (x3 + (w64 ((Int.tmod (w64 (bt x1 x5)) 128) * x4))), w64 (x4 * 128), w64 (x5 + 1), ()))) else none) else none) else none) else none) else (some (0, 0, false))) else (some (0, 0, false))
def spec_ReadVar.f (k : Nat) (a0 : ByteArray) (a1 : Int) : Option (Int × Int × Bool) :=
  (spec_l01In.f k a1 0 (a0.size : Int)).bind fun t1 => (if ¬ t1 = true then (some (0, 0, false)) else (spec_ReadVar.l1 k k (a0, a1, 0, 1, a1, ())))
def spec_ReadVar.Sl1 : Shape := ⟨[(0, false, [.str]), (1, false, [.int .i64]), (7, false, [.int .i64]), (8, false, [.int .i64]), (9, false, [.int .i64])], [], 0⟩
def spec_ReadVar.sig : Sig := ⟨[.val false .str [], .val false (.int .i64) []], [.val false (.int .i64) [], .val false (.int .i64) [], .val false .bool []]⟩
def spec_ReadVar.F (k : Nat) (x : Args spec_ReadVar.sig.ps) : Option (Res spec_ReadVar.sig) := spec_ReadVar.f k x.1 x.2.1
def spec_ReadVar.ann (k : Nat) : Ann (Res spec_ReadVar.sig) := (.seq .nil (.seq .nil (.seq .nil (.seq .nil (.seq (.seq .nil (.block (.loop spec_ReadVar.Sl1 (spec_ReadVar.l1 k) fun n1 => .nil))) .nil)))))
def spec_ReadVar.ent : Ent := ⟨181, spec_ReadVar.sig, spec_ReadVar.F⟩
def spec_ReadVar.ctx (k : Nat) : Ctx := ⟨tds, [spec_l01In.ent, spec_l01Var.ent], k, 58⟩
theorem spec_ReadVar.runs (k : Nat) (x : Args spec_ReadVar.sig.ps) : spec_ReadVar.F k x = runF (spec_ReadVar.ctx k) spec_ReadVar.sig Try.f181 (Try.f181.body.getD .skip) (spec_ReadVar.ann k) x := by kernel_rfl
theorem spec_ReadVar.obls (k : Nat) : obl (spec_ReadVar.ctx k) 0 (Try.f181.body.getD .skip) (spec_ReadVar.ann k) (retK tds spec_ReadVar.sig Try.f181.results.toList) := ⟨trivial, ⟨⟨trivial, ⟨⟨trivial, trivial⟩, trivial⟩⟩, ⟨trivial, ⟨trivial, ⟨⟨trivial, ⟨⟨by kernel_rfl, fun x => by kernel_rfl⟩, fun n => ⟨fun x => by kernel_rfl, ⟨⟨trivial, ⟨trivial, trivial⟩⟩, ⟨⟨trivial, ⟨trivial, ⟨trivial, ⟨⟨⟨trivial, ⟨⟨trivial, trivial⟩, trivial⟩⟩, ⟨trivial, trivial⟩⟩, trivial⟩⟩⟩⟩, trivial⟩⟩⟩⟩⟩, ⟨trivial, trivial⟩⟩⟩⟩⟩⟩
theorem spec_ReadVar.ok (k : Nat) : EntOk Try.prog k spec_ReadVar.ent := fn_ok (C := spec_ReadVar.ctx k) Try.func181 (by kernel_rfl) (by kernel_rfl) mixed tdsOk (.cons (spec_l01In.ok k) (.cons (spec_l01Var.ok k) EntsOk.nil)) (by kernel_rfl) (Nat.le_of_ble_eq_true (by kernel_rfl)) (by kernel_rfl) (spec_ReadVar.runs k) (spec_ReadVar.obls k)
/-! loop.example/g00200/spec.l11Var -/
def spec_l11Var.f (k : Nat) (a0 : ByteArray × Int × Bool) : Option (Int × ByteArray × Int × Bool) :=
  (spec_ReadVar.f k a0.1 a0.2.1).bind fun t1 => (if a0.2.2 = true then (some (0, (a0.1, (a0.2.1, true)))) else (if ¬ t1.2.2 = true then (some (0, (a0.1, (a0.2.1, true)))) else (some (t1.1, (a0.1, (t1.2.1, a0.2.2))))))
def spec_l11Var.sig : Sig := ⟨[.ptr 171 (.pair .str (.pair (.int .i64) .bool)) []], [.val false (.int .i64) []]⟩
def spec_l11Var.F (k : Nat) (x : Args spec_l11Var.sig.ps) : Option (Res spec_l11Var.sig) := spec_l11Var.f k x.1
def spec_l11Var.ann (k : Nat) : Ann (Res spec_l11Var.sig) := .nil
def spec_l11Var.ent : Ent := ⟨142, spec_l11Var.sig, spec_l11Var.F⟩
def spec_l11Var.ctx (k : Nat) : Ctx := ⟨tds, [spec_ReadVar.ent], k, 35⟩
theorem spec_l11Var.runs (k : Nat) (x : Args spec_l11Var.sig.ps) : spec_l11Var.F k x = runF (spec_l11Var.ctx k) spec_l11Var.sig Try.f142 (Try.f142.body.getD .skip) (spec_l11Var.ann k) x := by kernel_rfl
theorem spec_l11Var.obls (k : Nat) : obl (spec_l11Var.ctx k) 1 (Try.f142.body.getD .skip) (spec_l11Var.ann k) (retK tds spec_l11Var.sig Try.f142.results.toList) := ⟨trivial, ⟨trivial, ⟨⟨trivial, ⟨⟨trivial, ⟨trivial, trivial⟩⟩, trivial⟩⟩, ⟨trivial, ⟨trivial, trivial⟩⟩⟩⟩⟩
theorem spec_l11Var.ok (k : Nat) : EntOk Try.prog k spec_l11Var.ent := fn_ok (C := spec_l11Var.ctx k) Try.func142 (by kernel_rfl) (by kernel_rfl) mixed tdsOk (.cons (spec_ReadVar.ok k) EntsOk.nil) (by kernel_rfl) (Nat.le_of_ble_eq_true (by kernel_rfl)) (by kernel_rfl) (spec_l11Var.runs k) (spec_l11Var.obls k)
/-! loop.example/g00200/spec.ReadShort -/
def spec_ReadShort.f (k : Nat) (a0 : ByteArray) (a1 : Int) : Option (ByteArray × Int × Bool) :=
  (spec_ReadVar.f k a0 a1).bind fun t1 => (if ¬ t1.2.2 = true then (some ((⟨#[]⟩ : ByteArray), 0, false)) else (if 20000 < t1.1 then (some ((⟨#[]⟩ : ByteArray), 0, false)) else (if (w64 ((a0.size : Int) - t1.2.1)) < t1.1 then (some ((⟨#[]⟩ : ByteArray), 0, false)) else (if 0 ≤ t1.2.1 then (if t1.2.1 ≤ w64 (t1.2.1 + t1.1) then (if w64 (t1.2.1 + t1.1) ≤ (a0.size : Int) then (some (a0.extract t1.2.1.toNat ((w64 (t1.2.1 + t1.1)).toNat), w64 (t1.2.1 + t1.1), true)) else none) else none) else none))))
def spec_ReadShort.sig : Sig := ⟨[.val false .str [], .val false (.int .i64) []], [.val false .str [], .val false (.int .i64) [], .val false .bool []]⟩
def spec_ReadShort.F (k : Nat) (x : Args spec_ReadShort.sig.ps) : Option (Res spec_ReadShort.sig) := spec_ReadShort.f k x.1 x.2.1
def spec_ReadShort.ann (k : Nat) : Ann (Res spec_ReadShort.sig) := .nil
def spec_ReadShort.ent : Ent := ⟨182, spec_ReadShort.sig, spec_ReadShort.F⟩
def spec_ReadShort.ctx (k : Nat) : Ctx := ⟨tds, [spec_ReadVar.ent], k, 40⟩
theorem spec_ReadShort.runs (k : Nat) (x : Args spec_ReadShort.sig.ps) : spec_ReadShort.F k x = runF (spec_ReadShort.ctx k) spec_ReadShort.sig Try.f182 (Try.f182.body.getD .skip) (spec_ReadShort.ann k) x := by kernel_rfl
theorem spec_ReadShort.obls (k : Nat) : obl (spec_ReadShort.ctx k) 0 (Try.f182.body.getD .skip) (spec_ReadShort.ann k) (retK tds spec_ReadShort.sig Try.f182.results.toList) := ⟨trivial, ⟨trivial, ⟨⟨trivial, ⟨⟨trivial, trivial⟩, trivial⟩⟩, ⟨trivial, trivial⟩⟩⟩⟩
theorem spec_ReadShort.ok (k : Nat) : EntOk Try.prog k spec_ReadShort.ent := fn_ok (C := spec_ReadShort.ctx k) Try.func182 (by kernel_rfl) (by kernel_rfl) mixed tdsOk (.cons (spec_ReadVar.ok k) EntsOk.nil) (by kernel_rfl) (Nat.le_of_ble_eq_true (by kernel_rfl)) (by kernel_rfl) (spec_ReadShort.runs k) (spec_ReadShort.obls k)
/-! loop.example/g00200/spec.l11Short -/
def spec_l11Short.f (k : Nat) (a0 : ByteArray × Int × Bool) : Option (ByteArray × ByteArray × Int × Bool) :=
  (spec_ReadShort.f k a0.1 a0.2.1).bind fun t1 => (if a0.2.2 = true then (some ((⟨#[]⟩ : ByteArray), (a0.1, (a0.2.1, true)))) else (if ¬ t1.2.2 = true then (some ((⟨#[]⟩ : ByteArray), (a0.1, (a0.2.1, true)))) else (some (t1.1, (a0.1, (t1.2.1, a0.2.2))))))
def spec_l11Short.sig : Sig := ⟨[.ptr 171 (.pair .str (.pair (.int .i64) .bool)) []], [.val false .str []]⟩
def spec_l11Short.F (k : Nat) (x : Args spec_l11Short.sig.ps) : Option (Res spec_l11Short.sig) := spec_l11Short.f k x.1
def spec_l11Short.ann (k : Nat) : Ann (Res spec_l11Short.sig) := .nil
def spec_l11Short.ent : Ent := ⟨143, spec_l11Short.sig, spec_l11Short.F⟩
def spec_l11Short.ctx (k : Nat) : Ctx := ⟨tds, [spec_ReadShort.ent], k, 35⟩
theorem spec_l11Short.runs (k : Nat) (x : Args spec_l11Short.sig.ps) : spec_l11Short.F k x = runF (spec_l11Short.ctx k) spec_l11Short.sig Try.f143 (Try.f143.body.getD .skip) (spec_l11Short.ann k) x := by kernel_rfl
theorem spec_l11Short.obls (k : Nat) : obl (spec_l11Short.ctx k) 1 (Try.f143.body.getD .skip) (spec_l11Short.ann k) (retK tds spec_l11Short.sig Try.f143.results.toList) := ⟨trivial, ⟨trivial, ⟨⟨trivial, ⟨⟨trivial, ⟨trivial, trivial⟩⟩, trivial⟩⟩, ⟨trivial, ⟨trivial, trivial⟩⟩⟩⟩⟩
theorem spec_l11Short.ok (k : Nat) : EntOk Try.prog k spec_l11Short.ent := fn_ok (C := spec_l11Short.ctx k) Try.func143 (by kernel_rfl) (by kernel_rfl) mixed tdsOk (.cons (spec_ReadShort.ok k) EntsOk.nil) (by kernel_rfl) (Nat.le_of_ble_eq_true (by kernel_rfl)) (by kernel_rfl) (spec_l11Short.runs k) (spec_l11Short.obls k)
/-! loop.example/g00200/spec.ReadSetup -/
def spec_ReadSetup.l5 (k : Nat)  : Nat → ByteArray × Int × ByteArray × Int × Bool × (List (Int × Int)) × (List (Int × Int)) × (List (Int × Int × Int × Int × Int)) × (List (Int × Int × Int)) × List ByteArray × (List (Int × Int)) × (List (Int × Int)) × (List (Int × Int × Int × Int × Int)) × (List (Int × Int × Int)) × List ByteArray × Unit → Option ((List (Int × Int) × List (Int × Int) × List (Int × Int × Int × Int × Int) × List (Int × Int × Int) × List ByteArray) × Bool)
  | 0, _ => none
  | n + 1, (x1, x2, x3, x4, x5, x6, x7, x8, x9, x10, x11, x12, x13, x14, x15, _) => if x2 < (x11.length : Int) then (if ¬ x5 = true then ((spec_l11Short.f k (x3, (x4, x5))).bind fun t31 => (((some ([t31.1] : List ByteArray))).bind fun y32 => (if (x15.length + y32.length) * 16 ≤ 140737488355328 then (((some (x15 ++ y32))).bind fun y33 => (spec_ReadSetup.l5 k n (x1, w64 (x2 + 1), t31.2.1, t31.2.2.1, t31.2.2.2, x6, x7, x8, x9, x10, x11, x12, x13, x14, y33, ()))) else none))) else ((spec_SetupText.f k (x11, (x12, (x13, (x14, x15))))).bind fun t34 => (if x5 = true then (some (([], ([], ([], ([], [])))), false)) else (if ¬ t34.2 = true then (some (([], ([], ([], ([], [])))), false)) else (if ¬ t34.1 = x1 then (some (([], ([], ([], ([], [])))), false)) else (some ((x11, (x12, (x13, (x14, x15)))), true))))))) else ((spec_SetupText.f k (x11, (x12, (x13, (x14, x15))))).bind fun t35 => (if x5 = true then (some (([], ([], ([], ([], [])))), false)) else (if ¬ t35.2 = true then (some (([], ([], ([], ([], [])))), false)) else (if ¬ t35.1 = x1 then (some (([], ([], ([], ([], [])))), false)) else (some ((x11, (x12, (x13, (x14, x15)))), true))))))
def spec_ReadSetup.l4 (k : Nat)  : Nat → ByteArray × Int × Int × ByteArray × Int × Bool × (List (Int × Int)) × (List (Int × Int)) × (List (Int × Int × Int × Int × Int)) × (List (Int × Int × Int)) × List ByteArray × (List (Int × Int)) × (List (Int × Int)) × (List (Int × Int × Int × Int × Int)) × (List (Int × Int × Int)) × List ByteArray × Unit → Option ((List (Int × Int) × List (Int × Int) × List (Int × Int × Int × Int × Int) × List (Int × Int × Int) × List ByteArray) × Bool)
  | 0, _ => none
  | n + 1, (x1, x2, x3, x4, x5, x6, x7, x8, x9, x10, x11, x12, x13, x14, x15, x16, _) => if x3 < x2 then (if x3 < 50 then (if ¬ x6 = true then ((spec_l11Var.f k (x4, (x5, x6))).bind fun t26 => ((spec_l11Var.f k t26.2).bind fun t27 => ((spec_l11Var.f k t27.2).bind fun t28 => (((some ([(t26.1, (t27.1, t28.1))] : List (Int × Int × Int)))).bind fun y29 => (if (x15.length + y29.length) * 24 ≤ 140737488355328 then (((some (x15 ++ y29))).bind fun y30 => (spec_ReadSetup.l4 k n (x1, x2, w64 (x3 + 1), t28.2.1, t28.2.2.1, t28.2.2.2, x7, x8, x9, x10, x11, x12, x13, x14, y30, x16, ()))) else none))))) else (spec_ReadSetup.l5 k k (x1, 0, x4, x5, x6, x7, x8, x9, x10, x11, x12, x13, x14, x15, x16, ()))) else (spec_ReadSetup.l5 k k (x1, 0, x4, x5, x6, x7, x8, x9, x10, x11, x12, x13, x14, x15, x16, ()))) else (spec_ReadSetup.l5 k k (x1, 0, x4, x5, x6, x7, x8, x9, x10, x11, x12, x13, x14, x15, x16, ()))
def spec_ReadSetup.l3 (k : Nat)  : Nat → ByteArray × Int × Int × ByteArray × Int × Bool × (List (Int × Int)) × (List (Int × Int)) × (List (Int × Int × Int × Int × Int)) × (List (Int × Int × Int)) × List ByteArray × (List (Int × Int)) × (List (Int × Int)) × (List (Int × Int × Int × Int × Int)) × (List (Int × Int × Int)) × List ByteArray × Unit → Option ((List (Int × Int) × List (Int × Int) × List (Int × Int × Int × Int × Int) × List (Int × Int × Int) × List ByteArray) × Bool)
  | 0, _ => none
  | n + 1, (x1, x2, x3, x4, x5, x6, x7, x8, x9, x10, x11, x12, x13, x14, x15, x16, _) => if x3 < x2 then (if x3 < 50 then (if ¬ x6 = true then ((spec_l11Var.f k (x4, (x5, x6))).bind fun t16 => ((spec_l11Var.f k t16.2).bind fun t17 => ((spec_l11Var.f k t17.2).bind fun t18 => ((spec_l11Var.f k t18.2).bind fun t19 => ((spec_l11Var.f k t19.2).bind fun t20 => (((some ([(t16.1, (t17.1, (t18.1, (t19.1, t20.1))))] : List (Int × Int × Int × Int × Int)))).bind fun y21 => (if (x14.length + y21.length) * 40 ≤ 140737488355328 then (((some (x14 ++ y21))).bind fun y22 => (spec_ReadSetup.l3 k n (x1, x2, w64 (x3 + 1), t20.2.1, t20.2.2.1, t20.2.2.2, x7, x8, x9, x10, x11, x12, x13, y22, x15, x16, ()))) else none))))))) else ((spec_l11Var.f k (x4, (x5, x6))).bind fun t23 => (spec_ReadSetup.l4 k k (x1, t23.1, 0, t23.2.1, t23.2.2.1, t23.2.2.2, x7, x8, x9, x10, x11, x12, x13, x14, x15, x16, ())))) else ((spec_l11Var.f k (x4, (x5, x6))).bind fun t24 => (spec_ReadSetup.l4 k k (x1, t24.1, 0, t24.2.1, t24.2.2.1, t24.2.2.2, x7, x8, x9, x10, x11, x12, x13, x14, x15, x16, ())))) else ((spec_l11Var.f k (x4, (x5, x6))).bind fun t25 => (spec_ReadSetup.l4 k k (x1, t25.1, 0, t25.2.1, t25.2.2.1, t25.2.2.2, x7, x8, x9, x10, x11, x12, x13, x14, x15, x16, ())))
def spec_ReadSetup.l2 (k : Nat)  : Nat → ByteArray × Int × Int × ByteArray × Int × Bool × (List (Int × Int)) × (List (Int × Int)) × (List (Int × Int × Int × Int × Int)) × (List (Int × Int × Int)) × List ByteArray × (List (Int × Int)) × (List (Int × Int)) × (List (Int × Int × Int × Int × Int)) × (List (Int × Int × Int)) × List ByteArray × Unit → Option ((List (Int × Int) × List (Int × Int) × List (Int × Int × Int × Int × Int) × List (Int × Int × Int) × List ByteArray) × Bool)
  | 0, _ => none
  | n + 1, (x1, x2, x3, x4, x5, x6, x7, x8, x9, x10, x11, x12, x13, x14, x15, x16, _) => if x3 < x2 then (if x3 < 50 then (if ¬ x6 = true then ((spec_l11Var.f k (x4, (x5, x6))).bind fun t9 => ((spec_l11Var.f k t9.2).bind fun t10 => (((some ([(t9.1, t10.1)] : List (Int × Int)))).bind fun y11 => (if (x13.length + y11.length) * 16 ≤ 140737488355328 then (((some (x13 ++ y11))).bind fun y12 => (spec_ReadSetup.l2 k n (x1, x2, w64 (x3 + 1), t10.2.1, t10.2.2.1, t10.2.2.2, x7, x8, x9, x10, x11, x12, y12, x14, x15, x16, ()))) else none)))) else ((spec_l11Var.f k (x4, (x5, x6))).bind fun t13 => (spec_ReadSetup.l3 k k (x1, t13.1, 0, t13.2.1, t13.2.2.1, t13.2.2.2, x7, x8, x9, x10, x11, x12, x13, x14, x15, x16, ())))) else ((spec_l11Var.f k (x4, (x5, x6))).bind fun t14 => (spec_ReadSetup.l3 k k (x1, t14.1, 0, t14.2.1, t14.2.2.1, t14.2.2.2, x7, x8, x9, x10, x11, x12, x13, x14, x15, x16, ())))) else ((spec_l11Var.f k (x4, (x5, x6))).bind fun t15 => (spec_ReadSetup.l3 k k (x1, t15.1, 0, t15.2.1, t15.2.2.1, t15.2.2.2, x7, x8, x9, x10, x11, x12, x13, x14, x15, x16, ())))
def spec_ReadSetup.l1 (k : Nat)  : Nat → ByteArray × Int × Int × ByteArray × Int × Bool × (List (Int × Int)) × (List (Int × Int)) × (List (Int × Int × Int × Int × Int)) × (List (Int × Int × Int)) × List ByteArray × (List (Int × Int)) × (List (Int × Int)) × (List (Int × Int × Int × Int × Int)) × (List (Int × Int × Int)) × List ByteArray × Unit → Option ((List (Int × Int) × List (Int × Int) × List (Int × Int × Int × Int × Int) × List (Int × Int × Int) × List ByteArray) × Bool)
  | 0, _ => none
  | n + 1, (x1, x2, x3, x4, x5, x6, x7, x8, x9, x10, x11, x12, x13, x14, x15, x16, _) => if x3 < x2 then (if x3 < 50 then (if ¬ x6 = true then ((spec_l11Var.f k (x4, (x5, x6))).bind fun t2 => ((spec_l11Var.f k t2.2).bind fun t3 => (((some ([(t2.1, t3.1)] : List (Int × Int)))).bind fun y4 => (if (x12.length + y4.length) * 16 ≤ 140737488355328 then (((some (x12 ++ y4))).bind fun y5 => (spec_ReadSetup.l1 k n (x1, x2, w64 (x3 + 1), t3.2.1, t3.2.2.1, t3.2.2.2, x7, x8, x9, x10, x11, y5, x13, x14, x15, x16, ()))) else none)))) else ((spec_l11Var.f k (x4, (x5, x6))).bind fun t6 => (spec_ReadSetup.l2 k k (x1, t6.1, 0, t6.2.1, t6.2.2.1, t6.2.2.2, x7, x8, x9, x10, x11, x12, x13, x14, x15, x16, ())))) else ((spec_l11Var.f k (x4, (x5, x6))).bind fun t7 => (spec_ReadSetup.l2 k k (x1, t7.1, 0, t7.2.1, t7.2.2.1, t7.2.2.2, x7, x8, x9, x10, x11, x12, x13, x14, x15, x16, ())))) else ((spec_l11Var.f k (x4, (x5, x6))).bind fun t8 => (spec_ReadSetup.l2 k k (x1, t8.1, 0, t8.2.1, t8.2.2.1, t8.2.2.2, x7, x8, x9, x10, x11, x12, x13, x14, x15, x16, ())))
def spec_ReadSetup.f (k : Nat) (a0 : ByteArray) : Option ((List (Int × Int) × List (Int × Int) × List (Int × Int × Int × Int × Int) × List (Int × Int × Int) × List ByteArray) × Bool) :=
  (spec_l11Var.f k (a0, (0, false))).bind fun t1 => (spec_ReadSetup.l1 k k (a0, t1.1, 0, t1.2.1, t1.2.2.1, t1.2.2.2, [], [], [], [], [], [], [], [], [], [], ()))
def spec_ReadSetup.Sl1 : Shape := ⟨[(0, false, [.str]), (2, false, [.ptr 0 0]), (4, false, [.ptr 6 0]), (5, false, [.ptr 7 0]), (6, false, [.int .i64]), (7, false, [.int .i64])], [(0, .blk 30 [.own 1, .own 2, .own 3, .own 4, .own 5]), (6, .blk 171 [.str, .int .i64, .bool]), (7, .blk 30 [.own 8, .own 9, .own 10, .own 11, .own 12]), (1, .row 53 (.pair (.int .i64) (.int .i64))), (2, .row 35 (.pair (.int .i64) (.int .i64))), (3, .row 42 (.pair (.int .i64) (.pair (.int .i64) (.pair (.int .i64) (.pair (.int .i64) (.int .i64)))))), (4, .row 40 (.pair (.int .i64) (.pair (.int .i64) (.int .i64)))), (5, .row 9 .str), (8, .row 53 (.pair (.int .i64) (.int .i64))), (9, .row 35 (.pair (.int .i64) (.int .i64))), (10, .row 42 (.pair (.int .i64) (.pair (.int .i64) (.pair (.int .i64) (.pair (.int .i64) (.int .i64)))))), (11, .row 40 (.pair (.int .i64) (.pair (.int .i64) (.int .i64)))), (12, .row 9 .str)], 13⟩
def spec_ReadSetup.Sl2 : Shape := ⟨[(0, false, [.str]), (2, false, [.ptr 0 0]), (4, false, [.ptr 6 0]), (5, false, [.ptr 7 0]), (6, false, [.int .i64]), (9, false, [.int .i64])], [(0, .blk 30 [.own 1, .own 2, .own 3, .own 4, .own 5]), (6, .blk 171 [.str, .int .i64, .bool]), (7, .blk 30 [.own 8, .own 9, .own 10, .own 11, .own 12]), (1, .row 53 (.pair (.int .i64) (.int .i64))), (2, .row 35 (.pair (.int .i64) (.int .i64))), (3, .row 42 (.pair (.int .i64) (.pair (.int .i64) (.pair (.int .i64) (.pair (.int .i64) (.int .i64)))))), (4, .row 40 (.pair (.int .i64) (.pair (.int .i64) (.int .i64)))), (5, .row 9 .str), (8, .row 53 (.pair (.int .i64) (.int .i64))), (9, .row 35 (.pair (.int .i64) (.int .i64))), (10, .row 42 (.pair (.int .i64) (.pair (.int .i64) (.pair (.int .i64) (.pair (.int .i64) (.int .i64)))))), (11, .row 40 (.pair (.int .i64) (.pair (.int .i64) (.int .i64)))), (12, .row 9 .str)], 13⟩
def spec_ReadSetup.Sl3 : Shape := ⟨[(0, false, [.str]), (2, false, [.ptr 0 0]), (4, false, [.ptr 6 0]), (5, false, [.ptr 7 0]), (6, false, [.int .i64]), (11, false, [.int .i64])], [(0, .blk 30 [.own 1, .own 2, .own 3, .own 4, .own 5]), (6, .blk 171 [.str, .int .i64, .bool]), (7, .blk 30 [.own 8, .own 9, .own 10, .own 11, .own 12]), (1, .row 53 (.pair (.int .i64) (.int .i64))), (2, .row 35 (.pair (.int .i64) (.int .i64))), (3, .row 42 (.pair (.int .i64) (.pair (.int .i64) (.pair (.int .i64) (.pair (.int .i64) (.int .i64)))))), (4, .row 40 (.pair (.int .i64) (.pair (.int .i64) (.int .i64)))), (5, .row 9 .str), (8, .row 53 (.pair (.int .i64) (.int .i64))), (9, .row 35 (.pair (.int .i64) (.int .i64))), (10, .row 42 (.pair (.int .i64) (.pair (.int .i64) (.pair (.int .i64) (.pair (.int .i64) (.int .i64)))))), (11, .row 40 (.pair (.int .i64) (.pair (.int .i64) (.int .i64)))), (12, .row 9 .str)], 13⟩
def spec_ReadSetup.Sl4 : Shape := ⟨[(0, false, [.str]), (2, false, [.ptr 0 0]), (4, false, [.ptr 6 0]), (5, false, [.ptr 7 0]), (6, false, [.int .i64]), (13, false, [.int .i64])], [(0, .blk 30 [.own 1, .own 2, .own 3, .own 4, .own 5]), (6, .blk 171 [.str, .int .i64, .bool]), (7, .blk 30 [.own 8, .own 9, .own 10, .own 11, .own 12]), (1, .row 53 (.pair (.int .i64) (.int .i64))), (2, .row 35 (.pair (.int .i64) (.int .i64))), (3, .row 42 (.pair (.int .i64) (.pair (.int .i64) (.pair (.int .i64) (.pair (.int .i64) (.int .i64)))))), (4, .row 40 (.pair (.int .i64) (.pair (.int .i64) (.int .i64)))), (5, .row 9 .str), (8, .row 53 (.pair (.int .i64) (.int .i64))), (9, .row 35 (.pair (.int .i64) (.int .i64))), (10, .row 42 (.pair (.int .i64) (.pair (.int .i64) (.pair (.int .i64) (.pair (.int .i64) (.int .i64)))))), (11, .row 40 (.pair (.int .i64) (.pair (.int .i64) (.int .i64)))), (12, .row 9 .str)], 13⟩
def spec_ReadSetup.Sl5 : Shape := ⟨[(0, false, [.str]), (2, false, [.ptr 0 0]), (4, false, [.ptr 6 0]), (5, false, [.ptr 7 0]), (15, false, [.int .i64])], [(0, .blk 30 [.own 1, .own 2, .own 3, .own 4, .own 5]), (6, .blk 171 [.str, .int .i64, .bool]), (7, .blk 30 [.own 8, .own 9, .own 10, .own 11, .own 12]), (1, .row 53 (.pair (.int .i64) (.int .i64))), (2, .row 35 (.pair (.int .i64) (.int .i64))), (3, .row 42 (.pair (.int .i64) (.pair (.int .i64) (.pair (.int .i64) (.pair (.int .i64) (.int .i64)))))), (4, .row 40 (.pair (.int .i64) (.pair (.int .i64) (.int .i64)))), (5, .row 9 .str), (8, .row 53 (.pair (.int .i64) (.int .i64))), (9, .row 35 (.pair (.int .i64) (.int .i64))), (10, .row 42 (.pair (.int .i64) (.pair (.int .i64) (.pair (.int .i64) (.pair (.int .i64) (.int .i64)))))), (11, .row 40 (.pair (.int .i64) (.pair (.int .i64) (.int .i64)))), (12, .row 9 .str)], 13⟩
def spec_ReadSetup.sig : Sig := ⟨[.val false .str []], [.val true (.pair (.sl 53 (.pair (.int .i64) (.int .i64))) (.pair (.sl 35 (.pair (.int .i64) (.int .i64))) (.pair (.sl 42 (.pair (.int .i64) (.pair (.int .i64) (.pair (.int .i64) (.pair (.int .i64) (.int .i64)))))) (.pair (.sl 40 (.pair (.int .i64) (.pair (.int .i64) (.int .i64)))) (.sl 9 .str))))) [none, none, none, none, none], .val false .bool []]⟩
def spec_ReadSetup.F (k : Nat) (x : Args spec_ReadSetup.sig.ps) : Option (Res spec_ReadSetup.sig) := spec_ReadSetup.f k x.1
def spec_ReadSetup.ann (k : Nat) : Ann (Res spec_ReadSetup.sig) := (.seq .nil (.seq .nil (.seq .nil (.seq .nil (.seq (.seq .nil (.block (.loop spec_ReadSetup.Sl1 (spec_ReadSetup.l1 k) fun n1 => .nil))) (.seq .nil (.seq (.seq .nil (.block (.loop spec_ReadSetup.Sl2 (spec_ReadSetup.l2 k) fun n1 => .nil))) (.seq .nil (.seq (.seq .nil (.block (.loop spec_ReadSetup.Sl3 (spec_ReadSetup.l3 k) fun n1 => .nil))) (.seq .nil (.seq (.seq .nil (.block (.loop spec_ReadSetup.Sl4 (spec_ReadSetup.l4 k) fun n1 => .nil))) (.seq (.seq .nil (.block (.loop spec_ReadSetup.Sl5 (spec_ReadSetup.l5 k) fun n1 => .nil))) .nil))))))))))))
def spec_ReadSetup.ent : Ent := ⟨59, spec_ReadSetup.sig, spec_ReadSetup.F⟩
def spec_ReadSetup.ctx (k : Nat) : Ctx := ⟨tds, [spec_SetupText.ent, spec_l11Var.ent, spec_l11Short.ent], k, 195⟩
theorem spec_ReadSetup.runs (k : Nat) (x : Args spec_ReadSetup.sig.ps) : spec_ReadSetup.F k x = runF (spec_ReadSetup.ctx k) spec_ReadSetup.sig Try.f59 (Try.f59.body.getD .skip) (spec_ReadSetup.ann k) x := by kernel_rfl
theorem spec_ReadSetup.obls (k : Nat) : obl (spec_ReadSetup.ctx k) 0 (Try.f59.body.getD .skip) (spec_ReadSetup.ann k) (retK tds spec_ReadSetup.sig Try.f59.results.toList) := ⟨trivial, ⟨trivial, ⟨trivial, ⟨trivial, ⟨⟨trivial, ⟨⟨by kernel_rfl, fun x => by kernel_rfl⟩, fun n => ⟨fun x => by kernel_rfl, ⟨⟨trivial, ⟨trivial, trivial⟩⟩, ⟨⟨trivial, ⟨trivial, trivial⟩⟩, trivial⟩⟩⟩⟩⟩, ⟨trivial, ⟨⟨trivial, ⟨⟨by kernel_rfl, fun x => by kernel_rfl⟩, fun n => ⟨fun x => by kernel_rfl, ⟨⟨trivial, ⟨trivial, trivial⟩⟩, ⟨⟨trivial, ⟨trivial, trivial⟩⟩, trivial⟩⟩⟩⟩⟩, ⟨trivial, ⟨⟨trivial, ⟨⟨by kernel_rfl, fun x => by kernel_rfl⟩, fun n => ⟨fun x => by kernel_rfl, ⟨⟨trivial, ⟨trivial, trivial⟩⟩, ⟨⟨trivial, ⟨trivial, ⟨trivial, ⟨trivial, ⟨trivial, trivial⟩⟩⟩⟩⟩, trivial⟩⟩⟩⟩⟩, ⟨trivial, ⟨⟨trivial, ⟨⟨by kernel_rfl, fun x => by kernel_rfl⟩, fun n => ⟨fun x => by kernel_rfl, ⟨⟨trivial, ⟨trivial, trivial⟩⟩, ⟨⟨trivial, ⟨trivial, ⟨trivial, trivial⟩⟩⟩, trivial⟩⟩⟩⟩⟩, ⟨⟨trivial, ⟨⟨by kernel_rfl, fun x => by kernel_rfl⟩, fun n => ⟨fun x => by kernel_rfl, ⟨⟨trivial, ⟨trivial, trivial⟩⟩, ⟨trivial, trivial⟩⟩⟩⟩⟩, ⟨trivial, ⟨⟨trivial, ⟨⟨trivial, trivial⟩, trivial⟩⟩, ⟨trivial, trivial⟩⟩⟩⟩⟩⟩⟩⟩⟩⟩⟩⟩⟩⟩⟩
theorem spec_ReadSetup.ok (k : Nat) : EntOk Try.prog k spec_ReadSetup.ent := fn_ok (C := spec_ReadSetup.ctx k) Try.func59 (by kernel_rfl) (by kernel_rfl) mixed tdsOk (.cons (spec_SetupText.ok k) (.cons (spec_l11Var.ok k) (.cons (spec_l11Short.ok k) EntsOk.nil))) (by kernel_rfl) (Nat.le_of_ble_eq_true (by kernel_rfl)) (by kernel_rfl) (spec_ReadSetup.runs k) (spec_ReadSetup.obls k)
/-! loop.example/g00200/impl.ReadVar -/
def impl_ReadVar.l1 (k : Nat)  : Nat → ByteArray × Int × Int × Int × Unit → Option (Int × Int × Bool)
  | 0, _ => none
  | n + 1, (x1, x2, x3, x4, _) => if x4 < 5 then (if (w64 (x2 + x4)) < (x1.size : Int) then (if 0 ≤ w64 (x2 + x4) then (if w64 (x2 + x4) < (x1.size : Int) then (if 0 ≤ (w64 (7 * x4)) then (if 127 < (w64 (bt x1 (w64 (x2 + x4)))) then (impl_ReadVar.l1 k n (x1, x2, w64 (x3 + (w64 ((Int.tmod (w64 (bt x1 (w64 (x2 + x4)))) 128) * ((2 ^ (min (w64 (7 * x4)).toNat 64) : Nat) : Int)))), w64 (x4 + 1), ())) else (if 0 < x4 then (if (w64 (bt x1 (w64 (x2 + x4)))) = 0 then (some (0, 0, false)) else (if 1000000000 < (w64 (x3 + (w64 ((Int.tmod (w64 (bt x1 (w64 (x2 + x4)))) 128) * ((2 ^ (min (w64 (7 * x4)).toNat 64) : Nat) : Int))))) then (some (0, 0, false)) else (some (w64 (x3 + (w64 ((Int.tmod (w64 (bt x1 (w64 (x2 + x4)))) 128) * ((2 ^ (min (w64 (7 * x4)).toNat 64) : Nat) : Int)))), w64 ((w64 (x2 + x4)) + 1), true)))) else (if 1000000000 < (w64 (x3 + (w64 ((Int.tmod (w64 (bt x1 (w64 (x2 + x4)))) 128) * ((2 ^ (min (w64 (7 * x4)).toNat 64) : Nat) : Int))))) then (some (0, 0, false)) else (some (w64 (x3 + (w64 ((Int.tmod (w64 (bt x1 (w64 (x2 + x4)))) 128) * ((2 ^ (min (w64 (7 * x4)).toNat 64) : Nat) : Int)))), w64 ((w64 (x2 + x4)) + 1), true))))) else none) else none) else none) else (some (0, 0, false))) else (some (0, 0, false))
def impl_ReadVar.f (k : Nat) (a0 : ByteArray) (a1 : Int) : Option (Int × Int × Bool) :=
  (impl_within.f k a1 0 (a0.size : Int)).bind fun t1 => (if ¬ t1 = true then (some (0, 0, false)) else (impl_ReadVar.l1 k k (a0, a1, 0, 0, ())))
def impl_ReadVar.Sl1 : Shape := ⟨[(0, false, [.str]), (1, false, [.int .i64]), (7, false, [.int .i64]), (8, false, [.int .i64])], [], 0⟩
def impl_ReadVar.sig : Sig := ⟨[.val false .str [], .val false (.int .i64) []], [.val false (.int .i64) [], .val false (.int .i64) [], .val false .bool []]⟩
def impl_ReadVar.F (k : Nat) (x : Args impl_ReadVar.sig.ps) : Option (Res impl_ReadVar.sig) := impl_ReadVar.f k x.1 x.2.1
def impl_ReadVar.ann (k : Nat) : Ann (Res impl_ReadVar.sig) := (.seq .nil (.seq .nil (.seq .nil (.seq (.seq .nil (.block (.loop impl_ReadVar.Sl1 (impl_ReadVar.l1 k) fun n1 => .nil))) .nil))))
def impl_ReadVar.ent : Ent := ⟨192, impl_ReadVar.sig, impl_ReadVar.F⟩
def impl_ReadVar.ctx (k : Nat) : Ctx := ⟨tds, [impl_within.ent], k, 57⟩
theorem impl_ReadVar.runs (k : Nat) (x : Args impl_ReadVar.sig.ps) : impl_ReadVar.F k x = runF (impl_ReadVar.ctx k) impl_ReadVar.sig Try.f192 (Try.f192.body.getD .skip) (impl_ReadVar.ann k) x := by kernel_rfl
theorem impl_ReadVar.obls (k : Nat) : obl (impl_ReadVar.ctx k) 0 (Try.f192.body.getD .skip) (impl_ReadVar.ann k) (retK tds impl_ReadVar.sig Try.f192.results.toList) := ⟨trivial, ⟨⟨trivial, ⟨⟨trivial, trivial⟩, trivial⟩⟩, ⟨trivial, ⟨⟨trivial, ⟨⟨by kernel_rfl, fun x => by kernel_rfl⟩, fun n => ⟨fun x => by kernel_rfl, ⟨⟨trivial, ⟨trivial, trivial⟩⟩, ⟨⟨trivial, ⟨trivial, ⟨⟨trivial, ⟨trivial, trivial⟩⟩, ⟨⟨trivial, ⟨⟨trivial, trivial⟩, trivial⟩⟩, ⟨trivial, trivial⟩⟩⟩⟩⟩, trivial⟩⟩⟩⟩⟩, ⟨trivial, trivial⟩⟩⟩⟩⟩
theorem impl_ReadVar.ok (k : Nat) : EntOk Try.prog k impl_ReadVar.ent := fn_ok (C := impl_ReadVar.ctx k) Try.func192 (by kernel_rfl) (by kernel_rfl) mixed tdsOk (.cons (impl_within.ok k) EntsOk.nil) (by kernel_rfl) (Nat.le_of_ble_eq_true (by kernel_rfl)) (by kernel_rfl) (impl_ReadVar.runs k) (impl_ReadVar.obls k)
/-! (*loop.example/g00200/impl.reader).number -/
def impl_reader_number.f (k : Nat) (a0 : ByteArray × Int × Bool) : Option (Int × ByteArray × Int × Bool) :=
  (impl_ReadVar.f k a0.1 a0.2.1).bind fun t1 => (if a0.2.2 = true then (some (0, (a0.1, (a0.2.1, true)))) else (if ¬ t1.2.2 = true then (some (0, (a0.1, (a0.2.1, true)))) else (some (t1.1, (a0.1, (t1.2.1, a0.2.2))))))
def impl_reader_number.sig : Sig := ⟨[.ptr 176 (.pair .str (.pair (.int .i64) .bool)) []], [.val false (.int .i64) []]⟩
def impl_reader_number.F (k : Nat) (x : Args impl_reader_number.sig.ps) : Option (Res impl_reader_number.sig) := impl_reader_number.f k x.1
def impl_reader_number.ann (k : Nat) : Ann (Res impl_reader_number.sig) := .nil
def impl_reader_number.ent : Ent := ⟨184, impl_reader_number.sig, impl_reader_number.F⟩
def impl_reader_number.ctx (k : Nat) : Ctx := ⟨tds, [impl_ReadVar.ent], k, 35⟩
theorem impl_reader_number.runs (k : Nat) (x : Args impl_reader_number.sig.ps) : impl_reader_number.F k x = runF (impl_reader_number.ctx k) impl_reader_number.sig Try.f184 (Try.f184.body.getD .skip) (impl_reader_number.ann k) x := by kernel_rfl
theorem impl_reader_number.obls (k : Nat) : obl (impl_reader_number.ctx k) 1 (Try.f184.body.getD .skip) (impl_reader_number.ann k) (retK tds impl_reader_number.sig Try.f184.results.toList) := ⟨trivial, ⟨trivial, ⟨⟨trivial, ⟨⟨trivial, ⟨trivial, trivial⟩⟩, trivial⟩⟩, ⟨trivial, ⟨trivial, trivial⟩⟩⟩⟩⟩
theorem impl_reader_number.ok (k : Nat) : EntOk Try.prog k impl_reader_number.ent := fn_ok (C := impl_reader_number.ctx k) Try.func184 (by kernel_rfl) (by kernel_rfl) mixed tdsOk (.cons (impl_ReadVar.ok k) EntsOk.nil) (by kernel_rfl) (Nat.le_of_ble_eq_true (by kernel_rfl)) (by kernel_rfl) (impl_reader_number.runs k) (impl_reader_number.obls k)
/-! (*loop.example/g00200/impl.reader).count -/
def impl_reader_count.f (k : Nat) (a0 : ByteArray × Int × Bool) (a1 : Int) : Option (Int × ByteArray × Int × Bool) :=
  (impl_reader_number.f k a0).bind fun t1 => (if a1 < t1.1 then (some (0, (t1.2.1, (t1.2.2.1, true)))) else (some (t1.1, t1.2)))
def impl_reader_count.sig : Sig := ⟨[.ptr 176 (.pair .str (.pair (.int .i64) .bool)) [], .val false (.int .i64) []], [.val false (.int .i64) []]⟩
def impl_reader_count.F (k : Nat) (x : Args impl_reader_count.sig.ps) : Option (Res impl_reader_count.sig) := impl_reader_count.f k x.1 x.2.1
def impl_reader_count.ann (k : Nat) : Ann (Res impl_reader_count.sig) := .nil
def impl_reader_count.ent : Ent := ⟨183, impl_reader_count.sig, impl_reader_count.F⟩
def impl_reader_count.ctx (k : Nat) : Ctx := ⟨tds, [impl_reader_number.ent], k, 15⟩
theorem impl_reader_count.runs (k : Nat) (x : Args impl_reader_count.sig.ps) : impl_reader_count.F k x = runF (impl_reader_count.ctx k) impl_reader_count.sig Try.f183 (Try.f183.body.getD .skip) (impl_reader_count.ann k) x := by kernel_rfl
theorem impl_reader_count.obls (k : Nat) : obl (impl_reader_count.ctx k) 1 (Try.f183.body.getD .skip) (impl_reader_count.ann k) (retK tds impl_reader_count.sig Try.f183.results.toList) := ⟨trivial, ⟨trivial, ⟨⟨trivial, ⟨⟨trivial, ⟨trivial, trivial⟩⟩, trivial⟩⟩, ⟨trivial, trivial⟩⟩⟩⟩
theorem impl_reader_count.ok (k : Nat) : EntOk Try.prog k impl_reader_count.ent := fn_ok (C := impl_reader_count.ctx k) Try.func183 (by kernel_rfl) (by kernel_rfl) mixed tdsOk (.cons (impl_reader_number.ok k) EntsOk.nil) (by kernel_rfl) (Nat.le_of_ble_eq_true (by kernel_rfl)) (by kernel_rfl) (impl_reader_count.runs k) (impl_reader_count.obls k)
/-! loop.example/g00200/impl.ReadShort -/
def impl_ReadShort.f (k : Nat) (a0 : ByteArray) (a1 : Int) : Option (ByteArray × Int × Bool) :=
  (impl_ReadVar.f k a0 a1).bind fun t1 => (if ¬ t1.2.2 = true then (some ((⟨#[]⟩ : ByteArray), 0, false)) else (if 20000 < t1.1 then (some ((⟨#[]⟩ : ByteArray), 0, false)) else (if (w64 ((a0.size : Int) - t1.2.1)) < t1.1 then (some ((⟨#[]⟩ : ByteArray), 0, false)) else (if 0 ≤ t1.2.1 then (if t1.2.1 ≤ w64 (t1.2.1 + t1.1) then (if w64 (t1.2.1 + t1.1) ≤ (a0.size : Int) then (some (a0.extract t1.2.1.toNat ((w64 (t1.2.1 + t1.1)).toNat), w64 (t1.2.1 + t1.1), true)) else none) else none) else none))))
def impl_ReadShort.sig : Sig := ⟨[.val false .str [], .val false (.int .i64) []], [.val false .str [], .val false (.int .i64) [], .val false .bool []]⟩
def impl_ReadShort.F (k : Nat) (x : Args impl_ReadShort.sig.ps) : Option (Res impl_ReadShort.sig) := impl_ReadShort.f k x.1 x.2.1
def impl_ReadShort.ann (k : Nat) : Ann (Res impl_ReadShort.sig) := .nil
def impl_ReadShort.ent : Ent := ⟨193, impl_ReadShort.sig, impl_ReadShort.F⟩
def impl_ReadShort.ctx (k : Nat) : Ctx := ⟨tds, [impl_ReadVar.ent], k, 40⟩
theorem impl_ReadShort.runs (k : Nat) (x : Args impl_ReadShort.sig.ps) : impl_ReadShort.F k x = runF (impl_ReadShort.ctx k) impl_ReadShort.sig Try.f193 (Try.f193.body.getD .skip) (impl_ReadShort.ann k) x := by kernel_rfl
theorem impl_ReadShort.obls (k : Nat) : obl (impl_ReadShort.ctx k) 0 (Try.f193.body.getD .skip) (impl_ReadShort.ann k) (retK tds impl_ReadShort.sig Try.f193.results.toList) := ⟨trivial, ⟨trivial, ⟨⟨trivial, ⟨⟨trivial, trivial⟩, trivial⟩⟩, ⟨trivial, trivial⟩⟩⟩⟩
theorem impl_ReadShort.ok (k : Nat) : EntOk Try.prog k impl_ReadShort.ent := fn_ok (C := impl_ReadShort.ctx k) Try.func193 (by kernel_rfl) (by kernel_rfl) mixed tdsOk (.cons (impl_ReadVar.ok k) EntsOk.nil) (by kernel_rfl) (Nat.le_of_ble_eq_true (by kernel_rfl)) (by kernel_rfl) (impl_ReadShort.runs k) (impl_ReadShort.obls k)
/-! (*loop.example/g00200/impl.reader).short -/
def impl_reader_short.f (k : Nat) (a0 : ByteArray × Int × Bool) : Option (ByteArray × ByteArray × Int × Bool) :=
  (impl_ReadShort.f k a0.1 a0.2.1).bind fun t1 => (if a0.2.2 = true then (some ((⟨#[]⟩ : ByteArray), (a0.1, (a0.2.1, true)))) else (if ¬ t1.2.2 = true then (some ((⟨#[]⟩ : ByteArray), (a0.1, (a0.2.1, true)))) else (some (t1.1, (a0.1, (t1.2.1, a0.2.2))))))
def impl_reader_short.sig : Sig := ⟨[.ptr 176 (.pair .str (.pair (.int .i64) .bool)) []], [.val false .str []]⟩
def impl_reader_short.F (k : Nat) (x : Args impl_reader_short.sig.ps) : Option (Res impl_reader_short.sig) := impl_reader_short.f k x.1
def impl_reader_short.ann (k : Nat) : Ann (Res impl_reader_short.sig) := .nil
def impl_reader_short.ent : Ent := ⟨185, impl_reader_short.sig, impl_reader_short.F⟩
def impl_reader_short.ctx (k : Nat) : Ctx := ⟨tds, [impl_ReadShort.ent], k, 35⟩
theorem impl_reader_short.runs (k : Nat) (x : Args impl_reader_short.sig.ps) : impl_reader_short.F k x = runF (impl_reader_short.ctx k) impl_reader_short.sig Try.f185 (Try.f185.body.getD .skip) (impl_reader_short.ann k) x := by kernel_rfl
theorem impl_reader_short.obls (k : Nat) : obl (impl_reader_short.ctx k) 1 (Try.f185.body.getD .skip) (impl_reader_short.ann k) (retK tds impl_reader_short.sig Try.f185.results.toList) := ⟨trivial, ⟨trivial, ⟨⟨trivial, ⟨⟨trivial, ⟨trivial, trivial⟩⟩, trivial⟩⟩, ⟨trivial, ⟨trivial, trivial⟩⟩⟩⟩⟩
theorem impl_reader_short.ok (k : Nat) : EntOk Try.prog k impl_reader_short.ent := fn_ok (C := impl_reader_short.ctx k) Try.func185 (by kernel_rfl) (by kernel_rfl) mixed tdsOk (.cons (impl_ReadShort.ok k) EntsOk.nil) (by kernel_rfl) (Nat.le_of_ble_eq_true (by kernel_rfl)) (by kernel_rfl) (impl_reader_short.runs k) (impl_reader_short.obls k)
/-! (*loop.example/g00200/impl.reader).setup -/
def impl_reader_setup.l5 (k : Nat)  : Nat → Int × Int × ByteArray × Int × Bool × (List (Int × Int)) × (List (Int × Int)) × (List (Int × Int × Int × Int × Int)) × (List (Int × Int × Int)) × List ByteArray × (List (Int × Int)) × (List (Int × Int)) × (List (Int × Int × Int × Int × Int)) × (List (Int × Int × Int)) × List ByteArray × Unit → Option ((List (Int × Int) × List (Int × Int) × List (Int × Int × Int × Int × Int) × List (Int × Int × Int) × List ByteArray) × ByteArray × Int × Bool)
  | 0, _ => none
  | n + 1, (x1, x2, x3, x4, x5, x6, x7, x8, x9, x10, x11, x12, x13, x14, x15, _) => if x2 < x1 then ((impl_reader_short.f k (x3, (x4, x5))).bind fun t25 => (((some ([t25.1] : List ByteArray))).bind fun y26 => (if (x15.length + y26.length) * 16 ≤ 140737488355328 then (((some (x15 ++ y26))).bind fun y27 => (impl_reader_setup.l5 k n (x1, w64 (x2 + 1), t25.2.1, t25.2.2.1, t25.2.2.2, x6, x7, x8, x9, x10, x11, x12, x13, x14, y27, ()))) else none))) else (some ((x11, (x12, (x13, (x14, x15)))), (x3, (x4, x5))))
def impl_reader_setup.l4 (k : Nat)  : Nat → Int × Int × Int × ByteArray × Int × Bool × (List (Int × Int)) × (List (Int × Int)) × (List (Int × Int × Int × Int × Int)) × (List (Int × Int × Int)) × List ByteArray × (List (Int × Int)) × (List (Int × Int)) × (List (Int × Int × Int × Int × Int)) × (List (Int × Int × Int)) × List ByteArray × Unit → Option ((List (Int × Int) × List (Int × Int) × List (Int × Int × Int × Int × Int) × List (Int × Int × Int) × List ByteArray) × ByteArray × Int × Bool)
  | 0, _ => none
  | n + 1, (x1, x2, x3, x4, x5, x6, x7, x8, x9, x10, x11, x12, x13, x14, x15, x16, _) => if x3 < x2 then ((impl_reader_number.f k (x4, (x5, x6))).bind fun t20 => ((impl_reader_number.f k t20.2).bind fun t21 => ((impl_reader_number.f k t21.2).bind fun t22 => (((some ([(t20.1, (t21.1, t22.1))] : List (Int × Int × Int)))).bind fun y23 => (if (x15.length + y23.length) * 24 ≤ 140737488355328 then (((some (x15 ++ y23))).bind fun y24 => (impl_reader_setup.l4 k n (x1, x2, w64 (x3 + 1), t22.2.1, t22.2.2.1, t22.2.2.2, x7, x8, x9, x10, x11, x12, x13, x14, y24, x16, ()))) else none))))) else (impl_reader_setup.l5 k k (x1, 0, x4, x5, x6, x7, x8, x9, x10, x11, x12, x13, x14, x15, x16, ()))
def impl_reader_setup.l3 (k : Nat)  : Nat → Int × Int × Int × ByteArray × Int × Bool × (List (Int × Int)) × (List (Int × Int)) × (List (Int × Int × Int × Int × Int)) × (List (Int × Int × Int)) × List ByteArray × (List (Int × Int)) × (List (Int × Int)) × (List (Int × Int × Int × Int × Int)) × (List (Int × Int × Int)) × List ByteArray × Unit → Option ((List (Int × Int) × List (Int × Int) × List (Int × Int × Int × Int × Int) × List (Int × Int × Int) × List ByteArray) × ByteArray × Int × Bool)
  | 0, _ => none
  | n + 1, (x1, x2, x3, x4, x5, x6, x7, x8, x9, x10, x11, x12, x13, x14, x15, x16, _) => if x3 < x2 then ((impl_reader_number.f k (x4, (x5, x6))).bind fun t12 => ((impl_reader_number.f k t12.2).bind fun t13 => ((impl_reader_number.f k t13.2).bind fun t14 => ((impl_reader_number.f k t14.2).bind fun t15 => ((impl_reader_number.f k t15.2).bind fun t16 => (((some ([(t12.1, (t13.1, (t14.1, (t15.1, t16.1))))] : List (Int × Int × Int × Int × Int)))).bind fun y17 => (if (x14.length + y17.length) * 40 ≤ 140737488355328 then (((some (x14 ++ y17))).bind fun y18 => (impl_reader_setup.l3 k n (x1, x2, w64 (x3 + 1), t16.2.1, t16.2.2.1, t16.2.2.2, x7, x8, x9, x10, x11, x12, x13, y18, x15, x16, ()))) else none))))))) else ((impl_reader_count.f k (x4, (x5, x6)) 8).bind fun t19 => (impl_reader_setup.l4 k k (x1, t19.1, 0, t19.2.1, t19.2.2.1, t19.2.2.2, x7, x8, x9, x10, x11, x12, x13, x14, x15, x16, ())))
def impl_reader_setup.l2 (k : Nat)  : Nat → Int × Int × Int × ByteArray × Int × Bool × (List (Int × Int)) × (List (Int × Int)) × (List (Int × Int × Int × Int × Int)) × (List (Int × Int × Int)) × List ByteArray × (List (Int × Int)) × (List (Int × Int)) × (List (Int × Int × Int × Int × Int)) × (List (Int × Int × Int)) × List ByteArray × Unit → Option ((List (Int × Int) × List (Int × Int) × List (Int × Int × Int × Int × Int) × List (Int × Int × Int) × List ByteArray) × ByteArray × Int × Bool)
  | 0, _ => none
  | n + 1, (x1, x2, x3, x4, x5, x6, x7, x8, x9, x10, x11, x12, x13, x14, x15, x16, _) => if x3 < x2 then ((impl_reader_number.f k (x4, (x5, x6))).bind fun t7 => ((impl_reader_number.f k t7.2).bind fun t8 => (((some ([(t7.1, t8.1)] : List (Int × Int)))).bind fun y9 => (if (x13.length + y9.length) * 16 ≤ 140737488355328 then (((some (x13 ++ y9))).bind fun y10 => (impl_reader_setup.l2 k n (x1, x2, w64 (x3 + 1), t8.2.1, t8.2.2.1, t8.2.2.2, x7, x8, x9, x10, x11, x12, y10, x14, x15, x16, ()))) else none)))) else ((impl_reader_count.f k (x4, (x5, x6)) 6).bind fun t11 => (impl_reader_setup.l3 k k (x1, t11.1, 0, t11.2.1, t11.2.2.1, t11.2.2.2, x7, x8, x9, x10, x11, x12, x13, x14, x15, x16, ())))
def impl_reader_setup.l1 (k : Nat)  : Nat → Int × Int × Int × ByteArray × Int × Bool × (List (Int × Int)) × (List (Int × Int)) × (List (Int × Int × Int × Int × Int)) × (List (Int × Int × Int)) × List ByteArray × (List (Int × Int)) × (List (Int × Int)) × (List (Int × Int × Int × Int × Int)) × (List (Int × Int × Int)) × List ByteArray × Unit → Option ((List (Int × Int) × List (Int × Int) × List (Int × Int × Int × Int × Int) × List (Int × Int × Int) × List ByteArray) × ByteArray × Int × Bool)
  | 0, _ => none
  | n + 1, (x1, x2, x3, x4, x5, x6, x7, x8, x9, x10, x11, x12, x13, x14, x15, x16, _) => if x3 < x2 then ((impl_reader_number.f k (x4, (x5, x6))).bind fun t2 => ((impl_reader_number.f k t2.2).bind fun t3 => (((some ([(t2.1, t3.1)] : List (Int × Int)))).bind fun y4 => (if (x12.length + y4.length) * 16 ≤ 140737488355328 then (((some (x12 ++ y4))).bind fun y5 => (impl_reader_setup.l1 k n (x1, x2, w64 (x3 + 1), t3.2.1, t3.2.2.1, t3.2.2.2, x7, x8, x9, x10, x11, y5, x13, x14, x15, x16, ()))) else none)))) else ((impl_reader_count.f k (x4, (x5, x6)) 12).bind fun t6 => (impl_reader_setup.l2 k k (x1, t6.1, 0, t6.2.1, t6.2.2.1, t6.2.2.2, x7, x8, x9, x10, x11, x12, x13, x14, x15, x16, ())))
def impl_reader_setup.f (k : Nat) (a0 : ByteArray × Int × Bool) : Option ((List (Int × Int) × List (Int × Int) × List (Int × Int × Int × Int × Int) × List (Int × Int × Int) × List ByteArray) × ByteArray × Int × Bool) :=
  (impl_reader_count.f k a0 4).bind fun t1 => (impl_reader_setup.l1 k k (t1.1, t1.1, 0, t1.2.1, t1.2.2.1, t1.2.2.2, [], [], [], [], [], [], [], [], [], [], ()))
def impl_reader_setup.Sl1 : Shape := ⟨[(0, false, [.ptr 0 0]), (2, false, [.ptr 1 0]), (3, false, [.ptr 7 0]), (4, false, [.int .i64]), (16, false, [.int .i64]), (17, false, [.int .i64])], [(0, .blk 176 [.str, .int .i64, .bool]), (1, .blk 30 [.own 2, .own 3, .own 4, .own 5, .own 6]), (7, .blk 30 [.own 8, .own 9, .own 10, .own 11, .own 12]), (2, .row 53 (.pair (.int .i64) (.int .i64))), (3, .row 35 (.pair (.int .i64) (.int .i64))), (4, .row 42 (.pair (.int .i64) (.pair (.int .i64) (.pair (.int .i64) (.pair (.int .i64) (.int .i64)))))), (5, .row 40 (.pair (.int .i64) (.pair (.int .i64) (.int .i64)))), (6, .row 9 .str), (8, .row 53 (.pair (.int .i64) (.int .i64))), (9, .row 35 (.pair (.int .i64) (.int .i64))), (10, .row 42 (.pair (.int .i64) (.pair (.int .i64) (.pair (.int .i64) (.pair (.int .i64) (.int .i64)))))), (11, .row 40 (.pair (.int .i64) (.pair (.int .i64) (.int .i64)))), (12, .row 9 .str)], 13⟩
def impl_reader_setup.Sl2 : Shape := ⟨[(0, false, [.ptr 0 0]), (2, false, [.ptr 1 0]), (3, false, [.ptr 7 0]), (4, false, [.int .i64]), (35, false, [.int .i64]), (36, false, [.int .i64])], [(0, .blk 176 [.str, .int .i64, .bool]), (1, .blk 30 [.own 2, .own 3, .own 4, .own 5, .own 6]), (7, .blk 30 [.own 8, .own 9, .own 10, .own 11, .own 12]), (2, .row 53 (.pair (.int .i64) (.int .i64))), (3, .row 35 (.pair (.int .i64) (.int .i64))), (4, .row 42 (.pair (.int .i64) (.pair (.int .i64) (.pair (.int .i64) (.pair (.int .i64) (.int .i64)))))), (5, .row 40 (.pair (.int .i64) (.pair (.int .i64) (.int .i64)))), (6, .row 9 .str), (8, .row 53 (.pair (.int .i64) (.int .i64))), (9, .row 35 (.pair (.int .i64) (.int .i64))), (10, .row 42 (.pair (.int .i64) (.pair (.int .i64) (.pair (.int .i64) (.pair (.int .i64) (.int .i64)))))), (11, .row 40 (.pair (.int .i64) (.pair (.int .i64) (.int .i64)))), (12, .row 9 .str)], 13⟩
def impl_reader_setup.Sl3 : Shape := ⟨[(0, false, [.ptr 0 0]), (2, false, [.ptr 1 0]), (3, false, [.ptr 7 0]), (4, false, [.int .i64]), (54, false, [.int .i64]), (55, false, [.int .i64])], [(0, .blk 176 [.str, .int .i64, .bool]), (1, .blk 30 [.own 2, .own 3, .own 4, .own 5, .own 6]), (7, .blk 30 [.own 8, .own 9, .own 10, .own 11, .own 12]), (2, .row 53 (.pair (.int .i64) (.int .i64))), (3, .row 35 (.pair (.int .i64) (.int .i64))), (4, .row 42 (.pair (.int .i64) (.pair (.int .i64) (.pair (.int .i64) (.pair (.int .i64) (.int .i64)))))), (5, .row 40 (.pair (.int .i64) (.pair (.int .i64) (.int .i64)))), (6, .row 9 .str), (8, .row 53 (.pair (.int .i64) (.int .i64))), (9, .row 35 (.pair (.int .i64) (.int .i64))), (10, .row 42 (.pair (.int .i64) (.pair (.int .i64) (.pair (.int .i64) (.pair (.int .i64) (.int .i64)))))), (11, .row 40 (.pair (.int .i64) (.pair (.int .i64) (.int .i64)))), (12, .row 9 .str)], 13⟩
def impl_reader_setup.Sl4 : Shape := ⟨[(0, false, [.ptr 0 0]), (2, false, [.ptr 1 0]), (3, false, [.ptr 7 0]), (4, false, [.int .i64]), (82, false, [.int .i64]), (83, false, [.int .i64])], [(0, .blk 176 [.str, .int .i64, .bool]), (1, .blk 30 [.own 2, .own 3, .own 4, .own 5, .own 6]), (7, .blk 30 [.own 8, .own 9, .own 10, .own 11, .own 12]), (2, .row 53 (.pair (.int .i64) (.int .i64))), (3, .row 35 (.pair (.int .i64) (.int .i64))), (4, .row 42 (.pair (.int .i64) (.pair (.int .i64) (.pair (.int .i64) (.pair (.int .i64) (.int .i64)))))), (5, .row 40 (.pair (.int .i64) (.pair (.int .i64) (.int .i64)))), (6, .row 9 .str), (8, .row 53 (.pair (.int .i64) (.int .i64))), (9, .row 35 (.pair (.int .i64) (.int .i64))), (10, .row 42 (.pair (.int .i64) (.pair (.int .i64) (.pair (.int .i64) (.pair (.int .i64) (.int .i64)))))), (11, .row 40 (.pair (.int .i64) (.pair (.int .i64) (.int .i64)))), (12, .row 9 .str)], 13⟩
def impl_reader_setup.Sl5 : Shape := ⟨[(0, false, [.ptr 0 0]), (2, false, [.ptr 1 0]), (3, false, [.ptr 7 0]), (102, false, [.int .i64]), (103, false, [.int .i64])], [(0, .blk 176 [.str, .int .i64, .bool]), (1, .blk 30 [.own 2, .own 3, .own 4, .own 5, .own 6]), (7, .blk 30 [.own 8, .own 9, .own 10, .own 11, .own 12]), (2, .row 53 (.pair (.int .i64) (.int .i64))), (3, .row 35 (.pair (.int .i64) (.int .i64))), (4, .row 42 (.pair (.int .i64) (.pair (.int .i64) (.pair (.int .i64) (.pair (.int .i64) (.int .i64)))))), (5, .row 40 (.pair (.int .i64) (.pair (.int .i64) (.int .i64)))), (6, .row 9 .str), (8, .row 53 (.pair (.int .i64) (.int .i64))), (9, .row 35 (.pair (.int .i64) (.int .i64))), (10, .row 42 (.pair (.int .i64) (.pair (.int .i64) (.pair (.int .i64) (.pair (.int .i64) (.int .i64)))))), (11, .row 40 (.pair (.int .i64) (.pair (.int .i64) (.int .i64)))), (12, .row 9 .str)], 13⟩
def impl_reader_setup.sig : Sig := ⟨[.ptr 176 (.pair .str (.pair (.int .i64) .bool)) []], [.val true (.pair (.sl 53 (.pair (.int .i64) (.int .i64))) (.pair (.sl 35 (.pair (.int .i64) (.int .i64))) (.pair (.sl 42 (.pair (.int .i64) (.pair (.int .i64) (.pair (.int .i64) (.pair (.int .i64) (.int .i64)))))) (.pair (.sl 40 (.pair (.int .i64) (.pair (.int .i64) (.int .i64)))) (.sl 9 .str))))) [none, none, none, none, none]]⟩
def impl_reader_setup.F (k : Nat) (x : Args impl_reader_setup.sig.ps) : Option (Res impl_reader_setup.sig) := impl_reader_setup.f k x.1
def impl_reader_setup.ann (k : Nat) : Ann (Res impl_reader_setup.sig) := (.seq .nil (.seq .nil (.seq .nil (.seq (.seq .nil (.block (.loop impl_reader_setup.Sl1 (impl_reader_setup.l1 k) fun n1 => .nil))) (.seq .nil (.seq (.seq .nil (.block (.loop impl_reader_setup.Sl2 (impl_reader_setup.l2 k) fun n1 => .nil))) (.seq .nil (.seq (.seq .nil (.block (.loop impl_reader_setup.Sl3 (impl_reader_setup.l3 k) fun n1 => .nil))) (.seq .nil (.seq (.seq .nil (.block (.loop impl_reader_setup.Sl4 (impl_reader_setup.l4 k) fun n1 => .nil))) (.seq (.seq .nil (.block (.loop impl_reader_setup.Sl5 (impl_reader_setup.l5 k) fun n1 => .nil))) .nil)))))))))))
def impl_reader_setup.ent : Ent := ⟨144, impl_reader_setup.sig, impl_reader_setup.F⟩
def impl_reader_setup.ctx (k : Nat) : Ctx := ⟨tds, [impl_reader_count.ent, impl_reader_number.ent, impl_reader_short.ent], k, 115⟩
theorem impl_reader_setup.runs (k : Nat) (x : Args impl_reader_setup.sig.ps) : impl_reader_setup.F k x = runF (impl_reader_setup.ctx k) impl_reader_setup.sig Try.f144 (Try.f144.body.getD .skip) (impl_reader_setup.ann k) x := by kernel_rfl
theorem impl_reader_setup.obls (k : Nat) : obl (impl_reader_setup.ctx k) 1 (Try.f144.body.getD .skip) (impl_reader_setup.ann k) (retK tds impl_reader_setup.sig Try.f144.results.toList) := ⟨trivial, ⟨trivial, ⟨trivial, ⟨⟨trivial, ⟨⟨by kernel_rfl, fun x => by kernel_rfl⟩, fun n => ⟨fun x => by kernel_rfl, ⟨trivial, ⟨⟨trivial, trivial⟩, ⟨⟨trivial, ⟨trivial, ⟨trivial, trivial⟩⟩⟩, trivial⟩⟩⟩⟩⟩⟩, ⟨trivial, ⟨⟨trivial, ⟨⟨by kernel_rfl, fun x => by kernel_rfl⟩, fun n => ⟨fun x => by kernel_rfl, ⟨trivial, ⟨⟨trivial, trivial⟩, ⟨⟨trivial, ⟨trivial, ⟨trivial, trivial⟩⟩⟩, trivial⟩⟩⟩⟩⟩⟩, ⟨trivial, ⟨⟨trivial, ⟨⟨by kernel_rfl, fun x => by kernel_rfl⟩, fun n => ⟨fun x => by kernel_rfl, ⟨trivial, ⟨⟨trivial, trivial⟩, ⟨⟨trivial, ⟨trivial, ⟨trivial, ⟨trivial, ⟨trivial, ⟨trivial, trivial⟩⟩⟩⟩⟩⟩, trivial⟩⟩⟩⟩⟩⟩, ⟨trivial, ⟨⟨trivial, ⟨⟨by kernel_rfl, fun x => by kernel_rfl⟩, fun n => ⟨fun x => by kernel_rfl, ⟨trivial, ⟨⟨trivial, trivial⟩, ⟨⟨trivial, ⟨trivial, ⟨trivial, ⟨trivial, trivial⟩⟩⟩⟩, trivial⟩⟩⟩⟩⟩⟩, ⟨⟨trivial, ⟨⟨by kernel_rfl, fun x => by kernel_rfl⟩, fun n => ⟨fun x => by kernel_rfl, ⟨trivial, ⟨⟨trivial, trivial⟩, ⟨⟨trivial, trivial⟩, trivial⟩⟩⟩⟩⟩⟩, ⟨trivial, trivial⟩⟩⟩⟩⟩⟩⟩⟩⟩⟩⟩⟩
theorem impl_reader_setup.ok (k : Nat) : EntOk Try.prog k impl_reader_setup.ent := fn_ok (C := impl_reader_setup.ctx k) Try.func144 (by kernel_rfl) (by kernel_rfl) mixed tdsOk (.cons (impl_reader_count.ok k) (.cons (impl_reader_number.ok k) (.cons (impl_reader_short.ok k) EntsOk.nil))) (by kernel_rfl) (Nat.le_of_ble_eq_true (by kernel_rfl)) (by kernel_rfl) (impl_reader_setup.runs k) (impl_reader_setup.obls k)
/-! loop.example/g00200/impl.ReadSetup -/
def impl_ReadSetup.f (k : Nat) (a0 : ByteArray) : Option ((List (Int × Int) × List (Int × Int) × List (Int × Int × Int × Int × Int) × List (Int × Int × Int) × List ByteArray) × Bool) :=
  (impl_reader_setup.f k (a0, (0, false))).bind fun t1 => (if t1.2.2.2 = true then (some (([], ([], ([], ([], [])))), false)) else (if ¬ t1.2.2.1 = (a0.size : Int) then (some (([], ([], ([], ([], [])))), false)) else ((impl_SetupFault.f k t1.1).bind fun t2 => (if ¬ t2 = 0 then (some (([], ([], ([], ([], [])))), false)) else (some (t1.1, true))))))
def impl_ReadSetup.sig : Sig := ⟨[.val false .str []], [.val true (.pair (.sl 53 (.pair (.int .i64) (.int .i64))) (.pair (.sl 35 (.pair (.int .i64) (.int .i64))) (.pair (.sl 42 (.pair (.int .i64) (.pair (.int .i64) (.pair (.int .i64) (.pair (.int .i64) (.int .i64)))))) (.pair (.sl 40 (.pair (.int .i64) (.pair (.int .i64) (.int .i64)))) (.sl 9 .str))))) [none, none, none, none, none], .val false .bool []]⟩
def impl_ReadSetup.F (k : Nat) (x : Args impl_ReadSetup.sig.ps) : Option (Res impl_ReadSetup.sig) := impl_ReadSetup.f k x.1
def impl_ReadSetup.ann (k : Nat) : Ann (Res impl_ReadSetup.sig) := .nil
def impl_ReadSetup.ent : Ent := ⟨60, impl_ReadSetup.sig, impl_ReadSetup.F⟩
def impl_ReadSetup.ctx (k : Nat) : Ctx := ⟨tds, [impl_SetupFault.ent, impl_reader_setup.ent], k, 31⟩
theorem impl_ReadSetup.runs (k : Nat) (x : Args impl_ReadSetup.sig.ps) : impl_ReadSetup.F k x = runF (impl_ReadSetup.ctx k) impl_ReadSetup.sig Try.f60 (Try.f60.body.getD .skip) (impl_ReadSetup.ann k) x := by kernel_rfl
theorem impl_ReadSetup.obls (k : Nat) : obl (impl_ReadSetup.ctx k) 0 (Try.f60.body.getD .skip) (impl_ReadSetup.ann k) (retK tds impl_ReadSetup.sig Try.f60.results.toList) := ⟨trivial, ⟨trivial, ⟨trivial, ⟨⟨trivial, ⟨⟨trivial, trivial⟩, trivial⟩⟩, ⟨trivial, trivial⟩⟩⟩⟩⟩
theorem impl_ReadSetup.ok (k : Nat) : EntOk Try.prog k impl_ReadSetup.ent := fn_ok (C := impl_ReadSetup.ctx k) Try.func60 (by kernel_rfl) (by kernel_rfl) mixed tdsOk (.cons (impl_SetupFault.ok k) (.cons (impl_reader_setup.ok k) EntsOk.nil)) (by kernel_rfl) (Nat.le_of_ble_eq_true (by kernel_rfl)) (by kernel_rfl) (impl_ReadSetup.runs k) (impl_ReadSetup.obls k)
/-! loop.example/g00200/laws.markRegionS -/
def laws_markRegionS.l1 (k : Nat)  : Nat → Int × Int × (List (Int × Int)) × Unit → Option (Int × List (Int × Int))
  | 0, _ => none
  | n + 1, (x1, x2, x3, _) => if x2 < (x3.length : Int) then (if 0 ≤ x2 then (if x2 < (x3.length : Int) then (((some (x3.set x2.toNat (x1, (el (.pair (.int .i64) (.int .i64)) x3 x2.toNat).2)))).bind fun y1 => (if 0 ≤ x2 then (if x2 < (y1.length : Int) then (((some (y1.set x2.toNat ((el (.pair (.int .i64) (.int .i64)) y1 x2.toNat).1, w64 (x1 + 1))))).bind fun y2 => (laws_markRegionS.l1 k n (w64 ((w64 (x1 + 1)) + 1), w64 (x2 + 1), y2, ()))) else none) else none)) else none) else none) else (some (x1, x3))
def laws_markRegionS.f (k : Nat) (a0 : List (Int × Int)) (a1 : Int) : Option (Int × List (Int × Int)) :=
  laws_markRegionS.l1 k k (a1, 0, a0, ())
def laws_markRegionS.Sl1 : Shape := ⟨[(0, false, [.own 0]), (1, false, [.int .i64]), (5, false, [.int .i64])], [(0, .row 53 (.pair (.int .i64) (.int .i64)))], 1⟩
def laws_markRegionS.sig : Sig := ⟨[.val false (.sl 53 (.pair (.int .i64) (.int .i64))) [1], .val false (.int .i64) []], [.val false (.int .i64) []]⟩
def laws_markRegionS.F (k : Nat) (x : Args laws_markRegionS.sig.ps) : Option (Res laws_markRegionS.sig) := laws_markRegionS.f k x.1 x.2.1
def laws_markRegionS.ann (k : Nat) : Ann (Res laws_markRegionS.sig) := (.seq .nil (.seq (.seq .nil (.block (.loop laws_markRegionS.Sl1 (laws_markRegionS.l1 k) fun n1 => .nil))) .nil))
def laws_markRegionS.ent : Ent := ⟨145, laws_markRegionS.sig, laws_markRegionS.F⟩
def laws_markRegionS.ctx (k : Nat) : Ctx := ⟨tds, [], k, 27⟩
theorem laws_markRegionS.runs (k : Nat) (x : Args laws_markRegionS.sig.ps) : laws_markRegionS.F k x = runF (laws_markRegionS.ctx k) laws_markRegionS.sig Try.f145 (Try.f145.body.getD .skip) (laws_markRegionS.ann k) x := by kernel_rfl
theorem laws_markRegionS.obls (k : Nat) : obl (laws_markRegionS.ctx k) 1 (Try.f145.body.getD .skip) (laws_markRegionS.ann k) (retK tds laws_markRegionS.sig Try.f145.results.toList) := ⟨trivial, ⟨⟨trivial, ⟨⟨by kernel_rfl, fun x => by kernel_rfl⟩, fun n => ⟨fun x => by kernel_rfl, ⟨⟨trivial, ⟨trivial, trivial⟩⟩, ⟨⟨trivial, ⟨trivial, ⟨trivial, trivial⟩⟩⟩, trivial⟩⟩⟩⟩⟩, ⟨trivial, trivial⟩⟩⟩
theorem laws_markRegionS.ok (k : Nat) : EntOk Try.prog k laws_markRegionS.ent := fn_ok (C := laws_markRegionS.ctx k) Try.func145 (by kernel_rfl) (by kernel_rfl) mixed tdsOk EntsOk.nil (by kernel_rfl) (Nat.le_of_ble_eq_true (by kernel_rfl)) (by kernel_rfl) (laws_markRegionS.runs k) (laws_markRegionS.obls k)
/-! loop.example/g00200/laws.markWindowS -/
def laws_markWindowS.l1 (k : Nat)  : Nat → Int × Int × (List (Int × Int)) × Unit → Option (Int × List (Int × Int))
  | 0, _ => none
  | n + 1, (x1, x2, x3, _) => if x2 < (x3.length : Int) then (if 0 ≤ x2 then (if x2 < (x3.length : Int) then (((some (x3.set x2.toNat (x1, (el (.pair (.int .i64) (.int .i64)) x3 x2.toNat).2)))).bind fun y1 => (if 0 ≤ x2 then (if x2 < (y1.length : Int) then (((some (y1.set x2.toNat ((el (.pair (.int .i64) (.int .i64)) y1 x2.toNat).1, w64 (x1 + 1))))).bind fun y2 => (laws_markWindowS.l1 k n (w64 ((w64 (x1 + 1)) + 1), w64 (x2 + 1), y2, ()))) else none) else none)) else none) else none) else (some (x1, x3))
def laws_markWindowS.f (k : Nat) (a0 : List (Int × Int)) (a1 : Int) : Option (Int × List (Int × Int)) :=
  laws_markWindowS.l1 k k (a1, 0, a0, ())
def laws_markWindowS.Sl1 : Shape := ⟨[(0, false, [.own 0]), (1, false, [.int .i64]), (5, false, [.int .i64])], [(0, .row 35 (.pair (.int .i64) (.int .i64)))], 1⟩
def laws_markWindowS.sig : Sig := ⟨[.val false (.sl 35 (.pair (.int .i64) (.int .i64))) [1], .val false (.int .i64) []], [.val false (.int .i64) []]⟩
def laws_markWindowS.F (k : Nat) (x : Args laws_markWindowS.sig.ps) : Option (Res laws_markWindowS.sig) := laws_markWindowS.f k x.1 x.2.1
def laws_markWindowS.ann (k : Nat) : Ann (Res laws_markWindowS.sig) := (.seq .nil (.seq (.seq .nil (.block (.loop laws_markWindowS.Sl1 (laws_markWindowS.l1 k) fun n1 => .nil))) .nil))
def laws_markWindowS.ent : Ent := ⟨146, laws_markWindowS.sig, laws_markWindowS.F⟩
def laws_markWindowS.ctx (k : Nat) : Ctx := ⟨tds, [], k, 27⟩
theorem laws_markWindowS.runs (k : Nat) (x : Args laws_markWindowS.sig.ps) : laws_markWindowS.F k x = runF (laws_markWindowS.ctx k) laws_markWindowS.sig Try.f146 (Try.f146.body.getD .skip) (laws_markWindowS.ann k) x := by kernel_rfl
theorem laws_markWindowS.obls (k : Nat) : obl (laws_markWindowS.ctx k) 1 (Try.f146.body.getD .skip) (laws_markWindowS.ann k) (retK tds laws_markWindowS.sig Try.f146.results.toList) := ⟨trivial, ⟨⟨trivial, ⟨⟨by kernel_rfl, fun x => by kernel_rfl⟩, fun n => ⟨fun x => by kernel_rfl, ⟨⟨trivial, ⟨trivial, trivial⟩⟩, ⟨⟨trivial, ⟨trivial, ⟨trivial, trivial⟩⟩⟩, trivial⟩⟩⟩⟩⟩, ⟨trivial, trivial⟩⟩⟩
theorem laws_markWindowS.ok (k : Nat) : EntOk Try.prog k laws_markWindowS.ent := fn_ok (C := laws_markWindowS.ctx k) Try.func146 (by kernel_rfl) (by kernel_rfl) mixed tdsOk EntsOk.nil (by kernel_rfl) (Nat.le_of_ble_eq_true (by kernel_rfl)) (by kernel_rfl) (laws_markWindowS.runs k) (laws_markWindowS.obls k)
/-! loop.example/g00200/laws.markPortS -/
def laws_markPortS.l1 (k : Nat)  : Nat → Int × Int × (List (Int × Int × Int × Int × Int)) × Unit → Option (Int × List (Int × Int × Int × Int × Int))
  | 0, _ => none
  | n + 1, (x1, x2, x3, _) => if x2 < (x3.length : Int) then (if 0 ≤ x2 then (if x2 < (x3.length : Int) then (((some (x3.set x2.toNat (x1, (el (.pair (.int .i64) (.pair (.int .i64) (.pair (.int .i64) (.pair (.int .i64) (.int .i64))))) x3 x2.toNat).2)))).bind fun y1 => (if 0 ≤ x2 then (if x2 < (y1.length : Int) then (((some (y1.set x2.toNat ((el (.pair (.int .i64) (.pair (.int .i64) (.pair (.int .i64) (.pair (.int .i64) (.int .i64))))) y1 x2.toNat).1, (w64 (x1 + 1), ((el (.pair (.int .i64) (.pair (.int .i64) (.pair (.int .i64) (.pair (.int .i64) (.int .i64))))) y1 x2.toNat).2).2))))).bind fun y2 => (if 0 ≤ x2 then (if x2 < (y2.length : Int) then (((some (y2.set x2.toNat ((el (.pair (.int .i64) (.pair (.int .i64) (.pair (.int .i64) (.pair (.int .i64) (.int .i64))))) y2 x2.toNat).1, (((el (.pair (.int .i64) (.pair (.int .i64) (.pair (.int .i64) (.pair (.int .i64) (.int .i64))))) y2 x2.toNat).2).1, (w64 ((w64 (x1 + 1)) + 1), (((el (.pair (.int .i64) (.pair (.int .i64) (.pair (.int .i64) (.pair (.int .i64) (.int .i64))))) y2 x2.toNat).2).2).2)))))).bind fun y3 => (if 0 ≤ x2 then (if x2 < (y3.length : Int) then (((some (y3.set x2.toNat ((el (.pair (.int .i64) (.pair (.int .i64) (.pair (.int .i64) (.pair (.int .i64) (.int .i64))))) y3 x2.toNat).1, (((el (.pair (.int .i64) (.pair (.int .i64) (.pair (.int .i64) (.pair (.int .i64) (.int .i64))))) y3 x2.toNat).2).1, ((((el (.pair (.int .i64) (.pair (.int .i64) (.pair (.int .i64) (.pair (.int .i64) (.int .i64))))) y3 x2.toNat).2).2).1, (w64 ((w64 ((w64 (x1 + 1)) + 1)) + 1), ((((el (.pair (.int .i64) (.pair (.int .i64) (.pair (.int .i64) (.pair (.int .i64) (.int .i64))))) y3 x2.toNat).2).2).2).2))))))).bind fun y4 => (if 0 ≤ x2 then (if x2 < (y4.length : Int) then (((some (y4.set x2.toNat ((el (.pair (.int .i64) (.pair (.int .i64) (.pair (.int .i64) (.pair (.int .i64) (.int .i64))))) y4 x2.toNat).1, (((el (.pair (.int .i64) (.pair (.int .i64) (.pair (.int .i64) (.pair (.int .i64) (.int .i64))))) y4 x2.toNat).2).1, ((((el (.pair (.int .i64) (.pair (.int .i64) (.pair (.int .i64) (.pair (.int .i64) (.int .i64))))) y4 x2.toNat).2).2).1, (((((el (.pair (.int .i64) (.pair (.int .i64) (.pair (.int .i64) (.pair (.int .i64) (.int .i64))))) y4 x2.toNat).2).2).2).1, w64 ((w64 ((w64 ((w64 (x1 + 1)) + 1)) + 1)) + 1)))))))).bind fun y5 => (laws_markPortS.l1 k n (w64 ((w64 ((w64 ((w64 ((w64 (x1 + 1)) + 1)) + 1)) + 1)) + 1), w64 (x2 + 1), y5, ()))) else none) else none)) else none) else none)) else none) else none)) else none) else none)) else none) else none) else (some (x1, x3))
def laws_markPortS.f (k : Nat) (a0 : List (Int × Int × Int × Int × Int)) (a1 : Int) : Option (Int × List (Int × Int × Int × Int × Int)) :=
  laws_markPortS.l1 k k (a1, 0, a0, ())
def laws_markPortS.Sl1 : Shape := ⟨[(0, false, [.own 0]), (1, false, [.int .i64]), (5, false, [.int .i64])], [(0, .row 42 (.pair (.int .i64) (.pair (.int .i64) (.pair (.int .i64) (.pair (.int .i64) (.int .i64))))))], 1⟩
def laws_markPortS.sig : Sig := ⟨[.val false (.sl 42 (.pair (.int .i64) (.pair (.int .i64) (.pair (.int .i64) (.pair (.int .i64) (.int .i64)))))) [1], .val false (.int .i64) []], [.val false (.int .i64) []]⟩
def laws_markPortS.F (k : Nat) (x : Args laws_markPortS.sig.ps) : Option (Res laws_markPortS.sig) := laws_markPortS.f k x.1 x.2.1
def laws_markPortS.ann (k : Nat) : Ann (Res laws_markPortS.sig) := (.seq .nil (.seq (.seq .nil (.block (.loop laws_markPortS.Sl1 (laws_markPortS.l1 k) fun n1 => .nil))) .nil))
def laws_markPortS.ent : Ent := ⟨147, laws_markPortS.sig, laws_markPortS.F⟩
def laws_markPortS.ctx (k : Nat) : Ctx := ⟨tds, [], k, 48⟩
theorem laws_markPortS.runs (k : Nat) (x : Args laws_markPortS.sig.ps) : laws_markPortS.F k x = runF (laws_markPortS.ctx k) laws_markPortS.sig Try.f147 (Try.f147.body.getD .skip) (laws_markPortS.ann k) x := by kernel_rfl
theorem laws_markPortS.obls (k : Nat) : obl (laws_markPortS.ctx k) 1 (Try.f147.body.getD .skip) (laws_markPortS.ann k) (retK tds laws_markPortS.sig Try.f147.results.toList) := ⟨trivial, ⟨⟨trivial, ⟨⟨by kernel_rfl, fun x => by kernel_rfl⟩, fun n => ⟨fun x => by kernel_rfl, ⟨⟨trivial, ⟨trivial, trivial⟩⟩, ⟨⟨trivial, ⟨trivial, ⟨trivial, ⟨trivial, ⟨trivial, ⟨trivial, ⟨trivial, ⟨trivial, ⟨trivial, trivial⟩⟩⟩⟩⟩⟩⟩⟩⟩, trivial⟩⟩⟩⟩⟩, ⟨trivial, trivial⟩⟩⟩
theorem laws_markPortS.ok (k : Nat) : EntOk Try.prog k laws_markPortS.ent := fn_ok (C := laws_markPortS.ctx k) Try.func147 (by kernel_rfl) (by kernel_rfl) mixed tdsOk EntsOk.nil (by kernel_rfl) (Nat.le_of_ble_eq_true (by kernel_rfl)) (by kernel_rfl) (laws_markPortS.runs k) (laws_markPortS.obls k)
/-! loop.example/g00200/laws.markRuleS -/
def laws_markRuleS.l1 (k : Nat)  : Nat → Int × Int × (List (Int × Int × Int)) × Unit → Option (Int × List (Int × Int × Int))
  | 0, _ => none
  | n + 1, (x1, x2, x3, _) => if x2 < (x3.length : Int) then (if 0 ≤ x2 then (if x2 < (x3.length : Int) then (((some (x3.set x2.toNat (x1, (el (.pair (.int .i64) (.pair (.int .i64) (.int .i64))) x3 x2.toNat).2)))).bind fun y1 => (if 0 ≤ x2 then (if x2 < (y1.length : Int) then (((some (y1.set x2.toNat ((el (.pair (.int .i64) (.pair (.int .i64) (.int .i64))) y1 x2.toNat).1, (w64 (x1 + 1), ((el (.pair (.int .i64) (.pair (.int .i64) (.int .i64))) y1 x2.toNat).2).2))))).bind fun y2 => (if 0 ≤ x2 then (if x2 < (y2.length : Int) then (((some (y2.set x2.toNat ((el (.pair (.int .i64) (.pair (.int .i64) (.int .i64))) y2 x2.toNat).1, (((el (.pair (.int .i64) (.pair (.int .i64) (.int .i64))) y2 x2.toNat).2).1, w64 ((w64 (x1 + 1)) + 1)))))).bind fun y3 => (laws_markRuleS.l1 k n (w64 ((w64 ((w64 (x1 + 1)) + 1)) + 1), w64 (x2 + 1), y3, ()))) else none) else none)) else none) else none)) else none) else none) else (some (x1, x3))
def laws_markRuleS.f (k : Nat) (a0 : List (Int × Int × Int)) (a1 : Int) : Option (Int × List (Int × Int × Int)) :=
  laws_markRuleS.l1 k k (a1, 0, a0, ())
def laws_markRuleS.Sl1 : Shape := ⟨[(0, false, [.own 0]), (1, false, [.int .i64]), (5, false, [.int .i64])], [(0, .row 40 (.pair (.int .i64) (.pair (.int .i64) (.int .i64))))], 1⟩
def laws_markRuleS.sig : Sig := ⟨[.val false (.sl 40 (.pair (.int .i64) (.pair (.int .i64) (.int .i64)))) [1], .val false (.int .i64) []], [.val false (.int .i64) []]⟩
def laws_markRuleS.F (k : Nat) (x : Args laws_markRuleS.sig.ps) : Option (Res laws_markRuleS.sig) := laws_markRuleS.f k x.1 x.2.1
def laws_markRuleS.ann (k : Nat) : Ann (Res laws_markRuleS.sig) := (.seq .nil (.seq (.seq .nil (.block (.loop laws_markRuleS.Sl1 (laws_markRuleS.l1 k) fun n1 => .nil))) .nil))
def laws_markRuleS.ent : Ent := ⟨148, laws_markRuleS.sig, laws_markRuleS.F⟩
def laws_markRuleS.ctx (k : Nat) : Ctx := ⟨tds, [], k, 34⟩
theorem laws_markRuleS.runs (k : Nat) (x : Args laws_markRuleS.sig.ps) : laws_markRuleS.F k x = runF (laws_markRuleS.ctx k) laws_markRuleS.sig Try.f148 (Try.f148.body.getD .skip) (laws_markRuleS.ann k) x := by kernel_rfl
theorem laws_markRuleS.obls (k : Nat) : obl (laws_markRuleS.ctx k) 1 (Try.f148.body.getD .skip) (laws_markRuleS.ann k) (retK tds laws_markRuleS.sig Try.f148.results.toList) := ⟨trivial, ⟨⟨trivial, ⟨⟨by kernel_rfl, fun x => by kernel_rfl⟩, fun n => ⟨fun x => by kernel_rfl, ⟨⟨trivial, ⟨trivial, trivial⟩⟩, ⟨⟨trivial, ⟨trivial, ⟨trivial, ⟨trivial, ⟨trivial, trivial⟩⟩⟩⟩⟩, trivial⟩⟩⟩⟩⟩, ⟨trivial, trivial⟩⟩⟩
theorem laws_markRuleS.ok (k : Nat) : EntOk Try.prog k laws_markRuleS.ent := fn_ok (C := laws_markRuleS.ctx k) Try.func148 (by kernel_rfl) (by kernel_rfl) mixed tdsOk EntsOk.nil (by kernel_rfl) (Nat.le_of_ble_eq_true (by kernel_rfl)) (by kernel_rfl) (laws_markRuleS.runs k) (laws_markRuleS.obls k)
/-! loop.example/g00200/laws.markText -/
def laws_markText.l1 (k : Nat)  : Nat → Int × ByteArray × Unit → Option (ByteArray)
  | 0, _ => none
  | n + 1, (x1, x2, _) => if 0 < x1 then (((some ([IntKind.u8.wrap (w64 (48 + (Int.tmod x1 10)))] : List Int))).bind fun y1 => (if (chrs y1).size + x2.size ≤ 9223372036854775807 then (laws_markText.l1 k n (w64 (Int.tdiv x1 10), (chrs y1) ++ x2, ())) else none)) else (if (⟨#[109]⟩ : ByteArray).size + x2.size ≤ 9223372036854775807 then (some ((⟨#[109]⟩ : ByteArray) ++ x2)) else none)
def laws_markText.f (k : Nat) (a0 : Int) : Option (ByteArray) :=
  if a0 ≤ 0 then (some (⟨#[109, 48]⟩ : ByteArray)) else (laws_markText.l1 k k (a0, (⟨#[]⟩ : ByteArray), ()))
def laws_markText.Sl1 : Shape := ⟨[(0, false, [.int .i64]), (3, false, [.str])], [], 0⟩
def laws_markText.sig : Sig := ⟨[.val false (.int .i64) []], [.val false .str []]⟩
def laws_markText.F (k : Nat) (x : Args laws_markText.sig.ps) : Option (Res laws_markText.sig) := laws_markText.f k x.1
def laws_markText.ann (k : Nat) : Ann (Res laws_markText.sig) := (.seq .nil (.seq .nil (.seq .nil (.seq (.block (.loop laws_markText.Sl1 (laws_markText.l1 k) fun n1 => .nil)) .nil))))
def laws_markText.ent : Ent := ⟨186, laws_markText.sig, laws_markText.F⟩
def laws_markText.ctx (k : Nat) : Ctx := ⟨tds, [], k, 20⟩
theorem laws_markText.runs (k : Nat) (x : Args laws_markText.sig.ps) : laws_markText.F k x = runF (laws_markText.ctx k) laws_markText.sig Try.f186 (Try.f186.body.getD .skip) (laws_markText.ann k) x := by kernel_rfl
theorem laws_markText.obls (k : Nat) : obl (laws_markText.ctx k) 0 (Try.f186.body.getD .skip) (laws_markText.ann k) (retK tds laws_markText.sig Try.f186.results.toList) := ⟨trivial, ⟨⟨trivial, ⟨⟨trivial, trivial⟩, trivial⟩⟩, ⟨trivial, ⟨⟨⟨by kernel_rfl, fun x => by kernel_rfl⟩, fun n => ⟨fun x => by kernel_rfl, ⟨⟨trivial, ⟨trivial, trivial⟩⟩, ⟨trivial, trivial⟩⟩⟩⟩, ⟨trivial, trivial⟩⟩⟩⟩⟩
theorem laws_markText.ok (k : Nat) : EntOk Try.prog k laws_markText.ent := fn_ok (C := laws_markText.ctx k) Try.func186 (by kernel_rfl) (by kernel_rfl) mixed tdsOk EntsOk.nil (by kernel_rfl) (Nat.le_of_ble_eq_true (by kernel_rfl)) (by kernel_rfl) (laws_markText.runs k) (laws_markText.obls k)
/-! loop.example/g00200/laws.markStringS -/
def laws_markStringS.l1 (k : Nat)  : Nat → Int × Int × List ByteArray × Unit → Option (Int × List ByteArray)
  | 0, _ => none
  | n + 1, (x1, x2, x3, _) => if x2 < (x3.length : Int) then ((laws_markText.f k x1).bind fun t1 => (if 0 ≤ x2 then (if x2 < (x3.length : Int) then (((some (x3.set x2.toNat t1))).bind fun y2 => (laws_markStringS.l1 k n (w64 (x1 + 1), w64 (x2 + 1), y2, ()))) else none) else none)) else (some (x1, x3))
def laws_markStringS.f (k : Nat) (a0 : List ByteArray) (a1 : Int) : Option (Int × List ByteArray) :=
  laws_markStringS.l1 k k (a1, 0, a0, ())
def laws_markStringS.Sl1 : Shape := ⟨[(0, false, [.own 0]), (1, false, [.int .i64]), (5, false, [.int .i64])], [(0, .row 9 .str)], 1⟩
def laws_markStringS.sig : Sig := ⟨[.val false (.sl 9 .str) [1], .val false (.int .i64) []], [.val false (.int .i64) []]⟩
def laws_markStringS.F (k : Nat) (x : Args laws_markStringS.sig.ps) : Option (Res laws_markStringS.sig) := laws_markStringS.f k x.1 x.2.1
def laws_markStringS.ann (k : Nat) : Ann (Res laws_markStringS.sig) := (.seq .nil (.seq (.seq .nil (.block (.loop laws_markStringS.Sl1 (laws_markStringS.l1 k) fun n1 => .nil))) .nil))
def laws_markStringS.ent : Ent := ⟨149, laws_markStringS.sig, laws_markStringS.F⟩
def laws_markStringS.ctx (k : Nat) : Ctx := ⟨tds, [laws_markText.ent], k, 20⟩
theorem laws_markStringS.runs (k : Nat) (x : Args laws_markStringS.sig.ps) : laws_markStringS.F k x = runF (laws_markStringS.ctx k) laws_markStringS.sig Try.f149 (Try.f149.body.getD .skip) (laws_markStringS.ann k) x := by kernel_rfl
theorem laws_markStringS.obls (k : Nat) : obl (laws_markStringS.ctx k) 1 (Try.f149.body.getD .skip) (laws_markStringS.ann k) (retK tds laws_markStringS.sig Try.f149.results.toList) := ⟨trivial, ⟨⟨trivial, ⟨⟨by kernel_rfl, fun x => by kernel_rfl⟩, fun n => ⟨fun x => by kernel_rfl, ⟨⟨trivial, ⟨trivial, trivial⟩⟩, ⟨⟨trivial, trivial⟩, trivial⟩⟩⟩⟩⟩, ⟨trivial, trivial⟩⟩⟩
theorem laws_markStringS.ok (k : Nat) : EntOk Try.prog k laws_markStringS.ent := fn_ok (C := laws_markStringS.ctx k) Try.func149 (by kernel_rfl) (by kernel_rfl) mixed tdsOk (.cons (laws_markText.ok k) EntsOk.nil) (by kernel_rfl) (Nat.le_of_ble_eq_true (by kernel_rfl)) (by kernel_rfl) (laws_markStringS.runs k) (laws_markStringS.obls k)
/-! loop.example/g00200/laws.markSetup -/
def laws_markSetup.f (k : Nat) (a0 : List (Int × Int) × List (Int × Int) × List (Int × Int × Int × Int × Int) × List (Int × Int × Int) × List ByteArray) (a1 : Int) : Option (Int × (List (Int × Int)) × (List (Int × Int)) × (List (Int × Int × Int × Int × Int)) × (List (Int × Int × Int)) × List ByteArray) :=
  (laws_markRegionS.f k a0.1 a1).bind fun t1 => ((laws_markWindowS.f k a0.2.1 t1.1).bind fun t2 => ((laws_markPortS.f k a0.2.2.1 t2.1).bind fun t3 => ((laws_markRuleS.f k a0.2.2.2.1 t3.1).bind fun t4 => ((laws_markStringS.f k a0.2.2.2.2 t4.1).bind fun t5 => (some (t5.1, t1.2, t2.2, t3.2, t4.2, t5.2))))))
def laws_markSetup.sig : Sig := ⟨[.val true (.pair (.sl 53 (.pair (.int .i64) (.int .i64))) (.pair (.sl 35 (.pair (.int .i64) (.int .i64))) (.pair (.sl 42 (.pair (.int .i64) (.pair (.int .i64) (.pair (.int .i64) (.pair (.int .i64) (.int .i64)))))) (.pair (.sl 40 (.pair (.int .i64) (.pair (.int .i64) (.int .i64)))) (.sl 9 .str))))) [1, 1, 1, 1, 1], .val false (.int .i64) []], [.val false (.int .i64) []]⟩
def laws_markSetup.F (k : Nat) (x : Args laws_markSetup.sig.ps) : Option (Res laws_markSetup.sig) := laws_markSetup.f k x.1 x.2.1
def laws_markSetup.ann (k : Nat) : Ann (Res laws_markSetup.sig) := .nil
def laws_markSetup.ent : Ent := ⟨61, laws_markSetup.sig, laws_markSetup.F⟩
def laws_markSetup.ctx (k : Nat) : Ctx := ⟨tds, [laws_markRegionS.ent, laws_markWindowS.ent, laws_markPortS.ent, laws_markRuleS.ent, laws_markStringS.ent], k, 26⟩
theorem laws_markSetup.runs (k : Nat) (x : Args laws_markSetup.sig.ps) : laws_markSetup.F k x = runF (laws_markSetup.ctx k) laws_markSetup.sig Try.f61 (Try.f61.body.getD .skip) (laws_markSetup.ann k) x := by kernel_rfl
theorem laws_markSetup.obls (k : Nat) : obl (laws_markSetup.ctx k) 5 (Try.f61.body.getD .skip) (laws_markSetup.ann k) (retK tds laws_markSetup.sig Try.f61.results.toList) := ⟨trivial, ⟨trivial, ⟨trivial, ⟨trivial, ⟨trivial, ⟨trivial, ⟨trivial, trivial⟩⟩⟩⟩⟩⟩⟩
theorem laws_markSetup.ok (k : Nat) : EntOk Try.prog k laws_markSetup.ent := fn_ok (C := laws_markSetup.ctx k) Try.func61 (by kernel_rfl) (by kernel_rfl) mixed tdsOk (.cons (laws_markRegionS.ok k) (.cons (laws_markWindowS.ok k) (.cons (laws_markPortS.ok k) (.cons (laws_markRuleS.ok k) (.cons (laws_markStringS.ok k) EntsOk.nil))))) (by kernel_rfl) (Nat.le_of_ble_eq_true (by kernel_rfl)) (by kernel_rfl) (laws_markSetup.runs k) (laws_markSetup.obls k)
/-! loop.example/g00200/laws.heldRegionS -/
def laws_heldRegionS.l1 (k : Nat)  : Nat → Int × Int × (List (Int × Int)) × Unit → Option (Int)
  | 0, _ => none
  | n + 1, (x1, x2, x3, _) => if x2 < (x3.length : Int) then (if 0 ≤ x2 then (if x2 < (x3.length : Int) then (if ¬ ((el (.pair (.int .i64) (.int .i64)) x3 x2.toNat).1) = x1 then (some (-1)) else (if 0 ≤ x2 then (if x2 < (x3.length : Int) then (if ¬ ((el (.pair (.int .i64) (.int .i64)) x3 x2.toNat).2) = (w64 (x1 + 1)) then (some (-1)) else (laws_heldRegionS.l1 k n (w64 ((w64 (x1 + 1)) + 1), w64 (x2 + 1), x3, ()))) else none) else none)) else none) else none) else (some x1)
def laws_heldRegionS.f (k : Nat) (a0 : List (Int × Int)) (a1 : Int) : Option (Int) :=
  laws_heldRegionS.l1 k k (a1, 0, a0, ())
def laws_heldRegionS.Sl1 : Shape := ⟨[(0, false, [.own 0]), (1, false, [.int .i64]), (5, false, [.int .i64])], [(0, .view false 53 (.pair (.int .i64) (.int .i64)))], 1⟩
def laws_heldRegionS.sig : Sig := ⟨[.val false (.sl 53 (.pair (.int .i64) (.int .i64))) [0], .val false (.int .i64) []], [.val false (.int .i64) []]⟩
def laws_heldRegionS.F (k : Nat) (x : Args laws_heldRegionS.sig.ps) : Option (Res laws_heldRegionS.sig) := laws_heldRegionS.f k x.1 x.2.1
def laws_heldRegionS.ann (k : Nat) : Ann (Res laws_heldRegionS.sig) := (.seq .nil (.seq (.seq .nil (.block (.loop laws_heldRegionS.Sl1 (laws_heldRegionS.l1 k) fun n1 => .nil))) .nil))
def laws_heldRegionS.ent : Ent := ⟨150, laws_heldRegionS.sig, laws_heldRegionS.F⟩
def laws_heldRegionS.ctx (k : Nat) : Ctx := ⟨tds, [], k, 31⟩
theorem laws_heldRegionS.runs (k : Nat) (x : Args laws_heldRegionS.sig.ps) : laws_heldRegionS.F k x = runF (laws_heldRegionS.ctx k) laws_heldRegionS.sig Try.f150 (Try.f150.body.getD .skip) (laws_heldRegionS.ann k) x := by kernel_rfl
theorem laws_heldRegionS.obls (k : Nat) : obl (laws_heldRegionS.ctx k) 1 (Try.f150.body.getD .skip) (laws_heldRegionS.ann k) (retK tds laws_heldRegionS.sig Try.f150.results.toList) := ⟨trivial, ⟨⟨trivial, ⟨⟨by kernel_rfl, fun x => by kernel_rfl⟩, fun n => ⟨fun x => by kernel_rfl, ⟨⟨trivial, ⟨trivial, trivial⟩⟩, ⟨⟨⟨trivial, ⟨⟨trivial, trivial⟩, trivial⟩⟩, ⟨trivial, ⟨⟨trivial, ⟨⟨trivial, trivial⟩, trivial⟩⟩, trivial⟩⟩⟩, trivial⟩⟩⟩⟩⟩, ⟨trivial, trivial⟩⟩⟩
theorem laws_heldRegionS.ok (k : Nat) : EntOk Try.prog k laws_heldRegionS.ent := fn_ok (C := laws_heldRegionS.ctx k) Try.func150 (by kernel_rfl) (by kernel_rfl) mixed tdsOk EntsOk.nil (by kernel_rfl) (Nat.le_of_ble_eq_true (by kernel_rfl)) (by kernel_rfl) (laws_heldRegionS.runs k) (laws_heldRegionS.obls k)
/-! loop.example/g00200/laws.heldWindowS -/
def laws_heldWindowS.l1 (k : Nat)  : Nat → Int × Int × (List (Int × Int)) × Unit → Option (Int)
  | 0, _ => none
  | n + 1, (x1, x2, x3, _) => if x2 < (x3.length : Int) then (if 0 ≤ x2 then (if x2 < (x3.length : Int) then (if ¬ ((el (.pair (.int .i64) (.int .i64)) x3 x2.toNat).1) = x1 then (some (-1)) else (if 0 ≤ x2 then (if x2 < (x3.length : Int) then (if ¬ ((el (.pair (.int .i64) (.int .i64)) x3 x2.toNat).2) = (w64 (x1 + 1)) then (some (-1)) else (laws_heldWindowS.l1 k n (w64 ((w64 (x1 + 1)) + 1), w64 (x2 + 1), x3, ()))) else none) else none)) else none) else none) else (some x1)
def laws_heldWindowS.f (k : Nat) (a0 : List (Int × Int)) (a1 : Int) : Option (Int) :=
  laws_heldWindowS.l1 k k (a1, 0, a0, ())
def laws_heldWindowS.Sl1 : Shape := ⟨[(0, false, [.own 0]), (1, false, [.int .i64]), (5, false, [.int .i64])], [(0, .view false 35 (.pair (.int .i64) (.int .i64)))], 1⟩
def laws_heldWindowS.sig : Sig := ⟨[.val false (.sl 35 (.pair (.int .i64) (.int .i64))) [0], .val false (.int .i64) []], [.val false (.int .i64) []]⟩
def laws_heldWindowS.F (k : Nat) (x : Args laws_heldWindowS.sig.ps) : Option (Res laws_heldWindowS.sig) := laws_heldWindowS.f k x.1 x.2.1
def laws_heldWindowS.ann (k : Nat) : Ann (Res laws_heldWindowS.sig) := (.seq .nil (.seq (.seq .nil (.block (.loop laws_heldWindowS.Sl1 (laws_heldWindowS.l1 k) fun n1 => .nil))) .nil))
def laws_heldWindowS.ent : Ent := ⟨151, laws_heldWindowS.sig, laws_heldWindowS.F⟩
def laws_heldWindowS.ctx (k : Nat) : Ctx := ⟨tds, [], k, 31⟩
theorem laws_heldWindowS.runs (k : Nat) (x : Args laws_heldWindowS.sig.ps) : laws_heldWindowS.F k x = runF (laws_heldWindowS.ctx k) laws_heldWindowS.sig Try.f151 (Try.f151.body.getD .skip) (laws_heldWindowS.ann k) x := by kernel_rfl
theorem laws_heldWindowS.obls (k : Nat) : obl (laws_heldWindowS.ctx k) 1 (Try.f151.body.getD .skip) (laws_heldWindowS.ann k) (retK tds laws_heldWindowS.sig Try.f151.results.toList) := ⟨trivial, ⟨⟨trivial, ⟨⟨by kernel_rfl, fun x => by kernel_rfl⟩, fun n => ⟨fun x => by kernel_rfl, ⟨⟨trivial, ⟨trivial, trivial⟩⟩, ⟨⟨⟨trivial, ⟨⟨trivial, trivial⟩, trivial⟩⟩, ⟨trivial, ⟨⟨trivial, ⟨⟨trivial, trivial⟩, trivial⟩⟩, trivial⟩⟩⟩, trivial⟩⟩⟩⟩⟩, ⟨trivial, trivial⟩⟩⟩
theorem laws_heldWindowS.ok (k : Nat) : EntOk Try.prog k laws_heldWindowS.ent := fn_ok (C := laws_heldWindowS.ctx k) Try.func151 (by kernel_rfl) (by kernel_rfl) mixed tdsOk EntsOk.nil (by kernel_rfl) (Nat.le_of_ble_eq_true (by kernel_rfl)) (by kernel_rfl) (laws_heldWindowS.runs k) (laws_heldWindowS.obls k)
end Go.Proofs.Ytcnaldcinkmpbaa.QA
