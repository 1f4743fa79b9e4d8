/- The plain functions of Go functions, and that each Go function does what its plain function tells. Printed by a program of this session (gen.py). -/
import Derived.Test.YtacpibmmodeacaaQA
import Derived.Test.YtacpibmmodeacaaProg
import Derived.Test.YtacpibmmodeacaaAbDa
import Derived.KernelRfl
namespace Go.Proofs.Ytacpibmmodeacaa.QA
open Go Go.Proofs Go.Proofs.YtacpibmmodeacaaA
set_option linter.unusedVariables false
set_option maxRecDepth 100000
/-! loop.example/g00200/impl.CellsOf -/
def impl_CellsOf.l1 (k : Nat)  : Nat → Int × Int × Int × List Int × List Int × Unit → Option (List Int)
  | 0, _ => none
  | n + 1, (x1, x2, x3, x4, x5, _) => (impl_cellAt.f k x4 (x2, x3) x1).bind fun t2 => (if 0 ≤ t2 then (if 0 ≤ w64 (x2 + x1) then (if w64 (x2 + x1) < (x4.length : Int) then (((some ([el (.int .i64) x4 ((w64 (x2 + x1)).toNat)] : List Int))).bind fun y3 => (if (x5.length + y3.length) * 8 ≤ 140737488355328 then (((some (x5 ++ y3))).bind fun y4 => (impl_CellsOf.l1 k n (w64 (x1 + 1), x2, x3, x4, y4, ()))) else none)) else none) else none) else (some x5))
def impl_CellsOf.f (k : Nat) (a0 : List Int) (a1 : Int × Int) : Option (List Int) :=
  ((some ([] : List Int))).bind fun y1 => (impl_CellsOf.l1 k k (0, a1.1, a1.2, a0, y1, ()))
def impl_CellsOf.Sl1 : Shape := ⟨[(2, false, [.ptr 1 0]), (3, false, [.ptr 2 0]), (5, false, [.own 3]), (6, false, [.int .i64])], [(1, .blk 46 [.own 0]), (2, .blk 31 [.int .i64, .int .i64]), (0, .view false 3 (.int .i64)), (3, .row 3 (.int .i64))], 4⟩
def impl_CellsOf.sig : Sig := ⟨[.val true (.sl 3 (.int .i64)) [0], .val true (.pair (.int .i64) (.int .i64)) []], [.val false (.sl 3 (.int .i64)) [none]]⟩
def impl_CellsOf.F (k : Nat) (x : Args impl_CellsOf.sig.ps) : Option (Res impl_CellsOf.sig) := impl_CellsOf.f k x.1 x.2.1
def impl_CellsOf.ann (k : Nat) : Ann (Res impl_CellsOf.sig) := (.seq .nil (.seq .nil (.seq (.seq .nil (.block (.loop impl_CellsOf.Sl1 (impl_CellsOf.l1 k) fun n1 => .nil))) .nil)))
def impl_CellsOf.ent : Ent := ⟨62, impl_CellsOf.sig, impl_CellsOf.F⟩
def impl_CellsOf.ctx (k : Nat) : Ctx := ⟨tds, [impl_cellAt.ent], k, 27⟩
theorem impl_CellsOf.runs (k : Nat) (x : Args impl_CellsOf.sig.ps) : impl_CellsOf.F k x = runF (impl_CellsOf.ctx k) impl_CellsOf.sig Try.f62 (Try.f62.body.getD .skip) (impl_CellsOf.ann k) x := by kernel_rfl
theorem impl_CellsOf.obls (k : Nat) : obl (impl_CellsOf.ctx k) 1 (Try.f62.body.getD .skip) (impl_CellsOf.ann k) (retK tds impl_CellsOf.sig Try.f62.results.toList) := ⟨trivial, ⟨trivial, ⟨⟨trivial, ⟨⟨by kernel_rfl, fun x => by kernel_rfl⟩, fun n => ⟨fun x => by kernel_rfl, ⟨⟨trivial, ⟨trivial, trivial⟩⟩, ⟨trivial, trivial⟩⟩⟩⟩⟩, ⟨trivial, trivial⟩⟩⟩⟩
theorem impl_CellsOf.ok (k : Nat) : EntOk Try.prog k impl_CellsOf.ent := fn_ok (C := impl_CellsOf.ctx k) Try.func62 (by kernel_rfl) (by kernel_rfl) mixed tdsOk (.cons (impl_cellAt.ok k) EntsOk.nil) (by kernel_rfl) (Nat.le_of_ble_eq_true (by kernel_rfl)) (by kernel_rfl) (impl_CellsOf.runs k) (impl_CellsOf.obls k)
/-! loop.example/g00200/impl.PartView -/
def impl_PartView.f (k : Nat) (a0 : (List (Int × Int) × List (Int × Int) × List (Int × Int × Int × Int × Int) × List (Int × Int × Int) × List ByteArray) × List Int × List (Int × (Int × List Int) × Int × Int × Int) × List (List (Int × Int)) × List Int × Int × Bool × List (Int × Int × Int × Int × Int)) (a1 : Int) : Option ((Int × (Int × List Int) × Int × Int × Int) × List Int × List Int) :=
  (impl_within.f k a1 1 (a0.2.2.1.length : Int)).bind fun t1 => (if ¬ t1 = true then (some ((0, ((0, []), (0, (0, 0)))), [], [])) else (if (a0.1.1.length : Int) < a1 then (some ((0, ((0, []), (0, (0, 0)))), [], [])) else (if (a0.2.2.2.2.1.length : Int) < (w64 (2 * a1)) then (some ((0, ((0, []), (0, (0, 0)))), [], [])) else (if 0 ≤ w64 (a1 - 1) then (if w64 (a1 - 1) < (a0.2.2.1.length : Int) then ((impl_copyPart.f k ((el (.pair (.int .i64) (.pair (.pair (.int .i64) (.sl 3 (.int .i64))) (.pair (.int .i64) (.pair (.int .i64) (.int .i64))))) a0.2.2.1 ((w64 (a1 - 1)).toNat)).1, ((((el (.pair (.int .i64) (.pair (.pair (.int .i64) (.sl 3 (.int .i64))) (.pair (.int .i64) (.pair (.int .i64) (.int .i64))))) a0.2.2.1 ((w64 (a1 - 1)).toNat)).2).1), ((((el (.pair (.int .i64) (.pair (.pair (.int .i64) (.sl 3 (.int .i64))) (.pair (.int .i64) (.pair (.int .i64) (.int .i64))))) a0.2.2.1 ((w64 (a1 - 1)).toNat)).2).2).1, ((((el (.pair (.int .i64) (.pair (.pair (.int .i64) (.sl 3 (.int .i64))) (.pair (.int .i64) (.pair (.int .i64) (.int .i64))))) a0.2.2.1 ((w64 (a1 - 1)).toNat)).2).2).2))))).bind fun t2 => (if 0 ≤ w64 (a1 - 1) then (if w64 (a1 - 1) < (a0.1.1.length : Int) then ((impl_CellsOf.f k a0.2.1 (el (.pair (.int .i64) (.int .i64)) a0.1.1 ((w64 (a1 - 1)).toNat))).bind fun t3 => (if 0 ≤ w64 ((w64 (2 * a1)) - 2) then (if w64 ((w64 (2 * a1)) - 2) ≤ w64 (2 * a1) then (if w64 (2 * a1) ≤ (a0.2.2.2.2.1.length : Int) then ((impl_copyInts.f k ((a0.2.2.2.2.1.take ((w64 (2 * a1)).toNat)).drop ((w64 ((w64 (2 * a1)) - 2)).toNat))).bind fun t4 => (some ((t2.1, (t2.2.1, t2.2.2)), t3, t4))) else none) else none) else none)) else none) else none)) else none) else none))))
def impl_PartView.sig : Sig := ⟨[.val true (.pair (.pair (.sl 31 (.pair (.int .i64) (.int .i64))) (.pair (.sl 34 (.pair (.int .i64) (.int .i64))) (.pair (.sl 63 (.pair (.int .i64) (.pair (.int .i64) (.pair (.int .i64) (.pair (.int .i64) (.int .i64)))))) (.pair (.sl 39 (.pair (.int .i64) (.pair (.int .i64) (.int .i64)))) (.sl 9 .str))))) (.pair (.sl 3 (.int .i64)) (.pair (.sl 59 (.pair (.int .i64) (.pair (.pair (.int .i64) (.sl 3 (.int .i64))) (.pair (.int .i64) (.pair (.int .i64) (.int .i64)))))) (.pair (.sl 145 (.sl 241 (.pair (.int .i64) (.int .i64)))) (.pair (.sl 3 (.int .i64)) (.pair (.int .i64) (.pair .bool (.sl 70 (.pair (.int .i64) (.pair (.int .i64) (.pair (.int .i64) (.pair (.int .i64) (.int .i64))))))))))))) [0, 0, 0, 0, 0, 0, 0, 0, 0, 0], .val false (.int .i64) []], [.val true (.pair (.int .i64) (.pair (.pair (.int .i64) (.sl 3 (.int .i64))) (.pair (.int .i64) (.pair (.int .i64) (.int .i64))))) [none], .val false (.sl 3 (.int .i64)) [none], .val false (.sl 3 (.int .i64)) [none]]⟩
def impl_PartView.F (k : Nat) (x : Args impl_PartView.sig.ps) : Option (Res impl_PartView.sig) := impl_PartView.f k x.1 x.2.1
def impl_PartView.ann (k : Nat) : Ann (Res impl_PartView.sig) := .nil
def impl_PartView.ent : Ent := ⟨21, impl_PartView.sig, impl_PartView.F⟩
def impl_PartView.ctx (k : Nat) : Ctx := ⟨tds, [impl_within.ent, impl_copyPart.ent, impl_CellsOf.ent, impl_copyInts.ent], k, 56⟩
theorem impl_PartView.runs (k : Nat) (x : Args impl_PartView.sig.ps) : impl_PartView.F k x = runF (impl_PartView.ctx k) impl_PartView.sig Try.f21 (Try.f21.body.getD .skip) (impl_PartView.ann k) x := by kernel_rfl
theorem impl_PartView.obls (k : Nat) : obl (impl_PartView.ctx k) 10 (Try.f21.body.getD .skip) (impl_PartView.ann k) (retK tds impl_PartView.sig Try.f21.results.toList) := ⟨trivial, ⟨⟨trivial, ⟨⟨trivial, trivial⟩, trivial⟩⟩, ⟨trivial, trivial⟩⟩⟩
theorem impl_PartView.ok (k : Nat) : EntOk Try.prog k impl_PartView.ent := fn_ok (C := impl_PartView.ctx k) Try.func21 (by kernel_rfl) (by kernel_rfl) mixed tdsOk (.cons (impl_within.ok k) (.cons (impl_copyPart.ok k) (.cons (impl_CellsOf.ok k) (.cons (impl_copyInts.ok k) EntsOk.nil)))) (by kernel_rfl) (Nat.le_of_ble_eq_true (by kernel_rfl)) (by kernel_rfl) (impl_PartView.runs k) (impl_PartView.obls k)
/-! loop.example/g00200/laws.sameInts -/
def laws_sameInts.l1 (k : Nat)  : Nat → Int × List Int × List Int × Unit → Option (Bool)
  | 0, _ => none
  | n + 1, (x1, x2, x3, _) => if x1 < (x2.length : Int) then (if 0 ≤ x1 then (if x1 < (x2.length : Int) then (if 0 ≤ x1 then (if x1 < (x3.length : Int) then (if ¬ (el (.int .i64) x2 x1.toNat) = (el (.int .i64) x3 x1.toNat) then (some false) else (laws_sameInts.l1 k n (w64 (x1 + 1), x2, x3, ()))) else none) else none) else none) else none) else (some true)
def laws_sameInts.f (k : Nat) (a0 : List Int) (a1 : List Int) : Option (Bool) :=
  if ¬ (a0.length : Int) = (a1.length : Int) then (some false) else (laws_sameInts.l1 k k (0, a0, a1, ()))
def laws_sameInts.Sl1 : Shape := ⟨[(0, false, [.own 0]), (1, false, [.own 1]), (5, false, [.int .i64])], [(0, .view false 3 (.int .i64)), (1, .view false 3 (.int .i64))], 2⟩
def laws_sameInts.sig : Sig := ⟨[.val false (.sl 3 (.int .i64)) [0], .val false (.sl 3 (.int .i64)) [0]], [.val false .bool []]⟩
def laws_sameInts.F (k : Nat) (x : Args laws_sameInts.sig.ps) : Option (Res laws_sameInts.sig) := laws_sameInts.f k x.1 x.2.1
def laws_sameInts.ann (k : Nat) : Ann (Res laws_sameInts.sig) := (.seq .nil (.seq .nil (.seq (.seq .nil (.block (.loop laws_sameInts.Sl1 (laws_sameInts.l1 k) fun n1 => .nil))) .nil)))
def laws_sameInts.ent : Ent := ⟨23, laws_sameInts.sig, laws_sameInts.F⟩
def laws_sameInts.ctx (k : Nat) : Ctx := ⟨tds, [], k, 26⟩
theorem laws_sameInts.runs (k : Nat) (x : Args laws_sameInts.sig.ps) : laws_sameInts.F k x = runF (laws_sameInts.ctx k) laws_sameInts.sig Try.f23 (Try.f23.body.getD .skip) (laws_sameInts.ann k) x := by kernel_rfl
theorem laws_sameInts.obls (k : Nat) : obl (laws_sameInts.ctx k) 2 (Try.f23.body.getD .skip) (laws_sameInts.ann k) (retK tds laws_sameInts.sig Try.f23.results.toList) := ⟨trivial, ⟨⟨trivial, ⟨⟨trivial, trivial⟩, trivial⟩⟩, ⟨⟨trivial, ⟨⟨by kernel_rfl, fun x => by kernel_rfl⟩, fun n => ⟨fun x => by kernel_rfl, ⟨⟨trivial, ⟨trivial, trivial⟩⟩, ⟨⟨trivial, ⟨⟨trivial, trivial⟩, trivial⟩⟩, trivial⟩⟩⟩⟩⟩, ⟨trivial, trivial⟩⟩⟩⟩
theorem laws_sameInts.ok (k : Nat) : EntOk Try.prog k laws_sameInts.ent := fn_ok (C := laws_sameInts.ctx k) Try.func23 (by kernel_rfl) (by kernel_rfl) mixed tdsOk EntsOk.nil (by kernel_rfl) (Nat.le_of_ble_eq_true (by kernel_rfl)) (by kernel_rfl) (laws_sameInts.runs k) (laws_sameInts.obls k)
/-! loop.example/g00200/laws.sameCpu -/
def laws_sameCpu.f (k : Nat) (a0 : Int × List Int) (a1 : Int × List Int) : Option (Bool) :=
  if a0.1 = a1.1 then ((laws_sameInts.f k a0.2 a1.2).bind fun t1 => (some t1)) else (some false)
def laws_sameCpu.sig : Sig := ⟨[.val true (.pair (.int .i64) (.sl 3 (.int .i64))) [0], .val true (.pair (.int .i64) (.sl 3 (.int .i64))) [0]], [.val false .bool []]⟩
def laws_sameCpu.F (k : Nat) (x : Args laws_sameCpu.sig.ps) : Option (Res laws_sameCpu.sig) := laws_sameCpu.f k x.1 x.2.1
def laws_sameCpu.ann (k : Nat) : Ann (Res laws_sameCpu.sig) := .nil
def laws_sameCpu.ent : Ent := ⟨22, laws_sameCpu.sig, laws_sameCpu.F⟩
def laws_sameCpu.ctx (k : Nat) : Ctx := ⟨tds, [laws_sameInts.ent], k, 17⟩
theorem laws_sameCpu.runs (k : Nat) (x : Args laws_sameCpu.sig.ps) : laws_sameCpu.F k x = runF (laws_sameCpu.ctx k) laws_sameCpu.sig Try.f22 (Try.f22.body.getD .skip) (laws_sameCpu.ann k) x := by kernel_rfl
theorem laws_sameCpu.obls (k : Nat) : obl (laws_sameCpu.ctx k) 2 (Try.f22.body.getD .skip) (laws_sameCpu.ann k) (retK tds laws_sameCpu.sig Try.f22.results.toList) := ⟨trivial, ⟨trivial, trivial⟩⟩
theorem laws_sameCpu.ok (k : Nat) : EntOk Try.prog k laws_sameCpu.ent := fn_ok (C := laws_sameCpu.ctx k) Try.func22 (by kernel_rfl) (by kernel_rfl) mixed tdsOk (.cons (laws_sameInts.ok k) EntsOk.nil) (by kernel_rfl) (Nat.le_of_ble_eq_true (by kernel_rfl)) (by kernel_rfl) (laws_sameCpu.runs k) (laws_sameCpu.obls k)
end Go.Proofs.Ytacpibmmodeacaa.QA
