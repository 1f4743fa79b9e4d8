/- The plain functions of Go functions, and that each Go function does what its plain function tells. Printed by a program of this session (gen.py). -/
import Derived.Test.YtbnmhfglkbkbnaaProg
import Derived.Test.YtbnmhfglkbkbnaaAbDa
import Derived.KernelRfl
import Derived.Test.YtbnmhfglkbkbnaaQA
namespace Go.Proofs.Ytbnmhfglkbkbnaa.QFnSamples
open Go Go.Proofs Go.Proofs.YtbnmhfglkbkbnaaA Go.Proofs.Ytbnmhfglkbkbnaa.QA
set_option linter.unusedVariables false
set_option maxRecDepth 100000
/-! loop.example/g00200/laws.FnSamples -/
def laws_FnSamples.f (k : Nat) (a0 : List Int) : Option (Bool) :=
  (laws_big.f k a0).bind fun t1 => (if t1 = true then (some true) else ((spec_DrawPlaces.f k a0).bind fun t2 => (if 0 ≤ 0 then (if 0 < (t2.length : Int) then (if 0 ≤ 1 then (if 1 < (t2.length : Int) then ((impl_SendPort.f k (2, (1, (2, (1, w64 (1 + (Int.tmod (el (.int .i64) t2 0) 20)))))) [] (el (.int .i64) t2 1) 5).bind fun t3 => (if 0 ≤ 2 then (if 2 < (t2.length : Int) then ((impl_SendPort.f k (2, (1, (2, (1, w64 (1 + (Int.tmod (el (.int .i64) t2 0) 20)))))) t3.1 (el (.int .i64) t2 2) 7).bind fun t4 => ((impl_TakePort.f k (2, (1, (2, (1, w64 (1 + (Int.tmod (el (.int .i64) t2 0) 20)))))) t4.1 (w64 (7 + (w64 (1 + (Int.tmod (el (.int .i64) t2 0) 20)))))).bind fun t5 => ((impl_TakePort.f k (2, (1, (2, (1, w64 (1 + (Int.tmod (el (.int .i64) t2 0) 20)))))) t5.1 (w64 (8 + (w64 (1 + (Int.tmod (el (.int .i64) t2 0) 20)))))).bind fun t6 => ((impl_TakePort.f k (2, (1, (2, (1, w64 (1 + (Int.tmod (el (.int .i64) t2 0) 20)))))) [] 9).bind fun t7 => (if t3.2 = 0 then (if t4.2 = 0 then (if 0 ≤ 2 then (if 2 < (t2.length : Int) then (if t5.2.1 = (el (.int .i64) t2 2) then (if 0 ≤ 2 then (if 2 < (t2.length : Int) then (if t6.2.1 = (el (.int .i64) t2 2) then (if t5.2.2 = 0 then (if t6.2.2 = 3 then (if t7.2.2 = 2 then (some (decide ((t5.1.length : Int) = 1))) else (some false)) else (some false)) else (some false)) else (some false)) else none) else none) else (some false)) else none) else none) else (some false)) else (some false)))))) else none) else none)) else none) else none) else none) else none)))
def laws_FnSamples.sig : Sig := ⟨[.val false (.sl 5 (.int .u8)) [0]], [.val false .bool []]⟩
def laws_FnSamples.F (k : Nat) (x : Args laws_FnSamples.sig.ps) : Option (Res laws_FnSamples.sig) := laws_FnSamples.f k x.1
def laws_FnSamples.ann (k : Nat) : Ann (Res laws_FnSamples.sig) := .nil
def laws_FnSamples.ent : Ent := ⟨13, laws_FnSamples.sig, laws_FnSamples.F⟩
def laws_FnSamples.ctx (k : Nat) : Ctx := ⟨tds, [laws_big.ent, spec_DrawPlaces.ent, impl_SendPort.ent, impl_TakePort.ent], k, 110⟩
theorem laws_FnSamples.runs (k : Nat) (x : Args laws_FnSamples.sig.ps) : laws_FnSamples.F k x = runF (laws_FnSamples.ctx k) laws_FnSamples.sig Try.f13 (Try.f13.body.getD .skip) (laws_FnSamples.ann k) x := by kernel_rfl
theorem laws_FnSamples.obls (k : Nat) : obl (laws_FnSamples.ctx k) 1 (Try.f13.body.getD .skip) (laws_FnSamples.ann k) (retK tds laws_FnSamples.sig Try.f13.results.toList) := ⟨trivial, ⟨⟨trivial, ⟨⟨trivial, trivial⟩, trivial⟩⟩, ⟨trivial, ⟨trivial, ⟨trivial, ⟨trivial, ⟨trivial, ⟨trivial, ⟨trivial, ⟨trivial, trivial⟩⟩⟩⟩⟩⟩⟩⟩⟩⟩
theorem laws_FnSamples.ok (k : Nat) : EntOk Try.prog k laws_FnSamples.ent := fn_ok (C := laws_FnSamples.ctx k) Try.func13 (by kernel_rfl) (by kernel_rfl) mixed tdsOk (.cons (laws_big.ok k) (.cons (spec_DrawPlaces.ok k) (.cons (impl_SendPort.ok k) (.cons (impl_TakePort.ok k) EntsOk.nil)))) (by kernel_rfl) (Nat.le_of_ble_eq_true (by kernel_rfl)) (by kernel_rfl) (laws_FnSamples.runs k) (laws_FnSamples.obls k)
end Go.Proofs.Ytbnmhfglkbkbnaa.QFnSamples
