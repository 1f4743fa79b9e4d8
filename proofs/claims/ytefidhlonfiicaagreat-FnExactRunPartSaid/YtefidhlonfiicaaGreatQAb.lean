/- The plain functions of Go functions, and that each Go function does what its plain function tells. Printed by a program of this session (gen.py). -/
import Derived.Test.YtefidhlonfiicaaGreatQA
import Derived.Test.YtefidhlonfiicaaGreatProg
import Derived.Test.YtefidhlonfiicaaGreatAbDa
import Derived.KernelRfl
namespace Go.Proofs.YtefidhlonfiicaaGreat.QA
open Go Go.Proofs Go.Proofs.YtefidhlonfiicaaGreatA
set_option linter.unusedVariables false
set_option maxRecDepth 100000
/-! loop.example/g00200/impl.trapOf -/
def impl_trapOf.f (k : Nat) (a0 : Int × DeI) (a1 : De2) (a2 : DeI) (a3 : Int × Int) : Option (Int) :=
  (impl_CpuOk.f k a0).bind fun t1 => (if ¬ t1 = true then (some 6) else ((impl_CodeOk.f k a1).bind fun t2 => (if ¬ t2 = true then (some 6) else (if (a1.length : Int) ≤ a0.1 then (some 6) else (if 0 ≤ a0.1 then (if a0.1 < (a1.length : Int) then ((impl_hasOp.f k ((el Ty2 a1 a0.1.toNat).1)).bind fun t3 => (if ¬ t3 = true then (some 1) else ((impl_takes.f k ((el Ty2 a1 a0.1.toNat).1)).bind fun t4 => (if (a0.2.length : Int) < t4 then (some 5) else (if ((el Ty2 a1 a0.1.toNat).1) = 2 then (if 0 ≤ w64 ((a0.2.length : Int) - 1) then (if w64 ((a0.2.length : Int) - 1) < (a0.2.length : Int) then ((impl_cellAt.f k a2 a3 (w64 ((el TyI a0.2 ((w64 ((a0.2.length : Int) - 1)).toNat)) + ((el Ty2 a1 a0.1.toNat).2)))).bind fun t5 => (if t5 < 0 then (some 2) else (if ((el Ty2 a1 a0.1.toNat).1) = 3 then (if 0 ≤ w64 ((a0.2.length : Int) - 2) then (if w64 ((a0.2.length : Int) - 2) < (a0.2.length : Int) then ((impl_cellAt.f k a2 a3 (w64 ((el TyI a0.2 ((w64 ((a0.2.length : Int) - 2)).toNat)) + ((el Ty2 a1 a0.1.toNat).2)))).bind fun t6 => (if t6 < 0 then (some 2) else (if ((el Ty2 a1 a0.1.toNat).1) = 7 then (if 0 ≤ w64 ((a0.2.length : Int) - 1) then (if w64 ((a0.2.length : Int) - 1) < (a0.2.length : Int) then (if (el TyI a0.2 ((w64 ((a0.2.length : Int) - 1)).toNat)) = 0 then (some 3) else ((impl_takes.f k ((el Ty2 a1 a0.1.toNat).1)).bind fun t7 => ((impl_puts.f k ((el Ty2 a1 a0.1.toNat).1)).bind fun t8 => (if 8 < (w64 ((w64 ((a0.2.length : Int) - t7)) + t8)) then (some 4) else (some 0))))) else none) else none) else ((impl_takes.f k ((el Ty2 a1 a0.1.toNat).1)).bind fun t9 => ((impl_puts.f k ((el Ty2 a1 a0.1.toNat).1)).bind fun t10 => (if 8 < (w64 ((w64 ((a0.2.length : Int) - t9)) + t10)) then (some 4) else (some 0))))))) else none) else none) else (if ((el Ty2 a1 a0.1.toNat).1) = 7 then (if 0 ≤ w64 ((a0.2.length : Int) - 1) then (if w64 ((a0.2.length : Int) - 1) < (a0.2.length : Int) then (if (el TyI a0.2 ((w64 ((a0.2.length : Int) - 1)).toNat)) = 0 then (some 3) else ((impl_takes.f k ((el Ty2 a1 a0.1.toNat).1)).bind fun t11 => ((impl_puts.f k ((el Ty2 a1 a0.1.toNat).1)).bind fun t12 => (if 8 < (w64 ((w64 ((a0.2.length : Int) - t11)) + t12)) then (some 4) else (some 0))))) else none) else none) else ((impl_takes.f k ((el Ty2 a1 a0.1.toNat).1)).bind fun t13 => ((impl_puts.f k ((el Ty2 a1 a0.1.toNat).1)).bind fun t14 => (if 8 < (w64 ((w64 ((a0.2.length : Int) - t13)) + t14)) then (some 4) else (some 0)))))))) else none) else none) else (if ((el Ty2 a1 a0.1.toNat).1) = 3 then (if 0 ≤ w64 ((a0.2.length : Int) - 2) then (if w64 ((a0.2.length : Int) - 2) < (a0.2.length : Int) then ((impl_cellAt.f k a2 a3 (w64 ((el TyI a0.2 ((w64 ((a0.2.length : Int) - 2)).toNat)) + ((el Ty2 a1 a0.1.toNat).2)))).bind fun t15 => (if t15 < 0 then (some 2) else (if ((el Ty2 a1 a0.1.toNat).1) = 7 then (if 0 ≤ w64 ((a0.2.length : Int) - 1) then (if w64 ((a0.2.length : Int) - 1) < (a0.2.length : Int) then (if (el TyI a0.2 ((w64 ((a0.2.length : Int) - 1)).toNat)) = 0 then (some 3) else ((impl_takes.f k ((el Ty2 a1 a0.1.toNat).1)).bind fun t16 => ((impl_puts.f k ((el Ty2 a1 a0.1.toNat).1)).bind fun t17 => (if 8 < (w64 ((w64 ((a0.2.length : Int) - t16)) + t17)) then (some 4) else (some 0))))) else none) else none) else ((impl_takes.f k ((el Ty2 a1 a0.1.toNat).1)).bind fun t18 => ((impl_puts.f k ((el Ty2 a1 a0.1.toNat).1)).bind fun t19 => (if 8 < (w64 ((w64 ((a0.2.length : Int) - t18)) + t19)) then (some 4) else (some 0))))))) else none) else none) else (if ((el Ty2 a1 a0.1.toNat).1) = 7 then (if 0 ≤ w64 ((a0.2.length : Int) - 1) then (if w64 ((a0.2.length : Int) - 1) < (a0.2.length : Int) then (if (el TyI a0.2 ((w64 ((a0.2.length : Int) - 1)).toNat)) = 0 then (some 3) else ((impl_takes.f k ((el Ty2 a1 a0.1.toNat).1)).bind fun t20 => ((impl_puts.f k ((el Ty2 a1 a0.1.toNat).1)).bind fun t21 => (if 8 < (w64 ((w64 ((a0.2.length : Int) - t20)) + t21)) then (some 4) else (some 0))))) else none) else none) else ((impl_takes.f k ((el Ty2 a1 a0.1.toNat).1)).bind fun t22 => ((impl_puts.f k ((el Ty2 a1 a0.1.toNat).1)).bind fun t23 => (if 8 < (w64 ((w64 ((a0.2.length : Int) - t22)) + t23)) then (some 4) else (some 0))))))))))) else none) else none)))))
def impl_trapOf.sig : Sig := ⟨[.val true (.pair TyI (.sl 3 TyI)) [0], .val false (.sl 76 Ty2) [0], .val true (.sl 3 TyI) [0], .val true Ty2 []], [.val false TyI []]⟩
def impl_trapOf.F : FT impl_trapOf.sig := fun k x => impl_trapOf.f k x.1 x.2.1 x.2.2.1 x.2.2.2.1
def impl_trapOf.ann : AT impl_trapOf.sig := fun k => .nil
def impl_trapOf.ent : Ent := ⟨140, impl_trapOf.sig, impl_trapOf.F⟩
def impl_trapOf.ctx (k : Nat) : Ctx := ⟨tds, [impl_CpuOk.ent, impl_takes.ent, impl_cellAt.ent, impl_CodeOk.ent, impl_hasOp.ent, impl_puts.ent], k, 107⟩
theorem impl_trapOf.runs : RunsT impl_trapOf.sig impl_trapOf.ctx Tryz.f140 impl_trapOf.ann impl_trapOf.F := fun k x => by kernel_rfl
theorem impl_trapOf.obls : OblT tds impl_trapOf.sig impl_trapOf.ctx 3 Tryz.f140 impl_trapOf.ann := fun k => ⟨tr, ⟨⟨tr, ⟨⟨tr, tr⟩, tr⟩⟩, ⟨tr, ⟨tr, ⟨⟨tr, ⟨⟨tr, tr⟩, ⟨tr, ⟨⟨tr, tr⟩, ⟨tr, ⟨⟨tr, tr⟩, ⟨tr, ⟨⟨tr, tr⟩, ⟨tr, ⟨⟨tr, tr⟩, ⟨tr, ⟨⟨tr, tr⟩, tr⟩⟩⟩⟩⟩⟩⟩⟩⟩⟩⟩⟩, ⟨tr, tr⟩⟩⟩⟩⟩⟩
theorem impl_trapOf.ok (k : Nat) : EntOk Tryz.prog k impl_trapOf.ent := fn_ok (C := impl_trapOf.ctx k) Tryz.func140 (by kernel_rfl) (by kernel_rfl) mixed tdsOk (.cons (impl_CpuOk.ok k) (.cons (impl_takes.ok k) (.cons (impl_cellAt.ok k) (.cons (impl_CodeOk.ok k) (.cons (impl_hasOp.ok k) (.cons (impl_puts.ok k) EntsOk.nil)))))) (by kernel_rfl) (leB (by kernel_rfl)) (by kernel_rfl) (impl_trapOf.runs k) (impl_trapOf.obls k)
/-! (*loop.example/g00200/impl.Cpu).taken -/
def impl_Cpu_taken.f (k : Nat) (a0 : Int × DeI) (a1 : Int) : Option (DeI × Int × DeI) :=
  if 0 ≤ w64 ((a0.2.length : Int) - a1) then (if w64 ((a0.2.length : Int) - a1) ≤ (a0.2.length : Int) then ((impl_copyInts.f k (a0.2.drop ((w64 ((a0.2.length : Int) - a1)).toNat))).bind fun t1 => (if 0 ≤ w64 ((a0.2.length : Int) - a1) then (if w64 ((a0.2.length : Int) - a1) ≤ (a0.2.length : Int) then (some (t1, (a0.1, a0.2.take ((w64 ((a0.2.length : Int) - a1)).toNat)))) else none) else none)) else none) else none
def impl_Cpu_taken.sig : Sig := ⟨[.ptr 71 (.pair TyI (.sl 3 TyI)) [2], .val false TyI []], [.val false (.sl 3 TyI) [none]]⟩
def impl_Cpu_taken.F : FT impl_Cpu_taken.sig := fun k x => impl_Cpu_taken.f k x.1 x.2.1
def impl_Cpu_taken.ann : AT impl_Cpu_taken.sig := fun k => .nil
def impl_Cpu_taken.ent : Ent := ⟨141, impl_Cpu_taken.sig, impl_Cpu_taken.F⟩
def impl_Cpu_taken.ctx (k : Nat) : Ctx := ⟨tds, [impl_copyInts.ent], k, 31⟩
theorem impl_Cpu_taken.runs : RunsT impl_Cpu_taken.sig impl_Cpu_taken.ctx Tryz.f141 impl_Cpu_taken.ann impl_Cpu_taken.F := fun k x => by kernel_rfl
theorem impl_Cpu_taken.obls : OblT tds impl_Cpu_taken.sig impl_Cpu_taken.ctx 2 Tryz.f141 impl_Cpu_taken.ann := fun k => ⟨tr, ⟨tr, ⟨tr, ⟨tr, ⟨tr, tr⟩⟩⟩⟩⟩
theorem impl_Cpu_taken.ok (k : Nat) : EntOk Tryz.prog k impl_Cpu_taken.ent := fn_ok (C := impl_Cpu_taken.ctx k) Tryz.func141 (by kernel_rfl) (by kernel_rfl) mixed tdsOk (.cons (impl_copyInts.ok k) EntsOk.nil) (by kernel_rfl) (leB (by kernel_rfl)) (by kernel_rfl) (impl_Cpu_taken.runs k) (impl_Cpu_taken.obls k)
/-! (*loop.example/g00200/impl.Cpu).put -/
def impl_Cpu_put.f (k : Nat) (a0 : Int × DeI) (a1 : Int) : Option (Int × DeI) :=
  ((some ([a1] : DeI))).bind fun y1 => (if (a0.2.length + y1.length) * 8 ≤ 140737488355328 then (((some (a0.2 ++ y1))).bind fun y2 => (some (a0.1, y2))) else none)
def impl_Cpu_put.sig : Sig := ⟨[.ptr 71 (.pair TyI (.sl 3 TyI)) [2], .val false TyI []], []⟩
def impl_Cpu_put.F : FT impl_Cpu_put.sig := fun k x => impl_Cpu_put.f k x.1 x.2.1
def impl_Cpu_put.ann : AT impl_Cpu_put.sig := fun k => .nil
def impl_Cpu_put.ent : Ent := ⟨143, impl_Cpu_put.sig, impl_Cpu_put.F⟩
def impl_Cpu_put.ctx (k : Nat) : Ctx := ⟨tds, [], k, 14⟩
theorem impl_Cpu_put.runs : RunsT impl_Cpu_put.sig impl_Cpu_put.ctx Tryz.f143 impl_Cpu_put.ann impl_Cpu_put.F := fun k x => by kernel_rfl
theorem impl_Cpu_put.obls : OblT tds impl_Cpu_put.sig impl_Cpu_put.ctx 2 Tryz.f143 impl_Cpu_put.ann := fun k => tr
theorem impl_Cpu_put.ok (k : Nat) : EntOk Tryz.prog k impl_Cpu_put.ent := fn_ok (C := impl_Cpu_put.ctx k) Tryz.func143 (by kernel_rfl) (by kernel_rfl) mixed tdsOk EntsOk.nil (by kernel_rfl) (leB (by kernel_rfl)) (by kernel_rfl) (impl_Cpu_put.runs k) (impl_Cpu_put.obls k)
/-! loop.example/g00200/impl.modulo -/
def impl_modulo.f (k : Nat) (a0 : Int) (a1 : Int) : Option (Int) :=
  if ¬ a1 = 0 then (if ¬ a1 = 0 then (some (Int.tmod (w64 ((Int.tmod a0 a1) + a1)) a1)) else none) else none
def impl_modulo.sig : Sig := ⟨[.val false TyI [], .val false TyI []], [.val false TyI []]⟩
def impl_modulo.F : FT impl_modulo.sig := fun k x => impl_modulo.f k x.1 x.2.1
def impl_modulo.ann : AT impl_modulo.sig := fun k => .nil
def impl_modulo.ent : Ent := ⟨144, impl_modulo.sig, impl_modulo.F⟩
def impl_modulo.ctx (k : Nat) : Ctx := ⟨tds, [], k, 12⟩
theorem impl_modulo.runs : RunsT impl_modulo.sig impl_modulo.ctx Tryz.f144 impl_modulo.ann impl_modulo.F := fun k x => by kernel_rfl
theorem impl_modulo.obls : OblT tds impl_modulo.sig impl_modulo.ctx 0 Tryz.f144 impl_modulo.ann := fun k => ⟨tr, ⟨tr, tr⟩⟩
theorem impl_modulo.ok (k : Nat) : EntOk Tryz.prog k impl_modulo.ent := fn_ok (C := impl_modulo.ctx k) Tryz.func144 (by kernel_rfl) (by kernel_rfl) mixed tdsOk EntsOk.nil (by kernel_rfl) (leB (by kernel_rfl)) (by kernel_rfl) (impl_modulo.runs k) (impl_modulo.obls k)
/-! loop.example/g00200/impl.computed -/
def impl_computed.f (k : Nat) (a0 : Int) (a1 : Int) (a2 : Int) : Option (Int) :=
  if a0 = 4 then ((impl_modulo.f k (w64 (a1 + a2)) 65536).bind fun t1 => (some t1)) else (if a0 = 5 then ((impl_modulo.f k (w64 (a1 - a2)) 65536).bind fun t2 => (some t2)) else (if a0 = 6 then ((impl_modulo.f k (w64 (a1 * a2)) 65536).bind fun t3 => (some t3)) else (if a0 = 7 then (if ¬ a2 = 0 then (some (w64 (Int.tdiv a1 a2))) else none) else (if a1 < a2 then (some 1) else (some 0)))))
def impl_computed.sig : Sig := ⟨[.val false TyI [], .val false TyI [], .val false TyI []], [.val false TyI []]⟩
def impl_computed.F : FT impl_computed.sig := fun k x => impl_computed.f k x.1 x.2.1 x.2.2.1
def impl_computed.ann : AT impl_computed.sig := fun k => .nil
def impl_computed.ent : Ent := ⟨146, impl_computed.sig, impl_computed.F⟩
def impl_computed.ctx (k : Nat) : Ctx := ⟨tds, [impl_modulo.ent], k, 34⟩
theorem impl_computed.runs : RunsT impl_computed.sig impl_computed.ctx Tryz.f146 impl_computed.ann impl_computed.F := fun k x => by kernel_rfl
theorem impl_computed.obls : OblT tds impl_computed.sig impl_computed.ctx 0 Tryz.f146 impl_computed.ann := fun k => ⟨tr, ⟨⟨tr, ⟨tr, ⟨⟨tr, tr⟩, ⟨tr, ⟨⟨tr, tr⟩, ⟨tr, ⟨⟨tr, tr⟩, ⟨tr, ⟨⟨tr, tr⟩, tr⟩⟩⟩⟩⟩⟩⟩⟩⟩, ⟨⟨tr, ⟨⟨tr, tr⟩, tr⟩⟩, ⟨tr, tr⟩⟩⟩⟩
theorem impl_computed.ok (k : Nat) : EntOk Tryz.prog k impl_computed.ent := fn_ok (C := impl_computed.ctx k) Tryz.func146 (by kernel_rfl) (by kernel_rfl) mixed tdsOk (.cons (impl_modulo.ok k) EntsOk.nil) (by kernel_rfl) (leB (by kernel_rfl)) (by kernel_rfl) (impl_computed.runs k) (impl_computed.obls k)
/-! loop.example/g00200/impl.StepCpu -/
def impl_StepCpu.j3 (k : Nat)  : Int × Int × Bool × Int × Int × Int × Int × Int × Int × Int × Int × Int × Int × Int × Int × DeI × DeI × DeI × DeI × Unit → Option ((Int × DeI) × DeI × Int × Int × Int × Int)
  | (z1, z2, z3, z4, z5, z6, z7, z8, z9, z10, z11, z12, z13, z14, z15, z16, z17, z18, z19, _) => if z3 = true then (some ((z9, z18), z19, (z10, (z11, (0, 0))))) else (if z2 = 17 then ((impl_modulo.f k z1 65536).bind fun t16 => ((impl_Cpu_put.f k (z9, z18) t16).bind fun t17 => (some (t17, z19, (z12, (z13, (z14, z15))))))) else (some ((z9, z18), z19, (z12, (z13, (z14, z15))))))
def impl_StepCpu.j2 (k : Nat)  : Int × Int × Bool × Int × Int × Int × Int × Int × Int × Int × Int × Int × Int × Int × Int × DeI × DeI × DeI × DeI × DeI × Unit → Option ((Int × DeI) × DeI × Int × Int × Int × Int)
  | (z1, z2, z3, z4, z5, z6, z7, z8, z9, z10, z11, z12, z13, z14, z15, z16, z17, z18, z19, z20, _) => if z3 = true then (if 0 ≤ 0 then (if 0 < (z20.length : Int) then (some ((z9, z18), z19, (z10, (z11, (el TyI z20 0, 0))))) else none) else none) else (if z2 = 14 then (impl_StepCpu.j3 k (z1, z2, true, z4, z5, z6, z7, z8, z9, z10, z11, z12, z13, z14, z15, z16, z17, z18, z19, ())) else (impl_StepCpu.j3 k (z1, z2, decide (z2 = 15), z4, z5, z6, z7, z8, z9, z10, z11, z12, z13, z14, z15, z16, z17, z18, z19, ())))
def impl_StepCpu.j1 (k : Nat)  : Int × Int × Bool × Int × Int × Int × Int × Int × Int × Int × Int × Int × Int × Int × Int × DeI × DeI × DeI × DeI × DeI × Unit → Option ((Int × DeI) × DeI × Int × Int × Int × Int)
  | (z1, z2, z3, z4, z5, z6, z7, z8, z9, z10, z11, z12, z13, z14, z15, z16, z17, z18, z19, z20, _) => if z3 = true then (if 0 ≤ 0 then (if 0 < (z20.length : Int) then (if 0 ≤ 1 then (if 1 < (z20.length : Int) then ((impl_computed.f k z10 (el TyI z20 0) (el TyI z20 1)).bind fun t12 => ((impl_Cpu_put.f k (z9, z18) t12).bind fun t13 => (some (t13, z19, (z12, (z13, (z14, z15))))))) else none) else none) else none) else none) else (if z2 = 9 then (some ((min z11 60, z18), z19, (z12, (z13, (z14, z15))))) else (if z2 = 10 then (if 0 ≤ 0 then (if 0 < (z20.length : Int) then (if (el TyI z20 0) = 0 then (some ((min z11 60, z18), z19, (z12, (z13, (z14, z15))))) else (some ((z9, z18), z19, (z12, (z13, (z14, z15)))))) else none) else none) else (if z2 = 11 then (if 0 ≤ 0 then (if 0 < (z20.length : Int) then ((impl_Cpu_put.f k (z9, z18) (el TyI z20 0)).bind fun t14 => (if 0 ≤ 0 then (if 0 < (z20.length : Int) then ((impl_Cpu_put.f k t14 (el TyI z20 0)).bind fun t15 => (some (t15, z19, (z12, (z13, (z14, z15)))))) else none) else none)) else none) else none) else (if z2 = 13 then (impl_StepCpu.j2 k (z1, z2, true, z4, z5, z6, z7, z8, z9, z10, z11, z12, z13, z14, z15, z16, z17, z18, z19, z20, ())) else (impl_StepCpu.j2 k (z1, z2, decide (z2 = 16), z4, z5, z6, z7, z8, z9, z10, z11, z12, z13, z14, z15, z16, z17, z18, z19, z20, ()))))))
def impl_StepCpu.f (k : Nat) (a0 : Int × DeI) (a1 : De2) (a2 : DeI) (a3 : Int × Int) (a4 : Int) : Option ((Int × DeI) × DeI × Int × Int × Int × Int) :=
  (impl_copyCpu.f k a0).bind fun t1 => ((impl_copyArena.f k a2).bind fun t2 => ((impl_trapOf.f k a0 a1 a2 a3).bind fun t3 => (if ¬ t3 = 0 then (some (t1, t2, (0, (0, (0, t3))))) else (if 0 ≤ a0.1 then (if a0.1 < (a1.length : Int) then ((impl_takes.f k ((el Ty2 a1 a0.1.toNat).1)).bind fun t4 => ((impl_Cpu_taken.f k t1 t4).bind fun t5 => (if ((el Ty2 a1 a0.1.toNat).1) = 1 then ((impl_Cpu_put.f k (w64 (t5.2.1 + 1), t5.2.2) ((el Ty2 a1 a0.1.toNat).2)).bind fun t6 => (some (t6, t2, (0, (0, (0, 0)))))) else (if ((el Ty2 a1 a0.1.toNat).1) = 2 then (if 0 ≤ 0 then (if 0 < (t5.1.length : Int) then ((impl_cellAt.f k a2 a3 (w64 ((el TyI t5.1 0) + ((el Ty2 a1 a0.1.toNat).2)))).bind fun t7 => (if 0 ≤ t7 then (if t7 < (a2.length : Int) then ((impl_modulo.f k (el TyI a2 t7.toNat) 65536).bind fun t8 => ((impl_Cpu_put.f k (w64 (t5.2.1 + 1), t5.2.2) t8).bind fun t9 => (some (t9, t2, (0, (0, (0, 0))))))) else none) else none)) else none) else none) else (if ((el Ty2 a1 a0.1.toNat).1) = 3 then (if 0 ≤ 0 then (if 0 < (t5.1.length : Int) then ((impl_cellAt.f k a2 a3 (w64 ((el TyI t5.1 0) + ((el Ty2 a1 a0.1.toNat).2)))).bind fun t10 => (if 0 ≤ 1 then (if 1 < (t5.1.length : Int) then (if 0 ≤ t10 then (if t10 < (t2.length : Int) then (((some (t2.set t10.toNat (el TyI t5.1 1)))).bind fun y11 => (some ((w64 (t5.2.1 + 1), t5.2.2), y11, (0, (0, (0, 0)))))) else none) else none) else none) else none)) else none) else none) else (if ((el Ty2 a1 a0.1.toNat).1) = 4 then (impl_StepCpu.j1 k (a4, (el Ty2 a1 a0.1.toNat).1, true, 0, 0, 0, 0, 0, w64 (t5.2.1 + 1), (el Ty2 a1 a0.1.toNat).1, (el Ty2 a1 a0.1.toNat).2, 0, 0, 0, 0, [], [], t5.2.2, t2, t5.1, ())) else (if ((el Ty2 a1 a0.1.toNat).1) = 5 then (impl_StepCpu.j1 k (a4, (el Ty2 a1 a0.1.toNat).1, true, 0, 0, 0, 0, 0, w64 (t5.2.1 + 1), (el Ty2 a1 a0.1.toNat).1, (el Ty2 a1 a0.1.toNat).2, 0, 0, 0, 0, [], [], t5.2.2, t2, t5.1, ())) else (if ((el Ty2 a1 a0.1.toNat).1) = 6 then (impl_StepCpu.j1 k (a4, (el Ty2 a1 a0.1.toNat).1, true, 0, 0, 0, 0, 0, w64 (t5.2.1 + 1), (el Ty2 a1 a0.1.toNat).1, (el Ty2 a1 a0.1.toNat).2, 0, 0, 0, 0, [], [], t5.2.2, t2, t5.1, ())) else (if ((el Ty2 a1 a0.1.toNat).1) = 7 then (impl_StepCpu.j1 k (a4, (el Ty2 a1 a0.1.toNat).1, true, 0, 0, 0, 0, 0, w64 (t5.2.1 + 1), (el Ty2 a1 a0.1.toNat).1, (el Ty2 a1 a0.1.toNat).2, 0, 0, 0, 0, [], [], t5.2.2, t2, t5.1, ())) else (impl_StepCpu.j1 k (a4, (el Ty2 a1 a0.1.toNat).1, decide (((el Ty2 a1 a0.1.toNat).1) = 8), 0, 0, 0, 0, 0, w64 (t5.2.1 + 1), (el Ty2 a1 a0.1.toNat).1, (el Ty2 a1 a0.1.toNat).2, 0, 0, 0, 0, [], [], t5.2.2, t2, t5.1, ()))))))))))) else none) else none))))
def impl_StepCpu.Sj1 : Shape := ⟨[(4, false, [.int .i64]), (10, false, [.ptr 3 0]), (11, false, [.ptr 5 0]), (12, false, [.ptr 7 0]), (13, false, [.ptr 8 0]), (14, false, [.ptr 10 0]), (16, false, [.ptr 12 0]), (17, false, [.own 13]), (18, false, [.ptr 14 0]), (49, false, [.int .i64]), (89, false, [.bool])], [(3, .blk 71 [.int .i64, .own 4]), (5, .blk 44 [.own 6]), (7, .blk 123 [.int .i64, .int .i64, .int .i64, .int .i64]), (8, .blk 71 [.int .i64, .own 9]), (10, .blk 44 [.own 11]), (12, .blk 76 [.int .i64, .int .i64]), (14, .blk 123 [.int .i64, .int .i64, .int .i64, .int .i64]), (4, .row 3 TyI), (6, .row 3 TyI), (9, .row 3 TyI), (11, .row 3 TyI), (13, .row 3 TyI)], 15⟩
def impl_StepCpu.Sj2 : Shape := ⟨[(4, false, [.int .i64]), (10, false, [.ptr 3 0]), (11, false, [.ptr 5 0]), (12, false, [.ptr 7 0]), (13, false, [.ptr 8 0]), (14, false, [.ptr 10 0]), (16, false, [.ptr 12 0]), (17, false, [.own 13]), (18, false, [.ptr 14 0]), (49, false, [.int .i64]), (131, false, [.bool])], [(3, .blk 71 [.int .i64, .own 4]), (5, .blk 44 [.own 6]), (7, .blk 123 [.int .i64, .int .i64, .int .i64, .int .i64]), (8, .blk 71 [.int .i64, .own 9]), (10, .blk 44 [.own 11]), (12, .blk 76 [.int .i64, .int .i64]), (14, .blk 123 [.int .i64, .int .i64, .int .i64, .int .i64]), (4, .row 3 TyI), (6, .row 3 TyI), (9, .row 3 TyI), (11, .row 3 TyI), (13, .row 3 TyI)], 15⟩
def impl_StepCpu.Sj3 : Shape := ⟨[(4, false, [.int .i64]), (10, false, [.ptr 3 0]), (11, false, [.ptr 5 0]), (12, false, [.ptr 7 0]), (13, false, [.ptr 8 0]), (14, false, [.ptr 10 0]), (16, false, [.ptr 12 0]), (18, false, [.ptr 13 0]), (49, false, [.int .i64]), (142, false, [.bool])], [(3, .blk 71 [.int .i64, .own 4]), (5, .blk 44 [.own 6]), (7, .blk 123 [.int .i64, .int .i64, .int .i64, .int .i64]), (8, .blk 71 [.int .i64, .own 9]), (10, .blk 44 [.own 11]), (12, .blk 76 [.int .i64, .int .i64]), (13, .blk 123 [.int .i64, .int .i64, .int .i64, .int .i64]), (4, .row 3 TyI), (6, .row 3 TyI), (9, .row 3 TyI), (11, .row 3 TyI)], 14⟩
def impl_StepCpu.sig : Sig := ⟨[.val true (.pair TyI (.sl 3 TyI)) [0], .val false (.sl 76 Ty2) [0], .val true (.sl 3 TyI) [0], .val true Ty2 [], .val false TyI []], [.val true (.pair TyI (.sl 3 TyI)) [none], .val true (.sl 3 TyI) [none], .val true (.pair TyI Ty3) []]⟩
def impl_StepCpu.F : FT impl_StepCpu.sig := fun k x => impl_StepCpu.f k x.1 x.2.1 x.2.2.1 x.2.2.2.1 x.2.2.2.2.1
def impl_StepCpu.ann : AT impl_StepCpu.sig := fun k => (.seq .nil (.seq .nil (.seq .nil (.seq .nil (.seq .nil (.seq .nil (.seq .nil (.seq .nil (.seq (.seq .nil (.block (.seq .nil (.cond .nil (.seq .nil (.cond .nil (.seq .nil (.cond .nil (.join impl_StepCpu.Sj1 (impl_StepCpu.j1 k) .nil (.cond .nil (.seq .nil (.cond .nil (.seq .nil (.cond .nil (.seq .nil (.cond .nil (.join impl_StepCpu.Sj2 (impl_StepCpu.j2 k) .nil (.cond .nil (.join impl_StepCpu.Sj3 (impl_StepCpu.j3 k) .nil .nil))))))))))))))))))) .nil)))))))))
def impl_StepCpu.ent : Ent := ⟨88, impl_StepCpu.sig, impl_StepCpu.F⟩
def impl_StepCpu.ctx (k : Nat) : Ctx := ⟨tds, [impl_copyArena.ent, impl_copyCpu.ent, impl_trapOf.ent, impl_Cpu_taken.ent, impl_takes.ent, impl_Cpu_put.ent, impl_modulo.ent, impl_cellAt.ent, impl_computed.ent], k, 158⟩
theorem impl_StepCpu.runs : RunsT impl_StepCpu.sig impl_StepCpu.ctx Tryz.f88 impl_StepCpu.ann impl_StepCpu.F := fun k x => by kernel_rfl
theorem impl_StepCpu.obls : OblT tds impl_StepCpu.sig impl_StepCpu.ctx 3 Tryz.f88 impl_StepCpu.ann := fun k => ⟨tr, ⟨tr, ⟨tr, ⟨⟨tr, ⟨⟨tr, tr⟩, tr⟩⟩, ⟨tr, ⟨tr, ⟨tr, ⟨tr, ⟨⟨tr, ⟨tr, ⟨tr, ⟨tr, ⟨tr, ⟨tr, ⟨tr, ⟨⟨by kernel_rfl, fun x => by kernel_rfl⟩, ⟨tr, ⟨tr, ⟨tr, ⟨tr, ⟨tr, ⟨tr, ⟨tr, ⟨tr, tr⟩⟩⟩⟩⟩⟩⟩⟩, ⟨tr, ⟨tr, ⟨tr, ⟨tr, ⟨⟨tr, ⟨tr, tr⟩⟩, ⟨tr, ⟨⟨tr, tr⟩, ⟨⟨by kernel_rfl, fun x => by kernel_rfl⟩, ⟨tr, ⟨tr, tr⟩⟩, ⟨tr, ⟨⟨by kernel_rfl, fun x => by kernel_rfl⟩, ⟨tr, ⟨tr, tr⟩⟩, ⟨tr, ⟨tr, ⟨tr, tr⟩⟩⟩⟩⟩⟩⟩⟩⟩⟩⟩⟩⟩⟩⟩⟩⟩⟩⟩⟩⟩, ⟨tr, tr⟩⟩⟩⟩⟩⟩⟩⟩⟩⟩
theorem impl_StepCpu.ok (k : Nat) : EntOk Tryz.prog k impl_StepCpu.ent := fn_ok (C := impl_StepCpu.ctx k) Tryz.func88 (by kernel_rfl) (by kernel_rfl) mixed tdsOk (.cons (impl_copyArena.ok k) (.cons (impl_copyCpu.ok k) (.cons (impl_trapOf.ok k) (.cons (impl_Cpu_taken.ok k) (.cons (impl_takes.ok k) (.cons (impl_Cpu_put.ok k) (.cons (impl_modulo.ok k) (.cons (impl_cellAt.ok k) (.cons (impl_computed.ok k) EntsOk.nil))))))))) (by kernel_rfl) (leB (by kernel_rfl)) (by kernel_rfl) (impl_StepCpu.runs k) (impl_StepCpu.obls k)
/-! loop.example/g00200/impl.answersOf -/
def impl_answersOf.f (k : Nat) (a0 : Int) : Option (Int) :=
  if a0 = 13 then (some 1) else (if a0 = 15 then (some 1) else (if a0 = 14 then (some 2) else (some 0)))
def impl_answersOf.sig : Sig := ⟨[.val false TyI []], [.val false TyI []]⟩
def impl_answersOf.F : FT impl_answersOf.sig := fun k x => impl_answersOf.f k x.1
def impl_answersOf.ann : AT impl_answersOf.sig := fun k => .nil
def impl_answersOf.ent : Ent := ⟨147, impl_answersOf.sig, impl_answersOf.F⟩
def impl_answersOf.ctx (k : Nat) : Ctx := ⟨tds, [], k, 9⟩
theorem impl_answersOf.runs : RunsT impl_answersOf.sig impl_answersOf.ctx Tryz.f147 impl_answersOf.ann impl_answersOf.F := fun k x => by kernel_rfl
theorem impl_answersOf.obls : OblT tds impl_answersOf.sig impl_answersOf.ctx 0 Tryz.f147 impl_answersOf.ann := fun k => ⟨tr, ⟨⟨tr, ⟨⟨tr, ⟨tr, tr⟩⟩, ⟨⟨tr, tr⟩, ⟨tr, ⟨⟨tr, tr⟩, tr⟩⟩⟩⟩⟩, ⟨tr, tr⟩⟩⟩
theorem impl_answersOf.ok (k : Nat) : EntOk Tryz.prog k impl_answersOf.ent := fn_ok (C := impl_answersOf.ctx k) Tryz.func147 (by kernel_rfl) (by kernel_rfl) mixed tdsOk EntsOk.nil (by kernel_rfl) (leB (by kernel_rfl)) (by kernel_rfl) (impl_answersOf.runs k) (impl_answersOf.obls k)
/-! loop.example/g00200/impl.SendPort -/
def impl_SendPort.j1 (k : Nat)  : Int × Int × De2 × De2 × Unit → Option (De2 × Int)
  | (z1, z2, z3, z4, _) => ((some ([(z1, z2)] : De2))).bind fun y3 => (if (z4.length + y3.length) * 16 ≤ 140737488355328 then (((some (z4 ++ y3))).bind fun y4 => (some (y4, 0))) else none)
def impl_SendPort.f (k : Nat) (a0 : Int × Int × Int × Int × Int) (a1 : De2) (a2 : Int) (a3 : Int) : Option (De2 × Int) :=
  (impl_copyLine.f k a1).bind fun t1 => ((impl_PortOk.f k a0).bind fun t2 => (if ¬ t2 = true then (some (t1, 1)) else (if a0.1 = 1 then (if a0.2.2.2.1 ≤ (a1.length : Int) then (some (t1, 1)) else (if a0.1 = 2 then (impl_SendPort.j1 k (a2, a3, [], [], ())) else (impl_SendPort.j1 k (a2, a3, [], t1, ())))) else (if a0.1 = 2 then (impl_SendPort.j1 k (a2, a3, [], [], ())) else (impl_SendPort.j1 k (a2, a3, [], t1, ()))))))
def impl_SendPort.Sj1 : Shape := ⟨[(2, false, [.int .i64]), (3, false, [.int .i64]), (8, false, [.ptr 1 0]), (10, false, [.ptr 3 0])], [(1, .blk 115 [.own 2]), (3, .blk 115 [.own 4]), (2, .row 210 Ty2), (4, .row 210 Ty2)], 5⟩
def impl_SendPort.sig : Sig := ⟨[.val true Ty5 [], .val true (.sl 210 Ty2) [0], .val false TyI [], .val false TyI []], [.val true (.sl 210 Ty2) [none], .val false TyI []]⟩
def impl_SendPort.F : FT impl_SendPort.sig := fun k x => impl_SendPort.f k x.1 x.2.1 x.2.2.1 x.2.2.2.1
def impl_SendPort.ann : AT impl_SendPort.sig := fun k => (.seq .nil (.seq .nil (.join impl_SendPort.Sj1 (impl_SendPort.j1 k) .nil .nil)))
def impl_SendPort.ent : Ent := ⟨148, impl_SendPort.sig, impl_SendPort.F⟩
def impl_SendPort.ctx (k : Nat) : Ctx := ⟨tds, [impl_copyLine.ent, impl_PortOk.ent], k, 45⟩
theorem impl_SendPort.runs : RunsT impl_SendPort.sig impl_SendPort.ctx Tryz.f148 impl_SendPort.ann impl_SendPort.F := fun k x => by kernel_rfl
theorem impl_SendPort.obls : OblT tds impl_SendPort.sig impl_SendPort.ctx 1 Tryz.f148 impl_SendPort.ann := fun k => ⟨tr, ⟨tr, ⟨⟨by kernel_rfl, fun x => by kernel_rfl⟩, ⟨tr, ⟨⟨tr, tr⟩, ⟨tr, ⟨tr, tr⟩⟩⟩⟩, ⟨tr, ⟨tr, tr⟩⟩⟩⟩⟩
theorem impl_SendPort.ok (k : Nat) : EntOk Tryz.prog k impl_SendPort.ent := fn_ok (C := impl_SendPort.ctx k) Tryz.func148 (by kernel_rfl) (by kernel_rfl) mixed tdsOk (.cons (impl_copyLine.ok k) (.cons (impl_PortOk.ok k) EntsOk.nil)) (by kernel_rfl) (leB (by kernel_rfl)) (by kernel_rfl) (impl_SendPort.runs k) (impl_SendPort.obls k)
/-! loop.example/g00200/impl.TakePort -/
def impl_TakePort.f (k : Nat) (a0 : Int × Int × Int × Int × Int) (a1 : De2) (a2 : Int) : Option (De2 × Int × Int) :=
  (impl_copyLine.f k a1).bind fun t1 => ((impl_PortOk.f k a0).bind fun t2 => (if ¬ t2 = true then (some (t1, 0, 2)) else (if (a1.length : Int) = 0 then (some (t1, 0, 2)) else (if 0 ≤ 0 then (if 0 < (a1.length : Int) then (if a0.1 = 1 then (if 0 ≤ 1 then (if 1 ≤ (t1.length : Int) then (some (t1.drop 1, (el Ty2 a1 0).1, 0)) else none) else none) else (if ((el Ty2 a1 0).2) < a2 then (if (IntKind.u64.wrap (a0.2.2.2.2)) < (IntKind.u64.wrap ((IntKind.u64.wrap (a2)) - (IntKind.u64.wrap ((el Ty2 a1 0).2)))) then (some (t1, (el Ty2 a1 0).1, 3)) else (some (t1, (el Ty2 a1 0).1, 0))) else (some (t1, (el Ty2 a1 0).1, 0)))) else none) else none))))
def impl_TakePort.sig : Sig := ⟨[.val true Ty5 [], .val true (.sl 210 Ty2) [0], .val false TyI []], [.val true (.sl 210 Ty2) [none], .val false TyI [], .val false TyI []]⟩
def impl_TakePort.F : FT impl_TakePort.sig := fun k x => impl_TakePort.f k x.1 x.2.1 x.2.2.1
def impl_TakePort.ann : AT impl_TakePort.sig := fun k => .nil
def impl_TakePort.ent : Ent := ⟨149, impl_TakePort.sig, impl_TakePort.F⟩
def impl_TakePort.ctx (k : Nat) : Ctx := ⟨tds, [impl_copyLine.ent, impl_PortOk.ent], k, 58⟩
theorem impl_TakePort.runs : RunsT impl_TakePort.sig impl_TakePort.ctx Tryz.f149 impl_TakePort.ann impl_TakePort.F := fun k x => by kernel_rfl
theorem impl_TakePort.obls : OblT tds impl_TakePort.sig impl_TakePort.ctx 1 Tryz.f149 impl_TakePort.ann := fun k => ⟨tr, ⟨tr, ⟨⟨tr, ⟨⟨tr, tr⟩, tr⟩⟩, ⟨tr, ⟨⟨tr, ⟨tr, ⟨tr, ⟨⟨tr, tr⟩, tr⟩⟩⟩⟩, ⟨tr, tr⟩⟩⟩⟩⟩⟩
theorem impl_TakePort.ok (k : Nat) : EntOk Tryz.prog k impl_TakePort.ent := fn_ok (C := impl_TakePort.ctx k) Tryz.func149 (by kernel_rfl) (by kernel_rfl) mixed tdsOk (.cons (impl_copyLine.ok k) (.cons (impl_PortOk.ok k) EntsOk.nil)) (by kernel_rfl) (leB (by kernel_rfl)) (by kernel_rfl) (impl_TakePort.runs k) (impl_TakePort.obls k)
/-! (*loop.example/g00200/impl.Kernel).effect -/
def impl_Kernel_effect.f (k : Nat) (a0 : DeK) (a1 : Int) (a2 : Int × DeI) (a3 : Int × Int × Int × Int) (a4 : DeI) : Option (Int × (DeK) × Int × DeI) :=
  (impl_answersOf.f k a3.1).bind fun t1 => (if 8 < (w64 ((a2.2.length : Int) + t1)) then (some (4, (a0.1, a0.2), a2)) else (if a3.1 = 13 then (if ¬ (a3.2.1 < (a0.2.2.2.1.length : Int)) then (some (7, (a0.1, a0.2), a2)) else (if 0 ≤ a3.2.1 then (if a3.2.1 < (a0.1.2.2.1.length : Int) then (if ¬ (((el Ty5 a0.1.2.2.1 a3.2.1.toNat).2).1) = a1 then (some (7, (a0.1, a0.2), a2)) else (if 0 ≤ a3.2.1 then (if a3.2.1 < (a0.1.2.2.1.length : Int) then (if 0 ≤ a3.2.1 then (if a3.2.1 < (a0.2.2.2.1.length : Int) then ((impl_SendPort.f k ((el Ty5 a0.1.2.2.1 a3.2.1.toNat).1, (((el Ty5 a0.1.2.2.1 a3.2.1.toNat).2).1, ((((el Ty5 a0.1.2.2.1 a3.2.1.toNat).2).2).1, ((((el Ty5 a0.1.2.2.1 a3.2.1.toNat).2).2).2)))) (el (.sl 210 Ty2) a0.2.2.2.1 a3.2.1.toNat) a3.2.2.1 a0.2.2.2.2.2.1).bind fun t2 => (if 0 ≤ a3.2.1 then (if a3.2.1 < (a0.2.2.2.1.length : Int) then (((some (a0.2.2.2.1.set a3.2.1.toNat t2.1))).bind fun y3 => ((impl_Cpu_put.f k a2 t2.2).bind fun t4 => (some (0, (a0.1, (a0.2.1, (a0.2.2.1, (y3, a0.2.2.2.2)))), t4)))) else none) else none)) else none) else none) else none) else none)) else none) else none)) else (if a3.1 = 14 then (if ¬ (a3.2.1 < (a0.2.2.2.1.length : Int)) then (some (7, (a0.1, a0.2), a2)) else (if 0 ≤ a3.2.1 then (if a3.2.1 < (a0.1.2.2.1.length : Int) then (if ¬ ((((el Ty5 a0.1.2.2.1 a3.2.1.toNat).2).2).1) = a1 then (some (7, (a0.1, a0.2), a2)) else (if 0 ≤ a3.2.1 then (if a3.2.1 < (a0.1.2.2.1.length : Int) then (if 0 ≤ a3.2.1 then (if a3.2.1 < (a0.2.2.2.1.length : Int) then ((impl_TakePort.f k ((el Ty5 a0.1.2.2.1 a3.2.1.toNat).1, (((el Ty5 a0.1.2.2.1 a3.2.1.toNat).2).1, ((((el Ty5 a0.1.2.2.1 a3.2.1.toNat).2).2).1, ((((el Ty5 a0.1.2.2.1 a3.2.1.toNat).2).2).2)))) (el (.sl 210 Ty2) a0.2.2.2.1 a3.2.1.toNat) a0.2.2.2.2.2.1).bind fun t5 => (if 0 ≤ a3.2.1 then (if a3.2.1 < (a0.2.2.2.1.length : Int) then (((some (a0.2.2.2.1.set a3.2.1.toNat t5.1))).bind fun y6 => ((impl_modulo.f k t5.2.1 65536).bind fun t7 => ((impl_Cpu_put.f k a2 t7).bind fun t8 => ((impl_Cpu_put.f k t8 t5.2.2).bind fun t9 => (some (0, (a0.1, (a0.2.1, (a0.2.2.1, (y6, a0.2.2.2.2)))), t9)))))) else none) else none)) else none) else none) else none) else none)) else none) else none)) else (if a3.1 = 15 then (if a3.2.1 < (a4.length : Int) then (if 0 ≤ a3.2.1 then (if a3.2.1 < (a4.length : Int) then ((impl_modulo.f k (el TyI a4 a3.2.1.toNat) 65536).bind fun t10 => ((impl_Cpu_put.f k a2 t10).bind fun t11 => (some (0, (a0.1, a0.2), t11)))) else none) else none) else ((impl_Cpu_put.f k a2 0).bind fun t12 => (some (0, (a0.1, a0.2), t12)))) else (if a3.1 = 16 then (if 0 ≤ w64 ((w64 ((w64 (2 * a1)) - 2)) + (Int.tmod a3.2.1 2)) then (if w64 ((w64 ((w64 (2 * a1)) - 2)) + (Int.tmod a3.2.1 2)) < (a0.2.2.2.2.1.length : Int) then (((some (a0.2.2.2.2.1.set ((w64 ((w64 ((w64 (2 * a1)) - 2)) + (Int.tmod a3.2.1 2))).toNat) a3.2.2.1))).bind fun y13 => (some (0, (a0.1, (a0.2.1, (a0.2.2.1, (a0.2.2.2.1, (y13, a0.2.2.2.2.2))))), a2))) else none) else none) else (some (0, (a0.1, a0.2), a2)))))))
def impl_Kernel_effect.sig : Sig := ⟨[.ptr 49 (.pair (.pair (.sl 127 Ty2) (.pair (.sl 181 Ty2) (.pair (.sl 121 Ty5) (.pair (.sl 187 Ty3) (.sl 9 .str))))) (.pair (.sl 3 TyI) (.pair (.sl 73 TyP) (.pair (.sl 115 (.sl 210 Ty2)) (.pair (.sl 3 TyI) (.pair TyI (.pair .bool (.sl 140 Ty5)))))))) [0, 0, 0, 0, 0, 0, 0, 1, 1, 0], .val false TyI [], .ptr 71 (.pair TyI (.sl 3 TyI)) [2], .val true (.pair TyI Ty3) [], .val false (.sl 3 TyI) [0]], [.val false TyI []]⟩
def impl_Kernel_effect.F : FT impl_Kernel_effect.sig := fun k x => impl_Kernel_effect.f k x.1 x.2.1 x.2.2.1 x.2.2.2.1 x.2.2.2.2.1
def impl_Kernel_effect.ann : AT impl_Kernel_effect.sig := fun k => .nil
def impl_Kernel_effect.ent : Ent := ⟨89, impl_Kernel_effect.sig, impl_Kernel_effect.F⟩
def impl_Kernel_effect.ctx (k : Nat) : Ctx := ⟨tds, [impl_Cpu_put.ent, impl_modulo.ent, impl_answersOf.ent, impl_SendPort.ent, impl_TakePort.ent], k, 185⟩
theorem impl_Kernel_effect.runs : RunsT impl_Kernel_effect.sig impl_Kernel_effect.ctx Tryz.f89 impl_Kernel_effect.ann impl_Kernel_effect.F := fun k x => by kernel_rfl
theorem impl_Kernel_effect.obls : OblT tds impl_Kernel_effect.sig impl_Kernel_effect.ctx 14 Tryz.f89 impl_Kernel_effect.ann := fun k => ⟨tr, ⟨⟨tr, ⟨⟨tr, tr⟩, tr⟩⟩, ⟨tr, ⟨⟨tr, ⟨tr, ⟨⟨⟨tr, ⟨⟨tr, tr⟩, tr⟩⟩, ⟨tr, ⟨tr, tr⟩⟩⟩, ⟨tr, ⟨⟨⟨tr, ⟨⟨tr, tr⟩, tr⟩⟩, ⟨tr, ⟨tr, ⟨tr, tr⟩⟩⟩⟩, ⟨tr, ⟨⟨tr, ⟨⟨tr, ⟨tr, tr⟩⟩, tr⟩⟩, ⟨tr, ⟨tr, tr⟩⟩⟩⟩⟩⟩⟩⟩⟩, ⟨tr, tr⟩⟩⟩⟩⟩
theorem impl_Kernel_effect.ok (k : Nat) : EntOk Tryz.prog k impl_Kernel_effect.ent := fn_ok (C := impl_Kernel_effect.ctx k) Tryz.func89 (by kernel_rfl) (by kernel_rfl) mixed tdsOk (.cons (impl_Cpu_put.ok k) (.cons (impl_modulo.ok k) (.cons (impl_answersOf.ok k) (.cons (impl_SendPort.ok k) (.cons (impl_TakePort.ok k) EntsOk.nil))))) (by kernel_rfl) (leB (by kernel_rfl)) (by kernel_rfl) (impl_Kernel_effect.runs k) (impl_Kernel_effect.obls k)
/-! (*loop.example/g00200/impl.Kernel).run -/
def impl_Kernel_run.j3 (k : Nat) (c0 : Int × Nat × Int × Int × Bool × De2 × De2 × De5 × De3 × DeB × DeI × DeP × DeL × DeI × De5 × DeI × De2 × Unit → Option (Int × Int × DeK)) : Int × Nat × Int × Int × Int × Int × Bool × Int × De2 × De2 × De5 × De3 × DeB × DeI × DeP × DeL × DeI × De5 × DeI × De2 × DeI × DeI × Unit → Option (Int × Int × DeK)
  | (z1, z2, z3, z4, z5, z6, z7, z8, z9, z10, z11, z12, z13, z14, z15, z16, z17, z18, z19, z20, z21, z22, _) => if ¬ z5 = 0 then (some (1, z5, ((z9, (z10, (z11, (z12, z13)))), (z14, (z15, (z16, (z17, (z6, (z7, z18))))))))) else (((some (z15.set z2 ((el TyP z15 z2).1, ((z8, z21), ((el TyP z15 z2).2).2))))).bind fun y6 => (if z4 = 0 then (((some (y6.set z2 ((el TyP y6 z2).1, ((0, []), ((el TyP y6 z2).2).2))))).bind fun y7 => (((some (y7.set z2 ((el TyP y7 z2).1, (((el TyP y7 z2).2).1, ((((el TyP y7 z2).2).2).1, (w64 ((((((el TyP y7 z2).2).2).2).1) + 1), ((((el TyP y7 z2).2).2).2).2))))))).bind fun y8 => (some (0, 0, ((z9, (z10, (z11, (z12, z13)))), (z22, (y8, (z16, (z17, (z6, (z7, z18))))))))))) else (c0 (z1, z2, z3, z6, z7, z9, z10, z11, z12, z13, z22, y6, z16, z17, z18, z19, z20, ()))))
def impl_Kernel_run.j2 (k : Nat) (c0 : Int × Nat × Int × Int × Bool × De2 × De2 × De5 × De3 × DeB × DeI × DeP × DeL × DeI × De5 × DeI × De2 × Unit → Option (Int × Int × DeK)) : Int × Nat × Int × Int × Int × Bool × De2 × De2 × De5 × De3 × DeB × DeI × DeP × DeL × DeI × De5 × DeI × De2 × Unit → Option (Int × Int × DeK)
  | (z1, z2, z3, z4, z5, z6, z7, z8, z9, z10, z11, z12, z13, z14, z15, z16, z17, z18, _) => (impl_CostOf.f k z4).bind fun t2 => (if z3 < t2 then (some (2, 0, ((z7, (z8, (z9, (z10, z11)))), (z12, (z13, (z14, (z15, (z5, (z6, z16))))))))) else ((impl_CostOf.f k z4).bind fun t3 => (if 0 ≤ w64 (z1 - 1) then (if w64 (z1 - 1) < (z7.length : Int) then ((impl_StepCpu.f k (((el TyP z13 z2).2).1) z18 z12 (el Ty2 z7 ((w64 (z1 - 1)).toNat)) z5).bind fun t4 => (if t4.2.2.2.2.2 = 0 then ((impl_Kernel_effect.f k ((z7, (z8, (z9, (z10, z11)))), (z12, (z13, (z14, (z15, (z5, (z6, z16))))))) z1 t4.1 t4.2.2 z17).bind fun t5 => (impl_Kernel_run.j3 k c0 (z1, z2, w64 (z3 - t3), z4, t5.1, t5.2.1.2.2.2.2.2.1, t5.2.1.2.2.2.2.2.2.1, t5.2.2.1, z7, z8, z9, z10, z11, z12, z13, t5.2.1.2.2.2.1, t5.2.1.2.2.2.2.1, z16, z17, z18, t5.2.2.2, t4.2.1, ()))) else (impl_Kernel_run.j3 k c0 (z1, z2, w64 (z3 - t3), z4, t4.2.2.2.2.2, z5, z6, t4.1.1, z7, z8, z9, z10, z11, z12, z13, z14, z15, z16, z17, z18, t4.1.2, t4.2.1, ())))) else none) else none)))
def impl_Kernel_run.l1 (k : Nat)  : Nat → Int × Nat × Int × Int × Bool × De2 × De2 × De5 × De3 × DeB × DeI × DeP × DeL × DeI × De5 × DeI × De2 × Unit → Option (Int × Int × DeK)
  | 0, _ => none
  | n + 1, (x1, x2, x3, x4, x5, x6, x7, x8, x9, x10, x11, x12, x13, x14, x15, x16, x17, _) => if ((((el TyP x12 x2).2).1).1) < (x17.length : Int) then (if 0 ≤ (((el TyP x12 x2).2).1).1 then (if (((el TyP x12 x2).2).1).1 < (x17.length : Int) then (impl_Kernel_run.j2 k (impl_Kernel_run.l1 k n) (x1, x2, x3, (el Ty2 x17 (((((el TyP x12 x2).2).1).1).toNat)).1, x4, x5, x6, x7, x8, x9, x10, x11, x12, x13, x14, x15, x16, x17, ())) else none) else none) else (impl_Kernel_run.j2 k (impl_Kernel_run.l1 k n) (x1, x2, x3, 1, x4, x5, x6, x7, x8, x9, x10, x11, x12, x13, x14, x15, x16, x17, ()))
def impl_Kernel_run.f (k : Nat) (a0 : DeK) (a1 : Int) (a2 : Int) (a3 : DeI) : Option (Int × Int × DeK) :=
  if 0 ≤ w64 (a1 - 1) then (if w64 (a1 - 1) < (a0.2.2.1.length : Int) then (if 0 ≤ w64 (a1 - 1) then (if w64 (a1 - 1) < (a0.1.2.2.2.2.length : Int) then ((impl_ReadCode.f k (el .str a0.1.2.2.2.2 ((w64 (a1 - 1)).toNat))).bind fun t1 => (impl_Kernel_run.l1 k k (a1, (w64 (a1 - 1)).toNat, min a2 1000, a0.2.2.2.2.2.1, a0.2.2.2.2.2.2.1, a0.1.1, a0.1.2.1, a0.1.2.2.1, a0.1.2.2.2.1, a0.1.2.2.2.2, a0.2.1, a0.2.2.1, a0.2.2.2.1, a0.2.2.2.2.1, a0.2.2.2.2.2.2.2, a3, t1.1, ()))) else none) else none) else none) else none
def impl_Kernel_run.Sl1 : Shape := ⟨[(0, false, [.ptr 0 0]), (1, false, [.int .i64]), (3, false, [.own 11]), (10, false, [.pel 7 0 6]), (11, false, [.own 13]), (13, false, [.int .i64])], [(0, .blk 49 [.own 1, .own 2, .own 3, .own 4, .own 5, .own 12, .own 7, .own 8, .own 9, .int .i64, .bool, .own 10]), (1, .view false 127 Ty2), (2, .view false 181 Ty2), (3, .view false 121 Ty5), (4, .view false 187 Ty3), (5, .view false 9 .str), (12, .row 3 TyI), (7, .row 73 TyP), (8, .row 115 (.sl 210 Ty2)), (9, .row 3 TyI), (10, .view false 140 Ty5), (11, .view false 3 TyI), (13, .row 76 Ty2)], 14⟩
def impl_Kernel_run.Sj2 : Shape := ⟨[(0, false, [.ptr 0 0]), (1, false, [.int .i64]), (3, false, [.own 11]), (10, false, [.pel 7 0 6]), (11, false, [.own 13]), (13, false, [.int .i64]), (14, false, [.int .i64])], [(0, .blk 49 [.own 1, .own 2, .own 3, .own 4, .own 5, .own 12, .own 7, .own 8, .own 9, .int .i64, .bool, .own 10]), (1, .view false 127 Ty2), (2, .view false 181 Ty2), (3, .view false 121 Ty5), (4, .view false 187 Ty3), (5, .view false 9 .str), (12, .row 3 TyI), (7, .row 73 TyP), (8, .row 115 (.sl 210 Ty2)), (9, .row 3 TyI), (10, .view false 140 Ty5), (11, .view false 3 TyI), (13, .row 76 Ty2)], 14⟩
def impl_Kernel_run.Sj3 : Shape := ⟨[(0, false, [.ptr 0 0]), (1, false, [.int .i64]), (3, false, [.own 11]), (10, false, [.pel 7 0 6]), (11, false, [.own 13]), (13, false, [.int .i64]), (14, false, [.int .i64]), (15, false, [.ptr 14 0]), (16, false, [.ptr 16 0]), (18, false, [.int .i64])], [(0, .blk 49 [.own 1, .own 2, .own 3, .own 4, .own 5, .own 12, .own 7, .own 8, .own 9, .int .i64, .bool, .own 10]), (14, .blk 71 [.int .i64, .own 15]), (16, .blk 44 [.own 17]), (1, .view false 127 Ty2), (2, .view false 181 Ty2), (3, .view false 121 Ty5), (4, .view false 187 Ty3), (5, .view false 9 .str), (12, .row 3 TyI), (7, .row 73 TyP), (8, .row 115 (.sl 210 Ty2)), (9, .row 3 TyI), (10, .view false 140 Ty5), (11, .view false 3 TyI), (13, .row 76 Ty2), (15, .row 3 TyI), (17, .row 3 TyI)], 18⟩
def impl_Kernel_run.sig : Sig := ⟨[.ptr 49 (.pair (.pair (.sl 127 Ty2) (.pair (.sl 181 Ty2) (.pair (.sl 121 Ty5) (.pair (.sl 187 Ty3) (.sl 9 .str))))) (.pair (.sl 3 TyI) (.pair (.sl 73 TyP) (.pair (.sl 115 (.sl 210 Ty2)) (.pair (.sl 3 TyI) (.pair TyI (.pair .bool (.sl 140 Ty5)))))))) [0, 0, 0, 0, 0, 2, 1, 1, 1, 0], .val false TyI [], .val false TyI [], .val false (.sl 3 TyI) [0]], [.val false TyI [], .val false TyI []]⟩
def impl_Kernel_run.F : FT impl_Kernel_run.sig := fun k x => impl_Kernel_run.f k x.1 x.2.1 x.2.2.1 x.2.2.2.1
def impl_Kernel_run.ann : AT impl_Kernel_run.sig := fun k => (.seq .nil (.seq .nil (.seq .nil (.seq .nil (.block (.loop impl_Kernel_run.Sl1 (impl_Kernel_run.l1 k) fun n1 => (.block (.seq .nil (.join impl_Kernel_run.Sj2 (impl_Kernel_run.j2 k (impl_Kernel_run.l1 k n1)) .nil (.seq .nil (.seq .nil (.seq .nil (.seq .nil (.join impl_Kernel_run.Sj3 (impl_Kernel_run.j3 k (impl_Kernel_run.l1 k n1)) .nil .nil))))))))))))))
def impl_Kernel_run.ent : Ent := ⟨34, impl_Kernel_run.sig, impl_Kernel_run.F⟩
def impl_Kernel_run.ctx (k : Nat) : Ctx := ⟨tds, [impl_ReadCode.ent, impl_CostOf.ent, impl_StepCpu.ent, impl_Kernel_effect.ent], k, 126⟩
theorem impl_Kernel_run.runs : RunsT impl_Kernel_run.sig impl_Kernel_run.ctx Tryz.f34 impl_Kernel_run.ann impl_Kernel_run.F := fun k x => by kernel_rfl
theorem impl_Kernel_run.obls : OblT tds impl_Kernel_run.sig impl_Kernel_run.ctx 12 Tryz.f34 impl_Kernel_run.ann := fun k => ⟨tr, ⟨tr, ⟨tr, ⟨tr, ⟨⟨by kernel_rfl, fun x => by kernel_rfl⟩, fun n => ⟨fun x => by kernel_rfl, ⟨tr, ⟨⟨by kernel_rfl, fun x => by kernel_rfl⟩, ⟨tr, ⟨tr, tr⟩⟩, ⟨⟨tr, ⟨⟨tr, tr⟩, tr⟩⟩, ⟨tr, ⟨tr, ⟨tr, ⟨⟨by kernel_rfl, fun x => by kernel_rfl⟩, ⟨tr, ⟨tr, tr⟩⟩, ⟨⟨tr, ⟨⟨tr, tr⟩, tr⟩⟩, ⟨tr, ⟨tr, ⟨⟨tr, ⟨tr, ⟨tr, tr⟩⟩⟩, tr⟩⟩⟩⟩⟩⟩⟩⟩⟩⟩⟩⟩⟩⟩⟩⟩⟩
theorem impl_Kernel_run.ok (k : Nat) : EntOk Tryz.prog k impl_Kernel_run.ent := fn_ok (C := impl_Kernel_run.ctx k) Tryz.func34 (by kernel_rfl) (by kernel_rfl) mixed tdsOk (.cons (impl_ReadCode.ok k) (.cons (impl_CostOf.ok k) (.cons (impl_StepCpu.ok k) (.cons (impl_Kernel_effect.ok k) EntsOk.nil)))) (by kernel_rfl) (leB (by kernel_rfl)) (by kernel_rfl) (impl_Kernel_run.runs k) (impl_Kernel_run.obls k)
/-! loop.example/g00200/impl.RunPart -/
def impl_RunPart.f (k : Nat) (a0 : DeK) (a1 : Int) (a2 : Int) (a3 : DeI) : Option ((DeK) × Int × Int) :=
  (impl_copyKernel.f k (a0.1, a0.2)).bind fun t1 => ((impl_KernelOk.f k (a0.1, a0.2)).bind fun t2 => (if ¬ t2 = true then (some ((t1.1, t1.2), 1, 6)) else ((impl_within.f k a1 1 (a0.2.2.1.length : Int)).bind fun t3 => (if ¬ t3 = true then (some ((t1.1, t1.2), 1, 6)) else ((impl_Kernel_run.f k (t1.1, t1.2) a1 a2 a3).bind fun t4 => (some ((t1.1, (t4.2.2.2.1, (t4.2.2.2.2.1, (t4.2.2.2.2.2.1, (t4.2.2.2.2.2.2.1, (t4.2.2.2.2.2.2.2.1, (t4.2.2.2.2.2.2.2.2.1, t1.2.2.2.2.2.2.2))))))), t4.1, t4.2.1)))))))
def impl_RunPart.sig : Sig := ⟨[.val true (.pair (.pair (.sl 127 Ty2) (.pair (.sl 181 Ty2) (.pair (.sl 121 Ty5) (.pair (.sl 187 Ty3) (.sl 9 .str))))) (.pair (.sl 3 TyI) (.pair (.sl 73 TyP) (.pair (.sl 115 (.sl 210 Ty2)) (.pair (.sl 3 TyI) (.pair TyI (.pair .bool (.sl 140 Ty5)))))))) [0, 0, 0, 0, 0, 0, 0, 0, 0, 0], .val false TyI [], .val false TyI [], .val false (.sl 3 TyI) [0]], [.val true (.pair (.pair (.sl 127 Ty2) (.pair (.sl 181 Ty2) (.pair (.sl 121 Ty5) (.pair (.sl 187 Ty3) (.sl 9 .str))))) (.pair (.sl 3 TyI) (.pair (.sl 73 TyP) (.pair (.sl 115 (.sl 210 Ty2)) (.pair (.sl 3 TyI) (.pair TyI (.pair .bool (.sl 140 Ty5)))))))) [none, none, none, none, none, none, none, none, none, none], .val false TyI [], .val false TyI []]⟩
def impl_RunPart.F : FT impl_RunPart.sig := fun k x => impl_RunPart.f k x.1 x.2.1 x.2.2.1 x.2.2.2.1
def impl_RunPart.ann : AT impl_RunPart.sig := fun k => .nil
def impl_RunPart.ent : Ent := ⟨8, impl_RunPart.sig, impl_RunPart.F⟩
def impl_RunPart.ctx (k : Nat) : Ctx := ⟨tds, [impl_copyKernel.ent, impl_KernelOk.ent, impl_within.ent, impl_Kernel_run.ent], k, 38⟩
theorem impl_RunPart.runs : RunsT impl_RunPart.sig impl_RunPart.ctx Tryz.f8 impl_RunPart.ann impl_RunPart.F := fun k x => by kernel_rfl
theorem impl_RunPart.obls : OblT tds impl_RunPart.sig impl_RunPart.ctx 11 Tryz.f8 impl_RunPart.ann := fun k => ⟨tr, ⟨tr, ⟨⟨tr, ⟨⟨tr, tr⟩, tr⟩⟩, ⟨tr, ⟨tr, tr⟩⟩⟩⟩⟩
theorem impl_RunPart.ok (k : Nat) : EntOk Tryz.prog k impl_RunPart.ent := fn_ok (C := impl_RunPart.ctx k) Tryz.func8 (by kernel_rfl) (by kernel_rfl) mixed tdsOk (.cons (impl_copyKernel.ok k) (.cons (impl_KernelOk.ok k) (.cons (impl_within.ok k) (.cons (impl_Kernel_run.ok k) EntsOk.nil)))) (by kernel_rfl) (leB (by kernel_rfl)) (by kernel_rfl) (impl_RunPart.runs k) (impl_RunPart.obls k)
/-! loop.example/g00200/laws.eqRegion -/
def laws_eqRegion.f (k : Nat) (a0 : Int × Int) (a1 : Int × Int) : Option (Bool) :=
  if ¬ a0.1 = a1.1 then (some false) else (if ¬ a0.2 = a1.2 then (some false) else (some true))
def laws_eqRegion.sig : Sig := ⟨[.val true Ty2 [], .val true Ty2 []], [.val false .bool []]⟩
def laws_eqRegion.F : FT laws_eqRegion.sig := fun k x => laws_eqRegion.f k x.1 x.2.1
def laws_eqRegion.ann : AT laws_eqRegion.sig := fun k => .nil
def laws_eqRegion.ent : Ent := ⟨150, laws_eqRegion.sig, laws_eqRegion.F⟩
def laws_eqRegion.ctx (k : Nat) : Ctx := ⟨tds, [], k, 15⟩
theorem laws_eqRegion.runs : RunsT laws_eqRegion.sig laws_eqRegion.ctx Tryz.f150 laws_eqRegion.ann laws_eqRegion.F := fun k x => by kernel_rfl
theorem laws_eqRegion.obls : OblT tds laws_eqRegion.sig laws_eqRegion.ctx 0 Tryz.f150 laws_eqRegion.ann := fun k => ⟨tr, ⟨⟨tr, ⟨⟨tr, tr⟩, tr⟩⟩, ⟨⟨tr, ⟨⟨tr, tr⟩, tr⟩⟩, ⟨tr, tr⟩⟩⟩⟩
theorem laws_eqRegion.ok (k : Nat) : EntOk Tryz.prog k laws_eqRegion.ent := fn_ok (C := laws_eqRegion.ctx k) Tryz.func150 (by kernel_rfl) (by kernel_rfl) mixed tdsOk EntsOk.nil (by kernel_rfl) (leB (by kernel_rfl)) (by kernel_rfl) (laws_eqRegion.runs k) (laws_eqRegion.obls k)
/-! loop.example/g00200/laws.eqRegionS -/
def laws_eqRegionS.l1 (k : Nat)  : Nat → Int × De2 × De2 × Unit → Option (Bool)
  | 0, _ => none
  | n + 1, (x1, x2, x3, _) => if x1 < (x2.length : Int) then (if 0 ≤ x1 then (if x1 < (x2.length : Int) then (if 0 ≤ x1 then (if x1 < (x3.length : Int) then ((laws_eqRegion.f k (el Ty2 x2 x1.toNat) (el Ty2 x3 x1.toNat)).bind fun t1 => (if ¬ t1 = true then (some false) else (laws_eqRegionS.l1 k n (w64 (x1 + 1), x2, x3, ())))) else none) else none) else none) else none) else (some true)
def laws_eqRegionS.f (k : Nat) (a0 : De2) (a1 : De2) : Option (Bool) :=
  if ¬ (a0.length : Int) = (a1.length : Int) then (some false) else (laws_eqRegionS.l1 k k (0, a0, a1, ()))
def laws_eqRegionS.Sl1 : Shape := ⟨[(0, false, [.own 0]), (1, false, [.own 1]), (5, false, [.int .i64])], [(0, .view false 127 Ty2), (1, .view false 127 Ty2)], 2⟩
def laws_eqRegionS.sig : Sig := ⟨[.val false (.sl 127 Ty2) [0], .val false (.sl 127 Ty2) [0]], [.val false .bool []]⟩
def laws_eqRegionS.F : FT laws_eqRegionS.sig := fun k x => laws_eqRegionS.f k x.1 x.2.1
def laws_eqRegionS.ann : AT laws_eqRegionS.sig := fun k => (.seq .nil (.seq .nil (.seq (.seq .nil (.block (.loop laws_eqRegionS.Sl1 (laws_eqRegionS.l1 k) fun n1 => .nil))) .nil)))
def laws_eqRegionS.ent : Ent := ⟨90, laws_eqRegionS.sig, laws_eqRegionS.F⟩
def laws_eqRegionS.ctx (k : Nat) : Ctx := ⟨tds, [laws_eqRegion.ent], k, 27⟩
theorem laws_eqRegionS.runs : RunsT laws_eqRegionS.sig laws_eqRegionS.ctx Tryz.f90 laws_eqRegionS.ann laws_eqRegionS.F := fun k x => by kernel_rfl
theorem laws_eqRegionS.obls : OblT tds laws_eqRegionS.sig laws_eqRegionS.ctx 2 Tryz.f90 laws_eqRegionS.ann := fun k => ⟨tr, ⟨⟨tr, ⟨⟨tr, tr⟩, tr⟩⟩, ⟨⟨tr, ⟨⟨by kernel_rfl, fun x => by kernel_rfl⟩, fun n => ⟨fun x => by kernel_rfl, ⟨⟨tr, ⟨tr, tr⟩⟩, ⟨⟨tr, ⟨⟨tr, tr⟩, tr⟩⟩, tr⟩⟩⟩⟩⟩, ⟨tr, tr⟩⟩⟩⟩
theorem laws_eqRegionS.ok (k : Nat) : EntOk Tryz.prog k laws_eqRegionS.ent := fn_ok (C := laws_eqRegionS.ctx k) Tryz.func90 (by kernel_rfl) (by kernel_rfl) mixed tdsOk (.cons (laws_eqRegion.ok k) EntsOk.nil) (by kernel_rfl) (leB (by kernel_rfl)) (by kernel_rfl) (laws_eqRegionS.runs k) (laws_eqRegionS.obls k)
/-! loop.example/g00200/laws.eqWindow -/
def laws_eqWindow.f (k : Nat) (a0 : Int × Int) (a1 : Int × Int) : Option (Bool) :=
  if ¬ a0.1 = a1.1 then (some false) else (if ¬ a0.2 = a1.2 then (some false) else (some true))
def laws_eqWindow.sig : Sig := ⟨[.val true Ty2 [], .val true Ty2 []], [.val false .bool []]⟩
def laws_eqWindow.F : FT laws_eqWindow.sig := fun k x => laws_eqWindow.f k x.1 x.2.1
def laws_eqWindow.ann : AT laws_eqWindow.sig := fun k => .nil
def laws_eqWindow.ent : Ent := ⟨151, laws_eqWindow.sig, laws_eqWindow.F⟩
def laws_eqWindow.ctx (k : Nat) : Ctx := ⟨tds, [], k, 15⟩
theorem laws_eqWindow.runs : RunsT laws_eqWindow.sig laws_eqWindow.ctx Tryz.f151 laws_eqWindow.ann laws_eqWindow.F := fun k x => by kernel_rfl
theorem laws_eqWindow.obls : OblT tds laws_eqWindow.sig laws_eqWindow.ctx 0 Tryz.f151 laws_eqWindow.ann := fun k => ⟨tr, ⟨⟨tr, ⟨⟨tr, tr⟩, tr⟩⟩, ⟨⟨tr, ⟨⟨tr, tr⟩, tr⟩⟩, ⟨tr, tr⟩⟩⟩⟩
theorem laws_eqWindow.ok (k : Nat) : EntOk Tryz.prog k laws_eqWindow.ent := fn_ok (C := laws_eqWindow.ctx k) Tryz.func151 (by kernel_rfl) (by kernel_rfl) mixed tdsOk EntsOk.nil (by kernel_rfl) (leB (by kernel_rfl)) (by kernel_rfl) (laws_eqWindow.runs k) (laws_eqWindow.obls k)
/-! loop.example/g00200/laws.eqWindowS -/
def laws_eqWindowS.l1 (k : Nat)  : Nat → Int × De2 × De2 × Unit → Option (Bool)
  | 0, _ => none
  | n + 1, (x1, x2, x3, _) => if x1 < (x2.length : Int) then (if 0 ≤ x1 then (if x1 < (x2.length : Int) then (if 0 ≤ x1 then (if x1 < (x3.length : Int) then ((laws_eqWindow.f k (el Ty2 x2 x1.toNat) (el Ty2 x3 x1.toNat)).bind fun t1 => (if ¬ t1 = true then (some false) else (laws_eqWindowS.l1 k n (w64 (x1 + 1), x2, x3, ())))) else none) else none) else none) else none) else (some true)
def laws_eqWindowS.f (k : Nat) (a0 : De2) (a1 : De2) : Option (Bool) :=
  if ¬ (a0.length : Int) = (a1.length : Int) then (some false) else (laws_eqWindowS.l1 k k (0, a0, a1, ()))
def laws_eqWindowS.Sl1 : Shape := ⟨[(0, false, [.own 0]), (1, false, [.own 1]), (5, false, [.int .i64])], [(0, .view false 181 Ty2), (1, .view false 181 Ty2)], 2⟩
def laws_eqWindowS.sig : Sig := ⟨[.val false (.sl 181 Ty2) [0], .val false (.sl 181 Ty2) [0]], [.val false .bool []]⟩
def laws_eqWindowS.F : FT laws_eqWindowS.sig := fun k x => laws_eqWindowS.f k x.1 x.2.1
def laws_eqWindowS.ann : AT laws_eqWindowS.sig := fun k => (.seq .nil (.seq .nil (.seq (.seq .nil (.block (.loop laws_eqWindowS.Sl1 (laws_eqWindowS.l1 k) fun n1 => .nil))) .nil)))
def laws_eqWindowS.ent : Ent := ⟨91, laws_eqWindowS.sig, laws_eqWindowS.F⟩
def laws_eqWindowS.ctx (k : Nat) : Ctx := ⟨tds, [laws_eqWindow.ent], k, 27⟩
theorem laws_eqWindowS.runs : RunsT laws_eqWindowS.sig laws_eqWindowS.ctx Tryz.f91 laws_eqWindowS.ann laws_eqWindowS.F := fun k x => by kernel_rfl
theorem laws_eqWindowS.obls : OblT tds laws_eqWindowS.sig laws_eqWindowS.ctx 2 Tryz.f91 laws_eqWindowS.ann := fun k => ⟨tr, ⟨⟨tr, ⟨⟨tr, tr⟩, tr⟩⟩, ⟨⟨tr, ⟨⟨by kernel_rfl, fun x => by kernel_rfl⟩, fun n => ⟨fun x => by kernel_rfl, ⟨⟨tr, ⟨tr, tr⟩⟩, ⟨⟨tr, ⟨⟨tr, tr⟩, tr⟩⟩, tr⟩⟩⟩⟩⟩, ⟨tr, tr⟩⟩⟩⟩
theorem laws_eqWindowS.ok (k : Nat) : EntOk Tryz.prog k laws_eqWindowS.ent := fn_ok (C := laws_eqWindowS.ctx k) Tryz.func91 (by kernel_rfl) (by kernel_rfl) mixed tdsOk (.cons (laws_eqWindow.ok k) EntsOk.nil) (by kernel_rfl) (leB (by kernel_rfl)) (by kernel_rfl) (laws_eqWindowS.runs k) (laws_eqWindowS.obls k)
/-! loop.example/g00200/laws.eqPort -/
def laws_eqPort.f (k : Nat) (a0 : Int × Int × Int × Int × Int) (a1 : Int × Int × Int × Int × Int) : Option (Bool) :=
  if ¬ a0.1 = a1.1 then (some false) else (if ¬ a0.2.1 = a1.2.1 then (some false) else (if ¬ a0.2.2.1 = a1.2.2.1 then (some false) else (if ¬ a0.2.2.2.1 = a1.2.2.2.1 then (some false) else (if ¬ a0.2.2.2.2 = a1.2.2.2.2 then (some false) else (some true)))))
def laws_eqPort.sig : Sig := ⟨[.val true Ty5 [], .val true Ty5 []], [.val false .bool []]⟩
def laws_eqPort.F : FT laws_eqPort.sig := fun k x => laws_eqPort.f k x.1 x.2.1
def laws_eqPort.ann : AT laws_eqPort.sig := fun k => .nil
def laws_eqPort.ent : Ent := ⟨152, laws_eqPort.sig, laws_eqPort.F⟩
def laws_eqPort.ctx (k : Nat) : Ctx := ⟨tds, [], k, 30⟩
theorem laws_eqPort.runs : RunsT laws_eqPort.sig laws_eqPort.ctx Tryz.f152 laws_eqPort.ann laws_eqPort.F := fun k x => by kernel_rfl
theorem laws_eqPort.obls : OblT tds laws_eqPort.sig laws_eqPort.ctx 0 Tryz.f152 laws_eqPort.ann := fun k => ⟨tr, ⟨⟨tr, ⟨⟨tr, tr⟩, tr⟩⟩, ⟨⟨tr, ⟨⟨tr, tr⟩, tr⟩⟩, ⟨⟨tr, ⟨⟨tr, tr⟩, tr⟩⟩, ⟨⟨tr, ⟨⟨tr, tr⟩, tr⟩⟩, ⟨⟨tr, ⟨⟨tr, tr⟩, tr⟩⟩, ⟨tr, tr⟩⟩⟩⟩⟩⟩⟩
theorem laws_eqPort.ok (k : Nat) : EntOk Tryz.prog k laws_eqPort.ent := fn_ok (C := laws_eqPort.ctx k) Tryz.func152 (by kernel_rfl) (by kernel_rfl) mixed tdsOk EntsOk.nil (by kernel_rfl) (leB (by kernel_rfl)) (by kernel_rfl) (laws_eqPort.runs k) (laws_eqPort.obls k)
/-! loop.example/g00200/laws.eqPortS -/
def laws_eqPortS.l1 (k : Nat)  : Nat → Int × De5 × De5 × Unit → Option (Bool)
  | 0, _ => none
  | n + 1, (x1, x2, x3, _) => if x1 < (x2.length : Int) then (if 0 ≤ x1 then (if x1 < (x2.length : Int) then (if 0 ≤ x1 then (if x1 < (x3.length : Int) then ((laws_eqPort.f k ((el Ty5 x2 x1.toNat).1, (((el Ty5 x2 x1.toNat).2).1, ((((el Ty5 x2 x1.toNat).2).2).1, ((((el Ty5 x2 x1.toNat).2).2).2)))) ((el Ty5 x3 x1.toNat).1, (((el Ty5 x3 x1.toNat).2).1, ((((el Ty5 x3 x1.toNat).2).2).1, ((((el Ty5 x3 x1.toNat).2).2).2))))).bind fun t1 => (if ¬ t1 = true then (some false) else (laws_eqPortS.l1 k n (w64 (x1 + 1), x2, x3, ())))) else none) else none) else none) else none) else (some true)
def laws_eqPortS.f (k : Nat) (a0 : De5) (a1 : De5) : Option (Bool) :=
  if ¬ (a0.length : Int) = (a1.length : Int) then (some false) else (laws_eqPortS.l1 k k (0, a0, a1, ()))
def laws_eqPortS.Sl1 : Shape := ⟨[(0, false, [.own 0]), (1, false, [.own 1]), (5, false, [.int .i64])], [(0, .view false 121 Ty5), (1, .view false 121 Ty5)], 2⟩
def laws_eqPortS.sig : Sig := ⟨[.val false (.sl 121 Ty5) [0], .val false (.sl 121 Ty5) [0]], [.val false .bool []]⟩
def laws_eqPortS.F : FT laws_eqPortS.sig := fun k x => laws_eqPortS.f k x.1 x.2.1
def laws_eqPortS.ann : AT laws_eqPortS.sig := fun k => (.seq .nil (.seq .nil (.seq (.seq .nil (.block (.loop laws_eqPortS.Sl1 (laws_eqPortS.l1 k) fun n1 => .nil))) .nil)))
def laws_eqPortS.ent : Ent := ⟨92, laws_eqPortS.sig, laws_eqPortS.F⟩
def laws_eqPortS.ctx (k : Nat) : Ctx := ⟨tds, [laws_eqPort.ent], k, 27⟩
theorem laws_eqPortS.runs : RunsT laws_eqPortS.sig laws_eqPortS.ctx Tryz.f92 laws_eqPortS.ann laws_eqPortS.F := fun k x => by kernel_rfl
theorem laws_eqPortS.obls : OblT tds laws_eqPortS.sig laws_eqPortS.ctx 2 Tryz.f92 laws_eqPortS.ann := fun k => ⟨tr, ⟨⟨tr, ⟨⟨tr, tr⟩, tr⟩⟩, ⟨⟨tr, ⟨⟨by kernel_rfl, fun x => by kernel_rfl⟩, fun n => ⟨fun x => by kernel_rfl, ⟨⟨tr, ⟨tr, tr⟩⟩, ⟨⟨tr, ⟨⟨tr, tr⟩, tr⟩⟩, tr⟩⟩⟩⟩⟩, ⟨tr, tr⟩⟩⟩⟩
theorem laws_eqPortS.ok (k : Nat) : EntOk Tryz.prog k laws_eqPortS.ent := fn_ok (C := laws_eqPortS.ctx k) Tryz.func92 (by kernel_rfl) (by kernel_rfl) mixed tdsOk (.cons (laws_eqPort.ok k) EntsOk.nil) (by kernel_rfl) (leB (by kernel_rfl)) (by kernel_rfl) (laws_eqPortS.runs k) (laws_eqPortS.obls k)
/-! loop.example/g00200/laws.eqRule -/
def laws_eqRule.f (k : Nat) (a0 : Int × Int × Int) (a1 : Int × Int × Int) : Option (Bool) :=
  if ¬ a0.1 = a1.1 then (some false) else (if ¬ a0.2.1 = a1.2.1 then (some false) else (if ¬ a0.2.2 = a1.2.2 then (some false) else (some true)))
def laws_eqRule.sig : Sig := ⟨[.val true Ty3 [], .val true Ty3 []], [.val false .bool []]⟩
def laws_eqRule.F : FT laws_eqRule.sig := fun k x => laws_eqRule.f k x.1 x.2.1
def laws_eqRule.ann : AT laws_eqRule.sig := fun k => .nil
def laws_eqRule.ent : Ent := ⟨153, laws_eqRule.sig, laws_eqRule.F⟩
def laws_eqRule.ctx (k : Nat) : Ctx := ⟨tds, [], k, 20⟩
theorem laws_eqRule.runs : RunsT laws_eqRule.sig laws_eqRule.ctx Tryz.f153 laws_eqRule.ann laws_eqRule.F := fun k x => by kernel_rfl
theorem laws_eqRule.obls : OblT tds laws_eqRule.sig laws_eqRule.ctx 0 Tryz.f153 laws_eqRule.ann := fun k => ⟨tr, ⟨⟨tr, ⟨⟨tr, tr⟩, tr⟩⟩, ⟨⟨tr, ⟨⟨tr, tr⟩, tr⟩⟩, ⟨⟨tr, ⟨⟨tr, tr⟩, tr⟩⟩, ⟨tr, tr⟩⟩⟩⟩⟩
theorem laws_eqRule.ok (k : Nat) : EntOk Tryz.prog k laws_eqRule.ent := fn_ok (C := laws_eqRule.ctx k) Tryz.func153 (by kernel_rfl) (by kernel_rfl) mixed tdsOk EntsOk.nil (by kernel_rfl) (leB (by kernel_rfl)) (by kernel_rfl) (laws_eqRule.runs k) (laws_eqRule.obls k)
/-! loop.example/g00200/laws.eqRuleS -/
def laws_eqRuleS.l1 (k : Nat)  : Nat → Int × De3 × De3 × Unit → Option (Bool)
  | 0, _ => none
  | n + 1, (x1, x2, x3, _) => if x1 < (x2.length : Int) then (if 0 ≤ x1 then (if x1 < (x2.length : Int) then (if 0 ≤ x1 then (if x1 < (x3.length : Int) then ((laws_eqRule.f k ((el Ty3 x2 x1.toNat).1, ((el Ty3 x2 x1.toNat).2)) ((el Ty3 x3 x1.toNat).1, ((el Ty3 x3 x1.toNat).2))).bind fun t1 => (if ¬ t1 = true then (some false) else (laws_eqRuleS.l1 k n (w64 (x1 + 1), x2, x3, ())))) else none) else none) else none) else none) else (some true)
def laws_eqRuleS.f (k : Nat) (a0 : De3) (a1 : De3) : Option (Bool) :=
  if ¬ (a0.length : Int) = (a1.length : Int) then (some false) else (laws_eqRuleS.l1 k k (0, a0, a1, ()))
def laws_eqRuleS.Sl1 : Shape := ⟨[(0, false, [.own 0]), (1, false, [.own 1]), (5, false, [.int .i64])], [(0, .view false 187 Ty3), (1, .view false 187 Ty3)], 2⟩
def laws_eqRuleS.sig : Sig := ⟨[.val false (.sl 187 Ty3) [0], .val false (.sl 187 Ty3) [0]], [.val false .bool []]⟩
def laws_eqRuleS.F : FT laws_eqRuleS.sig := fun k x => laws_eqRuleS.f k x.1 x.2.1
def laws_eqRuleS.ann : AT laws_eqRuleS.sig := fun k => (.seq .nil (.seq .nil (.seq (.seq .nil (.block (.loop laws_eqRuleS.Sl1 (laws_eqRuleS.l1 k) fun n1 => .nil))) .nil)))
def laws_eqRuleS.ent : Ent := ⟨93, laws_eqRuleS.sig, laws_eqRuleS.F⟩
def laws_eqRuleS.ctx (k : Nat) : Ctx := ⟨tds, [laws_eqRule.ent], k, 27⟩
theorem laws_eqRuleS.runs : RunsT laws_eqRuleS.sig laws_eqRuleS.ctx Tryz.f93 laws_eqRuleS.ann laws_eqRuleS.F := fun k x => by kernel_rfl
theorem laws_eqRuleS.obls : OblT tds laws_eqRuleS.sig laws_eqRuleS.ctx 2 Tryz.f93 laws_eqRuleS.ann := fun k => ⟨tr, ⟨⟨tr, ⟨⟨tr, tr⟩, tr⟩⟩, ⟨⟨tr, ⟨⟨by kernel_rfl, fun x => by kernel_rfl⟩, fun n => ⟨fun x => by kernel_rfl, ⟨⟨tr, ⟨tr, tr⟩⟩, ⟨⟨tr, ⟨⟨tr, tr⟩, tr⟩⟩, tr⟩⟩⟩⟩⟩, ⟨tr, tr⟩⟩⟩⟩
theorem laws_eqRuleS.ok (k : Nat) : EntOk Tryz.prog k laws_eqRuleS.ent := fn_ok (C := laws_eqRuleS.ctx k) Tryz.func93 (by kernel_rfl) (by kernel_rfl) mixed tdsOk (.cons (laws_eqRule.ok k) EntsOk.nil) (by kernel_rfl) (leB (by kernel_rfl)) (by kernel_rfl) (laws_eqRuleS.runs k) (laws_eqRuleS.obls k)
/-! loop.example/g00200/laws.eqStringS -/
def laws_eqStringS.l1 (k : Nat)  : Nat → Int × DeB × DeB × Unit → Option (Bool)
  | 0, _ => none
  | n + 1, (x1, x2, x3, _) => if x1 < (x2.length : Int) then (if 0 ≤ x1 then (if x1 < (x2.length : Int) then (if 0 ≤ x1 then (if x1 < (x3.length : Int) then (if ¬ (el .str x2 x1.toNat) = (el .str x3 x1.toNat) then (some false) else (laws_eqStringS.l1 k n (w64 (x1 + 1), x2, x3, ()))) else none) else none) else none) else none) else (some true)
def laws_eqStringS.f (k : Nat) (a0 : DeB) (a1 : DeB) : Option (Bool) :=
  if ¬ (a0.length : Int) = (a1.length : Int) then (some false) else (laws_eqStringS.l1 k k (0, a0, a1, ()))
def laws_eqStringS.Sl1 : Shape := ⟨[(0, false, [.own 0]), (1, false, [.own 1]), (5, false, [.int .i64])], [(0, .view false 9 .str), (1, .view false 9 .str)], 2⟩
def laws_eqStringS.sig : Sig := ⟨[.val false (.sl 9 .str) [0], .val false (.sl 9 .str) [0]], [.val false .bool []]⟩
def laws_eqStringS.F : FT laws_eqStringS.sig := fun k x => laws_eqStringS.f k x.1 x.2.1
def laws_eqStringS.ann : AT laws_eqStringS.sig := fun k => (.seq .nil (.seq .nil (.seq (.seq .nil (.block (.loop laws_eqStringS.Sl1 (laws_eqStringS.l1 k) fun n1 => .nil))) .nil)))
def laws_eqStringS.ent : Ent := ⟨94, laws_eqStringS.sig, laws_eqStringS.F⟩
def laws_eqStringS.ctx (k : Nat) : Ctx := ⟨tds, [], k, 26⟩
theorem laws_eqStringS.runs : RunsT laws_eqStringS.sig laws_eqStringS.ctx Tryz.f94 laws_eqStringS.ann laws_eqStringS.F := fun k x => by kernel_rfl
theorem laws_eqStringS.obls : OblT tds laws_eqStringS.sig laws_eqStringS.ctx 2 Tryz.f94 laws_eqStringS.ann := fun k => ⟨tr, ⟨⟨tr, ⟨⟨tr, tr⟩, tr⟩⟩, ⟨⟨tr, ⟨⟨by kernel_rfl, fun x => by kernel_rfl⟩, fun n => ⟨fun x => by kernel_rfl, ⟨⟨tr, ⟨tr, tr⟩⟩, ⟨⟨tr, ⟨⟨tr, tr⟩, tr⟩⟩, tr⟩⟩⟩⟩⟩, ⟨tr, tr⟩⟩⟩⟩
theorem laws_eqStringS.ok (k : Nat) : EntOk Tryz.prog k laws_eqStringS.ent := fn_ok (C := laws_eqStringS.ctx k) Tryz.func94 (by kernel_rfl) (by kernel_rfl) mixed tdsOk EntsOk.nil (by kernel_rfl) (leB (by kernel_rfl)) (by kernel_rfl) (laws_eqStringS.runs k) (laws_eqStringS.obls k)
/-! loop.example/g00200/laws.eqSetup -/
def laws_eqSetup.f (k : Nat) (a0 : De2 × De2 × De5 × De3 × DeB) (a1 : De2 × De2 × De5 × De3 × DeB) : Option (Bool) :=
  (laws_eqRegionS.f k a0.1 a1.1).bind fun t1 => (if ¬ t1 = true then (some false) else ((laws_eqWindowS.f k a0.2.1 a1.2.1).bind fun t2 => (if ¬ t2 = true then (some false) else ((laws_eqPortS.f k a0.2.2.1 a1.2.2.1).bind fun t3 => (if ¬ t3 = true then (some false) else ((laws_eqRuleS.f k a0.2.2.2.1 a1.2.2.2.1).bind fun t4 => (if ¬ t4 = true then (some false) else ((laws_eqStringS.f k a0.2.2.2.2 a1.2.2.2.2).bind fun t5 => (if ¬ t5 = true then (some false) else (some true))))))))))
def laws_eqSetup.sig : Sig := ⟨[.val true (.pair (.sl 127 Ty2) (.pair (.sl 181 Ty2) (.pair (.sl 121 Ty5) (.pair (.sl 187 Ty3) (.sl 9 .str))))) [0, 0, 0, 0, 0], .val true (.pair (.sl 127 Ty2) (.pair (.sl 181 Ty2) (.pair (.sl 121 Ty5) (.pair (.sl 187 Ty3) (.sl 9 .str))))) [0, 0, 0, 0, 0]], [.val false .bool []]⟩
def laws_eqSetup.F : FT laws_eqSetup.sig := fun k x => laws_eqSetup.f k x.1 x.2.1
def laws_eqSetup.ann : AT laws_eqSetup.sig := fun k => .nil
def laws_eqSetup.ent : Ent := ⟨35, laws_eqSetup.sig, laws_eqSetup.F⟩
def laws_eqSetup.ctx (k : Nat) : Ctx := ⟨tds, [laws_eqRegionS.ent, laws_eqWindowS.ent, laws_eqPortS.ent, laws_eqRuleS.ent, laws_eqStringS.ent], k, 35⟩
theorem laws_eqSetup.runs : RunsT laws_eqSetup.sig laws_eqSetup.ctx Tryz.f35 laws_eqSetup.ann laws_eqSetup.F := fun k x => by kernel_rfl
theorem laws_eqSetup.obls : OblT tds laws_eqSetup.sig laws_eqSetup.ctx 10 Tryz.f35 laws_eqSetup.ann := fun k => ⟨tr, ⟨⟨tr, ⟨⟨tr, tr⟩, tr⟩⟩, ⟨⟨tr, ⟨⟨tr, tr⟩, tr⟩⟩, ⟨⟨tr, ⟨⟨tr, tr⟩, tr⟩⟩, ⟨⟨tr, ⟨⟨tr, tr⟩, tr⟩⟩, ⟨⟨tr, ⟨⟨tr, tr⟩, tr⟩⟩, ⟨tr, tr⟩⟩⟩⟩⟩⟩⟩
theorem laws_eqSetup.ok (k : Nat) : EntOk Tryz.prog k laws_eqSetup.ent := fn_ok (C := laws_eqSetup.ctx k) Tryz.func35 (by kernel_rfl) (by kernel_rfl) mixed tdsOk (.cons (laws_eqRegionS.ok k) (.cons (laws_eqWindowS.ok k) (.cons (laws_eqPortS.ok k) (.cons (laws_eqRuleS.ok k) (.cons (laws_eqStringS.ok k) EntsOk.nil))))) (by kernel_rfl) (leB (by kernel_rfl)) (by kernel_rfl) (laws_eqSetup.runs k) (laws_eqSetup.obls k)
/-! loop.example/g00200/laws.eqIntS -/
def laws_eqIntS.l1 (k : Nat)  : Nat → Int × DeI × DeI × Unit → Option (Bool)
  | 0, _ => none
  | n + 1, (x1, x2, x3, _) => if x1 < (x2.length : Int) then (if 0 ≤ x1 then (if x1 < (x2.length : Int) then (if 0 ≤ x1 then (if x1 < (x3.length : Int) then (if ¬ (el TyI x2 x1.toNat) = (el TyI x3 x1.toNat) then (some false) else (laws_eqIntS.l1 k n (w64 (x1 + 1), x2, x3, ()))) else none) else none) else none) else none) else (some true)
def laws_eqIntS.f (k : Nat) (a0 : DeI) (a1 : DeI) : Option (Bool) :=
  if ¬ (a0.length : Int) = (a1.length : Int) then (some false) else (laws_eqIntS.l1 k k (0, a0, a1, ()))
def laws_eqIntS.Sl1 : Shape := ⟨[(0, false, [.own 0]), (1, false, [.own 1]), (5, false, [.int .i64])], [(0, .view false 3 TyI), (1, .view false 3 TyI)], 2⟩
def laws_eqIntS.sig : Sig := ⟨[.val false (.sl 3 TyI) [0], .val false (.sl 3 TyI) [0]], [.val false .bool []]⟩
def laws_eqIntS.F : FT laws_eqIntS.sig := fun k x => laws_eqIntS.f k x.1 x.2.1
def laws_eqIntS.ann : AT laws_eqIntS.sig := fun k => (.seq .nil (.seq .nil (.seq (.seq .nil (.block (.loop laws_eqIntS.Sl1 (laws_eqIntS.l1 k) fun n1 => .nil))) .nil)))
def laws_eqIntS.ent : Ent := ⟨10, laws_eqIntS.sig, laws_eqIntS.F⟩
def laws_eqIntS.ctx (k : Nat) : Ctx := ⟨tds, [], k, 26⟩
theorem laws_eqIntS.runs : RunsT laws_eqIntS.sig laws_eqIntS.ctx Tryz.f10 laws_eqIntS.ann laws_eqIntS.F := fun k x => by kernel_rfl
theorem laws_eqIntS.obls : OblT tds laws_eqIntS.sig laws_eqIntS.ctx 2 Tryz.f10 laws_eqIntS.ann := fun k => ⟨tr, ⟨⟨tr, ⟨⟨tr, tr⟩, tr⟩⟩, ⟨⟨tr, ⟨⟨by kernel_rfl, fun x => by kernel_rfl⟩, fun n => ⟨fun x => by kernel_rfl, ⟨⟨tr, ⟨tr, tr⟩⟩, ⟨⟨tr, ⟨⟨tr, tr⟩, tr⟩⟩, tr⟩⟩⟩⟩⟩, ⟨tr, tr⟩⟩⟩⟩
theorem laws_eqIntS.ok (k : Nat) : EntOk Tryz.prog k laws_eqIntS.ent := fn_ok (C := laws_eqIntS.ctx k) Tryz.func10 (by kernel_rfl) (by kernel_rfl) mixed tdsOk EntsOk.nil (by kernel_rfl) (leB (by kernel_rfl)) (by kernel_rfl) (laws_eqIntS.runs k) (laws_eqIntS.obls k)
/-! loop.example/g00200/laws.eqArena -/
def laws_eqArena.f (k : Nat) (a0 : DeI) (a1 : DeI) : Option (Bool) :=
  (laws_eqIntS.f k a0 a1).bind fun t1 => (if ¬ t1 = true then (some false) else (some true))
def laws_eqArena.sig : Sig := ⟨[.val true (.sl 3 TyI) [0], .val true (.sl 3 TyI) [0]], [.val false .bool []]⟩
def laws_eqArena.F : FT laws_eqArena.sig := fun k x => laws_eqArena.f k x.1 x.2.1
def laws_eqArena.ann : AT laws_eqArena.sig := fun k => .nil
def laws_eqArena.ent : Ent := ⟨36, laws_eqArena.sig, laws_eqArena.F⟩
def laws_eqArena.ctx (k : Nat) : Ctx := ⟨tds, [laws_eqIntS.ent], k, 11⟩
theorem laws_eqArena.runs : RunsT laws_eqArena.sig laws_eqArena.ctx Tryz.f36 laws_eqArena.ann laws_eqArena.F := fun k x => by kernel_rfl
theorem laws_eqArena.obls : OblT tds laws_eqArena.sig laws_eqArena.ctx 2 Tryz.f36 laws_eqArena.ann := fun k => ⟨tr, ⟨⟨tr, ⟨⟨tr, tr⟩, tr⟩⟩, ⟨tr, tr⟩⟩⟩
theorem laws_eqArena.ok (k : Nat) : EntOk Tryz.prog k laws_eqArena.ent := fn_ok (C := laws_eqArena.ctx k) Tryz.func36 (by kernel_rfl) (by kernel_rfl) mixed tdsOk (.cons (laws_eqIntS.ok k) EntsOk.nil) (by kernel_rfl) (leB (by kernel_rfl)) (by kernel_rfl) (laws_eqArena.runs k) (laws_eqArena.obls k)
/-! loop.example/g00200/laws.eqCpu -/
def laws_eqCpu.f (k : Nat) (a0 : Int × DeI) (a1 : Int × DeI) : Option (Bool) :=
  if ¬ a0.1 = a1.1 then (some false) else ((laws_eqIntS.f k a0.2 a1.2).bind fun t1 => (if ¬ t1 = true then (some false) else (some true)))
def laws_eqCpu.sig : Sig := ⟨[.val true (.pair TyI (.sl 3 TyI)) [0], .val true (.pair TyI (.sl 3 TyI)) [0]], [.val false .bool []]⟩
def laws_eqCpu.F : FT laws_eqCpu.sig := fun k x => laws_eqCpu.f k x.1 x.2.1
def laws_eqCpu.ann : AT laws_eqCpu.sig := fun k => .nil
def laws_eqCpu.ent : Ent := ⟨154, laws_eqCpu.sig, laws_eqCpu.F⟩
def laws_eqCpu.ctx (k : Nat) : Ctx := ⟨tds, [laws_eqIntS.ent], k, 16⟩
theorem laws_eqCpu.runs : RunsT laws_eqCpu.sig laws_eqCpu.ctx Tryz.f154 laws_eqCpu.ann laws_eqCpu.F := fun k x => by kernel_rfl
theorem laws_eqCpu.obls : OblT tds laws_eqCpu.sig laws_eqCpu.ctx 2 Tryz.f154 laws_eqCpu.ann := fun k => ⟨tr, ⟨⟨tr, ⟨⟨tr, tr⟩, tr⟩⟩, ⟨⟨tr, ⟨⟨tr, tr⟩, tr⟩⟩, ⟨tr, tr⟩⟩⟩⟩
theorem laws_eqCpu.ok (k : Nat) : EntOk Tryz.prog k laws_eqCpu.ent := fn_ok (C := laws_eqCpu.ctx k) Tryz.func154 (by kernel_rfl) (by kernel_rfl) mixed tdsOk (.cons (laws_eqIntS.ok k) EntsOk.nil) (by kernel_rfl) (leB (by kernel_rfl)) (by kernel_rfl) (laws_eqCpu.runs k) (laws_eqCpu.obls k)
/-! loop.example/g00200/laws.eqPart -/
def laws_eqPart.f (k : Nat) (a0 : Int × (Int × DeI) × Int × Int × Int) (a1 : Int × (Int × DeI) × Int × Int × Int) : Option (Bool) :=
  if ¬ a0.1 = a1.1 then (some false) else ((laws_eqCpu.f k a0.2.1 a1.2.1).bind fun t1 => (if ¬ t1 = true then (some false) else (if ¬ a0.2.2.1 = a1.2.2.1 then (some false) else (if ¬ a0.2.2.2.1 = a1.2.2.2.1 then (some false) else (if ¬ a0.2.2.2.2 = a1.2.2.2.2 then (some false) else (some true))))))
def laws_eqPart.sig : Sig := ⟨[.val true TyP [0], .val true TyP [0]], [.val false .bool []]⟩
def laws_eqPart.F : FT laws_eqPart.sig := fun k x => laws_eqPart.f k x.1 x.2.1
def laws_eqPart.ann : AT laws_eqPart.sig := fun k => .nil
def laws_eqPart.ent : Ent := ⟨95, laws_eqPart.sig, laws_eqPart.F⟩
def laws_eqPart.ctx (k : Nat) : Ctx := ⟨tds, [laws_eqCpu.ent], k, 31⟩
theorem laws_eqPart.runs : RunsT laws_eqPart.sig laws_eqPart.ctx Tryz.f95 laws_eqPart.ann laws_eqPart.F := fun k x => by kernel_rfl
theorem laws_eqPart.obls : OblT tds laws_eqPart.sig laws_eqPart.ctx 2 Tryz.f95 laws_eqPart.ann := fun k => ⟨tr, ⟨⟨tr, ⟨⟨tr, tr⟩, tr⟩⟩, ⟨⟨tr, ⟨⟨tr, tr⟩, tr⟩⟩, ⟨⟨tr, ⟨⟨tr, tr⟩, tr⟩⟩, ⟨⟨tr, ⟨⟨tr, tr⟩, tr⟩⟩, ⟨⟨tr, ⟨⟨tr, tr⟩, tr⟩⟩, ⟨tr, tr⟩⟩⟩⟩⟩⟩⟩
theorem laws_eqPart.ok (k : Nat) : EntOk Tryz.prog k laws_eqPart.ent := fn_ok (C := laws_eqPart.ctx k) Tryz.func95 (by kernel_rfl) (by kernel_rfl) mixed tdsOk (.cons (laws_eqCpu.ok k) EntsOk.nil) (by kernel_rfl) (leB (by kernel_rfl)) (by kernel_rfl) (laws_eqPart.runs k) (laws_eqPart.obls k)
/-! loop.example/g00200/laws.eqPartS -/
def laws_eqPartS.l1 (k : Nat)  : Nat → Int × DeP × DeP × Unit → Option (Bool)
  | 0, _ => none
  | n + 1, (x1, x2, x3, _) => if x1 < (x2.length : Int) then (if 0 ≤ x1 then (if x1 < (x2.length : Int) then (if 0 ≤ x1 then (if x1 < (x3.length : Int) then ((laws_eqPart.f k ((el TyP x2 x1.toNat).1, ((((el TyP x2 x1.toNat).2).1), ((((el TyP x2 x1.toNat).2).2).1, ((((el TyP x2 x1.toNat).2).2).2)))) ((el TyP x3 x1.toNat).1, ((((el TyP x3 x1.toNat).2).1), ((((el TyP x3 x1.toNat).2).2).1, ((((el TyP x3 x1.toNat).2).2).2))))).bind fun t1 => (if ¬ t1 = true then (some false) else (laws_eqPartS.l1 k n (w64 (x1 + 1), x2, x3, ())))) else none) else none) else none) else none) else (some true)
def laws_eqPartS.f (k : Nat) (a0 : DeP) (a1 : DeP) : Option (Bool) :=
  if ¬ (a0.length : Int) = (a1.length : Int) then (some false) else (laws_eqPartS.l1 k k (0, a0, a1, ()))
def laws_eqPartS.Sl1 : Shape := ⟨[(0, false, [.own 0]), (1, false, [.own 1]), (5, false, [.int .i64])], [(0, .view false 73 TyP), (1, .view false 73 TyP)], 2⟩
def laws_eqPartS.sig : Sig := ⟨[.val false (.sl 73 TyP) [0], .val false (.sl 73 TyP) [0]], [.val false .bool []]⟩
def laws_eqPartS.F : FT laws_eqPartS.sig := fun k x => laws_eqPartS.f k x.1 x.2.1
def laws_eqPartS.ann : AT laws_eqPartS.sig := fun k => (.seq .nil (.seq .nil (.seq (.seq .nil (.block (.loop laws_eqPartS.Sl1 (laws_eqPartS.l1 k) fun n1 => .nil))) .nil)))
def laws_eqPartS.ent : Ent := ⟨37, laws_eqPartS.sig, laws_eqPartS.F⟩
def laws_eqPartS.ctx (k : Nat) : Ctx := ⟨tds, [laws_eqPart.ent], k, 27⟩
theorem laws_eqPartS.runs : RunsT laws_eqPartS.sig laws_eqPartS.ctx Tryz.f37 laws_eqPartS.ann laws_eqPartS.F := fun k x => by kernel_rfl
theorem laws_eqPartS.obls : OblT tds laws_eqPartS.sig laws_eqPartS.ctx 2 Tryz.f37 laws_eqPartS.ann := fun k => ⟨tr, ⟨⟨tr, ⟨⟨tr, tr⟩, tr⟩⟩, ⟨⟨tr, ⟨⟨by kernel_rfl, fun x => by kernel_rfl⟩, fun n => ⟨fun x => by kernel_rfl, ⟨⟨tr, ⟨tr, tr⟩⟩, ⟨⟨tr, ⟨⟨tr, tr⟩, tr⟩⟩, tr⟩⟩⟩⟩⟩, ⟨tr, tr⟩⟩⟩⟩
theorem laws_eqPartS.ok (k : Nat) : EntOk Tryz.prog k laws_eqPartS.ent := fn_ok (C := laws_eqPartS.ctx k) Tryz.func37 (by kernel_rfl) (by kernel_rfl) mixed tdsOk (.cons (laws_eqPart.ok k) EntsOk.nil) (by kernel_rfl) (leB (by kernel_rfl)) (by kernel_rfl) (laws_eqPartS.runs k) (laws_eqPartS.obls k)
/-! loop.example/g00200/laws.eqMsg -/
def laws_eqMsg.f (k : Nat) (a0 : Int × Int) (a1 : Int × Int) : Option (Bool) :=
  if ¬ a0.1 = a1.1 then (some false) else (if ¬ a0.2 = a1.2 then (some false) else (some true))
def laws_eqMsg.sig : Sig := ⟨[.val true Ty2 [], .val true Ty2 []], [.val false .bool []]⟩
def laws_eqMsg.F : FT laws_eqMsg.sig := fun k x => laws_eqMsg.f k x.1 x.2.1
def laws_eqMsg.ann : AT laws_eqMsg.sig := fun k => .nil
def laws_eqMsg.ent : Ent := ⟨166, laws_eqMsg.sig, laws_eqMsg.F⟩
def laws_eqMsg.ctx (k : Nat) : Ctx := ⟨tds, [], k, 15⟩
theorem laws_eqMsg.runs : RunsT laws_eqMsg.sig laws_eqMsg.ctx Tryz.f166 laws_eqMsg.ann laws_eqMsg.F := fun k x => by kernel_rfl
theorem laws_eqMsg.obls : OblT tds laws_eqMsg.sig laws_eqMsg.ctx 0 Tryz.f166 laws_eqMsg.ann := fun k => ⟨tr, ⟨⟨tr, ⟨⟨tr, tr⟩, tr⟩⟩, ⟨⟨tr, ⟨⟨tr, tr⟩, tr⟩⟩, ⟨tr, tr⟩⟩⟩⟩
theorem laws_eqMsg.ok (k : Nat) : EntOk Tryz.prog k laws_eqMsg.ent := fn_ok (C := laws_eqMsg.ctx k) Tryz.func166 (by kernel_rfl) (by kernel_rfl) mixed tdsOk EntsOk.nil (by kernel_rfl) (leB (by kernel_rfl)) (by kernel_rfl) (laws_eqMsg.runs k) (laws_eqMsg.obls k)
/-! loop.example/g00200/laws.eqMsgS -/
def laws_eqMsgS.l1 (k : Nat)  : Nat → Int × De2 × De2 × Unit → Option (Bool)
  | 0, _ => none
  | n + 1, (x1, x2, x3, _) => if x1 < (x2.length : Int) then (if 0 ≤ x1 then (if x1 < (x2.length : Int) then (if 0 ≤ x1 then (if x1 < (x3.length : Int) then ((laws_eqMsg.f k (el Ty2 x2 x1.toNat) (el Ty2 x3 x1.toNat)).bind fun t1 => (if ¬ t1 = true then (some false) else (laws_eqMsgS.l1 k n (w64 (x1 + 1), x2, x3, ())))) else none) else none) else none) else none) else (some true)
def laws_eqMsgS.f (k : Nat) (a0 : De2) (a1 : De2) : Option (Bool) :=
  if ¬ (a0.length : Int) = (a1.length : Int) then (some false) else (laws_eqMsgS.l1 k k (0, a0, a1, ()))
def laws_eqMsgS.Sl1 : Shape := ⟨[(0, false, [.own 0]), (1, false, [.own 1]), (5, false, [.int .i64])], [(0, .view false 210 Ty2), (1, .view false 210 Ty2)], 2⟩
def laws_eqMsgS.sig : Sig := ⟨[.val false (.sl 210 Ty2) [0], .val false (.sl 210 Ty2) [0]], [.val false .bool []]⟩
def laws_eqMsgS.F : FT laws_eqMsgS.sig := fun k x => laws_eqMsgS.f k x.1 x.2.1
def laws_eqMsgS.ann : AT laws_eqMsgS.sig := fun k => (.seq .nil (.seq .nil (.seq (.seq .nil (.block (.loop laws_eqMsgS.Sl1 (laws_eqMsgS.l1 k) fun n1 => .nil))) .nil)))
def laws_eqMsgS.ent : Ent := ⟨155, laws_eqMsgS.sig, laws_eqMsgS.F⟩
def laws_eqMsgS.ctx (k : Nat) : Ctx := ⟨tds, [laws_eqMsg.ent], k, 27⟩
theorem laws_eqMsgS.runs : RunsT laws_eqMsgS.sig laws_eqMsgS.ctx Tryz.f155 laws_eqMsgS.ann laws_eqMsgS.F := fun k x => by kernel_rfl
theorem laws_eqMsgS.obls : OblT tds laws_eqMsgS.sig laws_eqMsgS.ctx 2 Tryz.f155 laws_eqMsgS.ann := fun k => ⟨tr, ⟨⟨tr, ⟨⟨tr, tr⟩, tr⟩⟩, ⟨⟨tr, ⟨⟨by kernel_rfl, fun x => by kernel_rfl⟩, fun n => ⟨fun x => by kernel_rfl, ⟨⟨tr, ⟨tr, tr⟩⟩, ⟨⟨tr, ⟨⟨tr, tr⟩, tr⟩⟩, tr⟩⟩⟩⟩⟩, ⟨tr, tr⟩⟩⟩⟩
theorem laws_eqMsgS.ok (k : Nat) : EntOk Tryz.prog k laws_eqMsgS.ent := fn_ok (C := laws_eqMsgS.ctx k) Tryz.func155 (by kernel_rfl) (by kernel_rfl) mixed tdsOk (.cons (laws_eqMsg.ok k) EntsOk.nil) (by kernel_rfl) (leB (by kernel_rfl)) (by kernel_rfl) (laws_eqMsgS.runs k) (laws_eqMsgS.obls k)
/-! loop.example/g00200/laws.eqLine -/
def laws_eqLine.f (k : Nat) (a0 : De2) (a1 : De2) : Option (Bool) :=
  (laws_eqMsgS.f k a0 a1).bind fun t1 => (if ¬ t1 = true then (some false) else (some true))
def laws_eqLine.sig : Sig := ⟨[.val true (.sl 210 Ty2) [0], .val true (.sl 210 Ty2) [0]], [.val false .bool []]⟩
def laws_eqLine.F : FT laws_eqLine.sig := fun k x => laws_eqLine.f k x.1 x.2.1
def laws_eqLine.ann : AT laws_eqLine.sig := fun k => .nil
def laws_eqLine.ent : Ent := ⟨96, laws_eqLine.sig, laws_eqLine.F⟩
def laws_eqLine.ctx (k : Nat) : Ctx := ⟨tds, [laws_eqMsgS.ent], k, 11⟩
theorem laws_eqLine.runs : RunsT laws_eqLine.sig laws_eqLine.ctx Tryz.f96 laws_eqLine.ann laws_eqLine.F := fun k x => by kernel_rfl
theorem laws_eqLine.obls : OblT tds laws_eqLine.sig laws_eqLine.ctx 2 Tryz.f96 laws_eqLine.ann := fun k => ⟨tr, ⟨⟨tr, ⟨⟨tr, tr⟩, tr⟩⟩, ⟨tr, tr⟩⟩⟩
theorem laws_eqLine.ok (k : Nat) : EntOk Tryz.prog k laws_eqLine.ent := fn_ok (C := laws_eqLine.ctx k) Tryz.func96 (by kernel_rfl) (by kernel_rfl) mixed tdsOk (.cons (laws_eqMsgS.ok k) EntsOk.nil) (by kernel_rfl) (leB (by kernel_rfl)) (by kernel_rfl) (laws_eqLine.runs k) (laws_eqLine.obls k)
/-! loop.example/g00200/laws.eqLineS -/
def laws_eqLineS.l1 (k : Nat)  : Nat → Int × DeL × DeL × Unit → Option (Bool)
  | 0, _ => none
  | n + 1, (x1, x2, x3, _) => if x1 < (x2.length : Int) then (if 0 ≤ x1 then (if x1 < (x2.length : Int) then (if 0 ≤ x1 then (if x1 < (x3.length : Int) then ((laws_eqLine.f k (el (.sl 210 Ty2) x2 x1.toNat) (el (.sl 210 Ty2) x3 x1.toNat)).bind fun t1 => (if ¬ t1 = true then (some false) else (laws_eqLineS.l1 k n (w64 (x1 + 1), x2, x3, ())))) else none) else none) else none) else none) else (some true)
def laws_eqLineS.f (k : Nat) (a0 : DeL) (a1 : DeL) : Option (Bool) :=
  if ¬ (a0.length : Int) = (a1.length : Int) then (some false) else (laws_eqLineS.l1 k k (0, a0, a1, ()))
def laws_eqLineS.Sl1 : Shape := ⟨[(0, false, [.own 0]), (1, false, [.own 1]), (5, false, [.int .i64])], [(0, .view false 115 (.sl 210 Ty2)), (1, .view false 115 (.sl 210 Ty2))], 2⟩
def laws_eqLineS.sig : Sig := ⟨[.val false (.sl 115 (.sl 210 Ty2)) [0], .val false (.sl 115 (.sl 210 Ty2)) [0]], [.val false .bool []]⟩
def laws_eqLineS.F : FT laws_eqLineS.sig := fun k x => laws_eqLineS.f k x.1 x.2.1
def laws_eqLineS.ann : AT laws_eqLineS.sig := fun k => (.seq .nil (.seq .nil (.seq (.seq .nil (.block (.loop laws_eqLineS.Sl1 (laws_eqLineS.l1 k) fun n1 => .nil))) .nil)))
def laws_eqLineS.ent : Ent := ⟨38, laws_eqLineS.sig, laws_eqLineS.F⟩
def laws_eqLineS.ctx (k : Nat) : Ctx := ⟨tds, [laws_eqLine.ent], k, 27⟩
theorem laws_eqLineS.runs : RunsT laws_eqLineS.sig laws_eqLineS.ctx Tryz.f38 laws_eqLineS.ann laws_eqLineS.F := fun k x => by kernel_rfl
theorem laws_eqLineS.obls : OblT tds laws_eqLineS.sig laws_eqLineS.ctx 2 Tryz.f38 laws_eqLineS.ann := fun k => ⟨tr, ⟨⟨tr, ⟨⟨tr, tr⟩, tr⟩⟩, ⟨⟨tr, ⟨⟨by kernel_rfl, fun x => by kernel_rfl⟩, fun n => ⟨fun x => by kernel_rfl, ⟨⟨tr, ⟨tr, tr⟩⟩, ⟨⟨tr, ⟨⟨tr, tr⟩, tr⟩⟩, tr⟩⟩⟩⟩⟩, ⟨tr, tr⟩⟩⟩⟩
theorem laws_eqLineS.ok (k : Nat) : EntOk Tryz.prog k laws_eqLineS.ent := fn_ok (C := laws_eqLineS.ctx k) Tryz.func38 (by kernel_rfl) (by kernel_rfl) mixed tdsOk (.cons (laws_eqLine.ok k) EntsOk.nil) (by kernel_rfl) (leB (by kernel_rfl)) (by kernel_rfl) (laws_eqLineS.runs k) (laws_eqLineS.obls k)
/-! loop.example/g00200/laws.eqEntry -/
def laws_eqEntry.f (k : Nat) (a0 : Int × Int × Int × Int × Int) (a1 : Int × Int × Int × Int × Int) : Option (Bool) :=
  if ¬ a0.1 = a1.1 then (some false) else (if ¬ a0.2.1 = a1.2.1 then (some false) else (if ¬ a0.2.2.1 = a1.2.2.1 then (some false) else (if ¬ a0.2.2.2.1 = a1.2.2.2.1 then (some false) else (if ¬ a0.2.2.2.2 = a1.2.2.2.2 then (some false) else (some true)))))
def laws_eqEntry.sig : Sig := ⟨[.val true Ty5 [], .val true Ty5 []], [.val false .bool []]⟩
def laws_eqEntry.F : FT laws_eqEntry.sig := fun k x => laws_eqEntry.f k x.1 x.2.1
def laws_eqEntry.ann : AT laws_eqEntry.sig := fun k => .nil
def laws_eqEntry.ent : Ent := ⟨97, laws_eqEntry.sig, laws_eqEntry.F⟩
def laws_eqEntry.ctx (k : Nat) : Ctx := ⟨tds, [], k, 30⟩
theorem laws_eqEntry.runs : RunsT laws_eqEntry.sig laws_eqEntry.ctx Tryz.f97 laws_eqEntry.ann laws_eqEntry.F := fun k x => by kernel_rfl
theorem laws_eqEntry.obls : OblT tds laws_eqEntry.sig laws_eqEntry.ctx 0 Tryz.f97 laws_eqEntry.ann := fun k => ⟨tr, ⟨⟨tr, ⟨⟨tr, tr⟩, tr⟩⟩, ⟨⟨tr, ⟨⟨tr, tr⟩, tr⟩⟩, ⟨⟨tr, ⟨⟨tr, tr⟩, tr⟩⟩, ⟨⟨tr, ⟨⟨tr, tr⟩, tr⟩⟩, ⟨⟨tr, ⟨⟨tr, tr⟩, tr⟩⟩, ⟨tr, tr⟩⟩⟩⟩⟩⟩⟩
theorem laws_eqEntry.ok (k : Nat) : EntOk Tryz.prog k laws_eqEntry.ent := fn_ok (C := laws_eqEntry.ctx k) Tryz.func97 (by kernel_rfl) (by kernel_rfl) mixed tdsOk EntsOk.nil (by kernel_rfl) (leB (by kernel_rfl)) (by kernel_rfl) (laws_eqEntry.runs k) (laws_eqEntry.obls k)
/-! loop.example/g00200/laws.eqEntryS -/
def laws_eqEntryS.l1 (k : Nat)  : Nat → Int × De5 × De5 × Unit → Option (Bool)
  | 0, _ => none
  | n + 1, (x1, x2, x3, _) => if x1 < (x2.length : Int) then (if 0 ≤ x1 then (if x1 < (x2.length : Int) then (if 0 ≤ x1 then (if x1 < (x3.length : Int) then ((laws_eqEntry.f k ((el Ty5 x2 x1.toNat).1, (((el Ty5 x2 x1.toNat).2).1, ((((el Ty5 x2 x1.toNat).2).2).1, ((((el Ty5 x2 x1.toNat).2).2).2)))) ((el Ty5 x3 x1.toNat).1, (((el Ty5 x3 x1.toNat).2).1, ((((el Ty5 x3 x1.toNat).2).2).1, ((((el Ty5 x3 x1.toNat).2).2).2))))).bind fun t1 => (if ¬ t1 = true then (some false) else (laws_eqEntryS.l1 k n (w64 (x1 + 1), x2, x3, ())))) else none) else none) else none) else none) else (some true)
def laws_eqEntryS.f (k : Nat) (a0 : De5) (a1 : De5) : Option (Bool) :=
  if ¬ (a0.length : Int) = (a1.length : Int) then (some false) else (laws_eqEntryS.l1 k k (0, a0, a1, ()))
def laws_eqEntryS.Sl1 : Shape := ⟨[(0, false, [.own 0]), (1, false, [.own 1]), (5, false, [.int .i64])], [(0, .view false 140 Ty5), (1, .view false 140 Ty5)], 2⟩
def laws_eqEntryS.sig : Sig := ⟨[.val false (.sl 140 Ty5) [0], .val false (.sl 140 Ty5) [0]], [.val false .bool []]⟩
def laws_eqEntryS.F : FT laws_eqEntryS.sig := fun k x => laws_eqEntryS.f k x.1 x.2.1
def laws_eqEntryS.ann : AT laws_eqEntryS.sig := fun k => (.seq .nil (.seq .nil (.seq (.seq .nil (.block (.loop laws_eqEntryS.Sl1 (laws_eqEntryS.l1 k) fun n1 => .nil))) .nil)))
def laws_eqEntryS.ent : Ent := ⟨39, laws_eqEntryS.sig, laws_eqEntryS.F⟩
def laws_eqEntryS.ctx (k : Nat) : Ctx := ⟨tds, [laws_eqEntry.ent], k, 27⟩
theorem laws_eqEntryS.runs : RunsT laws_eqEntryS.sig laws_eqEntryS.ctx Tryz.f39 laws_eqEntryS.ann laws_eqEntryS.F := fun k x => by kernel_rfl
theorem laws_eqEntryS.obls : OblT tds laws_eqEntryS.sig laws_eqEntryS.ctx 2 Tryz.f39 laws_eqEntryS.ann := fun k => ⟨tr, ⟨⟨tr, ⟨⟨tr, tr⟩, tr⟩⟩, ⟨⟨tr, ⟨⟨by kernel_rfl, fun x => by kernel_rfl⟩, fun n => ⟨fun x => by kernel_rfl, ⟨⟨tr, ⟨tr, tr⟩⟩, ⟨⟨tr, ⟨⟨tr, tr⟩, tr⟩⟩, tr⟩⟩⟩⟩⟩, ⟨tr, tr⟩⟩⟩⟩
theorem laws_eqEntryS.ok (k : Nat) : EntOk Tryz.prog k laws_eqEntryS.ent := fn_ok (C := laws_eqEntryS.ctx k) Tryz.func39 (by kernel_rfl) (by kernel_rfl) mixed tdsOk (.cons (laws_eqEntry.ok k) EntsOk.nil) (by kernel_rfl) (leB (by kernel_rfl)) (by kernel_rfl) (laws_eqEntryS.runs k) (laws_eqEntryS.obls k)
/-! loop.example/g00200/laws.eqKernel -/
def laws_eqKernel.f (k : Nat) (a0 : DeK) (a1 : DeK) : Option (Bool) :=
  (laws_eqSetup.f k a0.1 a1.1).bind fun t1 => (if ¬ t1 = true then (some false) else ((laws_eqArena.f k a0.2.1 a1.2.1).bind fun t2 => (if ¬ t2 = true then (some false) else ((laws_eqPartS.f k a0.2.2.1 a1.2.2.1).bind fun t3 => (if ¬ t3 = true then (some false) else ((laws_eqLineS.f k a0.2.2.2.1 a1.2.2.2.1).bind fun t4 => (if ¬ t4 = true then (some false) else ((laws_eqIntS.f k a0.2.2.2.2.1 a1.2.2.2.2.1).bind fun t5 => (if ¬ t5 = true then (some false) else (if ¬ a0.2.2.2.2.2.1 = a1.2.2.2.2.2.1 then (some false) else (if ¬ a0.2.2.2.2.2.2.1 = a1.2.2.2.2.2.2.1 then (some false) else ((laws_eqEntryS.f k a0.2.2.2.2.2.2.2 a1.2.2.2.2.2.2.2).bind fun t6 => (if ¬ t6 = true then (some false) else (some true))))))))))))))
def laws_eqKernel.sig : Sig := ⟨[.val true (.pair (.pair (.sl 127 Ty2) (.pair (.sl 181 Ty2) (.pair (.sl 121 Ty5) (.pair (.sl 187 Ty3) (.sl 9 .str))))) (.pair (.sl 3 TyI) (.pair (.sl 73 TyP) (.pair (.sl 115 (.sl 210 Ty2)) (.pair (.sl 3 TyI) (.pair TyI (.pair .bool (.sl 140 Ty5)))))))) [0, 0, 0, 0, 0, 0, 0, 0, 0, 0], .val true (.pair (.pair (.sl 127 Ty2) (.pair (.sl 181 Ty2) (.pair (.sl 121 Ty5) (.pair (.sl 187 Ty3) (.sl 9 .str))))) (.pair (.sl 3 TyI) (.pair (.sl 73 TyP) (.pair (.sl 115 (.sl 210 Ty2)) (.pair (.sl 3 TyI) (.pair TyI (.pair .bool (.sl 140 Ty5)))))))) [0, 0, 0, 0, 0, 0, 0, 0, 0, 0]], [.val false .bool []]⟩
def laws_eqKernel.F : FT laws_eqKernel.sig := fun k x => laws_eqKernel.f k x.1 x.2.1
def laws_eqKernel.ann : AT laws_eqKernel.sig := fun k => .nil
def laws_eqKernel.ent : Ent := ⟨9, laws_eqKernel.sig, laws_eqKernel.F⟩
def laws_eqKernel.ctx (k : Nat) : Ctx := ⟨tds, [laws_eqIntS.ent, laws_eqSetup.ent, laws_eqArena.ent, laws_eqPartS.ent, laws_eqLineS.ent, laws_eqEntryS.ent], k, 51⟩
theorem laws_eqKernel.runs : RunsT laws_eqKernel.sig laws_eqKernel.ctx Tryz.f9 laws_eqKernel.ann laws_eqKernel.F := fun k x => by kernel_rfl
theorem laws_eqKernel.obls : OblT tds laws_eqKernel.sig laws_eqKernel.ctx 20 Tryz.f9 laws_eqKernel.ann := fun k => ⟨tr, ⟨⟨tr, ⟨⟨tr, tr⟩, tr⟩⟩, ⟨⟨tr, ⟨⟨tr, tr⟩, tr⟩⟩, ⟨⟨tr, ⟨⟨tr, tr⟩, tr⟩⟩, ⟨⟨tr, ⟨⟨tr, tr⟩, tr⟩⟩, ⟨⟨tr, ⟨⟨tr, tr⟩, tr⟩⟩, ⟨⟨tr, ⟨⟨tr, tr⟩, tr⟩⟩, ⟨⟨tr, ⟨⟨tr, tr⟩, tr⟩⟩, ⟨⟨tr, ⟨⟨tr, tr⟩, tr⟩⟩, ⟨tr, tr⟩⟩⟩⟩⟩⟩⟩⟩⟩⟩
theorem laws_eqKernel.ok (k : Nat) : EntOk Tryz.prog k laws_eqKernel.ent := fn_ok (C := laws_eqKernel.ctx k) Tryz.func9 (by kernel_rfl) (by kernel_rfl) mixed tdsOk (.cons (laws_eqIntS.ok k) (.cons (laws_eqSetup.ok k) (.cons (laws_eqArena.ok k) (.cons (laws_eqPartS.ok k) (.cons (laws_eqLineS.ok k) (.cons (laws_eqEntryS.ok k) EntsOk.nil)))))) (by kernel_rfl) (leB (by kernel_rfl)) (by kernel_rfl) (laws_eqKernel.runs k) (laws_eqKernel.obls k)
/-! loop.example/g00200/laws.markRegionS -/
def laws_markRegionS.l1 (k : Nat)  : Nat → Int × Int × De2 × Unit → Option (Int × De2)
  | 0, _ => none
  | n + 1, (x1, x2, x3, _) => if x2 < (x3.length : Int) then (if 0 ≤ x2 then (if x2 < (x3.length : Int) then (((some (x3.set x2.toNat (x1, (el Ty2 x3 x2.toNat).2)))).bind fun y1 => (if 0 ≤ x2 then (if x2 < (y1.length : Int) then (((some (y1.set x2.toNat ((el Ty2 y1 x2.toNat).1, w64 (x1 + 1))))).bind fun y2 => (laws_markRegionS.l1 k n (w64 ((w64 (x1 + 1)) + 1), w64 (x2 + 1), y2, ()))) else none) else none)) else none) else none) else (some (x1, x3))
def laws_markRegionS.f (k : Nat) (a0 : De2) (a1 : Int) : Option (Int × De2) :=
  laws_markRegionS.l1 k k (a1, 0, a0, ())
def laws_markRegionS.Sl1 : Shape := ⟨[(0, false, [.own 0]), (1, false, [.int .i64]), (5, false, [.int .i64])], [(0, .row 127 Ty2)], 1⟩
def laws_markRegionS.sig : Sig := ⟨[.val false (.sl 127 Ty2) [1], .val false TyI []], [.val false TyI []]⟩
def laws_markRegionS.F : FT laws_markRegionS.sig := fun k x => laws_markRegionS.f k x.1 x.2.1
def laws_markRegionS.ann : AT laws_markRegionS.sig := fun k => (.seq .nil (.seq (.seq .nil (.block (.loop laws_markRegionS.Sl1 (laws_markRegionS.l1 k) fun n1 => .nil))) .nil))
def laws_markRegionS.ent : Ent := ⟨98, laws_markRegionS.sig, laws_markRegionS.F⟩
def laws_markRegionS.ctx (k : Nat) : Ctx := ⟨tds, [], k, 27⟩
theorem laws_markRegionS.runs : RunsT laws_markRegionS.sig laws_markRegionS.ctx Tryz.f98 laws_markRegionS.ann laws_markRegionS.F := fun k x => by kernel_rfl
theorem laws_markRegionS.obls : OblT tds laws_markRegionS.sig laws_markRegionS.ctx 1 Tryz.f98 laws_markRegionS.ann := fun k => ⟨tr, ⟨⟨tr, ⟨⟨by kernel_rfl, fun x => by kernel_rfl⟩, fun n => ⟨fun x => by kernel_rfl, ⟨⟨tr, ⟨tr, tr⟩⟩, ⟨⟨tr, ⟨tr, ⟨tr, tr⟩⟩⟩, tr⟩⟩⟩⟩⟩, ⟨tr, tr⟩⟩⟩
theorem laws_markRegionS.ok (k : Nat) : EntOk Tryz.prog k laws_markRegionS.ent := fn_ok (C := laws_markRegionS.ctx k) Tryz.func98 (by kernel_rfl) (by kernel_rfl) mixed tdsOk EntsOk.nil (by kernel_rfl) (leB (by kernel_rfl)) (by kernel_rfl) (laws_markRegionS.runs k) (laws_markRegionS.obls k)
/-! loop.example/g00200/laws.markWindowS -/
def laws_markWindowS.l1 (k : Nat)  : Nat → Int × Int × De2 × Unit → Option (Int × De2)
  | 0, _ => none
  | n + 1, (x1, x2, x3, _) => if x2 < (x3.length : Int) then (if 0 ≤ x2 then (if x2 < (x3.length : Int) then (((some (x3.set x2.toNat (x1, (el Ty2 x3 x2.toNat).2)))).bind fun y1 => (if 0 ≤ x2 then (if x2 < (y1.length : Int) then (((some (y1.set x2.toNat ((el Ty2 y1 x2.toNat).1, w64 (x1 + 1))))).bind fun y2 => (laws_markWindowS.l1 k n (w64 ((w64 (x1 + 1)) + 1), w64 (x2 + 1), y2, ()))) else none) else none)) else none) else none) else (some (x1, x3))
def laws_markWindowS.f (k : Nat) (a0 : De2) (a1 : Int) : Option (Int × De2) :=
  laws_markWindowS.l1 k k (a1, 0, a0, ())
def laws_markWindowS.Sl1 : Shape := ⟨[(0, false, [.own 0]), (1, false, [.int .i64]), (5, false, [.int .i64])], [(0, .row 181 Ty2)], 1⟩
def laws_markWindowS.sig : Sig := ⟨[.val false (.sl 181 Ty2) [1], .val false TyI []], [.val false TyI []]⟩
def laws_markWindowS.F : FT laws_markWindowS.sig := fun k x => laws_markWindowS.f k x.1 x.2.1
def laws_markWindowS.ann : AT laws_markWindowS.sig := fun k => (.seq .nil (.seq (.seq .nil (.block (.loop laws_markWindowS.Sl1 (laws_markWindowS.l1 k) fun n1 => .nil))) .nil))
def laws_markWindowS.ent : Ent := ⟨99, laws_markWindowS.sig, laws_markWindowS.F⟩
def laws_markWindowS.ctx (k : Nat) : Ctx := ⟨tds, [], k, 27⟩
theorem laws_markWindowS.runs : RunsT laws_markWindowS.sig laws_markWindowS.ctx Tryz.f99 laws_markWindowS.ann laws_markWindowS.F := fun k x => by kernel_rfl
theorem laws_markWindowS.obls : OblT tds laws_markWindowS.sig laws_markWindowS.ctx 1 Tryz.f99 laws_markWindowS.ann := fun k => ⟨tr, ⟨⟨tr, ⟨⟨by kernel_rfl, fun x => by kernel_rfl⟩, fun n => ⟨fun x => by kernel_rfl, ⟨⟨tr, ⟨tr, tr⟩⟩, ⟨⟨tr, ⟨tr, ⟨tr, tr⟩⟩⟩, tr⟩⟩⟩⟩⟩, ⟨tr, tr⟩⟩⟩
theorem laws_markWindowS.ok (k : Nat) : EntOk Tryz.prog k laws_markWindowS.ent := fn_ok (C := laws_markWindowS.ctx k) Tryz.func99 (by kernel_rfl) (by kernel_rfl) mixed tdsOk EntsOk.nil (by kernel_rfl) (leB (by kernel_rfl)) (by kernel_rfl) (laws_markWindowS.runs k) (laws_markWindowS.obls k)
/-! loop.example/g00200/laws.markPortS -/
def laws_markPortS.l1 (k : Nat)  : Nat → Int × Int × De5 × Unit → Option (Int × De5)
  | 0, _ => none
  | n + 1, (x1, x2, x3, _) => if x2 < (x3.length : Int) then (if 0 ≤ x2 then (if x2 < (x3.length : Int) then (((some (x3.set x2.toNat (x1, (el Ty5 x3 x2.toNat).2)))).bind fun y1 => (if 0 ≤ x2 then (if x2 < (y1.length : Int) then (((some (y1.set x2.toNat ((el Ty5 y1 x2.toNat).1, (w64 (x1 + 1), ((el Ty5 y1 x2.toNat).2).2))))).bind fun y2 => (if 0 ≤ x2 then (if x2 < (y2.length : Int) then (((some (y2.set x2.toNat ((el Ty5 y2 x2.toNat).1, (((el Ty5 y2 x2.toNat).2).1, (w64 ((w64 (x1 + 1)) + 1), (((el Ty5 y2 x2.toNat).2).2).2)))))).bind fun y3 => (if 0 ≤ x2 then (if x2 < (y3.length : Int) then (((some (y3.set x2.toNat ((el Ty5 y3 x2.toNat).1, (((el Ty5 y3 x2.toNat).2).1, ((((el Ty5 y3 x2.toNat).2).2).1, (w64 ((w64 ((w64 (x1 + 1)) + 1)) + 1), ((((el Ty5 y3 x2.toNat).2).2).2).2))))))).bind fun y4 => (if 0 ≤ x2 then (if x2 < (y4.length : Int) then (((some (y4.set x2.toNat ((el Ty5 y4 x2.toNat).1, (((el Ty5 y4 x2.toNat).2).1, ((((el Ty5 y4 x2.toNat).2).2).1, (((((el Ty5 y4 x2.toNat).2).2).2).1, w64 ((w64 ((w64 ((w64 (x1 + 1)) + 1)) + 1)) + 1)))))))).bind fun y5 => (laws_markPortS.l1 k n (w64 ((w64 ((w64 ((w64 ((w64 (x1 + 1)) + 1)) + 1)) + 1)) + 1), w64 (x2 + 1), y5, ()))) else none) else none)) else none) else none)) else none) else none)) else none) else none)) else none) else none) else (some (x1, x3))
def laws_markPortS.f (k : Nat) (a0 : De5) (a1 : Int) : Option (Int × De5) :=
  laws_markPortS.l1 k k (a1, 0, a0, ())
def laws_markPortS.Sl1 : Shape := ⟨[(0, false, [.own 0]), (1, false, [.int .i64]), (5, false, [.int .i64])], [(0, .row 121 Ty5)], 1⟩
def laws_markPortS.sig : Sig := ⟨[.val false (.sl 121 Ty5) [1], .val false TyI []], [.val false TyI []]⟩
def laws_markPortS.F : FT laws_markPortS.sig := fun k x => laws_markPortS.f k x.1 x.2.1
def laws_markPortS.ann : AT laws_markPortS.sig := fun k => (.seq .nil (.seq (.seq .nil (.block (.loop laws_markPortS.Sl1 (laws_markPortS.l1 k) fun n1 => .nil))) .nil))
def laws_markPortS.ent : Ent := ⟨100, laws_markPortS.sig, laws_markPortS.F⟩
def laws_markPortS.ctx (k : Nat) : Ctx := ⟨tds, [], k, 48⟩
theorem laws_markPortS.runs : RunsT laws_markPortS.sig laws_markPortS.ctx Tryz.f100 laws_markPortS.ann laws_markPortS.F := fun k x => by kernel_rfl
theorem laws_markPortS.obls : OblT tds laws_markPortS.sig laws_markPortS.ctx 1 Tryz.f100 laws_markPortS.ann := fun k => ⟨tr, ⟨⟨tr, ⟨⟨by kernel_rfl, fun x => by kernel_rfl⟩, fun n => ⟨fun x => by kernel_rfl, ⟨⟨tr, ⟨tr, tr⟩⟩, ⟨⟨tr, ⟨tr, ⟨tr, ⟨tr, ⟨tr, ⟨tr, ⟨tr, ⟨tr, ⟨tr, tr⟩⟩⟩⟩⟩⟩⟩⟩⟩, tr⟩⟩⟩⟩⟩, ⟨tr, tr⟩⟩⟩
theorem laws_markPortS.ok (k : Nat) : EntOk Tryz.prog k laws_markPortS.ent := fn_ok (C := laws_markPortS.ctx k) Tryz.func100 (by kernel_rfl) (by kernel_rfl) mixed tdsOk EntsOk.nil (by kernel_rfl) (leB (by kernel_rfl)) (by kernel_rfl) (laws_markPortS.runs k) (laws_markPortS.obls k)
/-! loop.example/g00200/laws.markRuleS -/
def laws_markRuleS.l1 (k : Nat)  : Nat → Int × Int × De3 × Unit → Option (Int × De3)
  | 0, _ => none
  | n + 1, (x1, x2, x3, _) => if x2 < (x3.length : Int) then (if 0 ≤ x2 then (if x2 < (x3.length : Int) then (((some (x3.set x2.toNat (x1, (el Ty3 x3 x2.toNat).2)))).bind fun y1 => (if 0 ≤ x2 then (if x2 < (y1.length : Int) then (((some (y1.set x2.toNat ((el Ty3 y1 x2.toNat).1, (w64 (x1 + 1), ((el Ty3 y1 x2.toNat).2).2))))).bind fun y2 => (if 0 ≤ x2 then (if x2 < (y2.length : Int) then (((some (y2.set x2.toNat ((el Ty3 y2 x2.toNat).1, (((el Ty3 y2 x2.toNat).2).1, w64 ((w64 (x1 + 1)) + 1)))))).bind fun y3 => (laws_markRuleS.l1 k n (w64 ((w64 ((w64 (x1 + 1)) + 1)) + 1), w64 (x2 + 1), y3, ()))) else none) else none)) else none) else none)) else none) else none) else (some (x1, x3))
def laws_markRuleS.f (k : Nat) (a0 : De3) (a1 : Int) : Option (Int × De3) :=
  laws_markRuleS.l1 k k (a1, 0, a0, ())
def laws_markRuleS.Sl1 : Shape := ⟨[(0, false, [.own 0]), (1, false, [.int .i64]), (5, false, [.int .i64])], [(0, .row 187 Ty3)], 1⟩
def laws_markRuleS.sig : Sig := ⟨[.val false (.sl 187 Ty3) [1], .val false TyI []], [.val false TyI []]⟩
def laws_markRuleS.F : FT laws_markRuleS.sig := fun k x => laws_markRuleS.f k x.1 x.2.1
def laws_markRuleS.ann : AT laws_markRuleS.sig := fun k => (.seq .nil (.seq (.seq .nil (.block (.loop laws_markRuleS.Sl1 (laws_markRuleS.l1 k) fun n1 => .nil))) .nil))
def laws_markRuleS.ent : Ent := ⟨101, laws_markRuleS.sig, laws_markRuleS.F⟩
def laws_markRuleS.ctx (k : Nat) : Ctx := ⟨tds, [], k, 34⟩
theorem laws_markRuleS.runs : RunsT laws_markRuleS.sig laws_markRuleS.ctx Tryz.f101 laws_markRuleS.ann laws_markRuleS.F := fun k x => by kernel_rfl
theorem laws_markRuleS.obls : OblT tds laws_markRuleS.sig laws_markRuleS.ctx 1 Tryz.f101 laws_markRuleS.ann := fun k => ⟨tr, ⟨⟨tr, ⟨⟨by kernel_rfl, fun x => by kernel_rfl⟩, fun n => ⟨fun x => by kernel_rfl, ⟨⟨tr, ⟨tr, tr⟩⟩, ⟨⟨tr, ⟨tr, ⟨tr, ⟨tr, ⟨tr, tr⟩⟩⟩⟩⟩, tr⟩⟩⟩⟩⟩, ⟨tr, tr⟩⟩⟩
theorem laws_markRuleS.ok (k : Nat) : EntOk Tryz.prog k laws_markRuleS.ent := fn_ok (C := laws_markRuleS.ctx k) Tryz.func101 (by kernel_rfl) (by kernel_rfl) mixed tdsOk EntsOk.nil (by kernel_rfl) (leB (by kernel_rfl)) (by kernel_rfl) (laws_markRuleS.runs k) (laws_markRuleS.obls k)
/-! loop.example/g00200/laws.markText -/
def laws_markText.l1 (k : Nat)  : Nat → Int × ByteArray × Unit → Option (ByteArray)
  | 0, _ => none
  | n + 1, (x1, x2, _) => if 0 < x1 then (((some ([IntKind.u8.wrap (w64 (48 + (Int.tmod x1 10)))] : DeI))).bind fun y1 => (if (chrs y1).size + x2.size ≤ 9223372036854775807 then (laws_markText.l1 k n (w64 (Int.tdiv x1 10), (chrs y1) ++ x2, ())) else none)) else (if (⟨#[109]⟩ : ByteArray).size + x2.size ≤ 9223372036854775807 then (some ((⟨#[109]⟩ : ByteArray) ++ x2)) else none)
def laws_markText.f (k : Nat) (a0 : Int) : Option (ByteArray) :=
  if a0 ≤ 0 then (some (⟨#[109, 48]⟩ : ByteArray)) else (laws_markText.l1 k k (a0, (⟨#[]⟩ : ByteArray), ()))
def laws_markText.Sl1 : Shape := ⟨[(0, false, [.int .i64]), (3, false, [.str])], [], 0⟩
def laws_markText.sig : Sig := ⟨[.val false TyI []], [.val false .str []]⟩
def laws_markText.F : FT laws_markText.sig := fun k x => laws_markText.f k x.1
def laws_markText.ann : AT laws_markText.sig := fun k => (.seq .nil (.seq .nil (.seq .nil (.seq (.block (.loop laws_markText.Sl1 (laws_markText.l1 k) fun n1 => .nil)) .nil))))
def laws_markText.ent : Ent := ⟨156, laws_markText.sig, laws_markText.F⟩
def laws_markText.ctx (k : Nat) : Ctx := ⟨tds, [], k, 20⟩
theorem laws_markText.runs : RunsT laws_markText.sig laws_markText.ctx Tryz.f156 laws_markText.ann laws_markText.F := fun k x => by kernel_rfl
theorem laws_markText.obls : OblT tds laws_markText.sig laws_markText.ctx 0 Tryz.f156 laws_markText.ann := fun k => ⟨tr, ⟨⟨tr, ⟨⟨tr, tr⟩, tr⟩⟩, ⟨tr, ⟨⟨⟨by kernel_rfl, fun x => by kernel_rfl⟩, fun n => ⟨fun x => by kernel_rfl, ⟨⟨tr, ⟨tr, tr⟩⟩, ⟨tr, tr⟩⟩⟩⟩, ⟨tr, tr⟩⟩⟩⟩⟩
theorem laws_markText.ok (k : Nat) : EntOk Tryz.prog k laws_markText.ent := fn_ok (C := laws_markText.ctx k) Tryz.func156 (by kernel_rfl) (by kernel_rfl) mixed tdsOk EntsOk.nil (by kernel_rfl) (leB (by kernel_rfl)) (by kernel_rfl) (laws_markText.runs k) (laws_markText.obls k)
/-! loop.example/g00200/laws.markStringS -/
def laws_markStringS.l1 (k : Nat)  : Nat → Int × Int × DeB × Unit → Option (Int × DeB)
  | 0, _ => none
  | n + 1, (x1, x2, x3, _) => if x2 < (x3.length : Int) then ((laws_markText.f k x1).bind fun t1 => (if 0 ≤ x2 then (if x2 < (x3.length : Int) then (((some (x3.set x2.toNat t1))).bind fun y2 => (laws_markStringS.l1 k n (w64 (x1 + 1), w64 (x2 + 1), y2, ()))) else none) else none)) else (some (x1, x3))
def laws_markStringS.f (k : Nat) (a0 : DeB) (a1 : Int) : Option (Int × DeB) :=
  laws_markStringS.l1 k k (a1, 0, a0, ())
def laws_markStringS.Sl1 : Shape := ⟨[(0, false, [.own 0]), (1, false, [.int .i64]), (5, false, [.int .i64])], [(0, .row 9 .str)], 1⟩
def laws_markStringS.sig : Sig := ⟨[.val false (.sl 9 .str) [1], .val false TyI []], [.val false TyI []]⟩
def laws_markStringS.F : FT laws_markStringS.sig := fun k x => laws_markStringS.f k x.1 x.2.1
def laws_markStringS.ann : AT laws_markStringS.sig := fun k => (.seq .nil (.seq (.seq .nil (.block (.loop laws_markStringS.Sl1 (laws_markStringS.l1 k) fun n1 => .nil))) .nil))
def laws_markStringS.ent : Ent := ⟨102, laws_markStringS.sig, laws_markStringS.F⟩
def laws_markStringS.ctx (k : Nat) : Ctx := ⟨tds, [laws_markText.ent], k, 20⟩
theorem laws_markStringS.runs : RunsT laws_markStringS.sig laws_markStringS.ctx Tryz.f102 laws_markStringS.ann laws_markStringS.F := fun k x => by kernel_rfl
theorem laws_markStringS.obls : OblT tds laws_markStringS.sig laws_markStringS.ctx 1 Tryz.f102 laws_markStringS.ann := fun k => ⟨tr, ⟨⟨tr, ⟨⟨by kernel_rfl, fun x => by kernel_rfl⟩, fun n => ⟨fun x => by kernel_rfl, ⟨⟨tr, ⟨tr, tr⟩⟩, ⟨⟨tr, tr⟩, tr⟩⟩⟩⟩⟩, ⟨tr, tr⟩⟩⟩
theorem laws_markStringS.ok (k : Nat) : EntOk Tryz.prog k laws_markStringS.ent := fn_ok (C := laws_markStringS.ctx k) Tryz.func102 (by kernel_rfl) (by kernel_rfl) mixed tdsOk (.cons (laws_markText.ok k) EntsOk.nil) (by kernel_rfl) (leB (by kernel_rfl)) (by kernel_rfl) (laws_markStringS.runs k) (laws_markStringS.obls k)
/-! loop.example/g00200/laws.markSetup -/
def laws_markSetup.f (k : Nat) (a0 : De2 × De2 × De5 × De3 × DeB) (a1 : Int) : Option (Int × De2 × De2 × De5 × De3 × DeB) :=
  (laws_markRegionS.f k a0.1 a1).bind fun t1 => ((laws_markWindowS.f k a0.2.1 t1.1).bind fun t2 => ((laws_markPortS.f k a0.2.2.1 t2.1).bind fun t3 => ((laws_markRuleS.f k a0.2.2.2.1 t3.1).bind fun t4 => ((laws_markStringS.f k a0.2.2.2.2 t4.1).bind fun t5 => (some (t5.1, t1.2, t2.2, t3.2, t4.2, t5.2))))))
def laws_markSetup.sig : Sig := ⟨[.val true (.pair (.sl 127 Ty2) (.pair (.sl 181 Ty2) (.pair (.sl 121 Ty5) (.pair (.sl 187 Ty3) (.sl 9 .str))))) [1, 1, 1, 1, 1], .val false TyI []], [.val false TyI []]⟩
def laws_markSetup.F : FT laws_markSetup.sig := fun k x => laws_markSetup.f k x.1 x.2.1
def laws_markSetup.ann : AT laws_markSetup.sig := fun k => .nil
def laws_markSetup.ent : Ent := ⟨40, laws_markSetup.sig, laws_markSetup.F⟩
def laws_markSetup.ctx (k : Nat) : Ctx := ⟨tds, [laws_markRegionS.ent, laws_markWindowS.ent, laws_markPortS.ent, laws_markRuleS.ent, laws_markStringS.ent], k, 26⟩
theorem laws_markSetup.runs : RunsT laws_markSetup.sig laws_markSetup.ctx Tryz.f40 laws_markSetup.ann laws_markSetup.F := fun k x => by kernel_rfl
theorem laws_markSetup.obls : OblT tds laws_markSetup.sig laws_markSetup.ctx 5 Tryz.f40 laws_markSetup.ann := fun k => ⟨tr, ⟨tr, ⟨tr, ⟨tr, ⟨tr, ⟨tr, ⟨tr, tr⟩⟩⟩⟩⟩⟩⟩
theorem laws_markSetup.ok (k : Nat) : EntOk Tryz.prog k laws_markSetup.ent := fn_ok (C := laws_markSetup.ctx k) Tryz.func40 (by kernel_rfl) (by kernel_rfl) mixed tdsOk (.cons (laws_markRegionS.ok k) (.cons (laws_markWindowS.ok k) (.cons (laws_markPortS.ok k) (.cons (laws_markRuleS.ok k) (.cons (laws_markStringS.ok k) EntsOk.nil))))) (by kernel_rfl) (leB (by kernel_rfl)) (by kernel_rfl) (laws_markSetup.runs k) (laws_markSetup.obls k)
/-! loop.example/g00200/laws.markIntS -/
def laws_markIntS.l1 (k : Nat)  : Nat → Int × Int × DeI × Unit → Option (Int × DeI)
  | 0, _ => none
  | n + 1, (x1, x2, x3, _) => if x2 < (x3.length : Int) then (if 0 ≤ x2 then (if x2 < (x3.length : Int) then (((some (x3.set x2.toNat x1))).bind fun y1 => (laws_markIntS.l1 k n (w64 (x1 + 1), w64 (x2 + 1), y1, ()))) else none) else none) else (some (x1, x3))
def laws_markIntS.f (k : Nat) (a0 : DeI) (a1 : Int) : Option (Int × DeI) :=
  laws_markIntS.l1 k k (a1, 0, a0, ())
def laws_markIntS.Sl1 : Shape := ⟨[(0, false, [.own 0]), (1, false, [.int .i64]), (5, false, [.int .i64])], [(0, .row 3 TyI)], 1⟩
def laws_markIntS.sig : Sig := ⟨[.val false (.sl 3 TyI) [1], .val false TyI []], [.val false TyI []]⟩
def laws_markIntS.F : FT laws_markIntS.sig := fun k x => laws_markIntS.f k x.1 x.2.1
def laws_markIntS.ann : AT laws_markIntS.sig := fun k => (.seq .nil (.seq (.seq .nil (.block (.loop laws_markIntS.Sl1 (laws_markIntS.l1 k) fun n1 => .nil))) .nil))
def laws_markIntS.ent : Ent := ⟨12, laws_markIntS.sig, laws_markIntS.F⟩
def laws_markIntS.ctx (k : Nat) : Ctx := ⟨tds, [], k, 19⟩
theorem laws_markIntS.runs : RunsT laws_markIntS.sig laws_markIntS.ctx Tryz.f12 laws_markIntS.ann laws_markIntS.F := fun k x => by kernel_rfl
theorem laws_markIntS.obls : OblT tds laws_markIntS.sig laws_markIntS.ctx 1 Tryz.f12 laws_markIntS.ann := fun k => ⟨tr, ⟨⟨tr, ⟨⟨by kernel_rfl, fun x => by kernel_rfl⟩, fun n => ⟨fun x => by kernel_rfl, ⟨⟨tr, ⟨tr, tr⟩⟩, ⟨⟨tr, tr⟩, tr⟩⟩⟩⟩⟩, ⟨tr, tr⟩⟩⟩
theorem laws_markIntS.ok (k : Nat) : EntOk Tryz.prog k laws_markIntS.ent := fn_ok (C := laws_markIntS.ctx k) Tryz.func12 (by kernel_rfl) (by kernel_rfl) mixed tdsOk EntsOk.nil (by kernel_rfl) (leB (by kernel_rfl)) (by kernel_rfl) (laws_markIntS.runs k) (laws_markIntS.obls k)
/-! loop.example/g00200/laws.markArena -/
def laws_markArena.f (k : Nat) (a0 : DeI) (a1 : Int) : Option (Int × DeI) :=
  (laws_markIntS.f k a0 a1).bind fun t1 => (some (t1.1, t1.2))
def laws_markArena.sig : Sig := ⟨[.val true (.sl 3 TyI) [1], .val false TyI []], [.val false TyI []]⟩
def laws_markArena.F : FT laws_markArena.sig := fun k x => laws_markArena.f k x.1 x.2.1
def laws_markArena.ann : AT laws_markArena.sig := fun k => .nil
def laws_markArena.ent : Ent := ⟨41, laws_markArena.sig, laws_markArena.F⟩
def laws_markArena.ctx (k : Nat) : Ctx := ⟨tds, [laws_markIntS.ent], k, 10⟩
theorem laws_markArena.runs : RunsT laws_markArena.sig laws_markArena.ctx Tryz.f41 laws_markArena.ann laws_markArena.F := fun k x => by kernel_rfl
theorem laws_markArena.obls : OblT tds laws_markArena.sig laws_markArena.ctx 1 Tryz.f41 laws_markArena.ann := fun k => ⟨tr, ⟨tr, ⟨tr, tr⟩⟩⟩
theorem laws_markArena.ok (k : Nat) : EntOk Tryz.prog k laws_markArena.ent := fn_ok (C := laws_markArena.ctx k) Tryz.func41 (by kernel_rfl) (by kernel_rfl) mixed tdsOk (.cons (laws_markIntS.ok k) EntsOk.nil) (by kernel_rfl) (leB (by kernel_rfl)) (by kernel_rfl) (laws_markArena.runs k) (laws_markArena.obls k)
/-! loop.example/g00200/laws.markPartS -/
def laws_markPartS.l1 (k : Nat)  : Nat → Int × Int × DeP × Unit → Option (Int × DeP)
  | 0, _ => none
  | n + 1, (x1, x2, x3, _) => if x2 < (x3.length : Int) then (if 0 ≤ x2 then (if x2 < (x3.length : Int) then (((some (x3.set x2.toNat (x1, (el TyP x3 x2.toNat).2)))).bind fun y1 => (if 0 ≤ x2 then (if x2 < (y1.length : Int) then (((some (y1.set x2.toNat ((el TyP y1 x2.toNat).1, ((w64 (x1 + 1), (((el TyP y1 x2.toNat).2).1).2), ((el TyP y1 x2.toNat).2).2))))).bind fun y2 => (if 0 ≤ x2 then (if x2 < (y2.length : Int) then ((laws_markIntS.f k ((((el TyP y2 x2.toNat).2).1).2) (w64 ((w64 (x1 + 1)) + 1))).bind fun t3 => (((some (y2.set x2.toNat ((el TyP y2 x2.toNat).1, (((((el TyP y2 x2.toNat).2).1).1, t3.2), ((el TyP y2 x2.toNat).2).2))))).bind fun y4 => (if 0 ≤ x2 then (if x2 < (y4.length : Int) then (((some (y4.set x2.toNat ((el TyP y4 x2.toNat).1, (((el TyP y4 x2.toNat).2).1, (t3.1, (((el TyP y4 x2.toNat).2).2).2)))))).bind fun y5 => (if 0 ≤ x2 then (if x2 < (y5.length : Int) then (((some (y5.set x2.toNat ((el TyP y5 x2.toNat).1, (((el TyP y5 x2.toNat).2).1, ((((el TyP y5 x2.toNat).2).2).1, (w64 (t3.1 + 1), ((((el TyP y5 x2.toNat).2).2).2).2))))))).bind fun y6 => (if 0 ≤ x2 then (if x2 < (y6.length : Int) then (((some (y6.set x2.toNat ((el TyP y6 x2.toNat).1, (((el TyP y6 x2.toNat).2).1, ((((el TyP y6 x2.toNat).2).2).1, (((((el TyP y6 x2.toNat).2).2).2).1, w64 ((w64 (t3.1 + 1)) + 1)))))))).bind fun y7 => (laws_markPartS.l1 k n (w64 ((w64 ((w64 (t3.1 + 1)) + 1)) + 1), w64 (x2 + 1), y7, ()))) else none) else none)) else none) else none)) else none) else none))) else none) else none)) else none) else none)) else none) else none) else (some (x1, x3))
def laws_markPartS.f (k : Nat) (a0 : DeP) (a1 : Int) : Option (Int × DeP) :=
  laws_markPartS.l1 k k (a1, 0, a0, ())
def laws_markPartS.Sl1 : Shape := ⟨[(0, false, [.own 0]), (1, false, [.int .i64]), (5, false, [.int .i64])], [(0, .row 73 TyP)], 1⟩
def laws_markPartS.sig : Sig := ⟨[.val false (.sl 73 TyP) [1], .val false TyI []], [.val false TyI []]⟩
def laws_markPartS.F : FT laws_markPartS.sig := fun k x => laws_markPartS.f k x.1 x.2.1
def laws_markPartS.ann : AT laws_markPartS.sig := fun k => (.seq .nil (.seq (.seq .nil (.block (.loop laws_markPartS.Sl1 (laws_markPartS.l1 k) fun n1 => .nil))) .nil))
def laws_markPartS.ent : Ent := ⟨42, laws_markPartS.sig, laws_markPartS.F⟩
def laws_markPartS.ctx (k : Nat) : Ctx := ⟨tds, [laws_markIntS.ent], k, 57⟩
theorem laws_markPartS.runs : RunsT laws_markPartS.sig laws_markPartS.ctx Tryz.f42 laws_markPartS.ann laws_markPartS.F := fun k x => by kernel_rfl
theorem laws_markPartS.obls : OblT tds laws_markPartS.sig laws_markPartS.ctx 1 Tryz.f42 laws_markPartS.ann := fun k => ⟨tr, ⟨⟨tr, ⟨⟨by kernel_rfl, fun x => by kernel_rfl⟩, fun n => ⟨fun x => by kernel_rfl, ⟨⟨tr, ⟨tr, tr⟩⟩, ⟨⟨tr, ⟨tr, ⟨tr, ⟨tr, ⟨tr, ⟨tr, ⟨tr, ⟨tr, ⟨tr, ⟨tr, tr⟩⟩⟩⟩⟩⟩⟩⟩⟩⟩, tr⟩⟩⟩⟩⟩, ⟨tr, tr⟩⟩⟩
theorem laws_markPartS.ok (k : Nat) : EntOk Tryz.prog k laws_markPartS.ent := fn_ok (C := laws_markPartS.ctx k) Tryz.func42 (by kernel_rfl) (by kernel_rfl) mixed tdsOk (.cons (laws_markIntS.ok k) EntsOk.nil) (by kernel_rfl) (leB (by kernel_rfl)) (by kernel_rfl) (laws_markPartS.runs k) (laws_markPartS.obls k)
/-! loop.example/g00200/laws.markMsgS -/
def laws_markMsgS.l1 (k : Nat)  : Nat → Int × Int × De2 × Unit → Option (Int × De2)
  | 0, _ => none
  | n + 1, (x1, x2, x3, _) => if x2 < (x3.length : Int) then (if 0 ≤ x2 then (if x2 < (x3.length : Int) then (((some (x3.set x2.toNat (x1, (el Ty2 x3 x2.toNat).2)))).bind fun y1 => (if 0 ≤ x2 then (if x2 < (y1.length : Int) then (((some (y1.set x2.toNat ((el Ty2 y1 x2.toNat).1, w64 (x1 + 1))))).bind fun y2 => (laws_markMsgS.l1 k n (w64 ((w64 (x1 + 1)) + 1), w64 (x2 + 1), y2, ()))) else none) else none)) else none) else none) else (some (x1, x3))
def laws_markMsgS.f (k : Nat) (a0 : De2) (a1 : Int) : Option (Int × De2) :=
  laws_markMsgS.l1 k k (a1, 0, a0, ())
def laws_markMsgS.Sl1 : Shape := ⟨[(0, false, [.own 0]), (1, false, [.int .i64]), (5, false, [.int .i64])], [(0, .row 210 Ty2)], 1⟩
def laws_markMsgS.sig : Sig := ⟨[.val false (.sl 210 Ty2) [1], .val false TyI []], [.val false TyI []]⟩
def laws_markMsgS.F : FT laws_markMsgS.sig := fun k x => laws_markMsgS.f k x.1 x.2.1
def laws_markMsgS.ann : AT laws_markMsgS.sig := fun k => (.seq .nil (.seq (.seq .nil (.block (.loop laws_markMsgS.Sl1 (laws_markMsgS.l1 k) fun n1 => .nil))) .nil))
def laws_markMsgS.ent : Ent := ⟨103, laws_markMsgS.sig, laws_markMsgS.F⟩
def laws_markMsgS.ctx (k : Nat) : Ctx := ⟨tds, [], k, 27⟩
theorem laws_markMsgS.runs : RunsT laws_markMsgS.sig laws_markMsgS.ctx Tryz.f103 laws_markMsgS.ann laws_markMsgS.F := fun k x => by kernel_rfl
theorem laws_markMsgS.obls : OblT tds laws_markMsgS.sig laws_markMsgS.ctx 1 Tryz.f103 laws_markMsgS.ann := fun k => ⟨tr, ⟨⟨tr, ⟨⟨by kernel_rfl, fun x => by kernel_rfl⟩, fun n => ⟨fun x => by kernel_rfl, ⟨⟨tr, ⟨tr, tr⟩⟩, ⟨⟨tr, ⟨tr, ⟨tr, tr⟩⟩⟩, tr⟩⟩⟩⟩⟩, ⟨tr, tr⟩⟩⟩
theorem laws_markMsgS.ok (k : Nat) : EntOk Tryz.prog k laws_markMsgS.ent := fn_ok (C := laws_markMsgS.ctx k) Tryz.func103 (by kernel_rfl) (by kernel_rfl) mixed tdsOk EntsOk.nil (by kernel_rfl) (leB (by kernel_rfl)) (by kernel_rfl) (laws_markMsgS.runs k) (laws_markMsgS.obls k)
/-! loop.example/g00200/laws.markLineS -/
def laws_markLineS.l1 (k : Nat)  : Nat → Int × Int × DeL × Unit → Option (Int × DeL)
  | 0, _ => none
  | n + 1, (x1, x2, x3, _) => if x2 < (x3.length : Int) then (if 0 ≤ x2 then (if x2 < (x3.length : Int) then ((laws_markMsgS.f k (el (.sl 210 Ty2) x3 x2.toNat) x1).bind fun t1 => (((some (x3.set x2.toNat t1.2))).bind fun y2 => (laws_markLineS.l1 k n (t1.1, w64 (x2 + 1), y2, ())))) else none) else none) else (some (x1, x3))
def laws_markLineS.f (k : Nat) (a0 : DeL) (a1 : Int) : Option (Int × DeL) :=
  laws_markLineS.l1 k k (a1, 0, a0, ())
def laws_markLineS.Sl1 : Shape := ⟨[(0, false, [.own 0]), (1, false, [.int .i64]), (5, false, [.int .i64])], [(0, .row 115 (.sl 210 Ty2))], 1⟩
def laws_markLineS.sig : Sig := ⟨[.val false (.sl 115 (.sl 210 Ty2)) [1], .val false TyI []], [.val false TyI []]⟩
def laws_markLineS.F : FT laws_markLineS.sig := fun k x => laws_markLineS.f k x.1 x.2.1
def laws_markLineS.ann : AT laws_markLineS.sig := fun k => (.seq .nil (.seq (.seq .nil (.block (.loop laws_markLineS.Sl1 (laws_markLineS.l1 k) fun n1 => .nil))) .nil))
def laws_markLineS.ent : Ent := ⟨43, laws_markLineS.sig, laws_markLineS.F⟩
def laws_markLineS.ctx (k : Nat) : Ctx := ⟨tds, [laws_markMsgS.ent], k, 20⟩
theorem laws_markLineS.runs : RunsT laws_markLineS.sig laws_markLineS.ctx Tryz.f43 laws_markLineS.ann laws_markLineS.F := fun k x => by kernel_rfl
theorem laws_markLineS.obls : OblT tds laws_markLineS.sig laws_markLineS.ctx 1 Tryz.f43 laws_markLineS.ann := fun k => ⟨tr, ⟨⟨tr, ⟨⟨by kernel_rfl, fun x => by kernel_rfl⟩, fun n => ⟨fun x => by kernel_rfl, ⟨⟨tr, ⟨tr, tr⟩⟩, ⟨tr, tr⟩⟩⟩⟩⟩, ⟨tr, tr⟩⟩⟩
theorem laws_markLineS.ok (k : Nat) : EntOk Tryz.prog k laws_markLineS.ent := fn_ok (C := laws_markLineS.ctx k) Tryz.func43 (by kernel_rfl) (by kernel_rfl) mixed tdsOk (.cons (laws_markMsgS.ok k) EntsOk.nil) (by kernel_rfl) (leB (by kernel_rfl)) (by kernel_rfl) (laws_markLineS.runs k) (laws_markLineS.obls k)
/-! loop.example/g00200/laws.markEntryS -/
def laws_markEntryS.l1 (k : Nat)  : Nat → Int × Int × De5 × Unit → Option (Int × De5)
  | 0, _ => none
  | n + 1, (x1, x2, x3, _) => if x2 < (x3.length : Int) then (if 0 ≤ x2 then (if x2 < (x3.length : Int) then (((some (x3.set x2.toNat (x1, (el Ty5 x3 x2.toNat).2)))).bind fun y1 => (if 0 ≤ x2 then (if x2 < (y1.length : Int) then (((some (y1.set x2.toNat ((el Ty5 y1 x2.toNat).1, (w64 (x1 + 1), ((el Ty5 y1 x2.toNat).2).2))))).bind fun y2 => (if 0 ≤ x2 then (if x2 < (y2.length : Int) then (((some (y2.set x2.toNat ((el Ty5 y2 x2.toNat).1, (((el Ty5 y2 x2.toNat).2).1, (w64 ((w64 (x1 + 1)) + 1), (((el Ty5 y2 x2.toNat).2).2).2)))))).bind fun y3 => (if 0 ≤ x2 then (if x2 < (y3.length : Int) then (((some (y3.set x2.toNat ((el Ty5 y3 x2.toNat).1, (((el Ty5 y3 x2.toNat).2).1, ((((el Ty5 y3 x2.toNat).2).2).1, (w64 ((w64 ((w64 (x1 + 1)) + 1)) + 1), ((((el Ty5 y3 x2.toNat).2).2).2).2))))))).bind fun y4 => (if 0 ≤ x2 then (if x2 < (y4.length : Int) then (((some (y4.set x2.toNat ((el Ty5 y4 x2.toNat).1, (((el Ty5 y4 x2.toNat).2).1, ((((el Ty5 y4 x2.toNat).2).2).1, (((((el Ty5 y4 x2.toNat).2).2).2).1, w64 ((w64 ((w64 ((w64 (x1 + 1)) + 1)) + 1)) + 1)))))))).bind fun y5 => (laws_markEntryS.l1 k n (w64 ((w64 ((w64 ((w64 ((w64 (x1 + 1)) + 1)) + 1)) + 1)) + 1), w64 (x2 + 1), y5, ()))) else none) else none)) else none) else none)) else none) else none)) else none) else none)) else none) else none) else (some (x1, x3))
def laws_markEntryS.f (k : Nat) (a0 : De5) (a1 : Int) : Option (Int × De5) :=
  laws_markEntryS.l1 k k (a1, 0, a0, ())
def laws_markEntryS.Sl1 : Shape := ⟨[(0, false, [.own 0]), (1, false, [.int .i64]), (5, false, [.int .i64])], [(0, .row 140 Ty5)], 1⟩
def laws_markEntryS.sig : Sig := ⟨[.val false (.sl 140 Ty5) [1], .val false TyI []], [.val false TyI []]⟩
def laws_markEntryS.F : FT laws_markEntryS.sig := fun k x => laws_markEntryS.f k x.1 x.2.1
def laws_markEntryS.ann : AT laws_markEntryS.sig := fun k => (.seq .nil (.seq (.seq .nil (.block (.loop laws_markEntryS.Sl1 (laws_markEntryS.l1 k) fun n1 => .nil))) .nil))
def laws_markEntryS.ent : Ent := ⟨44, laws_markEntryS.sig, laws_markEntryS.F⟩
def laws_markEntryS.ctx (k : Nat) : Ctx := ⟨tds, [], k, 48⟩
theorem laws_markEntryS.runs : RunsT laws_markEntryS.sig laws_markEntryS.ctx Tryz.f44 laws_markEntryS.ann laws_markEntryS.F := fun k x => by kernel_rfl
theorem laws_markEntryS.obls : OblT tds laws_markEntryS.sig laws_markEntryS.ctx 1 Tryz.f44 laws_markEntryS.ann := fun k => ⟨tr, ⟨⟨tr, ⟨⟨by kernel_rfl, fun x => by kernel_rfl⟩, fun n => ⟨fun x => by kernel_rfl, ⟨⟨tr, ⟨tr, tr⟩⟩, ⟨⟨tr, ⟨tr, ⟨tr, ⟨tr, ⟨tr, ⟨tr, ⟨tr, ⟨tr, ⟨tr, tr⟩⟩⟩⟩⟩⟩⟩⟩⟩, tr⟩⟩⟩⟩⟩, ⟨tr, tr⟩⟩⟩
theorem laws_markEntryS.ok (k : Nat) : EntOk Tryz.prog k laws_markEntryS.ent := fn_ok (C := laws_markEntryS.ctx k) Tryz.func44 (by kernel_rfl) (by kernel_rfl) mixed tdsOk EntsOk.nil (by kernel_rfl) (leB (by kernel_rfl)) (by kernel_rfl) (laws_markEntryS.runs k) (laws_markEntryS.obls k)
/-! loop.example/g00200/laws.markKernel -/
def laws_markKernel.f (k : Nat) (a0 : DeK) (a1 : Int) : Option (Int × De2 × De2 × De5 × De3 × DeB × DeI × DeP × DeL × DeI × De5) :=
  (laws_markSetup.f k a0.1 a1).bind fun t1 => ((laws_markArena.f k a0.2.1 t1.1).bind fun t2 => ((laws_markPartS.f k a0.2.2.1 t2.1).bind fun t3 => ((laws_markLineS.f k a0.2.2.2.1 t3.1).bind fun t4 => ((laws_markIntS.f k a0.2.2.2.2.1 t4.1).bind fun t5 => ((laws_markEntryS.f k a0.2.2.2.2.2.2.2 t5.1).bind fun t6 => (some (t6.1, t1.2.1, t1.2.2.1, t1.2.2.2.1, t1.2.2.2.2.1, t1.2.2.2.2.2, t2.2, t3.2, t4.2, t5.2, t6.2)))))))
def laws_markKernel.sig : Sig := ⟨[.val true (.pair (.pair (.sl 127 Ty2) (.pair (.sl 181 Ty2) (.pair (.sl 121 Ty5) (.pair (.sl 187 Ty3) (.sl 9 .str))))) (.pair (.sl 3 TyI) (.pair (.sl 73 TyP) (.pair (.sl 115 (.sl 210 Ty2)) (.pair (.sl 3 TyI) (.pair TyI (.pair .bool (.sl 140 Ty5)))))))) [1, 1, 1, 1, 1, 1, 1, 1, 1, 1], .val false TyI []], [.val false TyI []]⟩
def laws_markKernel.F : FT laws_markKernel.sig := fun k x => laws_markKernel.f k x.1 x.2.1
def laws_markKernel.ann : AT laws_markKernel.sig := fun k => .nil
def laws_markKernel.ent : Ent := ⟨11, laws_markKernel.sig, laws_markKernel.F⟩
def laws_markKernel.ctx (k : Nat) : Ctx := ⟨tds, [laws_markIntS.ent, laws_markSetup.ent, laws_markArena.ent, laws_markPartS.ent, laws_markLineS.ent, laws_markEntryS.ent], k, 30⟩
theorem laws_markKernel.runs : RunsT laws_markKernel.sig laws_markKernel.ctx Tryz.f11 laws_markKernel.ann laws_markKernel.F := fun k x => by kernel_rfl
theorem laws_markKernel.obls : OblT tds laws_markKernel.sig laws_markKernel.ctx 10 Tryz.f11 laws_markKernel.ann := fun k => ⟨tr, ⟨tr, ⟨tr, ⟨tr, ⟨tr, ⟨tr, ⟨tr, ⟨tr, tr⟩⟩⟩⟩⟩⟩⟩⟩
theorem laws_markKernel.ok (k : Nat) : EntOk Tryz.prog k laws_markKernel.ent := fn_ok (C := laws_markKernel.ctx k) Tryz.func11 (by kernel_rfl) (by kernel_rfl) mixed tdsOk (.cons (laws_markIntS.ok k) (.cons (laws_markSetup.ok k) (.cons (laws_markArena.ok k) (.cons (laws_markPartS.ok k) (.cons (laws_markLineS.ok k) (.cons (laws_markEntryS.ok k) EntsOk.nil)))))) (by kernel_rfl) (leB (by kernel_rfl)) (by kernel_rfl) (laws_markKernel.runs k) (laws_markKernel.obls k)
/-! loop.example/g00200/laws.heldRegionS -/
def laws_heldRegionS.l1 (k : Nat)  : Nat → Int × Int × De2 × Unit → Option (Int)
  | 0, _ => none
  | n + 1, (x1, x2, x3, _) => if x2 < (x3.length : Int) then (if 0 ≤ x2 then (if x2 < (x3.length : Int) then (if ¬ ((el Ty2 x3 x2.toNat).1) = x1 then (some (-1)) else (if 0 ≤ x2 then (if x2 < (x3.length : Int) then (if ¬ ((el Ty2 x3 x2.toNat).2) = (w64 (x1 + 1)) then (some (-1)) else (laws_heldRegionS.l1 k n (w64 ((w64 (x1 + 1)) + 1), w64 (x2 + 1), x3, ()))) else none) else none)) else none) else none) else (some x1)
def laws_heldRegionS.f (k : Nat) (a0 : De2) (a1 : Int) : Option (Int) :=
  laws_heldRegionS.l1 k k (a1, 0, a0, ())
def laws_heldRegionS.Sl1 : Shape := ⟨[(0, false, [.own 0]), (1, false, [.int .i64]), (5, false, [.int .i64])], [(0, .view false 127 Ty2)], 1⟩
def laws_heldRegionS.sig : Sig := ⟨[.val false (.sl 127 Ty2) [0], .val false TyI []], [.val false TyI []]⟩
def laws_heldRegionS.F : FT laws_heldRegionS.sig := fun k x => laws_heldRegionS.f k x.1 x.2.1
def laws_heldRegionS.ann : AT laws_heldRegionS.sig := fun k => (.seq .nil (.seq (.seq .nil (.block (.loop laws_heldRegionS.Sl1 (laws_heldRegionS.l1 k) fun n1 => .nil))) .nil))
def laws_heldRegionS.ent : Ent := ⟨104, laws_heldRegionS.sig, laws_heldRegionS.F⟩
def laws_heldRegionS.ctx (k : Nat) : Ctx := ⟨tds, [], k, 31⟩
theorem laws_heldRegionS.runs : RunsT laws_heldRegionS.sig laws_heldRegionS.ctx Tryz.f104 laws_heldRegionS.ann laws_heldRegionS.F := fun k x => by kernel_rfl
theorem laws_heldRegionS.obls : OblT tds laws_heldRegionS.sig laws_heldRegionS.ctx 1 Tryz.f104 laws_heldRegionS.ann := fun k => ⟨tr, ⟨⟨tr, ⟨⟨by kernel_rfl, fun x => by kernel_rfl⟩, fun n => ⟨fun x => by kernel_rfl, ⟨⟨tr, ⟨tr, tr⟩⟩, ⟨⟨⟨tr, ⟨⟨tr, tr⟩, tr⟩⟩, ⟨tr, ⟨⟨tr, ⟨⟨tr, tr⟩, tr⟩⟩, tr⟩⟩⟩, tr⟩⟩⟩⟩⟩, ⟨tr, tr⟩⟩⟩
theorem laws_heldRegionS.ok (k : Nat) : EntOk Tryz.prog k laws_heldRegionS.ent := fn_ok (C := laws_heldRegionS.ctx k) Tryz.func104 (by kernel_rfl) (by kernel_rfl) mixed tdsOk EntsOk.nil (by kernel_rfl) (leB (by kernel_rfl)) (by kernel_rfl) (laws_heldRegionS.runs k) (laws_heldRegionS.obls k)
/-! loop.example/g00200/laws.heldWindowS -/
def laws_heldWindowS.l1 (k : Nat)  : Nat → Int × Int × De2 × Unit → Option (Int)
  | 0, _ => none
  | n + 1, (x1, x2, x3, _) => if x2 < (x3.length : Int) then (if 0 ≤ x2 then (if x2 < (x3.length : Int) then (if ¬ ((el Ty2 x3 x2.toNat).1) = x1 then (some (-1)) else (if 0 ≤ x2 then (if x2 < (x3.length : Int) then (if ¬ ((el Ty2 x3 x2.toNat).2) = (w64 (x1 + 1)) then (some (-1)) else (laws_heldWindowS.l1 k n (w64 ((w64 (x1 + 1)) + 1), w64 (x2 + 1), x3, ()))) else none) else none)) else none) else none) else (some x1)
def laws_heldWindowS.f (k : Nat) (a0 : De2) (a1 : Int) : Option (Int) :=
  laws_heldWindowS.l1 k k (a1, 0, a0, ())
def laws_heldWindowS.Sl1 : Shape := ⟨[(0, false, [.own 0]), (1, false, [.int .i64]), (5, false, [.int .i64])], [(0, .view false 181 Ty2)], 1⟩
def laws_heldWindowS.sig : Sig := ⟨[.val false (.sl 181 Ty2) [0], .val false TyI []], [.val false TyI []]⟩
def laws_heldWindowS.F : FT laws_heldWindowS.sig := fun k x => laws_heldWindowS.f k x.1 x.2.1
def laws_heldWindowS.ann : AT laws_heldWindowS.sig := fun k => (.seq .nil (.seq (.seq .nil (.block (.loop laws_heldWindowS.Sl1 (laws_heldWindowS.l1 k) fun n1 => .nil))) .nil))
def laws_heldWindowS.ent : Ent := ⟨105, laws_heldWindowS.sig, laws_heldWindowS.F⟩
def laws_heldWindowS.ctx (k : Nat) : Ctx := ⟨tds, [], k, 31⟩
theorem laws_heldWindowS.runs : RunsT laws_heldWindowS.sig laws_heldWindowS.ctx Tryz.f105 laws_heldWindowS.ann laws_heldWindowS.F := fun k x => by kernel_rfl
theorem laws_heldWindowS.obls : OblT tds laws_heldWindowS.sig laws_heldWindowS.ctx 1 Tryz.f105 laws_heldWindowS.ann := fun k => ⟨tr, ⟨⟨tr, ⟨⟨by kernel_rfl, fun x => by kernel_rfl⟩, fun n => ⟨fun x => by kernel_rfl, ⟨⟨tr, ⟨tr, tr⟩⟩, ⟨⟨⟨tr, ⟨⟨tr, tr⟩, tr⟩⟩, ⟨tr, ⟨⟨tr, ⟨⟨tr, tr⟩, tr⟩⟩, tr⟩⟩⟩, tr⟩⟩⟩⟩⟩, ⟨tr, tr⟩⟩⟩
theorem laws_heldWindowS.ok (k : Nat) : EntOk Tryz.prog k laws_heldWindowS.ent := fn_ok (C := laws_heldWindowS.ctx k) Tryz.func105 (by kernel_rfl) (by kernel_rfl) mixed tdsOk EntsOk.nil (by kernel_rfl) (leB (by kernel_rfl)) (by kernel_rfl) (laws_heldWindowS.runs k) (laws_heldWindowS.obls k)
/-! loop.example/g00200/laws.heldPortS -/
def laws_heldPortS.l1 (k : Nat)  : Nat → Int × Int × De5 × Unit → Option (Int)
  | 0, _ => none
  | n + 1, (x1, x2, x3, _) => if x2 < (x3.length : Int) then (if 0 ≤ x2 then (if x2 < (x3.length : Int) then (if ¬ ((el Ty5 x3 x2.toNat).1) = x1 then (some (-1)) else (if 0 ≤ x2 then (if x2 < (x3.length : Int) then (if ¬ (((el Ty5 x3 x2.toNat).2).1) = (w64 (x1 + 1)) then (some (-1)) else (if 0 ≤ x2 then (if x2 < (x3.length : Int) then (if ¬ ((((el Ty5 x3 x2.toNat).2).2).1) = (w64 ((w64 (x1 + 1)) + 1)) then (some (-1)) else (if 0 ≤ x2 then (if x2 < (x3.length : Int) then (if ¬ (((((el Ty5 x3 x2.toNat).2).2).2).1) = (w64 ((w64 ((w64 (x1 + 1)) + 1)) + 1)) then (some (-1)) else (if 0 ≤ x2 then (if x2 < (x3.length : Int) then (if ¬ (((((el Ty5 x3 x2.toNat).2).2).2).2) = (w64 ((w64 ((w64 ((w64 (x1 + 1)) + 1)) + 1)) + 1)) then (some (-1)) else (laws_heldPortS.l1 k n (w64 ((w64 ((w64 ((w64 ((w64 (x1 + 1)) + 1)) + 1)) + 1)) + 1), w64 (x2 + 1), x3, ()))) else none) else none)) else none) else none)) else none) else none)) else none) else none)) else none) else none) else (some x1)
def laws_heldPortS.f (k : Nat) (a0 : De5) (a1 : Int) : Option (Int) :=
  laws_heldPortS.l1 k k (a1, 0, a0, ())
def laws_heldPortS.Sl1 : Shape := ⟨[(0, false, [.own 0]), (1, false, [.int .i64]), (5, false, [.int .i64])], [(0, .view false 121 Ty5)], 1⟩
def laws_heldPortS.sig : Sig := ⟨[.val false (.sl 121 Ty5) [0], .val false TyI []], [.val false TyI []]⟩
def laws_heldPortS.F : FT laws_heldPortS.sig := fun k x => laws_heldPortS.f k x.1 x.2.1
def laws_heldPortS.ann : AT laws_heldPortS.sig := fun k => (.seq .nil (.seq (.seq .nil (.block (.loop laws_heldPortS.Sl1 (laws_heldPortS.l1 k) fun n1 => .nil))) .nil))
def laws_heldPortS.ent : Ent := ⟨106, laws_heldPortS.sig, laws_heldPortS.F⟩
def laws_heldPortS.ctx (k : Nat) : Ctx := ⟨tds, [], k, 58⟩
theorem laws_heldPortS.runs : RunsT laws_heldPortS.sig laws_heldPortS.ctx Tryz.f106 laws_heldPortS.ann laws_heldPortS.F := fun k x => by kernel_rfl
theorem laws_heldPortS.obls : OblT tds laws_heldPortS.sig laws_heldPortS.ctx 1 Tryz.f106 laws_heldPortS.ann := fun k => ⟨tr, ⟨⟨tr, ⟨⟨by kernel_rfl, fun x => by kernel_rfl⟩, fun n => ⟨fun x => by kernel_rfl, ⟨⟨tr, ⟨tr, tr⟩⟩, ⟨⟨⟨tr, ⟨⟨tr, tr⟩, tr⟩⟩, ⟨tr, ⟨⟨tr, ⟨⟨tr, tr⟩, tr⟩⟩, ⟨tr, ⟨⟨tr, ⟨⟨tr, tr⟩, tr⟩⟩, ⟨tr, ⟨⟨tr, ⟨⟨tr, tr⟩, tr⟩⟩, ⟨tr, ⟨⟨tr, ⟨⟨tr, tr⟩, tr⟩⟩, tr⟩⟩⟩⟩⟩⟩⟩⟩⟩, tr⟩⟩⟩⟩⟩, ⟨tr, tr⟩⟩⟩
theorem laws_heldPortS.ok (k : Nat) : EntOk Tryz.prog k laws_heldPortS.ent := fn_ok (C := laws_heldPortS.ctx k) Tryz.func106 (by kernel_rfl) (by kernel_rfl) mixed tdsOk EntsOk.nil (by kernel_rfl) (leB (by kernel_rfl)) (by kernel_rfl) (laws_heldPortS.runs k) (laws_heldPortS.obls k)
/-! loop.example/g00200/laws.heldRuleS -/
def laws_heldRuleS.l1 (k : Nat)  : Nat → Int × Int × De3 × Unit → Option (Int)
  | 0, _ => none
  | n + 1, (x1, x2, x3, _) => if x2 < (x3.length : Int) then (if 0 ≤ x2 then (if x2 < (x3.length : Int) then (if ¬ ((el Ty3 x3 x2.toNat).1) = x1 then (some (-1)) else (if 0 ≤ x2 then (if x2 < (x3.length : Int) then (if ¬ (((el Ty3 x3 x2.toNat).2).1) = (w64 (x1 + 1)) then (some (-1)) else (if 0 ≤ x2 then (if x2 < (x3.length : Int) then (if ¬ (((el Ty3 x3 x2.toNat).2).2) = (w64 ((w64 (x1 + 1)) + 1)) then (some (-1)) else (laws_heldRuleS.l1 k n (w64 ((w64 ((w64 (x1 + 1)) + 1)) + 1), w64 (x2 + 1), x3, ()))) else none) else none)) else none) else none)) else none) else none) else (some x1)
def laws_heldRuleS.f (k : Nat) (a0 : De3) (a1 : Int) : Option (Int) :=
  laws_heldRuleS.l1 k k (a1, 0, a0, ())
def laws_heldRuleS.Sl1 : Shape := ⟨[(0, false, [.own 0]), (1, false, [.int .i64]), (5, false, [.int .i64])], [(0, .view false 187 Ty3)], 1⟩
def laws_heldRuleS.sig : Sig := ⟨[.val false (.sl 187 Ty3) [0], .val false TyI []], [.val false TyI []]⟩
def laws_heldRuleS.F : FT laws_heldRuleS.sig := fun k x => laws_heldRuleS.f k x.1 x.2.1
def laws_heldRuleS.ann : AT laws_heldRuleS.sig := fun k => (.seq .nil (.seq (.seq .nil (.block (.loop laws_heldRuleS.Sl1 (laws_heldRuleS.l1 k) fun n1 => .nil))) .nil))
def laws_heldRuleS.ent : Ent := ⟨107, laws_heldRuleS.sig, laws_heldRuleS.F⟩
def laws_heldRuleS.ctx (k : Nat) : Ctx := ⟨tds, [], k, 40⟩
theorem laws_heldRuleS.runs : RunsT laws_heldRuleS.sig laws_heldRuleS.ctx Tryz.f107 laws_heldRuleS.ann laws_heldRuleS.F := fun k x => by kernel_rfl
theorem laws_heldRuleS.obls : OblT tds laws_heldRuleS.sig laws_heldRuleS.ctx 1 Tryz.f107 laws_heldRuleS.ann := fun k => ⟨tr, ⟨⟨tr, ⟨⟨by kernel_rfl, fun x => by kernel_rfl⟩, fun n => ⟨fun x => by kernel_rfl, ⟨⟨tr, ⟨tr, tr⟩⟩, ⟨⟨⟨tr, ⟨⟨tr, tr⟩, tr⟩⟩, ⟨tr, ⟨⟨tr, ⟨⟨tr, tr⟩, tr⟩⟩, ⟨tr, ⟨⟨tr, ⟨⟨tr, tr⟩, tr⟩⟩, tr⟩⟩⟩⟩⟩, tr⟩⟩⟩⟩⟩, ⟨tr, tr⟩⟩⟩
theorem laws_heldRuleS.ok (k : Nat) : EntOk Tryz.prog k laws_heldRuleS.ent := fn_ok (C := laws_heldRuleS.ctx k) Tryz.func107 (by kernel_rfl) (by kernel_rfl) mixed tdsOk EntsOk.nil (by kernel_rfl) (leB (by kernel_rfl)) (by kernel_rfl) (laws_heldRuleS.runs k) (laws_heldRuleS.obls k)
/-! loop.example/g00200/laws.heldStringS -/
def laws_heldStringS.l1 (k : Nat)  : Nat → Int × Int × DeB × Unit → Option (Int)
  | 0, _ => none
  | n + 1, (x1, x2, x3, _) => if x2 < (x3.length : Int) then (if 0 ≤ x2 then (if x2 < (x3.length : Int) then ((laws_markText.f k x1).bind fun t1 => (if ¬ (el .str x3 x2.toNat) = t1 then (some (-1)) else (laws_heldStringS.l1 k n (w64 (x1 + 1), w64 (x2 + 1), x3, ())))) else none) else none) else (some x1)
def laws_heldStringS.f (k : Nat) (a0 : DeB) (a1 : Int) : Option (Int) :=
  laws_heldStringS.l1 k k (a1, 0, a0, ())
def laws_heldStringS.Sl1 : Shape := ⟨[(0, false, [.own 0]), (1, false, [.int .i64]), (5, false, [.int .i64])], [(0, .view false 9 .str)], 1⟩
def laws_heldStringS.sig : Sig := ⟨[.val false (.sl 9 .str) [0], .val false TyI []], [.val false TyI []]⟩
def laws_heldStringS.F : FT laws_heldStringS.sig := fun k x => laws_heldStringS.f k x.1 x.2.1
def laws_heldStringS.ann : AT laws_heldStringS.sig := fun k => (.seq .nil (.seq (.seq .nil (.block (.loop laws_heldStringS.Sl1 (laws_heldStringS.l1 k) fun n1 => .nil))) .nil))
def laws_heldStringS.ent : Ent := ⟨108, laws_heldStringS.sig, laws_heldStringS.F⟩
def laws_heldStringS.ctx (k : Nat) : Ctx := ⟨tds, [laws_markText.ent], k, 22⟩
theorem laws_heldStringS.runs : RunsT laws_heldStringS.sig laws_heldStringS.ctx Tryz.f108 laws_heldStringS.ann laws_heldStringS.F := fun k x => by kernel_rfl
theorem laws_heldStringS.obls : OblT tds laws_heldStringS.sig laws_heldStringS.ctx 1 Tryz.f108 laws_heldStringS.ann := fun k => ⟨tr, ⟨⟨tr, ⟨⟨by kernel_rfl, fun x => by kernel_rfl⟩, fun n => ⟨fun x => by kernel_rfl, ⟨⟨tr, ⟨tr, tr⟩⟩, ⟨⟨⟨tr, ⟨⟨tr, tr⟩, tr⟩⟩, tr⟩, tr⟩⟩⟩⟩⟩, ⟨tr, tr⟩⟩⟩
theorem laws_heldStringS.ok (k : Nat) : EntOk Tryz.prog k laws_heldStringS.ent := fn_ok (C := laws_heldStringS.ctx k) Tryz.func108 (by kernel_rfl) (by kernel_rfl) mixed tdsOk (.cons (laws_markText.ok k) EntsOk.nil) (by kernel_rfl) (leB (by kernel_rfl)) (by kernel_rfl) (laws_heldStringS.runs k) (laws_heldStringS.obls k)
/-! loop.example/g00200/laws.heldSetup -/
def laws_heldSetup.f (k : Nat) (a0 : De2 × De2 × De5 × De3 × DeB) (a1 : Int) : Option (Int) :=
  (laws_heldRegionS.f k a0.1 a1).bind fun t1 => (if t1 < 0 then (some (-1)) else ((laws_heldWindowS.f k a0.2.1 t1).bind fun t2 => (if t2 < 0 then (some (-1)) else ((laws_heldPortS.f k a0.2.2.1 t2).bind fun t3 => (if t3 < 0 then (some (-1)) else ((laws_heldRuleS.f k a0.2.2.2.1 t3).bind fun t4 => (if t4 < 0 then (some (-1)) else ((laws_heldStringS.f k a0.2.2.2.2 t4).bind fun t5 => (if t5 < 0 then (some (-1)) else (some t5))))))))))
def laws_heldSetup.sig : Sig := ⟨[.val true (.pair (.sl 127 Ty2) (.pair (.sl 181 Ty2) (.pair (.sl 121 Ty5) (.pair (.sl 187 Ty3) (.sl 9 .str))))) [0, 0, 0, 0, 0], .val false TyI []], [.val false TyI []]⟩
def laws_heldSetup.F : FT laws_heldSetup.sig := fun k x => laws_heldSetup.f k x.1 x.2.1
def laws_heldSetup.ann : AT laws_heldSetup.sig := fun k => .nil
def laws_heldSetup.ent : Ent := ⟨45, laws_heldSetup.sig, laws_heldSetup.F⟩
def laws_heldSetup.ctx (k : Nat) : Ctx := ⟨tds, [laws_heldRegionS.ent, laws_heldWindowS.ent, laws_heldPortS.ent, laws_heldRuleS.ent, laws_heldStringS.ent], k, 36⟩
theorem laws_heldSetup.runs : RunsT laws_heldSetup.sig laws_heldSetup.ctx Tryz.f45 laws_heldSetup.ann laws_heldSetup.F := fun k x => by kernel_rfl
theorem laws_heldSetup.obls : OblT tds laws_heldSetup.sig laws_heldSetup.ctx 5 Tryz.f45 laws_heldSetup.ann := fun k => ⟨tr, ⟨tr, ⟨⟨tr, ⟨⟨tr, tr⟩, tr⟩⟩, ⟨tr, ⟨⟨tr, ⟨⟨tr, tr⟩, tr⟩⟩, ⟨tr, ⟨⟨tr, ⟨⟨tr, tr⟩, tr⟩⟩, ⟨tr, ⟨⟨tr, ⟨⟨tr, tr⟩, tr⟩⟩, ⟨tr, ⟨⟨tr, ⟨⟨tr, tr⟩, tr⟩⟩, ⟨tr, tr⟩⟩⟩⟩⟩⟩⟩⟩⟩⟩⟩⟩
theorem laws_heldSetup.ok (k : Nat) : EntOk Tryz.prog k laws_heldSetup.ent := fn_ok (C := laws_heldSetup.ctx k) Tryz.func45 (by kernel_rfl) (by kernel_rfl) mixed tdsOk (.cons (laws_heldRegionS.ok k) (.cons (laws_heldWindowS.ok k) (.cons (laws_heldPortS.ok k) (.cons (laws_heldRuleS.ok k) (.cons (laws_heldStringS.ok k) EntsOk.nil))))) (by kernel_rfl) (leB (by kernel_rfl)) (by kernel_rfl) (laws_heldSetup.runs k) (laws_heldSetup.obls k)
/-! loop.example/g00200/laws.heldIntS -/
def laws_heldIntS.l1 (k : Nat)  : Nat → Int × Int × DeI × Unit → Option (Int)
  | 0, _ => none
  | n + 1, (x1, x2, x3, _) => if x2 < (x3.length : Int) then (if 0 ≤ x2 then (if x2 < (x3.length : Int) then (if ¬ (el TyI x3 x2.toNat) = x1 then (some (-1)) else (laws_heldIntS.l1 k n (w64 (x1 + 1), w64 (x2 + 1), x3, ()))) else none) else none) else (some x1)
def laws_heldIntS.f (k : Nat) (a0 : DeI) (a1 : Int) : Option (Int) :=
  laws_heldIntS.l1 k k (a1, 0, a0, ())
def laws_heldIntS.Sl1 : Shape := ⟨[(0, false, [.own 0]), (1, false, [.int .i64]), (5, false, [.int .i64])], [(0, .view false 3 TyI)], 1⟩
def laws_heldIntS.sig : Sig := ⟨[.val false (.sl 3 TyI) [0], .val false TyI []], [.val false TyI []]⟩
def laws_heldIntS.F : FT laws_heldIntS.sig := fun k x => laws_heldIntS.f k x.1 x.2.1
def laws_heldIntS.ann : AT laws_heldIntS.sig := fun k => (.seq .nil (.seq (.seq .nil (.block (.loop laws_heldIntS.Sl1 (laws_heldIntS.l1 k) fun n1 => .nil))) .nil))
def laws_heldIntS.ent : Ent := ⟨49, laws_heldIntS.sig, laws_heldIntS.F⟩
def laws_heldIntS.ctx (k : Nat) : Ctx := ⟨tds, [], k, 21⟩
theorem laws_heldIntS.runs : RunsT laws_heldIntS.sig laws_heldIntS.ctx Tryz.f49 laws_heldIntS.ann laws_heldIntS.F := fun k x => by kernel_rfl
theorem laws_heldIntS.obls : OblT tds laws_heldIntS.sig laws_heldIntS.ctx 1 Tryz.f49 laws_heldIntS.ann := fun k => ⟨tr, ⟨⟨tr, ⟨⟨by kernel_rfl, fun x => by kernel_rfl⟩, fun n => ⟨fun x => by kernel_rfl, ⟨⟨tr, ⟨tr, tr⟩⟩, ⟨⟨⟨tr, ⟨⟨tr, tr⟩, tr⟩⟩, tr⟩, tr⟩⟩⟩⟩⟩, ⟨tr, tr⟩⟩⟩
theorem laws_heldIntS.ok (k : Nat) : EntOk Tryz.prog k laws_heldIntS.ent := fn_ok (C := laws_heldIntS.ctx k) Tryz.func49 (by kernel_rfl) (by kernel_rfl) mixed tdsOk EntsOk.nil (by kernel_rfl) (leB (by kernel_rfl)) (by kernel_rfl) (laws_heldIntS.runs k) (laws_heldIntS.obls k)
/-! loop.example/g00200/laws.heldArena -/
def laws_heldArena.f (k : Nat) (a0 : DeI) (a1 : Int) : Option (Int) :=
  (laws_heldIntS.f k a0 a1).bind fun t1 => (if t1 < 0 then (some (-1)) else (some t1))
def laws_heldArena.sig : Sig := ⟨[.val true (.sl 3 TyI) [0], .val false TyI []], [.val false TyI []]⟩
def laws_heldArena.F : FT laws_heldArena.sig := fun k x => laws_heldArena.f k x.1 x.2.1
def laws_heldArena.ann : AT laws_heldArena.sig := fun k => .nil
def laws_heldArena.ent : Ent := ⟨46, laws_heldArena.sig, laws_heldArena.F⟩
def laws_heldArena.ctx (k : Nat) : Ctx := ⟨tds, [laws_heldIntS.ent], k, 12⟩
theorem laws_heldArena.runs : RunsT laws_heldArena.sig laws_heldArena.ctx Tryz.f46 laws_heldArena.ann laws_heldArena.F := fun k x => by kernel_rfl
theorem laws_heldArena.obls : OblT tds laws_heldArena.sig laws_heldArena.ctx 1 Tryz.f46 laws_heldArena.ann := fun k => ⟨tr, ⟨tr, ⟨⟨tr, ⟨⟨tr, tr⟩, tr⟩⟩, ⟨tr, tr⟩⟩⟩⟩
theorem laws_heldArena.ok (k : Nat) : EntOk Tryz.prog k laws_heldArena.ent := fn_ok (C := laws_heldArena.ctx k) Tryz.func46 (by kernel_rfl) (by kernel_rfl) mixed tdsOk (.cons (laws_heldIntS.ok k) EntsOk.nil) (by kernel_rfl) (leB (by kernel_rfl)) (by kernel_rfl) (laws_heldArena.runs k) (laws_heldArena.obls k)
/-! loop.example/g00200/laws.heldPartS -/
def laws_heldPartS.l1 (k : Nat)  : Nat → Int × Int × DeP × Unit → Option (Int)
  | 0, _ => none
  | n + 1, (x1, x2, x3, _) => if x2 < (x3.length : Int) then (if 0 ≤ x2 then (if x2 < (x3.length : Int) then (if ¬ ((el TyP x3 x2.toNat).1) = x1 then (some (-1)) else (if 0 ≤ x2 then (if x2 < (x3.length : Int) then (if ¬ ((((el TyP x3 x2.toNat).2).1).1) = (w64 (x1 + 1)) then (some (-1)) else (if 0 ≤ x2 then (if x2 < (x3.length : Int) then ((laws_heldIntS.f k ((((el TyP x3 x2.toNat).2).1).2) (w64 ((w64 (x1 + 1)) + 1))).bind fun t1 => (if t1 < 0 then (some (-1)) else (if 0 ≤ x2 then (if x2 < (x3.length : Int) then (if ¬ ((((el TyP x3 x2.toNat).2).2).1) = t1 then (some (-1)) else (if 0 ≤ x2 then (if x2 < (x3.length : Int) then (if ¬ (((((el TyP x3 x2.toNat).2).2).2).1) = (w64 (t1 + 1)) then (some (-1)) else (if 0 ≤ x2 then (if x2 < (x3.length : Int) then (if ¬ (((((el TyP x3 x2.toNat).2).2).2).2) = (w64 ((w64 (t1 + 1)) + 1)) then (some (-1)) else (laws_heldPartS.l1 k n (w64 ((w64 ((w64 (t1 + 1)) + 1)) + 1), w64 (x2 + 1), x3, ()))) else none) else none)) else none) else none)) else none) else none))) else none) else none)) else none) else none)) else none) else none) else (some x1)
def laws_heldPartS.f (k : Nat) (a0 : DeP) (a1 : Int) : Option (Int) :=
  laws_heldPartS.l1 k k (a1, 0, a0, ())
def laws_heldPartS.Sl1 : Shape := ⟨[(0, false, [.own 0]), (1, false, [.int .i64]), (5, false, [.int .i64])], [(0, .view false 73 TyP)], 1⟩
def laws_heldPartS.sig : Sig := ⟨[.val false (.sl 73 TyP) [0], .val false TyI []], [.val false TyI []]⟩
def laws_heldPartS.F : FT laws_heldPartS.sig := fun k x => laws_heldPartS.f k x.1 x.2.1
def laws_heldPartS.ann : AT laws_heldPartS.sig := fun k => (.seq .nil (.seq (.seq .nil (.block (.loop laws_heldPartS.Sl1 (laws_heldPartS.l1 k) fun n1 => .nil))) .nil))
def laws_heldPartS.ent : Ent := ⟨47, laws_heldPartS.sig, laws_heldPartS.F⟩
def laws_heldPartS.ctx (k : Nat) : Ctx := ⟨tds, [laws_heldIntS.ent], k, 69⟩
theorem laws_heldPartS.runs : RunsT laws_heldPartS.sig laws_heldPartS.ctx Tryz.f47 laws_heldPartS.ann laws_heldPartS.F := fun k x => by kernel_rfl
theorem laws_heldPartS.obls : OblT tds laws_heldPartS.sig laws_heldPartS.ctx 1 Tryz.f47 laws_heldPartS.ann := fun k => ⟨tr, ⟨⟨tr, ⟨⟨by kernel_rfl, fun x => by kernel_rfl⟩, fun n => ⟨fun x => by kernel_rfl, ⟨⟨tr, ⟨tr, tr⟩⟩, ⟨⟨⟨tr, ⟨⟨tr, tr⟩, tr⟩⟩, ⟨tr, ⟨⟨tr, ⟨⟨tr, tr⟩, tr⟩⟩, ⟨tr, ⟨tr, ⟨⟨tr, ⟨⟨tr, tr⟩, tr⟩⟩, ⟨⟨tr, ⟨⟨tr, tr⟩, tr⟩⟩, ⟨tr, ⟨⟨tr, ⟨⟨tr, tr⟩, tr⟩⟩, ⟨tr, ⟨⟨tr, ⟨⟨tr, tr⟩, tr⟩⟩, tr⟩⟩⟩⟩⟩⟩⟩⟩⟩⟩⟩, tr⟩⟩⟩⟩⟩, ⟨tr, tr⟩⟩⟩
theorem laws_heldPartS.ok (k : Nat) : EntOk Tryz.prog k laws_heldPartS.ent := fn_ok (C := laws_heldPartS.ctx k) Tryz.func47 (by kernel_rfl) (by kernel_rfl) mixed tdsOk (.cons (laws_heldIntS.ok k) EntsOk.nil) (by kernel_rfl) (leB (by kernel_rfl)) (by kernel_rfl) (laws_heldPartS.runs k) (laws_heldPartS.obls k)
/-! loop.example/g00200/laws.heldMsgS -/
def laws_heldMsgS.l1 (k : Nat)  : Nat → Int × Int × De2 × Unit → Option (Int)
  | 0, _ => none
  | n + 1, (x1, x2, x3, _) => if x2 < (x3.length : Int) then (if 0 ≤ x2 then (if x2 < (x3.length : Int) then (if ¬ ((el Ty2 x3 x2.toNat).1) = x1 then (some (-1)) else (if 0 ≤ x2 then (if x2 < (x3.length : Int) then (if ¬ ((el Ty2 x3 x2.toNat).2) = (w64 (x1 + 1)) then (some (-1)) else (laws_heldMsgS.l1 k n (w64 ((w64 (x1 + 1)) + 1), w64 (x2 + 1), x3, ()))) else none) else none)) else none) else none) else (some x1)
def laws_heldMsgS.f (k : Nat) (a0 : De2) (a1 : Int) : Option (Int) :=
  laws_heldMsgS.l1 k k (a1, 0, a0, ())
def laws_heldMsgS.Sl1 : Shape := ⟨[(0, false, [.own 0]), (1, false, [.int .i64]), (5, false, [.int .i64])], [(0, .view false 210 Ty2)], 1⟩
def laws_heldMsgS.sig : Sig := ⟨[.val false (.sl 210 Ty2) [0], .val false TyI []], [.val false TyI []]⟩
def laws_heldMsgS.F : FT laws_heldMsgS.sig := fun k x => laws_heldMsgS.f k x.1 x.2.1
def laws_heldMsgS.ann : AT laws_heldMsgS.sig := fun k => (.seq .nil (.seq (.seq .nil (.block (.loop laws_heldMsgS.Sl1 (laws_heldMsgS.l1 k) fun n1 => .nil))) .nil))
def laws_heldMsgS.ent : Ent := ⟨109, laws_heldMsgS.sig, laws_heldMsgS.F⟩
def laws_heldMsgS.ctx (k : Nat) : Ctx := ⟨tds, [], k, 31⟩
theorem laws_heldMsgS.runs : RunsT laws_heldMsgS.sig laws_heldMsgS.ctx Tryz.f109 laws_heldMsgS.ann laws_heldMsgS.F := fun k x => by kernel_rfl
theorem laws_heldMsgS.obls : OblT tds laws_heldMsgS.sig laws_heldMsgS.ctx 1 Tryz.f109 laws_heldMsgS.ann := fun k => ⟨tr, ⟨⟨tr, ⟨⟨by kernel_rfl, fun x => by kernel_rfl⟩, fun n => ⟨fun x => by kernel_rfl, ⟨⟨tr, ⟨tr, tr⟩⟩, ⟨⟨⟨tr, ⟨⟨tr, tr⟩, tr⟩⟩, ⟨tr, ⟨⟨tr, ⟨⟨tr, tr⟩, tr⟩⟩, tr⟩⟩⟩, tr⟩⟩⟩⟩⟩, ⟨tr, tr⟩⟩⟩
theorem laws_heldMsgS.ok (k : Nat) : EntOk Tryz.prog k laws_heldMsgS.ent := fn_ok (C := laws_heldMsgS.ctx k) Tryz.func109 (by kernel_rfl) (by kernel_rfl) mixed tdsOk EntsOk.nil (by kernel_rfl) (leB (by kernel_rfl)) (by kernel_rfl) (laws_heldMsgS.runs k) (laws_heldMsgS.obls k)
/-! loop.example/g00200/laws.heldLineS -/
def laws_heldLineS.l1 (k : Nat)  : Nat → Int × Int × DeL × Unit → Option (Int)
  | 0, _ => none
  | n + 1, (x1, x2, x3, _) => if x2 < (x3.length : Int) then (if 0 ≤ x2 then (if x2 < (x3.length : Int) then ((laws_heldMsgS.f k (el (.sl 210 Ty2) x3 x2.toNat) x1).bind fun t1 => (if t1 < 0 then (some (-1)) else (laws_heldLineS.l1 k n (t1, w64 (x2 + 1), x3, ())))) else none) else none) else (some x1)
def laws_heldLineS.f (k : Nat) (a0 : DeL) (a1 : Int) : Option (Int) :=
  laws_heldLineS.l1 k k (a1, 0, a0, ())
def laws_heldLineS.Sl1 : Shape := ⟨[(0, false, [.own 0]), (1, false, [.int .i64]), (5, false, [.int .i64])], [(0, .view false 115 (.sl 210 Ty2))], 1⟩
def laws_heldLineS.sig : Sig := ⟨[.val false (.sl 115 (.sl 210 Ty2)) [0], .val false TyI []], [.val false TyI []]⟩
def laws_heldLineS.F : FT laws_heldLineS.sig := fun k x => laws_heldLineS.f k x.1 x.2.1
def laws_heldLineS.ann : AT laws_heldLineS.sig := fun k => (.seq .nil (.seq (.seq .nil (.block (.loop laws_heldLineS.Sl1 (laws_heldLineS.l1 k) fun n1 => .nil))) .nil))
def laws_heldLineS.ent : Ent := ⟨48, laws_heldLineS.sig, laws_heldLineS.F⟩
def laws_heldLineS.ctx (k : Nat) : Ctx := ⟨tds, [laws_heldMsgS.ent], k, 22⟩
theorem laws_heldLineS.runs : RunsT laws_heldLineS.sig laws_heldLineS.ctx Tryz.f48 laws_heldLineS.ann laws_heldLineS.F := fun k x => by kernel_rfl
theorem laws_heldLineS.obls : OblT tds laws_heldLineS.sig laws_heldLineS.ctx 1 Tryz.f48 laws_heldLineS.ann := fun k => ⟨tr, ⟨⟨tr, ⟨⟨by kernel_rfl, fun x => by kernel_rfl⟩, fun n => ⟨fun x => by kernel_rfl, ⟨⟨tr, ⟨tr, tr⟩⟩, ⟨⟨tr, ⟨tr, ⟨⟨tr, tr⟩, tr⟩⟩⟩, tr⟩⟩⟩⟩⟩, ⟨tr, tr⟩⟩⟩
theorem laws_heldLineS.ok (k : Nat) : EntOk Tryz.prog k laws_heldLineS.ent := fn_ok (C := laws_heldLineS.ctx k) Tryz.func48 (by kernel_rfl) (by kernel_rfl) mixed tdsOk (.cons (laws_heldMsgS.ok k) EntsOk.nil) (by kernel_rfl) (leB (by kernel_rfl)) (by kernel_rfl) (laws_heldLineS.runs k) (laws_heldLineS.obls k)
/-! loop.example/g00200/laws.heldEntryS -/
def laws_heldEntryS.l1 (k : Nat)  : Nat → Int × Int × De5 × Unit → Option (Int)
  | 0, _ => none
  | n + 1, (x1, x2, x3, _) => if x2 < (x3.length : Int) then (if 0 ≤ x2 then (if x2 < (x3.length : Int) then (if ¬ ((el Ty5 x3 x2.toNat).1) = x1 then (some (-1)) else (if 0 ≤ x2 then (if x2 < (x3.length : Int) then (if ¬ (((el Ty5 x3 x2.toNat).2).1) = (w64 (x1 + 1)) then (some (-1)) else (if 0 ≤ x2 then (if x2 < (x3.length : Int) then (if ¬ ((((el Ty5 x3 x2.toNat).2).2).1) = (w64 ((w64 (x1 + 1)) + 1)) then (some (-1)) else (if 0 ≤ x2 then (if x2 < (x3.length : Int) then (if ¬ (((((el Ty5 x3 x2.toNat).2).2).2).1) = (w64 ((w64 ((w64 (x1 + 1)) + 1)) + 1)) then (some (-1)) else (if 0 ≤ x2 then (if x2 < (x3.length : Int) then (if ¬ (((((el Ty5 x3 x2.toNat).2).2).2).2) = (w64 ((w64 ((w64 ((w64 (x1 + 1)) + 1)) + 1)) + 1)) then (some (-1)) else (laws_heldEntryS.l1 k n (w64 ((w64 ((w64 ((w64 ((w64 (x1 + 1)) + 1)) + 1)) + 1)) + 1), w64 (x2 + 1), x3, ()))) else none) else none)) else none) else none)) else none) else none)) else none) else none)) else none) else none) else (some x1)
def laws_heldEntryS.f (k : Nat) (a0 : De5) (a1 : Int) : Option (Int) :=
  laws_heldEntryS.l1 k k (a1, 0, a0, ())
def laws_heldEntryS.Sl1 : Shape := ⟨[(0, false, [.own 0]), (1, false, [.int .i64]), (5, false, [.int .i64])], [(0, .view false 140 Ty5)], 1⟩
def laws_heldEntryS.sig : Sig := ⟨[.val false (.sl 140 Ty5) [0], .val false TyI []], [.val false TyI []]⟩
def laws_heldEntryS.F : FT laws_heldEntryS.sig := fun k x => laws_heldEntryS.f k x.1 x.2.1
def laws_heldEntryS.ann : AT laws_heldEntryS.sig := fun k => (.seq .nil (.seq (.seq .nil (.block (.loop laws_heldEntryS.Sl1 (laws_heldEntryS.l1 k) fun n1 => .nil))) .nil))
def laws_heldEntryS.ent : Ent := ⟨50, laws_heldEntryS.sig, laws_heldEntryS.F⟩
def laws_heldEntryS.ctx (k : Nat) : Ctx := ⟨tds, [], k, 58⟩
theorem laws_heldEntryS.runs : RunsT laws_heldEntryS.sig laws_heldEntryS.ctx Tryz.f50 laws_heldEntryS.ann laws_heldEntryS.F := fun k x => by kernel_rfl
theorem laws_heldEntryS.obls : OblT tds laws_heldEntryS.sig laws_heldEntryS.ctx 1 Tryz.f50 laws_heldEntryS.ann := fun k => ⟨tr, ⟨⟨tr, ⟨⟨by kernel_rfl, fun x => by kernel_rfl⟩, fun n => ⟨fun x => by kernel_rfl, ⟨⟨tr, ⟨tr, tr⟩⟩, ⟨⟨⟨tr, ⟨⟨tr, tr⟩, tr⟩⟩, ⟨tr, ⟨⟨tr, ⟨⟨tr, tr⟩, tr⟩⟩, ⟨tr, ⟨⟨tr, ⟨⟨tr, tr⟩, tr⟩⟩, ⟨tr, ⟨⟨tr, ⟨⟨tr, tr⟩, tr⟩⟩, ⟨tr, ⟨⟨tr, ⟨⟨tr, tr⟩, tr⟩⟩, tr⟩⟩⟩⟩⟩⟩⟩⟩⟩, tr⟩⟩⟩⟩⟩, ⟨tr, tr⟩⟩⟩
theorem laws_heldEntryS.ok (k : Nat) : EntOk Tryz.prog k laws_heldEntryS.ent := fn_ok (C := laws_heldEntryS.ctx k) Tryz.func50 (by kernel_rfl) (by kernel_rfl) mixed tdsOk EntsOk.nil (by kernel_rfl) (leB (by kernel_rfl)) (by kernel_rfl) (laws_heldEntryS.runs k) (laws_heldEntryS.obls k)
/-! loop.example/g00200/laws.heldKernel -/
def laws_heldKernel.f (k : Nat) (a0 : DeK) (a1 : Int) : Option (Int) :=
  (laws_heldSetup.f k a0.1 a1).bind fun t1 => (if t1 < 0 then (some (-1)) else ((laws_heldArena.f k a0.2.1 t1).bind fun t2 => (if t2 < 0 then (some (-1)) else ((laws_heldPartS.f k a0.2.2.1 t2).bind fun t3 => (if t3 < 0 then (some (-1)) else ((laws_heldLineS.f k a0.2.2.2.1 t3).bind fun t4 => (if t4 < 0 then (some (-1)) else ((laws_heldIntS.f k a0.2.2.2.2.1 t4).bind fun t5 => (if t5 < 0 then (some (-1)) else ((laws_heldEntryS.f k a0.2.2.2.2.2.2.2 t5).bind fun t6 => (if t6 < 0 then (some (-1)) else (some t6))))))))))))
def laws_heldKernel.sig : Sig := ⟨[.val true (.pair (.pair (.sl 127 Ty2) (.pair (.sl 181 Ty2) (.pair (.sl 121 Ty5) (.pair (.sl 187 Ty3) (.sl 9 .str))))) (.pair (.sl 3 TyI) (.pair (.sl 73 TyP) (.pair (.sl 115 (.sl 210 Ty2)) (.pair (.sl 3 TyI) (.pair TyI (.pair .bool (.sl 140 Ty5)))))))) [0, 0, 0, 0, 0, 0, 0, 0, 0, 0], .val false TyI []], [.val false TyI []]⟩
def laws_heldKernel.F : FT laws_heldKernel.sig := fun k x => laws_heldKernel.f k x.1 x.2.1
def laws_heldKernel.ann : AT laws_heldKernel.sig := fun k => .nil
def laws_heldKernel.ent : Ent := ⟨13, laws_heldKernel.sig, laws_heldKernel.F⟩
def laws_heldKernel.ctx (k : Nat) : Ctx := ⟨tds, [laws_heldSetup.ent, laws_heldArena.ent, laws_heldPartS.ent, laws_heldLineS.ent, laws_heldIntS.ent, laws_heldEntryS.ent], k, 42⟩
theorem laws_heldKernel.runs : RunsT laws_heldKernel.sig laws_heldKernel.ctx Tryz.f13 laws_heldKernel.ann laws_heldKernel.F := fun k x => by kernel_rfl
theorem laws_heldKernel.obls : OblT tds laws_heldKernel.sig laws_heldKernel.ctx 10 Tryz.f13 laws_heldKernel.ann := fun k => ⟨tr, ⟨tr, ⟨⟨tr, ⟨⟨tr, tr⟩, tr⟩⟩, ⟨tr, ⟨⟨tr, ⟨⟨tr, tr⟩, tr⟩⟩, ⟨tr, ⟨⟨tr, ⟨⟨tr, tr⟩, tr⟩⟩, ⟨tr, ⟨⟨tr, ⟨⟨tr, tr⟩, tr⟩⟩, ⟨tr, ⟨⟨tr, ⟨⟨tr, tr⟩, tr⟩⟩, ⟨tr, ⟨⟨tr, ⟨⟨tr, tr⟩, tr⟩⟩, ⟨tr, tr⟩⟩⟩⟩⟩⟩⟩⟩⟩⟩⟩⟩⟩⟩
theorem laws_heldKernel.ok (k : Nat) : EntOk Tryz.prog k laws_heldKernel.ent := fn_ok (C := laws_heldKernel.ctx k) Tryz.func13 (by kernel_rfl) (by kernel_rfl) mixed tdsOk (.cons (laws_heldSetup.ok k) (.cons (laws_heldArena.ok k) (.cons (laws_heldPartS.ok k) (.cons (laws_heldLineS.ok k) (.cons (laws_heldIntS.ok k) (.cons (laws_heldEntryS.ok k) EntsOk.nil)))))) (by kernel_rfl) (leB (by kernel_rfl)) (by kernel_rfl) (laws_heldKernel.runs k) (laws_heldKernel.obls k)
end Go.Proofs.YtefidhlonfiicaaGreat.QA
