/- The row of the law FnExactRunPart: for whatever comes in, it returns true, and what came in reads as before. No condition. -/
import Derived.Test.YtefidhlonfiicaaGreatRows
import Derived.Test.YtefidhlonfiicaaGreatQFnExactRunPart
import Derived.Test.YtefidhlonfiicaaGreatPFnExactRunPart
import Derived.Test.YtefidhlonfiicaaGreatAbOp
import Derived.WalkKit
import Derived.ProofKit
import Derived.OpenShut
import Derived.ShutString
import Derived.ChangeOld
import Derived.Below
import Derived.SizedLaws
namespace Go.Proofs.YtefidhlonfiicaaGreat.fnExactRunPart
open Go.ChangeShapes Go.WideShapes Go.ChangeAt Go.RowKit Go.Proofs.YtefidhlonfiicaaGreatA Go.Proofs.YtefidhlonfiicaaGreat.QFnExactRunPart Go.Proofs.YtefidhlonfiicaaGreatW.PrintWords Go.Proofs.YtefidhlonfiicaaGreat.QA
set_option linter.unusedVariables false
theorem own : ownKnob Tryz.prog.godebug = none := by kernel_rfl
theorem laidOut : laidOutB Tryz.prog = true := by kernel_rfl
set_option maxRecDepth 100000 in
theorem lifted (os : Os) (started : os.Started) (H : Type) (enc : TypeId × Value → H) :
    ReturnsInHanded {} Tryz.checked os 3 .any (Rows.fnExactRunPartSpec.pre6 enc Tryz.prog Tryz.f3 Rows.fnExactRunPartRow.domain false) (Rows.fnExactRunPartSpec.post enc Tryz.prog Tryz.f3 false true false false) := by
  refine returnsInHanded_of_change_sized (C := Tryz.checked) own started (by kernel_rfl) Tryz.func3
    (ChangeSpec.witness6 (enc := enc) (C := Tryz.checked) false ⟨#[], #[.agg #[.slice none 0 0, .slice none 0 0, .slice none 0 0, .slice none 0 0, .slice none 0 0, .slice none 0 0, .slice none 0 0, .slice none 0 0, .slice none 0 0, .int .i64 0, .bool false, .slice none 0 0], .int .i64 0, .int .i64 0, .slice none 0 0], []⟩ 8 (by kernel_rfl) (by kernel_rfl) (by kernel_rfl) (by kernel_rfl)) ?_
  intro W base args ds gs before hval0 hW hcnd hsz0 _
  have hval : ∀ (j : Nat) t v, Tryz.f3.params[j]? = some t → args[j]? = some v → Value.okWide Tryz.prog W .any base t v := hval0
  have hW' := hW
  obtain ⟨p, q, hA0, hV, rfl, hfz, hnd⟩ := hW
  have hA : DataW.TrodAll enc Tryz.prog W 0 (fun _ => true) true Tryz.f3.params.toList args.toList ds p := hA0
  rw [Tryz.params3] at hA hval
  obtain ⟨v0, vs0, d0, ds0, p0, q0, hargs, rfl, rfl, h0, r0⟩ := trodAll_cons hA
  obtain ⟨v1, vs1, d1, ds1, p1, q1, rfl, rfl, rfl, h1, r1⟩ := trodAll_cons r0
  obtain ⟨v2, vs2, d2, ds2, p2, q2, rfl, rfl, rfl, h2, r2⟩ := trodAll_cons r1
  obtain ⟨v3, vs3, d3, ds3, p3, q3, rfl, rfl, rfl, h3, r3⟩ := trodAll_cons r2
  obtain ⟨rfl, rfl, rfl⟩ := trodAll_nil r3
  obtain rfl : args = #[v0, v1, v2, v3] := by cases args; simp_all
  obtain ⟨rfl, rfl⟩ := trodVars_none hV
  have k0 := h0
  have lt0 : ∀ x ∈ p0, x.block < W.heap.size := by obtain ⟨m, hm⟩ := k0; exact DataW.trod_lt m _ _ _ hm
  obtain ⟨f0, hf0⟩ := h0
  obtain ⟨x0, K0, G0⟩ : ∃ y : den (.pair (.pair (.sl 179 (.pair (.int .i64) (.int .i64))) (.pair (.sl 183 (.pair (.int .i64) (.int .i64))) (.pair (.sl 185 (.pair (.int .i64) (.pair (.int .i64) (.pair (.int .i64) (.pair (.int .i64) (.int .i64)))))) (.pair (.sl 189 (.pair (.int .i64) (.pair (.int .i64) (.int .i64)))) (.sl 9 .str))))) (.pair (.sl 3 (.int .i64)) (.pair (.sl 105 (.pair (.int .i64) (.pair (.pair (.int .i64) (.sl 3 (.int .i64))) (.pair (.int .i64) (.pair (.int .i64) (.int .i64)))))) (.pair (.sl 109 (.sl 212 (.pair (.int .i64) (.int .i64)))) (.pair (.sl 3 (.int .i64)) (.pair (.int .i64) (.pair .bool (.sl 142 (.pair (.int .i64) (.pair (.int .i64) (.pair (.int .i64) (.pair (.int .i64) (.int .i64))))))))))))), (kd (.pair (.pair (.sl 179 (.pair (.int .i64) (.int .i64))) (.pair (.sl 183 (.pair (.int .i64) (.int .i64))) (.pair (.sl 185 (.pair (.int .i64) (.pair (.int .i64) (.pair (.int .i64) (.pair (.int .i64) (.int .i64)))))) (.pair (.sl 189 (.pair (.int .i64) (.pair (.int .i64) (.int .i64)))) (.sl 9 .str))))) (.pair (.sl 3 (.int .i64)) (.pair (.sl 105 (.pair (.int .i64) (.pair (.pair (.int .i64) (.sl 3 (.int .i64))) (.pair (.int .i64) (.pair (.int .i64) (.int .i64)))))) (.pair (.sl 109 (.sl 212 (.pair (.int .i64) (.int .i64)))) (.pair (.sl 3 (.int .i64)) (.pair (.int .i64) (.pair .bool (.sl 142 (.pair (.int .i64) (.pair (.int .i64) (.pair (.int .i64) (.pair (.int .i64) (.int .i64)))))))))))))).K W y v0.cells.toList ∧ Wf (.pair (.pair (.sl 179 (.pair (.int .i64) (.int .i64))) (.pair (.sl 183 (.pair (.int .i64) (.int .i64))) (.pair (.sl 185 (.pair (.int .i64) (.pair (.int .i64) (.pair (.int .i64) (.pair (.int .i64) (.int .i64)))))) (.pair (.sl 189 (.pair (.int .i64) (.pair (.int .i64) (.int .i64)))) (.sl 9 .str))))) (.pair (.sl 3 (.int .i64)) (.pair (.sl 105 (.pair (.int .i64) (.pair (.pair (.int .i64) (.sl 3 (.int .i64))) (.pair (.int .i64) (.pair (.int .i64) (.int .i64)))))) (.pair (.sl 109 (.sl 212 (.pair (.int .i64) (.int .i64)))) (.pair (.sl 3 (.int .i64)) (.pair (.int .i64) (.pair .bool (.sl 142 (.pair (.int .i64) (.pair (.int .i64) (.pair (.int .i64) (.pair (.int .i64) (.int .i64))))))))))))) y := (opens_pairs Tryz.underlying36 (by kernel_rfl) (opens_more rfl (opens_pairs Tryz.underlying28 (by kernel_rfl) (opens_more rfl (opens_slice Tryz.underlying22 (by kernel_rfl) (opens_pairs Tryz.underlying179 (by kernel_rfl) (opens_more rfl (opens_int Tryz.underlying3 (by kernel_rfl)) (opens_one rfl (opens_int Tryz.underlying3 (by kernel_rfl)))))) (opens_more rfl (opens_slice Tryz.underlying23 (by kernel_rfl) (opens_pairs Tryz.underlying183 (by kernel_rfl) (opens_more rfl (opens_int Tryz.underlying3 (by kernel_rfl)) (opens_one rfl (opens_int Tryz.underlying3 (by kernel_rfl)))))) (opens_more rfl (opens_slice Tryz.underlying24 (by kernel_rfl) (opens_pairs Tryz.underlying185 (by kernel_rfl) (opens_more rfl (opens_int Tryz.underlying3 (by kernel_rfl)) (opens_more rfl (opens_int Tryz.underlying3 (by kernel_rfl)) (opens_more rfl (opens_int Tryz.underlying3 (by kernel_rfl)) (opens_more rfl (opens_int Tryz.underlying3 (by kernel_rfl)) (opens_one rfl (opens_int Tryz.underlying3 (by kernel_rfl))))))))) (opens_more rfl (opens_slice Tryz.underlying25 (by kernel_rfl) (opens_pairs Tryz.underlying189 (by kernel_rfl) (opens_more rfl (opens_int Tryz.underlying3 (by kernel_rfl)) (opens_more rfl (opens_int Tryz.underlying3 (by kernel_rfl)) (opens_one rfl (opens_int Tryz.underlying3 (by kernel_rfl))))))) (opens_one rfl (opens_slice Tryz.underlying26 (by kernel_rfl) (opens_string Tryz.underlying9 (by kernel_rfl))))))))) (opens_more rfl (opens_pairs Tryz.underlying31 (by kernel_rfl) (opens_one rfl (opens_slice Tryz.underlying29 (by kernel_rfl) (opens_int Tryz.underlying3 (by kernel_rfl))))) (opens_more rfl (opens_slice Tryz.underlying32 (by kernel_rfl) (opens_pairs Tryz.underlying105 (by kernel_rfl) (opens_more rfl (opens_int Tryz.underlying3 (by kernel_rfl)) (opens_more rfl (opens_pairs Tryz.underlying103 (by kernel_rfl) (opens_more rfl (opens_int Tryz.underlying3 (by kernel_rfl)) (opens_one rfl (opens_slice Tryz.underlying29 (by kernel_rfl) (opens_int Tryz.underlying3 (by kernel_rfl)))))) (opens_more rfl (opens_int Tryz.underlying3 (by kernel_rfl)) (opens_more rfl (opens_int Tryz.underlying3 (by kernel_rfl)) (opens_one rfl (opens_int Tryz.underlying3 (by kernel_rfl))))))))) (opens_more rfl (opens_slice Tryz.underlying33 (by kernel_rfl) (opens_pairs Tryz.underlying109 (by kernel_rfl) (opens_one rfl (opens_slice Tryz.underlying107 (by kernel_rfl) (opens_pairs Tryz.underlying212 (by kernel_rfl) (opens_more rfl (opens_int Tryz.underlying3 (by kernel_rfl)) (opens_one rfl (opens_int Tryz.underlying3 (by kernel_rfl))))))))) (opens_more rfl (opens_slice Tryz.underlying29 (by kernel_rfl) (opens_int Tryz.underlying3 (by kernel_rfl))) (opens_more rfl (opens_int Tryz.underlying3 (by kernel_rfl)) (opens_more rfl (opens_bool Tryz.underlying4 (by kernel_rfl)) (opens_one rfl (opens_slice Tryz.underlying34 (by kernel_rfl) (opens_pairs Tryz.underlying142 (by kernel_rfl) (opens_more rfl (opens_int Tryz.underlying3 (by kernel_rfl)) (opens_more rfl (opens_int Tryz.underlying3 (by kernel_rfl)) (opens_more rfl (opens_int Tryz.underlying3 (by kernel_rfl)) (opens_more rfl (opens_int Tryz.underlying3 (by kernel_rfl)) (opens_one rfl (opens_int Tryz.underlying3 (by kernel_rfl)))))))))))))))))).2 enc W _ _ f0 _ _ hf0
  obtain ⟨cs0, rfl⟩ := okWide_aggr Tryz.underlying36 (hval 0 36 v0 rfl rfl)
  have k1 := h1
  have lt1 : ∀ x ∈ p1, x.block < W.heap.size := by obtain ⟨m, hm⟩ := k1; exact DataW.trod_lt m _ _ _ hm
  obtain ⟨f1, hf1⟩ := h1
  obtain ⟨x1, K1, G1⟩ : ∃ y : den (.int .i64), (kd (.int .i64)).K W y v1.cells.toList ∧ Wf (.int .i64) y := (opens_int Tryz.underlying3 (by kernel_rfl)).2 enc W _ _ f1 _ _ hf1
  obtain ⟨a1, rfl⟩ := okWide_int Tryz.underlying3 (hval 1 3 v1 rfl rfl)
  have k2 := h2
  have lt2 : ∀ x ∈ p2, x.block < W.heap.size := by obtain ⟨m, hm⟩ := k2; exact DataW.trod_lt m _ _ _ hm
  obtain ⟨f2, hf2⟩ := h2
  obtain ⟨x2, K2, G2⟩ : ∃ y : den (.int .i64), (kd (.int .i64)).K W y v2.cells.toList ∧ Wf (.int .i64) y := (opens_int Tryz.underlying3 (by kernel_rfl)).2 enc W _ _ f2 _ _ hf2
  obtain ⟨a2, rfl⟩ := okWide_int Tryz.underlying3 (hval 2 3 v2 rfl rfl)
  have k3 := h3
  have lt3 : ∀ x ∈ p3, x.block < W.heap.size := by obtain ⟨m, hm⟩ := k3; exact DataW.trod_lt m _ _ _ hm
  obtain ⟨f3, hf3⟩ := h3
  obtain ⟨x3, K3, G3⟩ : ∃ y : den (.sl 3 (.int .i64)), (kd (.sl 3 (.int .i64))).K W y v3.cells.toList ∧ Wf (.sl 3 (.int .i64)) y := (opens_slice Tryz.underlying29 (by kernel_rfl) (opens_int Tryz.underlying3 (by kernel_rfl))).2 enc W _ _ f3 _ _ hf3
  obtain ⟨b3, n3, e3, rfl⟩ := okWide_slice Tryz.underlying29 (hval 3 29 v3 rfl rfl)
  clear hA0 hval0 hsz0
  obtain ⟨k, hk⟩ := Pure.FnExactRunPart x0 x1 x2 x3 G0 G1 G2 G3
  refine (law_ok (laws_FnExactRunPart.ok k) (x := (x0, (x1, (x2, (x3, ()))))) (r := true) (args := #[_, _, _, _]) (u := .bool true) (by kernel_rfl) hk (Each.cons K0 (fun _ => rfl) (fun h => by cases h) (Each.cons K1 (fun h => by cases h) (fun _ => rfl) (Each.cons K2 (fun h => by cases h) (fun _ => rfl) (Each.cons K3 (fun h => by cases h) (fun _ => rfl) Each.nil)))) (fun _ => rfl)).mono fun e W' ⟨he, bel⟩ => ?_
  subst he
  exact ⟨_, rfl, _, _, _, [], _, [], hW', trodAll_mk1 (shut_bool Tryz.underlying4 _), (trodAll_cons_mk (Below.trod laidOut (by kernel_rfl) (of_decide_eq_true (by kernel_rfl)) k0 bel lt0) (trodAll_cons_mk (Below.trod laidOut (by kernel_rfl) (of_decide_eq_true (by kernel_rfl)) k1 bel lt1) (trodAll_cons_mk (Below.trod laidOut (by kernel_rfl) (of_decide_eq_true (by kernel_rfl)) k2 bel lt2) (trodAll_cons_mk (Below.trod laidOut (by kernel_rfl) (of_decide_eq_true (by kernel_rfl)) k3 bel lt3) trodAll_mk0)))), rfl, bel.frame _, fun h => by cases h⟩
theorem over : Rows.fnExactRunPartRow.holds Tryz.pinned (OpenSpec.ofChange Rows.fnExactRunPartSpec) :=
  OpenClaim.holds_of_wide 3 Tryz.f3 rfl rfl rfl rfl rfl rfl rfl ⟨rfl, rfl, rfl, rfl, rfl⟩ rfl rfl rfl rfl rfl (by kernel_rfl) Tryz.func3 (by kernel_rfl)
    (of_decide_eq_true (by kernel_rfl)) (by unfold Func.isWrapper; first | (rw [if_pos (by decide +kernel)]; kernel_rfl) | (rw [if_neg (by decide +kernel)]; exact ⟨rfl, rfl⟩))
    (fun os started H enc _ => lifted os started H enc)
theorem proved : Rows.FnExactRunPartSaid := over
#print axioms proved
end Go.Proofs.YtefidhlonfiicaaGreat.fnExactRunPart
namespace Go.Proofs.YtefidhlonfiicaaGreat
/-- The row, under a short name, for the claim. -/
theorem fnExactRunPart_holds : Rows.FnExactRunPartSaid := fnExactRunPart.proved
end Go.Proofs.YtefidhlonfiicaaGreat
