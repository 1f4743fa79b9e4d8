/- The row of the law FnExactPartView: for whatever comes in, it returns true, and what came in reads as before. No condition. -/
import Derived.Test.YtacpibmmodeacaaRows
import Derived.Test.YtacpibmmodeacaaQFnExactPartView
import Derived.Test.YtacpibmmodeacaaPFnExactPartView
import Derived.Test.YtacpibmmodeacaaAbOp
import Derived.WalkKit
import Derived.ProofKit
import Derived.OpenShut
import Derived.ShutString
import Derived.ChangeOld
import Derived.Below
import Derived.SizedLaws
namespace Go.Proofs.Ytacpibmmodeacaa.fnExactPartView
open Go.ChangeShapes Go.WideShapes Go.ChangeAt Go.RowKit Go.Proofs.YtacpibmmodeacaaA Go.Proofs.Ytacpibmmodeacaa.QFnExactPartView Go.Proofs.YtacpibmmodeacaaW.PrintWords Go.Proofs.Ytacpibmmodeacaa.QA
set_option linter.unusedVariables false
theorem own : ownKnob Try.prog.godebug = none := by kernel_rfl
theorem laidOut : laidOutB Try.prog = true := by kernel_rfl
set_option maxRecDepth 100000 in
theorem lifted (os : Os) (started : os.Started) (H : Type) (enc : TypeId × Value → H) :
    ReturnsInHanded {} Try.checked os 9 .any (Rows.fnExactPartViewSpec.pre6 enc Try.prog Try.f9 Rows.fnExactPartViewRow.domain false) (Rows.fnExactPartViewSpec.post enc Try.prog Try.f9 false true false false) := by
  refine returnsInHanded_of_change_sized (C := Try.checked) own started (by kernel_rfl) Try.func9
    (ChangeSpec.witness6 (enc := enc) (C := Try.checked) false ⟨#[], #[.agg #[.slice none 0 0, .slice none 0 0, .slice none 0 0, .slice none 0 0, .slice none 0 0, .slice none 0 0, .slice none 0 0, .slice none 0 0, .slice none 0 0, .int .i64 0, .bool false, .slice none 0 0], .int .i64 0], []⟩ 8 (by kernel_rfl) (by kernel_rfl) (by kernel_rfl) (by kernel_rfl)) ?_
  intro W base args ds gs before hval0 hW hcnd hsz0 _
  have hval : ∀ (j : Nat) t v, Try.f9.params[j]? = some t → args[j]? = some v → Value.okWide Try.prog W .any base t v := hval0
  have hW' := hW
  obtain ⟨p, q, hA0, hV, rfl, hfz, hnd⟩ := hW
  have hA : DataW.TrodAll enc Try.prog W 0 (fun _ => true) true Try.f9.params.toList args.toList ds p := hA0
  rw [Try.params9] at hA hval
  obtain ⟨v0, vs0, d0, ds0, p0, q0, hargs, rfl, rfl, h0, r0⟩ := trodAll_cons hA
  obtain ⟨v1, vs1, d1, ds1, p1, q1, rfl, rfl, rfl, h1, r1⟩ := trodAll_cons r0
  obtain ⟨rfl, rfl, rfl⟩ := trodAll_nil r1
  obtain rfl : args = #[v0, v1] := by cases args; simp_all
  obtain ⟨rfl, rfl⟩ := trodVars_none hV
  have k0 := h0
  have lt0 : ∀ x ∈ p0, x.block < W.heap.size := by obtain ⟨m, hm⟩ := k0; exact DataW.trod_lt m _ _ _ hm
  obtain ⟨f0, hf0⟩ := h0
  obtain ⟨x0, K0, G0⟩ : ∃ y : den (.pair (.pair (.sl 214 (.pair (.int .i64) (.int .i64))) (.pair (.sl 216 (.pair (.int .i64) (.int .i64))) (.pair (.sl 218 (.pair (.int .i64) (.pair (.int .i64) (.pair (.int .i64) (.pair (.int .i64) (.int .i64)))))) (.pair (.sl 220 (.pair (.int .i64) (.pair (.int .i64) (.int .i64)))) (.sl 9 .str))))) (.pair (.sl 3 (.int .i64)) (.pair (.sl 200 (.pair (.int .i64) (.pair (.pair (.int .i64) (.sl 3 (.int .i64))) (.pair (.int .i64) (.pair (.int .i64) (.int .i64)))))) (.pair (.sl 204 (.sl 243 (.pair (.int .i64) (.int .i64)))) (.pair (.sl 3 (.int .i64)) (.pair (.int .i64) (.pair .bool (.sl 208 (.pair (.int .i64) (.pair (.int .i64) (.pair (.int .i64) (.pair (.int .i64) (.int .i64))))))))))))), (kd (.pair (.pair (.sl 214 (.pair (.int .i64) (.int .i64))) (.pair (.sl 216 (.pair (.int .i64) (.int .i64))) (.pair (.sl 218 (.pair (.int .i64) (.pair (.int .i64) (.pair (.int .i64) (.pair (.int .i64) (.int .i64)))))) (.pair (.sl 220 (.pair (.int .i64) (.pair (.int .i64) (.int .i64)))) (.sl 9 .str))))) (.pair (.sl 3 (.int .i64)) (.pair (.sl 200 (.pair (.int .i64) (.pair (.pair (.int .i64) (.sl 3 (.int .i64))) (.pair (.int .i64) (.pair (.int .i64) (.int .i64)))))) (.pair (.sl 204 (.sl 243 (.pair (.int .i64) (.int .i64)))) (.pair (.sl 3 (.int .i64)) (.pair (.int .i64) (.pair .bool (.sl 208 (.pair (.int .i64) (.pair (.int .i64) (.pair (.int .i64) (.pair (.int .i64) (.int .i64)))))))))))))).K W y v0.cells.toList ∧ Wf (.pair (.pair (.sl 214 (.pair (.int .i64) (.int .i64))) (.pair (.sl 216 (.pair (.int .i64) (.int .i64))) (.pair (.sl 218 (.pair (.int .i64) (.pair (.int .i64) (.pair (.int .i64) (.pair (.int .i64) (.int .i64)))))) (.pair (.sl 220 (.pair (.int .i64) (.pair (.int .i64) (.int .i64)))) (.sl 9 .str))))) (.pair (.sl 3 (.int .i64)) (.pair (.sl 200 (.pair (.int .i64) (.pair (.pair (.int .i64) (.sl 3 (.int .i64))) (.pair (.int .i64) (.pair (.int .i64) (.int .i64)))))) (.pair (.sl 204 (.sl 243 (.pair (.int .i64) (.int .i64)))) (.pair (.sl 3 (.int .i64)) (.pair (.int .i64) (.pair .bool (.sl 208 (.pair (.int .i64) (.pair (.int .i64) (.pair (.int .i64) (.pair (.int .i64) (.int .i64))))))))))))) y := (opens_pairs Try.underlying82 (by kernel_rfl) (opens_more rfl (opens_pairs Try.underlying76 (by kernel_rfl) (opens_more rfl (opens_slice Try.underlying71 (by kernel_rfl) (opens_pairs Try.underlying214 (by kernel_rfl) (opens_more rfl (opens_int Try.underlying3 (by kernel_rfl)) (opens_one rfl (opens_int Try.underlying3 (by kernel_rfl)))))) (opens_more rfl (opens_slice Try.underlying72 (by kernel_rfl) (opens_pairs Try.underlying216 (by kernel_rfl) (opens_more rfl (opens_int Try.underlying3 (by kernel_rfl)) (opens_one rfl (opens_int Try.underlying3 (by kernel_rfl)))))) (opens_more rfl (opens_slice Try.underlying73 (by kernel_rfl) (opens_pairs Try.underlying218 (by kernel_rfl) (opens_more rfl (opens_int Try.underlying3 (by kernel_rfl)) (opens_more rfl (opens_int Try.underlying3 (by kernel_rfl)) (opens_more rfl (opens_int Try.underlying3 (by kernel_rfl)) (opens_more rfl (opens_int Try.underlying3 (by kernel_rfl)) (opens_one rfl (opens_int Try.underlying3 (by kernel_rfl))))))))) (opens_more rfl (opens_slice Try.underlying74 (by kernel_rfl) (opens_pairs Try.underlying220 (by kernel_rfl) (opens_more rfl (opens_int Try.underlying3 (by kernel_rfl)) (opens_more rfl (opens_int Try.underlying3 (by kernel_rfl)) (opens_one rfl (opens_int Try.underlying3 (by kernel_rfl))))))) (opens_one rfl (opens_slice Try.underlying37 (by kernel_rfl) (opens_string Try.underlying9 (by kernel_rfl))))))))) (opens_more rfl (opens_pairs Try.underlying77 (by kernel_rfl) (opens_one rfl (opens_slice Try.underlying44 (by kernel_rfl) (opens_int Try.underlying3 (by kernel_rfl))))) (opens_more rfl (opens_slice Try.underlying78 (by kernel_rfl) (opens_pairs Try.underlying200 (by kernel_rfl) (opens_more rfl (opens_int Try.underlying3 (by kernel_rfl)) (opens_more rfl (opens_pairs Try.underlying198 (by kernel_rfl) (opens_more rfl (opens_int Try.underlying3 (by kernel_rfl)) (opens_one rfl (opens_slice Try.underlying44 (by kernel_rfl) (opens_int Try.underlying3 (by kernel_rfl)))))) (opens_more rfl (opens_int Try.underlying3 (by kernel_rfl)) (opens_more rfl (opens_int Try.underlying3 (by kernel_rfl)) (opens_one rfl (opens_int Try.underlying3 (by kernel_rfl))))))))) (opens_more rfl (opens_slice Try.underlying79 (by kernel_rfl) (opens_pairs Try.underlying204 (by kernel_rfl) (opens_one rfl (opens_slice Try.underlying202 (by kernel_rfl) (opens_pairs Try.underlying243 (by kernel_rfl) (opens_more rfl (opens_int Try.underlying3 (by kernel_rfl)) (opens_one rfl (opens_int Try.underlying3 (by kernel_rfl))))))))) (opens_more rfl (opens_slice Try.underlying44 (by kernel_rfl) (opens_int Try.underlying3 (by kernel_rfl))) (opens_more rfl (opens_int Try.underlying3 (by kernel_rfl)) (opens_more rfl (opens_bool Try.underlying4 (by kernel_rfl)) (opens_one rfl (opens_slice Try.underlying80 (by kernel_rfl) (opens_pairs Try.underlying208 (by kernel_rfl) (opens_more rfl (opens_int Try.underlying3 (by kernel_rfl)) (opens_more rfl (opens_int Try.underlying3 (by kernel_rfl)) (opens_more rfl (opens_int Try.underlying3 (by kernel_rfl)) (opens_more rfl (opens_int Try.underlying3 (by kernel_rfl)) (opens_one rfl (opens_int Try.underlying3 (by kernel_rfl)))))))))))))))))).2 enc W _ _ f0 _ _ hf0
  obtain ⟨cs0, rfl⟩ := okWide_aggr Try.underlying82 (hval 0 82 v0 rfl rfl)
  have k1 := h1
  have lt1 : ∀ x ∈ p1, x.block < W.heap.size := by obtain ⟨m, hm⟩ := k1; exact DataW.trod_lt m _ _ _ hm
  obtain ⟨f1, hf1⟩ := h1
  obtain ⟨x1, K1, G1⟩ : ∃ y : den (.int .i64), (kd (.int .i64)).K W y v1.cells.toList ∧ Wf (.int .i64) y := (opens_int Try.underlying3 (by kernel_rfl)).2 enc W _ _ f1 _ _ hf1
  obtain ⟨a1, rfl⟩ := okWide_int Try.underlying3 (hval 1 3 v1 rfl rfl)
  clear hA0 hval0 hsz0
  obtain ⟨k, hk⟩ := Pure.FnExactPartView x0 x1 G0 G1
  refine (law_ok (laws_FnExactPartView.ok k) (x := (x0, (x1, ()))) (r := true) (args := #[_, _]) (u := .bool true) (by kernel_rfl) hk (Each.cons K0 (fun _ => rfl) (fun h => by cases h) (Each.cons K1 (fun h => by cases h) (fun _ => rfl) Each.nil)) (fun _ => rfl)).mono fun e W' ⟨he, bel⟩ => ?_
  subst he
  exact ⟨_, rfl, _, _, _, [], _, [], hW', trodAll_mk1 (shut_bool Try.underlying4 _), (trodAll_cons_mk (Below.trod laidOut (by kernel_rfl) (of_decide_eq_true (by kernel_rfl)) k0 bel lt0) (trodAll_cons_mk (Below.trod laidOut (by kernel_rfl) (of_decide_eq_true (by kernel_rfl)) k1 bel lt1) trodAll_mk0)), rfl, bel.frame _, fun h => by cases h⟩
theorem over : Rows.fnExactPartViewRow.holds Try.pinned (OpenSpec.ofChange Rows.fnExactPartViewSpec) :=
  OpenClaim.holds_of_wide 9 Try.f9 rfl rfl rfl rfl rfl rfl rfl ⟨rfl, rfl, rfl, rfl, rfl⟩ rfl rfl rfl rfl rfl (by kernel_rfl) Try.func9 (by kernel_rfl)
    (of_decide_eq_true (by kernel_rfl)) (by unfold Func.isWrapper; first | (rw [if_pos (by decide +kernel)]; kernel_rfl) | (rw [if_neg (by decide +kernel)]; exact ⟨rfl, rfl⟩))
    (fun os started H enc _ => lifted os started H enc)
theorem proved : Rows.FnExactPartViewSaid := over
#print axioms proved
end Go.Proofs.Ytacpibmmodeacaa.fnExactPartView
namespace Go.Proofs.Ytacpibmmodeacaa
/-- The row, under a short name, for the claim. -/
theorem fnExactPartView_holds : Rows.FnExactPartViewSaid := fnExactPartView.proved
end Go.Proofs.Ytacpibmmodeacaa
