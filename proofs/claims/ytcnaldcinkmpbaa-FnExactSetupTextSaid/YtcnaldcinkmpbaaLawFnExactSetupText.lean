/- The row of the law FnExactSetupText: for whatever comes in, it returns true, and what came in reads as before. No condition. -/
import Derived.Test.YtcnaldcinkmpbaaRows
import Derived.Test.YtcnaldcinkmpbaaQFnExactSetupText
import Derived.Test.YtcnaldcinkmpbaaPFnExactSetupText
import Derived.Test.YtcnaldcinkmpbaaAbOp
import Derived.WalkKit
import Derived.ProofKit
import Derived.OpenShut
import Derived.ShutString
import Derived.ChangeOld
import Derived.Below
import Derived.SizedLaws
namespace Go.Proofs.Ytcnaldcinkmpbaa.fnExactSetupText
open Go.ChangeShapes Go.WideShapes Go.ChangeAt Go.RowKit Go.Proofs.YtcnaldcinkmpbaaA Go.Proofs.Ytcnaldcinkmpbaa.QFnExactSetupText Go.Proofs.YtcnaldcinkmpbaaW.PrintWords Go.Proofs.Ytcnaldcinkmpbaa.QA
set_option linter.unusedVariables false
theorem own : ownKnob Try.prog.godebug = none := by kernel_rfl
theorem laidOut : laidOutB Try.prog = true := by kernel_rfl
set_option maxRecDepth 100000 in
theorem lifted (os : Os) (started : os.Started) (H : Type) (enc : TypeId × Value → H) :
    ReturnsInHanded {} Try.checked os 11 .any (Rows.fnExactSetupTextSpec.pre6 enc Try.prog Try.f11 Rows.fnExactSetupTextRow.domain false) (Rows.fnExactSetupTextSpec.post enc Try.prog Try.f11 false true false false) := by
  refine returnsInHanded_of_change_sized (C := Try.checked) own started (by kernel_rfl) Try.func11
    (ChangeSpec.witness6 (enc := enc) (C := Try.checked) false ⟨#[], #[.agg #[.slice none 0 0, .slice none 0 0, .slice none 0 0, .slice none 0 0, .slice none 0 0]], []⟩ 8 (by kernel_rfl) (by kernel_rfl) (by kernel_rfl) (by kernel_rfl)) ?_
  intro W base args ds gs before hval0 hW hcnd hsz0 _
  have hval : ∀ (j : Nat) t v, Try.f11.params[j]? = some t → args[j]? = some v → Value.okWide Try.prog W .any base t v := hval0
  have hW' := hW
  obtain ⟨p, q, hA0, hV, rfl, hfz, hnd⟩ := hW
  have hA : DataW.TrodAll enc Try.prog W 0 (fun _ => true) true Try.f11.params.toList args.toList ds p := hA0
  rw [Try.params11] at hA hval
  obtain ⟨v0, vs0, d0, ds0, p0, q0, hargs, rfl, rfl, h0, r0⟩ := trodAll_cons hA
  obtain ⟨rfl, rfl, rfl⟩ := trodAll_nil r0
  obtain rfl : args = #[v0] := by cases args; simp_all
  obtain ⟨rfl, rfl⟩ := trodVars_none hV
  have k0 := h0
  have lt0 : ∀ x ∈ p0, x.block < W.heap.size := by obtain ⟨m, hm⟩ := k0; exact DataW.trod_lt m _ _ _ hm
  obtain ⟨f0, hf0⟩ := h0
  obtain ⟨x0, K0, G0⟩ : ∃ y : den (.pair (.sl 74 (.pair (.int .i64) (.int .i64))) (.pair (.sl 193 (.pair (.int .i64) (.int .i64))) (.pair (.sl 195 (.pair (.int .i64) (.pair (.int .i64) (.pair (.int .i64) (.pair (.int .i64) (.int .i64)))))) (.pair (.sl 197 (.pair (.int .i64) (.pair (.int .i64) (.int .i64)))) (.sl 9 .str))))), (kd (.pair (.sl 74 (.pair (.int .i64) (.int .i64))) (.pair (.sl 193 (.pair (.int .i64) (.int .i64))) (.pair (.sl 195 (.pair (.int .i64) (.pair (.int .i64) (.pair (.int .i64) (.pair (.int .i64) (.int .i64)))))) (.pair (.sl 197 (.pair (.int .i64) (.pair (.int .i64) (.int .i64)))) (.sl 9 .str)))))).K W y v0.cells.toList ∧ Wf (.pair (.sl 74 (.pair (.int .i64) (.int .i64))) (.pair (.sl 193 (.pair (.int .i64) (.int .i64))) (.pair (.sl 195 (.pair (.int .i64) (.pair (.int .i64) (.pair (.int .i64) (.pair (.int .i64) (.int .i64)))))) (.pair (.sl 197 (.pair (.int .i64) (.pair (.int .i64) (.int .i64)))) (.sl 9 .str))))) y := (opens_pairs Try.underlying94 (by kernel_rfl) (opens_more rfl (opens_slice Try.underlying89 (by kernel_rfl) (opens_pairs Try.underlying74 (by kernel_rfl) (opens_more rfl (opens_int Try.underlying3 (by kernel_rfl)) (opens_one rfl (opens_int Try.underlying3 (by kernel_rfl)))))) (opens_more rfl (opens_slice Try.underlying90 (by kernel_rfl) (opens_pairs Try.underlying193 (by kernel_rfl) (opens_more rfl (opens_int Try.underlying3 (by kernel_rfl)) (opens_one rfl (opens_int Try.underlying3 (by kernel_rfl)))))) (opens_more rfl (opens_slice Try.underlying91 (by kernel_rfl) (opens_pairs Try.underlying195 (by kernel_rfl) (opens_more rfl (opens_int Try.underlying3 (by kernel_rfl)) (opens_more rfl (opens_int Try.underlying3 (by kernel_rfl)) (opens_more rfl (opens_int Try.underlying3 (by kernel_rfl)) (opens_more rfl (opens_int Try.underlying3 (by kernel_rfl)) (opens_one rfl (opens_int Try.underlying3 (by kernel_rfl))))))))) (opens_more rfl (opens_slice Try.underlying92 (by kernel_rfl) (opens_pairs Try.underlying197 (by kernel_rfl) (opens_more rfl (opens_int Try.underlying3 (by kernel_rfl)) (opens_more rfl (opens_int Try.underlying3 (by kernel_rfl)) (opens_one rfl (opens_int Try.underlying3 (by kernel_rfl))))))) (opens_one rfl (opens_slice Try.underlying28 (by kernel_rfl) (opens_string Try.underlying9 (by kernel_rfl))))))))).2 enc W _ _ f0 _ _ hf0
  obtain ⟨cs0, rfl⟩ := okWide_aggr Try.underlying94 (hval 0 94 v0 rfl rfl)
  clear hA0 hval0 hsz0
  obtain ⟨k, hk⟩ := Pure.FnExactSetupText x0 G0
  refine (law_ok (laws_FnExactSetupText.ok k) (x := (x0, ())) (r := true) (args := #[_]) (u := .bool true) (by kernel_rfl) hk (Each.cons K0 (fun _ => rfl) (fun h => by cases h) Each.nil) (fun _ => rfl)).mono fun e W' ⟨he, bel⟩ => ?_
  subst he
  exact ⟨_, rfl, _, _, _, [], _, [], hW', trodAll_mk1 (shut_bool Try.underlying4 _), (trodAll_cons_mk (Below.trod laidOut (by kernel_rfl) (of_decide_eq_true (by kernel_rfl)) k0 bel lt0) trodAll_mk0), rfl, bel.frame _, fun h => by cases h⟩
theorem over : Rows.fnExactSetupTextRow.holds Try.pinned (OpenSpec.ofChange Rows.fnExactSetupTextSpec) :=
  OpenClaim.holds_of_wide 11 Try.f11 rfl rfl rfl rfl rfl rfl rfl ⟨rfl, rfl, rfl, rfl, rfl⟩ rfl rfl rfl rfl rfl (by kernel_rfl) Try.func11 (by kernel_rfl)
    (of_decide_eq_true (by kernel_rfl)) (by unfold Func.isWrapper; first | (rw [if_pos (by decide +kernel)]; kernel_rfl) | (rw [if_neg (by decide +kernel)]; exact ⟨rfl, rfl⟩))
    (fun os started H enc _ => lifted os started H enc)
theorem proved : Rows.FnExactSetupTextSaid := over
#print axioms proved
end Go.Proofs.Ytcnaldcinkmpbaa.fnExactSetupText
namespace Go.Proofs.Ytcnaldcinkmpbaa
/-- The row, under a short name, for the claim. -/
theorem fnExactSetupText_holds : Rows.FnExactSetupTextSaid := fnExactSetupText.proved
end Go.Proofs.Ytcnaldcinkmpbaa
