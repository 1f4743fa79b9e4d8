/- The row of the law FnExactRulesOk: for whatever comes in, it returns true, and what came in reads as before. No condition. -/
import Derived.Test.YtbnmhfglkbkbnaaRows
import Derived.Test.YtbnmhfglkbkbnaaPFnExactRulesOkx3
import Derived.Test.YtbnmhfglkbkbnaaPureFnExactRulesOk
import Derived.Test.YtbnmhfglkbkbnaaYOpens
import Derived.WalkKit
import Derived.ProofKit
import Derived.OpenShut
import Derived.ShutString
import Derived.ChangeOld
import Derived.Below
import Derived.SizedLaws
namespace Go.Proofs.Ytbnmhfglkbkbnaa.fnExactRulesOk
open Go.ChangeShapes Go.WideShapes Go.ChangeAt Go.RowKit Go.Proofs.YtbnmhfglkbkbnaaY Go.Proofs.Ytbnmhfglkbkbnaa.PFnExactRulesOk Go.Proofs.YtbnmhfglkbkbnaaW.PrintWords
set_option linter.unusedVariables false
theorem own : ownKnob Try.prog.godebug = none := by kernel_rfl
theorem laidOut : laidOutB Try.prog = true := by kernel_rfl
set_option maxRecDepth 100000 in
theorem lifted (os : Os) (started : os.Started) (H : Type) (enc : TypeId × Value → H) :
    ReturnsInHanded {} Try.checked os 14 .any (Rows.fnExactRulesOkSpec.pre6 enc Try.prog Try.f14 Rows.fnExactRulesOkRow.domain false) (Rows.fnExactRulesOkSpec.post enc Try.prog Try.f14 false true false false) := by
  refine returnsInHanded_of_change_sized (C := Try.checked) own started (by kernel_rfl) Try.func14
    (ChangeSpec.witness6 (enc := enc) (C := Try.checked) false ⟨#[], #[.slice none 0 0], []⟩ 8 (by kernel_rfl) (by kernel_rfl) (by kernel_rfl) (by kernel_rfl)) ?_
  intro W base args ds gs before hval0 hW hcnd hsz0 _
  have hval : ∀ (j : Nat) t v, Try.f14.params[j]? = some t → args[j]? = some v → Value.okWide Try.prog W .any base t v := hval0
  have hW' := hW
  obtain ⟨p, q, hA0, hV, rfl, hfz, hnd⟩ := hW
  have hA : DataW.TrodAll enc Try.prog W 0 (fun _ => true) true Try.f14.params.toList args.toList ds p := hA0
  rw [Try.params14] at hA hval
  obtain ⟨v0, vs0, d0, ds0, p0, q0, hargs, rfl, rfl, h0, r0⟩ := trodAll_cons hA
  obtain ⟨rfl, rfl, rfl⟩ := trodAll_nil r0
  obtain rfl : args = #[v0] := by cases args; simp_all
  obtain ⟨rfl, rfl⟩ := trodVars_none hV
  have k0 := h0
  have lt0 : ∀ x ∈ p0, x.block < W.heap.size := by obtain ⟨m, hm⟩ := k0; exact DataW.trod_lt m _ _ _ hm
  obtain ⟨f0, hf0⟩ := h0
  obtain ⟨x0, K0, G0⟩ := (opens_slice Try.underlying78 (by kernel_rfl) (opens_struct (fun x : S119 => (x.f0, x.f1, x.f2)) (fun y => ⟨y.1, y.2.1, y.2.2⟩) (fun _ => rfl) Try.underlying119 (by kernel_rfl) (opens_more rfl (opens_int Try.underlying3 (by kernel_rfl)) (opens_more rfl (opens_int Try.underlying3 (by kernel_rfl)) (opens_one rfl (opens_int Try.underlying3 (by kernel_rfl))))))).2 enc W _ _ f0 _ _ hf0
  obtain ⟨b0, n0, e0, rfl⟩ := okWide_slice Try.underlying78 (hval 0 78 v0 rfl rfl)
  obtain ⟨A0, c0, E0, hc0, hr0⟩ := K0
  have E0 := slice_of E0
  injection E0 with ea0 eb0 ec0
  have ea0 := ea0.symm; have eb0 := eb0.symm; have ec0 := ec0.symm
  subst ea0 eb0 ec0
  clear hA0 hval0 hsz0
  obtain ⟨k, hk⟩ := Pure.FnExactRulesOk x0 G0
  refine (laws_FnExactRulesOk.calls k A0 c0 x0 true W hr0 hc0 hk).mono fun e W' ⟨he, bel0⟩ => ?_
  have bel : Below W.heap.size W W' := bel0
  subst he
  exact ⟨_, rfl, _, _, _, [], _, [], hW', trodAll_mk1 (shut_bool Try.underlying4 _), (trodAll_cons_mk (Below.trod laidOut (by kernel_rfl) (of_decide_eq_true (by kernel_rfl)) k0 bel lt0) trodAll_mk0), rfl, bel.frame _, fun h => by cases h⟩
theorem over : Rows.fnExactRulesOkRow.holds Try.pinned (OpenSpec.ofChange Rows.fnExactRulesOkSpec) :=
  OpenClaim.holds_of_wide 14 Try.f14 rfl rfl rfl rfl rfl rfl rfl ⟨rfl, rfl, rfl, rfl, rfl⟩ rfl rfl rfl rfl rfl (by kernel_rfl) Try.func14 (by kernel_rfl)
    (of_decide_eq_true (by kernel_rfl)) (by unfold Func.isWrapper; first | (rw [if_pos (by decide +kernel)]; kernel_rfl) | (rw [if_neg (by decide +kernel)]; exact ⟨rfl, rfl⟩))
    (fun os started H enc _ => lifted os started H enc)
theorem proved : Rows.FnExactRulesOkSaid := over
#print axioms proved
end Go.Proofs.Ytbnmhfglkbkbnaa.fnExactRulesOk
namespace Go.Proofs.Ytbnmhfglkbkbnaa
/-- The row, under a short name, for the claim. -/
theorem fnExactRulesOk_holds : Rows.FnExactRulesOkSaid := fnExactRulesOk.proved
end Go.Proofs.Ytbnmhfglkbkbnaa
