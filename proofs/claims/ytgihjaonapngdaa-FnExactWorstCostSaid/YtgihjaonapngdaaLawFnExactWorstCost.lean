/- The row of the law FnExactWorstCost: for whatever comes in, it returns true, and what came in reads as before. No condition. -/
import Derived.Test.YtgihjaonapngdaaRows
import Derived.Test.YtgihjaonapngdaaPFnExactWorstCostx5
import Derived.Test.YtgihjaonapngdaaPureFnExactWorstCost
import Derived.Test.YtgihjaonapngdaaYOpens
import Derived.WalkKit
import Derived.ProofKit
import Derived.OpenShut
import Derived.ShutString
import Derived.ChangeOld
import Derived.Below
import Derived.SizedLaws
namespace Go.Proofs.Ytgihjaonapngdaa.fnExactWorstCost
open Go.ChangeShapes Go.WideShapes Go.ChangeAt Go.RowKit Go.Proofs.YtgihjaonapngdaaY Go.Proofs.Ytgihjaonapngdaa.PFnExactWorstCost Go.Proofs.YtgihjaonapngdaaW.PrintWords
set_option linter.unusedVariables false
theorem own : ownKnob Try.prog.godebug = none := by kernel_rfl
theorem laidOut : laidOutB Try.prog = true := by kernel_rfl
set_option maxRecDepth 100000 in
theorem lifted (os : Os) (started : os.Started) (H : Type) (enc : TypeId × Value → H) :
    ReturnsInHanded {} Try.checked os 10 .any (Rows.fnExactWorstCostSpec.pre6 enc Try.prog Try.f10 Rows.fnExactWorstCostRow.domain false) (Rows.fnExactWorstCostSpec.post enc Try.prog Try.f10 false true false false) := by
  refine returnsInHanded_of_change_sized (C := Try.checked) own started (by kernel_rfl) Try.func10
    (ChangeSpec.witness6 (enc := enc) (C := Try.checked) false ⟨#[], #[.slice none 0 0], []⟩ 8 (by kernel_rfl) (by kernel_rfl) (by kernel_rfl) (by kernel_rfl)) ?_
  intro W base args ds gs before hval0 hW hcnd hsz0 _
  have hval : ∀ (j : Nat) t v, Try.f10.params[j]? = some t → args[j]? = some v → Value.okWide Try.prog W .any base t v := hval0
  have hW' := hW
  obtain ⟨p, q, hA0, hV, rfl, hfz, hnd⟩ := hW
  have hA : DataW.TrodAll enc Try.prog W 0 (fun _ => true) true Try.f10.params.toList args.toList ds p := hA0
  rw [Try.params10] at hA hval
  obtain ⟨v0, vs0, d0, ds0, p0, q0, hargs, rfl, rfl, h0, r0⟩ := trodAll_cons hA
  obtain ⟨rfl, rfl, rfl⟩ := trodAll_nil r0
  obtain rfl : args = #[v0] := by cases args; simp_all
  obtain ⟨rfl, rfl⟩ := trodVars_none hV
  have k0 := h0
  have lt0 : ∀ x ∈ p0, x.block < W.heap.size := by obtain ⟨m, hm⟩ := k0; exact DataW.trod_lt m _ _ _ hm
  obtain ⟨f0, hf0⟩ := h0
  obtain ⟨x0, K0, G0⟩ := (opens_slice Try.underlying62 (by kernel_rfl) (opens_struct (fun x : S117 => (x.f0, x.f1)) (fun y => ⟨y.1, y.2⟩) (fun _ => rfl) Try.underlying117 (by kernel_rfl) (opens_more rfl (opens_int Try.underlying3 (by kernel_rfl)) (opens_one rfl (opens_int Try.underlying3 (by kernel_rfl)))))).2 enc W _ _ f0 _ _ hf0
  obtain ⟨b0, n0, e0, rfl⟩ := okWide_slice Try.underlying62 (hval 0 62 v0 rfl rfl)
  obtain ⟨A0, c0, E0, hc0, hr0⟩ := K0
  have E0 := slice_of E0
  injection E0 with ea0 eb0 ec0
  have ea0 := ea0.symm; have eb0 := eb0.symm; have ec0 := ec0.symm
  subst ea0 eb0 ec0
  clear hA0 hval0 hsz0
  obtain ⟨k, hk⟩ := Pure.FnExactWorstCost x0 G0
  refine (laws_FnExactWorstCost.calls k A0 c0 x0 true W hr0 hc0 hk).mono fun e W' ⟨he, bel0⟩ => ?_
  have bel : Below W.heap.size W W' := bel0
  subst he
  exact ⟨_, rfl, _, _, _, [], _, [], hW', trodAll_mk1 (shut_bool Try.underlying4 _), (trodAll_cons_mk (Below.trod laidOut (by kernel_rfl) (of_decide_eq_true (by kernel_rfl)) k0 bel lt0) trodAll_mk0), rfl, bel.frame _, fun h => by cases h⟩
theorem over : Rows.fnExactWorstCostRow.holds Try.pinned (OpenSpec.ofChange Rows.fnExactWorstCostSpec) :=
  OpenClaim.holds_of_wide 10 Try.f10 rfl rfl rfl rfl rfl rfl rfl ⟨rfl, rfl, rfl, rfl, rfl⟩ rfl rfl rfl rfl rfl (by kernel_rfl) Try.func10 (by kernel_rfl)
    (of_decide_eq_true (by kernel_rfl)) (by unfold Func.isWrapper; first | (rw [if_pos (by decide +kernel)]; kernel_rfl) | (rw [if_neg (by decide +kernel)]; exact ⟨rfl, rfl⟩))
    (fun os started H enc _ => lifted os started H enc)
theorem proved : Rows.FnExactWorstCostSaid := over
#print axioms proved
end Go.Proofs.Ytgihjaonapngdaa.fnExactWorstCost
namespace Go.Proofs.Ytgihjaonapngdaa
/-- The row, under a short name, for the claim. -/
theorem fnExactWorstCost_holds : Rows.FnExactWorstCostSaid := fnExactWorstCost.proved
end Go.Proofs.Ytgihjaonapngdaa
