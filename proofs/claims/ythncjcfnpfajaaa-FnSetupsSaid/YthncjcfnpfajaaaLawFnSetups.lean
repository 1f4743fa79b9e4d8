/- The row of the law FnSetups: for whatever comes in, it returns true, and what came in reads as before. No condition. -/
import Derived.Test.YthncjcfnpfajaaaRows
import Derived.Test.YthncjcfnpfajaaaQFnSetups
import Derived.Test.YthncjcfnpfajaaaPFnSetups
import Derived.Test.YthncjcfnpfajaaaAbOp
import Derived.WalkKit
import Derived.ProofKit
import Derived.OpenShut
import Derived.ShutString
import Derived.ChangeOld
import Derived.Below
import Derived.SizedLaws
namespace Go.Proofs.Ythncjcfnpfajaaa.fnSetups
open Go.ChangeShapes Go.WideShapes Go.ChangeAt Go.RowKit Go.Proofs.YthncjcfnpfajaaaA Go.Proofs.Ythncjcfnpfajaaa.QFnSetups Go.Proofs.YthncjcfnpfajaaaW.PrintWords Go.Proofs.Ythncjcfnpfajaaa.QA
set_option linter.unusedVariables false
theorem own : ownKnob Try.prog.godebug = none := by kernel_rfl
theorem laidOut : laidOutB Try.prog = true := by kernel_rfl
set_option maxRecDepth 100000 in
theorem lifted (os : Os) (started : os.Started) (H : Type) (enc : TypeId × Value → H) :
    ReturnsInHanded {} Try.checked os 4 .any (Rows.fnSetupsSpec.pre6 enc Try.prog Try.f4 Rows.fnSetupsRow.domain false) (Rows.fnSetupsSpec.post enc Try.prog Try.f4 false true false false) := by
  refine returnsInHanded_of_change_sized (C := Try.checked) own started (by kernel_rfl) Try.func4
    (ChangeSpec.witness6 (enc := enc) (C := Try.checked) false ⟨#[], #[.slice none 0 0], []⟩ 8 (by kernel_rfl) (by kernel_rfl) (by kernel_rfl) (by kernel_rfl)) ?_
  intro W base args ds gs before hval0 hW hcnd hsz0 _
  have hval : ∀ (j : Nat) t v, Try.f4.params[j]? = some t → args[j]? = some v → Value.okWide Try.prog W .any base t v := hval0
  have hW' := hW
  obtain ⟨p, q, hA0, hV, rfl, hfz, hnd⟩ := hW
  have hA : DataW.TrodAll enc Try.prog W 0 (fun _ => true) true Try.f4.params.toList args.toList ds p := hA0
  rw [Try.params4] at hA hval
  obtain ⟨v0, vs0, d0, ds0, p0, q0, hargs, rfl, rfl, h0, r0⟩ := trodAll_cons hA
  obtain ⟨rfl, rfl, rfl⟩ := trodAll_nil r0
  obtain rfl : args = #[v0] := by cases args; simp_all
  obtain ⟨rfl, rfl⟩ := trodVars_none hV
  have k0 := h0
  have lt0 : ∀ x ∈ p0, x.block < W.heap.size := by obtain ⟨m, hm⟩ := k0; exact DataW.trod_lt m _ _ _ hm
  obtain ⟨f0, hf0⟩ := h0
  obtain ⟨x0, K0, G0⟩ : ∃ y : den (.sl 5 (.int .u8)), (kd (.sl 5 (.int .u8))).K W y v0.cells.toList ∧ Wf (.sl 5 (.int .u8)) y := (opens_slice Try.underlying34 (by kernel_rfl) (opens_int Try.underlying5 (by kernel_rfl))).2 enc W _ _ f0 _ _ hf0
  obtain ⟨b0, n0, e0, rfl⟩ := okWide_slice Try.underlying34 (hval 0 34 v0 rfl rfl)
  clear hA0 hval0 hsz0
  obtain ⟨k, hk⟩ := Pure.FnSetups x0 G0
  refine (law_ok (laws_FnSetups.ok k) (x := (x0, ())) (r := true) (args := #[_]) (u := .bool true) (by kernel_rfl) hk (Each.cons K0 (fun h => by cases h) (fun _ => rfl) Each.nil) (fun _ => rfl)).mono fun e W' ⟨he, bel⟩ => ?_
  subst he
  exact ⟨_, rfl, _, _, _, [], _, [], hW', trodAll_mk1 (shut_bool Try.underlying4 _), (trodAll_cons_mk (Below.trod laidOut (by kernel_rfl) (of_decide_eq_true (by kernel_rfl)) k0 bel lt0) trodAll_mk0), rfl, bel.frame _, fun h => by cases h⟩
theorem over : Rows.fnSetupsRow.holds Try.pinned (OpenSpec.ofChange Rows.fnSetupsSpec) :=
  OpenClaim.holds_of_wide 4 Try.f4 rfl rfl rfl rfl rfl rfl rfl ⟨rfl, rfl, rfl, rfl, rfl⟩ rfl rfl rfl rfl rfl (by kernel_rfl) Try.func4 (by kernel_rfl)
    (of_decide_eq_true (by kernel_rfl)) (by unfold Func.isWrapper; first | (rw [if_pos (by decide +kernel)]; kernel_rfl) | (rw [if_neg (by decide +kernel)]; exact ⟨rfl, rfl⟩))
    (fun os started H enc _ => lifted os started H enc)
theorem proved : Rows.FnSetupsSaid := over
#print axioms proved
end Go.Proofs.Ythncjcfnpfajaaa.fnSetups
namespace Go.Proofs.Ythncjcfnpfajaaa
/-- The row, under a short name, for the claim. -/
theorem fnSetups_holds : Rows.FnSetupsSaid := fnSetups.proved
end Go.Proofs.Ythncjcfnpfajaaa
