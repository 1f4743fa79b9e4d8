/- The row of the law FnExactSendPort: for whatever comes in, it returns true, and what came in reads as before. No condition. -/
import Derived.Test.YtgihjaonapngdaaRows
import Derived.Test.YtgihjaonapngdaaQFnExactSendPort
import Derived.Test.YtgihjaonapngdaaPureFnExactSendPort
import Derived.Test.YtgihjaonapngdaaYOpens
import Derived.WalkKit
import Derived.ProofKit
import Derived.OpenShut
import Derived.ShutString
import Derived.ChangeOld
import Derived.Below
import Derived.SizedLaws
namespace Go.Proofs.Ytgihjaonapngdaa.fnExactSendPort
open Go.ChangeShapes Go.WideShapes Go.ChangeAt Go.RowKit Go.Proofs.YtgihjaonapngdaaY Go.Proofs.Ytgihjaonapngdaa.QFnExactSendPort Go.Proofs.YtgihjaonapngdaaW.PrintWords
set_option linter.unusedVariables false
theorem own : ownKnob Try.prog.godebug = none := by kernel_rfl
theorem laidOut : laidOutB Try.prog = true := by kernel_rfl
set_option maxRecDepth 100000 in
theorem lifted (os : Os) (started : os.Started) (H : Type) (enc : TypeId × Value → H) :
    ReturnsInHanded {} Try.checked os 12 .any (Rows.fnExactSendPortSpec.pre6 enc Try.prog Try.f12 Rows.fnExactSendPortRow.domain false) (Rows.fnExactSendPortSpec.post enc Try.prog Try.f12 false true false false) := by
  refine returnsInHanded_of_change_sized (C := Try.checked) own started (by kernel_rfl) Try.func12
    (ChangeSpec.witness6 (enc := enc) (C := Try.checked) false ⟨#[], #[.agg #[.int .i64 0, .int .i64 0, .int .i64 0, .int .i64 0, .int .i64 0], .agg #[.slice none 0 0], .int .i64 0, .int .i64 0], []⟩ 8 (by kernel_rfl) (by kernel_rfl) (by kernel_rfl) (by kernel_rfl)) ?_
  intro W base args ds gs before hval0 hW hcnd hsz0 _
  have hval : ∀ (j : Nat) t v, Try.f12.params[j]? = some t → args[j]? = some v → Value.okWide Try.prog W .any base t v := hval0
  have hW' := hW
  obtain ⟨p, q, hA0, hV, rfl, hfz, hnd⟩ := hW
  have hA : DataW.TrodAll enc Try.prog W 0 (fun _ => true) true Try.f12.params.toList args.toList ds p := hA0
  rw [Try.params12] at hA hval
  obtain ⟨v0, vs0, d0, ds0, p0, q0, hargs, rfl, rfl, h0, r0⟩ := trodAll_cons hA
  obtain ⟨v1, vs1, d1, ds1, p1, q1, rfl, rfl, rfl, h1, r1⟩ := trodAll_cons r0
  obtain ⟨v2, vs2, d2, ds2, p2, q2, rfl, rfl, rfl, h2, r2⟩ := trodAll_cons r1
  obtain ⟨v3, vs3, d3, ds3, p3, q3, rfl, rfl, rfl, h3, r3⟩ := trodAll_cons r2
  obtain ⟨rfl, rfl, rfl⟩ := trodAll_nil r3
  obtain rfl : args = #[v0, v1, v2, v3] := by cases args; simp_all
  obtain ⟨rfl, rfl⟩ := trodVars_none hV
  have k0 := h0
  have lt0 : ∀ x ∈ p0, x.block < W.heap.size := by obtain ⟨m, hm⟩ := k0; exact DataW.trod_lt m _ _ _ hm
  obtain ⟨f0, hf0⟩ := h0
  obtain ⟨x0, K0, G0⟩ := (opens_struct (fun x : LPort => (x.f0, x.f1, x.f2, x.f3, x.f4)) (fun y => ⟨y.1, y.2.1, y.2.2.1, y.2.2.2.1, y.2.2.2.2⟩) (fun _ => rfl) Try.underlying81 (by kernel_rfl) (opens_more rfl (opens_int Try.underlying3 (by kernel_rfl)) (opens_more rfl (opens_int Try.underlying3 (by kernel_rfl)) (opens_more rfl (opens_int Try.underlying3 (by kernel_rfl)) (opens_more rfl (opens_int Try.underlying3 (by kernel_rfl)) (opens_one rfl (opens_int Try.underlying3 (by kernel_rfl)))))))).2 enc W _ _ f0 _ _ hf0
  obtain ⟨cs0, rfl⟩ := okWide_aggr Try.underlying81 (hval 0 81 v0 rfl rfl)
  have E0 := k_LPort_open K0
  have E0 := agg_of E0
  injection E0 with E0
  subst E0
  have k1 := h1
  have lt1 : ∀ x ∈ p1, x.block < W.heap.size := by obtain ⟨m, hm⟩ := k1; exact DataW.trod_lt m _ _ _ hm
  obtain ⟨f1, hf1⟩ := h1
  obtain ⟨x1, K1, G1⟩ := (opens_struct (fun x : LLine => x.f0) (fun y => ⟨y⟩) (fun _ => rfl) Try.underlying84 (by kernel_rfl) (opens_one rfl (opens_slice Try.underlying82 (by kernel_rfl) (opens_struct (fun x : LMsg => (x.f0, x.f1)) (fun y => ⟨y.1, y.2⟩) (fun _ => rfl) Try.underlying150 (by kernel_rfl) (opens_more rfl (opens_int Try.underlying3 (by kernel_rfl)) (opens_one rfl (opens_int Try.underlying3 (by kernel_rfl)))))))).2 enc W _ _ f1 _ _ hf1
  obtain ⟨cs1, rfl⟩ := okWide_aggr Try.underlying84 (hval 1 84 v1 rfl rfl)
  obtain ⟨A1_0, c1_0, E1, hc1_0, hr1_0⟩ := k_LLine_open K1
  have E1 := agg_of E1
  injection E1 with E1
  subst E1
  have k2 := h2
  have lt2 : ∀ x ∈ p2, x.block < W.heap.size := by obtain ⟨m, hm⟩ := k2; exact DataW.trod_lt m _ _ _ hm
  obtain ⟨f2, hf2⟩ := h2
  obtain ⟨x2, K2, G2⟩ := (opens_int Try.underlying3 (by kernel_rfl)).2 enc W _ _ f2 _ _ hf2
  obtain ⟨a2, rfl⟩ := okWide_int Try.underlying3 (hval 2 3 v2 rfl rfl)
  have E2 := int_of (show (Value.int .i64 a2).cells.toList = [.int .i64 x2] from K2); injection E2 with _ E2; have E2 := E2.symm; subst E2
  have k3 := h3
  have lt3 : ∀ x ∈ p3, x.block < W.heap.size := by obtain ⟨m, hm⟩ := k3; exact DataW.trod_lt m _ _ _ hm
  obtain ⟨f3, hf3⟩ := h3
  obtain ⟨x3, K3, G3⟩ := (opens_int Try.underlying3 (by kernel_rfl)).2 enc W _ _ f3 _ _ hf3
  obtain ⟨a3, rfl⟩ := okWide_int Try.underlying3 (hval 3 3 v3 rfl rfl)
  have E3 := int_of (show (Value.int .i64 a3).cells.toList = [.int .i64 x3] from K3); injection E3 with _ E3; have E3 := E3.symm; subst E3
  clear hA0 hval0 hsz0
  obtain ⟨k, hk⟩ := Pure.FnExactSendPort x0 x1 x2 x3 G0 G1 G2 G3
  refine (laws_FnExactSendPort.calls (w0 := W) (w := W) k x0 x1 A1_0 _ c1_0 ⟨⟨hr1_0, hc1_0⟩⟩ x2 x3 St.start true ⟨hk⟩).mono fun e W' ⟨he, S0⟩ => ?_
  have bel : Below W.heap.size W W' := S0.below
  subst he
  exact ⟨_, rfl, _, _, _, [], _, [], hW', trodAll_mk1 (shut_bool Try.underlying4 _), (trodAll_cons_mk (Below.trod laidOut (by kernel_rfl) (of_decide_eq_true (by kernel_rfl)) k0 bel lt0) (trodAll_cons_mk (Below.trod laidOut (by kernel_rfl) (of_decide_eq_true (by kernel_rfl)) k1 bel lt1) (trodAll_cons_mk (Below.trod laidOut (by kernel_rfl) (of_decide_eq_true (by kernel_rfl)) k2 bel lt2) (trodAll_cons_mk (Below.trod laidOut (by kernel_rfl) (of_decide_eq_true (by kernel_rfl)) k3 bel lt3) trodAll_mk0)))), rfl, bel.frame _, fun h => by cases h⟩
theorem over : Rows.fnExactSendPortRow.holds Try.pinned (OpenSpec.ofChange Rows.fnExactSendPortSpec) :=
  OpenClaim.holds_of_wide 12 Try.f12 rfl rfl rfl rfl rfl rfl rfl ⟨rfl, rfl, rfl, rfl, rfl⟩ rfl rfl rfl rfl rfl (by kernel_rfl) Try.func12 (by kernel_rfl)
    (of_decide_eq_true (by kernel_rfl)) (by unfold Func.isWrapper; first | (rw [if_pos (by decide +kernel)]; kernel_rfl) | (rw [if_neg (by decide +kernel)]; exact ⟨rfl, rfl⟩))
    (fun os started H enc _ => lifted os started H enc)
theorem proved : Rows.FnExactSendPortSaid := over
#print axioms proved
end Go.Proofs.Ytgihjaonapngdaa.fnExactSendPort
namespace Go.Proofs.Ytgihjaonapngdaa
/-- The row, under a short name, for the claim. -/
theorem fnExactSendPort_holds : Rows.FnExactSendPortSaid := fnExactSendPort.proved
end Go.Proofs.Ytgihjaonapngdaa
