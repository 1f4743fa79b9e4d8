/- The row of the law FnExactSetupFault: for whatever comes in, it returns true, and what came in reads as before. No condition. -/
import Derived.Test.YtcnaldcinkmpbaaRows
import Derived.Test.YtcnaldcinkmpbaaPFnExactSetupFaultx14
import Derived.Test.YtcnaldcinkmpbaaPureFnExactSetupFault
import Derived.Test.YtcnaldcinkmpbaaYOpens
import Derived.WalkKit
import Derived.ProofKit
import Derived.OpenShut
import Derived.ShutString
import Derived.ChangeOld
import Derived.Below
import Derived.SizedLaws
namespace Go.Proofs.Ytcnaldcinkmpbaa.fnExactSetupFault
open Go.ChangeShapes Go.WideShapes Go.ChangeAt Go.RowKit Go.Proofs.YtcnaldcinkmpbaaY Go.Proofs.Ytcnaldcinkmpbaa.PFnExactSetupFault Go.Proofs.YtcnaldcinkmpbaaW.PrintWords
set_option linter.unusedVariables false
theorem own : ownKnob Try.prog.godebug = none := by kernel_rfl
theorem laidOut : laidOutB Try.prog = true := by kernel_rfl
structure S94 where
  f0 : (List S74)
  f1 : (List S193)
  f2 : (List S195)
  f3 : (List S197)
  f4 : (List ByteArray)
def k94 : Kd S94 := Kd.iso (Kd.pair (Kd.slice 74 k74) (Kd.pair (Kd.slice 193 k193) (Kd.pair (Kd.slice 195 k195) (Kd.pair (Kd.slice 197 k197) (Kd.slice 9 Kd.string))))) (fun x : S94 => (x.f0, x.f1, x.f2, x.f3, x.f4))
theorem k94_open {w : World} {x : S94} {cs : List Value} (h : k94.K w x cs) : ∃ (A0 : Option Addr) (c0 : Nat) (A1 : Option Addr) (c1 : Nat) (A2 : Option Addr) (c2 : Nat) (A3 : Option Addr) (c3 : Nat) (A4 : Option Addr) (c4 : Nat), cs = [.slice A0 x.f0.length c0, .slice A1 x.f1.length c1, .slice A2 x.f2.length c2, .slice A3 x.f3.length c3, .slice A4 x.f4.length c4] ∧ x.f0.length ≤ c0 ∧ Kd.C k74 w A0 x.f0.length x.f0 ∧ x.f1.length ≤ c1 ∧ Kd.C k193 w A1 x.f1.length x.f1 ∧ x.f2.length ≤ c2 ∧ Kd.C k195 w A2 x.f2.length x.f2 ∧ x.f3.length ≤ c3 ∧ Kd.C k197 w A3 x.f3.length x.f3 ∧ x.f4.length ≤ c4 ∧ Kd.C Kd.string w A4 x.f4.length x.f4 := by
  obtain ⟨_, _, rfl, ⟨A0, c0, rfl, hc0, hr0⟩, ⟨_, _, rfl, ⟨A1, c1, rfl, hc1, hr1⟩, ⟨_, _, rfl, ⟨A2, c2, rfl, hc2, hr2⟩, ⟨_, _, rfl, ⟨A3, c3, rfl, hc3, hr3⟩, ⟨A4, c4, rfl, hc4, hr4⟩⟩⟩⟩⟩ := h
  exact ⟨A0, c0, A1, c1, A2, c2, A3, c3, A4, c4, rfl, hc0, hr0, hc1, hr1, hc2, hr2, hc3, hr3, hc4, hr4⟩
set_option maxRecDepth 100000 in
theorem lifted (os : Os) (started : os.Started) (H : Type) (enc : TypeId × Value → H) :
    ReturnsInHanded {} Try.checked os 8 .any (Rows.fnExactSetupFaultSpec.pre6 enc Try.prog Try.f8 Rows.fnExactSetupFaultRow.domain false) (Rows.fnExactSetupFaultSpec.post enc Try.prog Try.f8 false true false false) := by
  refine returnsInHanded_of_change_sized (C := Try.checked) own started (by kernel_rfl) Try.func8
    (ChangeSpec.witness6 (enc := enc) (C := Try.checked) false ⟨#[], #[.agg #[.slice none 0 0, .slice none 0 0, .slice none 0 0, .slice none 0 0, .slice none 0 0]], []⟩ 8 (by kernel_rfl) (by kernel_rfl) (by kernel_rfl) (by kernel_rfl)) ?_
  intro W base args ds gs before hval0 hW hcnd hsz0 _
  have hval : ∀ (j : Nat) t v, Try.f8.params[j]? = some t → args[j]? = some v → Value.okWide Try.prog W .any base t v := hval0
  have hW' := hW
  obtain ⟨p, q, hA0, hV, rfl, hfz, hnd⟩ := hW
  have hA : DataW.TrodAll enc Try.prog W 0 (fun _ => true) true Try.f8.params.toList args.toList ds p := hA0
  rw [Try.params8] at hA hval
  obtain ⟨v0, vs0, d0, ds0, p0, q0, hargs, rfl, rfl, h0, r0⟩ := trodAll_cons hA
  obtain ⟨rfl, rfl, rfl⟩ := trodAll_nil r0
  obtain rfl : args = #[v0] := by cases args; simp_all
  obtain ⟨rfl, rfl⟩ := trodVars_none hV
  have k0 := h0
  have lt0 : ∀ x ∈ p0, x.block < W.heap.size := by obtain ⟨m, hm⟩ := k0; exact DataW.trod_lt m _ _ _ hm
  obtain ⟨f0, hf0⟩ := h0
  obtain ⟨x0, K0, G0⟩ := (opens_struct (fun x : S94 => (x.f0, x.f1, x.f2, x.f3, x.f4)) (fun y => ⟨y.1, y.2.1, y.2.2.1, y.2.2.2.1, y.2.2.2.2⟩) (fun _ => rfl) Try.underlying94 (by kernel_rfl) (opens_more rfl (opens_slice Try.underlying89 (by kernel_rfl) (opens_struct (fun x : S74 => (x.f0, x.f1)) (fun y => ⟨y.1, y.2⟩) (fun _ => rfl) Try.underlying74 (by kernel_rfl) (opens_more rfl (opens_int Try.underlying3 (by kernel_rfl)) (opens_one rfl (opens_int Try.underlying3 (by kernel_rfl)))))) (opens_more rfl (opens_slice Try.underlying90 (by kernel_rfl) (opens_struct (fun x : S193 => (x.f0, x.f1)) (fun y => ⟨y.1, y.2⟩) (fun _ => rfl) Try.underlying193 (by kernel_rfl) (opens_more rfl (opens_int Try.underlying3 (by kernel_rfl)) (opens_one rfl (opens_int Try.underlying3 (by kernel_rfl)))))) (opens_more rfl (opens_slice Try.underlying91 (by kernel_rfl) (opens_struct (fun x : S195 => (x.f0, x.f1, x.f2, x.f3, x.f4)) (fun y => ⟨y.1, y.2.1, y.2.2.1, y.2.2.2.1, y.2.2.2.2⟩) (fun _ => rfl) Try.underlying195 (by kernel_rfl) (opens_more rfl (opens_int Try.underlying3 (by kernel_rfl)) (opens_more rfl (opens_int Try.underlying3 (by kernel_rfl)) (opens_more rfl (opens_int Try.underlying3 (by kernel_rfl)) (opens_more rfl (opens_int Try.underlying3 (by kernel_rfl)) (opens_one rfl (opens_int Try.underlying3 (by kernel_rfl))))))))) (opens_more rfl (opens_slice Try.underlying92 (by kernel_rfl) (opens_struct (fun x : S197 => (x.f0, x.f1, x.f2)) (fun y => ⟨y.1, y.2.1, y.2.2⟩) (fun _ => rfl) Try.underlying197 (by kernel_rfl) (opens_more rfl (opens_int Try.underlying3 (by kernel_rfl)) (opens_more rfl (opens_int Try.underlying3 (by kernel_rfl)) (opens_one rfl (opens_int Try.underlying3 (by kernel_rfl))))))) (opens_one rfl (opens_slice Try.underlying28 (by kernel_rfl) (opens_string Try.underlying9 (by kernel_rfl))))))))).2 enc W _ _ f0 _ _ hf0
  obtain ⟨cs0, rfl⟩ := okWide_aggr Try.underlying94 (hval 0 94 v0 rfl rfl)
  obtain ⟨A0_0, c0_0, A0_1, c0_1, A0_2, c0_2, A0_3, c0_3, A0_4, c0_4, E0, hc0_0, hr0_0, hc0_1, hr0_1, hc0_2, hr0_2, hc0_3, hr0_3, hc0_4, hr0_4⟩ := k94_open K0
  have E0 := agg_of E0
  injection E0 with E0
  subst E0
  clear hA0 hval0 hsz0
  obtain ⟨k, hk⟩ := Pure.FnExactSetupFault x0.f0 x0.f1 x0.f2 x0.f3 x0.f4 G0
  refine (laws_FnExactSetupFault.calls k A0_0 c0_0 x0.f0 A0_1 c0_1 x0.f1 A0_2 c0_2 x0.f2 A0_3 c0_3 x0.f3 A0_4 c0_4 x0.f4 true W hr0_0 hc0_0 hr0_1 hc0_1 hr0_2 hc0_2 hr0_3 hc0_3 hr0_4 hc0_4 hk).mono fun e W' ⟨he, bel0⟩ => ?_
  have bel : Below W.heap.size W W' := bel0
  subst he
  exact ⟨_, rfl, _, _, _, [], _, [], hW', trodAll_mk1 (shut_bool Try.underlying4 _), (trodAll_cons_mk (Below.trod laidOut (by kernel_rfl) (of_decide_eq_true (by kernel_rfl)) k0 bel lt0) trodAll_mk0), rfl, bel.frame _, fun h => by cases h⟩
theorem over : Rows.fnExactSetupFaultRow.holds Try.pinned (OpenSpec.ofChange Rows.fnExactSetupFaultSpec) :=
  OpenClaim.holds_of_wide 8 Try.f8 rfl rfl rfl rfl rfl rfl rfl ⟨rfl, rfl, rfl, rfl, rfl⟩ rfl rfl rfl rfl rfl (by kernel_rfl) Try.func8 (by kernel_rfl)
    (of_decide_eq_true (by kernel_rfl)) (by unfold Func.isWrapper; first | (rw [if_pos (by decide +kernel)]; kernel_rfl) | (rw [if_neg (by decide +kernel)]; exact ⟨rfl, rfl⟩))
    (fun os started H enc _ => lifted os started H enc)
theorem proved : Rows.FnExactSetupFaultSaid := over
#print axioms proved
end Go.Proofs.Ytcnaldcinkmpbaa.fnExactSetupFault
namespace Go.Proofs.Ytcnaldcinkmpbaa
/-- The row, under a short name, for the claim. -/
theorem fnExactSetupFault_holds : Rows.FnExactSetupFaultSaid := fnExactSetupFault.proved
end Go.Proofs.Ytcnaldcinkmpbaa
