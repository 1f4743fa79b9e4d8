/- The plain law of FnFaults. No condition. -/
import Derived.Test.YtcnaldcinkmpbaaTDrawSetup
import Derived.Test.YtcnaldcinkmpbaaTPlaces
import Derived.Test.YtcnaldcinkmpbaaQFnFaults
namespace Go.Proofs.Ytcnaldcinkmpbaa.Pure
open Go Go.Proofs.YtcnaldcinkmpbaaA Go.Proofs.YtcnaldcinkmpbaaU Go.Proofs.Ytcnaldcinkmpbaa.QA Go.Proofs.Ytcnaldcinkmpbaa.QFnFaults
set_option linter.unusedVariables false
set_option linter.unusedSimpArgs false
theorem FnFaults : ∀ (x0 : den (.sl 5 (.int .u8))), Wf (.sl 5 (.int .u8)) x0 → ∃ k, laws_FnFaults.f k x0 = some true := by
  intro xs _
  refine ⟨1048577, ?_⟩
  have hk : 1048576 < 1048577 := by omega
  generalize 1048577 = k at hk
  refine ok_eq ?_
  unfold laws_FnFaults.f
  refine big_ok (fun hl => ?_) (ok_some rfl)
  refine ok_bind (drawSetup_ok hl hk) ?_
  rintro ⟨R, W, P, U, C⟩ hD
  have hRg := regions_of hD.rows hD.n1 hD.n4
  have hPl := drawn_plan hD
  have hPo := drawn_ports hD
  have hRu := hD.rules
  have hCo := drawn_codes hD
  have hPa := drawn_parts hD
  have hS := drawn_small hD
  have l1 := hD.n1
  have l2 := hD.n4
  have l3 := hD.plan1
  have l4 := hD.plan5
  have l5 := hD.ports3
  have l6 := hD.rules.2
  have l7 := hD.codesN
  simp only at hRg hPl hPo hRu hCo hPa hS l1 l2 l3 l4 l5 l6 l7
  have f0 : faultM (R, W, P, U, C) = 0 := drawn_right hD
  have nC : ¬ CodesOk (C ++ [⟨#[]⟩]) (R.length : Int) := fun h => by
    have := h.2
    rw [List.length_append, List.length_cons, List.length_nil] at this
    omega
  have nU : ¬ RulesOk (U ++ [(0, 0, 0)]) := fun h => by
    have h1 := (h.1 U.length (by simp)).1.1
    rw [show el R3 (U ++ [(0, 0, 0)]) U.length = (0, 0, 0) from el_mid (t := R3) rfl] at h1
    dsimp only at h1
    omega
  have nP : ¬ PortsOk (P ++ [(0, 0, 0, 0, 0)]) := fun h => by
    have h1 := (h.1 P.length (by simp)).fr
    rw [show el P5 (P ++ [(0, 0, 0, 0, 0)]) P.length = (0, 0, 0, 0, 0) from el_mid (t := P5) rfl] at h1
    dsimp only at h1
    omega
  have nW : ¬ PlanOk [] := fun h => by have := h.2.1; simp at this
  have nR : ¬ RegionsOk [] := fun h => by have := h.2.1; simp at this
  have fa : faultM (R, W, P, U, C ++ [⟨#[]⟩]) = 5 := by
    unfold faultM
    rw [B_yes hRg, B_yes hPl, B_yes hPo, B_yes hRu, B_no nC]
    rfl
  have fb : faultM (R, W, P, U ++ [(0, 0, 0)], C ++ [⟨#[]⟩]) = 4 := by
    unfold faultM
    rw [B_yes hRg, B_yes hPl, B_yes hPo, B_no nU]
    rfl
  have fc : faultM (R, W, P ++ [(0, 0, 0, 0, 0)], U ++ [(0, 0, 0)], C ++ [⟨#[]⟩]) = 3 := by
    unfold faultM
    rw [B_yes hRg, B_yes hPl, B_no nP]
    rfl
  have fd : faultM (R, [], P ++ [(0, 0, 0, 0, 0)], U ++ [(0, 0, 0)], C ++ [⟨#[]⟩]) = 2 := by
    unfold faultM
    rw [B_yes hRg, B_no nW]
    rfl
  have fe : faultM ([], [], P ++ [(0, 0, 0, 0, 0)], U ++ [(0, 0, 0)], C ++ [⟨#[]⟩]) = 1 := by
    unfold faultM
    rw [B_no nR]
    rfl
  have hPl2 : PlanOk (W ++ [(4, 1)]) := by
    refine ⟨fun i hi => ?_, by simp, by rw [List.length_append, List.length_cons, List.length_nil]; omega⟩
    rcases Nat.lt_or_ge i W.length with h | h
    · rw [el_app (t := W2) h]
      exact hPl.1 i h
    · have hi' : i = W.length := by rw [List.length_append, List.length_cons, List.length_nil] at hi; omega
      rw [hi', show el W2 (W ++ [(4, 1)]) W.length = (4, 1) from el_mid (t := W2) rfl]
      exact ⟨by dsimp only; omega, by dsimp only; omega⟩
  have ff : faultM (R, W ++ [(4, 1)], P, U, C) = if (R.length : Int) < 4 then 6 else 0 := by
    by_cases h4 : (R.length : Int) < 4
    · have nA : ¬ PartsOk (R, W ++ [(4, 1)], P, U, C) := fun h => by
        have h1 := h.wins W.length (by simp)
        dsimp only at h1
        rw [show el W2 (W ++ [(4, 1)]) W.length = (4, 1) from el_mid (t := W2) rfl] at h1
        have h2 : (4 : Int) ≤ (R.length : Int) := h1
        omega
      rw [if_pos h4]
      unfold faultM
      rw [B_yes hRg, B_yes hPl2, B_yes hPo, B_yes hRu, B_yes hCo, B_no nA]
      rfl
    · rw [if_neg h4]
      refine fault0 hRg hPl2 hPo hRu hCo ⟨fun i hi => ?_, hPa.pfr, hPa.pto, hPa.rls⟩
      dsimp only at hi ⊢
      rcases Nat.lt_or_ge i W.length with h | h
      · rw [el_app (t := W2) h]
        exact hPa.wins i h
      · have hi' : i = W.length := by rw [List.length_append, List.length_cons, List.length_nil] at hi; omega
        rw [hi', show el W2 (W ++ [(4, 1)]) W.length = (4, 1) from el_mid (t := W2) rfl]
        show (4 : Int) ≤ (R.length : Int)
        omega
  have sm : ∀ {R' W' : List (Int × Int)} {P' : List Port5} {U' : List (Int × Int × Int)} {C' : List ByteArray}, R'.length ≤ 100 → W'.length ≤ 100 → P'.length ≤ 100 → U'.length ≤ 100 → C'.length ≤ 100 → Small (R', W', P', U', C') := fun a b c d e => ⟨by dsimp only; omega, by dsimp only; omega, by dsimp only; omega, by dsimp only; omega, by dsimp only; omega⟩
  have zC : (C ++ [(⟨#[]⟩ : ByteArray)]).length ≤ 100 := by rw [List.length_append, List.length_cons, List.length_nil]; omega
  have zU : (U ++ [((0 : Int), (0 : Int), (0 : Int))]).length ≤ 100 := by rw [List.length_append, List.length_cons, List.length_nil]; omega
  have zP : (P ++ [((0 : Int), (0 : Int), (0 : Int), (0 : Int), (0 : Int))]).length ≤ 100 := by rw [List.length_append, List.length_cons, List.length_nil]; omega
  have zW : (W ++ [((4 : Int), (1 : Int))]).length ≤ 100 := by rw [List.length_append, List.length_cons, List.length_nil]; omega
  have z0 : ([] : List (Int × Int)).length ≤ 100 := by simp
  have j1 : ∀ z : Int, z = (if (R.length : Int) < 4 then 6 else 0) → laws_FnFaults.j1 k (z, R, W, P, U, C, C ++ [⟨#[]⟩], U ++ [(0, 0, 0)], P ++ [(0, 0, 0, 0, 0)], [], [], W ++ [(4, 1)], ()) = some true := fun z hz => by
    rw [laws_FnFaults.j1]
    rw [fault_i hS hk, fault_i (sm (by omega) (by omega) (by omega) (by omega) zC) hk, fault_i (sm (by omega) (by omega) (by omega) zU zC) hk, fault_i (sm (by omega) (by omega) zP zU zC) hk, fault_i (sm (by omega) z0 zP zU zC) hk, fault_i (sm z0 z0 zP zU zC) hk, fault_i (sm (by omega) zW (by omega) (by omega) (by omega)) hk]
    simp only [f0, fa, fb, fc, fd, fe, ff, Option.bind_some, ↓reduceIte, ← hz, decide_true]
  have g1 : (0 + C.length) * 16 ≤ 140737488355328 := by omega
  have g2 : (C.length + (0 + 1)) * 16 ≤ 140737488355328 := by omega
  have g3 : (0 + U.length) * 24 ≤ 140737488355328 := by omega
  have g4 : (U.length + (0 + 1)) * 24 ≤ 140737488355328 := by omega
  have g5 : (0 + P.length) * 40 ≤ 140737488355328 := by omega
  have g6 : (P.length + (0 + 1)) * 40 ≤ 140737488355328 := by omega
  have g7 : (0 + W.length) * 16 ≤ 140737488355328 := by omega
  have g8 : (W.length + (0 + 1)) * 16 ≤ 140737488355328 := by omega
  simp only [Option.bind_some, List.length_nil, List.length_cons, List.nil_append, g1, g2, g3, g4, g5, g6, g7, g8, ↓reduceIte, Bool.false_eq_true]
  refine ok_if (fun h => ?_) (fun h => ?_)
  · rw [j1 6 (by rw [if_pos h])]
    exact ok_some rfl
  · rw [j1 0 (by rw [if_neg h])]
    exact ok_some rfl
end Go.Proofs.Ytcnaldcinkmpbaa.Pure
