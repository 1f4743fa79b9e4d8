/- The plain law of FnRunCosts. No condition. -/
import Derived.Test.YtcnaldcinkmpbaaTRun
import Derived.Test.YtcnaldcinkmpbaaTDrawCpu
import Derived.Test.YtcnaldcinkmpbaaTPlaces
import Derived.Test.YtcnaldcinkmpbaaQFnRunCosts
namespace Go.Proofs.Ytcnaldcinkmpbaa.Pure
open Go Go.Proofs.YtcnaldcinkmpbaaA Go.Proofs.YtcnaldcinkmpbaaU Go.Proofs.Ytcnaldcinkmpbaa.QA Go.Proofs.Ytcnaldcinkmpbaa.QFnRunCosts
set_option linter.unusedVariables false
theorem runM_ge {code : List (Int × Int)} {r : Int × Int} {m : Int} : ∀ (f : Nat) {cost : Int} {c : Int × List Int} {a : List Int}, cost ≤ (runM code r m f cost c a).1
  | 0, cost, c, a => Int.le_refl _
  | f + 1, cost, c, a => by
    have hco := cost_in (el C2 code c.1.toNat).1
    rw [runM]
    split
    · split
      · exact Int.le_refl _
      · split
        · split
          · dsimp only; omega
          · split
            · dsimp only; omega
            · exact Int.le_trans (by omega) (runM_ge f)
        · dsimp only; omega
    · exact Int.le_refl _
theorem runM_le {code : List (Int × Int)} {r : Int × Int} {m b : Int} (hb : m ≤ b) : ∀ (f : Nat) {cost : Int} {c : Int × List Int} {a : List Int}, cost ≤ b → (runM code r m f cost c a).1 ≤ b
  | 0, cost, c, a, h => h
  | f + 1, cost, c, a, h => by
    rw [runM]
    split
    · split
      · exact h
      · rename_i hm
        split
        · split
          · dsimp only; omega
          · split
            · dsimp only; omega
            · exact runM_le hb f (by omega)
        · dsimp only; omega
    · exact h
theorem runM_mono {code : List (Int × Int)} {r : Int × Int} {m m' : Int} (hm : m ≤ m') : ∀ (f : Nat) {cost : Int} {c : Int × List Int} {a : List Int}, (runM code r m f cost c a).1 ≤ (runM code r m' f cost c a).1
  | 0, cost, c, a => Int.le_refl _
  | f + 1, cost, c, a => by
    by_cases h1 : m < cost + costM (el C2 code c.1.toNat).1
    · have e : (runM code r m (f + 1) cost c a).1 = cost := by
        rw [runM]
        by_cases h2 : c.1 < (code.length : Int)
        · rw [if_pos h2, if_pos h1]
        · rw [if_neg h2]
      rw [e]
      exact runM_ge _
    · rw [runM, runM]
      by_cases h2 : c.1 < (code.length : Int)
      · have h1' : ¬ m' < cost + costM (el C2 code c.1.toNat).1 := by omega
        simp only [h2, h1, h1', ↓reduceIte]
        split
        · split
          · exact Int.le_refl _
          · split
            · exact Int.le_refl _
            · exact runM_mono hm f
        · exact Int.le_refl _
      · simp only [h2, ↓reduceIte]
        exact Int.le_refl _
theorem drawRunCost_ok {k : Nat} {xs : List Int} (hl : xs.length ≤ 1048576) (hk : 1048576 < k) : Ok (spec_DrawRunCost.f k xs) (fun r => r.1.length ≤ 1048576 ∧ r.2.1.length ≤ 1048576 ∧ r.2.2.1.1 < 9223372036854775808) := by
  unfold spec_DrawRunCost.f
  refine ok_bind (new_ok hl hk) (fun r1 h1 => ok_bind (l07Code_ok hk h1) (fun r2 h2 => ok_bind (l04Arena_ok hk h2.2.2) (fun r3 h3 => ok_bind (l04Region_ok hk h3.2) (fun r4 h4 => ok_let (ok_bind (pickInt_ok h4.2 (by decide)) (fun r6 h6 => ok_some ⟨?_, ?_, h4.1⟩))))))
  · have := h2.2.1
    dsimp only
    omega
  · have := h3.1
    dsimp only
    omega
theorem FnRunCosts : ∀ (x0 : den (.sl 5 (.int .u8))), Wf (.sl 5 (.int .u8)) x0 → ∃ k, laws_FnRunCosts.f k x0 = some true := by
  intro xs _
  refine ⟨1048577, ?_⟩
  have hk : 1048576 < 1048577 := by omega
  generalize 1048577 = k at hk
  refine ok_eq ?_
  unfold laws_FnRunCosts.f
  refine big_ok (fun hl => ?_) (ok_some rfl)
  refine ok_bind (drawRunCost_ok hl hk) ?_
  rintro ⟨code, a, r, most⟩ ⟨hc, ha, hr⟩
  simp only at hc ha hr
  simp only [runCost_i hk hc ha hr, runCost_s hk hc ha, Option.bind_some, ↓reduceIte]
  have h1 : (runCostM code a r most).1 ≤ max most 0 := runM_le (by omega) _ (by omega)
  have h2 : most ≤ 2000 → (runCostM code a r most).1 ≤ (runCostM code a r 2000).1 := fun h => runM_mono (by omega) _
  have h3 : 0 ≤ (runCostM code a r most).1 := runM_ge _
  generalize (runCostM code a r most).1 = x at h1 h2 h3
  generalize (runCostM code a r 2000).1 = z at h2
  have fin : Ok (if most < 0 then if x = 0 then some true else if x ≤ most then some true else some (decide (5000 < most)) else if x ≤ most then some true else some (decide (5000 < most))) (fun r => r = true) := by
    refine ok_if (fun h => ok_grd (by omega) (ok_some rfl)) (fun h => ok_grd (by omega) (ok_some rfl))
  exact ok_if (fun _ => fin) (fun h => ok_grd (h2 (by omega)) fin)
end Go.Proofs.Ytcnaldcinkmpbaa.Pure
