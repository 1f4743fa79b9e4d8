/- The plain law of FnRules. No condition. -/
import Derived.Test.YtgihjaonapngdaaTDrawRules
import Derived.Test.YtgihjaonapngdaaQFnRules
namespace Go.Proofs.Ytgihjaonapngdaa.Pure
open Go Go.Proofs.YtgihjaonapngdaaA Go.Proofs.YtgihjaonapngdaaU Go.Proofs.Ytgihjaonapngdaa.QA Go.Proofs.Ytgihjaonapngdaa.QFnRules
set_option linter.unusedVariables false
theorem drawActFor_ok {k : Nat} {xs : List Int} (hl : xs.length ≤ 1048576) (hk : 1048576 < k) : Ok (spec_DrawActFor.f k xs) (fun r => r.1.length ≤ 9 ∧ (1 ≤ r.2.1 ∧ r.2.1 ≤ 4) ∧ (1 ≤ r.2.2.1 ∧ r.2.2.1 ≤ 2) ∧ 0 ≤ r.2.2.2) := by
  unfold spec_DrawActFor.f
  refine ok_bind (new_ok hl hk) (fun r1 hr1 => ok_bind (l10Any_ok hk hr1) (fun r2 hr2 => ok_bind (below_lt hr2.2 (by omega)) (fun r3 hr3 => ok_bind (below_lt hr3.2.2 (by omega)) (fun r4 hr4 => ok_bind (below_lt hr4.2.2 (by omega)) (fun r5 hr5 => ?_)))))
  have e3 : w64 (1 + r3.1) = 1 + r3.1 := w64_id (by omega) (by omega)
  have e4 : w64 (1 + r4.1) = 1 + r4.1 := w64_id (by omega) (by omega)
  rw [e3, e4]
  exact ok_some ⟨hr2.1, by dsimp only; omega, by dsimp only; omega, hr5.1⟩
theorem FnRules : ∀ (x0 : den (.sl 5 (.int .u8))), Wf (.sl 5 (.int .u8)) x0 → ∃ k, laws_FnRules.f k x0 = some true := by
  intro xs _
  refine ⟨1048577, ?_⟩
  have hk : 1048576 < 1048577 := by omega
  generalize 1048577 = k at hk
  refine ok_eq ?_
  unfold laws_FnRules.f laws_big.f
  refine ok_let (ok_if (fun _ => ok_some rfl) (fun hb => ?_))
  have hl : xs.length ≤ 1048576 := by
    have := of_decide_eq_false (not_true.1 hb)
    omega
  refine ok_bind (drawActFor_ok hl hk) ?_
  rintro ⟨L, p, f, st⟩ ⟨hL, hp, hf, hs⟩
  simp only at hL hp hf hs
  have hL' : L.length ≤ 1048576 := by omega
  have act : ∀ (M : List (Int × Int × Int)), M.length ≤ 1048576 → ∀ p f st, impl_ActFor.f k M p f st = some (actM M p f st) := fun M hM p f st => actFor_i hM hk
  have one : RulesOk [(p, f, 2)] := ⟨fun i hi => by
    obtain rfl : i = 0 := by simpa using hi
    exact ⟨⟨hp, hf, ⟨by show (0 : Int) ≤ 2; omega, by show (2 : Int) ≤ 4; omega⟩, fun h => by have h2 : (2 : Int) = 0 := h.2; omega⟩, fun j hj => absurd hj (by omega)⟩, by simp⟩
  have a0 : actM [(p, f, 2)] p f 0 = 2 := by simp [actM, firstAct, Fits, lastAct]
  have a3 : actM [(p, f, 2)] p f 3 = 3 := by simp [actM, firstAct, Fits, lastAct]
  have n1 : actM [] p 1 0 = 3 := by simp [actM, firstAct, lastAct]
  have n2 : actM [] p 2 0 = 0 := by simp [actM, firstAct, lastAct]
  have hst : 3 ≤ st → ¬ actM L p f st = 1 ∧ ¬ actM L p f st = 2 := fun h => by
    unfold actM
    generalize firstAct L p f _ = a
    unfold lastAct
    split <;> omega
  have l1 : [(p, f, (2 : Int))].length ≤ 1048576 := by simp
  have l0 : ([] : List (Int × Int × Int)).length ≤ 1048576 := by simp
  simp only [Option.bind_some, act L hL', actFor_s hL' hk, rulesOk_i hL' hk, rulesOk_s hL' hk, not_true_eq_false, ↓reduceIte, rulesOk_i l1 hk, B_yes one, act _ l1, act _ l0, a0, a3, n1, n2]
  refine ok_if (fun h => ?_) (fun _ => ok_some (by simp))
  rw [if_neg (hst h).1, if_neg (hst h).2]
  exact ok_some (by simp)
end Go.Proofs.Ytgihjaonapngdaa.Pure
