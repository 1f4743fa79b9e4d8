/- The plain law of FnMachines. No condition. -/
import Derived.Test.YtcnaldcinkmpbaaTRun
import Derived.Test.YtcnaldcinkmpbaaTDrawCpu
import Derived.Test.YtcnaldcinkmpbaaTPlaces
import Derived.Test.YtcnaldcinkmpbaaTSame
import Derived.Test.YtcnaldcinkmpbaaQFnMachines
namespace Go.Proofs.Ytcnaldcinkmpbaa.Pure
open Go Go.Proofs.YtcnaldcinkmpbaaA Go.Proofs.YtcnaldcinkmpbaaU Go.Proofs.Ytcnaldcinkmpbaa.QA Go.Proofs.Ytcnaldcinkmpbaa.QFnMachines
set_option linter.unusedVariables false
theorem l03Int_ok {k : Nat} {c : List Int × Int × Int} (h : Cur c) : Ok (spec_l03Int.f k c) (fun r => Cur (c.1, r.2.2)) := by
  unfold spec_l03Int.f
  refine ok_bind (below_lt h (by omega)) (fun r1 h1 => ok_if (fun _ => ok_let (ok_bind (pickInt_ok h1.2.2 (by decide)) (fun r h => ok_some h.2))) (fun _ => ok_if (fun _ => ok_bind (below_lt h1.2.2 (by omega)) (fun r h => ok_some h.2.2)) (fun _ => ok_bind (below_lt h1.2.2 (by omega)) (fun r h => ok_some h.2.2))))
theorem l06Cpu_ok {k : Nat} {c : List Int × Int × Int} {n : Int} (hk : 1048576 < k) (h : Cur c) : Ok (spec_l06Cpu.f k c n) (fun r => r.1.2.length ≤ 20 ∧ Cur (c.1, r.2.2)) := by
  unfold spec_l06Cpu.f
  refine ok_bind (below_ok h) (fun r1 h1 => ?_)
  refine ok_loop (L := spec_l06Cpu.l1 k) (I := fun d s => ∃ (j : Nat) (ci ch x y : Int) (S : List Int), s = ((j : Int), ci, ch, x, y, c.1, [], S, ()) ∧ j + d = 9 ∧ Cur (c.1, ci, ch) ∧ S.length = j ∧ j ≤ 8) ?_ k 9 _ (by omega) ⟨0, _, _, _, _, [], rfl, by omega, h1.2.2.2, rfl, by omega⟩
  rintro d n s ⟨j, ci, ch, x, y, S, rfl, hd, hc, hS, hj⟩ ih
  rw [spec_l06Cpu.l1]
  refine ok_bind (below_lt hc (by omega)) (fun r2 h2 => ok_if (fun hlt => ?_) (fun hge => ?_))
  · refine ok_let (ok_bind (pickInt_ok h2.2.2 (by decide)) (fun r4 h4 => ok_let (ok_grd (by simp only [List.length_cons, List.length_nil]; omega) (ok_let ?_))))
    have h5 : w64 ((j : Int) + 1) = ((j + 1 : Nat) : Int) := w64_id (by omega) (by omega)
    rw [h5]
    exact ih (d - 1) _ (by omega) ⟨j + 1, _, _, _, _, _, rfl, by omega, h4.2, by simp [hS], by omega⟩
  · refine ok_bind (below_lt h2.2.2 (by omega)) (fun r7 h7 => ok_if (fun _ => ok_let (ok_bind (pickInt_ok h7.2.2 (by decide)) (fun r h => ok_some ⟨by dsimp only; omega, h.2⟩))) (fun _ => ok_if (fun _ => ?_) (fun _ => ok_some ⟨by dsimp only; omega, h7.2.2⟩)))
    refine ok_let (ok_bind (pickInt_ok h7.2.2 (by decide)) (fun r h => ok_let (ok_grd (by simp only [List.length_cons, List.length_nil]; omega) (ok_let (ok_some ⟨by dsimp only; simp only [List.length_append, List.length_cons, List.length_nil]; omega, h.2⟩)))))
theorem drawStep_ok {k : Nat} {xs : List Int} (hl : xs.length ≤ 1048576) (hk : 1048576 < k) : Ok (spec_DrawStepCpu.f k xs) (fun r => r.1.2.length ≤ 1048576 ∧ r.2.1.length ≤ 1048576 ∧ r.2.2.1.length ≤ 1048576 ∧ r.2.2.2.1.1 < 9223372036854775808) := by
  unfold spec_DrawStepCpu.f
  refine ok_bind (new_ok hl hk) (fun r1 h1 => ok_bind (l05Any_ok hk h1) (fun r2 h2 => ok_bind (l06Cpu_ok hk h2.2) (fun r3 h3 => ok_bind (l04Arena_ok hk h3.2) (fun r4 h4 => ok_bind (l04Region_ok hk h4.2) (fun r5 h5 => ok_bind (l03Int_ok h5.2) (fun r6 h6 => ok_some ⟨?_, ?_, ?_, h5.1⟩))))))
  · have := h3.1
    dsimp only
    omega
  · have := h2.1
    dsimp only
    omega
  · have := h4.1
    dsimp only
    omega
theorem FnMachines : ∀ (x0 : den (.sl 5 (.int .u8))), Wf (.sl 5 (.int .u8)) x0 → ∃ k, laws_FnMachines.f k x0 = some true := by
  intro xs _
  refine ⟨1048577, ?_⟩
  have hk : 1048576 < 1048577 := by omega
  generalize 1048577 = k at hk
  refine ok_eq ?_
  unfold laws_FnMachines.f
  refine big_ok (fun hl => ?_) (ok_some rfl)
  refine ok_bind (drawStep_ok hl hk) ?_
  rintro ⟨c, code, a, r, time⟩ ⟨hc, hl', ha, hr⟩
  simp only at hc hl' ha hr
  have z1 : (stepM c code a r time).1.2.length ≤ 1048576 := step_len2 hc
  have z2 : (stepM c code a r time).2.1.length ≤ 1048576 := by rw [step_len.2.1]; exact ha
  simp only [step_i hk hl' hc ha hr, step_s hk hl' hc ha, Option.bind_some, sameCpu_f z1 hk, sameInts_f z2 hk, cpuOk_i hk, cpuOk_s hc hk, not_true_eq_false, and_self, ↓reduceIte, Bool.false_eq_true, step_trap]
  by_cases ht : ¬ trapM c code a r = 0
  · have e : stepM c code a r time = (c, a, 0, 0, 0, trapM c code a r) := by
      unfold stepM
      rw [if_neg ht]
    rw [if_pos ht, e]
    simp only [sameCpu_f hc hk, sameInts_f ha hk, Option.bind_some, ↓reduceIte]
    exact ok_some (by simp)
  · rw [if_neg ht]
    obtain ⟨so, -⟩ := step_ok (time := time) (Classical.not_not.1 ht)
    generalize stepM c code a r time = s at so z1 z2
    simp only [answer_i hk z1, B_yes so, Option.bind_some, ↓reduceIte]
    have h8 := so.2.1
    by_cases h : (s.1.2.length : Int) = 8
    · have ea : answerM s.1 70000 = (s.1, false) := by
        unfold answerM
        rw [if_neg (fun g => g.2 h)]
      simp only [ea, h, Bool.false_eq_true, not_false_eq_true, ↓reduceIte]
      exact ok_some (by simp)
    · have ea : answerM s.1 70000 = ((s.1.1, s.1.2 ++ [(70000 : Int) % 65536]), true) := by
        unfold answerM
        rw [if_pos ⟨B_yes so, h⟩]
      have e1 : ((s.1.2 ++ [(70000 : Int) % 65536]).length : Int) = (s.1.2.length : Int) + 1 := by simp
      have e2 : w64 ((s.1.2.length : Int) + 1 - 1) = (s.1.2.length : Int) := by rw [w64_id (by omega) (by omega)]; omega
      have e3 : el (.int .i64) (s.1.2 ++ [(70000 : Int) % 65536]) s.1.2.length = (70000 : Int) % 65536 := el_mid (t := .int .i64) rfl
      have e4 : (0 : Int) ≤ (s.1.2.length : Int) := by omega
      have e5 : (s.1.2.length : Int) < (s.1.2.length : Int) + 1 := by omega
      have e6 : (s.1.2.length : Int) < 8 := by omega
      simp only [ea, e1, e2, e4, e5, e6, Int.toNat_natCast, e3, not_true_eq_false, ↓reduceIte, decide_true]
      exact ok_some rfl
end Go.Proofs.Ytcnaldcinkmpbaa.Pure
