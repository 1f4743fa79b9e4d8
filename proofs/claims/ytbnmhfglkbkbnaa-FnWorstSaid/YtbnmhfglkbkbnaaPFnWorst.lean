/- The plain law of FnWorst. No condition. -/
import Derived.Test.YtbnmhfglkbkbnaaTWorst
import Derived.Test.YtbnmhfglkbkbnaaTDrawCpu
import Derived.Test.YtbnmhfglkbkbnaaTPlaces
import Derived.Test.YtbnmhfglkbkbnaaQFnWorst
namespace Go.Proofs.Ytbnmhfglkbkbnaa.Pure
open Go Go.Proofs.YtbnmhfglkbkbnaaA Go.Proofs.YtbnmhfglkbkbnaaU Go.Proofs.Ytbnmhfglkbkbnaa.QA Go.Proofs.Ytbnmhfglkbkbnaa.QFnWorst
set_option linter.unusedVariables false
theorem loopless_ok {k : Nat} {xs : List Int} (hl : xs.length ≤ 1048576) (hk : 1048576 < k) : Ok (spec_DrawLoopless.f k xs) Fwd := by
  unfold spec_DrawLoopless.f
  refine ok_bind (new_ok hl hk) (fun r1 h1 => ok_let (ok_bind (l05Code_ok hk h1) (fun r3 h3 => ?_)))
  have hl3 := h3.2.1
  refine ok_grd (by simp only [List.length_nil]; omega) (ok_let ?_)
  rw [List.nil_append]
  refine ok_loop (L := spec_DrawLoopless.l1 k) (I := fun d s => ∃ (j : Nat) (ci ch : Int) (L : List (Int × Int)), s = ((j : Int), ci, ch, xs, L, ()) ∧ j + d = L.length ∧ Cur (xs, ci, ch) ∧ AllIns L ∧ L.length ≤ 46 ∧ ∀ i, i < j → FwdAt L i) ?_ k r3.1.length _ (by omega) ⟨0, _, _, _, rfl, by omega, h3.2.2, h3.1, hl3, fun i hi => absurd hi (by omega)⟩
  rintro d n s ⟨j, ci, ch, L, rfl, hd, hc, hL, hlen, hq⟩ ih
  rw [spec_DrawLoopless.l1]
  refine ok_if (fun hlt => ok_grd (by omega) (ok_grd hlt ?_)) (fun hge => ok_some ⟨fun i hi => hq i (by omega), codeOk_of hL (by omega)⟩)
  have h4 : w64 ((j : Int) + 1) = ((j + 1 : Nat) : Int) := w64_id (by omega) (by omega)
  have hin := hL _ (el_mem (t := C2) (xs := L) (i := j) (by omega))
  rw [l07Goes_s, h4]
  simp only [Int.toNat_natCast, Option.bind_some, decide_eq_true_eq]
  refine ok_if (fun hgo => ok_bind (below_lt hc (by omega)) (fun r6 h6 => ok_grd (by omega) (ok_grd hlt (ok_let ?_)))) (fun hgo => ih (d - 1) _ (by omega) ⟨j + 1, _, _, _, rfl, by omega, hc, hL, hlen, all_next hq (fun h => absurd h hgo)⟩)
  have e6 : w64 (((j + 1 : Nat) : Int) + r6.1) = ((j + 1 : Nat) : Int) + r6.1 := w64_id (by omega) (by omega)
  rw [e6]
  refine ih (d - 1) _ (by omega) ⟨j + 1, _, _, _, rfl, by rw [List.length_set]; omega, h6.2.2, allIns_set hL ⟨hin.1, by dsimp only; omega⟩, by rw [List.length_set]; exact hlen, all_next (fun i hi => ?_) ?_⟩
  · have e : el C2 (L.set j ((el C2 L j).1, ((j + 1 : Nat) : Int) + r6.1)) i = el C2 L i := el_set_ne (t := C2) (by omega)
    unfold FwdAt
    rw [e]
    exact hq i hi
  · have e : el C2 (L.set j ((el C2 L j).1, ((j + 1 : Nat) : Int) + r6.1)) j = ((el C2 L j).1, ((j + 1 : Nat) : Int) + r6.1) := el_set_self (t := C2) (by omega)
    unfold FwdAt
    rw [e]
    intro _
    dsimp only
    omega
theorem drawRun_ok {k : Nat} {xs : List Int} (hl : xs.length ≤ 1048576) (hk : 1048576 < k) : Ok (spec_DrawRunCost.f k xs) (fun r => r.2.1.length ≤ 1048576 ∧ r.2.2.1.1 < 9223372036854775808) := by
  unfold spec_DrawRunCost.f
  refine ok_bind (new_ok hl hk) (fun r1 h1 => ok_bind (l07Code_ok hk h1) (fun r2 h2 => ok_bind (l04Arena_ok hk h2.2.2) (fun r3 h3 => ok_bind (l04Region_ok hk h3.2) (fun r4 h4 => ok_let (ok_bind (pickInt_ok h4.2 (by decide)) (fun r6 h6 => ok_some ⟨?_, h4.1⟩))))))
  have := h3.1
  dsimp only
  omega
theorem FnWorst : ∀ (x0 : den (.sl 5 (.int .u8))), Wf (.sl 5 (.int .u8)) x0 → ∃ k, laws_FnWorst.f k x0 = some true := by
  intro xs _
  refine ⟨1048577, ?_⟩
  have hk : 1048576 < 1048577 := by omega
  generalize 1048577 = k at hk
  refine ok_eq ?_
  unfold laws_FnWorst.f
  refine big_ok (fun hl => ?_) (ok_some rfl)
  refine ok_bind (loopless_ok hl hk) (fun L hL => ?_)
  have hlen := hL.2.2
  rw [worst_i hk (by omega) hL, worst_s hk (by omega) hL]
  refine ok_let (ok_let (ok_bind (drawRun_ok hl hk) ?_))
  rintro ⟨c0, a, r, m0⟩ ⟨ha, hr⟩
  simp only at ha hr
  have hw := worst_in hL 0
  have h1 := run_worst (r := r) (m := 5000) (m' := worst L 0) hL 5001 0 (0, []) a cpu0 (by dsimp only; show 0 + worst L 0 ≤ 5000; omega) (by dsimp only; show 0 + worst L 0 ≤ worst L 0; omega)
  have e1 : runCostM L a r 5000 = runM L r 5000 5001 0 (0, []) a := rfl
  have e2 : runCostM L a r (worst L 0) = runM L r (worst L 0) 5001 0 (0, []) a := by
    unfold runCostM
    rw [Int.min_eq_left (by omega)]
  have h2 : (runM L r 5000 5001 0 (0, []) a).1 ≤ worst L 0 := by
    have := h1.2
    have e : worst L ((0 : Int), ([] : List Int)).1.toNat = worst L 0 := rfl
    rw [e] at this
    omega
  rw [runCost_i hk (by omega) ha hr, runCost_i hk (by omega) ha hr, e1, e2, ← h1.1, forward_i (by omega) hk, B_yes hL]
  simp only [Option.bind_some, ↓reduceIte, h2]
  refine ok_some (decide_eq_true ?_)
  by_cases h0 : (L.length : Int) = 0
  · rw [decide_eq_true h0, decide_eq_true (worst_end (by omega))]
  · have h3 := worst_eq hL (i := 0) (by omega)
    have hc := cost_in (el C2 L 0).1
    have hn := worst_in hL (0 + 1)
    have hg := worst_in hL (el C2 L 0).2.toNat
    have : ¬ worst L 0 = 0 := by
      rw [h3]
      unfold wOf
      split
      · omega
      · split
        · omega
        · split
          · omega
          · omega
    rw [decide_eq_false h0, decide_eq_false this]
end Go.Proofs.Ytbnmhfglkbkbnaa.Pure
