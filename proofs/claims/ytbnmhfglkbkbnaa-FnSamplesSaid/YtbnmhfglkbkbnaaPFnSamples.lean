/- The plain law of FnSamples. No condition. -/
import Derived.Test.YtbnmhfglkbkbnaaTPort
import Derived.Test.YtbnmhfglkbkbnaaTPlaces
import Derived.Test.YtbnmhfglkbkbnaaQFnSamples
namespace Go.Proofs.Ytbnmhfglkbkbnaa.Pure
open Go Go.Proofs.YtbnmhfglkbkbnaaA Go.Proofs.YtbnmhfglkbkbnaaU Go.Proofs.Ytbnmhfglkbkbnaa.QA Go.Proofs.Ytbnmhfglkbkbnaa.QFnSamples
set_option linter.unusedVariables false
theorem FnSamples : ∀ (x0 : den (.sl 5 (.int .u8))), Wf (.sl 5 (.int .u8)) x0 → ∃ k, laws_FnSamples.f k x0 = some true := by
  intro xs _
  refine ⟨1048577, ?_⟩
  have hk : 1048576 < 1048577 := by omega
  generalize 1048577 = k at hk
  refine ok_eq ?_
  unfold laws_FnSamples.f
  refine big_ok (fun hl => ?_) (ok_some rfl)
  refine ok_bind (places_ok hl hk) (fun p hp => ?_)
  obtain ⟨a, ha, ha0, ha1⟩ := places_at hp (i := 0) (by omega)
  obtain ⟨b, hb, hb0, hb1⟩ := places_at hp (i := 1) (by omega)
  obtain ⟨c, hc, hc0, hc1⟩ := places_at hp (i := 2) (by omega)
  have hl12 : (p.length : Int) = 12 := by rw [hp.1]; rfl
  have hm := tmod_in (n := 20) ha0 (by omega)
  generalize hF : Int.tmod a 20 = m at hm
  have e1 : w64 (1 + m) = 1 + m := w64_id (by omega) (by omega)
  have e2 : w64 (7 + (1 + m)) = 8 + m := by rw [w64_id (by omega) (by omega)]; omega
  have e3 : w64 (8 + (1 + m)) = 9 + m := by rw [w64_id (by omega) (by omega)]; omega
  have hok : PortOk (2, 1, 2, 1, 1 + m) := ⟨by dsimp only; omega, by dsimp only; omega, by dsimp only; omega, .inr ⟨rfl, rfl, by dsimp only; omega⟩⟩
  have s1 : sendM (2, 1, 2, 1, 1 + m) [] b 5 = ([(b, 5)], 0) := by
    unfold sendM
    rw [B_yes hok]
    rfl
  have s2 : sendM (2, 1, 2, 1, 1 + m) [(b, 5)] c 7 = ([(c, 7)], 0) := by
    unfold sendM
    rw [B_yes hok]
    rfl
  have t1 : ∀ t : Int, takeM (2, 1, 2, 1, 1 + m) [(c, 7)] t = if 1 + m < t - 7 then ([(c, 7)], c, 3) else ([(c, 7)], c, 0) := fun t => by
    unfold takeM
    rw [B_yes hok]
    rfl
  have t2 : takeM (2, 1, 2, 1, 1 + m) [] 9 = ([], 0, 2) := by
    unfold takeM
    rw [if_neg (fun h => h.2 rfl)]
  have hs : Stamps [(c, 7)] := fun x hx => by
    rw [List.mem_singleton.1 hx]
    dsimp only
    omega
  have hs0 : Stamps [] := fun x hx => by cases hx
  have l0 : ([] : List (Int × Int)).length ≤ 1048576 := by simp
  have l1 : [(b, (5 : Int))].length ≤ 1048576 := by simp
  have l2 : [(c, (7 : Int))].length ≤ 1048576 := by simp
  have i0 : (0 : Int) ≤ 0 := by omega
  have i1 : (0 : Int) ≤ 1 := by omega
  have i2 : (0 : Int) ≤ 2 := by omega
  have j0 : (0 : Int) < 12 := by omega
  have j1 : (1 : Int) < 12 := by omega
  have j2 : (2 : Int) < 12 := by omega
  have n1 : ¬ 1 + m < 8 + m - 7 := by omega
  have n2 : 1 + m < 9 + m - 7 := by omega
  simp only [hl12, i0, i1, i2, j0, j1, j2, ↓reduceIte, ha, hb, hc, hF, e1, e2, e3, send_i l0, send_i l1, s1, s2, Option.bind_some, take_i l2 (show -9223372036854775808 ≤ 8 + m ∧ 8 + m < 9223372036854775808 by omega) hs, take_i l2 (show -9223372036854775808 ≤ 9 + m ∧ 9 + m < 9223372036854775808 by omega) hs, take_i l0 (show -9223372036854775808 ≤ (9 : Int) ∧ (9 : Int) < 9223372036854775808 by omega) hs0, t1, t2, n1, n2]
  exact ok_some (by simp)
end Go.Proofs.Ytbnmhfglkbkbnaa.Pure
