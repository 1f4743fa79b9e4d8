/- Ports and lines that are drawn. No condition. -/
import Derived.Test.YtcnaldcinkmpbaaTDraw
import Derived.Test.YtcnaldcinkmpbaaTPort
namespace Go.Proofs.Ytcnaldcinkmpbaa.Pure
open Go Go.Proofs.YtcnaldcinkmpbaaA Go.Proofs.YtcnaldcinkmpbaaU Go.Proofs.Ytcnaldcinkmpbaa.QA
set_option linter.unusedVariables false
theorem onceP_ok {k : Nat} {c : List Int × Int × Int} {n : Int} (h : Cur c) : Ok (spec_l01Once.f k c n) (fun r => Cur (c.1, r.2.2)) := by
  unfold spec_l01Once.f
  exact ok_bind (below_ok h) (fun r hr => ok_some hr.2.2.2)
theorem pickP_ok {k : Nat} {c : List Int × Int × Int} {L : List Int} (h : Cur c) (hl : 0 < L.length) : Ok (spec_l01PickInt.f k c L) (fun r => Cur (c.1, r.2.2)) := by
  unfold spec_l01PickInt.f
  refine ok_bind (below_lt h (by omega)) (fun r hr => ?_)
  rw [if_pos hr.1, if_pos hr.2.1]
  exact ok_some hr.2.2
theorem l08Port_ok {k : Nat} {c : List Int × Int × Int} (h : Cur c) : Ok (spec_l08Port.f k c) (fun r => PortOk r.1 ∧ Cur (c.1, r.2.2)) := by
  have hj : ∀ {x1 x2 fr tq mo : Int} {a b : Int}, Cur (c.1, a, b) → (1 ≤ fr ∧ fr ≤ 4) → (1 ≤ tq ∧ tq ≤ 4) → ¬ fr = tq → (1 ≤ mo ∧ mo ≤ 6) → Ok (spec_l08Port.j1 k (a, b, 0, 0, 0, 0, 0, 1, fr, tq, mo, 0, c.1, ())) (fun r => PortOk r.1 ∧ Cur (c.1, r.2.2)) := fun hc h1 h2 h3 h4 => by
    rw [spec_l08Port.j1]
    refine ok_bind (onceP_ok hc) (fun r4 h4' => ok_if (fun _ => ok_bind (below_lt h4' (by omega)) (fun r5 h5 => ok_some ⟨⟨h1, h2, h3, .inr ⟨rfl, rfl, ?_⟩⟩, h5.2.2⟩)) (fun _ => ok_some ⟨⟨h1, h2, h3, .inl ⟨rfl, h4, rfl⟩⟩, h4'⟩))
    rw [w64_id (z := 1 + r5.1) (by omega) (by omega)]
    dsimp only
    omega
  unfold spec_l08Port.f
  refine ok_bind (below_lt h (by omega)) (fun r1 h1 => ok_bind (below_lt h1.2.2 (by omega)) (fun r2 h2 => ok_bind (below_lt h2.2.2 (by omega)) (fun r3 h3 => ?_)))
  have e1 : w64 (1 + r1.1) = 1 + r1.1 := w64_id (by omega) (by omega)
  have e2 : w64 (1 + r2.1) = 1 + r2.1 := w64_id (by omega) (by omega)
  have e3 : w64 (1 + r3.1) = 1 + r3.1 := w64_id (by omega) (by omega)
  have e4 : Int.tmod (1 + r1.1) 3 = (1 + r1.1) % 3 := Int.tmod_eq_emod_of_nonneg (by omega)
  rw [e1, e2, e3, e4, w64_id (z := 1 + (1 + r1.1) % 3) (by omega) (by omega)]
  refine ok_if (fun he => hj (x1 := 0) (x2 := 0) h3.2.2 (by omega) (by omega) (by omega) (by omega)) (fun he => hj (x1 := 0) (x2 := 0) h3.2.2 (by omega) (by omega) he (by omega))
end Go.Proofs.Ytcnaldcinkmpbaa.Pure
