/- Ports and lines that are drawn. No condition. -/
import Derived.Test.YtgihjaonapngdaaTDraw
import Derived.Test.YtgihjaonapngdaaTPort
namespace Go.Proofs.Ytgihjaonapngdaa.Pure
open Go Go.Proofs.YtgihjaonapngdaaA Go.Proofs.YtgihjaonapngdaaU Go.Proofs.Ytgihjaonapngdaa.QA
set_option linter.unusedVariables false
theorem onceP_ok {k : Nat} {c : List Int × Int × Int} {n : Int} (h : Cur c) : Ok (spec_l01Once.f k c n) (fun r => Cur (c.1, r.2.2)) := by
  unfold spec_l01Once.f
  exact ok_bind (below_ok h) (fun r hr => ok_some hr.2.2.2)
theorem pickP_ok {k : Nat} {c : List Int × Int × Int} {L : List Int} (h : Cur c) (hl : 0 < L.length) : Ok (spec_l01PickInt.f k c L) (fun r => Cur (c.1, r.2.2)) := by
  unfold spec_l01PickInt.f
  refine ok_bind (below_lt h (by omega)) (fun r hr => ?_)
  rw [if_pos hr.1, if_pos hr.2.1]
  exact ok_some hr.2.2
theorem l08Port_ok {k : Nat} {c : List Int × Int × Int} (h : Cur c) : Ok (spec_l08Port.f k c) (fun r => PortOk r.1 ∧ Cur (c.1, r.2.2)) := by
  have hj : ∀ {x1 x2 fr tq mo : Int} {a b : Int}, Cur (c.1, a, b) → (1 ≤ fr ∧ fr ≤ 4) → (1 ≤ tq ∧ tq ≤ 4) → ¬ fr = tq → (1 ≤ mo ∧ mo ≤ 6) → Ok (spec_l08Port.j1 k (a, b, 0, 0, 0, 0, 0, 1, fr, tq, mo, 0, c.1, ())) (fun r => PortOk r.1 ∧ Cur (c.1, r.2.2)) := fun hc h1 h2 h3 h4 => by
    rw [spec_l08Port.j1]
    refine ok_bind (onceP_ok hc) (fun r4 h4' => ok_if (fun _ => ok_bind (below_lt h4' (by omega)) (fun r5 h5 => ok_some ⟨⟨h1, h2, h3, .inr ⟨rfl, rfl, ?_⟩⟩, h5.2.2⟩)) (fun _ => ok_some ⟨⟨h1, h2, h3, .inl ⟨rfl, h4, rfl⟩⟩, h4'⟩))
    rw [w64_id (z := 1 + r5.1) (by omega) (by omega)]
    dsimp only
    omega
  unfold spec_l08Port.f
  refine ok_bind (below_lt h (by omega)) (fun r1 h1 => ok_bind (below_lt h1.2.2 (by omega)) (fun r2 h2 => ok_bind (below_lt h2.2.2 (by omega)) (fun r3 h3 => ?_)))
  have e1 : w64 (1 + r1.1) = 1 + r1.1 := w64_id (by omega) (by omega)
  have e2 : w64 (1 + r2.1) = 1 + r2.1 := w64_id (by omega) (by omega)
  have e3 : w64 (1 + r3.1) = 1 + r3.1 := w64_id (by omega) (by omega)
  have e4 : Int.tmod (1 + r1.1) 3 = (1 + r1.1) % 3 := Int.tmod_eq_emod_of_nonneg (by omega)
  rw [e1, e2, e3, e4, w64_id (z := 1 + (1 + r1.1) % 3) (by omega) (by omega)]
  refine ok_if (fun he => hj (x1 := 0) (x2 := 0) h3.2.2 (by omega) (by omega) (by omega) (by omega)) (fun he => hj (x1 := 0) (x2 := 0) h3.2.2 (by omega) (by omega) he (by omega))
theorem l08Any_ok {k : Nat} {c : List Int × Int × Int} (h : Cur c) : Ok (spec_l08Any.f k c) (fun r => Cur (c.1, r.2.2)) := by
  unfold spec_l08Any.f
  refine ok_bind (l08Port_ok h) (fun r1 h1 => ok_bind (below_lt h1.2 (by omega)) (fun r2 h2 => ok_if (fun _ => ok_bind (below_lt h2.2.2 (by omega)) (fun r h => ok_some h.2.2)) (fun _ => ok_if (fun _ => ok_let (ok_bind (pickP_ok h2.2.2 (by decide)) (fun r h => ok_some h))) (fun _ => ok_if (fun _ => ok_let (ok_bind (pickP_ok h2.2.2 (by decide)) (fun r h => ok_some h))) (fun _ => ok_if (fun _ => ok_let (ok_bind (pickP_ok h2.2.2 (by decide)) (fun r h => ok_some h))) (fun _ => ok_some h2.2.2))))))
theorem l08Line_ok {k : Nat} {c : List Int × Int × Int} (hk : 1048576 < k) (h : Cur c) : Ok (spec_l08Line.f k c) (fun r => r.1.length ≤ 4 ∧ Stamps r.1 ∧ Cur (c.1, r.2.2)) := by
  unfold spec_l08Line.f
  refine ok_loop (L := spec_l08Line.l1 k) (I := fun d s => ∃ (j : Nat) (ci ch : Int) (L : List (Int × Int)), s = ((j : Int), ci, ch, c.1, [], L, ()) ∧ j + d = 4 ∧ Cur (c.1, ci, ch) ∧ L.length ≤ j ∧ Stamps L) ?_ k 4 _ (by omega) ⟨0, _, _, [], rfl, by omega, h, Nat.le_refl 0, fun x hx => by cases hx⟩
  rintro d n s ⟨j, ci, ch, L, rfl, hd, hc, hL, hs⟩ ih
  rw [spec_l08Line.l1]
  refine ok_bind (below_lt hc (by omega)) (fun r1 h1 => ok_if (fun hlt => ?_) (fun _ => ok_some ⟨by dsimp only; omega, hs, h1.2.2⟩))
  refine ok_bind (below_lt h1.2.2 (by omega)) (fun r2 h2 => ok_bind (below_lt h2.2.2 (by omega)) (fun r3 h3 => ok_let (ok_grd (by simp only [List.length_cons, List.length_nil]; omega) (ok_let ?_))))
  have h4 : w64 ((j : Int) + 1) = ((j + 1 : Nat) : Int) := w64_id (by omega) (by omega)
  rw [h4]
  refine ih (d - 1) _ (by omega) ⟨j + 1, _, _, _, rfl, by omega, h3.2.2, by simp only [List.length_append, List.length_cons, List.length_nil]; omega, fun x hx => ?_⟩
  rcases List.mem_append.1 hx with h | h
  · exact hs x h
  · rw [List.mem_singleton.1 h]
    dsimp only
    omega
end Go.Proofs.Ytgihjaonapngdaa.Pure
