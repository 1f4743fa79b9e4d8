/- Rules that are drawn. No condition. -/
import Derived.Test.YtcnaldcinkmpbaaTDraw
import Derived.Test.YtcnaldcinkmpbaaTHealth
namespace Go.Proofs.Ytcnaldcinkmpbaa.Pure
open Go Go.Proofs.YtcnaldcinkmpbaaA Go.Proofs.YtcnaldcinkmpbaaU Go.Proofs.Ytcnaldcinkmpbaa.QA
set_option linter.unusedVariables false
theorem once_ok {k : Nat} {c : List Int × Int × Int} {n : Int} (h : Cur c) : Ok (spec_l01Once.f k c n) (fun r => Cur (c.1, r.2.2)) := by
  unfold spec_l01Once.f
  exact ok_bind (below_ok h) (fun r hr => ok_some hr.2.2.2)
theorem rulesOk_nil : RulesOk [] := ⟨fun i hi => absurd hi (by simp), by simp⟩
theorem l10Rules_ok {k : Nat} {c : List Int × Int × Int} {parts : Int} (hk : 1048576 < k) (h : Cur c) (hp : 1 ≤ parts ∧ parts ≤ 4) :
    Ok (spec_l10Rules.f k c parts) (fun r => RulesOk r.1 ∧ (∀ x, x ∈ r.1 → 1 ≤ x.1 ∧ x.1 ≤ parts) ∧ Cur (c.1, r.2.2)) := by
  unfold spec_l10Rules.f
  refine ok_let ?_
  refine ok_loop (L := spec_l10Rules.l1 k) (I := fun d s => ∃ (j : Nat) (ci ch : Int) (R : List (Int × Int × Int)), s = (parts, (j : Int), ci, ch, c.1, R, ()) ∧ j + d = 6 ∧ Cur (c.1, ci, ch) ∧ RulesOk R ∧ ∀ x, x ∈ R → 1 ≤ x.1 ∧ x.1 ≤ parts) ?_ k 6 _ (by omega) ⟨0, c.2.1, c.2.2, [], rfl, by omega, h, rulesOk_nil, fun x hx => by cases hx⟩
  rintro d n s ⟨j, ci, ch, R, rfl, hd, hc, hR, hx⟩ ih
  rw [spec_l10Rules.l1]
  refine ok_bind (below_lt hc (by omega)) (fun r2 hr2 => ok_if (fun hlt => ?_) (fun _ => ok_some ⟨hR, hx, hr2.2.2⟩))
  refine ok_bind (below_lt hr2.2.2 (by omega)) (fun r3 hr3 => ok_bind (below_lt hr3.2.2 (by omega)) (fun r4 hr4 => ok_bind (below_lt hr4.2.2 (by omega)) (fun r5 hr5 => ok_bind (once_ok hr5.2.2) (fun r6 hr6 => ?_))))
  have h4 : w64 ((j : Int) + 1) = ((j + 1 : Nat) : Int) := w64_id (by omega) (by omega)
  have e3 : w64 (1 + r3.1) = 1 + r3.1 := w64_id (by omega) (by omega)
  have hlen : R.length ≤ 8 := hR.2
  have fin : ∀ a b : Int, Ok (spec_l10Rules.j2 k (spec_l10Rules.l1 k n) (parts, (j : Int), r6.2.2.1, r6.2.2.2, w64 (1 + r3.1), a, b, c.1, R, ())) (fun r => RulesOk r.1 ∧ (∀ x, x ∈ r.1 → 1 ≤ x.1 ∧ x.1 ≤ parts) ∧ Cur (c.1, r.2.2)) := fun a b => by
    rw [e3]
    unfold spec_l10Rules.j2
    simp only [Option.bind_some, List.nil_append, List.length_nil, List.length_cons]
    rw [if_pos (by omega), if_pos (by omega), rulesOk_s (by rw [List.length_append, List.length_cons, List.length_nil]; omega) hk, h4]
    refine ok_let ?_
    refine ok_if (fun hb => ih (d - 1) _ (by omega) ⟨j + 1, _, _, _, rfl, by omega, hr6, B_iff.1 hb, fun x hx' => ?_⟩) (fun hb => ih (d - 1) _ (by omega) ⟨j + 1, _, _, _, rfl, by omega, hr6, hR, hx⟩)
    rcases List.mem_append.1 hx' with h' | h'
    · exact hx x h'
    · rw [List.mem_singleton.1 h']
      show 1 ≤ 1 + r3.1 ∧ 1 + r3.1 ≤ parts
      omega
  exact ok_if (fun _ => fin _ _) (fun _ => fin _ _)
end Go.Proofs.Ytcnaldcinkmpbaa.Pure
