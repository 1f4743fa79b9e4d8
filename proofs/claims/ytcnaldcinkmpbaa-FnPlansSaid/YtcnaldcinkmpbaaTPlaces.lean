/- Twelve drawn numbers. No condition. -/
import Derived.Test.YtcnaldcinkmpbaaTDraw
namespace Go.Proofs.Ytcnaldcinkmpbaa.Pure
open Go Go.Proofs.YtcnaldcinkmpbaaA Go.Proofs.YtcnaldcinkmpbaaU Go.Proofs.Ytcnaldcinkmpbaa.QA
set_option linter.unusedVariables false
/-- Twelve numbers of 0 .. 9999. -/
def Places (p : List Int) : Prop := p.length = 12 ∧ ∀ i, i < 12 → 0 ≤ (el (.int .i64) p i : Int) ∧ (el (.int .i64) p i : Int) ≤ 9999
theorem places_at {p : List Int} (h : Places p) {i : Nat} (hi : i < 12) : ∃ x : Int, el (.int .i64) p i = x ∧ 0 ≤ x ∧ x ≤ 9999 := ⟨_, rfl, h.2 i hi⟩
theorem places_ok {k : Nat} {xs : List Int} (hl : xs.length ≤ 1048576) (hk : 1048576 < k) : Ok (spec_DrawPlaces.f k xs) Places := by
  unfold spec_DrawPlaces.f
  refine ok_bind (new_ok hl hk) (fun r1 h1 => ok_bind (byte_ok h1) (fun r2 h2 => ok_let ?_))
  refine ok_loop (L := spec_DrawPlaces.l1 k) (I := fun d s => ∃ (j : Nat) (ci ch : Int) (p : List Int), s = ((j : Int), ci, ch, xs, p, ()) ∧ j + d = 12 ∧ Cur (xs, ci, ch) ∧ p.length = j ∧ ∀ x, x ∈ p → 0 ≤ x ∧ x ≤ 9999) ?_ k 12 _ (by omega) ⟨0, _, _, [], rfl, by omega, h2.2.2, rfl, fun x hx => by cases hx⟩
  rintro d n s ⟨j, ci, ch, p, rfl, hd, hc, hp, hx⟩ ih
  rw [spec_DrawPlaces.l1]
  refine ok_if (fun hlt => ok_bind (below_lt hc (by omega)) (fun r4 h4 => ok_let ?_)) (fun _ => ok_some ⟨by omega, fun i hi => hx _ (el_mem (t := .int .i64) (by omega))⟩)
  refine ok_grd (by simp only [List.length_cons, List.length_nil]; omega) (ok_let ?_)
  have h5 : w64 ((j : Int) + 1) = ((j + 1 : Nat) : Int) := w64_id (by omega) (by omega)
  rw [h5]
  refine ih (d - 1) _ (by omega) ⟨j + 1, _, _, _, rfl, by omega, h4.2.2, by simp [hp], fun x hx' => ?_⟩
  rcases List.mem_append.1 hx' with h | h
  · exact hx x h
  · rw [List.mem_singleton.1 h]
    omega
theorem tmod_in {x n : Int} (hx : 0 ≤ x) (hn : 0 < n) : 0 ≤ Int.tmod x n ∧ Int.tmod x n < n := ⟨Int.tmod_nonneg _ hx, Int.tmod_lt_of_pos _ hn⟩
/-- What a law over drawn bytes begins with. -/
theorem big_ok {k : Nat} {xs : List Int} {g : Bool → Option Bool} (h : xs.length ≤ 1048576 → Ok (g false) (fun r => r = true)) (h2 : Ok (g true) (fun r => r = true)) : Ok ((laws_big.f k xs).bind g) (fun r => r = true) := by
  unfold laws_big.f
  refine ok_let ?_
  by_cases hb : xs.length ≤ 1048576
  · rw [decide_eq_false (by omega)]
    exact h hb
  · rw [decide_eq_true (by omega)]
    exact h2
end Go.Proofs.Ytcnaldcinkmpbaa.Pure
