/- Rules: which one is first, and when they are right. No condition. -/
import Derived.Test.YtacpibmmodeacaaTBase
namespace Go.Proofs.Ytacpibmmodeacaa.Pure
open Go Go.Proofs.YtacpibmmodeacaaA Go.Proofs.YtacpibmmodeacaaU Go.Proofs.Ytacpibmmodeacaa.QA
set_option linter.unusedVariables false
abbrev R3 : Ty := .pair (.int .i64) (.pair (.int .i64) (.int .i64))
def Fits (r : Int × Int × Int) (p f : Int) : Prop := r.1 = p ∧ r.2.1 = f
instance (r : Int × Int × Int) (p f : Int) : Decidable (Fits r p f) := inferInstanceAs (Decidable (_ ∧ _))
theorem ruleFor_ok {k : Nat} {L : List (Int × Int × Int)} {p f : Int} (hl : L.length ≤ 1048576) (hk : 1048576 < k) :
    Ok (impl_ruleFor.f k L p f) (fun r => (r = -1 ∧ ∀ j, j < L.length → ¬ Fits (el R3 L j) p f) ∨ ∃ i : Nat, r = (i : Int) ∧ i < L.length ∧ Fits (el R3 L i) p f ∧ ∀ j, j < i → ¬ Fits (el R3 L j) p f) := by
  unfold impl_ruleFor.f
  refine ok_loop (L := impl_ruleFor.l1 k) (I := fun d s => ∃ j : Nat, s = (p, f, (L.length : Int), (j : Int), L, ()) ∧ j + d = L.length ∧ ∀ i, i < j → ¬ Fits (el R3 L i) p f) ?_ k L.length _ (by omega) ⟨0, rfl, by omega, fun i hi => absurd hi (by omega)⟩
  rintro d n s ⟨j, rfl, hd, hq⟩ ih
  rw [impl_ruleFor.l1]
  refine ok_if (fun hc => ?_) (fun hc => ok_some (.inl ⟨rfl, fun i hi => hq i (by omega)⟩))
  rw [if_pos (by omega), if_pos hc]
  simp only [Int.toNat_natCast]
  have h4 : w64 ((j : Int) + 1) = ((j + 1 : Nat) : Int) := w64_id (by omega) (by omega)
  rw [h4]
  have go : ¬ Fits (el R3 L j) p f → Ok (impl_ruleFor.l1 k n (p, f, (L.length : Int), ((j + 1 : Nat) : Int), L, ())) _ := fun hf => ih (d - 1) _ (by omega) ⟨j + 1, rfl, by omega, fun i hi => by
    rcases Nat.lt_or_ge i j with h | h
    · exact hq i h
    · obtain rfl : i = j := by omega
      exact hf⟩
  refine ok_if (fun h1 => ok_if (fun h2 => ok_some (.inr ⟨j, rfl, by omega, ⟨h1, h2⟩, hq⟩)) (fun h2 => go (fun h => h2 h.2))) (fun h1 => go (fun h => h1 h.1))
/-! ### rules that are right -/
def RuleIn (r : Int × Int × Int) : Prop := (1 ≤ r.1 ∧ r.1 ≤ 4) ∧ (1 ≤ r.2.1 ∧ r.2.1 ≤ 2) ∧ (0 ≤ r.2.2 ∧ r.2.2 ≤ 4) ∧ ¬ (r.2.1 = 1 ∧ r.2.2 = 0)
def RuleAt (L : List (Int × Int × Int)) (i : Nat) : Prop := RuleIn (el R3 L i) ∧ ∀ j, j < i → ¬ Fits (el R3 L j) (el R3 L i).1 (el R3 L i).2.1
def RulesOk (L : List (Int × Int × Int)) : Prop := (∀ i, i < L.length → RuleAt L i) ∧ L.length ≤ 8
theorem not_true {b : Bool} : (¬ b = true) ↔ b = false := by cases b <;> simp
theorem isPart_i {k : Nat} (x : Int) : impl_isPart.f k x = some (decide (1 ≤ x ∧ x ≤ 4)) := by
  unfold impl_isPart.f
  rw [in_i]
  rfl
theorem rulesOk_i {k : Nat} {L : List (Int × Int × Int)} (hl : L.length ≤ 1048576) (hk : 1048576 < k) : impl_RulesOk.f k L = some (B (RulesOk L)) := by
  refine ok_eq ?_
  unfold impl_RulesOk.f
  refine ok_loop (L := impl_RulesOk.l1 k) (I := fun d s => ∃ j : Nat, s = ((L.length : Int), (j : Int), L, ()) ∧ j + d = L.length ∧ ∀ i, i < j → RuleAt L i) ?_ k L.length _ (by omega) ⟨0, rfl, by omega, fun i hi => absurd hi (by omega)⟩
  rintro d n s ⟨j, rfl, hd, hq⟩ ih
  rw [impl_RulesOk.l1]
  refine ok_if (fun hc => ?_) (fun hc => ok_some ?_)
  · rw [if_pos (by omega), if_pos hc]
    simp only [Int.toNat_natCast, isPart_i, in_i, Option.bind_some, decide_eq_true_eq]
    have h4 : w64 ((j : Int) + 1) = ((j + 1 : Nat) : Int) := w64_id (by omega) (by omega)
    rw [h4]
    have bad : ¬ RuleAt L j → Ok (some false) (fun r => r = B (RulesOk L)) := fun h => ok_some (B_no (fun hr => h (hr.1 j (by omega)))).symm
    have go : RuleAt L j → Ok (impl_RulesOk.l1 k n ((L.length : Int), ((j + 1 : Nat) : Int), L, ())) (fun r => r = B (RulesOk L)) := fun hf => ih (d - 1) _ (by omega) ⟨j + 1, rfl, by omega, fun i hi => by
      rcases Nat.lt_or_ge i j with h | h
      · exact hq i h
      · obtain rfl : i = j := by omega
        exact hf⟩
    refine ok_if (fun h1 => bad (fun h => h1 h.1.1)) (fun h1 => ok_if (fun h2 => bad (fun h => h2 h.1.2.1)) (fun h2 => ok_if (fun h3 => bad (fun h => h3 h.1.2.2.1)) (fun h3 => ?_)))
    refine ok_bind (ruleFor_ok hl hk) (fun r hr => ?_)
    refine ok_if (fun h5 => bad (fun h => ?_)) (fun h5 => ?_)
    · rcases hr with ⟨rfl, hn⟩ | ⟨i, rfl, hi, hf, hn⟩
      · exact hn j (by omega) ⟨rfl, rfl⟩
      · rcases Nat.lt_trichotomy i j with h' | h' | h'
        · exact h.2 i h' hf
        · exact h5 (by omega)
        · exact hn j h' ⟨rfl, rfl⟩
    · have h5' := Classical.not_not.1 h5
      have hn : ∀ i, i < j → ¬ Fits (el R3 L i) (el R3 L j).1 (el R3 L j).2.1 := by
        rcases hr with ⟨rfl, hn⟩ | ⟨i, rfl, hi, hf, hn⟩
        · exact absurd h5' (by omega)
        · obtain rfl : i = j := by omega
          exact hn
      have g : ¬ ((el R3 L j).2.1 = 1 ∧ (el R3 L j).2.2 = 0) → RuleAt L j := fun h6 => ⟨⟨Classical.not_not.1 h1, Classical.not_not.1 h2, Classical.not_not.1 h3, h6⟩, hn⟩
      exact ok_if (fun h6 => ok_if (fun h7 => bad (fun h => h.1.2.2.2 ⟨h6, h7⟩)) (fun h7 => go (g (fun h => h7 h.2)))) (fun h6 => go (g (fun h => h6 h.1)))
  · refine B_of (decide_eq_true_iff.trans ⟨fun h => ⟨fun i hi => hq i (by omega), by omega⟩, fun h => ?_⟩)
    have := h.2
    omega
theorem rulesOk_s {k : Nat} {L : List (Int × Int × Int)} (hl : L.length ≤ 1048576) (hk : 1048576 < k) : spec_RulesOk.f k L = some (B (RulesOk L)) := by
  refine ok_eq ?_
  unfold spec_RulesOk.f
  refine ok_loop (L := spec_RulesOk.l1 k) (I := fun d s => ∃ j : Nat, s = ((j : Int), L, ()) ∧ j + d = L.length ∧ ∀ i, i < j → RuleAt L i) ?_ k L.length _ (by omega) ⟨0, rfl, by omega, fun i hi => absurd hi (by omega)⟩
  rintro d n s ⟨j, rfl, hd, hq⟩ ih
  rw [spec_RulesOk.l1]
  refine ok_if (fun hc => ?_) (fun hc => ok_some ?_)
  · rw [if_pos (by omega), if_pos hc]
    simp only [Int.toNat_natCast, in_s, Option.bind_some, decide_eq_true_eq]
    have h4 : w64 ((j : Int) + 1) = ((j + 1 : Nat) : Int) := w64_id (by omega) (by omega)
    have bad : ¬ RuleAt L j → Ok (some false) (fun r => r = B (RulesOk L)) := fun h => ok_some (B_no (fun hr => h (hr.1 j (by omega)))).symm
    have go : RuleAt L j → Ok (spec_RulesOk.l1 k n (((j + 1 : Nat) : Int), L, ())) (fun r => r = B (RulesOk L)) := fun hf => ih (d - 1) _ (by omega) ⟨j + 1, rfl, by omega, fun i hi => by
      rcases Nat.lt_or_ge i j with h | h
      · exact hq i h
      · obtain rfl : i = j := by omega
        exact hf⟩
    refine ok_if (fun h1 => bad (fun h => h1 h.1.1)) (fun h1 => ok_if (fun h2 => bad (fun h => h2 h.1.2.1)) (fun h2 => ok_if (fun h3 => bad (fun h => h3 h.1.2.2.1)) (fun h3 => ?_)))
    have inner : ¬ ((el R3 L j).2.1 = 1 ∧ (el R3 L j).2.2 = 0) → Ok (spec_RulesOk.l2 k (spec_RulesOk.l1 k n) k ((j : Int), 0, (el R3 L j).1, (el R3 L j).2.1, (el R3 L j).2.2, L, ())) (fun r => r = B (RulesOk L)) := fun h6 => by
      refine ok_loop (L := spec_RulesOk.l2 k (spec_RulesOk.l1 k n)) (I := fun e s => ∃ i : Nat, s = ((j : Int), (i : Int), (el R3 L j).1, (el R3 L j).2.1, (el R3 L j).2.2, L, ()) ∧ i + e = j ∧ ∀ i', i' < i → ¬ Fits (el R3 L i') (el R3 L j).1 (el R3 L j).2.1) ?_ k j _ (by omega) ⟨0, rfl, by omega, fun i hi => absurd hi (by omega)⟩
      rintro e n' s ⟨i, rfl, he, hi⟩ ih2
      rw [spec_RulesOk.l2]
      refine ok_if (fun hc2 => ?_) (fun hc2 => ?_)
      · have c0 : (0 : Int) ≤ (i : Int) := by omega
        have c1 : (i : Int) < (L.length : Int) := by omega
        have c2 : w64 ((i : Int) + 1) = ((i + 1 : Nat) : Int) := w64_id (by omega) (by omega)
        simp only [c0, c1, c2, ↓reduceIte, Int.toNat_natCast]
        have go2 : ¬ Fits (el R3 L i) (el R3 L j).1 (el R3 L j).2.1 → Ok (spec_RulesOk.l2 k (spec_RulesOk.l1 k n) n' ((j : Int), ((i + 1 : Nat) : Int), (el R3 L j).1, (el R3 L j).2.1, (el R3 L j).2.2, L, ())) (fun r => r = B (RulesOk L)) := fun hf => ih2 (e - 1) _ (by omega) ⟨i + 1, rfl, by omega, fun i' hi' => by
          rcases Nat.lt_or_ge i' i with h | h
          · exact hi i' h
          · obtain rfl : i' = i := by omega
            exact hf⟩
        exact ok_if (fun f1 => ok_if (fun f2 => bad (fun h => h.2 i (by omega) ⟨f1, f2⟩)) (fun f2 => go2 (fun h => f2 h.2))) (fun f1 => go2 (fun h => f1 h.1))
      · rw [h4]
        exact go ⟨⟨Classical.not_not.1 h1, Classical.not_not.1 h2, Classical.not_not.1 h3, h6⟩, fun i' hi' => hi i' (by omega)⟩
    exact ok_if (fun h6 => ok_if (fun h7 => bad (fun h => h.1.2.2.2 ⟨h6, h7⟩)) (fun h7 => inner (fun h => h7 h.2))) (fun h6 => inner (fun h => h6 h.1))
  · refine B_of (decide_eq_true_iff.trans ⟨fun h => ⟨fun i hi => hq i (by omega), by omega⟩, fun h => ?_⟩)
    have := h.2
    omega
end Go.Proofs.Ytacpibmmodeacaa.Pure
