/- The plain words and the plain law of FnBudgets. No condition. -/
import Derived.Test.YtacpibmmodeacaaGreatUWords
import Derived.Test.YtacpibmmodeacaaGreatBQA
/- Numbers within bounds, as both programs ask it. No condition. -/
namespace Go.Proofs.YtacpibmmodeacaaGreat.Pure
open Go Go.Proofs.YtacpibmmodeacaaGreatA Go.Proofs.YtacpibmmodeacaaGreatU Go.Proofs.YtacpibmmodeacaaGreat.QA
set_option linter.unusedVariables false
theorem in_s {k : Nat} (x lo hi : Int) : spec_l01In.f k x lo hi = some (decide (lo ≤ x ∧ x ≤ hi)) := by
 unfold spec_l01In.f
 by_cases h : lo ≤ x <;> simp [h]
theorem in_i {k : Nat} (x lo hi : Int) : impl_within.f k x lo hi = some (decide (lo ≤ x ∧ x ≤ hi)) := by
 unfold impl_within.f
 by_cases h : lo ≤ x <;> simp [h]
end Go.Proofs.YtacpibmmodeacaaGreat.Pure
/- Ports: when they are right; what is sent and taken by the program. No condition. -/
namespace Go.Proofs.YtacpibmmodeacaaGreat.Pure
open Go Go.Proofs.YtacpibmmodeacaaGreatA Go.Proofs.YtacpibmmodeacaaGreatU Go.Proofs.YtacpibmmodeacaaGreat.QA
set_option linter.unusedVariables false
set_option linter.unusedSimpArgs false
abbrev Port5 := Int × Int × Int × Int × Int
abbrev M2 : Ty := .pair (.int .i64) (.int .i64)
structure PortOk (p : Port5) : Prop where
 fr : 1 ≤ p.2.1 ∧ p.2.1 ≤ 4
 tp : 1 ≤ p.2.2.1 ∧ p.2.2.1 ≤ 4
 ne : ¬ p.2.1 = p.2.2.1
 kd : (p.1 = 1 ∧ (1 ≤ p.2.2.2.1 ∧ p.2.2.2.1 ≤ 6) ∧ p.2.2.2.2 = 0) ∨ (p.1 = 2 ∧ p.2.2.2.1 = 1 ∧ (1 ≤ p.2.2.2.2 ∧ p.2.2.2.2 ≤ 100))
theorem isPart_p {k : Nat} (x : Int) : impl_isPart.f k x = some (decide (1 ≤ x ∧ x ≤ 4)) := by
 unfold impl_isPart.f
 rw [in_i]
 rfl
theorem portOk_i {k : Nat} {p : Port5} : impl_PortOk.f k p = some (B (PortOk p)) := by
 refine ok_eq ?_
 unfold impl_PortOk.f
 simp only [isPart_p, in_i, Option.bind_some, decide_eq_true_eq]
 have no : ¬ PortOk p → Ok (some false) (fun r => r = B (PortOk p)) := fun h => ok_some (B_no h).symm
 refine ok_if (fun h => no (fun g => h g.fr)) (fun h1 => ok_if (fun h => no (fun g => h g.tp)) (fun h2 => ok_if (fun h => no (fun g => g.ne h)) (fun h3 => ok_if (fun h4 => ?_) (fun h4 => ?_))))
 ·refine ok_if (fun h5 => ok_some (B_of (decide_eq_true_iff.trans ⟨fun h => ⟨Classical.not_not.1 h1, Classical.not_not.1 h2, h3, .inl ⟨h4, h5, h⟩⟩, fun g => ?_⟩))) (fun h5 => no (fun g => ?_))
  ·rcases g.kd with h | h
   ·exact h.2.2
   ·exact absurd h.1 (by omega)
  ·rcases g.kd with h | h
   ·exact h5 h.2.1
   ·exact absurd h.1 (by omega)
 ·refine ok_if (fun h5 => ok_if (fun h6 => ok_some (B_of (decide_eq_true_iff.trans ⟨fun h => ⟨Classical.not_not.1 h1, Classical.not_not.1 h2, h3, .inr ⟨h5, h6, h⟩⟩, fun g => ?_⟩))) (fun h6 => no (fun g => ?_))) (fun h5 => no (fun g => ?_))
  ·rcases g.kd with h | h
   ·exact absurd h.1 h4
   ·exact h.2.2
  ·rcases g.kd with h | h
   ·exact h4 h.1
   ·exact h6 h.2.1
  ·rcases g.kd with h | h
   ·exact h4 h.1
   ·exact h5 h.1
/-- What has been sent, and when it was. -/
def Stamps (l : List (Int × Int)) : Prop := ∀ x, x ∈ l → -9223372036854775808 ≤ x.2 ∧ x.2 < 9223372036854775808
end Go.Proofs.YtacpibmmodeacaaGreat.Pure
/- Ports: when the reference tells that they are right. No condition. -/
namespace Go.Proofs.YtacpibmmodeacaaGreat.Pure
open Go Go.Proofs.YtacpibmmodeacaaGreatA Go.Proofs.YtacpibmmodeacaaGreatU Go.Proofs.YtacpibmmodeacaaGreat.QA
set_option linter.unusedVariables false
set_option linter.unusedSimpArgs false
theorem portOk_s {k : Nat} {p : Port5} : spec_PortOk.f k p = some (B (PortOk p)) := by
 have h : spec_PortOk.f k p = impl_PortOk.f k p := by
  unfold spec_PortOk.f impl_PortOk.f
  simp only [isPart_p, in_i, in_s, Option.bind_some]
 rw [h, portOk_i]
end Go.Proofs.YtacpibmmodeacaaGreat.Pure
/- Rules: which one is first, and when they are right. No condition. -/
namespace Go.Proofs.YtacpibmmodeacaaGreat.Pure
open Go Go.Proofs.YtacpibmmodeacaaGreatA Go.Proofs.YtacpibmmodeacaaGreatU Go.Proofs.YtacpibmmodeacaaGreat.QA
set_option linter.unusedVariables false
abbrev R3 : Ty := .pair (.int .i64) (.pair (.int .i64) (.int .i64))
def Fits (r : Int × Int × Int) (p f : Int) : Prop := r.1 = p ∧ r.2.1 = f
instance (r : Int × Int × Int) (p f : Int) : Decidable (Fits r p f) := inferInstanceAs (Decidable (_ ∧ _))
theorem ruleFor_ok {k : Nat} {L : List (Int × Int × Int)} {p f : Int} (hl : L.length ≤ 1048576) (hk : 1048576 < k) :
  Ok (impl_ruleFor.f k L p f) (fun r => (r = -1 ∧ ∀ j, j < L.length → ¬ Fits (el R3 L j) p f) ∨ ∃ i : Nat, r = (i : Int) ∧ i < L.length ∧ Fits (el R3 L i) p f ∧ ∀ j, j < i → ¬ Fits (el R3 L j) p f) := by
 unfold impl_ruleFor.f
 refine ok_loop (L := impl_ruleFor.l1 k) (I := fun d s => ∃ j : Nat, s = (p, f, (L.length : Int), (j : Int), L, ()) ∧ j + d = L.length ∧ ∀ i, i < j → ¬ Fits (el R3 L i) p f) ?_ k L.length _ (by omega) ⟨0, rfl, by omega, fun i hi => absurd hi (by omega)⟩
 rintro d n s ⟨j, rfl, hd, hq⟩ ih
 rw [impl_ruleFor.l1]
 refine ok_if (fun hc => ?_) (fun hc => ok_some (.inl ⟨rfl, fun i hi => hq i (by omega)⟩))
 rw [if_pos (by omega), if_pos hc]
 simp only [Int.toNat_natCast]
 have h4 : w64 ((j : Int) + 1) = ((j + 1 : Nat) : Int) := w64_id (by omega) (by omega)
 rw [h4]
 have go : ¬ Fits (el R3 L j) p f → Ok (impl_ruleFor.l1 k n (p, f, (L.length : Int), ((j + 1 : Nat) : Int), L, ())) _ := fun hf => ih (d - 1) _ (by omega) ⟨j + 1, rfl, by omega, fun i hi => by
  rcases Nat.lt_or_ge i j with h | h
  ·exact hq i h
  ·obtain rfl : i = j := by omega
   exact hf⟩
 refine ok_if (fun h1 => ok_if (fun h2 => ok_some (.inr ⟨j, rfl, by omega, ⟨h1, h2⟩, hq⟩)) (fun h2 => go (fun h => h2 h.2))) (fun h1 => go (fun h => h1 h.1))
/-! ### rules that are right -/
def RuleIn (r : Int × Int × Int) : Prop := (1 ≤ r.1 ∧ r.1 ≤ 4) ∧ (1 ≤ r.2.1 ∧ r.2.1 ≤ 2) ∧ (0 ≤ r.2.2 ∧ r.2.2 ≤ 4) ∧ ¬ (r.2.1 = 1 ∧ r.2.2 = 0)
def RuleAt (L : List (Int × Int × Int)) (i : Nat) : Prop := RuleIn (el R3 L i) ∧ ∀ j, j < i → ¬ Fits (el R3 L j) (el R3 L i).1 (el R3 L i).2.1
def RulesOk (L : List (Int × Int × Int)) : Prop := (∀ i, i < L.length → RuleAt L i) ∧ L.length ≤ 8
theorem isPart_i {k : Nat} (x : Int) : impl_isPart.f k x = some (decide (1 ≤ x ∧ x ≤ 4)) := by
 unfold impl_isPart.f
 rw [in_i]
 rfl
theorem rulesOk_i {k : Nat} {L : List (Int × Int × Int)} (hl : L.length ≤ 1048576) (hk : 1048576 < k) : impl_RulesOk.f k L = some (B (RulesOk L)) := by
 refine ok_eq ?_
 unfold impl_RulesOk.f
 refine ok_loop (L := impl_RulesOk.l1 k) (I := fun d s => ∃ j : Nat, s = ((L.length : Int), (j : Int), L, ()) ∧ j + d = L.length ∧ ∀ i, i < j → RuleAt L i) ?_ k L.length _ (by omega) ⟨0, rfl, by omega, fun i hi => absurd hi (by omega)⟩
 rintro d n s ⟨j, rfl, hd, hq⟩ ih
 rw [impl_RulesOk.l1]
 refine ok_if (fun hc => ?_) (fun hc => ok_some ?_)
 ·rw [if_pos (by omega), if_pos hc]
  simp only [Int.toNat_natCast, isPart_i, in_i, Option.bind_some, decide_eq_true_eq]
  have h4 : w64 ((j : Int) + 1) = ((j + 1 : Nat) : Int) := w64_id (by omega) (by omega)
  rw [h4]
  have bad : ¬ RuleAt L j → Ok (some false) (fun r => r = B (RulesOk L)) := fun h => ok_some (B_no (fun hr => h (hr.1 j (by omega)))).symm
  have go : RuleAt L j → Ok (impl_RulesOk.l1 k n ((L.length : Int), ((j + 1 : Nat) : Int), L, ())) (fun r => r = B (RulesOk L)) := fun hf => ih (d - 1) _ (by omega) ⟨j + 1, rfl, by omega, fun i hi => by
   rcases Nat.lt_or_ge i j with h | h
   ·exact hq i h
   ·obtain rfl : i = j := by omega
    exact hf⟩
  refine ok_if (fun h1 => bad (fun h => h1 h.1.1)) (fun h1 => ok_if (fun h2 => bad (fun h => h2 h.1.2.1)) (fun h2 => ok_if (fun h3 => bad (fun h => h3 h.1.2.2.1)) (fun h3 => ?_)))
  refine ok_bind (ruleFor_ok hl hk) (fun r hr => ?_)
  refine ok_if (fun h5 => bad (fun h => ?_)) (fun h5 => ?_)
  ·rcases hr with ⟨rfl, hn⟩ | ⟨i, rfl, hi, hf, hn⟩
   ·exact hn j (by omega) ⟨rfl, rfl⟩
   ·rcases Nat.lt_trichotomy i j with h' | h' | h'
    ·exact h.2 i h' hf
    ·exact h5 (by omega)
    ·exact hn j h' ⟨rfl, rfl⟩
  ·have h5' := Classical.not_not.1 h5
   have hn : ∀ i, i < j → ¬ Fits (el R3 L i) (el R3 L j).1 (el R3 L j).2.1 := by
    rcases hr with ⟨rfl, hn⟩ | ⟨i, rfl, hi, hf, hn⟩
    ·exact absurd h5' (by omega)
    ·obtain rfl : i = j := by omega
     exact hn
   have g : ¬ ((el R3 L j).2.1 = 1 ∧ (el R3 L j).2.2 = 0) → RuleAt L j := fun h6 => ⟨⟨Classical.not_not.1 h1, Classical.not_not.1 h2, Classical.not_not.1 h3, h6⟩, hn⟩
   exact ok_if (fun h6 => ok_if (fun h7 => bad (fun h => h.1.2.2.2 ⟨h6, h7⟩)) (fun h7 => go (g (fun h => h7 h.2)))) (fun h6 => go (g (fun h => h6 h.1)))
 ·refine B_of (decide_eq_true_iff.trans ⟨fun h => ⟨fun i hi => hq i (by omega), by omega⟩, fun h => ?_⟩)
  have := h.2
  omega
theorem rulesOk_s {k : Nat} {L : List (Int × Int × Int)} (hl : L.length ≤ 1048576) (hk : 1048576 < k) : spec_RulesOk.f k L = some (B (RulesOk L)) := by
 refine ok_eq ?_
 unfold spec_RulesOk.f
 refine ok_loop (L := spec_RulesOk.l1 k) (I := fun d s => ∃ j : Nat, s = ((j : Int), L, ()) ∧ j + d = L.length ∧ ∀ i, i < j → RuleAt L i) ?_ k L.length _ (by omega) ⟨0, rfl, by omega, fun i hi => absurd hi (by omega)⟩
 rintro d n s ⟨j, rfl, hd, hq⟩ ih
 rw [spec_RulesOk.l1]
 refine ok_if (fun hc => ?_) (fun hc => ok_some ?_)
 ·rw [if_pos (by omega), if_pos hc]
  simp only [Int.toNat_natCast, in_s, Option.bind_some, decide_eq_true_eq]
  have h4 : w64 ((j : Int) + 1) = ((j + 1 : Nat) : Int) := w64_id (by omega) (by omega)
  have bad : ¬ RuleAt L j → Ok (some false) (fun r => r = B (RulesOk L)) := fun h => ok_some (B_no (fun hr => h (hr.1 j (by omega)))).symm
  have go : RuleAt L j → Ok (spec_RulesOk.l1 k n (((j + 1 : Nat) : Int), L, ())) (fun r => r = B (RulesOk L)) := fun hf => ih (d - 1) _ (by omega) ⟨j + 1, rfl, by omega, fun i hi => by
   rcases Nat.lt_or_ge i j with h | h
   ·exact hq i h
   ·obtain rfl : i = j := by omega
    exact hf⟩
  refine ok_if (fun h1 => bad (fun h => h1 h.1.1)) (fun h1 => ok_if (fun h2 => bad (fun h => h2 h.1.2.1)) (fun h2 => ok_if (fun h3 => bad (fun h => h3 h.1.2.2.1)) (fun h3 => ?_)))
  have inner : ¬ ((el R3 L j).2.1 = 1 ∧ (el R3 L j).2.2 = 0) → Ok (spec_RulesOk.l2 k (spec_RulesOk.l1 k n) k ((j : Int), 0, (el R3 L j).1, (el R3 L j).2.1, (el R3 L j).2.2, L, ())) (fun r => r = B (RulesOk L)) := fun h6 => by
   refine ok_loop (L := spec_RulesOk.l2 k (spec_RulesOk.l1 k n)) (I := fun e s => ∃ i : Nat, s = ((j : Int), (i : Int), (el R3 L j).1, (el R3 L j).2.1, (el R3 L j).2.2, L, ()) ∧ i + e = j ∧ ∀ i', i' < i → ¬ Fits (el R3 L i') (el R3 L j).1 (el R3 L j).2.1) ?_ k j _ (by omega) ⟨0, rfl, by omega, fun i hi => absurd hi (by omega)⟩
   rintro e n' s ⟨i, rfl, he, hi⟩ ih2
   rw [spec_RulesOk.l2]
   refine ok_if (fun hc2 => ?_) (fun hc2 => ?_)
   ·have c0 : (0 : Int) ≤ (i : Int) := by omega
    have c1 : (i : Int) < (L.length : Int) := by omega
    have c2 : w64 ((i : Int) + 1) = ((i + 1 : Nat) : Int) := w64_id (by omega) (by omega)
    simp only [c0, c1, c2, ↓reduceIte, Int.toNat_natCast]
    have go2 : ¬ Fits (el R3 L i) (el R3 L j).1 (el R3 L j).2.1 → Ok (spec_RulesOk.l2 k (spec_RulesOk.l1 k n) n' ((j : Int), ((i + 1 : Nat) : Int), (el R3 L j).1, (el R3 L j).2.1, (el R3 L j).2.2, L, ())) (fun r => r = B (RulesOk L)) := fun hf => ih2 (e - 1) _ (by omega) ⟨i + 1, rfl, by omega, fun i' hi' => by
     rcases Nat.lt_or_ge i' i with h | h
     ·exact hi i' h
     ·obtain rfl : i' = i := by omega
      exact hf⟩
    exact ok_if (fun f1 => ok_if (fun f2 => bad (fun h => h.2 i (by omega) ⟨f1, f2⟩)) (fun f2 => go2 (fun h => f2 h.2))) (fun f1 => go2 (fun h => f1 h.1))
   ·rw [h4]
    exact go ⟨⟨Classical.not_not.1 h1, Classical.not_not.1 h2, Classical.not_not.1 h3, h6⟩, fun i' hi' => hi i' (by omega)⟩
  exact ok_if (fun h6 => ok_if (fun h7 => bad (fun h => h.1.2.2.2 ⟨h6, h7⟩)) (fun h7 => inner (fun h => h7 h.2))) (fun h6 => inner (fun h => h6 h.1))
 ·refine B_of (decide_eq_true_iff.trans ⟨fun h => ⟨fun i hi => hq i (by omega), by omega⟩, fun h => ?_⟩)
  have := h.2
  omega
end Go.Proofs.YtacpibmmodeacaaGreat.Pure
/- Plans: their time, and when they are right. No condition. -/
namespace Go.Proofs.YtacpibmmodeacaaGreat.Pure
open Go Go.Proofs.YtacpibmmodeacaaGreatA Go.Proofs.YtacpibmmodeacaaGreatU Go.Proofs.YtacpibmmodeacaaGreat.QA
set_option linter.unusedVariables false
abbrev W2 : Ty := .pair (.int .i64) (.int .i64)
def WinOk (w : Int × Int) : Prop := (1 ≤ w.1 ∧ w.1 ≤ 4) ∧ (1 ≤ w.2 ∧ w.2 ≤ 200)
def PlanOk (L : List (Int × Int)) : Prop := (∀ i, i < L.length → WinOk (el W2 L i)) ∧ 1 ≤ L.length ∧ L.length ≤ 12
theorem isPart_i' {k : Nat} (x : Int) : impl_isPart.f k x = some (decide (1 ≤ x ∧ x ≤ 4)) := by
 unfold impl_isPart.f
 rw [in_i]
 rfl
theorem isBudget_i {k : Nat} (x : Int) : impl_isBudget.f k x = some (decide (1 ≤ x ∧ x ≤ 200)) := by
 unfold impl_isBudget.f
 rw [in_i]
 rfl
theorem planOk_i {k : Nat} {L : List (Int × Int)} (hl : L.length ≤ 1048576) (hk : 1048576 < k) : impl_PlanOk.f k L = some (B (PlanOk L)) := by
 refine ok_eq ?_
 unfold impl_PlanOk.f
 refine ok_loop (L := impl_PlanOk.l1 k) (I := fun d s => ∃ j : Nat, s = ((L.length : Int), (j : Int), L, ()) ∧ j + d = L.length ∧ ∀ i, i < j → WinOk (el W2 L i)) ?_ k L.length _ (by omega) ⟨0, rfl, by omega, fun i hi => absurd hi (by omega)⟩
 rintro d n s ⟨j, rfl, hd, hq⟩ ih
 rw [impl_PlanOk.l1]
 refine ok_if (fun hc => ?_) (fun hc => ?_)
 ·rw [if_pos (by omega), if_pos hc]
  simp only [Int.toNat_natCast, isPart_i', isBudget_i, Option.bind_some, decide_eq_true_eq]
  have h4 : w64 ((j : Int) + 1) = ((j + 1 : Nat) : Int) := w64_id (by omega) (by omega)
  rw [h4]
  have bad : ¬ WinOk (el W2 L j) → Ok (some false) (fun r => r = B (PlanOk L)) := fun h => ok_some (B_no (fun hr => h (hr.1 j (by omega)))).symm
  refine ok_if (fun h => bad (fun g => h g.1)) (fun h1 => ok_if (fun h => bad (fun g => h g.2)) (fun h2 => ?_))
  exact ih (d - 1) _ (by omega) ⟨j + 1, rfl, by omega, fun i hi => by
   rcases Nat.lt_or_ge i j with h | h
   ·exact hq i h
   ·obtain rfl : i = j := by omega
    exact ⟨Classical.not_not.1 h1, Classical.not_not.1 h2⟩⟩
 ·rw [in_i]
  refine ok_let (ok_some ?_)
  refine B_of (decide_eq_true_iff.trans ⟨fun h => ⟨fun i hi => hq i (by omega), by omega, by omega⟩, fun h => ?_⟩)
  have := h.2
  omega
end Go.Proofs.YtacpibmmodeacaaGreat.Pure
/- Set-ups: their faults. No condition. -/
namespace Go.Proofs.YtacpibmmodeacaaGreat.Pure
open Go Go.Proofs.YtacpibmmodeacaaGreatA Go.Proofs.YtacpibmmodeacaaGreatU Go.Proofs.YtacpibmmodeacaaGreat.QA
set_option linter.unusedVariables false
set_option linter.unusedSimpArgs false
abbrev P5 : Ty := .pair (.int .i64) (.pair (.int .i64) (.pair (.int .i64) (.pair (.int .i64) (.int .i64))))
abbrev Setup := List (Int × Int) × List (Int × Int) × List Port5 × List (Int × Int × Int) × List ByteArray
theorem allS {p : Nat → Prop} {j : Nat} (h : ∀ i, i < j → p i) (hj : p j) : ∀ i, i < j + 1 → p i := fun i hi => by
 rcases Nat.lt_or_ge i j with h' | h'
 ·exact h i h'
 ·obtain rfl : i = j := by omega
  exact hj
/-! ### regions -/
def RegIn (r : Int × Int) : Prop := 0 ≤ r.1 ∧ 1 ≤ r.2 ∧ r.2 ≤ 64 ∧ r.1 ≤ 64 - r.2
def Over (r o : Int × Int) : Prop := r.1 < o.1 + o.2 ∧ o.1 < r.1 + r.2
def RegAt (L : List (Int × Int)) (i : Nat) : Prop := RegIn (el W2 L i) ∧ ∀ j, j < i → ¬ Over (el W2 L i) (el W2 L j)
def RegionsOk (L : List (Int × Int)) : Prop := (∀ i, i < L.length → RegAt L i) ∧ 1 ≤ L.length ∧ L.length ≤ 4
theorem regionsOk_i {k : Nat} {L : List (Int × Int)} (hl : L.length ≤ 1048576) (hk : 1048576 < k) : impl_RegionsOk.f k L = some (B (RegionsOk L)) := by
 refine ok_eq ?_
 unfold impl_RegionsOk.f
 refine ok_loop (L := impl_RegionsOk.l1 k) (I := fun d s => ∃ j : Nat, s = ((L.length : Int), (j : Int), L, ()) ∧ j + d = L.length ∧ ∀ i, i < j → RegAt L i) ?_ k L.length _ (by omega) ⟨0, rfl, by omega, fun i hi => absurd hi (by omega)⟩
 rintro d n s ⟨j, rfl, hd, hq⟩ ih
 rw [impl_RegionsOk.l1]
 refine ok_if (fun hc => ?_) (fun hc => ?_)
 ·have hj : j < L.length := by omega
  have c0 : (0 : Int) ≤ (j : Int) := by omega
  have c1 : (j : Int) ≤ (L.length : Int) := by omega
  have h4 : w64 ((j : Int) + 1) = ((j + 1 : Nat) : Int) := w64_id (by omega) (by omega)
  have bad : ¬ RegAt L j → Ok (some false) (fun r => r = B (RegionsOk L)) := fun h => ok_some (B_no (fun hr => h (hr.1 j hj))).symm
  have go : RegAt L j → Ok (impl_RegionsOk.l1 k n ((L.length : Int), ((j + 1 : Nat) : Int), L, ())) (fun r => r = B (RegionsOk L)) := fun h => ih (d - 1) _ (by omega) ⟨j + 1, rfl, by omega, allS hq h⟩
  obtain ⟨fr, z, hxe⟩ : ∃ fr z : Int, el W2 L j = (fr, z) := ⟨_, _, rfl⟩
  unfold RegAt at bad go
  rw [hxe] at bad go
  simp only [c0, c1, hc, ↓reduceIte, Int.toNat_natCast, show el (.pair (.int .i64) (.int .i64)) L j = (fr, z) from hxe]
  refine ok_if (fun (h1 : fr < (0 : Int)) => bad (fun h => ?_)) (fun (h1 : ¬ fr < (0 : Int)) => ok_if (fun (h2 : z < (1 : Int)) => bad (fun h => ?_)) (fun (h2 : ¬ z < (1 : Int)) => ok_if (fun (h3 : (64 : Int) < z) => bad (fun h => ?_)) (fun (h3 : ¬ (64 : Int) < z) => ?_)))
  ·have := h.1.1; dsimp only at this; omega
  ·have := h.1.2.1; dsimp only at this; omega
  ·have := h.1.2.2.1; dsimp only at this; omega
  ·rw [w64_id (z := 64 - z) (by omega) (by omega)]
   refine ok_if (fun (h5 : 64 - z < fr) => bad (fun h => ?_)) (fun (h5 : ¬ 64 - z < fr) => ?_)
   ·have := h.1.2.2.2; dsimp only at this; omega
   ·have hin : RegIn (fr, z) := ⟨by dsimp only; omega, by dsimp only; omega, by dsimp only; omega, by dsimp only; omega⟩
    have htl : (L.take j).length = j := by rw [List.length_take]; omega
    refine ok_loop (L := impl_RegionsOk.l2 k (impl_RegionsOk.l1 k n)) (I := fun e s => ∃ i : Nat, s = ((L.length : Int), (j : Int), ((j : Nat) : Int), (i : Int), fr, z, L, L.take j, ()) ∧ i + e = j ∧ ∀ i', i' < i → ¬ Over (fr, z) (el W2 L i')) ?_ k j _ (by omega) ⟨0, rfl, by omega, fun i hi => absurd hi (by omega)⟩
    rintro e n' s ⟨i, rfl, he, hi⟩ ih2
    rw [impl_RegionsOk.l2]
    refine ok_if (fun hc2 => ?_) (fun hc2 => ?_)
    ·have hij : i < j := by omega
     have c2 : (0 : Int) ≤ (i : Int) := by omega
     have c3 : (i : Int) < ((L.take j).length : Int) := by omega
     have c4 : w64 ((i : Int) + 1) = ((i + 1 : Nat) : Int) := w64_id (by omega) (by omega)
     have et : el W2 (L.take j) i = el W2 L i := el_at (t := W2) (by rw [List.getElem?_take, if_pos hij]; exact el_lt (t := W2) (by omega))
     obtain ⟨f2, z2, hx2⟩ : ∃ f2 z2 : Int, el W2 L i = (f2, z2) := ⟨_, _, rfl⟩
     have hin2 := (hq i hij).1
     rw [hx2] at hin2
     obtain ⟨q1, q2, q3, q4⟩ := hin2
     obtain ⟨p1, p2, p3, p4⟩ := hin
     simp only at q1 q2 q3 q4 p1 p2 p3 p4
     simp only [c2, c3, c4, ↓reduceIte, Int.toNat_natCast, show el (.pair (.int .i64) (.int .i64)) (L.take j) i = (f2, z2) from et.trans hx2]
     rw [w64_id (z := f2 + z2) (by omega) (by omega), w64_id (z := fr + z) (by omega) (by omega)]
     have go2 : ¬ Over (fr, z) (f2, z2) → Ok (impl_RegionsOk.l2 k (impl_RegionsOk.l1 k n) n' ((L.length : Int), (j : Int), ((j : Nat) : Int), ((i + 1 : Nat) : Int), fr, z, L, L.take j, ())) (fun r => r = B (RegionsOk L)) := fun h => ih2 (e - 1) _ (by omega) ⟨i + 1, rfl, by omega, allS hi (by rw [hx2]; exact h)⟩
     refine ok_if (fun o1 => ok_if (fun o2 => bad (fun h => h.2 i hij (by rw [hx2]; exact ⟨o1, o2⟩))) (fun o2 => go2 (fun h => o2 h.2))) (fun o1 => go2 (fun h => o1 h.1))
    ·rw [h4]
     exact go ⟨hin, fun i' hi' => hi i' (by omega)⟩
 ·rw [in_i]
  refine ok_let (ok_some (B_of (decide_eq_true_iff.trans ⟨fun h => ⟨fun i hi => hq i (by omega), by omega, by omega⟩, fun h => ?_⟩)))
  have := h.2
  omega
theorem regionsOk_s {k : Nat} {L : List (Int × Int)} (hl : L.length ≤ 1048576) (hk : 1048576 < k) : spec_RegionsOk.f k L = some (B (RegionsOk L)) := by
 refine ok_eq ?_
 unfold spec_RegionsOk.f
 refine ok_loop (L := spec_RegionsOk.l1 k) (I := fun d s => ∃ j : Nat, s = ((j : Int), L, ()) ∧ j + d = L.length ∧ ∀ i, i < j → RegAt L i) ?_ k L.length _ (by omega) ⟨0, rfl, by omega, fun i hi => absurd hi (by omega)⟩
 rintro d n s ⟨j, rfl, hd, hq⟩ ih
 rw [spec_RegionsOk.l1]
 refine ok_if (fun hc => ?_) (fun hc => ?_)
 ·have hj : j < L.length := by omega
  have c0 : (0 : Int) ≤ (j : Int) := by omega
  have h4 : w64 ((j : Int) + 1) = ((j + 1 : Nat) : Int) := w64_id (by omega) (by omega)
  have bad : ¬ RegAt L j → Ok (some false) (fun r => r = B (RegionsOk L)) := fun h => ok_some (B_no (fun hr => h (hr.1 j hj))).symm
  have go : RegAt L j → Ok (spec_RegionsOk.l1 k n (((j + 1 : Nat) : Int), L, ())) (fun r => r = B (RegionsOk L)) := fun h => ih (d - 1) _ (by omega) ⟨j + 1, rfl, by omega, allS hq h⟩
  obtain ⟨fr, z, hxe⟩ : ∃ fr z : Int, el W2 L j = (fr, z) := ⟨_, _, rfl⟩
  unfold RegAt at bad go
  rw [hxe] at bad go
  simp only [c0, hc, ↓reduceIte, Int.toNat_natCast, show el (.pair (.int .i64) (.int .i64)) L j = (fr, z) from hxe, in_s, Option.bind_some, decide_eq_true_eq]
  refine ok_if (fun h1 => bad (fun h => ?_)) (fun h1 => ?_)
  ·obtain ⟨p1, p2, p3, p4⟩ := h.1
   simp only at p1 p2 p3 p4
   omega
  ·have h1' := Classical.not_not.1 h1
   rw [w64_id (z := 64 - fr) (by omega) (by omega)]
   refine ok_if (fun h2 => bad (fun h => ?_)) (fun h2 => ?_)
   ·obtain ⟨p1, p2, p3, p4⟩ := h.1
    simp only at p1 p2 p3 p4
    omega
   ·have hin : RegIn (fr, z) := ⟨by dsimp only; omega, by dsimp only; omega, by dsimp only; omega, by dsimp only; omega⟩
    refine ok_loop (L := spec_RegionsOk.l2 k (spec_RegionsOk.l1 k n)) (I := fun e s => ∃ i : Nat, s = ((j : Int), (i : Int), fr, z, L, ()) ∧ i + e = j ∧ ∀ i', i' < i → ¬ Over (fr, z) (el W2 L i')) ?_ k j _ (by omega) ⟨0, rfl, by omega, fun i hi => absurd hi (by omega)⟩
    rintro e n' s ⟨i, rfl, he, hi⟩ ih2
    rw [spec_RegionsOk.l2]
    refine ok_if (fun hc2 => ?_) (fun hc2 => ?_)
    ·have hij : i < j := by omega
     have c2 : (0 : Int) ≤ (i : Int) := by omega
     have c3 : (i : Int) < (L.length : Int) := by omega
     have c4 : w64 ((i : Int) + 1) = ((i + 1 : Nat) : Int) := w64_id (by omega) (by omega)
     obtain ⟨f2, z2, hx2⟩ : ∃ f2 z2 : Int, el W2 L i = (f2, z2) := ⟨_, _, rfl⟩
     have hin2 := (hq i hij).1
     rw [hx2] at hin2
     obtain ⟨q1, q2, q3, q4⟩ := hin2
     obtain ⟨p1, p2, p3, p4⟩ := hin
     simp only at q1 q2 q3 q4 p1 p2 p3 p4
     simp only [c2, c3, c4, ↓reduceIte, Int.toNat_natCast, show el (.pair (.int .i64) (.int .i64)) L i = (f2, z2) from hx2]
     rw [w64_id (z := f2 + z2) (by omega) (by omega), w64_id (z := fr + z) (by omega) (by omega)]
     have go2 : ¬ Over (fr, z) (f2, z2) → Ok (spec_RegionsOk.l2 k (spec_RegionsOk.l1 k n) n' ((j : Int), ((i + 1 : Nat) : Int), fr, z, L, ())) (fun r => r = B (RegionsOk L)) := fun h => ih2 (e - 1) _ (by omega) ⟨i + 1, rfl, by omega, allS hi (by rw [hx2]; exact h)⟩
     refine ok_if (fun o1 => ok_if (fun o2 => bad (fun h => h.2 i hij (by rw [hx2]; exact ⟨o1, o2⟩))) (fun o2 => go2 (fun h => o2 h.2))) (fun o1 => go2 (fun h => o1 h.1))
    ·rw [h4]
     exact go ⟨hin, fun i' hi' => hi i' (by omega)⟩
 ·rw [in_s]
  refine ok_let (ok_some (B_of (decide_eq_true_iff.trans ⟨fun h => ⟨fun i hi => hq i (by omega), by omega, by omega⟩, fun h => ?_⟩)))
  have := h.2
  omega
theorem planOk_s {k : Nat} {L : List (Int × Int)} (hl : L.length ≤ 1048576) (hk : 1048576 < k) : spec_PlanOk.f k L = some (B (PlanOk L)) := by
 refine ok_eq ?_
 unfold spec_PlanOk.f
 refine ok_loop (L := spec_PlanOk.l1 k) (I := fun d s => ∃ j : Nat, s = ((j : Int), L, ()) ∧ j + d = L.length ∧ ∀ i, i < j → WinOk (el W2 L i)) ?_ k L.length _ (by omega) ⟨0, rfl, by omega, fun i hi => absurd hi (by omega)⟩
 rintro d n s ⟨j, rfl, hd, hq⟩ ih
 rw [spec_PlanOk.l1]
 refine ok_if (fun hc => ?_) (fun hc => ?_)
 ·have c0 : (0 : Int) ≤ (j : Int) := by omega
  have h4 : w64 ((j : Int) + 1) = ((j + 1 : Nat) : Int) := w64_id (by omega) (by omega)
  simp only [c0, hc, ↓reduceIte, Int.toNat_natCast, in_s, h4, Option.bind_some, decide_eq_true_eq]
  have bad : ¬ WinOk (el W2 L j) → Ok (some false) (fun r => r = B (PlanOk L)) := fun h => ok_some (B_no (fun hr => h (hr.1 j (by omega)))).symm
  refine ok_if (fun h => bad (fun g => h g.1)) (fun h1 => ok_if (fun h => bad (fun g => h g.2)) (fun h2 => ?_))
  exact ih (d - 1) _ (by omega) ⟨j + 1, rfl, by omega, allS hq ⟨Classical.not_not.1 h1, Classical.not_not.1 h2⟩⟩
 ·rw [in_s]
  refine ok_let (ok_some (B_of (decide_eq_true_iff.trans ⟨fun h => ⟨fun i hi => hq i (by omega), by omega, by omega⟩, fun h => ?_⟩)))
  have := h.2
  omega
/-! ### codes -/
def CodeRead (s : ByteArray) : Prop := s.size % 2 = 0 ∧ s.size ≤ 120
/-- The instructions that stand in a text's bytes. -/
def insOf (s : ByteArray) (n : Nat) : List (Int × Int) := (List.range n).map fun i => (bt s ((2 * i : Nat) : Int), bt s ((2 * i + 1 : Nat) : Int))
theorem insOf_len (s : ByteArray) (n : Nat) : (insOf s n).length = n := by simp [insOf]
theorem insOf_next (s : ByteArray) (n : Nat) : insOf s (n + 1) = insOf s n ++ [(bt s ((2 * n : Nat) : Int), bt s ((2 * n + 1 : Nat) : Int))] := by simp [insOf, List.range_succ]
noncomputable def readM (s : ByteArray) : List (Int × Int) × Bool := if B (CodeRead s) = true then (insOf s (s.size / 2), true) else ([], false)
theorem bt_in (s : ByteArray) (i : Int) : 0 ≤ bt s i ∧ bt s i ≤ 255 := by
 unfold bt
 have := (s.toList.getD i.toNat 0).toNat_lt
 omega
theorem tmod2 (n : Nat) : (Int.tmod (n : Int) 2 = 0) ↔ n % 2 = 0 := by
 rw [Int.tmod_eq_emod_of_nonneg (by omega)]
 omega
theorem read_i {k : Nat} {s : ByteArray} (hk : 1048576 < k) : impl_ReadCode.f k s = some (readM s) := by
 refine ok_eq ?_
 unfold impl_ReadCode.f readM
 refine ok_if (fun h => ok_some ?_) (fun h1 => ok_if (fun h => ok_some ?_) (fun h2 => ok_let ?_))
 ·rw [B_no (fun g => h ((tmod2 _).2 g.1))]
  rfl
 ·rw [B_no (fun g => by have := g.2; omega)]
  rfl
 ·have h0 : s.size % 2 = 0 := (tmod2 _).1 (Classical.not_not.1 h1)
  rw [B_yes ⟨h0, by omega⟩, if_pos rfl]
  refine ok_loop (L := impl_ReadCode.l1 k) (I := fun d t => ∃ j : Nat, t = (s, ((2 * j : Nat) : Int), insOf s j, ()) ∧ j + d = s.size / 2) ?_ k (s.size / 2) _ (by omega) ⟨0, rfl, by omega⟩
  rintro d n t ⟨j, rfl, hd⟩ ih
  rw [impl_ReadCode.l1]
  refine ok_if (fun hc => ?_) (fun hc => ok_some ?_)
  ·have c0 : (0 : Int) ≤ ((2 * j : Nat) : Int) := by omega
   have c1 : w64 (((2 * j : Nat) : Int) + 1) = ((2 * j + 1 : Nat) : Int) := by rw [w64_id (by omega) (by omega)]; omega
   have c2 : (0 : Int) ≤ ((2 * j + 1 : Nat) : Int) := by omega
   have c3 : ((2 * j + 1 : Nat) : Int) < (s.size : Int) := by omega
   have c4 : w64 (((2 * j : Nat) : Int) + 2) = ((2 * (j + 1) : Nat) : Int) := by rw [w64_id (by omega) (by omega)]; omega
   have b1 := bt_in s ((2 * j : Nat) : Int)
   have b2 := bt_in s ((2 * j + 1 : Nat) : Int)
   have hl := insOf_len s j
   simp only [c0, hc, c1, c2, c3, c4, ↓reduceIte, Option.bind_some, List.length_cons, List.length_nil]
   rw [w64_id (z := bt s ((2 * j : Nat) : Int)) (by omega) (by omega), w64_id (z := bt s ((2 * j + 1 : Nat) : Int)) (by omega) (by omega), if_pos (by omega), ← insOf_next]
   exact ih (d - 1) _ (by omega) ⟨j + 1, rfl, by omega⟩
  ·obtain rfl : j = s.size / 2 := by omega
   rfl
theorem read_s {k : Nat} {s : ByteArray} (hk : 1048576 < k) : spec_ReadCode.f k s = some (readM s) := by
 have hl : ∀ n t, spec_ReadCode.l1 k n t = impl_ReadCode.l1 k n t := by
  intro n
  induction n with
  | zero => intro t; rfl
  | succ n ih =>
   rintro ⟨a, b, c, u⟩
   simp only [spec_ReadCode.l1, impl_ReadCode.l1, ih]
 rw [← read_i (s := s) hk]
 unfold spec_ReadCode.f impl_ReadCode.f
 simp only [Option.bind_some, hl]
def CodesOk (L : List ByteArray) (n : Int) : Prop := (∀ i, i < L.length → CodeRead (el .str L i)) ∧ (L.length : Int) = n
theorem codesOk_i {k : Nat} {L : List ByteArray} {n : Int} (hl : L.length ≤ 1048576) (hk : 1048576 < k) : impl_codesOk.f k L n = some (B (CodesOk L n)) := by
 refine ok_eq ?_
 unfold impl_codesOk.f
 refine ok_loop (L := impl_codesOk.l1 k) (I := fun d s => ∃ j : Nat, s = (n, (L.length : Int), (j : Int), L, ()) ∧ j + d = L.length ∧ ∀ i, i < j → CodeRead (el .str L i)) ?_ k L.length _ (by omega) ⟨0, rfl, by omega, fun i hi => absurd hi (by omega)⟩
 rintro d m s ⟨j, rfl, hd, hq⟩ ih
 rw [impl_codesOk.l1]
 refine ok_if (fun hc => ok_grd (by omega) (ok_grd hc ?_)) (fun hc => ok_some (B_of (decide_eq_true_iff.trans ⟨fun h => ⟨fun i hi => hq i (by omega), h⟩, fun h => h.2⟩)))
 have h4 : w64 ((j : Int) + 1) = ((j + 1 : Nat) : Int) := w64_id (by omega) (by omega)
 rw [read_i hk, h4]
 simp only [Int.toNat_natCast, Option.bind_some]
 by_cases h : CodeRead (el .str L j)
 ·have e : (readM (el .str L j)).2 = true := by
   unfold readM
   rw [B_yes h, if_pos rfl]
  rw [if_neg (fun g => g e)]
  exact ih (d - 1) _ (by omega) ⟨j + 1, rfl, by omega, allS hq h⟩
 ·have e : (readM (el .str L j)).2 = false := by
   unfold readM
   rw [B_no h]
   rfl
  rw [if_pos (by rw [e]; simp)]
  exact ok_some (B_no (fun g => h (g.1 j (by omega)))).symm
/-! ### ports and parts -/
def PortsOk (L : List Port5) : Prop := (∀ i, i < L.length → PortOk (el P5 L i)) ∧ L.length ≤ 6
theorem portsOk_i {k : Nat} {L : List Port5} (hl : L.length ≤ 1048576) (hk : 1048576 < k) : impl_portsOk.f k L = some (B (PortsOk L)) := by
 refine ok_eq ?_
 unfold impl_portsOk.f
 refine ok_loop (L := impl_portsOk.l1 k) (I := fun d s => ∃ j : Nat, s = ((L.length : Int), (j : Int), L, ()) ∧ j + d = L.length ∧ ∀ i, i < j → PortOk (el P5 L i)) ?_ k L.length _ (by omega) ⟨0, rfl, by omega, fun i hi => absurd hi (by omega)⟩
 rintro d m s ⟨j, rfl, hd, hq⟩ ih
 rw [impl_portsOk.l1]
 refine ok_if (fun hc => ok_grd (by omega) (ok_grd hc ?_)) (fun hc => ok_some (B_of (decide_eq_true_iff.trans ⟨fun h => ⟨fun i hi => hq i (by omega), by omega⟩, fun h => by have := h.2; omega⟩)))
 have h4 : w64 ((j : Int) + 1) = ((j + 1 : Nat) : Int) := w64_id (by omega) (by omega)
 rw [portOk_i, h4]
 simp only [Int.toNat_natCast]
 refine ok_let (ok_if (fun h => ok_some (B_no (fun g => h (B_yes (g.1 j (by omega))))).symm) (fun h => ?_))
 exact ih (d - 1) _ (by omega) ⟨j + 1, rfl, by omega, allS hq (B_iff.1 (Classical.not_not.1 h))⟩
structure PartsOk (s : Setup) : Prop where
 wins : ∀ i, i < s.2.1.length → (el W2 s.2.1 i).1 ≤ (s.1.length : Int)
 pfr : ∀ i, i < s.2.2.1.length → (el P5 s.2.2.1 i).2.1 ≤ (s.1.length : Int)
 pto : ∀ i, i < s.2.2.1.length → (el P5 s.2.2.1 i).2.2.1 ≤ (s.1.length : Int)
 rls : ∀ i, i < s.2.2.2.1.length → (el R3 s.2.2.2.1 i).1 ≤ (s.1.length : Int)
theorem partsOk_i {k : Nat} {s : Setup} (h2 : s.2.1.length ≤ 1048576) (h3 : s.2.2.1.length ≤ 1048576) (h4 : s.2.2.2.1.length ≤ 1048576) (hk : 1048576 < k) : impl_partsOk.f k s = some (B (PartsOk s)) := by
 obtain ⟨R, W, P, U, C⟩ := s
 simp only at h2 h3 h4
 refine ok_eq ?_
 unfold impl_partsOk.f
 refine ok_loop (L := impl_partsOk.l1 k) (I := fun d t => ∃ (j : Nat) (x : Int), t = (x, (W.length : Int), (j : Int), R, W, P, U, C, ()) ∧ j + d = W.length ∧ (x ≤ (R.length : Int) ↔ ∀ i, i < j → (el W2 W i).1 ≤ (R.length : Int))) ?_ k W.length _ (by omega) ⟨0, 0, rfl, by omega, ⟨fun _ i hi => absurd hi (by omega), fun _ => by omega⟩⟩
 rintro d m t ⟨j, x, rfl, hd, hq⟩ ih
 rw [impl_partsOk.l1]
 refine ok_if (fun hc => ok_grd (by omega) (ok_grd hc ?_)) (fun hc => ?_)
 ·have c4 : w64 ((j : Int) + 1) = ((j + 1 : Nat) : Int) := w64_id (by omega) (by omega)
  rw [c4]
  simp only [Int.toNat_natCast]
  refine ih (d - 1) _ (by omega) ⟨j + 1, _, rfl, by omega, Int.max_le.trans ⟨fun h => allS (hq.1 h.1) h.2, fun h => ⟨hq.2 (fun i hi => h i (by omega)), h j (by omega)⟩⟩⟩
 ·have hq1 : x ≤ (R.length : Int) ↔ ∀ i, i < W.length → (el W2 W i).1 ≤ (R.length : Int) := by
   rw [hq, show j = W.length by omega]
  clear ih hq hc hd
  refine ok_loop (L := impl_partsOk.l2 k) (I := fun d t => ∃ (j : Nat) (y : Int), t = (y, (P.length : Int), (j : Int), R, W, P, U, C, ()) ∧ j + d = P.length ∧ (y ≤ (R.length : Int) ↔ x ≤ (R.length : Int) ∧ (∀ i, i < j → (el P5 P i).2.1 ≤ (R.length : Int)) ∧ ∀ i, i < j → (el P5 P i).2.2.1 ≤ (R.length : Int))) ?_ k P.length _ (by omega) ⟨0, x, rfl, by omega, ⟨fun h => ⟨h, fun i hi => absurd hi (by omega), fun i hi => absurd hi (by omega)⟩, fun h => h.1⟩⟩
  rintro d m' t ⟨j, y, rfl, hd, hq⟩ ih
  rw [impl_partsOk.l2]
  refine ok_if (fun hc => ok_grd (by omega) (ok_grd hc ?_)) (fun hc => ?_)
  ·have c4 : w64 ((j : Int) + 1) = ((j + 1 : Nat) : Int) := w64_id (by omega) (by omega)
   rw [c4]
   simp only [Int.toNat_natCast]
   refine ih (d - 1) _ (by omega) ⟨j + 1, _, rfl, by omega, Int.max_le.trans ⟨fun h => ?_, fun h => ⟨Int.max_le.2 ⟨hq.2 ⟨h.1, fun i hi => h.2.1 i (by omega), fun i hi => h.2.2 i (by omega)⟩, h.2.1 j (by omega)⟩, h.2.2 j (by omega)⟩⟩⟩
   have h1 := Int.max_le.1 h.1
   have h2 := hq.1 h1.1
   exact ⟨h2.1, allS h2.2.1 h1.2, allS h2.2.2 h.2⟩
  ·have hq2 : y ≤ (R.length : Int) ↔ x ≤ (R.length : Int) ∧ (∀ i, i < P.length → (el P5 P i).2.1 ≤ (R.length : Int)) ∧ ∀ i, i < P.length → (el P5 P i).2.2.1 ≤ (R.length : Int) := by
    rw [hq, show j = P.length by omega]
   clear ih hq hc hd
   refine ok_loop (L := impl_partsOk.l3 k) (I := fun d t => ∃ (j : Nat) (z : Int), t = (z, (U.length : Int), (j : Int), R, W, P, U, C, ()) ∧ j + d = U.length ∧ (z ≤ (R.length : Int) ↔ y ≤ (R.length : Int) ∧ ∀ i, i < j → (el R3 U i).1 ≤ (R.length : Int))) ?_ k U.length _ (by omega) ⟨0, y, rfl, by omega, ⟨fun h => ⟨h, fun i hi => absurd hi (by omega)⟩, fun h => h.1⟩⟩
   rintro d m'' t ⟨j, z, rfl, hd, hq⟩ ih
   rw [impl_partsOk.l3]
   refine ok_if (fun hc => ok_grd (by omega) (ok_grd hc ?_)) (fun hc => ok_some (B_of (decide_eq_true_iff.trans ?_)))
   ·have c4 : w64 ((j : Int) + 1) = ((j + 1 : Nat) : Int) := w64_id (by omega) (by omega)
    rw [c4]
    simp only [Int.toNat_natCast]
    refine ih (d - 1) _ (by omega) ⟨j + 1, _, rfl, by omega, Int.max_le.trans ⟨fun h => ?_, fun h => ⟨hq.2 ⟨h.1, fun i hi => h.2 i (by omega)⟩, h.2 j (by omega)⟩⟩⟩
    have h2 := hq.1 h.1
    exact ⟨h2.1, allS h2.2 h.2⟩
   ·rw [hq, show j = U.length by omega, hq2, hq1]
    exact ⟨fun h => ⟨h.1.1, h.1.2.1, h.1.2.2, h.2⟩, fun h => ⟨⟨h.wins, h.pfr, h.pto⟩, h.rls⟩⟩
theorem partsOk_s {k : Nat} {s : Setup} (h2 : s.2.1.length ≤ 1048576) (h3 : s.2.2.1.length ≤ 1048576) (h4 : s.2.2.2.1.length ≤ 1048576) (hk : 1048576 < k) : spec_l11Parts.f k s = some (if B (PartsOk s) = true then 0 else 6) := by
 obtain ⟨R, W, P, U, C⟩ := s
 simp only at h2 h3 h4
 refine ok_eq ?_
 unfold spec_l11Parts.f
 have no : ¬ PartsOk (R, W, P, U, C) → Ok (some (6 : Int)) (fun r => r = if B (PartsOk (R, W, P, U, C)) = true then 0 else 6) := fun h => ok_some (by rw [B_no h]; rfl)
 refine ok_loop (L := spec_l11Parts.l1 k) (I := fun d t => ∃ j : Nat, t = ((R.length : Int), (j : Int), R, W, P, U, C, ()) ∧ j + d = W.length ∧ ∀ i, i < j → (el W2 W i).1 ≤ (R.length : Int)) ?_ k W.length _ (by omega) ⟨0, rfl, by omega, fun i hi => absurd hi (by omega)⟩
 rintro d m t ⟨j, rfl, hd, hq⟩ ih
 rw [spec_l11Parts.l1]
 refine ok_if (fun hc => ok_grd (by omega) (ok_grd hc ?_)) (fun hc => ?_)
 ·have c4 : w64 ((j : Int) + 1) = ((j + 1 : Nat) : Int) := w64_id (by omega) (by omega)
  rw [c4]
  simp only [Int.toNat_natCast]
  exact ok_if (fun h => no (fun g => Int.not_le.2 h (g.wins j (by dsimp only; omega)))) (fun h => ih (d - 1) _ (by omega) ⟨j + 1, rfl, by omega, allS hq (Int.not_lt.1 h)⟩)
 ·have hq1 : ∀ i, i < W.length → (el W2 W i).1 ≤ (R.length : Int) := fun i hi => hq i (by omega)
  clear ih hq hc hd
  refine ok_loop (L := spec_l11Parts.l2 k) (I := fun d t => ∃ j : Nat, t = ((R.length : Int), (j : Int), R, W, P, U, C, ()) ∧ j + d = P.length ∧ (∀ i, i < j → (el P5 P i).2.1 ≤ (R.length : Int)) ∧ ∀ i, i < j → (el P5 P i).2.2.1 ≤ (R.length : Int)) ?_ k P.length _ (by omega) ⟨0, rfl, by omega, fun i hi => absurd hi (by omega), fun i hi => absurd hi (by omega)⟩
  rintro d m' t ⟨j, rfl, hd, hq, hq'⟩ ih
  rw [spec_l11Parts.l2]
  refine ok_if (fun hc => ok_grd (by omega) (ok_grd hc ?_)) (fun hc => ?_)
  ·have c4 : w64 ((j : Int) + 1) = ((j + 1 : Nat) : Int) := w64_id (by omega) (by omega)
   rw [c4]
   simp only [Int.toNat_natCast]
   exact ok_if (fun h => no (fun g => Int.not_le.2 h (g.pfr j (by dsimp only; omega)))) (fun h => ok_grd (by omega) (ok_grd hc (ok_if (fun h' => no (fun g => Int.not_le.2 h' (g.pto j (by dsimp only; omega)))) (fun h' => ih (d - 1) _ (by omega) ⟨j + 1, rfl, by omega, allS hq (Int.not_lt.1 h), allS hq' (Int.not_lt.1 h')⟩))))
  ·have hq2 : ∀ i, i < P.length → (el P5 P i).2.1 ≤ (R.length : Int) := fun i hi => hq i (by omega)
   have hq3 : ∀ i, i < P.length → (el P5 P i).2.2.1 ≤ (R.length : Int) := fun i hi => hq' i (by omega)
   clear ih hq hq' hc hd
   refine ok_loop (L := spec_l11Parts.l3 k) (I := fun d t => ∃ j : Nat, t = ((R.length : Int), (j : Int), R, W, P, U, C, ()) ∧ j + d = U.length ∧ ∀ i, i < j → (el R3 U i).1 ≤ (R.length : Int)) ?_ k U.length _ (by omega) ⟨0, rfl, by omega, fun i hi => absurd hi (by omega)⟩
   rintro d m'' t ⟨j, rfl, hd, hq⟩ ih
   rw [spec_l11Parts.l3]
   refine ok_if (fun hc => ok_grd (by omega) (ok_grd hc ?_)) (fun hc => ok_some ?_)
   ·have c4 : w64 ((j : Int) + 1) = ((j + 1 : Nat) : Int) := w64_id (by omega) (by omega)
    rw [c4]
    simp only [Int.toNat_natCast]
    exact ok_if (fun h => no (fun g => Int.not_le.2 h (g.rls j (by dsimp only; omega)))) (fun h => ih (d - 1) _ (by omega) ⟨j + 1, rfl, by omega, allS hq (Int.not_lt.1 h)⟩)
   ·rw [B_yes ⟨hq1, hq2, hq3, fun i hi => hq i (by dsimp only at hi; omega)⟩]
    rfl
/-! ### the fault -/
noncomputable def faultM (s : Setup) : Int :=
 if ¬ B (RegionsOk s.1) = true then 1 else if ¬ B (PlanOk s.2.1) = true then 2 else if ¬ B (PortsOk s.2.2.1) = true then 3 else if ¬ B (RulesOk s.2.2.2.1) = true then 4 else if ¬ B (CodesOk s.2.2.2.2 (s.1.length : Int)) = true then 5 else if ¬ B (PartsOk s) = true then 6 else 0
structure Small (s : Setup) : Prop where
 a : s.1.length ≤ 1048576
 b : s.2.1.length ≤ 1048576
 c : s.2.2.1.length ≤ 1048576
 d : s.2.2.2.1.length ≤ 1048576
 e : s.2.2.2.2.length ≤ 1048576
theorem fault_i {k : Nat} {s : Setup} (h : Small s) (hk : 1048576 < k) : impl_SetupFault.f k s = some (faultM s) := by
 unfold impl_SetupFault.f faultM
 rw [regionsOk_i h.a hk, planOk_i h.b hk, portsOk_i h.c hk, rulesOk_i h.d hk, codesOk_i h.e hk, partsOk_i h.b h.c h.d hk]
 simp only [Option.bind_some]
 repeat' split
 all_goals rfl
theorem fault_s {k : Nat} {s : Setup} (h : Small s) (hk : 1048576 < k) : spec_SetupFault.f k s = some (faultM s) := by
 obtain ⟨R, W, P, U, C⟩ := s
 obtain ⟨h1, h2, h3, h4, h5⟩ := h
 simp only at h1 h2 h3 h4 h5
 refine ok_eq ?_
 unfold spec_SetupFault.f faultM
 rw [regionsOk_s h1 hk, planOk_s h2 hk]
 simp only [Option.bind_some]
 refine ok_if (fun h => ok_some (by rw [if_pos h])) (fun g1 => ok_if (fun h => ok_some (by rw [if_neg g1, if_pos h])) (fun g2 => ?_))
 rw [if_neg g1, if_neg g2]
 have no : ¬ PortsOk P → Ok (some (3 : Int)) (fun r => r = if ¬ B (PortsOk P) = true then 3 else if ¬ B (RulesOk U) = true then 4 else if ¬ B (CodesOk C (R.length : Int)) = true then 5 else if ¬ B (PartsOk (R, W, P, U, C)) = true then 6 else 0) := fun h => ok_some (by rw [B_no h]; rfl)
 refine ok_loop (L := spec_SetupFault.l1 k) (I := fun d t => ∃ j : Nat, t = ((j : Int), R, W, P, U, C, ()) ∧ j + d = P.length ∧ (∀ i, i < j → PortOk (el P5 P i)) ∧ j ≤ 6) ?_ k P.length _ (by omega) ⟨0, rfl, by omega, fun i hi => absurd hi (by omega), by omega⟩
 rintro d m t ⟨j, rfl, hd, hq, hj6⟩ ih
 rw [spec_SetupFault.l1]
 refine ok_if (fun hc => ok_grd (by omega) (ok_grd hc ?_)) (fun hc => ?_)
 ·have c4 : w64 ((j : Int) + 1) = ((j + 1 : Nat) : Int) := w64_id (by omega) (by omega)
  rw [portOk_s, c4]
  simp only [Int.toNat_natCast]
  refine ok_let (ok_if (fun h => no (fun g => h (B_yes (g.1 j (by omega))))) (fun h => ok_if (fun h6 => no (fun g => by have := g.2; omega)) (fun h6 => ?_)))
  exact ih (d - 1) _ (by omega) ⟨j + 1, rfl, by omega, allS hq (B_iff.1 (Classical.not_not.1 h)), by omega⟩
 ·have hp : PortsOk P := ⟨fun i hi => hq i (by omega), by omega⟩
  rw [B_yes hp, if_neg (c := ¬ true = true) (fun h => h rfl), rulesOk_s h4 hk]
  clear ih hq hc hd
  refine ok_let (ok_if (fun h => ok_some (by rw [if_pos h])) (fun g4 => ?_))
  rw [if_neg g4]
  have no5 : ¬ CodesOk C (R.length : Int) → Ok (some (5 : Int)) (fun r => r = if ¬ B (CodesOk C (R.length : Int)) = true then 5 else if ¬ B (PartsOk (R, W, P, U, C)) = true then 6 else 0) := fun h => ok_some (by rw [B_no h]; rfl)
  refine ok_if (fun h => no5 (fun g => h g.2)) (fun g5 => ?_)
  refine ok_loop (L := spec_SetupFault.l2 k) (I := fun d t => ∃ j : Nat, t = ((j : Int), R, W, P, U, C, ()) ∧ j + d = C.length ∧ ∀ i, i < j → CodeRead (el .str C i)) ?_ k C.length _ (by omega) ⟨0, rfl, by omega, fun i hi => absurd hi (by omega)⟩
  rintro d m' t ⟨j, rfl, hd, hq⟩ ih
  rw [spec_SetupFault.l2]
  refine ok_if (fun hc => ok_grd (by omega) (ok_grd hc ?_)) (fun hc => ?_)
  ·have c4 : w64 ((j : Int) + 1) = ((j + 1 : Nat) : Int) := w64_id (by omega) (by omega)
   rw [read_s hk, c4]
   simp only [Int.toNat_natCast, Option.bind_some]
   by_cases h : CodeRead (el .str C j)
   ·have e : (readM (el .str C j)).2 = true := by
     unfold readM
     rw [B_yes h, if_pos rfl]
    rw [if_neg (fun g => g e)]
    exact ih (d - 1) _ (by omega) ⟨j + 1, rfl, by omega, allS hq h⟩
   ·have e : (readM (el .str C j)).2 = false := by
     unfold readM
     rw [B_no h]
     rfl
    rw [if_pos (by rw [e]; simp)]
    exact no5 (fun g => h (g.1 j (by omega)))
  ·have hcs : CodesOk C (R.length : Int) := ⟨fun i hi => hq i (by omega), Classical.not_not.1 g5⟩
   rw [B_yes hcs, if_neg (c := ¬ true = true) (fun h => h rfl), partsOk_s h2 h3 h4 hk]
   refine ok_let (ok_some ?_)
   by_cases hb : B (PartsOk (R, W, P, U, C)) = true
   ·rw [if_pos hb, if_neg (fun h => h hb)]
   ·rw [if_neg hb, if_pos hb]
end Go.Proofs.YtacpibmmodeacaaGreat.Pure
/- Machines: when they and code are right, places of cells, remainders, copies. No condition. -/
namespace Go.Proofs.YtacpibmmodeacaaGreat.Pure
open Go Go.Proofs.YtacpibmmodeacaaGreatA Go.Proofs.YtacpibmmodeacaaGreatU Go.Proofs.YtacpibmmodeacaaGreat.QA
set_option linter.unusedVariables false
abbrev I1 : Ty := .int .i64
abbrev C2 : Ty := .pair (.int .i64) (.int .i64)
def Word (z : Int) : Prop := 0 ≤ z ∧ z ≤ 65535
def WordsOk (S : List Int) : Prop := ∀ i, i < S.length → Word (el I1 S i)
def CpuOk (c : Int × List Int) : Prop := (0 ≤ c.1 ∧ c.1 ≤ 60) ∧ c.2.length ≤ 8 ∧ WordsOk c.2
def InsOk (x : Int × Int) : Prop := (0 ≤ x.1 ∧ x.1 ≤ 255) ∧ (0 ≤ x.2 ∧ x.2 ≤ 255)
def CodeOk (L : List (Int × Int)) : Prop := (∀ i, i < L.length → InsOk (el C2 L i)) ∧ L.length ≤ 60
theorem all_next {p : Nat → Prop} {j : Nat} (h : ∀ i, i < j → p i) (hj : p j) : ∀ i, i < j + 1 → p i := fun i hi => by
 rcases Nat.lt_or_ge i j with h' | h'
 ·exact h i h'
 ·obtain rfl : i = j := by omega
  exact hj
theorem mod_s {k : Nat} (z : Int) : spec_l04Mod.f k z = some (z % 65536) := by
 unfold spec_l04Mod.f
 by_cases h : 0 ≤ z
 ·rw [Int.tmod_eq_emod_of_nonneg h, if_neg (by omega)]
 ·have e : Int.tmod z 65536 = if z % 65536 = 0 then 0 else z % 65536 - 65536 := by
   rw [Int.tmod_eq_emod]
   split <;> split <;> omega
  rw [e]
  by_cases h2 : z % 65536 = 0
  ·rw [if_pos h2, if_neg (by omega), h2]
  ·rw [if_neg h2, if_pos (by omega), w64_id (by omega) (by omega)]
   congr 1
   omega
theorem mod_i {k : Nat} (z : Int) : impl_modulo.f k z 65536 = some (z % 65536) := by
 unfold impl_modulo.f
 rw [if_pos (by omega), if_pos (by omega)]
 have h1 : -65536 < Int.tmod z 65536 ∧ Int.tmod z 65536 < 65536 := by
  rw [Int.tmod_eq_emod]
  split <;> omega
 rw [w64_id (by omega) (by omega), Int.tmod_eq_emod_of_nonneg (by omega)]
 congr 1
 rw [Int.tmod_eq_emod]
 split <;> omega
theorem ints_i {k : Nat} {xs : List Int} (h : xs.length ≤ 1048576) : impl_copyInts.f k xs = some xs := by
 unfold impl_copyInts.f
 simp only [Option.bind_some, List.length_nil, List.nil_append]
 rw [if_pos (by omega)]
theorem arena_i {k : Nat} {xs : List Int} (h : xs.length ≤ 1048576) : impl_copyArena.f k xs = some xs := by
 unfold impl_copyArena.f
 rw [ints_i h]
 rfl
theorem cpu_i {k : Nat} {c : Int × List Int} (h : c.2.length ≤ 1048576) : impl_copyCpu.f k c = some c := by
 unfold impl_copyCpu.f
 rw [ints_i h]
 rfl
theorem arena_s {k : Nat} {xs : List Int} (h : xs.length ≤ 1048576) : spec_l04Copy.f k xs = some xs := by
 unfold spec_l04Copy.f
 simp only [Option.bind_some, List.length_nil, List.nil_append]
 rw [if_pos (by omega)]
theorem cpu_s {k : Nat} {c : Int × List Int} (h : c.2.length ≤ 1048576) : spec_l06Copy.f k c = some c := by
 unfold spec_l06Copy.f
 simp only [Option.bind_some, List.length_nil, List.nil_append]
 rw [if_pos (by omega)]
theorem words_i {k : Nat} {S : List Int} (hl : S.length ≤ 1048576) (hk : 1048576 < k) : impl_wordsOk.f k S = some (B (WordsOk S)) := by
 refine ok_eq ?_
 unfold impl_wordsOk.f
 refine ok_loop (L := impl_wordsOk.l1 k) (I := fun d s => ∃ j : Nat, s = ((S.length : Int), (j : Int), S, ()) ∧ j + d = S.length ∧ ∀ i, i < j → Word (el I1 S i)) ?_ k S.length _ (by omega) ⟨0, rfl, by omega, fun i hi => absurd hi (by omega)⟩
 rintro d n s ⟨j, rfl, hd, hq⟩ ih
 rw [impl_wordsOk.l1]
 have hw : ∀ x, impl_isWord.f k x = some (decide (0 ≤ x ∧ x ≤ 65535)) := fun x => by
  unfold impl_isWord.f
  rw [in_i]
  rfl
 have h4 : w64 ((j : Int) + 1) = ((j + 1 : Nat) : Int) := by
  rcases Nat.lt_or_ge j S.length with h | h
  ·exact w64_id (by omega) (by omega)
  ·exact w64_id (by omega) (by omega)
 refine ok_if (fun hc => ?_) (fun hc => ok_some (B_yes fun i hi => hq i (by omega)).symm)
 rw [if_pos (by omega), if_pos hc, hw, h4]
 simp only [Int.toNat_natCast, Option.bind_some, decide_eq_true_eq]
 refine ok_if (fun h => ok_some (B_no fun hr => h (hr j (by omega))).symm) (fun h => ?_)
 exact ih (d - 1) _ (by omega) ⟨j + 1, rfl, by omega, all_next hq (Classical.not_not.1 h)⟩
theorem cpuOk_i {k : Nat} {c : Int × List Int} (hk : 1048576 < k) : impl_CpuOk.f k c = some (B (CpuOk c)) := by
 refine ok_eq ?_
 unfold impl_CpuOk.f
 rw [in_i]
 refine ok_let (ok_if (fun h1 => ?_) (fun h1 => ok_some (B_no fun h => h1 (decide_eq_true h.1)).symm))
 refine ok_if (fun h2 => ?_) (fun h2 => ok_some (B_no fun h => h2 (by have := h.2.1; omega)).symm)
 rw [words_i (by omega) hk]
 refine ok_let (ok_some (B_of ?_))
 exact B_iff.trans ⟨fun h => ⟨of_decide_eq_true h1, by omega, h⟩, fun h => h.2.2⟩
theorem cpuOk_s {k : Nat} {c : Int × List Int} (hl : c.2.length ≤ 1048576) (hk : 1048576 < k) : spec_CpuOk.f k c = some (B (CpuOk c)) := by
 obtain ⟨pc, S⟩ := c
 simp only at hl
 refine ok_eq ?_
 unfold spec_CpuOk.f
 refine ok_loop (L := spec_CpuOk.l1 k) (I := fun d s => ∃ j : Nat, s = ((j : Int), pc, S, ()) ∧ j + d = S.length ∧ ∀ i, i < j → Word (el I1 S i)) ?_ k S.length _ (by omega) ⟨0, rfl, by omega, fun i hi => absurd hi (by omega)⟩
 rintro d n s ⟨j, rfl, hd, hq⟩ ih
 rw [spec_CpuOk.l1]
 have h4 : w64 ((j : Int) + 1) = ((j + 1 : Nat) : Int) := w64_id (by omega) (by omega)
 refine ok_if (fun hc => ?_) (fun hc => ?_)
 ·rw [if_pos (by omega), if_pos hc, in_s, h4]
  simp only [Int.toNat_natCast, Option.bind_some, decide_eq_true_eq]
  refine ok_if (fun h => ok_some (B_no fun hr => h (hr.2.2 j (by dsimp only; omega))).symm) (fun h => ?_)
  exact ih (d - 1) _ (by omega) ⟨j + 1, rfl, by omega, all_next hq (Classical.not_not.1 h)⟩
 ·rw [in_s]
  simp only [Option.bind_some, decide_eq_true_eq]
  refine ok_if (fun h1 => ok_some (B_of (decide_eq_true_iff.trans ⟨fun h => ⟨h1, by dsimp only; omega, fun i hi => hq i (by dsimp only at hi; omega)⟩, fun h => ?_⟩))) (fun h1 => ok_some (B_no fun h => h1 h.1).symm)
  have := h.2.1
  dsimp only at this
  omega
theorem codeOk_i {k : Nat} {L : List (Int × Int)} (hl : L.length ≤ 1048576) (hk : 1048576 < k) : impl_CodeOk.f k L = some (B (CodeOk L)) := by
 refine ok_eq ?_
 unfold impl_CodeOk.f
 refine ok_loop (L := impl_CodeOk.l1 k) (I := fun d s => ∃ j : Nat, s = ((L.length : Int), (j : Int), L, ()) ∧ j + d = L.length ∧ ∀ i, i < j → InsOk (el C2 L i)) ?_ k L.length _ (by omega) ⟨0, rfl, by omega, fun i hi => absurd hi (by omega)⟩
 rintro d n s ⟨j, rfl, hd, hq⟩ ih
 rw [impl_CodeOk.l1]
 have h4 : w64 ((j : Int) + 1) = ((j + 1 : Nat) : Int) := w64_id (by omega) (by omega)
 refine ok_if (fun hc => ?_) (fun hc => ok_some (B_of (decide_eq_true_iff.trans ⟨fun h => ⟨fun i hi => hq i (by omega), by omega⟩, fun h => by have := h.2; omega⟩)))
 rw [if_pos (by omega), if_pos hc]
 simp only [in_i, h4, Int.toNat_natCast, Option.bind_some, decide_eq_true_eq]
 have bad : ¬ InsOk (el C2 L j) → Ok (some false) (fun r => r = B (CodeOk L)) := fun h => ok_some (B_no (fun hr => h (hr.1 j (by omega)))).symm
 refine ok_if (fun h => bad (fun g => h g.1)) (fun h1 => ok_if (fun h => bad (fun g => h g.2)) (fun h2 => ?_))
 exact ih (d - 1) _ (by omega) ⟨j + 1, rfl, by omega, all_next hq ⟨Classical.not_not.1 h1, Classical.not_not.1 h2⟩⟩
theorem codeOk_s {k : Nat} {L : List (Int × Int)} (hl : L.length ≤ 1048576) (hk : 1048576 < k) : spec_CodeOk.f k L = some (B (CodeOk L)) := by
 refine ok_eq ?_
 unfold spec_CodeOk.f
 refine ok_loop (L := spec_CodeOk.l1 k) (I := fun d s => ∃ j : Nat, s = ((j : Int), L, ()) ∧ j + d = L.length ∧ ∀ i, i < j → InsOk (el C2 L i)) ?_ k L.length _ (by omega) ⟨0, rfl, by omega, fun i hi => absurd hi (by omega)⟩
 rintro d n s ⟨j, rfl, hd, hq⟩ ih
 rw [spec_CodeOk.l1]
 have h4 : w64 ((j : Int) + 1) = ((j + 1 : Nat) : Int) := w64_id (by omega) (by omega)
 refine ok_if (fun hc => ?_) (fun hc => ok_some (B_of (decide_eq_true_iff.trans ⟨fun h => ⟨fun i hi => hq i (by omega), by omega⟩, fun h => by have := h.2; omega⟩)))
 have c0 : (0 : Int) ≤ (j : Int) := by omega
 simp only [c0, hc, ↓reduceIte, in_s, h4, Int.toNat_natCast, Option.bind_some, decide_eq_true_eq]
 have bad : ¬ InsOk (el C2 L j) → Ok (some false) (fun r => r = B (CodeOk L)) := fun h => ok_some (B_no (fun hr => h (hr.1 j (by omega)))).symm
 refine ok_if (fun h => bad (fun g => h g.1)) (fun h1 => ok_if (fun h => bad (fun g => h g.2)) (fun h2 => ?_))
 exact ih (d - 1) _ (by omega) ⟨j + 1, rfl, by omega, all_next hq ⟨Classical.not_not.1 h1, Classical.not_not.1 h2⟩⟩
/-- The place of a cell; -1 where there is none. -/
def cellAt (a : List Int) (r : Int × Int) (p : Int) : Int := if 0 ≤ r.1 ∧ 0 ≤ p ∧ p < r.2 ∧ p < (a.length : Int) - r.1 then r.1 + p else -1
theorem cellAt_lt {a : List Int} {r : Int × Int} {p : Int} (h : ¬ cellAt a r p < 0) : 0 ≤ cellAt a r p ∧ cellAt a r p < (a.length : Int) := by
 unfold cellAt at h ⊢
 split at h
 ·rename_i hc
  rw [if_pos hc]
  omega
 ·omega
theorem cellAt_i {k : Nat} {a : List Int} {r : Int × Int} {p : Int} (ha : a.length ≤ 1048576) (hr : r.1 < 9223372036854775808) : impl_cellAt.f k a r p = some (cellAt a r p) := by
 unfold impl_cellAt.f cellAt
 by_cases h1 : r.1 < 0
 ·rw [if_pos h1, if_neg (by omega)]
 ·rw [if_neg h1]
  by_cases h2 : p < 0
  ·rw [if_pos h2, if_neg (by omega)]
  ·rw [if_neg h2]
   by_cases h3 : r.2 ≤ p
   ·rw [if_pos h3, if_neg (by omega)]
   ·rw [if_neg h3]
    rw [w64_id (z := (a.length : Int) - r.1) (by omega) (by omega)]
    by_cases h4 : (a.length : Int) - r.1 ≤ p
    ·rw [if_pos h4, if_neg (by omega)]
    ·rw [if_neg h4, if_pos (by omega), w64_id (by omega) (by omega)]
theorem cellAt_s {k : Nat} {a : List Int} {r : Int × Int} {p : Int} (ha : a.length ≤ 1048576) : spec_l04At.f k a r p = some (cellAt a r p) := by
 unfold spec_l04At.f cellAt
 by_cases h2 : p < 0
 ·rw [if_pos h2, if_neg (by omega)]
 ·rw [if_neg h2]
  by_cases h3 : r.2 ≤ p
  ·rw [if_pos h3, if_neg (by omega)]
  ·rw [if_neg h3, w64_id (z := (a.length : Int) - 1) (by omega) (by omega), in_s]
   simp only [Option.bind_some, decide_eq_true_eq]
   by_cases h1 : 0 ≤ r.1 ∧ r.1 ≤ (a.length : Int) - 1
   ·rw [if_neg (fun h => h h1), w64_id (z := (a.length : Int) - r.1) (by omega) (by omega)]
    by_cases h4 : (a.length : Int) - r.1 ≤ p
    ·rw [if_pos h4, if_neg (by omega)]
    ·rw [if_neg h4, if_pos (by omega), w64_id (by omega) (by omega)]
   ·rw [if_pos h1, if_neg (by omega)]
end Go.Proofs.YtacpibmmodeacaaGreat.Pure
/- Kernels: when they are right. No condition. -/
namespace Go.Proofs.YtacpibmmodeacaaGreat.Pure
open Go Go.Proofs.YtacpibmmodeacaaGreatA Go.Proofs.YtacpibmmodeacaaGreatU Go.Proofs.YtacpibmmodeacaaGreat.QA
set_option linter.unusedVariables false
set_option linter.unusedSimpArgs false
abbrev PT : Ty := .pair (.int .i64) (.pair (.pair (.int .i64) (.sl 3 (.int .i64))) (.pair (.int .i64) (.pair (.int .i64) (.int .i64))))
abbrev LT : Ty := .sl 89 (.pair (.int .i64) (.int .i64))
abbrev PartT := Int × (Int × List Int) × Int × Int × Int
abbrev LineT := List (Int × Int)
abbrev Kernel := Setup × List Int × List PartT × List LineT × List Int × Int × Bool × List Port5
def Number (z : Int) : Prop := 0 ≤ z ∧ z ≤ 1000000000
structure PartOk (p : PartT) : Prop where
 st : 0 ≤ p.1 ∧ p.1 ≤ 1
 cpu : CpuOk p.2.1
 starts : Number p.2.2.1
 ends : Number p.2.2.2.1
 late : Number p.2.2.2.2
structure KernelOk (k : Kernel) : Prop where
 fault : faultM k.1 = 0
 cells : k.2.1.length = 64
 words : WordsOk k.2.1
 parts : k.2.2.1.length = k.1.1.length
 lines : k.2.2.2.1.length = k.1.2.2.1.length
 part : ∀ i, i < k.2.2.1.length → PartOk (el PT k.2.2.1 i)
 line : ∀ i, i < k.2.2.2.1.length → ((el LT k.2.2.2.1 i).length : Int) ≤ (el P5 k.1.2.2.1 i).2.2.2.1
 outs : k.2.2.2.2.1.length = 8
 outw : WordsOk k.2.2.2.2.1
 turn : Number k.2.2.2.2.2.1
/-- A kernel of which nothing is too long. -/
structure SmallK (k : Kernel) : Prop where
 st : Small k.1
 cells : k.2.1.length ≤ 1048576
 parts : k.2.2.1.length ≤ 1048576
 stacks : ∀ p, p ∈ k.2.2.1 → p.2.1.2.length ≤ 1048576
 lines : k.2.2.2.1.length ≤ 1048576
 msgs : ∀ l, l ∈ k.2.2.2.1 → l.length ≤ 1048576
 outs : k.2.2.2.2.1.length ≤ 1048576
 log : k.2.2.2.2.2.2.2.length ≤ 1048576
theorem words_s {k : Nat} {S : List Int} (hl : S.length ≤ 1048576) (hk : 1048576 < k) : spec_l12Words.f k S = some (B (WordsOk S)) := by
 refine ok_eq ?_
 unfold spec_l12Words.f
 refine ok_loop (L := spec_l12Words.l1 k) (I := fun d s => ∃ j : Nat, s = ((j : Int), S, ()) ∧ j + d = S.length ∧ ∀ i, i < j → Word (el I1 S i)) ?_ k S.length _ (by omega) ⟨0, rfl, by omega, fun i hi => absurd hi (by omega)⟩
 rintro d n s ⟨j, rfl, hd, hq⟩ ih
 rw [spec_l12Words.l1]
 have h4 : w64 ((j : Int) + 1) = ((j + 1 : Nat) : Int) := w64_id (by omega) (by omega)
 refine ok_if (fun hc => ?_) (fun hc => ok_some (B_yes fun i hi => hq i (by omega)).symm)
 rw [if_pos (by omega), if_pos hc, in_s, h4]
 simp only [Int.toNat_natCast, Option.bind_some, decide_eq_true_eq]
 refine ok_if (fun h => ok_some (B_no fun hr => h (hr j (by omega))).symm) (fun h => ?_)
 exact ih (d - 1) _ (by omega) ⟨j + 1, rfl, by omega, allS hq (Classical.not_not.1 h)⟩
theorem isNumber_i {k : Nat} {z : Int} : impl_isNumber.f k z = some (decide (0 ≤ z ∧ z ≤ 1000000000)) := by
 unfold impl_isNumber.f
 rw [in_i]
 rfl
theorem kernelOk_i {k : Nat} {K : Kernel} (hs : SmallK K) (hk : 1048576 < k) : impl_KernelOk.f k K = some (B (KernelOk K)) := by
 obtain ⟨⟨R, W, P, U, C⟩, A, Ps, Ls, O, T, D, G⟩ := K
 obtain ⟨s1, s2, s3, s4, s5, s6, s7, s8⟩ := hs
 simp only at s2 s3 s4 s5 s6 s7 s8
 refine ok_eq ?_
 have no : ∀ {q : Prop}, (KernelOk ((R, W, P, U, C), A, Ps, Ls, O, T, D, G) → q) → ¬ q → Ok (some false) (fun r => r = B (KernelOk ((R, W, P, U, C), A, Ps, Ls, O, T, D, G))) := fun h hq => ok_some (B_no fun g => hq (h g)).symm
 unfold impl_KernelOk.f
 rw [fault_i s1 hk, words_i s2 hk]
 refine ok_let (ok_if (fun h => no (fun g => g.fault) h) (fun h1 => ?_))
 refine ok_if (fun h => no (fun g => g.cells) (fun e => h (by dsimp only at e ⊢; omega))) (fun h2 => ?_)
 refine ok_let (ok_if (fun h => no (fun g => g.words) (fun e => h (B_yes e))) (fun h3 => ?_))
 refine ok_if (fun h => no (fun g => g.parts) (fun e => h (by dsimp only at e ⊢; omega))) (fun h4 => ?_)
 refine ok_if (fun h => no (fun g => g.lines) (fun e => h (by dsimp only at e ⊢; omega))) (fun h5 => ?_)
 simp only at h1 h2 h3 h4 h5 ⊢
 refine ok_loop (L := impl_KernelOk.l1 k) (I := fun d t => ∃ j : Nat, t = ((Ps.length : Int), (j : Int), T, D, R, W, P, U, C, A, Ps, Ls, O, G, ()) ∧ j + d = Ps.length ∧ ∀ i, i < j → PartOk (el PT Ps i)) ?_ k Ps.length _ (by omega) ⟨0, rfl, by omega, fun i hi => absurd hi (by omega)⟩
 rintro d n t ⟨j, rfl, hd, hq⟩ ih
 rw [impl_KernelOk.l1]
 refine ok_if (fun hc => ok_grd (by omega) (ok_grd hc ?_)) (fun hc => ?_)
 ·have hj : j < Ps.length := by omega
  have c4 : w64 ((j : Int) + 1) = ((j + 1 : Nat) : Int) := w64_id (by omega) (by omega)
  obtain ⟨a, c, b, e, f, hxe⟩ : ∃ (a : Int) (c : Int × List Int) (b e f : Int), el PT Ps j = (a, c, b, e, f) := ⟨_, _, _, _, _, rfl⟩
  have bad : ∀ {q : Prop}, (PartOk (a, c, b, e, f) → q) → ¬ q → Ok (some false) (fun r => r = B (KernelOk ((R, W, P, U, C), A, Ps, Ls, O, T, D, G))) := fun h hq => no (fun g => h (by have := g.part j hj; dsimp only at this; rw [hxe] at this; exact this)) hq
  simp only [Int.toNat_natCast, c4, show el (.pair (.int .i64) (.pair (.pair (.int .i64) (.sl 3 (.int .i64))) (.pair (.int .i64) (.pair (.int .i64) (.int .i64))))) Ps j = (a, c, b, e, f) from hxe, in_i, isNumber_i, cpuOk_i hk, Option.bind_some, decide_eq_true_eq]
  refine ok_if (fun h => bad (fun g => g.st) h) (fun q1 => ok_if (fun h => bad (fun g => g.cpu) (fun e => h (B_yes e))) (fun q2 => ok_if (fun h => bad (fun g => g.starts) h) (fun q3 => ok_if (fun h => bad (fun g => g.ends) h) (fun q4 => ok_if (fun h => bad (fun g => g.late) h) (fun q5 => ?_)))))
  exact ih (d - 1) _ (by omega) ⟨j + 1, rfl, by omega, allS hq (by rw [hxe]; exact ⟨Classical.not_not.1 q1, B_iff.1 (Classical.not_not.1 q2), Classical.not_not.1 q3, Classical.not_not.1 q4, Classical.not_not.1 q5⟩)⟩
 ·have hp : ∀ i, i < Ps.length → PartOk (el PT Ps i) := fun i hi => hq i (by omega)
  clear ih hq hc hd
  refine ok_loop (L := impl_KernelOk.l2 k) (I := fun d t => ∃ j : Nat, t = ((Ls.length : Int), (j : Int), T, D, R, W, P, U, C, A, Ps, Ls, O, G, ()) ∧ j + d = Ls.length ∧ ∀ i, i < j → ((el LT Ls i).length : Int) ≤ (el P5 P i).2.2.2.1) ?_ k Ls.length _ (by omega) ⟨0, rfl, by omega, fun i hi => absurd hi (by omega)⟩
  rintro d n t ⟨j, rfl, hd, hq⟩ ih
  rw [impl_KernelOk.l2]
  refine ok_if (fun hc => ok_grd (by omega) (ok_grd hc (ok_grd (by omega) (ok_grd (by omega) ?_)))) (fun hc => ?_)
  ·have c4 : w64 ((j : Int) + 1) = ((j + 1 : Nat) : Int) := w64_id (by omega) (by omega)
   simp only [Int.toNat_natCast, c4]
   exact ok_if (fun h => no (fun g => g.line j (by dsimp only; omega)) (Int.not_le.2 h)) (fun h => ih (d - 1) _ (by omega) ⟨j + 1, rfl, by omega, allS hq (Int.not_lt.1 h)⟩)
  ·have hln : ∀ i, i < Ls.length → ((el LT Ls i).length : Int) ≤ (el P5 P i).2.2.2.1 := fun i hi => hq i (by omega)
   refine ok_if (fun h8 => ?_) (fun h => no (fun g => g.outs) (fun e => h (by dsimp only at e; omega)))
   rw [words_i s7 hk, isNumber_i]
   refine ok_let (ok_if (fun hw => ok_let (ok_some (B_of (decide_eq_true_iff.trans ⟨fun ht => ?_, fun g => g.turn⟩)))) (fun h => no (fun g => g.outw) (fun e => h (B_yes e))))
   exact ⟨Classical.not_not.1 h1, by dsimp only; omega, B_iff.1 (Classical.not_not.1 h3), by dsimp only; omega, by dsimp only; omega, hp, hln, by dsimp only; omega, B_iff.1 hw, ht⟩
theorem kernelOk_s {k : Nat} {K : Kernel} (hs : SmallK K) (hk : 1048576 < k) : spec_KernelOk.f k K = some (B (KernelOk K)) := by
 obtain ⟨⟨R, W, P, U, C⟩, A, Ps, Ls, O, T, D, G⟩ := K
 obtain ⟨s1, s2, s3, s4, s5, s6, s7, s8⟩ := hs
 simp only at s2 s3 s4 s5 s6 s7 s8
 refine ok_eq ?_
 have no : ∀ {q : Prop}, (KernelOk ((R, W, P, U, C), A, Ps, Ls, O, T, D, G) → q) → ¬ q → Ok (some false) (fun r => r = B (KernelOk ((R, W, P, U, C), A, Ps, Ls, O, T, D, G))) := fun h hq => ok_some (B_no fun g => hq (h g)).symm
 unfold spec_KernelOk.f
 rw [fault_s s1 hk, words_s s2 hk, words_s s7 hk, in_s]
 refine ok_let (ok_if (fun h => no (fun g => g.fault) h) (fun h1 => ?_))
 refine ok_if (fun h => no (fun g => g.cells) (fun e => h (by dsimp only at e ⊢; omega))) (fun h2 => ?_)
 refine ok_let (ok_if (fun h => no (fun g => g.words) (fun e => h (B_yes e))) (fun h3 => ?_))
 refine ok_if (fun h => no (fun g => g.parts) (fun e => h (by dsimp only at e ⊢; omega))) (fun h4 => ?_)
 refine ok_if (fun h => no (fun g => g.lines) (fun e => h (by dsimp only at e ⊢; omega))) (fun h5 => ?_)
 refine ok_if (fun h => no (fun g => g.outs) (fun e => h (by dsimp only at e ⊢; omega))) (fun h6 => ?_)
 refine ok_let (ok_if (fun h => no (fun g => g.outw) (fun e => h (B_yes e))) (fun h7 => ?_))
 refine ok_let (ok_if (fun h => no (fun g => g.turn) (fun e => h (decide_eq_true e))) (fun h8 => ?_))
 have h8' := of_decide_eq_true (Classical.not_not.1 h8)
 simp only at h1 h2 h3 h4 h5 h6 h7 h8' ⊢
 refine ok_loop (L := spec_KernelOk.l1 k) (I := fun d t => ∃ j : Nat, t = ((j : Int), T, D, R, W, P, U, C, A, Ps, Ls, O, G, ()) ∧ j + d = Ps.length ∧ ∀ i, i < j → PartOk (el PT Ps i)) ?_ k Ps.length _ (by omega) ⟨0, rfl, by omega, fun i hi => absurd hi (by omega)⟩
 rintro d n t ⟨j, rfl, hd, hq⟩ ih
 rw [spec_KernelOk.l1]
 refine ok_if (fun hc => ok_grd (by omega) (ok_grd hc ?_)) (fun hc => ?_)
 ·have hj : j < Ps.length := by omega
  have c4 : w64 ((j : Int) + 1) = ((j + 1 : Nat) : Int) := w64_id (by omega) (by omega)
  have hst := s4 _ (el_mem (t := PT) hj)
  obtain ⟨a, c, b, e, f, hxe⟩ : ∃ (a : Int) (c : Int × List Int) (b e f : Int), el PT Ps j = (a, c, b, e, f) := ⟨_, _, _, _, _, rfl⟩
  rw [hxe] at hst
  simp only at hst
  have bad : ∀ {q : Prop}, (PartOk (a, c, b, e, f) → q) → ¬ q → Ok (some false) (fun r => r = B (KernelOk ((R, W, P, U, C), A, Ps, Ls, O, T, D, G))) := fun h hq => no (fun g => h (by have := g.part j hj; dsimp only at this; rw [hxe] at this; exact this)) hq
  simp only [Int.toNat_natCast, c4, show el (.pair (.int .i64) (.pair (.pair (.int .i64) (.sl 3 (.int .i64))) (.pair (.int .i64) (.pair (.int .i64) (.int .i64))))) Ps j = (a, c, b, e, f) from hxe, in_s, cpuOk_s hst hk, Option.bind_some, decide_eq_true_eq]
  refine ok_if (fun h => bad (fun g => g.st) h) (fun q1 => ok_if (fun h => bad (fun g => g.cpu) (fun e => h (B_yes e))) (fun q2 => ok_if (fun h => bad (fun g => g.starts) h) (fun q3 => ok_if (fun h => bad (fun g => g.ends) h) (fun q4 => ok_if (fun h => bad (fun g => g.late) h) (fun q5 => ?_)))))
  exact ih (d - 1) _ (by omega) ⟨j + 1, rfl, by omega, allS hq (by rw [hxe]; exact ⟨Classical.not_not.1 q1, B_iff.1 (Classical.not_not.1 q2), Classical.not_not.1 q3, Classical.not_not.1 q4, Classical.not_not.1 q5⟩)⟩
 ·have hp : ∀ i, i < Ps.length → PartOk (el PT Ps i) := fun i hi => hq i (by omega)
  clear ih hq hc hd
  refine ok_loop (L := spec_KernelOk.l2 k) (I := fun d t => ∃ j : Nat, t = ((j : Int), T, D, R, W, P, U, C, A, Ps, Ls, O, G, ()) ∧ j + d = Ls.length ∧ ∀ i, i < j → ((el LT Ls i).length : Int) ≤ (el P5 P i).2.2.2.1) ?_ k Ls.length _ (by omega) ⟨0, rfl, by omega, fun i hi => absurd hi (by omega)⟩
  rintro d n t ⟨j, rfl, hd, hq⟩ ih
  rw [spec_KernelOk.l2]
  refine ok_if (fun hc => ok_grd (by omega) (ok_grd hc (ok_grd (by omega) (ok_grd (by omega) ?_)))) (fun hc => ok_some (B_yes ?_).symm)
  ·have c4 : w64 ((j : Int) + 1) = ((j + 1 : Nat) : Int) := w64_id (by omega) (by omega)
   simp only [Int.toNat_natCast, c4]
   exact ok_if (fun h => no (fun g => g.line j (by dsimp only; omega)) (Int.not_le.2 h)) (fun h => ih (d - 1) _ (by omega) ⟨j + 1, rfl, by omega, allS hq (Int.not_lt.1 h)⟩)
  ·exact ⟨Classical.not_not.1 h1, by dsimp only; omega, B_iff.1 (Classical.not_not.1 h3), by dsimp only; omega, by dsimp only; omega, hp, fun i hi => hq i (by dsimp only at hi; omega), by dsimp only; omega, B_iff.1 (Classical.not_not.1 h7), h8'⟩
end Go.Proofs.YtacpibmmodeacaaGreat.Pure
/- One step of a machine. No condition. -/
namespace Go.Proofs.YtacpibmmodeacaaGreat.Pure
open Go Go.Proofs.YtacpibmmodeacaaGreatA Go.Proofs.YtacpibmmodeacaaGreatU Go.Proofs.YtacpibmmodeacaaGreat.QA
set_option linter.unusedVariables false
set_option linter.unusedSimpArgs false
abbrev Step := (Int × List Int) × List Int × Int × Int × Int × Int
def takesM (op : Int) : Int := if op = 2 ∨ op = 10 ∨ op = 11 ∨ op = 12 ∨ op = 13 ∨ op = 16 then 1 else if 3 ≤ op ∧ op ≤ 8 then 2 else 0
def putsM (op : Int) : Int := if op = 11 then 2 else if op = 1 ∨ op = 2 ∨ (4 ≤ op ∧ op ≤ 8) ∨ op = 17 then 1 else 0
def top (S : List Int) : Int := el I1 S (S.length - 1)
def sec (S : List Int) : Int := el I1 S (S.length - 2)
def low (S : List Int) (t : Nat) : List Int := S.take (S.length - t)
def trapX (x : Int × Int) (S a : List Int) (r : Int × Int) : Int :=
 if 17 < x.1 then 1 else
 if (S.length : Int) < takesM x.1 then 5 else
 if x.1 = 2 ∧ cellAt a r (top S + x.2) < 0 then 2 else
 if x.1 = 3 ∧ cellAt a r (sec S + x.2) < 0 then 2 else
 if x.1 = 7 ∧ top S = 0 then 3 else
 if 8 < (S.length : Int) - takesM x.1 + putsM x.1 then 4 else 0
noncomputable def trapM (c : Int × List Int) (code : List (Int × Int)) (a : List Int) (r : Int × Int) : Int :=
 if B (CpuOk c ∧ CodeOk code ∧ c.1 < (code.length : Int)) = true then trapX (el C2 code c.1.toNat) c.2 a r else 6
def reckon (op a b : Int) : Int := if op = 4 then (a + b) % 65536 else if op = 5 then (a - b) % 65536 else if op = 6 then (a * b) % 65536 else if op = 7 then a / b else if a < b then 1 else 0
def doX (pc : Int) (x : Int × Int) (S a : List Int) (r : Int × Int) (time : Int) : Step :=
 if x.1 = 1 then ((pc + 1, S ++ [x.2]), a, 0, 0, 0, 0) else
 if x.1 = 2 then ((pc + 1, low S 1 ++ [el I1 a (cellAt a r (top S + x.2)).toNat % 65536]), a, 0, 0, 0, 0) else
 if x.1 = 3 then ((pc + 1, low S 2), a.set (cellAt a r (sec S + x.2)).toNat (top S), 0, 0, 0, 0) else
 if 4 ≤ x.1 ∧ x.1 ≤ 8 then ((pc + 1, low S 2 ++ [reckon x.1 (sec S) (top S)]), a, 0, 0, 0, 0) else
 if x.1 = 9 then ((min x.2 60, S), a, 0, 0, 0, 0) else
 if x.1 = 10 then ((if top S = 0 then min x.2 60 else pc + 1, low S 1), a, 0, 0, 0, 0) else
 if x.1 = 11 then ((pc + 1, low S 1 ++ [top S, top S]), a, 0, 0, 0, 0) else
 if x.1 = 12 then ((pc + 1, low S 1), a, 0, 0, 0, 0) else
 if x.1 = 13 ∨ x.1 = 16 then ((pc + 1, low S 1), a, x.1, x.2, top S, 0) else
 if x.1 = 14 ∨ x.1 = 15 then ((pc + 1, S), a, x.1, x.2, 0, 0) else
 if x.1 = 17 then ((pc + 1, S ++ [time % 65536]), a, 0, 0, 0, 0) else
 ((pc + 1, S), a, 0, 0, 0, 0)
noncomputable def stepM (c : Int × List Int) (code : List (Int × Int)) (a : List Int) (r : Int × Int) (time : Int) : Step :=
 if trapM c code a r = 0 then doX c.1 (el C2 code c.1.toNat) c.2 a r time else (c, a, 0, 0, 0, trapM c code a r)
/-! ### the last ones of a stack -/
theorem snoc1 {S : List Int} (h : 1 ≤ S.length) : ∃ T u, S = T ++ [u] := ⟨S.dropLast, S.getLast (by intro e; rw [e] at h; simp at h), (List.dropLast_concat_getLast _).symm⟩
theorem snoc2 {S : List Int} (h : 2 ≤ S.length) : ∃ T u v, S = T ++ [u, v] := by
 obtain ⟨T, v, rfl⟩ := snoc1 (S := S) (by omega)
 obtain ⟨T, u, rfl⟩ := snoc1 (S := T) (by simp at h; omega)
 exact ⟨T, u, v, by simp⟩
theorem op_cases {op : Int} (h0 : 0 ≤ op) (h1 : ¬ 17 < op) : op = 0 ∨ op = 1 ∨ op = 2 ∨ op = 3 ∨ op = 4 ∨ op = 5 ∨ op = 6 ∨ op = 7 ∨ op = 8 ∨ op = 9 ∨ op = 10 ∨ op = 11 ∨ op = 12 ∨ op = 13 ∨ op = 14 ∨ op = 15 ∨ op = 16 ∨ op = 17 := by omega
theorem takes_in (op : Int) : 0 ≤ takesM op ∧ takesM op ≤ 2 := by
 unfold takesM
 repeat' split
 all_goals omega
theorem puts_in (op : Int) : 0 ≤ putsM op ∧ putsM op ≤ 2 := by
 unfold putsM
 repeat' split
 all_goals omega
theorem takes_i {k : Nat} {op : Int} : impl_takes.f k op = some (takesM op) := by
 have hj : ∀ b, impl_takes.j1 k (op, b, ()) = some (if b = true then 1 else if 3 ≤ op ∧ op ≤ 8 then 2 else 0) := fun b => by
  unfold impl_takes.j1
  cases b with
  | true => simp
  | false =>
   simp only [Bool.false_eq_true, ↓reduceIte]
   repeat' split
   all_goals first | rfl | (exfalso; omega)
 unfold impl_takes.f takesM
 simp only [hj, decide_eq_true_eq, ↓reduceIte]
 repeat' split
 all_goals first | rfl | (exfalso; omega)
theorem puts_i {k : Nat} {op : Int} : impl_puts.f k op = some (putsM op) := by
 unfold impl_puts.f putsM
 repeat' split
 all_goals first | rfl | (exfalso; omega)
theorem hasOp_i {k : Nat} {op : Int} : impl_hasOp.f k op = some (decide (0 ≤ op ∧ op ≤ 17)) := by
 unfold impl_hasOp.f
 rw [in_i]
 rfl
theorem trap_i {k : Nat} {c : Int × List Int} {code : List (Int × Int)} {a : List Int} {r : Int × Int} (hk : 1048576 < k) (hc : code.length ≤ 1048576) (ha : a.length ≤ 1048576) (hr : r.1 < 9223372036854775808) :
  impl_trapOf.f k c code a r = some (trapM c code a r) := by
 obtain ⟨pc, S⟩ := c
 unfold impl_trapOf.f
 rw [cpuOk_i hk, codeOk_i hc hk]
 simp only [Option.bind_some]
 by_cases h1 : CpuOk (pc, S)
 ·by_cases h2 : CodeOk code
  ·by_cases h3 : pc < (code.length : Int)
   ·have h0 : 0 ≤ pc := h1.1.1
    have e : trapM (pc, S) code a r = trapX (el C2 code pc.toNat) S a r := by
     unfold trapM
     rw [B_yes ⟨h1, h2, h3⟩, if_pos rfl]
    have hx := h2.1 pc.toNat (by omega)
    have hS : S.length ≤ 8 := h1.2.1
    have hWt : 1 ≤ S.length → Word (top S) := fun h => h1.2.2 (S.length - 1) (by dsimp only; omega)
    have hWs : 2 ≤ S.length → Word (sec S) := fun h => h1.2.2 (S.length - 2) (by dsimp only; omega)
    have f1 : 1 ≤ S.length → w64 ((S.length : Int) - 1) = ((S.length - 1 : Nat) : Int) := fun h => by rw [w64_id (by omega) (by omega)]; omega
    have f2 : 2 ≤ S.length → w64 ((S.length : Int) - 2) = ((S.length - 2 : Nat) : Int) := fun h => by rw [w64_id (by omega) (by omega)]; omega
    rw [e, B_yes h1, B_yes h2, if_neg (fun h => h rfl), if_neg (fun h => h rfl), if_neg (by omega), if_pos h0, if_pos h3]
    clear e
    obtain ⟨op, g, hxe⟩ : ∃ op g : Int, el C2 code pc.toNat = (op, g) := ⟨_, _, rfl⟩
    rw [hxe] at hx
    simp only [show el (.pair (.int .i64) (.int .i64)) code pc.toNat = (op, g) from hxe]
    simp only [hasOp_i, takes_i, puts_i, Option.bind_some, decide_eq_true_eq] at hx ⊢
    have hx1 := hx.1
    have hx2 := hx.2
    simp only at hx1 hx2
    unfold trapX
    simp only
    by_cases h4 : 17 < op
    ·rw [if_pos (by omega), if_pos h4]
    ·rw [if_neg (by omega), if_neg h4]
     have ht := takes_in op
     have hp := puts_in op
     have e1 : w64 ((S.length : Int) - takesM op) = (S.length : Int) - takesM op := w64_id (by omega) (by omega)
     have e2 : w64 ((S.length : Int) - takesM op + putsM op) = (S.length : Int) - takesM op + putsM op := w64_id (by omega) (by omega)
     rw [e1, e2]
     by_cases h5 : (S.length : Int) < takesM op
     ·rw [if_pos h5, if_pos h5]
     ·rw [if_neg h5, if_neg h5]
      have e3 : (if 8 < (S.length : Int) - takesM op + putsM op then some 4 else some 0) = some (if 8 < (S.length : Int) - takesM op + putsM op then (4 : Int) else 0) := by split <;> rfl
      rw [e3]
      generalize (if 8 < (S.length : Int) - takesM op + putsM op then (4 : Int) else 0) = q
      by_cases o2 : op = 2
      ·subst o2
       have hl : 1 ≤ S.length := by simp [takesM] at h5; omega
       have hW := hWt hl
       have e4 : w64 (top S + g) = top S + g := w64_id (by unfold Word at hW; omega) (by unfold Word at hW; omega)
       rw [if_pos rfl, f1 hl, if_pos (by omega), if_pos (by omega)]
       simp only [Int.toNat_natCast]
       simp only [show el (.int .i64) S (S.length - 1) = top S from rfl, e4, cellAt_i ha hr, Option.bind_some, true_and, Int.reduceEq, false_and, ↓reduceIte]
       split <;> rfl
      ·by_cases o3 : op = 3
       ·subst o3
        have hl : 2 ≤ S.length := by simp [takesM] at h5; omega
        have hW := hWs hl
        have e4 : w64 (sec S + g) = sec S + g := w64_id (by unfold Word at hW; omega) (by unfold Word at hW; omega)
        rw [if_neg o2, if_pos rfl, f2 hl, if_pos (by omega), if_pos (by omega)]
        simp only [Int.toNat_natCast]
        simp only [show el (.int .i64) S (S.length - 2) = sec S from rfl, e4, cellAt_i ha hr, Option.bind_some, true_and, Int.reduceEq, false_and, ↓reduceIte]
        split <;> rfl
       ·by_cases o7 : op = 7
        ·subst o7
         have hl : 2 ≤ S.length := by simp [takesM] at h5; omega
         rw [if_neg o2, if_neg o3, if_pos rfl, f1 (by omega), if_pos (by omega), if_pos (by omega)]
         simp only [Int.toNat_natCast]
         simp only [show el (.int .i64) S (S.length - 1) = top S from rfl, true_and, Int.reduceEq, false_and, ↓reduceIte]
         split <;> rfl
        ·simp only [o2, o3, o7, false_and, ↓reduceIte]
   ·have e : trapM (pc, S) code a r = 6 := by
     unfold trapM
     rw [B_no (fun h => h3 h.2.2)]
     rfl
    rw [e, B_yes h1, B_yes h2, if_neg (fun h => h rfl), if_neg (fun h => h rfl), if_pos (by omega)]
  ·have e : trapM (pc, S) code a r = 6 := by
    unfold trapM
    rw [B_no (fun h => h2 h.2.1)]
    rfl
   rw [e, B_yes h1, B_no h2, if_neg (fun h => h rfl)]
   simp
 ·have e : trapM (pc, S) code a r = 6 := by
   unfold trapM
   rw [B_no (fun h => h1 h.1)]
   rfl
  rw [e, B_no h1]
  simp
end Go.Proofs.YtacpibmmodeacaaGreat.Pure
/- One step of the program's machine. No condition. -/
namespace Go.Proofs.YtacpibmmodeacaaGreat.Pure
open Go Go.Proofs.YtacpibmmodeacaaGreatA Go.Proofs.YtacpibmmodeacaaGreatU Go.Proofs.YtacpibmmodeacaaGreat.QA
set_option linter.unusedVariables false
set_option linter.unusedSimpArgs false
/-- What is known where nothing traps. -/
structure NoTrap (pc op g : Int) (S : List Int) (a : List Int) (r : Int × Int) : Prop where
 pc0 : 0 ≤ pc
 pc1 : pc < 60
 words : WordsOk S
 len : S.length ≤ 8
 op0 : 0 ≤ op
 op1 : ¬ 17 < op
 g0 : 0 ≤ g ∧ g ≤ 255
 tk : takesM op ≤ (S.length : Int)
 ld : op = 2 → ¬ cellAt a r (top S + g) < 0
 st : op = 3 → ¬ cellAt a r (sec S + g) < 0
 dv : op = 7 → ¬ top S = 0
 ov : (S.length : Int) - takesM op + putsM op ≤ 8
theorem trap0 {c : Int × List Int} {code : List (Int × Int)} {a : List Int} {r : Int × Int} (h : trapM c code a r = 0) :
  CpuOk c ∧ CodeOk code ∧ c.1 < (code.length : Int) ∧ NoTrap c.1 (el C2 code c.1.toNat).1 (el C2 code c.1.toNat).2 c.2 a r := by
 unfold trapM at h
 split at h
 ·rename_i hb
  obtain ⟨h1, h2, h3⟩ := B_iff.1 hb
  refine ⟨h1, h2, h3, ?_⟩
  have h60 := h2.2
  have hx := h2.1 c.1.toNat (by have := h1.1; omega)
  obtain ⟨op, g, hxe⟩ : ∃ op g : Int, el C2 code c.1.toNat = (op, g) := ⟨_, _, rfl⟩
  rw [hxe] at h hx ⊢
  unfold trapX at h
  simp only at h ⊢
  split at h
  ·exact absurd h (by omega)
  split at h
  ·exact absurd h (by omega)
  split at h
  ·exact absurd h (by omega)
  split at h
  ·exact absurd h (by omega)
  split at h
  ·exact absurd h (by omega)
  split at h
  ·exact absurd h (by omega)
  rename_i q1 q2 q3 q4 q5 q6
  exact ⟨h1.1.1, by omega, h1.2.2, h1.2.1, hx.1.1, q1, hx.2, by omega, fun o h => q3 ⟨o, h⟩, fun o h => q4 ⟨o, h⟩, fun o h => q5 ⟨o, h⟩, by omega⟩
 ·exact absurd h (by omega)
theorem el_0 {x : Int} {xs : List Int} : el (.int .i64) (@List.cons Int x xs) 0 = x := rfl
theorem el_1 {x y : Int} {xs : List Int} : el (.int .i64) (@List.cons Int x (@List.cons Int y xs)) 1 = y := rfl
theorem drop1 {S : List Int} (h : 1 ≤ S.length) : S.drop (S.length - 1) = [top S] := by
 obtain ⟨T, u, rfl⟩ := snoc1 h
 have e : top (T ++ [u]) = u := el_mid (t := I1) (by simp)
 rw [e]
 simp
theorem drop2 {S : List Int} (h : 2 ≤ S.length) : S.drop (S.length - 2) = [sec S, top S] := by
 obtain ⟨T, u, v, rfl⟩ := snoc2 h
 have e : top (T ++ [u, v]) = v := by
  have e2 : T ++ [u, v] = (T ++ [u]) ++ [v] := by simp
  rw [e2]
  exact el_mid (t := I1) (by simp)
 have e3 : sec (T ++ [u, v]) = u := el_mid (t := I1) (by simp)
 rw [e, e3]
 simp
theorem taken_i {k : Nat} {pc : Int} {S : List Int} {t : Nat} (hS : S.length ≤ 8) (ht : t ≤ S.length) : impl_Cpu_taken.f k (pc, S) (t : Int) = some (S.drop (S.length - t), pc, S.take (S.length - t)) := by
 unfold impl_Cpu_taken.f
 have e : w64 ((S.length : Int) - (t : Int)) = ((S.length - t : Nat) : Int) := by rw [w64_id (by omega) (by omega)]; omega
 have c1 : (0 : Int) ≤ ((S.length - t : Nat) : Int) := by omega
 have c2 : ((S.length - t : Nat) : Int) ≤ (S.length : Int) := by omega
 simp only [e, c1, c2, ↓reduceIte, Int.toNat_natCast]
 rw [ints_i (by rw [List.length_drop]; omega)]
 rfl
theorem put_i {k : Nat} {pc : Int} {S : List Int} {v : Int} (hS : S.length ≤ 1000) : impl_Cpu_put.f k (pc, S) v = some (pc, S ++ [v]) := by
 unfold impl_Cpu_put.f
 simp only [Option.bind_some, List.length_cons, List.length_nil]
 rw [if_pos (by omega)]
theorem mul_in {a b : Int} (ha : Word a) (hb : Word b) : 0 ≤ a * b ∧ a * b ≤ 65535 * 65535 := ⟨Int.mul_nonneg ha.1 hb.1, Int.mul_le_mul ha.2 hb.2 hb.1 (by omega)⟩
theorem computed_i {k : Nat} {op a b : Int} (ha : Word a) (hb : Word b) (h : op = 7 → ¬ b = 0) : impl_computed.f k op a b = some (reckon op a b) := by
 have hm := mul_in ha hb
 have ha' := ha
 have hb' := hb
 unfold Word at ha' hb'
 unfold impl_computed.f reckon
 rw [w64_id (z := a + b) (by omega) (by omega), w64_id (z := a - b) (by omega) (by omega), w64_id (z := a * b) (by omega) (by omega), mod_i, mod_i, mod_i]
 by_cases o4 : op = 4
 ·rw [if_pos o4, if_pos o4]; rfl
 rw [if_neg o4, if_neg o4]
 by_cases o5 : op = 5
 ·rw [if_pos o5, if_pos o5]; rfl
 rw [if_neg o5, if_neg o5]
 by_cases o6 : op = 6
 ·rw [if_pos o6, if_pos o6]; rfl
 rw [if_neg o6, if_neg o6]
 by_cases o7 : op = 7
 ·rw [if_pos o7, if_pos o7, if_pos (h o7)]
  have e : Int.tdiv a b = a / b := Int.tdiv_eq_ediv_of_nonneg ha'.1
  have h1 : 0 ≤ a / b := Int.ediv_nonneg ha'.1 hb'.1
  have h2 : a / b ≤ a := Int.ediv_le_self _ ha'.1
  rw [e, w64_id (by omega) (by omega)]
 rw [if_neg o7, if_neg o7]
 split <;> rfl
theorem low_len (S : List Int) (t : Nat) : (low S t).length ≤ S.length := by
 unfold low
 rw [List.length_take]
 omega
theorem top_w {S : List Int} (h : WordsOk S) (hl : 1 ≤ S.length) : Word (top S) := h (S.length - 1) (by omega)
theorem sec_w {S : List Int} (h : WordsOk S) (hl : 2 ≤ S.length) : Word (sec S) := h (S.length - 2) (by omega)
theorem step_i {k : Nat} {c : Int × List Int} {code : List (Int × Int)} {a : List Int} {r : Int × Int} {time : Int} (hk : 1048576 < k) (hc : code.length ≤ 1048576) (hs : c.2.length ≤ 1048576) (ha : a.length ≤ 1048576) (hr : r.1 < 9223372036854775808) :
  impl_StepCpu.f k c code a r time = some (stepM c code a r time) := by
 unfold impl_StepCpu.f stepM
 rw [cpu_i hs, arena_i ha, trap_i hk hc ha hr]
 simp only [Option.bind_some]
 by_cases h0 : trapM c code a r = 0
 ·obtain ⟨-, -, hp, nt⟩ := trap0 h0
  rw [if_neg (fun h => h h0), if_pos h0, if_pos nt.pc0, if_pos hp, takes_i]
  clear h0 hp
  obtain ⟨pc, S⟩ := c
  simp only at nt hs ⊢
  obtain ⟨op, g, hxe⟩ : ∃ op g : Int, el C2 code pc.toNat = (op, g) := ⟨_, _, rfl⟩
  rw [hxe] at nt ⊢
  simp only [show el (.pair (.int .i64) (.int .i64)) code pc.toNat = (op, g) from hxe] at nt ⊢
  clear hxe
  have hpc : w64 (pc + 1) = pc + 1 := w64_id (by have := nt.pc0; omega) (by have := nt.pc1; omega)
  have hS := nt.len
  have hg := nt.g0
  have t0 : impl_Cpu_taken.f k (pc, S) 0 = some ([], pc, S) := by
   have := taken_i (k := k) (pc := pc) (t := 0) hS (by omega)
   simpa using this
  have t1 : 1 ≤ S.length → impl_Cpu_taken.f k (pc, S) 1 = some ([top S], pc, low S 1) := fun h => by
   have := taken_i (k := k) (pc := pc) (t := 1) hS h
   rw [drop1 h] at this
   exact this
  have t2 : 2 ≤ S.length → impl_Cpu_taken.f k (pc, S) 2 = some ([sec S, top S], pc, low S 2) := fun h => by
   have := taken_i (k := k) (pc := pc) (t := 2) hS h
   rw [drop2 h] at this
   exact this
  have l1 := low_len S 1
  have l2 := low_len S 2
  have p0 : ∀ v, impl_Cpu_put.f k (pc + 1, S) v = some (pc + 1, S ++ [v]) := fun v => put_i (by omega)
  have p1 : ∀ v, impl_Cpu_put.f k (pc + 1, low S 1) v = some (pc + 1, low S 1 ++ [v]) := fun v => put_i (by omega)
  have p2 : ∀ v, impl_Cpu_put.f k (pc + 1, low S 2) v = some (pc + 1, low S 2 ++ [v]) := fun v => put_i (by omega)
  have p3 : ∀ u v, impl_Cpu_put.f k (pc + 1, low S 1 ++ [u]) v = some (pc + 1, low S 1 ++ [u] ++ [v]) := fun u v => put_i (by rw [List.length_append, List.length_cons, List.length_nil]; omega)
  have i1 : (0 : Int) < (([top S] : List Int).length : Int) := by simp
  have i2 : (0 : Int) < (([sec S, top S] : List Int).length : Int) := by simp
  have i3 : (1 : Int) < (([sec S, top S] : List Int).length : Int) := by simp
  have i4 : (0 : Int) ≤ 0 := by omega
  have i5 : (0 : Int) ≤ 1 := by omega
  have i6 : (0 : Nat) ≤ 0 := by omega
  have hw := nt.words
  have htk := nt.tk
  rcases op_cases nt.op0 nt.op1 with h | h | h | h | h | h | h | h | h | h | h | h | h | h | h | h | h | h <;> subst h
  ·simp only [show takesM 0 = 0 from rfl, t0, Option.bind_some, Int.reduceEq, ↓reduceIte, decide_false, decide_true, Bool.false_eq_true, hpc, impl_StepCpu.j1, impl_StepCpu.j2, impl_StepCpu.j3, doX, Int.reduceLE, false_and, and_false, or_self, and_self, or_false, false_or]
  ·simp only [show takesM 1 = 0 from rfl, t0, p0, Option.bind_some, Int.reduceEq, ↓reduceIte, hpc, doX]
  ·have hl : 1 ≤ S.length := by simp [takesM] at htk; omega
   have hu := top_w hw hl
   have hc' := cellAt_lt (nt.ld rfl)
   have e : w64 (top S + g) = top S + g := w64_id (by unfold Word at hu; omega) (by unfold Word at hu; omega)
   simp only [show takesM 2 = 1 from rfl, t1 hl, Option.bind_some, Int.reduceEq, ↓reduceIte, hpc, doX, i1, i4, i6, el_0, e, cellAt_i ha hr, hc'.1, hc'.2, mod_i, p1]
  ·have hl : 2 ≤ S.length := by simp [takesM] at htk; omega
   have hu := sec_w hw hl
   have hc' := cellAt_lt (nt.st rfl)
   have e : w64 (sec S + g) = sec S + g := w64_id (by unfold Word at hu; omega) (by unfold Word at hu; omega)
   simp only [show takesM 3 = 2 from rfl, t2 hl, Option.bind_some, Int.reduceEq, ↓reduceIte, hpc, doX, i2, i3, i4, i5, i6, Nat.zero_le, el_0, el_1, e, cellAt_i ha hr, hc'.1, hc'.2]
  ·have hl : 2 ≤ S.length := by simp [takesM] at htk; omega
   simp only [show takesM 4 = 2 from rfl, t2 hl, Option.bind_some, Int.reduceEq, Int.reduceLE, ↓reduceIte, hpc, impl_StepCpu.j1, doX, i2, i3, i4, i5, i6, Nat.zero_le, el_0, el_1, computed_i (sec_w hw hl) (top_w hw (by omega)) nt.dv, p2, and_self]
  ·have hl : 2 ≤ S.length := by simp [takesM] at htk; omega
   simp only [show takesM 5 = 2 from rfl, t2 hl, Option.bind_some, Int.reduceEq, Int.reduceLE, ↓reduceIte, hpc, impl_StepCpu.j1, doX, i2, i3, i4, i5, i6, Nat.zero_le, el_0, el_1, computed_i (sec_w hw hl) (top_w hw (by omega)) nt.dv, p2, and_self]
  ·have hl : 2 ≤ S.length := by simp [takesM] at htk; omega
   simp only [show takesM 6 = 2 from rfl, t2 hl, Option.bind_some, Int.reduceEq, Int.reduceLE, ↓reduceIte, hpc, impl_StepCpu.j1, doX, i2, i3, i4, i5, i6, Nat.zero_le, el_0, el_1, computed_i (sec_w hw hl) (top_w hw (by omega)) nt.dv, p2, and_self]
  ·have hl : 2 ≤ S.length := by simp [takesM] at htk; omega
   simp only [show takesM 7 = 2 from rfl, t2 hl, Option.bind_some, Int.reduceEq, Int.reduceLE, ↓reduceIte, hpc, impl_StepCpu.j1, doX, i2, i3, i4, i5, i6, Nat.zero_le, el_0, el_1, computed_i (sec_w hw hl) (top_w hw (by omega)) nt.dv, p2, and_self]
  ·have hl : 2 ≤ S.length := by simp [takesM] at htk; omega
   simp only [show takesM 8 = 2 from rfl, t2 hl, Option.bind_some, Int.reduceEq, Int.reduceLE, ↓reduceIte, decide_true, hpc, impl_StepCpu.j1, doX, i2, i3, i4, i5, i6, Nat.zero_le, el_0, el_1, computed_i (sec_w hw hl) (top_w hw (by omega)) nt.dv, p2, and_self]
  ·simp only [show takesM 9 = 0 from rfl, t0, Option.bind_some, Int.reduceEq, Int.reduceLE, ↓reduceIte, decide_false, Bool.false_eq_true, hpc, impl_StepCpu.j1, doX, and_false]
  ·have hl : 1 ≤ S.length := by simp [takesM] at htk; omega
   simp only [show takesM 10 = 1 from rfl, t1 hl, Option.bind_some, Int.reduceEq, Int.reduceLE, ↓reduceIte, decide_false, Bool.false_eq_true, hpc, impl_StepCpu.j1, doX, and_false, i1, i4, i6, el_0]
   split <;> rfl
  ·have hl : 1 ≤ S.length := by simp [takesM] at htk; omega
   simp only [show takesM 11 = 1 from rfl, t1 hl, Option.bind_some, Int.reduceEq, Int.reduceLE, ↓reduceIte, decide_false, Bool.false_eq_true, hpc, impl_StepCpu.j1, doX, and_false, i1, i4, i6, el_0, p1, p3, List.append_assoc, List.singleton_append]
  ·have hl : 1 ≤ S.length := by simp [takesM] at htk; omega
   simp only [show takesM 12 = 1 from rfl, t1 hl, Option.bind_some, Int.reduceEq, Int.reduceLE, ↓reduceIte, decide_false, Bool.false_eq_true, hpc, impl_StepCpu.j1, impl_StepCpu.j2, impl_StepCpu.j3, doX, and_false]
  ·have hl : 1 ≤ S.length := by simp [takesM] at htk; omega
   simp only [show takesM 13 = 1 from rfl, t1 hl, Option.bind_some, Int.reduceEq, Int.reduceLE, ↓reduceIte, decide_false, Bool.false_eq_true, hpc, impl_StepCpu.j1, impl_StepCpu.j2, impl_StepCpu.j3, doX, and_false, i1, i4, i6, el_0, true_or]
  ·simp only [show takesM 14 = 0 from rfl, t0, Option.bind_some, Int.reduceEq, Int.reduceLE, ↓reduceIte, decide_false, Bool.false_eq_true, hpc, impl_StepCpu.j1, impl_StepCpu.j2, impl_StepCpu.j3, doX, and_false, or_self, true_or]
  ·simp only [show takesM 15 = 0 from rfl, t0, Option.bind_some, Int.reduceEq, Int.reduceLE, ↓reduceIte, decide_false, decide_true, Bool.false_eq_true, hpc, impl_StepCpu.j1, impl_StepCpu.j2, impl_StepCpu.j3, doX, and_false, or_self, or_true]
  ·have hl : 1 ≤ S.length := by simp [takesM] at htk; omega
   simp only [show takesM 16 = 1 from rfl, t1 hl, Option.bind_some, Int.reduceEq, Int.reduceLE, ↓reduceIte, decide_false, decide_true, Bool.false_eq_true, hpc, impl_StepCpu.j1, impl_StepCpu.j2, impl_StepCpu.j3, doX, and_false, i1, i4, i6, el_0, or_true]
  ·simp only [show takesM 17 = 0 from rfl, t0, Option.bind_some, Int.reduceEq, Int.reduceLE, ↓reduceIte, decide_false, Bool.false_eq_true, hpc, impl_StepCpu.j1, impl_StepCpu.j2, impl_StepCpu.j3, doX, and_false, or_self, mod_i, p0]
 ·rw [if_pos h0, if_neg h0]
end Go.Proofs.YtacpibmmodeacaaGreat.Pure
/- One step of the reference's machine. No condition. -/
namespace Go.Proofs.YtacpibmmodeacaaGreat.Pure
open Go Go.Proofs.YtacpibmmodeacaaGreatA Go.Proofs.YtacpibmmodeacaaGreatU Go.Proofs.YtacpibmmodeacaaGreat.QA
set_option linter.unusedVariables false
set_option linter.unusedSimpArgs false
theorem load_s {k : Nat} {a : List Int} {r : Int × Int} {p : Int} (ha : a.length ≤ 1048576) : spec_LoadCell.f k a r p = some (if cellAt a r p < 0 then (0, false) else (el I1 a (cellAt a r p).toNat, true)) := by
 unfold spec_LoadCell.f
 rw [cellAt_s ha]
 simp only [Option.bind_some]
 by_cases h : cellAt a r p < 0
 ·rw [if_pos h, if_pos h]
 ·have hc := cellAt_lt h
  rw [if_neg h, if_neg h, if_pos hc.1, if_pos hc.2]
theorem store_s {k : Nat} {a : List Int} {r : Int × Int} {p v : Int} (ha : a.length ≤ 1048576) : spec_StoreCell.f k a r p v = some (if cellAt a r p < 0 then (a, false) else (a.set (cellAt a r p).toNat (v % 65536), true)) := by
 unfold spec_StoreCell.f
 rw [cellAt_s ha, arena_s ha]
 simp only [Option.bind_some, mod_s]
 by_cases h : cellAt a r p < 0
 ·rw [if_pos h, if_pos h]
 ·have hc := cellAt_lt h
  rw [if_neg h, if_neg h, if_pos hc.1, if_pos hc.2]
theorem sum_s {k : Nat} {op a b : Int} (ha : Word a) (hb : Word b) : spec_l06Sum.f k op a b = some (if op = 7 ∧ b = 0 then (0, false) else (reckon op a b, true)) := by
 have hm := mul_in ha hb
 have ha' := ha
 have hb' := hb
 unfold Word at ha' hb'
 unfold spec_l06Sum.f reckon
 rw [w64_id (z := a + b) (by omega) (by omega), w64_id (z := a - b) (by omega) (by omega), w64_id (z := a * b) (by omega) (by omega), mod_s, mod_s, mod_s]
 simp only [Option.bind_some]
 by_cases o7 : op = 7
 ·subst o7
  simp only [Int.reduceEq, ↓reduceIte, true_and]
  by_cases h : b = 0
  ·rw [if_pos h, if_pos h]
  ·have e : Int.tdiv a b = a / b := Int.tdiv_eq_ediv_of_nonneg ha'.1
   have h1 : 0 ≤ a / b := Int.ediv_nonneg ha'.1 hb'.1
   have h2 : a / b ≤ a := Int.ediv_le_self _ ha'.1
   rw [if_neg h, if_neg h, if_pos h, e, w64_id (by omega) (by omega)]
 ·rw [if_neg (c := op = 7 ∧ b = 0) (fun h => o7 h.1), if_neg (c := op = 7) o7]
  by_cases o4 : op = 4
  ·rw [if_pos o4, if_pos o4]
  rw [if_neg o4, if_neg o4]
  by_cases o5 : op = 5
  ·rw [if_pos o5, if_pos o5]
  rw [if_neg o5, if_neg o5]
  by_cases o6 : op = 6
  ·rw [if_pos o6, if_pos o6]
  rw [if_neg o6, if_neg o6, if_neg o7]
  split <;> rfl
theorem j1_s {k : Nat} {z1 z2 z4 z5 z6 z7 z8 z9 z10 z11 z12 z13 z14 : Int} {z15 z16 z17 z18 z19 z20 S : List Int} (h1 : 0 ≤ z1 ∧ z1 ≤ 2) (h2 : 0 ≤ z2 ∧ z2 ≤ 2) (hS : S.length ≤ 8) (ha : z15.length ≤ 1048576) :
  spec_StepCpu.j1 k (z1, z2, (S.length : Int), z4, z5, z6, z7, z8, z9, z10, z11, z12, z13, z14, z15, z16, z17, z18, z19, z20, ()) = some (if 8 < (S.length : Int) - z1 + z2 then ((z9, z18), z15, 0, 0, 0, 4) else ((min z10 60, z19), z20, z11, z12, z13, z14)) := by
 rw [spec_StepCpu.j1, w64_id (z := (S.length : Int) - z1) (by omega) (by omega), w64_id (by omega) (by omega), arena_s ha]
 simp only [Option.bind_some]
 split
 ·rfl
 ·by_cases h : 60 < z10
  ·rw [if_pos h, Int.min_eq_right (by omega)]
  ·rw [if_neg h, Int.min_eq_left (by omega)]
theorem word_mod {z : Int} (h : Word z) : z % 65536 = z := by
 unfold Word at h
 omega
theorem step_s {k : Nat} {c : Int × List Int} {code : List (Int × Int)} {a : List Int} {r : Int × Int} {time : Int} (hk : 1048576 < k) (hc : code.length ≤ 1048576) (hs : c.2.length ≤ 1048576) (ha : a.length ≤ 1048576) :
  spec_StepCpu.f k c code a r time = some (stepM c code a r time) := by
 unfold spec_StepCpu.f
 rw [cpu_s hs, cpuOk_s hs hk, codeOk_s hc hk]
 simp only [Option.bind_some, arena_s ha]
 have bad : ¬ (CpuOk c ∧ CodeOk code ∧ c.1 < (code.length : Int)) → stepM c code a r time = (c, a, 0, 0, 0, 6) := fun h => by
  have e : trapM c code a r = 6 := by
   unfold trapM
   rw [B_no h]
   rfl
  unfold stepM
  rw [e]
  rfl
 by_cases g1 : ¬ CpuOk c
 ·have h1 := g1
  rw [B_no h1, bad (fun h => h1 h.1)]
  simp
 have h1 := Classical.not_not.1 g1
 by_cases g2 : ¬ CodeOk code
 ·have h2 := g2
  rw [B_no h2, B_yes h1, bad (fun h => h2 h.2.1)]
  simp
 have h2 := Classical.not_not.1 g2
 rw [B_yes h1, B_yes h2, if_neg (fun h => h rfl), if_neg (fun h => h rfl)]
 by_cases g3 : ¬ (c.1 < (code.length : Int))
 ·have h3 := g3
  rw [if_pos (by omega), bad (fun h => h3 h.2.2)]
 have h3 := Classical.not_not.1 g3
 rw [if_neg (by omega), if_pos h1.1.1, if_pos h3]
 have e : trapM c code a r = trapX (el C2 code c.1.toNat) c.2 a r := by
  unfold trapM
  rw [B_yes ⟨h1, h2, h3⟩, if_pos rfl]
 unfold stepM
 rw [e]
 clear e bad
 have hin := h2.1 c.1.toNat (by have := h1.1.1; omega)
 have h60 := h2.2
 clear h2
 obtain ⟨pc, S⟩ := c
 obtain ⟨⟨hp0, hp1⟩, hS, hw⟩ := h1
 simp only at hp0 hp1 hS hw h3 hs hin ⊢
 obtain ⟨op, g, hxe⟩ : ∃ op g : Int, el C2 code pc.toNat = (op, g) := ⟨_, _, rfl⟩
 rw [hxe] at hin ⊢
 simp only [show el (.pair (.int .i64) (.int .i64)) code pc.toNat = (op, g) from hxe]
 clear hxe
 have hop := hin.1
 have hg := hin.2
 simp only at hop hg
 clear hin
 by_cases h4 : 17 < op
 ·have e : trapX (op, g) S a r = 1 := by
   unfold trapX
   rw [if_pos h4]
  rw [if_pos h4, e]
  rfl
 rw [if_neg h4]
 have hpc : w64 (pc + 1) = pc + 1 := w64_id (by omega) (by omega)
 have hpm : min (pc + 1) 60 = pc + 1 := Int.min_eq_left (by omega)
 have w0 : w64 (S.length : Int) = (S.length : Int) := w64_id (by omega) (by omega)
 have w1 : 1 ≤ S.length → w64 ((S.length : Int) - 1) = ((S.length - 1 : Nat) : Int) := fun h => by rw [w64_id (by omega) (by omega)]; omega
 have w2 : 2 ≤ S.length → w64 ((S.length : Int) - 2) = ((S.length - 2 : Nat) : Int) := fun h => by rw [w64_id (by omega) (by omega)]; omega
 have b0 : (0 : Int) ≤ (S.length : Int) := by omega
 have b1 : (0 : Int) ≤ ((S.length - 1 : Nat) : Int) := by omega
 have b2 : (0 : Int) ≤ ((S.length - 2 : Nat) : Int) := by omega
 have d0 : ((S.length : Nat) : Int) ≤ (S.length : Int) := by omega
 have d1 : ((S.length - 1 : Nat) : Int) ≤ (S.length : Int) := by omega
 have d2 : ((S.length - 2 : Nat) : Int) ≤ (S.length : Int) := by omega
 have c1 : 1 ≤ S.length → ((S.length - 1 : Nat) : Int) < (S.length : Int) := fun h => by omega
 have c2 : 2 ≤ S.length → ((S.length - 2 : Nat) : Int) < (S.length : Int) := fun h => by omega
 have s0 : S.take S.length = S := List.take_length
 have s1 : S.take (S.length - 1) = low S 1 := rfl
 have s2 : S.take (S.length - 2) = low S 2 := rfl
 have l1 := low_len S 1
 have l2 := low_len S 2
 have q : ∀ T : List Int, T.length ≤ S.length → (0 + T.length) * 8 ≤ 140737488355328 := fun T h => by omega
 have q1 : ∀ T : List Int, T.length ≤ S.length → (T.length + (0 + 1)) * 8 ≤ 140737488355328 := fun T h => by omega
 have q2 : ∀ T : List Int, T.length ≤ S.length → (T.length + (0 + 1 + 1)) * 8 ≤ 140737488355328 := fun T h => by omega
 have eS := Nat.le_refl S.length
 have u1 : el (.int .i64) S (S.length - 1) = top S := rfl
 have u2 : el (.int .i64) S (S.length - 2) = sec S := rfl
 have n0 : ∀ x : Int, 0 ≤ x ∧ x ≤ 2 → (0 : Int) ≤ x ∧ x ≤ 2 := fun x h => h
 rcases op_cases hop.1 h4 with h | h | h | h | h | h | h | h | h | h | h | h | h | h | h | h | h | h <;> subst h
 ·have hn : spec_l06Needs.f k 0 = some (0, 0) := rfl
  have j : ∀ {z4 z5 z6 z7 z8 z9 z10 z11 z12 z13 z14 : Int} {z15 z16 z17 z18 z19 z20 : List Int}, z15.length ≤ 1048576 → spec_StepCpu.j1 k (0, 0, (S.length : Int), z4, z5, z6, z7, z8, z9, z10, z11, z12, z13, z14, z15, z16, z17, z18, z19, z20, ()) = some (if 8 < (S.length : Int) - 0 + 0 then ((z9, z18), z15, 0, 0, 0, 4) else ((min z10 60, z19), z20, z11, z12, z13, z14)) := fun h => j1_s (by omega) (by omega) hS h
  rw [hn]
  simp only [Option.bind_some, trapX, show takesM 0 = 0 from rfl, show putsM 0 = 0 from rfl, Int.reduceEq, Int.reduceLT, Int.reduceLE, false_and, true_and, ↓reduceIte, List.length_nil, List.nil_append]
  have hneg : ¬ (S.length : Int) < 0 := by omega
  simp only [hneg, ↓reduceIte]
  have hov : ¬ 8 < (S.length : Int) + 0 := by omega
  simp only [Int.sub_zero, w0, b0, d0, ↓reduceIte, Int.toNat_natCast, s0, q _ eS, Option.bind_some, Int.reduceEq, hpc, hpm, j ha, doX, List.length_cons, List.length_nil, q1 _ eS, q2 _ eS, spec_StepCpu.j2, spec_StepCpu.j3, spec_StepCpu.j4, decide_false, decide_true, Bool.false_eq_true, Int.reduceLE, and_false, false_and, and_self, true_or, or_true, or_self, hov]
 ·have hn : spec_l06Needs.f k 1 = some (0, 1) := rfl
  have j : ∀ {z4 z5 z6 z7 z8 z9 z10 z11 z12 z13 z14 : Int} {z15 z16 z17 z18 z19 z20 : List Int}, z15.length ≤ 1048576 → spec_StepCpu.j1 k (0, 1, (S.length : Int), z4, z5, z6, z7, z8, z9, z10, z11, z12, z13, z14, z15, z16, z17, z18, z19, z20, ()) = some (if 8 < (S.length : Int) - 0 + 1 then ((z9, z18), z15, 0, 0, 0, 4) else ((min z10 60, z19), z20, z11, z12, z13, z14)) := fun h => j1_s (by omega) (by omega) hS h
  rw [hn]
  simp only [Option.bind_some, trapX, show takesM 1 = 0 from rfl, show putsM 1 = 1 from rfl, Int.reduceEq, Int.reduceLT, Int.reduceLE, false_and, true_and, ↓reduceIte, List.length_nil, List.nil_append]
  have hneg : ¬ (S.length : Int) < 0 := by omega
  simp only [hneg, ↓reduceIte]
  simp only [Int.sub_zero, w0, b0, d0, ↓reduceIte, Int.toNat_natCast, s0, q _ eS, Option.bind_some, Int.reduceEq, hpc, hpm, j ha, doX, List.length_cons, List.length_nil, q1 _ eS, q2 _ eS, spec_StepCpu.j2, spec_StepCpu.j3, spec_StepCpu.j4, decide_false, decide_true, Bool.false_eq_true, Int.reduceLE, and_false, false_and, and_self, true_or, or_true, or_self, mod_s]
  by_cases hv : 8 < (S.length : Int) + 1
  ·simp only [hv, ↓reduceIte, Int.reduceEq]
  ·simp only [hv, ↓reduceIte]
 ·have hn : spec_l06Needs.f k 2 = some (1, 1) := rfl
  have j : ∀ {z4 z5 z6 z7 z8 z9 z10 z11 z12 z13 z14 : Int} {z15 z16 z17 z18 z19 z20 : List Int}, z15.length ≤ 1048576 → spec_StepCpu.j1 k (1, 1, (S.length : Int), z4, z5, z6, z7, z8, z9, z10, z11, z12, z13, z14, z15, z16, z17, z18, z19, z20, ()) = some (if 8 < (S.length : Int) - 1 + 1 then ((z9, z18), z15, 0, 0, 0, 4) else ((min z10 60, z19), z20, z11, z12, z13, z14)) := fun h => j1_s (by omega) (by omega) hS h
  rw [hn]
  simp only [Option.bind_some, trapX, show takesM 2 = 1 from rfl, show putsM 2 = 1 from rfl, Int.reduceEq, Int.reduceLT, Int.reduceLE, false_and, true_and, ↓reduceIte, List.length_nil, List.nil_append]
  by_cases hl : (S.length : Int) < 1
  ·rw [if_pos hl, if_pos hl]
   rfl
  rw [if_neg hl, if_neg hl]
  have hl1 : 1 ≤ S.length := by omega
  have ht := top_w hw hl1
  have e : w64 (top S + g) = top S + g := w64_id (by unfold Word at ht; omega) (by unfold Word at ht; omega)
  have hov : ¬ 8 < (S.length : Int) - 1 + 1 := by omega
  simp only [w1 hl1, b1, d1, ↓reduceIte, Int.toNat_natCast, s1, q _ l1, Option.bind_some, Int.reduceEq, hpc, hpm, j ha, doX, List.length_cons, List.length_nil, q1 _ l1, q2 _ l1, spec_StepCpu.j2, spec_StepCpu.j3, spec_StepCpu.j4, decide_false, decide_true, Bool.false_eq_true, Int.reduceLE, and_false, false_and, and_self, true_or, or_true, or_self, c1 hl1, u1, e, load_s ha, mod_s, hov]
  by_cases hz : cellAt a r (top S + g) < 0
  ·simp only [hz, ↓reduceIte, Bool.false_eq_true, not_false_eq_true, Int.reduceEq]
  ·simp only [hz, ↓reduceIte, not_true_eq_false]
 ·have hn : spec_l06Needs.f k 3 = some (2, 0) := rfl
  have j : ∀ {z4 z5 z6 z7 z8 z9 z10 z11 z12 z13 z14 : Int} {z15 z16 z17 z18 z19 z20 : List Int}, z15.length ≤ 1048576 → spec_StepCpu.j1 k (2, 0, (S.length : Int), z4, z5, z6, z7, z8, z9, z10, z11, z12, z13, z14, z15, z16, z17, z18, z19, z20, ()) = some (if 8 < (S.length : Int) - 2 + 0 then ((z9, z18), z15, 0, 0, 0, 4) else ((min z10 60, z19), z20, z11, z12, z13, z14)) := fun h => j1_s (by omega) (by omega) hS h
  rw [hn]
  simp only [Option.bind_some, trapX, show takesM 3 = 2 from rfl, show putsM 3 = 0 from rfl, Int.reduceEq, Int.reduceLT, Int.reduceLE, false_and, true_and, ↓reduceIte, List.length_nil, List.nil_append]
  by_cases hl : (S.length : Int) < 2
  ·rw [if_pos hl, if_pos hl]
   rfl
  rw [if_neg hl, if_neg hl]
  have hl2 : 2 ≤ S.length := by omega
  have hl1 : 1 ≤ S.length := by omega
  have ht := top_w hw hl1
  have hsx := sec_w hw hl2
  have e : w64 (sec S + g) = sec S + g := w64_id (by unfold Word at hsx; omega) (by unfold Word at hsx; omega)
  have hov : ¬ 8 < (S.length : Int) - 2 + 0 := by omega
  simp only [w2 hl2, b2, d2, ↓reduceIte, Int.toNat_natCast, s2, q _ l2, Option.bind_some, Int.reduceEq, hpc, hpm, j ha, doX, List.length_cons, List.length_nil, q1 _ l2, q2 _ l2, spec_StepCpu.j2, spec_StepCpu.j3, spec_StepCpu.j4, decide_false, decide_true, Bool.false_eq_true, Int.reduceLE, and_false, false_and, and_self, true_or, or_true, or_self, w1 hl1, b1, d1, c1 hl1, c2 hl2, u1, u2, e, store_s ha, word_mod ht, hov]
  by_cases hz : cellAt a r (sec S + g) < 0
  ·simp only [hz, ↓reduceIte, Bool.false_eq_true, not_false_eq_true, Int.reduceEq]
  ·simp only [hz, ↓reduceIte, not_true_eq_false]
 ·have hn : spec_l06Needs.f k 4 = some (2, 1) := rfl
  have j : ∀ {z4 z5 z6 z7 z8 z9 z10 z11 z12 z13 z14 : Int} {z15 z16 z17 z18 z19 z20 : List Int}, z15.length ≤ 1048576 → spec_StepCpu.j1 k (2, 1, (S.length : Int), z4, z5, z6, z7, z8, z9, z10, z11, z12, z13, z14, z15, z16, z17, z18, z19, z20, ()) = some (if 8 < (S.length : Int) - 2 + 1 then ((z9, z18), z15, 0, 0, 0, 4) else ((min z10 60, z19), z20, z11, z12, z13, z14)) := fun h => j1_s (by omega) (by omega) hS h
  rw [hn]
  simp only [Option.bind_some, trapX, show takesM 4 = 2 from rfl, show putsM 4 = 1 from rfl, Int.reduceEq, Int.reduceLT, Int.reduceLE, false_and, true_and, ↓reduceIte, List.length_nil, List.nil_append]
  by_cases hl : (S.length : Int) < 2
  ·rw [if_pos hl, if_pos hl]
   rfl
  rw [if_neg hl, if_neg hl]
  have hl2 : 2 ≤ S.length := by omega
  have hl1 : 1 ≤ S.length := by omega
  have ht := top_w hw hl1
  have hsx := sec_w hw hl2
  have hov : ¬ 8 < (S.length : Int) - 2 + 1 := by omega
  simp only [w2 hl2, b2, d2, ↓reduceIte, Int.toNat_natCast, s2, q _ l2, Option.bind_some, Int.reduceEq, hpc, hpm, j ha, doX, List.length_cons, List.length_nil, q1 _ l2, q2 _ l2, spec_StepCpu.j2, spec_StepCpu.j3, spec_StepCpu.j4, decide_false, decide_true, Bool.false_eq_true, Int.reduceLE, and_false, false_and, and_self, true_or, or_true, or_self, w1 hl1, b1, c1 hl1, c2 hl2, u1, u2, sum_s hsx ht, hov, not_true_eq_false]
 ·have hn : spec_l06Needs.f k 5 = some (2, 1) := rfl
  have j : ∀ {z4 z5 z6 z7 z8 z9 z10 z11 z12 z13 z14 : Int} {z15 z16 z17 z18 z19 z20 : List Int}, z15.length ≤ 1048576 → spec_StepCpu.j1 k (2, 1, (S.length : Int), z4, z5, z6, z7, z8, z9, z10, z11, z12, z13, z14, z15, z16, z17, z18, z19, z20, ()) = some (if 8 < (S.length : Int) - 2 + 1 then ((z9, z18), z15, 0, 0, 0, 4) else ((min z10 60, z19), z20, z11, z12, z13, z14)) := fun h => j1_s (by omega) (by omega) hS h
  rw [hn]
  simp only [Option.bind_some, trapX, show takesM 5 = 2 from rfl, show putsM 5 = 1 from rfl, Int.reduceEq, Int.reduceLT, Int.reduceLE, false_and, true_and, ↓reduceIte, List.length_nil, List.nil_append]
  by_cases hl : (S.length : Int) < 2
  ·rw [if_pos hl, if_pos hl]
   rfl
  rw [if_neg hl, if_neg hl]
  have hl2 : 2 ≤ S.length := by omega
  have hl1 : 1 ≤ S.length := by omega
  have ht := top_w hw hl1
  have hsx := sec_w hw hl2
  have hov : ¬ 8 < (S.length : Int) - 2 + 1 := by omega
  simp only [w2 hl2, b2, d2, ↓reduceIte, Int.toNat_natCast, s2, q _ l2, Option.bind_some, Int.reduceEq, hpc, hpm, j ha, doX, List.length_cons, List.length_nil, q1 _ l2, q2 _ l2, spec_StepCpu.j2, spec_StepCpu.j3, spec_StepCpu.j4, decide_false, decide_true, Bool.false_eq_true, Int.reduceLE, and_false, false_and, and_self, true_or, or_true, or_self, w1 hl1, b1, c1 hl1, c2 hl2, u1, u2, sum_s hsx ht, hov, not_true_eq_false]
 ·have hn : spec_l06Needs.f k 6 = some (2, 1) := rfl
  have j : ∀ {z4 z5 z6 z7 z8 z9 z10 z11 z12 z13 z14 : Int} {z15 z16 z17 z18 z19 z20 : List Int}, z15.length ≤ 1048576 → spec_StepCpu.j1 k (2, 1, (S.length : Int), z4, z5, z6, z7, z8, z9, z10, z11, z12, z13, z14, z15, z16, z17, z18, z19, z20, ()) = some (if 8 < (S.length : Int) - 2 + 1 then ((z9, z18), z15, 0, 0, 0, 4) else ((min z10 60, z19), z20, z11, z12, z13, z14)) := fun h => j1_s (by omega) (by omega) hS h
  rw [hn]
  simp only [Option.bind_some, trapX, show takesM 6 = 2 from rfl, show putsM 6 = 1 from rfl, Int.reduceEq, Int.reduceLT, Int.reduceLE, false_and, true_and, ↓reduceIte, List.length_nil, List.nil_append]
  by_cases hl : (S.length : Int) < 2
  ·rw [if_pos hl, if_pos hl]
   rfl
  rw [if_neg hl, if_neg hl]
  have hl2 : 2 ≤ S.length := by omega
  have hl1 : 1 ≤ S.length := by omega
  have ht := top_w hw hl1
  have hsx := sec_w hw hl2
  have hov : ¬ 8 < (S.length : Int) - 2 + 1 := by omega
  simp only [w2 hl2, b2, d2, ↓reduceIte, Int.toNat_natCast, s2, q _ l2, Option.bind_some, Int.reduceEq, hpc, hpm, j ha, doX, List.length_cons, List.length_nil, q1 _ l2, q2 _ l2, spec_StepCpu.j2, spec_StepCpu.j3, spec_StepCpu.j4, decide_false, decide_true, Bool.false_eq_true, Int.reduceLE, and_false, false_and, and_self, true_or, or_true, or_self, w1 hl1, b1, c1 hl1, c2 hl2, u1, u2, sum_s hsx ht, hov, not_true_eq_false]
 ·have hn : spec_l06Needs.f k 7 = some (2, 1) := rfl
  have j : ∀ {z4 z5 z6 z7 z8 z9 z10 z11 z12 z13 z14 : Int} {z15 z16 z17 z18 z19 z20 : List Int}, z15.length ≤ 1048576 → spec_StepCpu.j1 k (2, 1, (S.length : Int), z4, z5, z6, z7, z8, z9, z10, z11, z12, z13, z14, z15, z16, z17, z18, z19, z20, ()) = some (if 8 < (S.length : Int) - 2 + 1 then ((z9, z18), z15, 0, 0, 0, 4) else ((min z10 60, z19), z20, z11, z12, z13, z14)) := fun h => j1_s (by omega) (by omega) hS h
  rw [hn]
  simp only [Option.bind_some, trapX, show takesM 7 = 2 from rfl, show putsM 7 = 1 from rfl, Int.reduceEq, Int.reduceLT, Int.reduceLE, false_and, true_and, ↓reduceIte, List.length_nil, List.nil_append]
  by_cases hl : (S.length : Int) < 2
  ·rw [if_pos hl, if_pos hl]
   rfl
  rw [if_neg hl, if_neg hl]
  have hl2 : 2 ≤ S.length := by omega
  have hl1 : 1 ≤ S.length := by omega
  have ht := top_w hw hl1
  have hsx := sec_w hw hl2
  have hov : ¬ 8 < (S.length : Int) - 2 + 1 := by omega
  simp only [w2 hl2, b2, d2, ↓reduceIte, Int.toNat_natCast, s2, q _ l2, Option.bind_some, Int.reduceEq, hpc, hpm, j ha, doX, List.length_cons, List.length_nil, q1 _ l2, q2 _ l2, spec_StepCpu.j2, spec_StepCpu.j3, spec_StepCpu.j4, decide_false, decide_true, Bool.false_eq_true, Int.reduceLE, and_false, false_and, and_self, true_or, or_true, or_self, w1 hl1, b1, c1 hl1, c2 hl2, u1, u2, sum_s hsx ht, hov, not_true_eq_false]
  by_cases hz : top S = 0
  ·simp only [hz, ↓reduceIte, arena_s ha, Option.bind_some, and_self, Bool.false_eq_true, not_false_eq_true, Int.reduceEq]
  ·simp only [hz, ↓reduceIte, and_false, not_true_eq_false, Int.reduceEq]
 ·have hn : spec_l06Needs.f k 8 = some (2, 1) := rfl
  have j : ∀ {z4 z5 z6 z7 z8 z9 z10 z11 z12 z13 z14 : Int} {z15 z16 z17 z18 z19 z20 : List Int}, z15.length ≤ 1048576 → spec_StepCpu.j1 k (2, 1, (S.length : Int), z4, z5, z6, z7, z8, z9, z10, z11, z12, z13, z14, z15, z16, z17, z18, z19, z20, ()) = some (if 8 < (S.length : Int) - 2 + 1 then ((z9, z18), z15, 0, 0, 0, 4) else ((min z10 60, z19), z20, z11, z12, z13, z14)) := fun h => j1_s (by omega) (by omega) hS h
  rw [hn]
  simp only [Option.bind_some, trapX, show takesM 8 = 2 from rfl, show putsM 8 = 1 from rfl, Int.reduceEq, Int.reduceLT, Int.reduceLE, false_and, true_and, ↓reduceIte, List.length_nil, List.nil_append]
  by_cases hl : (S.length : Int) < 2
  ·rw [if_pos hl, if_pos hl]
   rfl
  rw [if_neg hl, if_neg hl]
  have hl2 : 2 ≤ S.length := by omega
  have hl1 : 1 ≤ S.length := by omega
  have ht := top_w hw hl1
  have hsx := sec_w hw hl2
  have hov : ¬ 8 < (S.length : Int) - 2 + 1 := by omega
  simp only [w2 hl2, b2, d2, ↓reduceIte, Int.toNat_natCast, s2, q _ l2, Option.bind_some, Int.reduceEq, hpc, hpm, j ha, doX, List.length_cons, List.length_nil, q1 _ l2, q2 _ l2, spec_StepCpu.j2, spec_StepCpu.j3, spec_StepCpu.j4, decide_false, decide_true, Bool.false_eq_true, Int.reduceLE, and_false, false_and, and_self, true_or, or_true, or_self, w1 hl1, b1, c1 hl1, c2 hl2, u1, u2, sum_s hsx ht, hov, not_true_eq_false]
 ·have hn : spec_l06Needs.f k 9 = some (0, 0) := rfl
  have j : ∀ {z4 z5 z6 z7 z8 z9 z10 z11 z12 z13 z14 : Int} {z15 z16 z17 z18 z19 z20 : List Int}, z15.length ≤ 1048576 → spec_StepCpu.j1 k (0, 0, (S.length : Int), z4, z5, z6, z7, z8, z9, z10, z11, z12, z13, z14, z15, z16, z17, z18, z19, z20, ()) = some (if 8 < (S.length : Int) - 0 + 0 then ((z9, z18), z15, 0, 0, 0, 4) else ((min z10 60, z19), z20, z11, z12, z13, z14)) := fun h => j1_s (by omega) (by omega) hS h
  rw [hn]
  simp only [Option.bind_some, trapX, show takesM 9 = 0 from rfl, show putsM 9 = 0 from rfl, Int.reduceEq, Int.reduceLT, Int.reduceLE, false_and, true_and, ↓reduceIte, List.length_nil, List.nil_append]
  have hneg : ¬ (S.length : Int) < 0 := by omega
  simp only [hneg, ↓reduceIte]
  have hov : ¬ 8 < (S.length : Int) + 0 := by omega
  simp only [Int.sub_zero, w0, b0, d0, ↓reduceIte, Int.toNat_natCast, s0, q _ eS, Option.bind_some, Int.reduceEq, hpc, hpm, j ha, doX, List.length_cons, List.length_nil, q1 _ eS, q2 _ eS, spec_StepCpu.j2, spec_StepCpu.j3, spec_StepCpu.j4, decide_false, decide_true, Bool.false_eq_true, Int.reduceLE, and_false, false_and, and_self, true_or, or_true, or_self, hov]
 ·have hn : spec_l06Needs.f k 10 = some (1, 0) := rfl
  have j : ∀ {z4 z5 z6 z7 z8 z9 z10 z11 z12 z13 z14 : Int} {z15 z16 z17 z18 z19 z20 : List Int}, z15.length ≤ 1048576 → spec_StepCpu.j1 k (1, 0, (S.length : Int), z4, z5, z6, z7, z8, z9, z10, z11, z12, z13, z14, z15, z16, z17, z18, z19, z20, ()) = some (if 8 < (S.length : Int) - 1 + 0 then ((z9, z18), z15, 0, 0, 0, 4) else ((min z10 60, z19), z20, z11, z12, z13, z14)) := fun h => j1_s (by omega) (by omega) hS h
  rw [hn]
  simp only [Option.bind_some, trapX, show takesM 10 = 1 from rfl, show putsM 10 = 0 from rfl, Int.reduceEq, Int.reduceLT, Int.reduceLE, false_and, true_and, ↓reduceIte, List.length_nil, List.nil_append]
  by_cases hl : (S.length : Int) < 1
  ·rw [if_pos hl, if_pos hl]
   rfl
  rw [if_neg hl, if_neg hl]
  have hl1 : 1 ≤ S.length := by omega
  have ht := top_w hw hl1
  have hov : ¬ 8 < (S.length : Int) - 1 + 0 := by omega
  simp only [w1 hl1, b1, d1, ↓reduceIte, Int.toNat_natCast, s1, q _ l1, Option.bind_some, Int.reduceEq, hpc, hpm, j ha, doX, List.length_cons, List.length_nil, q1 _ l1, q2 _ l1, spec_StepCpu.j2, spec_StepCpu.j3, spec_StepCpu.j4, decide_false, decide_true, Bool.false_eq_true, Int.reduceLE, and_false, false_and, and_self, true_or, or_true, or_self, c1 hl1, u1, hov]
  split <;> rfl
 ·have hn : spec_l06Needs.f k 11 = some (1, 2) := rfl
  have j : ∀ {z4 z5 z6 z7 z8 z9 z10 z11 z12 z13 z14 : Int} {z15 z16 z17 z18 z19 z20 : List Int}, z15.length ≤ 1048576 → spec_StepCpu.j1 k (1, 2, (S.length : Int), z4, z5, z6, z7, z8, z9, z10, z11, z12, z13, z14, z15, z16, z17, z18, z19, z20, ()) = some (if 8 < (S.length : Int) - 1 + 2 then ((z9, z18), z15, 0, 0, 0, 4) else ((min z10 60, z19), z20, z11, z12, z13, z14)) := fun h => j1_s (by omega) (by omega) hS h
  rw [hn]
  simp only [Option.bind_some, trapX, show takesM 11 = 1 from rfl, show putsM 11 = 2 from rfl, Int.reduceEq, Int.reduceLT, Int.reduceLE, false_and, true_and, ↓reduceIte, List.length_nil, List.nil_append]
  by_cases hl : (S.length : Int) < 1
  ·rw [if_pos hl, if_pos hl]
   rfl
  rw [if_neg hl, if_neg hl]
  have hl1 : 1 ≤ S.length := by omega
  have ht := top_w hw hl1
  simp only [w1 hl1, b1, d1, ↓reduceIte, Int.toNat_natCast, s1, q _ l1, Option.bind_some, Int.reduceEq, hpc, hpm, j ha, doX, List.length_cons, List.length_nil, q1 _ l1, q2 _ l1, spec_StepCpu.j2, spec_StepCpu.j3, spec_StepCpu.j4, decide_false, decide_true, Bool.false_eq_true, Int.reduceLE, and_false, false_and, and_self, true_or, or_true, or_self, c1 hl1, u1]
  by_cases hv : 8 < (S.length : Int) - 1 + 2
  ·simp only [hv, ↓reduceIte, Int.reduceEq]
  ·simp only [hv, ↓reduceIte]
 ·have hn : spec_l06Needs.f k 12 = some (1, 0) := rfl
  have j : ∀ {z4 z5 z6 z7 z8 z9 z10 z11 z12 z13 z14 : Int} {z15 z16 z17 z18 z19 z20 : List Int}, z15.length ≤ 1048576 → spec_StepCpu.j1 k (1, 0, (S.length : Int), z4, z5, z6, z7, z8, z9, z10, z11, z12, z13, z14, z15, z16, z17, z18, z19, z20, ()) = some (if 8 < (S.length : Int) - 1 + 0 then ((z9, z18), z15, 0, 0, 0, 4) else ((min z10 60, z19), z20, z11, z12, z13, z14)) := fun h => j1_s (by omega) (by omega) hS h
  rw [hn]
  simp only [Option.bind_some, trapX, show takesM 12 = 1 from rfl, show putsM 12 = 0 from rfl, Int.reduceEq, Int.reduceLT, Int.reduceLE, false_and, true_and, ↓reduceIte, List.length_nil, List.nil_append]
  by_cases hl : (S.length : Int) < 1
  ·rw [if_pos hl, if_pos hl]
   rfl
  rw [if_neg hl, if_neg hl]
  have hl1 : 1 ≤ S.length := by omega
  have ht := top_w hw hl1
  have hov : ¬ 8 < (S.length : Int) - 1 + 0 := by omega
  simp only [w1 hl1, b1, d1, ↓reduceIte, Int.toNat_natCast, s1, q _ l1, Option.bind_some, Int.reduceEq, hpc, hpm, j ha, doX, List.length_cons, List.length_nil, q1 _ l1, q2 _ l1, spec_StepCpu.j2, spec_StepCpu.j3, spec_StepCpu.j4, decide_false, decide_true, Bool.false_eq_true, Int.reduceLE, and_false, false_and, and_self, true_or, or_true, or_self, hov]
 ·have hn : spec_l06Needs.f k 13 = some (1, 0) := rfl
  have j : ∀ {z4 z5 z6 z7 z8 z9 z10 z11 z12 z13 z14 : Int} {z15 z16 z17 z18 z19 z20 : List Int}, z15.length ≤ 1048576 → spec_StepCpu.j1 k (1, 0, (S.length : Int), z4, z5, z6, z7, z8, z9, z10, z11, z12, z13, z14, z15, z16, z17, z18, z19, z20, ()) = some (if 8 < (S.length : Int) - 1 + 0 then ((z9, z18), z15, 0, 0, 0, 4) else ((min z10 60, z19), z20, z11, z12, z13, z14)) := fun h => j1_s (by omega) (by omega) hS h
  rw [hn]
  simp only [Option.bind_some, trapX, show takesM 13 = 1 from rfl, show putsM 13 = 0 from rfl, Int.reduceEq, Int.reduceLT, Int.reduceLE, false_and, true_and, ↓reduceIte, List.length_nil, List.nil_append]
  by_cases hl : (S.length : Int) < 1
  ·rw [if_pos hl, if_pos hl]
   rfl
  rw [if_neg hl, if_neg hl]
  have hl1 : 1 ≤ S.length := by omega
  have ht := top_w hw hl1
  have hov : ¬ 8 < (S.length : Int) - 1 + 0 := by omega
  simp only [w1 hl1, b1, d1, ↓reduceIte, Int.toNat_natCast, s1, q _ l1, Option.bind_some, Int.reduceEq, hpc, hpm, j ha, doX, List.length_cons, List.length_nil, q1 _ l1, q2 _ l1, spec_StepCpu.j2, spec_StepCpu.j3, spec_StepCpu.j4, decide_false, decide_true, Bool.false_eq_true, Int.reduceLE, and_false, false_and, and_self, true_or, or_true, or_self, c1 hl1, u1, hov]
 ·have hn : spec_l06Needs.f k 14 = some (0, 0) := rfl
  have j : ∀ {z4 z5 z6 z7 z8 z9 z10 z11 z12 z13 z14 : Int} {z15 z16 z17 z18 z19 z20 : List Int}, z15.length ≤ 1048576 → spec_StepCpu.j1 k (0, 0, (S.length : Int), z4, z5, z6, z7, z8, z9, z10, z11, z12, z13, z14, z15, z16, z17, z18, z19, z20, ()) = some (if 8 < (S.length : Int) - 0 + 0 then ((z9, z18), z15, 0, 0, 0, 4) else ((min z10 60, z19), z20, z11, z12, z13, z14)) := fun h => j1_s (by omega) (by omega) hS h
  rw [hn]
  simp only [Option.bind_some, trapX, show takesM 14 = 0 from rfl, show putsM 14 = 0 from rfl, Int.reduceEq, Int.reduceLT, Int.reduceLE, false_and, true_and, ↓reduceIte, List.length_nil, List.nil_append]
  have hneg : ¬ (S.length : Int) < 0 := by omega
  simp only [hneg, ↓reduceIte]
  have hov : ¬ 8 < (S.length : Int) + 0 := by omega
  simp only [Int.sub_zero, w0, b0, d0, ↓reduceIte, Int.toNat_natCast, s0, q _ eS, Option.bind_some, Int.reduceEq, hpc, hpm, j ha, doX, List.length_cons, List.length_nil, q1 _ eS, q2 _ eS, spec_StepCpu.j2, spec_StepCpu.j3, spec_StepCpu.j4, decide_false, decide_true, Bool.false_eq_true, Int.reduceLE, and_false, false_and, and_self, true_or, or_true, or_self, hov]
 ·have hn : spec_l06Needs.f k 15 = some (0, 0) := rfl
  have j : ∀ {z4 z5 z6 z7 z8 z9 z10 z11 z12 z13 z14 : Int} {z15 z16 z17 z18 z19 z20 : List Int}, z15.length ≤ 1048576 → spec_StepCpu.j1 k (0, 0, (S.length : Int), z4, z5, z6, z7, z8, z9, z10, z11, z12, z13, z14, z15, z16, z17, z18, z19, z20, ()) = some (if 8 < (S.length : Int) - 0 + 0 then ((z9, z18), z15, 0, 0, 0, 4) else ((min z10 60, z19), z20, z11, z12, z13, z14)) := fun h => j1_s (by omega) (by omega) hS h
  rw [hn]
  simp only [Option.bind_some, trapX, show takesM 15 = 0 from rfl, show putsM 15 = 0 from rfl, Int.reduceEq, Int.reduceLT, Int.reduceLE, false_and, true_and, ↓reduceIte, List.length_nil, List.nil_append]
  have hneg : ¬ (S.length : Int) < 0 := by omega
  simp only [hneg, ↓reduceIte]
  have hov : ¬ 8 < (S.length : Int) + 0 := by omega
  simp only [Int.sub_zero, w0, b0, d0, ↓reduceIte, Int.toNat_natCast, s0, q _ eS, Option.bind_some, Int.reduceEq, hpc, hpm, j ha, doX, List.length_cons, List.length_nil, q1 _ eS, q2 _ eS, spec_StepCpu.j2, spec_StepCpu.j3, spec_StepCpu.j4, decide_false, decide_true, Bool.false_eq_true, Int.reduceLE, and_false, false_and, and_self, true_or, or_true, or_self, hov]
 ·have hn : spec_l06Needs.f k 16 = some (1, 0) := rfl
  have j : ∀ {z4 z5 z6 z7 z8 z9 z10 z11 z12 z13 z14 : Int} {z15 z16 z17 z18 z19 z20 : List Int}, z15.length ≤ 1048576 → spec_StepCpu.j1 k (1, 0, (S.length : Int), z4, z5, z6, z7, z8, z9, z10, z11, z12, z13, z14, z15, z16, z17, z18, z19, z20, ()) = some (if 8 < (S.length : Int) - 1 + 0 then ((z9, z18), z15, 0, 0, 0, 4) else ((min z10 60, z19), z20, z11, z12, z13, z14)) := fun h => j1_s (by omega) (by omega) hS h
  rw [hn]
  simp only [Option.bind_some, trapX, show takesM 16 = 1 from rfl, show putsM 16 = 0 from rfl, Int.reduceEq, Int.reduceLT, Int.reduceLE, false_and, true_and, ↓reduceIte, List.length_nil, List.nil_append]
  by_cases hl : (S.length : Int) < 1
  ·rw [if_pos hl, if_pos hl]
   rfl
  rw [if_neg hl, if_neg hl]
  have hl1 : 1 ≤ S.length := by omega
  have ht := top_w hw hl1
  have hov : ¬ 8 < (S.length : Int) - 1 + 0 := by omega
  simp only [w1 hl1, b1, d1, ↓reduceIte, Int.toNat_natCast, s1, q _ l1, Option.bind_some, Int.reduceEq, hpc, hpm, j ha, doX, List.length_cons, List.length_nil, q1 _ l1, q2 _ l1, spec_StepCpu.j2, spec_StepCpu.j3, spec_StepCpu.j4, decide_false, decide_true, Bool.false_eq_true, Int.reduceLE, and_false, false_and, and_self, true_or, or_true, or_self, c1 hl1, u1, hov]
 ·have hn : spec_l06Needs.f k 17 = some (0, 1) := rfl
  have j : ∀ {z4 z5 z6 z7 z8 z9 z10 z11 z12 z13 z14 : Int} {z15 z16 z17 z18 z19 z20 : List Int}, z15.length ≤ 1048576 → spec_StepCpu.j1 k (0, 1, (S.length : Int), z4, z5, z6, z7, z8, z9, z10, z11, z12, z13, z14, z15, z16, z17, z18, z19, z20, ()) = some (if 8 < (S.length : Int) - 0 + 1 then ((z9, z18), z15, 0, 0, 0, 4) else ((min z10 60, z19), z20, z11, z12, z13, z14)) := fun h => j1_s (by omega) (by omega) hS h
  rw [hn]
  simp only [Option.bind_some, trapX, show takesM 17 = 0 from rfl, show putsM 17 = 1 from rfl, Int.reduceEq, Int.reduceLT, Int.reduceLE, false_and, true_and, ↓reduceIte, List.length_nil, List.nil_append]
  have hneg : ¬ (S.length : Int) < 0 := by omega
  simp only [hneg, ↓reduceIte]
  simp only [Int.sub_zero, w0, b0, d0, ↓reduceIte, Int.toNat_natCast, s0, q _ eS, Option.bind_some, Int.reduceEq, hpc, hpm, j ha, doX, List.length_cons, List.length_nil, q1 _ eS, q2 _ eS, spec_StepCpu.j2, spec_StepCpu.j3, spec_StepCpu.j4, decide_false, decide_true, Bool.false_eq_true, Int.reduceLE, and_false, false_and, and_self, true_or, or_true, or_self, mod_s]
  by_cases hv : 8 < (S.length : Int) + 1
  ·simp only [hv, ↓reduceIte, Int.reduceEq]
  ·simp only [hv, ↓reduceIte]
end Go.Proofs.YtacpibmmodeacaaGreat.Pure
/- The laws' own copies, comparisons and marks of machines and cells. No condition. -/
namespace Go.Proofs.YtacpibmmodeacaaGreat.Pure
open Go Go.Proofs.YtacpibmmodeacaaGreatA Go.Proofs.YtacpibmmodeacaaGreatU Go.Proofs.YtacpibmmodeacaaGreat.QA
set_option linter.unusedVariables false
theorem low_le (S : List Int) (t : Nat) (xs : List Int) : (low S t ++ xs).length ≤ S.length + xs.length := by
 have := low_len S t
 rw [List.length_append]
 omega
structure LenIs (S a : List Int) (s : Step) : Prop where
 st : s.1.2.length ≤ S.length + 2
 ar : s.2.1.length = a.length
theorem if_in {α : Type} {P : α → Prop} {c : Prop} [Decidable c] {x y : α} (hx : P x) (hy : P y) : P (if c then x else y) := by
 split
 ·exact hx
 ·exact hy
theorem doX_len {pc : Int} {x : Int × Int} {S a : List Int} {r : Int × Int} {time : Int} : LenIs S a (doX pc x S a r time) := by
 have h3 := low_le S 1 [el I1 a (cellAt a r (top S + x.2)).toNat % 65536]
 have h4 := low_le S 2 [reckon x.1 (sec S) (top S)]
 have h5 := low_le S 1 [top S, top S]
 simp only [List.length_cons, List.length_nil] at h3 h4 h5
 have q1 : ∀ pc e, LenIs S a ((pc, S), a, e) := fun pc e => ⟨by dsimp only; omega, rfl⟩
 have q2 : ∀ pc e t, LenIs S a ((pc, low S t), a, e) := fun pc e t => ⟨by have := low_len S t; dsimp only; omega, rfl⟩
 have q3 : ∀ pc e v, LenIs S a ((pc, S ++ [v]), a, e) := fun pc e v => ⟨by dsimp only; rw [List.length_append, List.length_cons, List.length_nil]; omega, rfl⟩
 unfold doX
 refine if_in (q3 _ _ _) (if_in ⟨by dsimp only; omega, rfl⟩ (if_in ⟨by have := low_len S 2; dsimp only; omega, List.length_set ..⟩ (if_in ⟨by dsimp only; omega, rfl⟩ (if_in (q1 _ _) (if_in (q2 _ _ _) (if_in ⟨by dsimp only; omega, rfl⟩ (if_in (q2 _ _ _) (if_in (q2 _ _ _) (if_in (q1 _ _) (if_in (q3 _ _ _) (q1 _ _)))))))))))
theorem step_len {c : Int × List Int} {code : List (Int × Int)} {a : List Int} {r : Int × Int} {time : Int} : (stepM c code a r time).1.2.length ≤ c.2.length + 2 ∧ (stepM c code a r time).2.1.length = a.length ∧ (trapM c code a r = 0 → c.2.length ≤ 8) ∧ (trapM c code a r ≠ 0 → (stepM c code a r time).1 = c) := by
 unfold stepM
 split
 ·rename_i h
  exact ⟨doX_len.st, doX_len.ar, fun _ => (trap0 h).1.2.1, fun h' => absurd h h'⟩
 ·rename_i h
  exact ⟨by dsimp only; omega, rfl, fun h' => absurd h' h, fun _ => rfl⟩
end Go.Proofs.YtacpibmmodeacaaGreat.Pure
/- Runs of code, and what they cost. No condition. -/
namespace Go.Proofs.YtacpibmmodeacaaGreat.Pure
open Go Go.Proofs.YtacpibmmodeacaaGreatA Go.Proofs.YtacpibmmodeacaaGreatU Go.Proofs.YtacpibmmodeacaaGreat.QA
set_option linter.unusedVariables false
set_option linter.unusedSimpArgs false
/-! ### a machine stays right -/
theorem words_mem {S : List Int} : WordsOk S ↔ ∀ x, x ∈ S → Word x := ⟨fun h x hx => by
  obtain ⟨i, hi, rfl⟩ := List.mem_iff_getElem.1 hx
  have := h i hi
  rw [el_at (t := I1) (List.getElem?_eq_getElem hi)] at this
  exact this, fun h i hi => h _ (el_mem (t := I1) hi)⟩
theorem words_low {S : List Int} {t : Nat} (h : WordsOk S) : WordsOk (low S t) := words_mem.2 fun x hx => words_mem.1 h x (List.mem_of_mem_take hx)
theorem words_app {S : List Int} {x : Int} (h : WordsOk S) (hx : Word x) : WordsOk (S ++ [x]) := words_mem.2 fun y hy => by
 rcases List.mem_append.1 hy with hy | hy
 ·exact words_mem.1 h y hy
 ·rw [List.mem_singleton.1 hy]
  exact hx
theorem word_emod (z : Int) : Word (z % 65536) := by unfold Word; omega
theorem reckon_w {op a b : Int} (ha : Word a) (hb : Word b) : Word (reckon op a b) := by
 unfold reckon
 refine if_in (P := Word) (word_emod _) (if_in (P := Word) (word_emod _) (if_in (P := Word) (word_emod _) (if_in (P := Word) ?_ (if_in (P := Word) (by unfold Word; omega) (by unfold Word; omega)))))
 have h1 : 0 ≤ a / b := Int.ediv_nonneg ha.1 hb.1
 have h2 : a / b ≤ a := Int.ediv_le_self _ ha.1
 have h3 := ha.2
 unfold Word
 omega
theorem low_eq {S : List Int} {t : Nat} (h : t ≤ S.length) : (low S t).length = S.length - t := by
 unfold low
 rw [List.length_take]
 omega
def PcIn (pc g : Int) (s : Step) : Prop := s.1.1 = pc + 1 ∨ s.1.1 = min g 60
theorem doX_ok {pc op g : Int} {S a : List Int} {r : Int × Int} {time : Int} (nt : NoTrap pc op g S a r) : CpuOk (doX pc (op, g) S a r time).1 ∧ PcIn pc g (doX pc (op, g) S a r time) := by
 have hw := nt.words
 have hS := nt.len
 have htk := nt.tk
 have hov := nt.ov
 have hg := nt.g0
 have h0 := nt.pc0
 have h6 := nt.pc1
 have hgw : Word g := by unfold Word; omega
 have hm : 0 ≤ min g 60 ∧ min g 60 ≤ 60 := by omega
 have mkk : ∀ {T : List Int} {p : Int} (a' : List Int) (e : Int × Int × Int × Int), T.length ≤ 8 → WordsOk T → (p = pc + 1 ∨ p = min g 60) → CpuOk (p, T) ∧ PcIn pc g ((p, T), a', e) := fun {T p} a' e h1 h2 h3 => ⟨⟨by
  dsimp only
  rcases h3 with h3 | h3
  ·omega
  ·rw [h3]; exact hm, h1, h2⟩, h3⟩
 have l1 := low_len S 1
 have l2 := low_len S 2
 unfold doX
 dsimp only
 by_cases o1 : op = 1
 ·subst o1
  simp only [takesM, putsM, Int.reduceEq, Int.reduceLE, or_self, or_false, false_or, true_or, and_false, false_and, and_self, ↓reduceIte] at hov
  rw [if_pos rfl]
  exact mkk _ _ (by rw [List.length_append, List.length_cons, List.length_nil]; omega) (words_app hw hgw) (.inl rfl)
 rw [if_neg o1]
 by_cases o2 : op = 2
 ·subst o2
  simp only [takesM, Int.reduceEq, true_or, ↓reduceIte] at htk
  have := low_eq (S := S) (t := 1) (by omega)
  rw [if_pos rfl]
  exact mkk _ _ (by rw [List.length_append, List.length_cons, List.length_nil]; omega) (words_app (words_low hw) (word_emod _)) (.inl rfl)
 rw [if_neg o2]
 by_cases o3 : op = 3
 ·rw [if_pos o3]
  exact mkk _ _ (by omega) (words_low hw) (.inl rfl)
 rw [if_neg o3]
 by_cases o4 : 4 ≤ op ∧ op ≤ 8
 ·rw [if_pos o4]
  have ht : takesM op = 2 := by
   unfold takesM
   rw [if_neg (by omega), if_pos (by omega)]
  rw [ht] at htk
  have := low_eq (S := S) (t := 2) (by omega)
  exact mkk _ _ (by rw [List.length_append, List.length_cons, List.length_nil]; omega) (words_app (words_low hw) (reckon_w (sec_w hw (by omega)) (top_w hw (by omega)))) (.inl rfl)
 rw [if_neg o4]
 by_cases o9 : op = 9
 ·rw [if_pos o9]
  exact mkk _ _ hS hw (.inr rfl)
 rw [if_neg o9]
 by_cases o10 : op = 10
 ·rw [if_pos o10]
  refine mkk _ _ (by omega) (words_low hw) ?_
  split
  ·exact .inr rfl
  ·exact .inl rfl
 rw [if_neg o10]
 by_cases o11 : op = 11
 ·subst o11
  simp only [takesM, putsM, Int.reduceEq, true_or, or_true, ↓reduceIte] at hov htk
  have := low_eq (S := S) (t := 1) (by omega)
  rw [if_pos rfl]
  have ht := top_w hw (by omega)
  have e : low S 1 ++ [top S, top S] = low S 1 ++ [top S] ++ [top S] := by simp
  exact mkk _ _ (by rw [List.length_append, List.length_cons, List.length_cons, List.length_nil]; omega) (by rw [e]; exact words_app (words_app (words_low hw) ht) ht) (.inl rfl)
 rw [if_neg o11]
 by_cases o12 : op = 12
 ·rw [if_pos o12]
  exact mkk _ _ (by omega) (words_low hw) (.inl rfl)
 rw [if_neg o12]
 by_cases o13 : op = 13 ∨ op = 16
 ·rw [if_pos o13]
  exact mkk _ _ (by omega) (words_low hw) (.inl rfl)
 rw [if_neg o13]
 by_cases o14 : op = 14 ∨ op = 15
 ·rw [if_pos o14]
  exact mkk _ _ hS hw (.inl rfl)
 rw [if_neg o14]
 by_cases o17 : op = 17
 ·subst o17
  simp only [takesM, putsM, Int.reduceEq, Int.reduceLE, or_self, or_true, or_false, false_or, true_or, and_false, false_and, and_self, ↓reduceIte] at hov
  rw [if_pos rfl]
  exact mkk _ _ (by rw [List.length_append, List.length_cons, List.length_nil]; omega) (words_app hw (word_emod _)) (.inl rfl)
 rw [if_neg o17]
 exact mkk _ _ hS hw (.inl rfl)
theorem step_ok {c : Int × List Int} {code : List (Int × Int)} {a : List Int} {r : Int × Int} {time : Int} (h : trapM c code a r = 0) : CpuOk (stepM c code a r time).1 ∧ PcIn c.1 (el C2 code c.1.toNat).2 (stepM c code a r time) := by
 have nt := (trap0 h).2.2.2
 unfold stepM
 rw [if_pos h]
 exact doX_ok nt
theorem doX_trap {pc : Int} {x : Int × Int} {S a : List Int} {r : Int × Int} {time : Int} : (doX pc x S a r time).2.2.2.2.2 = 0 := by
 unfold doX
 refine if_in (P := fun s : Step => s.2.2.2.2.2 = 0) rfl (if_in (P := fun s : Step => s.2.2.2.2.2 = 0) rfl (if_in (P := fun s : Step => s.2.2.2.2.2 = 0) rfl (if_in (P := fun s : Step => s.2.2.2.2.2 = 0) rfl (if_in (P := fun s : Step => s.2.2.2.2.2 = 0) rfl (if_in (P := fun s : Step => s.2.2.2.2.2 = 0) rfl (if_in (P := fun s : Step => s.2.2.2.2.2 = 0) rfl (if_in (P := fun s : Step => s.2.2.2.2.2 = 0) rfl (if_in (P := fun s : Step => s.2.2.2.2.2 = 0) rfl (if_in (P := fun s : Step => s.2.2.2.2.2 = 0) rfl (if_in (P := fun s : Step => s.2.2.2.2.2 = 0) rfl rfl))))))))))
theorem step_trap {c : Int × List Int} {code : List (Int × Int)} {a : List Int} {r : Int × Int} {time : Int} : (stepM c code a r time).2.2.2.2.2 = trapM c code a r := by
 unfold stepM
 split
 ·rename_i h
  rw [h, doX_trap]
 ·rfl
/-! ### answers -/
noncomputable def answerM (c : Int × List Int) (n : Int) : (Int × List Int) × Bool := if B (CpuOk c) = true ∧ ¬ (c.2.length : Int) = 8 then ((c.1, c.2 ++ [n % 65536]), true) else (c, false)
theorem answer_s {k : Nat} {c : Int × List Int} {n : Int} (hk : 1048576 < k) (hl : c.2.length ≤ 1048576) : spec_Answer.f k c n = some (answerM c n) := by
 unfold spec_Answer.f answerM
 rw [cpu_s hl, cpuOk_s hl hk]
 simp only [Option.bind_some]
 by_cases h : CpuOk c
 ·rw [B_yes h]
  have := h.2.1
  simp only [not_true_eq_false, ↓reduceIte, true_and, mod_s, Option.bind_some, List.length_cons, List.length_nil]
  rw [if_pos (show (c.2.length + (0 + 1)) * 8 ≤ 140737488355328 by omega)]
  by_cases h8 : (c.2.length : Int) = 8
  ·rw [if_pos h8, if_neg (fun h => h h8)]
  ·rw [if_neg h8, if_pos h8]
 ·rw [B_no h]
  simp
/-! ### runs -/
def costM (op : Int) : Int := if op = 2 ∨ op = 3 ∨ op = 15 ∨ op = 16 then 2 else if op = 6 ∨ op = 7 then 3 else if op = 13 ∨ op = 14 then 4 else 1
def ansM (op : Int) : Nat := if op = 13 ∨ op = 15 then 1 else if op = 14 then 2 else 0
theorem cost_in (op : Int) : 1 ≤ costM op ∧ costM op ≤ 4 := by
 unfold costM
 repeat' split
 all_goals omega
theorem cost_i {k : Nat} {op : Int} : impl_CostOf.f k op = some (costM op) := by
 unfold impl_CostOf.f impl_CostOf.j1 impl_CostOf.j2 costM
 simp only [decide_eq_true_eq, ↓reduceIte]
 repeat' split
 all_goals first | rfl | (exfalso; omega)
theorem cost_s {k : Nat} {op : Int} : spec_CostOf.f k op = some (costM op) := by
 unfold spec_CostOf.f spec_CostOf.j1 spec_CostOf.j2 costM
 simp only [decide_eq_true_eq, ↓reduceIte]
 repeat' split
 all_goals first | rfl | (exfalso; omega)
theorem ans_i {k : Nat} {op : Int} : impl_answersOf.f k op = some (ansM op : Int) := by
 unfold impl_answersOf.f ansM
 repeat' split
 all_goals first | rfl | (exfalso; omega)
theorem ans_s {k : Nat} {op : Int} : spec_l07Answers.f k op = some (ansM op : Int) := by
 unfold spec_l07Answers.f ansM
 repeat' split
 all_goals first | rfl | (exfalso; omega)
theorem ans_le (op : Int) : ansM op ≤ 2 := by
 unfold ansM
 repeat' split
 all_goals omega
theorem cpu0 : CpuOk (0, []) := ⟨⟨Int.le_refl 0, by dsimp only; omega⟩, by simp, fun i hi => absurd hi (by simp)⟩
end Go.Proofs.YtacpibmmodeacaaGreat.Pure
/- Ports: what is sent and taken by the program. No condition. -/
namespace Go.Proofs.YtacpibmmodeacaaGreat.Pure
open Go Go.Proofs.YtacpibmmodeacaaGreatA Go.Proofs.YtacpibmmodeacaaGreatU Go.Proofs.YtacpibmmodeacaaGreat.QA
set_option linter.unusedVariables false
set_option linter.unusedSimpArgs false
theorem line_i {k : Nat} {l : List (Int × Int)} (h : l.length ≤ 1048576) : impl_copyLine.f k l = some l := by
 unfold impl_copyLine.f
 simp only [Option.bind_some, List.length_nil, List.nil_append]
 rw [if_pos (by omega)]
noncomputable def sendM (p : Port5) (l : List (Int × Int)) (n time : Int) : List (Int × Int) × Int :=
 if B (PortOk p) = true then (if p.1 = 2 then ([(n, time)], 0) else if p.2.2.2.1 ≤ (l.length : Int) then (l, 1) else (l ++ [(n, time)], 0)) else (l, 1)
noncomputable def takeM (p : Port5) (l : List (Int × Int)) (time : Int) : List (Int × Int) × Int × Int :=
 if B (PortOk p) = true ∧ ¬ (l.length : Int) = 0 then (if p.1 = 1 then (l.drop 1, (el M2 l 0).1, 0) else if p.2.2.2.2 < time - (el M2 l 0).2 then (l, (el M2 l 0).1, 3) else (l, (el M2 l 0).1, 0)) else (l, 0, 2)
theorem send_i {k : Nat} {p : Port5} {l : List (Int × Int)} {n time : Int} (hl : l.length ≤ 1048576) : impl_SendPort.f k p l n time = some (sendM p l n time) := by
 have hj : ∀ L : List (Int × Int), L.length ≤ 1048576 → impl_SendPort.j1 k (n, time, [], L, ()) = some (L ++ [(n, time)], 0) := fun L hL => by
  rw [impl_SendPort.j1]
  simp only [Option.bind_some, List.length_cons, List.length_nil]
  rw [if_pos (by omega)]
 unfold impl_SendPort.f sendM
 rw [line_i hl, portOk_i]
 simp only [Option.bind_some, hj [] (by simp), hj l hl, List.nil_append]
 by_cases hp : PortOk p
 ·rw [B_yes hp]
  simp only [not_true_eq_false, ↓reduceIte]
  by_cases h1 : p.1 = 1
  ·have h2 : ¬ p.1 = 2 := by omega
   rw [if_pos h1, if_neg h2, if_neg h2]
   by_cases h3 : p.2.2.2.1 ≤ (l.length : Int)
   ·rw [if_pos h3, if_pos h3]
   ·rw [if_neg h3, if_neg h3]
  ·have h2 : p.1 = 2 := by
    rcases hp.kd with h | h
    ·exact absurd h.1 h1
    ·exact h.1
   rw [if_neg h1, if_pos h2, if_pos h2]
 ·rw [B_no hp]
  simp
theorem u64_w (z : Int) : IntKind.u64.wrap z = z % 18446744073709551616 := by simp [IntKind.wrap, IntKind.signed, IntKind.bits]
theorem take_i {k : Nat} {p : Port5} {l : List (Int × Int)} {time : Int} (hl : l.length ≤ 1048576) (ht : -9223372036854775808 ≤ time ∧ time < 9223372036854775808) (hs : Stamps l) : impl_TakePort.f k p l time = some (takeM p l time) := by
 unfold impl_TakePort.f takeM
 rw [line_i hl, portOk_i]
 simp only [Option.bind_some]
 by_cases hp : PortOk p
 ·rw [B_yes hp]
  simp only [not_true_eq_false, ↓reduceIte, true_and]
  by_cases h0 : (l.length : Int) = 0
  ·rw [if_pos h0, if_neg (fun h => h h0)]
  ·rw [if_neg h0, if_pos h0, if_pos (by omega), if_pos (by omega)]
   obtain ⟨x, t, hx⟩ : ∃ x t : Int, el M2 l 0 = (x, t) := ⟨_, _, rfl⟩
   have hst := hs _ (el_mem (t := M2) (xs := l) (i := 0) (by omega))
   rw [hx] at hst
   simp only [show el (.pair (.int .i64) (.int .i64)) l 0 = (x, t) from hx]
   simp only at hst
   by_cases h1 : p.1 = 1
   ·rw [if_pos h1, if_pos h1, if_pos (by omega), if_pos (by omega)]
   ·have h2 : 1 ≤ p.2.2.2.2 ∧ p.2.2.2.2 ≤ 100 := by
     rcases hp.kd with h | h
     ·exact absurd h.1 h1
     ·exact h.2.2
    rw [if_neg h1, if_neg h1]
    simp only [u64_w]
    by_cases h3 : t < time
    ·rw [if_pos h3]
     by_cases h4 : p.2.2.2.2 < time - t
     ·rw [if_pos h4, if_pos (by omega)]
     ·rw [if_neg h4, if_neg (by omega)]
    ·rw [if_neg h3, if_neg (by omega)]
 ·rw [B_no hp]
  simp
end Go.Proofs.YtacpibmmodeacaaGreat.Pure
/- Runs of a part of a kernel. No condition. -/
namespace Go.Proofs.YtacpibmmodeacaaGreat.Pure
open Go Go.Proofs.YtacpibmmodeacaaGreatA Go.Proofs.YtacpibmmodeacaaGreatU Go.Proofs.YtacpibmmodeacaaGreat.QA
set_option linter.unusedVariables false
set_option linter.unusedSimpArgs false
abbrev RS := List Int × (Int × List Int) × List LineT × List Int
structure World where
 P : List Port5
 R : Int × Int
 code : List (Int × Int)
 part : Int
 time : Int
 ins : List Int
structure WorldOk (w : World) : Prop where
 ports : PortsOk w.P
 code : w.code.length ≤ 60
 reg : RegIn w.R
 part : 1 ≤ w.part ∧ w.part ≤ 4
 time : Number w.time
structure RunOk (w : World) (s : RS) : Prop where
 cells : s.1.length = 64
 words : WordsOk s.1
 cpu : CpuOk s.2.1
 nl : s.2.2.1.length = w.P.length
 line : ∀ i, i < s.2.2.1.length → ((el LT s.2.2.1 i).length : Int) ≤ (el P5 w.P i).2.2.2.1
 stamps : ∀ l, l ∈ s.2.2.1 → Stamps l
 outs : s.2.2.2.length = 8
 outw : WordsOk s.2.2.2
def push (c : Int × List Int) (x : Int) : Int × List Int := (c.1, c.2 ++ [x])
abbrev Eff := Int × (Int × List Int) × List LineT × List Int
noncomputable def effM (w : World) (kind port num : Int) (c : Int × List Int) (Ls : List LineT) (O : List Int) : Eff :=
 if 8 < c.2.length + ansM kind then (4, c, Ls, O) else
 if kind = 13 then
  if port < (Ls.length : Int) ∧ (el P5 w.P port.toNat).2.1 = w.part then
   (0, push c (sendM (el P5 w.P port.toNat) (el LT Ls port.toNat) num w.time).2, Ls.set port.toNat (sendM (el P5 w.P port.toNat) (el LT Ls port.toNat) num w.time).1, O)
  else (7, c, Ls, O)
 else if kind = 14 then
  if port < (Ls.length : Int) ∧ (el P5 w.P port.toNat).2.2.1 = w.part then
   (0, push (push c ((takeM (el P5 w.P port.toNat) (el LT Ls port.toNat) w.time).2.1 % 65536)) (takeM (el P5 w.P port.toNat) (el LT Ls port.toNat) w.time).2.2, Ls.set port.toNat (takeM (el P5 w.P port.toNat) (el LT Ls port.toNat) w.time).1, O)
  else (7, c, Ls, O)
 else if kind = 15 then (0, push c (if port < (w.ins.length : Int) then el I1 w.ins port.toNat % 65536 else 0), Ls, O)
 else if kind = 16 then (0, c, Ls, O.set (2 * w.part - 2 + port % 2).toNat num)
 else (0, c, Ls, O)
def opAt (code : List (Int × Int)) (pc : Int) : Int := if pc < (code.length : Int) then (el C2 code pc.toNat).1 else 1
noncomputable def runK (w : World) : Nat → Int → RS → RS × Int × Int
 | 0, _, s => (s, 2, 0)
 | f + 1, left, s =>
  if left < costM (opAt w.code s.2.1.1) then (s, 2, 0) else
  if trapM s.2.1 w.code s.1 w.R = 0 then
   if opAt w.code s.2.1.1 = 0 then ((s.1, (0, []), s.2.2.1, s.2.2.2), 0, 0) else
   if (effM w (stepM s.2.1 w.code s.1 w.R w.time).2.2.1 (stepM s.2.1 w.code s.1 w.R w.time).2.2.2.1 (stepM s.2.1 w.code s.1 w.R w.time).2.2.2.2.1 (stepM s.2.1 w.code s.1 w.R w.time).1 s.2.2.1 s.2.2.2).1 = 0 then
    runK w f (left - costM (opAt w.code s.2.1.1)) ((stepM s.2.1 w.code s.1 w.R w.time).2.1, (effM w (stepM s.2.1 w.code s.1 w.R w.time).2.2.1 (stepM s.2.1 w.code s.1 w.R w.time).2.2.2.1 (stepM s.2.1 w.code s.1 w.R w.time).2.2.2.2.1 (stepM s.2.1 w.code s.1 w.R w.time).1 s.2.2.1 s.2.2.2).2)
   else (s, 1, (effM w (stepM s.2.1 w.code s.1 w.R w.time).2.2.1 (stepM s.2.1 w.code s.1 w.R w.time).2.2.2.1 (stepM s.2.1 w.code s.1 w.R w.time).2.2.2.2.1 (stepM s.2.1 w.code s.1 w.R w.time).1 s.2.2.1 s.2.2.2).1)
  else (s, 1, trapM s.2.1 w.code s.1 w.R)
/-! ### what a step asks -/
structure EffIn (a : List Int) (op : Int) (s : Step) : Prop where
 kind : s.2.2.1 = if 13 ≤ op ∧ op ≤ 16 then op else 0
 port : 0 ≤ s.2.2.2.1 ∧ s.2.2.2.1 ≤ 255
 num : Word s.2.2.2.2.1
 words : WordsOk a → WordsOk s.2.1
theorem words_set {a : List Int} {i : Nat} {x : Int} (h : WordsOk a) (hx : Word x) : WordsOk (a.set i x) := words_mem.2 fun y hy => by
 rcases List.mem_or_eq_of_mem_set hy with h' | h'
 ·exact words_mem.1 h y h'
 ·rw [h']
  exact hx
theorem word0 : Word 0 := by unfold Word; omega
theorem doX_eff {pc op g : Int} {S a : List Int} {r : Int × Int} {time : Int} (nt : NoTrap pc op g S a r) : EffIn a op (doX pc (op, g) S a r time) := by
 have hw := nt.words
 have htk := nt.tk
 have hg := nt.g0
 have h0 : (0 : Int) ≤ 0 ∧ (0 : Int) ≤ 255 := by omega
 have pl : ∀ {s : Step}, ¬ (13 ≤ op ∧ op ≤ 16) → s.2.2 = (0, 0, 0, 0) → s.2.1 = a → EffIn a op s := fun {s} h1 h2 h3 => ⟨by rw [h2, if_neg h1], by rw [h2]; exact h0, by rw [h2]; exact word0, by rw [h3]; exact fun h => h⟩
 unfold doX
 dsimp only
 by_cases o1 : op = 1
 ·rw [if_pos o1]; exact pl (by omega) rfl rfl
 rw [if_neg o1]
 by_cases o2 : op = 2
 ·rw [if_pos o2]; exact pl (by omega) rfl rfl
 rw [if_neg o2]
 by_cases o3 : op = 3
 ·subst o3
  simp only [takesM, Int.reduceEq, Int.reduceLE, or_self, and_self, ↓reduceIte] at htk
  rw [if_pos rfl]
  exact ⟨rfl, h0, word0, fun h => words_set h (top_w hw (by omega))⟩
 rw [if_neg o3]
 by_cases o4 : 4 ≤ op ∧ op ≤ 8
 ·rw [if_pos o4]; exact pl (by omega) rfl rfl
 rw [if_neg o4]
 by_cases o9 : op = 9
 ·rw [if_pos o9]; exact pl (by omega) rfl rfl
 rw [if_neg o9]
 by_cases o10 : op = 10
 ·rw [if_pos o10]; exact pl (by omega) rfl rfl
 rw [if_neg o10]
 by_cases o11 : op = 11
 ·rw [if_pos o11]; exact pl (by omega) rfl rfl
 rw [if_neg o11]
 by_cases o12 : op = 12
 ·rw [if_pos o12]; exact pl (by omega) rfl rfl
 rw [if_neg o12]
 by_cases o13 : op = 13 ∨ op = 16
 ·have ht : takesM op = 1 := by
   unfold takesM
   rw [if_pos (by omega)]
  rw [if_pos o13]
  exact ⟨by rw [if_pos (by omega)], hg, top_w hw (by omega), fun h => h⟩
 rw [if_neg o13]
 by_cases o14 : op = 14 ∨ op = 15
 ·rw [if_pos o14]
  exact ⟨by rw [if_pos (by omega)], hg, word0, fun h => h⟩
 rw [if_neg o14]
 by_cases o17 : op = 17
 ·rw [if_pos o17]; exact pl (by omega) rfl rfl
 rw [if_neg o17]
 exact pl (by omega) rfl rfl
theorem step_eff {c : Int × List Int} {code : List (Int × Int)} {a : List Int} {r : Int × Int} {time : Int} (h : trapM c code a r = 0) : EffIn a (el C2 code c.1.toNat).1 (stepM c code a r time) := by
 have nt := (trap0 h).2.2.2
 unfold stepM
 rw [if_pos h]
 exact doX_eff nt
theorem step_end {c : Int × List Int} {code : List (Int × Int)} {a : List Int} {r : Int × Int} {time : Int} (h : trapM c code a r = 0) (h0 : (el C2 code c.1.toNat).1 = 0) : stepM c code a r time = ((c.1 + 1, c.2), a, 0, 0, 0, 0) := by
 obtain ⟨op, g, hxe⟩ : ∃ op g : Int, el C2 code c.1.toNat = (op, g) := ⟨_, _, rfl⟩
 unfold stepM
 rw [if_pos h, hxe]
 rw [hxe] at h0
 simp only at h0
 subst h0
 unfold doX
 simp
theorem opAt_eq {c : Int × List Int} {code : List (Int × Int)} {a : List Int} {r : Int × Int} (h : trapM c code a r = 0) : opAt code c.1 = (el C2 code c.1.toNat).1 := by
 unfold opAt
 rw [if_pos (trap0 h).2.2.1]
/-! ### ports -/
theorem send_code {p : Port5} {l : LineT} {n t : Int} : Word (sendM p l n t).2 := by
 unfold sendM
 refine if_in (P := fun s : LineT × Int => Word s.2) (if_in (P := fun s : LineT × Int => Word s.2) ?_ (if_in (P := fun s : LineT × Int => Word s.2) ?_ ?_)) ?_ <;> (unfold Word; omega)
theorem take_code {p : Port5} {l : LineT} {t : Int} : Word (takeM p l t).2.2 := by
 unfold takeM
 refine if_in (P := fun s : LineT × Int × Int => Word s.2.2) (if_in (P := fun s : LineT × Int × Int => Word s.2.2) ?_ (if_in (P := fun s : LineT × Int × Int => Word s.2.2) ?_ ?_)) ?_ <;> (unfold Word; dsimp only; omega)
theorem port6 {p : Port5} (h : PortOk p) : p.2.2.2.1 ≤ 6 := by
 rcases h.kd with h | h <;> omega
def LineOk (p : Port5) (l : LineT) : Prop := (l.length : Int) ≤ p.2.2.2.1 ∧ Stamps l
theorem send_line {p : Port5} {l : LineT} {n t : Int} (h : LineOk p l) (hp : PortOk p) (ht : Number t) : LineOk p (sendM p l n t).1 := by
 have hm : (1 : Int) ≤ p.2.2.2.1 := by
  rcases hp.kd with h | h <;> omega
 have hs : -9223372036854775808 ≤ t ∧ t < 9223372036854775808 := by unfold Number at ht; omega
 unfold sendM
 refine if_in (P := fun s : LineT × Int => LineOk p s.1) (if_in (P := fun s : LineT × Int => LineOk p s.1) ⟨by simpa using hm, fun x hx => ?_⟩ ?_) h
 ·rw [List.mem_singleton.1 hx]
  exact hs
 ·by_cases hc : p.2.2.2.1 ≤ (l.length : Int)
  ·rw [if_pos hc]
   exact h
  ·rw [if_neg hc]
   refine ⟨by rw [List.length_append, List.length_cons, List.length_nil]; omega, fun x hx => ?_⟩
   rcases List.mem_append.1 hx with h' | h'
   ·exact h.2 x h'
   ·rw [List.mem_singleton.1 h']
    exact hs
theorem take_line {p : Port5} {l : LineT} {t : Int} (h : LineOk p l) : LineOk p (takeM p l t).1 := by
 have hd : LineOk p (l.drop 1) := ⟨by have := h.1; rw [List.length_drop]; omega, fun x hx => h.2 x (List.mem_of_mem_drop hx)⟩
 unfold takeM
 exact if_in (P := fun s : LineT × Int × Int => LineOk p s.1) (if_in (P := fun s : LineT × Int × Int => LineOk p s.1) hd (if_in (P := fun s : LineT × Int × Int => LineOk p s.1) h h)) h
theorem pushW {c : Int × List Int} {x : Int} (h : CpuOk c) (hl : c.2.length < 8) (hx : Word x) : CpuOk (push c x) := ⟨h.1, by unfold push; rw [List.length_append, List.length_cons, List.length_nil]; omega, words_app h.2.2 hx⟩
theorem push_len {c : Int × List Int} {x : Int} : (push c x).2.length = c.2.length + 1 := by unfold push; rw [List.length_append, List.length_cons, List.length_nil]
theorem RunOk.at {w : World} {s : RS} (h : RunOk w s) {i : Nat} (hi : i < s.2.2.1.length) : LineOk (el P5 w.P i) (el LT s.2.2.1 i) := ⟨h.line i hi, h.stamps _ (el_mem (t := LT) hi)⟩
theorem RunOk.setL {w : World} {s : RS} (h : RunOk w s) {i : Nat} {l : LineT} (hl : LineOk (el P5 w.P i) l) {A : List Int} {c : Int × List Int} (hA : A.length = 64) (hAw : WordsOk A) (hc : CpuOk c) : RunOk w (A, c, s.2.2.1.set i l, s.2.2.2) := by
 refine ⟨hA, hAw, hc, by dsimp only; rw [List.length_set]; exact h.nl, fun j hj => ?_, fun m hm => ?_, h.outs, h.outw⟩
 ·dsimp only at hj ⊢
  rw [List.length_set] at hj
  by_cases hij : i = j
  ·subst hij
   rw [el_set_self (t := LT) hj]
   exact hl.1
  ·rw [el_set_ne (t := LT) hij]
   exact h.line j hj
 ·rcases List.mem_or_eq_of_mem_set hm with h' | h'
  ·exact h.stamps m h'
  ·rw [h']
   exact hl.2
theorem RunOk.setC {w : World} {s : RS} (h : RunOk w s) {A : List Int} {c : Int × List Int} (hA : A.length = 64) (hAw : WordsOk A) (hc : CpuOk c) : RunOk w (A, c, s.2.2.1, s.2.2.2) := ⟨hA, hAw, hc, h.nl, h.line, h.stamps, h.outs, h.outw⟩
theorem eff_ok {w : World} {s : RS} {A : List Int} {c : Int × List Int} {kind port num : Int} (hw : WorldOk w) (h : RunOk w s) (hA : A.length = 64) (hAw : WordsOk A) (hc : CpuOk c) (hp : 0 ≤ port) (hn : Word num) : RunOk w (A, (effM w kind port num c s.2.2.1 s.2.2.2).2) := by
 have same : RunOk w (A, c, s.2.2.1, s.2.2.2) := h.setC hA hAw hc
 unfold effM
 by_cases h8 : 8 < c.2.length + ansM kind
 ·rw [if_pos h8]; exact same
 rw [if_neg h8]
 by_cases k13 : kind = 13
 ·subst k13
  rw [if_pos rfl]
  by_cases hq : port < (s.2.2.1.length : Int) ∧ (el P5 w.P port.toNat).2.1 = w.part
  ·rw [if_pos hq]
   have hi : port.toNat < s.2.2.1.length := by omega
   have hpo := hw.ports.1 port.toNat (by have := h.nl; omega)
   exact h.setL (send_line (h.at hi) hpo hw.time) hA hAw (pushW hc (by simp [ansM] at h8; omega) send_code)
  ·rw [if_neg hq]; exact same
 rw [if_neg k13]
 by_cases k14 : kind = 14
 ·subst k14
  rw [if_pos rfl]
  by_cases hq : port < (s.2.2.1.length : Int) ∧ (el P5 w.P port.toNat).2.2.1 = w.part
  ·rw [if_pos hq]
   have hi : port.toNat < s.2.2.1.length := by omega
   simp [ansM] at h8
   exact h.setL (take_line (h.at hi)) hA hAw (pushW (pushW hc (by omega) (word_emod _)) (by rw [push_len]; omega) take_code)
  ·rw [if_neg hq]; exact same
 rw [if_neg k14]
 by_cases k15 : kind = 15
 ·subst k15
  rw [if_pos rfl]
  simp [ansM] at h8
  exact h.setC hA hAw (pushW hc (by omega) (if_in (P := Word) (word_emod _) word0))
 rw [if_neg k15]
 by_cases k16 : kind = 16
 ·rw [if_pos k16]
  exact ⟨hA, hAw, hc, h.nl, h.line, h.stamps, by dsimp only; rw [List.length_set]; exact h.outs, words_set h.outw hn⟩
 rw [if_neg k16]
 exact same
theorem eff_trap {w : World} {kind port num : Int} {c : Int × List Int} {Ls : List LineT} {O : List Int} (h : (effM w kind port num c Ls O).1 ≠ 0) : (effM w kind port num c Ls O).2.2 = (Ls, O) := by
 unfold effM at h ⊢
 split
 ·rfl
 rename_i g1
 rw [if_neg g1] at h
 split
 ·rename_i g2
  rw [if_pos g2] at h
  split
  ·rename_i g3
   rw [if_pos g3] at h
   exact absurd rfl h
  ·rfl
 rename_i g2
 rw [if_neg g2] at h
 split
 ·rename_i g3
  rw [if_pos g3] at h
  split
  ·rename_i g4
   rw [if_pos g4] at h
   exact absurd rfl h
  ·rfl
 rename_i g3
 rw [if_neg g3] at h
 split
 ·rfl
 rename_i g4
 rw [if_neg g4] at h
 split
 ·rename_i g5
  rw [if_pos g5] at h
  exact absurd rfl h
 ·rfl
/-- A round of a run leaves all right. -/
theorem round_ok {w : World} {s : RS} (hw : WorldOk w) (h : RunOk w s) (ht : trapM s.2.1 w.code s.1 w.R = 0) : RunOk w ((stepM s.2.1 w.code s.1 w.R w.time).2.1, (effM w (stepM s.2.1 w.code s.1 w.R w.time).2.2.1 (stepM s.2.1 w.code s.1 w.R w.time).2.2.2.1 (stepM s.2.1 w.code s.1 w.R w.time).2.2.2.2.1 (stepM s.2.1 w.code s.1 w.R w.time).1 s.2.2.1 s.2.2.2).2) := by
 have he := step_eff (time := w.time) ht
 have ho := step_ok (time := w.time) ht
 have hl := (step_len (c := s.2.1) (code := w.code) (a := s.1) (r := w.R) (time := w.time)).2.1
 exact eff_ok hw h (by rw [hl]; exact h.cells) (he.words h.words) ho.1 he.port.1 he.num
theorem runK_ok {w : World} (hw : WorldOk w) : ∀ (f : Nat) (left : Int) (s : RS), RunOk w s → RunOk w (runK w f left s).1
 | 0, left, s, h => h
 | f + 1, left, s, h => by
  rw [runK]
  by_cases h1 : left < costM (opAt w.code s.2.1.1)
  ·rw [if_pos h1]; exact h
  rw [if_neg h1]
  by_cases ht : trapM s.2.1 w.code s.1 w.R = 0
  ·rw [if_pos ht]
   by_cases h0 : opAt w.code s.2.1.1 = 0
   ·rw [if_pos h0]
    exact h.setC h.cells h.words cpu0
   rw [if_neg h0]
   split
   ·exact runK_ok hw f _ _ (round_ok hw h ht)
   ·exact h
  ·rw [if_neg ht]; exact h
/-! ### the kernel behind a run -/
/-- The part's machine, and how often it came to its end. -/
def setP (Ps : List PartT) (i : Nat) (c : Int × List Int) (e : Int) : List PartT := Ps.set i ((el PT Ps i).1, c, (el PT Ps i).2.2.1, e, (el PT Ps i).2.2.2.2)
theorem setP_at {Ps : List PartT} {i : Nat} {c : Int × List Int} {e : Int} (h : i < Ps.length) : el PT (setP Ps i c e) i = ((el PT Ps i).1, c, (el PT Ps i).2.2.1, e, (el PT Ps i).2.2.2.2) := el_set_self (t := PT) h
theorem setP_set {Ps : List PartT} {i : Nat} {c : Int × List Int} {e : Int} {x : PartT} : (setP Ps i c e).set i x = Ps.set i x := List.set_set ..
theorem setP_len {Ps : List PartT} {i : Nat} {c : Int × List Int} {e : Int} : (setP Ps i c e).length = Ps.length := List.length_set ..
theorem setP_same {Ps : List PartT} {i : Nat} (h : i < Ps.length) : setP Ps i (el PT Ps i).2.1 (el PT Ps i).2.2.2.1 = Ps := by
 unfold setP
 have e : ((el PT Ps i).1, (el PT Ps i).2.1, (el PT Ps i).2.2.1, (el PT Ps i).2.2.2.1, (el PT Ps i).2.2.2.2) = el PT Ps i := rfl
 rw [e]
 have := el_lt (t := PT) h
 refine List.ext_getElem? fun j => ?_
 rw [List.getElem?_set]
 split
 ·rename_i hij
  subst hij
  exact this.symm
 ·rfl
def worldOf (K : Kernel) (part : Int) (ins : List Int) : World := ⟨K.1.2.2.1, el W2 K.1.1 (part - 1).toNat, insOf (el .str K.1.2.2.2.2 (part - 1).toNat) ((el .str K.1.2.2.2.2 (part - 1).toNat).size / 2), part, K.2.2.2.2.2.1, ins⟩
noncomputable def runOf (K : Kernel) (part budget : Int) (ins : List Int) : RS × Int × Int := runK (worldOf K part ins) 1001 (min budget 1000) (K.2.1, (el PT K.2.2.1 (part - 1).toNat).2.1, K.2.2.2.1, K.2.2.2.2.1)
def endsOf (K : Kernel) (part : Int) (how : Int) : Int := if how = 0 then (el PT K.2.2.1 (part - 1).toNat).2.2.2.1 + 1 else (el PT K.2.2.1 (part - 1).toNat).2.2.2.1
noncomputable def afterRun (K : Kernel) (part budget : Int) (ins : List Int) : Kernel :=
 (K.1, (runOf K part budget ins).1.1, setP K.2.2.1 (part - 1).toNat (runOf K part budget ins).1.2.1 (endsOf K part (runOf K part budget ins).2.1), (runOf K part budget ins).1.2.2.1, (runOf K part budget ins).1.2.2.2, K.2.2.2.2.2)
def StampsK (K : Kernel) : Prop := ∀ l, l ∈ K.2.2.2.1 → Stamps l
theorem fault_parts {s : Setup} (h : faultM s = 0) : RegionsOk s.1 ∧ PlanOk s.2.1 ∧ PortsOk s.2.2.1 ∧ RulesOk s.2.2.2.1 ∧ CodesOk s.2.2.2.2 (s.1.length : Int) ∧ PartsOk s := by
 unfold faultM at h
 split at h
 ·exact absurd h (by omega)
 split at h
 ·exact absurd h (by omega)
 split at h
 ·exact absurd h (by omega)
 split at h
 ·exact absurd h (by omega)
 split at h
 ·exact absurd h (by omega)
 split at h
 ·exact absurd h (by omega)
 rename_i a b c d e f
 exact ⟨B_iff.1 (Classical.not_not.1 a), B_iff.1 (Classical.not_not.1 b), B_iff.1 (Classical.not_not.1 c), B_iff.1 (Classical.not_not.1 d), B_iff.1 (Classical.not_not.1 e), B_iff.1 (Classical.not_not.1 f)⟩
structure InPart (K : Kernel) (part : Int) : Prop where
 lo : 1 ≤ part
 hi : part ≤ (K.2.2.1.length : Int)
theorem worldOk_of {K : Kernel} {part : Int} {ins : List Int} (h : KernelOk K) (hp : InPart K part) : WorldOk (worldOf K part ins) := by
 obtain ⟨f1, f2, f3, f4, f5, f6⟩ := fault_parts h.fault
 have h1 := hp.lo
 have h2 := hp.hi
 have h3 := h.parts
 have h4 := f1.2.2
 have h5 := f5.2
 refine ⟨f3, ?_, (f1.1 (part - 1).toNat (by omega)).1, by show 1 ≤ part ∧ part ≤ 4; omega, h.turn⟩
 have := (f5.1 (part - 1).toNat (by omega)).2
 show (insOf _ _).length ≤ 60
 rw [insOf_len]
 omega
theorem runOk_of {K : Kernel} {part : Int} {ins : List Int} (h : KernelOk K) (hs : StampsK K) (hp : InPart K part) : RunOk (worldOf K part ins) (K.2.1, (el PT K.2.2.1 (part - 1).toNat).2.1, K.2.2.2.1, K.2.2.2.2.1) := by
 have h1 := hp.lo
 have h2 := hp.hi
 exact ⟨h.cells, h.words, (h.part (part - 1).toNat (by omega)).cpu, h.lines, h.line, hs, h.outs, h.outw⟩
end Go.Proofs.YtacpibmmodeacaaGreat.Pure
/- What is done when something goes wrong. No condition. -/
namespace Go.Proofs.YtacpibmmodeacaaGreat.Pure
open Go Go.Proofs.YtacpibmmodeacaaGreatA Go.Proofs.YtacpibmmodeacaaGreatU Go.Proofs.YtacpibmmodeacaaGreat.QA
set_option linter.unusedVariables false
/-- The act of the first rule that fits. -/
def firstAct (L : List (Int × Int × Int)) (p f a : Int) : Int :=
 match L with
 | [] => a
 | r :: L => if Fits r p f then r.2.2 else firstAct L p f a
def lastAct (a starts : Int) : Int := if (a = 1 ∨ a = 2) ∧ 3 ≤ starts then 3 else a
def actM (L : List (Int × Int × Int)) (p f starts : Int) : Int := lastAct (firstAct L p f (if f = 1 then 3 else 0)) starts
theorem firstAct_drop {L : List (Int × Int × Int)} {p f a : Int} {i : Nat} (hi : i < L.length) : firstAct (L.drop i) p f a = if Fits (el R3 L i) p f then (el R3 L i).2.2 else firstAct (L.drop (i + 1)) p f a := by
 have h : L.drop i = el R3 L i :: L.drop (i + 1) := by
  rw [List.drop_eq_getElem_cons hi, el_at (t := R3) (List.getElem?_eq_getElem hi)]
 rw [h]
 rfl
theorem last_eq {a st : Int} : (if a = 1 then (if 3 ≤ st then some 3 else some a) else (if a = 2 then (if 3 ≤ st then some 3 else some a) else some a)) = some (lastAct a st) := by
 unfold lastAct
 by_cases h1 : a = 1
 ·subst h1
  by_cases h3 : 3 ≤ st <;> simp [h3]
 ·by_cases h2 : a = 2
  ·subst h2
   by_cases h3 : 3 ≤ st <;> simp [h3]
  ·simp [h1, h2]
theorem actFor_s {k : Nat} {L : List (Int × Int × Int)} {p f st : Int} (hl : L.length ≤ 1048576) (hk : 1048576 < k) : spec_ActFor.f k L p f st = some (actM L p f st) := by
 have hj : ∀ a, spec_ActFor.j1 k (p, f, st, a, L, ()) = some (lastAct (firstAct L p f a) st) := fun a => by
  have h1 : w64 ((L.length : Int) - 1) = (L.length : Int) - 1 := w64_id (by omega) (by omega)
  refine ok_eq ?_
  show Ok (spec_ActFor.l2 k k (p, f, st, a, w64 ((L.length : Int) - 1), L, ())) _
  rw [h1]
  refine ok_loop (L := spec_ActFor.l2 k) (I := fun d s => s = (p, f, st, firstAct (L.drop d) p f a, (d : Int) - 1, L, ()) ∧ d ≤ L.length) ?_ k L.length _ (by omega) ⟨by rw [List.drop_length]; rfl, Nat.le_refl _⟩
  rintro d n s ⟨rfl, hd⟩ ih
  rw [spec_ActFor.l2]
  cases d with
  | zero =>
   rw [if_neg (by omega), List.drop_zero]
   rw [last_eq]
   exact ok_some rfl
  | succ d =>
   have e : (((d + 1 : Nat) : Int) - 1) = (d : Int) := by omega
   have e2 : w64 ((d : Int) - 1) = (d : Int) - 1 := w64_id (by omega) (by omega)
   rw [e, e2]
   have c0 : (0 : Int) ≤ (d : Int) := by omega
   have c1 : (d : Int) < (L.length : Int) := by omega
   simp only [c0, c1, ↓reduceIte, Int.toNat_natCast]
   have go := ih d _ (by omega) ⟨rfl, by omega⟩
   rw [firstAct_drop (by omega)] at go
   by_cases f1 : (el R3 L d).1 = p
   ·by_cases f2 : (el R3 L d).2.1 = f
    ·rw [if_pos (show Fits (el R3 L d) p f from ⟨f1, f2⟩)] at go
     rw [if_pos f1, if_pos f2]
     exact go
    ·rw [if_neg (show ¬ Fits (el R3 L d) p f from fun h => f2 h.2)] at go
     rw [if_pos f1, if_neg f2]
     exact go
   ·rw [if_neg (show ¬ Fits (el R3 L d) p f from fun h => f1 h.1)] at go
    rw [if_neg f1]
    exact go
 unfold spec_ActFor.f actM
 by_cases h : f = 1
 ·rw [if_pos h, if_pos h, hj]
 ·rw [if_neg h, if_neg h, hj]
end Go.Proofs.YtacpibmmodeacaaGreat.Pure
/- Turns of a kernel. No condition. -/
namespace Go.Proofs.YtacpibmmodeacaaGreat.Pure
open Go Go.Proofs.YtacpibmmodeacaaGreatA Go.Proofs.YtacpibmmodeacaaGreatU Go.Proofs.YtacpibmmodeacaaGreat.QA
set_option linter.unusedVariables false
set_option linter.unusedSimpArgs false
/-- The cells of a region, so many of them, are 0. -/
def clr (r : Int × Int) : Nat → List Int → List Int
 | 0, A => A
 | j + 1, A => (clr r j A).set (r.1 + (j : Int)).toNat 0
theorem clr_len (r : Int × Int) (A : List Int) : ∀ j, (clr r j A).length = A.length
 | 0 => rfl
 | j + 1 => by rw [clr, List.length_set, clr_len r A j]
theorem clr_words {r : Int × Int} {A : List Int} (h : WordsOk A) : ∀ j, WordsOk (clr r j A)
 | 0 => h
 | j + 1 => by
  rw [clr]
  exact words_set (clr_words h j) word0
def clearM (A : List Int) (r : Int × Int) : List Int := clr r r.2.toNat A
def restP (p : PartT) : PartT := (p.1, (0, []), p.2.2.1 + 1, p.2.2.2.1, p.2.2.2.2)
def lateP (p : PartT) : PartT := (p.1, p.2.1, p.2.2.1, p.2.2.2.1, p.2.2.2.2 + 1)
def actK (K : Kernel) (part act : Int) : Kernel :=
 if act = 2 then (K.1, clearM K.2.1 (el W2 K.1.1 (part - 1).toNat), K.2.2.1.set (part - 1).toNat (restP (el PT K.2.2.1 (part - 1).toNat)), K.2.2.2)
 else if act = 1 then (K.1, K.2.1, K.2.2.1.set (part - 1).toNat (restP (el PT K.2.2.1 (part - 1).toNat)), K.2.2.2)
 else if act = 3 then (K.1, K.2.1, K.2.2.1.set (part - 1).toNat (1, (el PT K.2.2.1 (part - 1).toNat).2), K.2.2.2.1, (K.2.2.2.2.1.set (2 * part - 2).toNat 0).set (2 * part - 1).toNat 0, K.2.2.2.2.2)
 else if act = 4 then (K.1, K.2.1, K.2.2.1, K.2.2.2.1, List.replicate 8 0, K.2.2.2.2.2.1, true, K.2.2.2.2.2.2.2)
 else K
def logM (G : List Port5) (e : Port5) : List Port5 := (G ++ [e]).drop (G.length + 1 - 40)
def tick (K : Kernel) : Kernel := (K.1, K.2.1, K.2.2.1, K.2.2.2.1, K.2.2.2.2.1, K.2.2.2.2.2.1 + 1, K.2.2.2.2.2.2)
def lateK (K : Kernel) (part how : Int) : Kernel := if how = 2 then (K.1, K.2.1, K.2.2.1.set (part - 1).toNat (lateP (el PT K.2.2.1 (part - 1).toNat)), K.2.2.2) else K
def logK (K : Kernel) (e : Port5) : Kernel := (K.1, K.2.1, K.2.2.1, K.2.2.2.1, K.2.2.2.2.1, K.2.2.2.2.2.1, K.2.2.2.2.2.2.1, logM K.2.2.2.2.2.2.2 e)
def actOf (K : Kernel) (part how : Int) : Int := actM K.1.2.2.2.1 part how (el PT K.2.2.1 (part - 1).toNat).2.2.1
/-- What is done behind a run that was not over by its end. -/
def failK (K : Kernel) (time part how trap : Int) : Kernel :=
 actK (logK (lateK K part how) (time, part, how, trap, actOf (lateK K part how) part how)) part (actOf (lateK K part how) part how)
def winOf (K : Kernel) : Int × Int := el W2 K.1.2.1 (K.2.2.2.2.2.1.toNat % K.1.2.1.length)
noncomputable def runTurn (K : Kernel) (ins : List Int) : Kernel :=
 if (runOf K (winOf K).1 (winOf K).2 ins).2.1 = 0 then tick (afterRun K (winOf K).1 (winOf K).2 ins)
 else failK (tick (afterRun K (winOf K).1 (winOf K).2 ins)) K.2.2.2.2.2.1 (winOf K).1 (runOf K (winOf K).1 (winOf K).2 ins).2.1 (runOf K (winOf K).1 (winOf K).2 ins).2.2
noncomputable def turnK (K : Kernel) (ins : List Int) : Kernel :=
 if B (KernelOk K) = true ∧ ¬ K.2.2.2.2.2.1 = 1000000000 then
  if K.2.2.2.2.2.2.1 = true ∨ (el PT K.2.2.1 ((winOf K).1 - 1).toNat).1 = 1 then tick K else runTurn K ins
 else K
theorem win_in {K : Kernel} (h : KernelOk K) : InPart K (winOf K).1 ∧ 1 ≤ (winOf K).2 ∧ (winOf K).2 ≤ 200 := by
 obtain ⟨f1, f2, f3, f4, f5, f6⟩ := fault_parts h.fault
 have h1 := f2.2.1
 have hi : K.2.2.2.2.2.1.toNat % K.1.2.1.length < K.1.2.1.length := Nat.mod_lt _ (by omega)
 have h2 := f2.1 _ hi
 have h3 := f6.wins _ hi
 have h4 := h.parts
 exact ⟨⟨h2.1.1, by rw [h4]; exact h3⟩, h2.2.1, h2.2.2⟩
/-! ### what stays right -/
def Few (n : Int) (p : PartT) : Prop := p.2.2.1 ≤ n ∧ p.2.2.2.1 ≤ n ∧ p.2.2.2.2 ≤ n
/-- A kernel that is right and of which nothing has been counted more than so often. -/
structure Good (n : Int) (K : Kernel) : Prop where
 ok : KernelOk K
 st : StampsK K
 few : ∀ i, i < K.2.2.1.length → Few n (el PT K.2.2.1 i)
 log : K.2.2.2.2.2.2.2.length ≤ 40
theorem Good.small {n : Int} {K : Kernel} (h : Good n K) : SmallK K := by
 obtain ⟨f1, f2, f3, f4, f5, f6⟩ := fault_parts h.ok.fault
 have h1 := f1.2.2
 have h2 := h.ok.parts
 have h3 := h.ok.lines
 have h4 := f5.2
 have h5 := f2.2.2
 have h6 := f3.2
 have h7 := f4.2
 refine ⟨⟨by omega, by omega, by omega, by omega, by omega⟩, by have := h.ok.cells; omega, by omega, fun p hp => ?_, by omega, fun l hl => ?_, by have := h.ok.outs; omega, by have := h.log; omega⟩
 ·obtain ⟨i, hi, rfl⟩ := List.mem_iff_getElem.1 hp
  have := (h.ok.part i hi).cpu.2.1
  rw [el_at (t := PT) (List.getElem?_eq_getElem hi)] at this
  omega
 ·obtain ⟨i, hi, rfl⟩ := List.mem_iff_getElem.1 hl
  have h8 := h.ok.line i hi
  have hpo := f3.1 i (by omega)
  rw [el_at (t := LT) (List.getElem?_eq_getElem hi)] at h8
  have h9 := port6 hpo
  have h10 : ((K.2.2.2.1[i] : LineT).length : Int) ≤ 6 := Int.le_trans h8 h9
  omega
theorem Good.up {n m : Int} {K : Kernel} (h : Good n K) (hm : n ≤ m) : Good m K := ⟨h.ok, h.st, fun i hi => by
 obtain ⟨a, b, c⟩ := h.few i hi
 exact ⟨by omega, by omega, by omega⟩, h.log⟩
theorem rest_ok {n : Int} {p : PartT} (hp : PartOk p) (hf : Few n p) (hs : p.2.2.1 < n) (hn : n < 1000000000) : PartOk (restP p) ∧ Few n (restP p) := by
 obtain ⟨a, b, c, d, e⟩ := hp
 obtain ⟨f1, f2, f3⟩ := hf
 unfold Number at c d e
 exact ⟨⟨a, cpu0, by unfold Number restP; dsimp only; omega, by unfold Number restP; dsimp only; omega, by unfold Number restP; dsimp only; omega⟩, by unfold restP; dsimp only; omega, by unfold restP; dsimp only; omega, by unfold restP; dsimp only; omega⟩
theorem latep_ok {n : Int} {p : PartT} (hp : PartOk p) (hf : Few n p) (hs : p.2.2.2.2 < n) (hn : n < 1000000000) : PartOk (lateP p) ∧ Few n (lateP p) := by
 obtain ⟨a, b, c, d, e⟩ := hp
 obtain ⟨f1, f2, f3⟩ := hf
 unfold Number at c d e
 exact ⟨⟨a, b, by unfold Number lateP; dsimp only; omega, by unfold Number lateP; dsimp only; omega, by unfold Number lateP; dsimp only; omega⟩, by unfold lateP; dsimp only; omega, by unfold lateP; dsimp only; omega, by unfold lateP; dsimp only; omega⟩
theorem ends_ok {n : Int} {p : PartT} {c : Int × List Int} {how : Int} (hp : PartOk p) (hf : Few n p) (hc : CpuOk c) (hn : n < 1000000000) : PartOk (p.1, c, p.2.2.1, if how = 0 then p.2.2.2.1 + 1 else p.2.2.2.1, p.2.2.2.2) ∧ Few (n + 1) (p.1, c, p.2.2.1, if how = 0 then p.2.2.2.1 + 1 else p.2.2.2.1, p.2.2.2.2) := by
 obtain ⟨a, b, x, d, e⟩ := hp
 obtain ⟨f1, f2, f3⟩ := hf
 unfold Number at x d e
 exact ⟨⟨a, hc, by unfold Number; dsimp only; omega, by unfold Number; dsimp only; split <;> omega, by unfold Number; dsimp only; omega⟩, by dsimp only; omega, by dsimp only; split <;> omega, by dsimp only; omega⟩
/-- Another part in its place. -/
theorem Good.part {n : Int} {K : Kernel} (h : Good n K) {i : Nat} {p : PartT} (hp : PartOk p) (hf : Few n p) : Good n (K.1, K.2.1, K.2.2.1.set i p, K.2.2.2) := by
 have hq : ∀ j, j < K.2.2.1.length → PartOk (el PT (K.2.2.1.set i p) j) ∧ Few n (el PT (K.2.2.1.set i p) j) := fun j hj => by
  by_cases hij : i = j
  ·subst hij
   rw [el_set_self (t := PT) hj]
   exact ⟨hp, hf⟩
  ·rw [el_set_ne (t := PT) hij]
   exact ⟨h.ok.part j hj, h.few j hj⟩
 have hl : (K.2.2.1.set i p).length = K.2.2.1.length := List.length_set ..
 exact ⟨⟨h.ok.fault, h.ok.cells, h.ok.words, hl.trans h.ok.parts, h.ok.lines, fun j hj => (hq j (by rw [← hl]; exact hj)).1, h.ok.line, h.ok.outs, h.ok.outw, h.ok.turn⟩, h.st, fun j hj => (hq j (by rw [← hl]; exact hj)).2, h.log⟩
theorem Good.cells {n : Int} {K : Kernel} (h : Good n K) {A : List Int} (hA : A.length = 64) (hw : WordsOk A) : Good n (K.1, A, K.2.2) := ⟨⟨h.ok.fault, hA, hw, h.ok.parts, h.ok.lines, h.ok.part, h.ok.line, h.ok.outs, h.ok.outw, h.ok.turn⟩, h.st, h.few, h.log⟩
theorem Good.outs {n : Int} {K : Kernel} (h : Good n K) {O : List Int} (hO : O.length = 8) (hw : WordsOk O) {D : Bool} : Good n (K.1, K.2.1, K.2.2.1, K.2.2.2.1, O, K.2.2.2.2.2.1, D, K.2.2.2.2.2.2.2) := ⟨⟨h.ok.fault, h.ok.cells, h.ok.words, h.ok.parts, h.ok.lines, h.ok.part, h.ok.line, hO, hw, h.ok.turn⟩, h.st, h.few, h.log⟩
theorem Good.turn {n : Int} {K : Kernel} (h : Good n K) {T : Int} (hT : Number T) : Good n (K.1, K.2.1, K.2.2.1, K.2.2.2.1, K.2.2.2.2.1, T, K.2.2.2.2.2.2) := ⟨⟨h.ok.fault, h.ok.cells, h.ok.words, h.ok.parts, h.ok.lines, h.ok.part, h.ok.line, h.ok.outs, h.ok.outw, hT⟩, h.st, h.few, h.log⟩
theorem logM_len (G : List Port5) (e : Port5) : (logM G e).length ≤ 40 := by
 unfold logM
 rw [List.length_drop, List.length_append, List.length_cons, List.length_nil]
 omega
theorem Good.logged {n : Int} {K : Kernel} (h : Good n K) {e : Port5} : Good n (logK K e) := ⟨⟨h.ok.fault, h.ok.cells, h.ok.words, h.ok.parts, h.ok.lines, h.ok.part, h.ok.line, h.ok.outs, h.ok.outw, h.ok.turn⟩, h.st, h.few, logM_len ..⟩
theorem words_zero (m : Nat) : WordsOk (List.replicate m 0) := words_mem.2 fun x hx => by
 rw [List.eq_of_mem_replicate hx]
 exact word0
theorem act_good {n : Int} {K : Kernel} {part act : Int} (h : Good n K) (hn : n < 1000000000) (hp : InPart K part) (hs : (el PT K.2.2.1 (part - 1).toNat).2.2.1 < n) : Good n (actK K part act) := by
 have h1 := hp.lo
 have h2 := hp.hi
 have hi : (part - 1).toNat < K.2.2.1.length := by omega
 have hpo := h.ok.part _ hi
 obtain ⟨e1, e2, e3⟩ := h.few _ hi
 obtain ⟨hr, hfr⟩ := rest_ok hpo (h.few _ hi) hs hn
 unfold actK
 split
 ·exact (h.cells (A := clearM K.2.1 (el W2 K.1.1 (part - 1).toNat)) (by unfold clearM; rw [clr_len]; exact h.ok.cells) (clr_words h.ok.words _)).part hr hfr
 split
 ·exact h.part hr hfr
 split
 ·exact (h.part (i := (part - 1).toNat) (p := (1, (el PT K.2.2.1 (part - 1).toNat).2)) ⟨by dsimp only; omega, hpo.cpu, hpo.starts, hpo.ends, hpo.late⟩ ⟨e1, e2, e3⟩).outs (by rw [List.length_set, List.length_set]; exact h.ok.outs) (words_set (words_set h.ok.outw word0) word0)
 split
 ·exact h.outs (by simp) (words_zero 8)
 ·exact h
theorem runOf_ok {K : Kernel} {part budget : Int} {ins : List Int} (h : KernelOk K) (hs : StampsK K) (hp : InPart K part) : RunOk (worldOf K part ins) (runOf K part budget ins).1 := runK_ok (worldOk_of h hp) _ _ _ (runOk_of h hs hp)
theorem afterRun_good {n : Int} {K : Kernel} {part budget : Int} {ins : List Int} (h : Good n K) (hn : n < 1000000000) (hp : InPart K part) : Good (n + 1) (afterRun K part budget ins) := by
 have hr := runOf_ok (budget := budget) (ins := ins) h.ok h.st hp
 have h1 := hp.lo
 have h2 := hp.hi
 have hi : (part - 1).toNat < K.2.2.1.length := by omega
 have hpo := h.ok.part _ hi
 obtain ⟨e1, e2, e3⟩ := h.few _ hi
 have h0 : Good (n + 1) (K.1, (runOf K part budget ins).1.1, K.2.2.1, (runOf K part budget ins).1.2.2.1, (runOf K part budget ins).1.2.2.2, K.2.2.2.2.2) := by
  have hu := h.up (m := n + 1) (by omega)
  exact ⟨⟨h.ok.fault, hr.cells, hr.words, h.ok.parts, hr.nl, h.ok.part, hr.line, hr.outs, hr.outw, h.ok.turn⟩, hr.stamps, hu.few, h.log⟩
 obtain ⟨q1, q2⟩ := ends_ok (how := (runOf K part budget ins).2.1) hpo (h.few _ hi) hr.cpu hn
 exact h0.part (i := (part - 1).toNat) q1 q2
theorem tick_good {n : Int} {K : Kernel} (h : Good n K) (ht : K.2.2.2.2.2.1 < 1000000000) : Good n (tick K) := h.turn (by have := h.ok.turn; unfold Number at *; omega)
theorem late_good {n : Int} {K : Kernel} {part how : Int} (h : Good n K) (hn : n < 1000000000) (hp : InPart K part) (hl : (el PT K.2.2.1 (part - 1).toNat).2.2.2.2 < n) : Good n (lateK K part how) := by
 have h1 := hp.lo
 have h2 := hp.hi
 have hi : (part - 1).toNat < K.2.2.1.length := by omega
 have hpo := h.ok.part _ hi
 obtain ⟨e1, e2, e3⟩ := h.few _ hi
 obtain ⟨q1, q2⟩ := latep_ok hpo (h.few _ hi) hl hn
 unfold lateK
 split
 ·exact h.part q1 q2
 ·exact h
theorem late_same {K : Kernel} {part how : Int} (hp : InPart K part) : (el PT (lateK K part how).2.2.1 (part - 1).toNat).2.2.1 = (el PT K.2.2.1 (part - 1).toNat).2.2.1 ∧ InPart (lateK K part how) part := by
 have h1 := hp.lo
 have h2 := hp.hi
 have hi : (part - 1).toNat < K.2.2.1.length := by omega
 unfold lateK
 split
 ·dsimp only
  rw [el_set_self (t := PT) hi]
  exact ⟨rfl, ⟨h1, by dsimp only; rw [List.length_set]; exact h2⟩⟩
 ·exact ⟨rfl, hp⟩
theorem after_at {K : Kernel} {part budget : Int} {ins : List Int} (hp : InPart K part) : (el PT (afterRun K part budget ins).2.2.1 (part - 1).toNat) = ((el PT K.2.2.1 (part - 1).toNat).1, (runOf K part budget ins).1.2.1, (el PT K.2.2.1 (part - 1).toNat).2.2.1, endsOf K part (runOf K part budget ins).2.1, (el PT K.2.2.1 (part - 1).toNat).2.2.2.2) ∧ InPart (afterRun K part budget ins) part := by
 have h1 := hp.lo
 have h2 := hp.hi
 have hi : (part - 1).toNat < K.2.2.1.length := by omega
 exact ⟨setP_at hi, ⟨h1, by unfold afterRun; dsimp only; rw [setP_len]; exact h2⟩⟩
theorem turn_good {n : Int} {K : Kernel} {ins : List Int} (h : Good n K) (hn : n < 999999999) : Good (n + 1) (turnK K ins) := by
 unfold turnK
 by_cases hc : B (KernelOk K) = true ∧ ¬ K.2.2.2.2.2.1 = 1000000000
 ·have hT : K.2.2.2.2.2.1 < 1000000000 := by have := h.ok.turn; unfold Number at this; omega
  obtain ⟨hw, -, -⟩ := win_in h.ok
  rw [if_pos hc]
  split
  ·exact tick_good (h.up (by omega)) hT
  unfold runTurn
  have ha := afterRun_good (budget := (winOf K).2) (ins := ins) h (by omega) hw
  have hat : (afterRun K (winOf K).1 (winOf K).2 ins).2.2.2.2.2.1 < 1000000000 := hT
  obtain ⟨ap, ai⟩ := after_at (budget := (winOf K).2) (ins := ins) hw
  have h1 := hw.lo
  have h2 := hw.hi
  obtain ⟨e1, e2, e3⟩ := h.few ((winOf K).1 - 1).toNat (by omega)
  have hti : InPart (tick (afterRun K (winOf K).1 (winOf K).2 ins)) (winOf K).1 := ⟨ai.lo, ai.hi⟩
  split
  ·exact tick_good ha hat
  ·obtain ⟨l1, l2⟩ := late_same (how := (runOf K (winOf K).1 (winOf K).2 ins).2.1) hti
   have hlg := late_good (how := (runOf K (winOf K).1 (winOf K).2 ins).2.1) (tick_good ha hat) (by omega) hti (by
    show (el PT (afterRun K (winOf K).1 (winOf K).2 ins).2.2.1 ((winOf K).1 - 1).toNat).2.2.2.2 < n + 1
    rw [ap]
    exact Int.lt_add_one_of_le e3)
   refine act_good hlg.logged (by omega) ⟨l2.lo, l2.hi⟩ ?_
   show (el PT (lateK (tick (afterRun K (winOf K).1 (winOf K).2 ins)) (winOf K).1 (runOf K (winOf K).1 (winOf K).2 ins).2.1).2.2.1 ((winOf K).1 - 1).toNat).2.2.1 < n + 1
   rw [l1]
   show (el PT (afterRun K (winOf K).1 (winOf K).2 ins).2.2.1 ((winOf K).1 - 1).toNat).2.2.1 < n + 1
   rw [ap]
   exact Int.lt_add_one_of_le e1
 ·rw [if_neg hc]
  exact h.up (by omega)
theorem turn_turn {n : Int} {K : Kernel} {ins : List Int} (h : Good n K) (hT : K.2.2.2.2.2.1 < 1000000000) : (turnK K ins).2.2.2.2.2.1 = K.2.2.2.2.2.1 + 1 := by
 unfold turnK
 rw [if_pos ⟨B_yes h.ok, by omega⟩]
 split
 ·rfl
 unfold runTurn
 split
 ·rfl
 unfold failK actK
 have e : ∀ (K' : Kernel) (p w : Int), (lateK K' p w).2.2.2.2.2.1 = K'.2.2.2.2.2.1 := fun K' p w => by unfold lateK; split <;> rfl
 split
 ·exact e ..
 split
 ·exact e ..
 split
 ·exact e ..
 split
 ·exact e ..
 ·exact e ..
theorem turn_setup {K : Kernel} {ins : List Int} : (turnK K ins).1 = K.1 := by
 unfold turnK
 split
 ·split
  ·rfl
  unfold runTurn
  split
  ·rfl
  unfold failK actK
  have e : ∀ (K' : Kernel) (p w : Int), (lateK K' p w).1 = K'.1 := fun K' p w => by unfold lateK; split <;> rfl
  split
  ·exact e ..
  split
  ·exact e ..
  split
  ·exact e ..
  split
  ·exact e ..
  ·exact e ..
 ·rfl
/-! ### a new kernel -/
def newK (S : Setup) : Kernel := (S, List.replicate 64 0, List.replicate S.1.length (0, (0, []), 0, 0, 0), List.replicate S.2.2.1.length [], List.replicate 8 0, 0, false, [])
theorem el_rep {t : Ty} {m i : Nat} {x : den t} (h : i < m) : el t (List.replicate m x) i = x := el_at (by rw [List.getElem?_replicate, if_pos h])
theorem new_good {S : Setup} (h : faultM S = 0) : Good 0 (newK S) := by
 obtain ⟨f1, f2, f3, f4, f5, f6⟩ := fault_parts h
 have z : Number 0 := by unfold Number; omega
 refine ⟨⟨h, by simp [newK], words_zero 64, by simp [newK], by simp [newK], fun i hi => ?_, fun i hi => ?_, by simp [newK], words_zero 8, z⟩, fun l hl => ?_, fun i hi => ?_, by simp [newK]⟩
 ·have hi' : i < S.1.length := by simpa [newK] using hi
  rw [show (newK S).2.2.1 = List.replicate S.1.length (0, (0, []), 0, 0, 0) from rfl, el_rep (t := PT) hi']
  exact ⟨by dsimp only; omega, cpu0, z, z, z⟩
 ·have hi' : i < S.2.2.1.length := by simpa [newK] using hi
  rw [show (newK S).2.2.2.1 = List.replicate S.2.2.1.length [] from rfl, el_rep (t := LT) hi']
  have := f3.1 i hi'
  rcases this.kd with h | h <;> (show ((0 : Nat) : Int) ≤ (el P5 S.2.2.1 i).2.2.2.1; omega)
 ·have : l = [] := List.eq_of_mem_replicate hl
  rw [this]
  intro x hx
  cases hx
 ·have hi' : i < S.1.length := by simpa [newK] using hi
  rw [show (newK S).2.2.1 = List.replicate S.1.length (0, (0, []), 0, 0, 0) from rfl, el_rep (t := PT) hi']
  exact ⟨by dsimp only; omega, by dsimp only; omega, by dsimp only; omega⟩
end Go.Proofs.YtacpibmmodeacaaGreat.Pure
/- The program's runs of a part of a kernel. No condition. -/
namespace Go.Proofs.YtacpibmmodeacaaGreat.Pure
open Go Go.Proofs.YtacpibmmodeacaaGreatA Go.Proofs.YtacpibmmodeacaaGreatU Go.Proofs.YtacpibmmodeacaaGreat.QA
set_option linter.unusedVariables false
set_option linter.unusedSimpArgs false
theorem number_i64 {z : Int} (h : Number z) : -9223372036854775808 ≤ z ∧ z < 9223372036854775808 := by unfold Number at h; omega
theorem line_small {w : World} {s : RS} (hw : WorldOk w) (h : RunOk w s) {i : Nat} (hi : i < s.2.2.1.length) : (el LT s.2.2.1 i).length ≤ 6 := by
 have h1 := h.line i hi
 have h2 := port6 (hw.ports.1 i (by have := h.nl; omega))
 omega
theorem effect_i {k : Nat} {w : World} {s : RS} {R W : List (Int × Int)} {U : List (Int × Int × Int)} {C : List ByteArray} {A : List Int} {Ps : List PartT} {D : Bool} {G : List Port5} {c : Int × List Int} {kind port num tr : Int}
  (hw : WorldOk w) (h : RunOk w s) (hc : c.2.length ≤ 8) (hp : 0 ≤ port ∧ port ≤ 255) :
  impl_Kernel_effect.f k ((R, W, w.P, U, C), A, Ps, s.2.2.1, s.2.2.2, w.time, D, G) w.part c (kind, port, num, tr) w.ins = some ((effM w kind port num c s.2.2.1 s.2.2.2).1, ((R, W, w.P, U, C), A, Ps, (effM w kind port num c s.2.2.1 s.2.2.2).2.2.1, (effM w kind port num c s.2.2.1 s.2.2.2).2.2.2, w.time, D, G), (effM w kind port num c s.2.2.1 s.2.2.2).2.1) := by
 have hnl := h.nl
 have hal := ans_le kind
 have ho := h.outs
 have hpt := hw.part
 unfold impl_Kernel_effect.f effM
 simp only [ans_i, Option.bind_some]
 rw [w64_id (z := (c.2.length : Int) + (ansM kind : Int)) (by omega) (by omega)]
 by_cases h8 : 8 < c.2.length + ansM kind
 ·rw [if_pos (by omega), if_pos h8]
 rw [if_neg (by omega), if_neg h8]
 by_cases k13 : kind = 13
 ·rw [if_pos k13, if_pos k13]
  by_cases hlt : port < (s.2.2.1.length : Int)
  ·have hi : port.toNat < s.2.2.1.length := by omega
   have g1 : (0 : Int) ≤ port := hp.1
   have g2 : port < (w.P.length : Int) := by omega
   have hls := line_small hw h hi
   rw [if_neg (fun h => h hlt), if_pos g1, if_pos g2]
   by_cases he : (el P5 w.P port.toNat).2.1 = w.part
   ·rw [if_neg (fun h => h he), if_pos g1, if_pos g2, if_pos g1, if_pos hlt, if_pos ⟨hlt, he⟩]
    rw [send_i (p := el P5 w.P port.toNat) (l := el LT s.2.2.1 port.toNat) (by omega)]
    simp only [Option.bind_some]
    rw [if_pos g1, if_pos hlt, put_i (pc := c.1) (S := c.2) (by omega)]
    rfl
   ·rw [if_pos he, if_neg (fun h => he h.2)]
  ·rw [if_pos hlt, if_neg (fun h => hlt h.1)]
 rw [if_neg k13, if_neg k13]
 by_cases k14 : kind = 14
 ·rw [if_pos k14, if_pos k14]
  by_cases hlt : port < (s.2.2.1.length : Int)
  ·have hi : port.toNat < s.2.2.1.length := by omega
   have g1 : (0 : Int) ≤ port := hp.1
   have g2 : port < (w.P.length : Int) := by omega
   have hls := line_small hw h hi
   rw [if_neg (fun h => h hlt), if_pos g1, if_pos g2]
   by_cases he : (el P5 w.P port.toNat).2.2.1 = w.part
   ·rw [if_neg (fun h => h he), if_pos g1, if_pos g2, if_pos g1, if_pos hlt, if_pos ⟨hlt, he⟩]
    rw [take_i (p := el P5 w.P port.toNat) (l := el LT s.2.2.1 port.toNat) (by omega) (number_i64 hw.time) (h.stamps _ (el_mem (t := LT) hi))]
    simp only [Option.bind_some, mod_i]
    rw [if_pos g1, if_pos hlt, put_i (pc := c.1) (S := c.2) (by omega)]
    simp only [Option.bind_some]
    rw [put_i (pc := c.1) (by rw [List.length_append, List.length_cons, List.length_nil]; omega)]
    rfl
   ·rw [if_pos he, if_neg (fun h => he h.2)]
  ·rw [if_pos hlt, if_neg (fun h => hlt h.1)]
 rw [if_neg k14, if_neg k14]
 by_cases k15 : kind = 15
 ·rw [if_pos k15, if_pos k15]
  by_cases hlt : port < (w.ins.length : Int)
  ·rw [if_pos hlt, if_pos hp.1, if_pos hlt, if_pos hlt]
   simp only [Option.bind_some, mod_i]
   rw [put_i (pc := c.1) (S := c.2) (by omega)]
   rfl
  ·rw [if_neg hlt, if_neg hlt, put_i (pc := c.1) (S := c.2) (by omega)]
   rfl
 rw [if_neg k15, if_neg k15]
 by_cases k16 : kind = 16
 ·have e : w64 (w64 (w64 (2 * w.part) - 2) + Int.tmod port 2) = 2 * w.part - 2 + port % 2 := by
   rw [Int.tmod_eq_emod_of_nonneg hp.1, w64_id (z := 2 * w.part) (by omega) (by omega), w64_id (z := 2 * w.part - 2) (by omega) (by omega), w64_id (by omega) (by omega)]
  rw [if_pos k16, if_pos k16, e, if_pos (by omega), if_pos (by omega)]
 rw [if_neg k16, if_neg k16]
theorem run_loop {k : Nat} {w : World} {R W : List (Int × Int)} {U : List (Int × Int × Int)} {C : List ByteArray} {Ps : List PartT} {D : Bool} {G : List Port5} {i : Nat} {e0 : Int} {s0 : RS} {left0 : Int}
  (hk : 1048576 < k) (hw : WorldOk w) (hi : (i : Int) = w.part - 1) (hiP : i < Ps.length) (hR : w.R = el W2 R i) (hiR : i < R.length) (he : Number e0) (h : RunOk w s0) (hl : left0 ≤ 1000) :
  impl_Kernel_run.l1 k k (w.part, i, left0, w.time, D, R, W, w.P, U, C, s0.1, setP Ps i s0.2.1 e0, s0.2.2.1, s0.2.2.2, G, w.ins, w.code, ()) =
   some ((runK w 1001 left0 s0).2.1, (runK w 1001 left0 s0).2.2, (R, W, w.P, U, C), (runK w 1001 left0 s0).1.1, setP Ps i (runK w 1001 left0 s0).1.2.1 (if (runK w 1001 left0 s0).2.1 = 0 then e0 + 1 else e0), (runK w 1001 left0 s0).1.2.2.1, (runK w 1001 left0 s0).1.2.2.2, w.time, D, G) := by
 refine ok_eq ?_
 generalize hT : runK w 1001 left0 s0 = T
 have hcode := hw.code
 have hpt := hw.part
 have hreg := hw.reg
 have w0 : w64 (w.part - 1) = (i : Int) := by rw [w64_id (by omega) (by omega)]; omega
 refine ok_loop (L := impl_Kernel_run.l1 k) (I := fun d t => ∃ (left : Int) (s : RS), t = (w.part, i, left, w.time, D, R, W, w.P, U, C, s.1, setP Ps i s.2.1 e0, s.2.2.1, s.2.2.2, G, w.ins, w.code, ()) ∧ 1 ≤ d ∧ left < (d : Int) ∧ left ≤ 1000 ∧ RunOk w s ∧ runK w d left s = T) ?_ k 1001 _ (by omega) ⟨left0, s0, rfl, by omega, by omega, hl, h, hT⟩
 rintro d n t ⟨left, ⟨A, c, Ls, O⟩, rfl, hd1, hld, hl1, hr, he2⟩ ih
 obtain ⟨d, rfl⟩ : ∃ d', d = d' + 1 := ⟨d - 1, by omega⟩
 simp only at hr he2 ⊢
 rw [impl_Kernel_run.l1]
 simp only [show el (.pair (.int .i64) (.pair (.pair (.int .i64) (.sl 3 (.int .i64))) (.pair (.int .i64) (.pair (.int .i64) (.int .i64))))) (setP Ps i c e0) i = ((el PT Ps i).1, c, (el PT Ps i).2.2.1, e0, (el PT Ps i).2.2.2.2) from setP_at hiP]
 have hcpu := hr.cpu
 have h0 : 0 ≤ c.1 := hcpu.1.1
 have hS : c.2.length ≤ 8 := hcpu.2.1
 have hA := hr.cells
 simp only at hA hcpu
 have j2 : Ok (impl_Kernel_run.j2 k (impl_Kernel_run.l1 k n) (w.part, i, left, opAt w.code c.1, w.time, D, R, W, w.P, U, C, A, setP Ps i c e0, Ls, O, G, w.ins, w.code, ())) (fun r => r = (T.2.1, T.2.2, (R, W, w.P, U, C), T.1.1, setP Ps i T.1.2.1 (if T.2.1 = 0 then e0 + 1 else e0), T.1.2.2.1, T.1.2.2.2, w.time, D, G)) := by
  rw [impl_Kernel_run.j2]
  simp only [cost_i, Option.bind_some, show el (.pair (.int .i64) (.pair (.pair (.int .i64) (.sl 3 (.int .i64))) (.pair (.int .i64) (.pair (.int .i64) (.int .i64))))) (setP Ps i c e0) i = ((el PT Ps i).1, c, (el PT Ps i).2.2.1, e0, (el PT Ps i).2.2.2.2) from setP_at hiP]
  rw [runK] at he2
  simp only at he2
  have hco := cost_in (opAt w.code c.1)
  by_cases hm : left < costM (opAt w.code c.1)
  ·rw [if_pos hm]
   rw [if_pos hm] at he2
   rw [← he2]
   exact ok_some rfl
  rw [if_neg hm, w0, if_pos (by omega), if_pos (by omega)]
  rw [if_neg hm] at he2
  simp only [Int.toNat_natCast]
  have eR : el (.pair (.int .i64) (.int .i64)) R i = w.R := hR.symm
  rw [eR, step_i hk (by omega) (by omega) (by omega) (by have := hreg.2.2; unfold RegIn at hreg; omega)]
  simp only [Option.bind_some, step_trap]
  rw [w64_id (z := left - costM (opAt w.code c.1)) (by omega) (by omega)]
  by_cases ht : trapM c w.code A w.R = 0
  ·rw [if_pos ht]
   rw [if_pos ht] at he2
   have hso := (step_ok (time := w.time) ht).1
   have hse := step_eff (time := w.time) ht
   have hef := effect_i (k := k) (R := R) (W := W) (U := U) (C := C) (A := A) (Ps := setP Ps i c e0) (D := D) (G := G) (tr := (stepM c w.code A w.R w.time).2.2.2.2.2) (kind := (stepM c w.code A w.R w.time).2.2.1) (num := (stepM c w.code A w.R w.time).2.2.2.2.1) hw hr hso.2.1 hse.port
   simp only at hef
   rw [show ((stepM c w.code A w.R w.time).2.2.1, (stepM c w.code A w.R w.time).2.2.2.1, (stepM c w.code A w.R w.time).2.2.2.2.1, (stepM c w.code A w.R w.time).2.2.2.2.2) = (stepM c w.code A w.R w.time).2.2 from rfl] at hef
   rw [hef]
   have hro := round_ok hw hr ht
   simp only at hro
   have eo := opAt_eq ht
   simp only [Option.bind_some]
   rw [impl_Kernel_run.j3]
   simp only [setP_set, Option.bind_some]
   by_cases h0 : opAt w.code c.1 = 0
   ·rw [if_pos h0] at he2
    have h0' := h0
    rw [eo] at h0'
    have hen := step_end (time := w.time) ht h0'
    rw [hen]
    have ee : effM w 0 0 0 (c.1 + 1, c.2) Ls O = (0, (c.1 + 1, c.2), Ls, O) := by
     unfold effM
     simp [ansM]
     omega
    simp only [ee, h0, not_true_eq_false, ↓reduceIte]
    have g1 : el (.pair (.int .i64) (.pair (.pair (.int .i64) (.sl 3 (.int .i64))) (.pair (.int .i64) (.pair (.int .i64) (.int .i64))))) (Ps.set i ((el PT Ps i).1, (c.1 + 1, c.2), (el PT Ps i).2.2.1, e0, (el PT Ps i).2.2.2.2)) i = ((el PT Ps i).1, (c.1 + 1, c.2), (el PT Ps i).2.2.1, e0, (el PT Ps i).2.2.2.2) := el_set_self (t := PT) hiP
    simp only [setP_at hiP, g1, List.set_set]
    have g2 : el (.pair (.int .i64) (.pair (.pair (.int .i64) (.sl 3 (.int .i64))) (.pair (.int .i64) (.pair (.int .i64) (.int .i64))))) (Ps.set i ((el PT Ps i).1, (0, []), (el PT Ps i).2.2.1, e0, (el PT Ps i).2.2.2.2)) i = ((el PT Ps i).1, (0, []), (el PT Ps i).2.2.1, e0, (el PT Ps i).2.2.2.2) := el_set_self (t := PT) hiP
    rw [g2, ← he2, w64_id (z := e0 + 1) (by unfold Number at he; omega) (by unfold Number at he; omega)]
    exact ok_some rfl
   rw [if_neg h0] at he2
   have hte := eff_trap (w := w) (kind := (stepM c w.code A w.R w.time).2.2.1) (port := (stepM c w.code A w.R w.time).2.2.2.1) (num := (stepM c w.code A w.R w.time).2.2.2.2.1) (c := (stepM c w.code A w.R w.time).1) (Ls := Ls) (O := O)
   generalize effM w (stepM c w.code A w.R w.time).2.2.1 (stepM c w.code A w.R w.time).2.2.2.1 (stepM c w.code A w.R w.time).2.2.2.2.1 (stepM c w.code A w.R w.time).1 Ls O = ef at he2 hro hte ⊢
   obtain ⟨tr, ⟨pc1, S1⟩, Ls1, O1⟩ := ef
   simp only at he2 hro hte ⊢
   by_cases hz : tr = 0
   ·rw [if_neg (fun h => h hz)]
    rw [if_pos hz] at he2
    rw [if_neg h0, setP_at hiP]
    exact ih d _ (by omega) ⟨left - costM (opAt w.code c.1), _, rfl, by omega, by omega, by omega, hro, he2⟩
   ·rw [if_pos hz]
    rw [if_neg hz] at he2
    have := hte hz
    rw [← he2, (Prod.mk.inj this).1, (Prod.mk.inj this).2]
    exact ok_some rfl
  ·rw [if_neg ht]
   rw [if_neg ht] at he2
   rw [impl_Kernel_run.j3, if_pos ht, ← he2]
   exact ok_some rfl
 refine ok_if (fun hc => ok_grd h0 (ok_grd hc ?_)) (fun hc => ?_)
 ·have e : opAt w.code c.1 = (el C2 w.code c.1.toNat).1 := by
   unfold opAt
   rw [if_pos hc]
  rw [e] at j2
  exact j2
 ·have e : opAt w.code c.1 = 1 := by
   unfold opAt
   rw [if_neg hc]
  rw [e] at j2
  exact j2
end Go.Proofs.YtacpibmmodeacaaGreat.Pure
/- The window of a turn. No condition. -/
namespace Go.Proofs.YtacpibmmodeacaaGreat.Pure
open Go Go.Proofs.YtacpibmmodeacaaGreatA Go.Proofs.YtacpibmmodeacaaGreatU Go.Proofs.YtacpibmmodeacaaGreat.QA
set_option linter.unusedVariables false
end Go.Proofs.YtacpibmmodeacaaGreat.Pure
/- The program's turns of a kernel. No condition. -/
namespace Go.Proofs.YtacpibmmodeacaaGreat.Pure
open Go Go.Proofs.YtacpibmmodeacaaGreatA Go.Proofs.YtacpibmmodeacaaGreatU Go.Proofs.YtacpibmmodeacaaGreat.QA
set_option linter.unusedVariables false
set_option linter.unusedSimpArgs false
theorem run_i {k : Nat} {K : Kernel} {part budget : Int} {ins : List Int} (hk : 1048576 < k) (h : KernelOk K) (hs : StampsK K) (hp : InPart K part) :
  impl_Kernel_run.f k K part budget ins = some ((runOf K part budget ins).2.1, (runOf K part budget ins).2.2, afterRun K part budget ins) := by
 obtain ⟨⟨R, W, P, U, C⟩, A, Ps, Ls, O, T, D, G⟩ := K
 obtain ⟨f1, f2, f3, f4, f5, f6⟩ := fault_parts h.fault
 have h1 := hp.lo
 have h2 := hp.hi
 have h3 := h.parts
 have h4 := f1.2.2
 have h5 := f5.2
 have hw := worldOk_of (ins := ins) h hp
 have hr := runOk_of (ins := ins) h hs hp
 simp only at h2 h3 h4 h5
 have hi : (((part - 1).toNat : Nat) : Int) = part - 1 := by omega
 have hpo := h.part (part - 1).toNat (by dsimp only; omega)
 have w0 : w64 (part - 1) = part - 1 := w64_id (by omega) (by omega)
 have hrd : readM (el .str C (part - 1).toNat) = (insOf (el .str C (part - 1).toNat) ((el .str C (part - 1).toNat).size / 2), true) := by
  unfold readM
  rw [B_yes (f5.1 (part - 1).toNat (by dsimp only; omega)), if_pos rfl]
 unfold impl_Kernel_run.f
 simp only [w0]
 rw [if_pos (by omega), if_pos (by omega), if_pos (by omega), if_pos (by omega), read_i hk, hrd]
 simp only [Option.bind_some]
 have := run_loop (k := k) (w := worldOf ((R, W, P, U, C), A, Ps, Ls, O, T, D, G) part ins) (R := R) (W := W) (U := U) (C := C) (Ps := Ps) (D := D) (G := G) (i := (part - 1).toNat) (e0 := (el PT Ps (part - 1).toNat).2.2.2.1) (s0 := (A, (el PT Ps (part - 1).toNat).2.1, Ls, O)) (left0 := min budget 1000) hk hw hi (by omega) rfl (by omega) hpo.ends hr (by omega)
 simp only at this
 rw [setP_same (by omega)] at this
 exact this
structure ActOk (K : Kernel) (part : Int) : Prop where
 lo : 1 ≤ part
 hi : part ≤ 4
 parts : part ≤ (K.2.2.1.length : Int)
 regs : part ≤ (K.1.1.length : Int)
 reg : RegIn (el W2 K.1.1 (part - 1).toNat)
 cells : K.2.1.length = 64
 outs : K.2.2.2.2.1.length = 8
 starts : Number (el PT K.2.2.1 (part - 1).toNat).2.2.1
theorem copySetup_i {k : Nat} {S : Setup} (h : Small S) : impl_copySetup.f k S = some S := by
 obtain ⟨R, W, P, U, C⟩ := S
 obtain ⟨h1, h2, h3, h4, h5⟩ := h
 simp only at h1 h2 h3 h4 h5
 unfold impl_copySetup.f impl_copyPlan.f
 simp only [Option.bind_some, List.length_nil, List.nil_append]
 rw [if_pos (by omega), if_pos (by omega)]
 simp only [Option.bind_some]
 rw [if_pos (by omega), if_pos (by omega), if_pos (by omega)]
theorem copyKernel_i {k : Nat} {K : Kernel} (h : SmallK K) (hk : 1048576 < k) : impl_copyKernel.f k K = some K := by
 obtain ⟨⟨R, W, P, U, C⟩, A, Ps, Ls, O, T, D, G⟩ := K
 obtain ⟨s1, s2, s3, s4, s5, s6, s7, s8⟩ := h
 simp only at s2 s3 s4 s5 s6 s7 s8
 refine ok_eq ?_
 unfold impl_copyKernel.f
 rw [copySetup_i s1, arena_i s2, ints_i s7]
 refine ok_let (ok_let (ok_let ?_))
 refine ok_loop (L := impl_copyKernel.l1 k) (I := fun d s => ∃ j : Nat, s = ((Ps.length : Int), (j : Int), T, D, 0, false, T, D, R, W, P, U, C, A, Ps, Ls, O, G, [], [], [], [], [], [], [], [], [], [], R, W, P, U, C, A, Ps.take j, [], O, [], ()) ∧ j + d = Ps.length) ?_ k Ps.length _ (by omega) ⟨0, rfl, by omega⟩
 rintro d n s ⟨j, rfl, hd⟩ ih
 rw [impl_copyKernel.l1]
 have h4 : w64 ((j : Int) + 1) = ((j + 1 : Nat) : Int) := w64_id (by omega) (by omega)
 refine ok_if (fun hlt => ok_grd (by omega) (ok_grd hlt ?_)) (fun hge => ?_)
 ·have hj : j < Ps.length := by omega
  have hst := s4 _ (el_mem (t := PT) hj)
  have hcp : impl_copyPart.f k (el PT Ps j) = some (el PT Ps j) := by
   unfold impl_copyPart.f
   rw [cpu_i hst]
   rfl
  have htl : (Ps.take j).length = j := by rw [List.length_take]; omega
  have et : Ps.take j ++ [el PT Ps j] = Ps.take (j + 1) := by rw [List.take_add_one, el_lt (t := PT) hj]; rfl
  simp only [Int.toNat_natCast]
  refine ok_bind' hcp (ok_let (ok_grd (by simp only [List.length_cons, List.length_nil]; omega) (ok_let ?_)))
  rw [h4]
  exact ih (d - 1) _ (by omega) ⟨j + 1, by rw [← et], by omega⟩
 ·rw [List.take_of_length_le (by omega)]
  clear ih hd hge h4
  refine ok_loop (L := impl_copyKernel.l2 k) (I := fun d s => ∃ j : Nat, s = ((Ls.length : Int), (j : Int), T, D, 0, false, T, D, R, W, P, U, C, A, Ps, Ls, O, G, [], [], [], [], [], [], [], [], [], [], R, W, P, U, C, A, Ps, Ls.take j, O, [], ()) ∧ j + d = Ls.length) ?_ k Ls.length _ (by omega) ⟨0, rfl, by omega⟩
  rintro d n s ⟨j, rfl, hd⟩ ih
  rw [impl_copyKernel.l2]
  have h4 : w64 ((j : Int) + 1) = ((j + 1 : Nat) : Int) := w64_id (by omega) (by omega)
  refine ok_if (fun hlt => ok_grd (by omega) (ok_grd hlt ?_)) (fun hge => ?_)
  ·have hj : j < Ls.length := by omega
   have hst := s6 _ (el_mem (t := LT) hj)
   have htl : (Ls.take j).length = j := by rw [List.length_take]; omega
   have et : Ls.take j ++ [el LT Ls j] = Ls.take (j + 1) := by rw [List.take_add_one, el_lt (t := LT) hj]; rfl
   simp only [Int.toNat_natCast]
   refine ok_bind' (line_i (l := el LT Ls j) hst) (ok_let (ok_grd (by simp only [List.length_cons, List.length_nil]; omega) (ok_let ?_)))
   rw [h4]
   exact ih (d - 1) _ (by omega) ⟨j + 1, by rw [← et], by omega⟩
  ·rw [List.take_of_length_le (by omega)]
   refine ok_let (ok_grd (by simp only [List.length_nil]; omega) (ok_let (ok_some rfl)))
end Go.Proofs.YtacpibmmodeacaaGreat.Pure
/- Ports: what is sent and taken by the reference. No condition. -/
namespace Go.Proofs.YtacpibmmodeacaaGreat.Pure
open Go Go.Proofs.YtacpibmmodeacaaGreatA Go.Proofs.YtacpibmmodeacaaGreatU Go.Proofs.YtacpibmmodeacaaGreat.QA
set_option linter.unusedVariables false
set_option linter.unusedSimpArgs false
theorem line_s {k : Nat} {l : List (Int × Int)} (h : l.length ≤ 1048576) : spec_l08Copy.f k l = some l := by
 unfold spec_l08Copy.f
 simp only [Option.bind_some, List.length_nil, List.nil_append]
 rw [if_pos (by omega)]
theorem send_s {k : Nat} {p : Port5} {l : List (Int × Int)} {n time : Int} (hl : l.length ≤ 1048576) : spec_SendPort.f k p l n time = some (sendM p l n time) := by
 have c1 : (l.length + (0 + 1)) * 16 ≤ 140737488355328 := by omega
 unfold spec_SendPort.f sendM
 rw [line_s hl, portOk_s]
 simp only [Option.bind_some, List.length_cons, List.length_nil, c1, ↓reduceIte]
 by_cases hp : PortOk p
 ·rw [B_yes hp]
  simp only [not_true_eq_false, ↓reduceIte]
  split
  ·rfl
  ·split <;> rfl
 ·rw [B_no hp]
  simp
theorem take_s {k : Nat} {p : Port5} {l : List (Int × Int)} {time : Int} (hl : l.length ≤ 1048576) (ht : -9223372036854775808 ≤ time ∧ time < 9223372036854775808) (hs : Stamps l) : spec_TakePort.f k p l time = some (takeM p l time) := by
 unfold spec_TakePort.f takeM
 rw [line_s hl, portOk_s]
 simp only [Option.bind_some, List.nil_append, List.length_nil]
 by_cases hp : PortOk p
 ·rw [B_yes hp]
  simp only [not_true_eq_false, ↓reduceIte, true_and]
  by_cases h0 : (l.length : Int) = 0
  ·rw [if_pos h0, if_neg (fun h => h h0)]
  ·rw [if_neg h0, if_pos h0, if_pos (by omega), if_pos (by omega)]
   obtain ⟨x, t, hx⟩ : ∃ x t : Int, el M2 l 0 = (x, t) := ⟨_, _, rfl⟩
   have hst := hs _ (el_mem (t := M2) (xs := l) (i := 0) (by omega))
   rw [hx] at hst
   simp only [show el (.pair (.int .i64) (.int .i64)) l 0 = (x, t) from hx]
   simp only at hst
   by_cases h1 : p.1 = 1
   ·rw [if_pos h1, if_pos h1, if_pos (by omega), if_pos (by omega), if_pos (by rw [List.length_drop]; omega)]
   ·have h2 : 1 ≤ p.2.2.2.2 ∧ p.2.2.2.2 ≤ 100 := by
     rcases hp.kd with h | h
     ·exact absurd h.1 h1
     ·exact h.2.2
    rw [if_neg h1, if_neg h1]
    by_cases h3 : t < time
    ·rw [if_pos h3]
     have hw : w64 (time - t) = if time - t < 9223372036854775808 then time - t else time - t - 18446744073709551616 := by
      show IntKind.i64.wrap _ = _
      rw [IntKind.wrap_i64]
      split <;> omega
     by_cases h4 : time - t < 9223372036854775808
     ·rw [if_pos h4] at hw
      rw [hw, if_neg (by omega)]
      by_cases h5 : p.2.2.2.2 < time - t
      ·rw [if_pos h5, if_pos h5]
      ·rw [if_neg h5, if_neg h5]
     ·rw [if_neg h4] at hw
      rw [hw, if_pos (by omega), if_pos (by omega)]
    ·rw [if_neg h3, if_neg (by omega)]
 ·rw [B_no hp]
  simp
end Go.Proofs.YtacpibmmodeacaaGreat.Pure
/- The reference's runs of a part of a kernel. No condition. -/
namespace Go.Proofs.YtacpibmmodeacaaGreat.Pure
open Go Go.Proofs.YtacpibmmodeacaaGreatA Go.Proofs.YtacpibmmodeacaaGreatU Go.Proofs.YtacpibmmodeacaaGreat.QA
set_option linter.unusedVariables false
set_option linter.unusedSimpArgs false
/-- What an instruction asks: answers, a trap, lines, registers. -/
noncomputable def effS (w : World) (kind port num : Int) (Ls : List LineT) (O : List Int) : List Int × Int × List LineT × List Int :=
 if kind = 13 then
  if port < (Ls.length : Int) ∧ (el P5 w.P port.toNat).2.1 = w.part then
   ([(sendM (el P5 w.P port.toNat) (el LT Ls port.toNat) num w.time).2], 0, Ls.set port.toNat (sendM (el P5 w.P port.toNat) (el LT Ls port.toNat) num w.time).1, O)
  else ([], 7, Ls, O)
 else if kind = 14 then
  if port < (Ls.length : Int) ∧ (el P5 w.P port.toNat).2.2.1 = w.part then
   ([(takeM (el P5 w.P port.toNat) (el LT Ls port.toNat) w.time).2.1, (takeM (el P5 w.P port.toNat) (el LT Ls port.toNat) w.time).2.2], 0, Ls.set port.toNat (takeM (el P5 w.P port.toNat) (el LT Ls port.toNat) w.time).1, O)
  else ([], 7, Ls, O)
 else if kind = 15 then ([if port < (w.ins.length : Int) then el I1 w.ins port.toNat else 0], 0, Ls, O)
 else if kind = 16 then ([], 0, Ls, O.set (2 * w.part - 2 + port % 2).toNat num)
 else ([], 0, Ls, O)
def modL (L : List Int) : List Int := L.map fun n => n % 65536
theorem effS_rel {w : World} {kind port num : Int} {c : Int × List Int} {Ls : List LineT} {O : List Int} (h8 : ¬ 8 < c.2.length + ansM kind) :
  ((effS w kind port num Ls O).2.1 = 0 → effM w kind port num c Ls O = (0, (c.1, c.2 ++ modL (effS w kind port num Ls O).1), (effS w kind port num Ls O).2.2) ∧ c.2.length + (effS w kind port num Ls O).1.length ≤ 8) ∧
  (¬ (effS w kind port num Ls O).2.1 = 0 → effM w kind port num c Ls O = ((effS w kind port num Ls O).2.1, c, Ls, O) ∧ (effS w kind port num Ls O).2.2 = (Ls, O)) := by
 unfold effS effM
 rw [if_neg h8]
 by_cases k13 : kind = 13
 ·subst k13
  simp only [↓reduceIte]
  by_cases hq : port < (Ls.length : Int) ∧ (el P5 w.P port.toNat).2.1 = w.part
  ·rw [if_pos hq, if_pos hq]
   refine ⟨fun _ => ⟨?_, by simp [ansM] at h8; simp; omega⟩, fun h => absurd rfl h⟩
   have hs := send_code (p := el P5 w.P port.toNat) (l := el LT Ls port.toNat) (n := num) (t := w.time)
   unfold modL push
   simp only [List.map_cons, List.map_nil, word_mod hs]
  ·rw [if_neg hq, if_neg hq]
   exact ⟨fun h => absurd h (by show ¬ (7 : Int) = 0; decide), fun _ => ⟨rfl, rfl⟩⟩
 rw [if_neg k13, if_neg k13]
 by_cases k14 : kind = 14
 ·subst k14
  simp only [↓reduceIte]
  by_cases hq : port < (Ls.length : Int) ∧ (el P5 w.P port.toNat).2.2.1 = w.part
  ·rw [if_pos hq, if_pos hq]
   refine ⟨fun _ => ⟨?_, by simp [ansM] at h8; simp; omega⟩, fun h => absurd rfl h⟩
   have hs := take_code (p := el P5 w.P port.toNat) (l := el LT Ls port.toNat) (t := w.time)
   unfold modL push
   simp only [List.map_cons, List.map_nil, word_mod hs, List.append_assoc, List.cons_append, List.nil_append]
  ·rw [if_neg hq, if_neg hq]
   exact ⟨fun h => absurd h (by show ¬ (7 : Int) = 0; decide), fun _ => ⟨rfl, rfl⟩⟩
 rw [if_neg k14, if_neg k14]
 by_cases k15 : kind = 15
 ·subst k15
  simp only [↓reduceIte]
  refine ⟨fun _ => ⟨?_, by simp [ansM] at h8; simp; omega⟩, fun h => absurd trivial h⟩
  unfold modL push
  split <;> rfl
 rw [if_neg k15, if_neg k15]
 have h0 : c.2.length ≤ 8 := by omega
 have e0 : (c.1, c.2 ++ modL []) = c := by unfold modL; simp
 by_cases k16 : kind = 16
 ·rw [if_pos k16, if_pos k16]
  exact ⟨fun _ => ⟨by rw [e0], by simpa using h0⟩, fun h => absurd rfl h⟩
 ·rw [if_neg k16, if_neg k16]
  exact ⟨fun _ => ⟨by rw [e0], by simpa using h0⟩, fun h => absurd rfl h⟩
theorem effect_s {k : Nat} {w : World} {s : RS} {R W : List (Int × Int)} {U : List (Int × Int × Int)} {C : List ByteArray} {A : List Int} {Ps : List PartT} {D : Bool} {G : List Port5} {kind port num tr : Int}
  (hw : WorldOk w) (h : RunOk w s) (hp : 0 ≤ port ∧ port ≤ 255) :
  spec_l12Effect.f k ((R, W, w.P, U, C), A, Ps, s.2.2.1, s.2.2.2, w.time, D, G) w.part (kind, port, num, tr) w.ins = some ((effS w kind port num s.2.2.1 s.2.2.2).1, (effS w kind port num s.2.2.1 s.2.2.2).2.1, (R, W, w.P, U, C), A, Ps, (effS w kind port num s.2.2.1 s.2.2.2).2.2.1, (effS w kind port num s.2.2.1 s.2.2.2).2.2.2, w.time, D, G) := by
 have hnl := h.nl
 have ho := h.outs
 have hpt := hw.part
 have g1 : (0 : Int) ≤ port := hp.1
 unfold spec_l12Effect.f effS
 dsimp only
 by_cases k13 : kind = 13
 ·rw [if_pos k13, if_pos k13, spec_l12Effect.j1, if_pos rfl]
  by_cases hlt : port < (s.2.2.1.length : Int)
  ·have hi : port.toNat < s.2.2.1.length := by omega
   have g2 : port < (w.P.length : Int) := by omega
   have hls := line_small hw h hi
   rw [if_neg (by omega), if_pos g1, if_pos g2, if_pos k13]
   by_cases he : (el P5 w.P port.toNat).2.1 = w.part
   ·rw [if_neg (fun h => h he), if_pos g1, if_pos hlt, if_pos ⟨hlt, he⟩]
    rw [send_s (p := el P5 w.P port.toNat) (l := el LT s.2.2.1 port.toNat) (by omega)]
    simp only [Option.bind_some]
    rw [if_pos g1, if_pos hlt]
   ·rw [if_pos he, if_neg (fun h => he h.2)]
    rfl
  ·rw [if_pos (by omega), if_neg (fun h => hlt h.1)]
   rfl
 rw [if_neg k13, if_neg k13, spec_l12Effect.j1]
 by_cases k14 : kind = 14
 ·rw [if_pos (decide_eq_true k14), if_pos k14]
  by_cases hlt : port < (s.2.2.1.length : Int)
  ·have hi : port.toNat < s.2.2.1.length := by omega
   have g2 : port < (w.P.length : Int) := by omega
   have hls := line_small hw h hi
   rw [if_neg (by omega), if_pos g1, if_pos g2, if_neg k13]
   by_cases he : (el P5 w.P port.toNat).2.2.1 = w.part
   ·rw [if_neg (fun h => h he), if_pos g1, if_pos hlt, if_pos ⟨hlt, he⟩]
    rw [take_s (p := el P5 w.P port.toNat) (l := el LT s.2.2.1 port.toNat) (by omega) (number_i64 hw.time) (h.stamps _ (el_mem (t := LT) hi))]
    simp only [Option.bind_some]
    rw [if_pos g1, if_pos hlt]
   ·rw [if_pos he, if_neg (fun h => he h.2)]
    rfl
  ·rw [if_pos (by omega), if_neg (fun h => hlt h.1)]
   rfl
 rw [if_neg (by rw [decide_eq_false k14]; decide), if_neg k14]
 by_cases k15 : kind = 15
 ·rw [if_pos k15, if_pos k15]
  by_cases hlt : port < (w.ins.length : Int)
  ·rw [if_pos hlt, if_pos g1, if_pos hlt, if_pos hlt]
   rfl
  ·rw [if_neg hlt, if_neg hlt]
   rfl
 rw [if_neg k15, if_neg k15]
 by_cases k16 : kind = 16
 ·have e : w64 (w64 (w64 (2 * w.part) - 2) + Int.tmod port 2) = 2 * w.part - 2 + port % 2 := by
   rw [Int.tmod_eq_emod_of_nonneg hp.1, w64_id (z := 2 * w.part) (by omega) (by omega), w64_id (z := 2 * w.part - 2) (by omega) (by omega), w64_id (by omega) (by omega)]
  rw [if_pos k16, if_pos k16, e, if_pos (by omega), if_pos (by omega)]
  rfl
 rw [if_neg k16, if_neg k16]
 rfl
theorem modL_next {L : List Int} {j : Nat} (h : j < L.length) : modL (L.take (j + 1)) = modL (L.take j) ++ [el I1 L j % 65536] := by
 unfold modL
 rw [List.take_add_one, el_lt (t := I1) h]
 simp
theorem modL_words (L : List Int) : WordsOk (modL L) := words_mem.2 fun x hx => by
 obtain ⟨n, _, rfl⟩ := List.mem_map.1 hx
 exact word_emod n
/-- The answers are put. -/
theorem answers_s {k : Nat} {part time pc : Int} {R W : List (Int × Int)} {P : List Port5} {U : List (Int × Int × Int)} {C : List ByteArray} {A A' : List Int} {Ps : List PartT} {Ls : List LineT} {O : List Int} {D : Bool} {G : List Port5} {S ans : List Int} {i : Nat}
  (hk : 1048576 < k) (hi : (i : Int) = part - 1) (hi4 : i < 4) (hiP : i < Ps.length) (hc : CpuOk (pc, S)) (hl : S.length + ans.length ≤ 8) :
  spec_l12Step.l1 k k (part, 0, time, D, pc, R, W, P, U, C, A, Ps, Ls, O, G, S, A', ans, ()) = some (false, 0, 0, (R, W, P, U, C), A', Ps.set i ((el PT Ps i).1, (pc, S ++ modL ans), (el PT Ps i).2.2), Ls, O, time, D, G) := by
 refine ok_eq ?_
 refine ok_loop (L := spec_l12Step.l1 k) (I := fun d s => ∃ j : Nat, s = (part, (j : Int), time, D, pc, R, W, P, U, C, A, Ps, Ls, O, G, S ++ modL (ans.take j), A', ans, ()) ∧ j + d = ans.length) ?_ k ans.length _ (by omega) ⟨0, by unfold modL; simp, by omega⟩
 rintro d n s ⟨j, rfl, hd⟩ ih
 rw [spec_l12Step.l1]
 have h4 : w64 ((j : Int) + 1) = ((j + 1 : Nat) : Int) := w64_id (by omega) (by omega)
 have hml : (modL (ans.take j)).length = j := by unfold modL; rw [List.length_map, List.length_take]; omega
 refine ok_if (fun hlt => ok_grd (by omega) (ok_grd hlt ?_)) (fun hge => ?_)
 ·have hj : j < ans.length := by omega
  have hck : CpuOk (pc, S ++ modL (ans.take j)) := by
   refine ⟨hc.1, by dsimp only; rw [List.length_append, hml]; omega, words_mem.2 fun x hx => ?_⟩
   rcases List.mem_append.1 hx with h | h
   ·exact words_mem.1 hc.2.2 x h
   ·exact words_mem.1 (modL_words _) x h
  have ha : answerM (pc, S ++ modL (ans.take j)) (el I1 ans j) = ((pc, S ++ modL (ans.take (j + 1))), true) := by
   unfold answerM
   rw [if_pos ⟨B_yes hck, by dsimp only; rw [List.length_append, hml]; omega⟩, modL_next hj, List.append_assoc]
  simp only [Int.toNat_natCast]
  refine ok_bind' ((answer_s hk (by dsimp only; rw [List.length_append, hml]; omega)).trans (congrArg some ha)) ?_
  rw [h4]
  exact ih (d - 1) _ (by omega) ⟨j + 1, rfl, by omega⟩
 ·have w0 : w64 (part - 1) = (i : Int) := by rw [w64_id (by omega) (by omega)]; omega
  rw [w0, List.take_of_length_le (by omega)]
  refine ok_grd (by omega) (ok_grd (by omega) (ok_let (ok_some ?_)))
  simp only [Int.toNat_natCast]
noncomputable def roundS (w : World) (s : RS) : Bool × Int × Int × RS :=
 if trapM s.2.1 w.code s.1 w.R = 0 then
  if opAt w.code s.2.1.1 = 0 then (true, 0, 0, s.1, (0, []), s.2.2.1, s.2.2.2) else
  if (effM w (stepM s.2.1 w.code s.1 w.R w.time).2.2.1 (stepM s.2.1 w.code s.1 w.R w.time).2.2.2.1 (stepM s.2.1 w.code s.1 w.R w.time).2.2.2.2.1 (stepM s.2.1 w.code s.1 w.R w.time).1 s.2.2.1 s.2.2.2).1 = 0 then
   (false, 0, 0, (stepM s.2.1 w.code s.1 w.R w.time).2.1, (effM w (stepM s.2.1 w.code s.1 w.R w.time).2.2.1 (stepM s.2.1 w.code s.1 w.R w.time).2.2.2.1 (stepM s.2.1 w.code s.1 w.R w.time).2.2.2.2.1 (stepM s.2.1 w.code s.1 w.R w.time).1 s.2.2.1 s.2.2.2).2)
  else (true, 1, (effM w (stepM s.2.1 w.code s.1 w.R w.time).2.2.1 (stepM s.2.1 w.code s.1 w.R w.time).2.2.2.1 (stepM s.2.1 w.code s.1 w.R w.time).2.2.2.2.1 (stepM s.2.1 w.code s.1 w.R w.time).1 s.2.2.1 s.2.2.2).1, s)
 else (true, 1, trapM s.2.1 w.code s.1 w.R, s)
theorem runK_round {w : World} {f : Nat} {left : Int} {s : RS} (h : ¬ left < costM (opAt w.code s.2.1.1)) : runK w (f + 1) left s = if (roundS w s).1 = true then ((roundS w s).2.2.2, (roundS w s).2.1, (roundS w s).2.2.1) else runK w f (left - costM (opAt w.code s.2.1.1)) (roundS w s).2.2.2 := by
 rw [runK, if_neg h]
 unfold roundS
 by_cases ht : trapM s.2.1 w.code s.1 w.R = 0
 ·rw [if_pos ht, if_pos ht]
  by_cases h0 : opAt w.code s.2.1.1 = 0
  ·rw [if_pos h0, if_pos h0]
   rfl
  ·rw [if_neg h0, if_neg h0]
   split
   ·rfl
   ·rfl
 ·rw [if_neg ht, if_neg ht]
  rfl
def endsS (b : Bool) (how e0 : Int) : Int := if b = true ∧ how = 0 then e0 + 1 else e0
theorem round_s {k : Nat} {w : World} {R W : List (Int × Int)} {U : List (Int × Int × Int)} {C : List ByteArray} {Ps : List PartT} {D : Bool} {G : List Port5} {i : Nat} {e0 : Int} {s : RS}
  (hk : 1048576 < k) (hw : WorldOk w) (hi : (i : Int) = w.part - 1) (hiP : i < Ps.length) (hR : w.R = el W2 R i) (hiR : i < R.length) (he : Number e0) (h : RunOk w s) :
  spec_l12Step.f k ((R, W, w.P, U, C), s.1, setP Ps i s.2.1 e0, s.2.2.1, s.2.2.2, w.time, D, G) w.part w.code w.ins =
   some ((roundS w s).1, (roundS w s).2.1, (roundS w s).2.2.1, (R, W, w.P, U, C), (roundS w s).2.2.2.1, setP Ps i (roundS w s).2.2.2.2.1 (endsS (roundS w s).1 (roundS w s).2.1 e0), (roundS w s).2.2.2.2.2.1, (roundS w s).2.2.2.2.2.2, w.time, D, G) := by
 obtain ⟨A, c, Ls, O⟩ := s
 have hcode := hw.code
 have hpt := hw.part
 have hreg := hw.reg
 have w0 : w64 (w.part - 1) = (i : Int) := by rw [w64_id (by omega) (by omega)]; omega
 have hcpu := h.cpu
 have h0 : 0 ≤ c.1 := hcpu.1.1
 have hS : c.2.length ≤ 8 := hcpu.2.1
 have hA := h.cells
 simp only at hA hcpu
 have hat : el PT (setP Ps i c e0) i = ((el PT Ps i).1, c, (el PT Ps i).2.2.1, e0, (el PT Ps i).2.2.2.2) := setP_at hiP
 have hsl : (setP Ps i c e0).length = Ps.length := setP_len
 unfold spec_l12Step.f roundS
 simp only [w0, Int.toNat_natCast]
 rw [if_pos (by omega), if_pos (by omega), if_pos (by omega), if_pos (by omega)]
 have eR : el Ty2 R i = w.R := hR.symm
 rw [show el TyP (setP Ps i c e0) i = _ from hat, eR]
 simp only
 rw [step_s hk (by omega) (by omega) (by omega)]
 simp only [Option.bind_some, step_trap]
 by_cases ht : trapM c w.code A w.R = 0
 ·rw [if_neg (fun h => h ht), if_pos ht]
  obtain ⟨_, _, hpc, _⟩ := trap0 ht
  have eo := opAt_eq ht
  rw [if_pos h0, if_pos hpc]
  by_cases hz : opAt w.code c.1 = 0
  ·have hz' := hz
   rw [eo] at hz'
   rw [if_pos hz', if_pos hz, if_pos (by omega), if_pos (by omega)]
   rw [show Ps = Ps from rfl]
   have g1 : (setP Ps i c e0).set i ((el PT Ps i).1, (0, []), (el PT Ps i).2.2.1, e0, (el PT Ps i).2.2.2.2) = setP Ps i (0, []) e0 := setP_set
   have g2 : el TyP (setP Ps i (0, []) e0) i = ((el PT Ps i).1, (0, []), (el PT Ps i).2.2.1, e0, (el PT Ps i).2.2.2.2) := setP_at hiP
   have g3 : (setP Ps i (0, []) e0).length = Ps.length := setP_len
   simp only [Option.bind_some, g1, g2, g3]
   rw [if_pos (by omega), if_pos (by omega), if_pos (by omega), if_pos (by omega), w64_id (z := e0 + 1) (by unfold Number at he; omega) (by unfold Number at he; omega)]
   have g4 : (setP Ps i (0, []) e0).set i ((el PT Ps i).1, (0, []), (el PT Ps i).2.2.1, e0 + 1, (el PT Ps i).2.2.2.2) = setP Ps i (0, []) (e0 + 1) := setP_set
   rw [g4]
   rfl
  ·have hz' := hz
   rw [eo] at hz'
   rw [if_neg hz', if_neg hz, ans_s]
   simp only [Option.bind_some]
   have hso := (step_ok (time := w.time) ht).1
   have hse := step_eff (time := w.time) ht
   have hal := ans_le (stepM c w.code A w.R w.time).2.2.1
   have hef := effect_s (k := k) (R := R) (W := W) (U := U) (C := C) (A := A) (Ps := setP Ps i c e0) (D := D) (G := G) (tr := (stepM c w.code A w.R w.time).2.2.2.2.2) (kind := (stepM c w.code A w.R w.time).2.2.1) (num := (stepM c w.code A w.R w.time).2.2.2.2.1) hw h hse.port
   simp only at hef
   rw [show ((stepM c w.code A w.R w.time).2.2.1, (stepM c w.code A w.R w.time).2.2.2.1, (stepM c w.code A w.R w.time).2.2.2.2.1, (stepM c w.code A w.R w.time).2.2.2.2.2) = (stepM c w.code A w.R w.time).2.2 from rfl] at hef
   have hs8 := hso.2.1
   rw [w64_id (z := ((stepM c w.code A w.R w.time).1.2.length : Int) + (ansM (stepM c w.code A w.R w.time).2.2.1 : Int)) (by omega) (by omega)]
   by_cases h8 : 8 < (stepM c w.code A w.R w.time).1.2.length + ansM (stepM c w.code A w.R w.time).2.2.1
   ·have e4 : effM w (stepM c w.code A w.R w.time).2.2.1 (stepM c w.code A w.R w.time).2.2.2.1 (stepM c w.code A w.R w.time).2.2.2.2.1 (stepM c w.code A w.R w.time).1 Ls O = (4, (stepM c w.code A w.R w.time).1, Ls, O) := by
     unfold effM
     rw [if_pos h8]
    rw [if_pos (by omega), if_pos (by omega), e4, if_neg (show ¬ (4 : Int) = 0 by decide)]
    rfl
   ·rw [if_neg (by omega), hef]
    obtain ⟨r1, r2⟩ := effS_rel (w := w) (kind := (stepM c w.code A w.R w.time).2.2.1) (port := (stepM c w.code A w.R w.time).2.2.2.1) (num := (stepM c w.code A w.R w.time).2.2.2.2.1) (c := (stepM c w.code A w.R w.time).1) (Ls := Ls) (O := O) h8
    simp only [Option.bind_some]
    generalize effS w (stepM c w.code A w.R w.time).2.2.1 (stepM c w.code A w.R w.time).2.2.2.1 (stepM c w.code A w.R w.time).2.2.2.2.1 Ls O = ef at r1 r2 ⊢
    obtain ⟨ans, tr, Ls1, O1⟩ := ef
    dsimp only at r1 r2 ⊢
    by_cases hz3 : tr = 0
    ·obtain ⟨q1, q2⟩ := r1 hz3
     rw [if_neg (fun h => h hz3), q1, if_pos rfl]
     have := answers_s (k := k) (part := w.part) (time := w.time) (pc := (stepM c w.code A w.R w.time).1.1) (R := R) (W := W) (P := w.P) (U := U) (C := C) (A := A) (A' := (stepM c w.code A w.R w.time).2.1) (Ps := setP Ps i c e0) (Ls := Ls1) (O := O1) (D := D) (G := G) (S := (stepM c w.code A w.R w.time).1.2) (ans := ans) (i := i) hk hi (by omega) (by omega) hso q2
     rw [this, hat]
     rw [setP_set]
     rfl
    ·obtain ⟨q1, q2⟩ := r2 hz3
     rw [if_pos hz3, q1, if_neg hz3]
     obtain ⟨q2, q3⟩ := Prod.mk.inj q2
     subst q2 q3
     rfl
 ·rw [if_pos ht, if_neg ht]
  rfl
theorem round_good {w : World} {s : RS} (hw : WorldOk w) (h : RunOk w s) : RunOk w (roundS w s).2.2.2 := by
 unfold roundS
 by_cases ht : trapM s.2.1 w.code s.1 w.R = 0
 ·rw [if_pos ht]
  by_cases h0 : opAt w.code s.2.1.1 = 0
  ·rw [if_pos h0]
   exact h.setC h.cells h.words cpu0
  ·rw [if_neg h0]
   split
   ·exact round_ok hw h ht
   ·exact h
 ·rw [if_neg ht]
  exact h
theorem round_how {w : World} {s : RS} : (roundS w s).1 = false → (roundS w s).2.1 = 0 := by
 unfold roundS
 repeat' split
 all_goals (intro h; first | rfl | cases h)
theorem runLoop_k {k : Nat} {w : World} {R W : List (Int × Int)} {U : List (Int × Int × Int)} {C : List ByteArray} {Ps : List PartT} {D : Bool} {G : List Port5} {i : Nat} {e0 : Int} {s0 : RS} {left0 : Int}
  (hk : 1048576 < k) (hw : WorldOk w) (hi : (i : Int) = w.part - 1) (hiP : i < Ps.length) (hR : w.R = el W2 R i) (hiR : i < R.length) (he : Number e0) (h : RunOk w s0) (hl : left0 ≤ 1000) :
  spec_RunPart.l2 k k (w.part, left0, 0, false, w.time, D, w.ins, [], [], [], [], [], [], [], [], [], [], R, W, w.P, U, C, s0.1, setP Ps i s0.2.1 e0, s0.2.2.1, s0.2.2.2, G, w.code, ()) =
   some (((R, W, w.P, U, C), (runK w 1001 left0 s0).1.1, setP Ps i (runK w 1001 left0 s0).1.2.1 (if (runK w 1001 left0 s0).2.1 = 0 then e0 + 1 else e0), (runK w 1001 left0 s0).1.2.2.1, (runK w 1001 left0 s0).1.2.2.2, w.time, D, G), (runK w 1001 left0 s0).2.1, (runK w 1001 left0 s0).2.2) := by
 refine ok_eq ?_
 generalize hT : runK w 1001 left0 s0 = T
 have hcode := hw.code
 have hpt := hw.part
 have w0 : w64 (w.part - 1) = (i : Int) := by rw [w64_id (by omega) (by omega)]; omega
 refine ok_loop (L := spec_RunPart.l2 k) (I := fun d t => ∃ (left : Int) (s : RS), t = (w.part, left, 0, false, w.time, D, w.ins, [], [], [], [], [], [], [], [], [], [], R, W, w.P, U, C, s.1, setP Ps i s.2.1 e0, s.2.2.1, s.2.2.2, G, w.code, ()) ∧ 1 ≤ d ∧ left < (d : Int) ∧ left ≤ 1000 ∧ RunOk w s ∧ runK w d left s = T) ?_ k 1001 _ (by omega) ⟨left0, s0, rfl, by omega, by omega, hl, h, hT⟩
 rintro d n t ⟨left, s, rfl, hd1, hld, hl1, hr, he2⟩ ih
 obtain ⟨d, rfl⟩ : ∃ d', d = d' + 1 := ⟨d - 1, by omega⟩
 rw [spec_RunPart.l2]
 have hat : el TyP (setP Ps i s.2.1 e0) i = ((el PT Ps i).1, s.2.1, (el PT Ps i).2.2.1, e0, (el PT Ps i).2.2.2.2) := setP_at hiP
 have hsl : (setP Ps i s.2.1 e0).length = Ps.length := setP_len
 have hcpu := hr.cpu
 have h0 : 0 ≤ s.2.1.1 := hcpu.1.1
 simp only [w0, Int.toNat_natCast, hat]
 have j3 : ∀ cost : Int, cost = costM (opAt w.code s.2.1.1) → Ok (spec_RunPart.j3 k (spec_RunPart.l2 k n) (w.part, left, cost, 0, false, w.time, D, w.ins, [], [], [], [], [], [], [], [], [], [], R, W, w.P, U, C, s.1, setP Ps i s.2.1 e0, s.2.2.1, s.2.2.2, G, w.code, ())) (fun r => r = (((R, W, w.P, U, C), T.1.1, setP Ps i T.1.2.1 (if T.2.1 = 0 then e0 + 1 else e0), T.1.2.2.1, T.1.2.2.2, w.time, D, G), T.2.1, T.2.2)) := by
  intro cost hcost
  subst hcost
  rw [spec_RunPart.j3]
  have hco := cost_in (opAt w.code s.2.1.1)
  refine ok_if (fun hm => ?_) (fun hm => ?_)
  ·rw [runK, if_pos hm] at he2
   rw [← he2]
   exact ok_some rfl
  ·rw [runK_round hm] at he2
   refine ok_bind' (round_s hk hw hi hiP hR hiR he hr) ?_
   have hgo := round_good hw hr
   have hho := round_how (w := w) (s := s)
   generalize roundS w s = q at he2 hgo hho ⊢
   obtain ⟨b, how, trap, s'⟩ := q
   dsimp only at he2 hgo hho ⊢
   cases b with
   | true =>
    rw [if_pos rfl] at he2
    rw [if_pos rfl, ← he2]
    refine ok_some ?_
    unfold endsS
    simp
   | false =>
    rw [if_neg (by decide)] at he2
    rw [if_neg (by decide), w64_id (z := left - costM (opAt w.code s.2.1.1)) (by omega) (by omega)]
    have e : endsS false how e0 = e0 := if_neg (fun h => by cases h.1)
    rw [e]
    exact ih d _ (by omega) ⟨left - costM (opAt w.code s.2.1.1), s', rfl, by omega, by omega, by omega, hgo, he2⟩
 refine ok_grd (by omega) (ok_grd (by omega) (ok_if (fun hc => ok_grd h0 (ok_grd hc ?_)) (fun hc => ?_)))
 ·rw [cost_s]
  refine ok_let (j3 _ ?_)
  unfold opAt
  rw [if_pos hc]
 ·refine j3 _ ?_
  unfold opAt
  rw [if_neg hc]
  rfl
end Go.Proofs.YtacpibmmodeacaaGreat.Pure
/- A new kernel, by the reference. No condition. -/
namespace Go.Proofs.YtacpibmmodeacaaGreat.Pure
open Go Go.Proofs.YtacpibmmodeacaaGreatA Go.Proofs.YtacpibmmodeacaaGreatU Go.Proofs.YtacpibmmodeacaaGreat.QA
set_option linter.unusedVariables false
set_option linter.unusedSimpArgs false
theorem copySetup_s {k : Nat} {S : Setup} (h : Small S) : spec_l12Setup.f k S = some S := by
 obtain ⟨R, W, P, U, C⟩ := S
 obtain ⟨h1, h2, h3, h4, h5⟩ := h
 simp only at h1 h2 h3 h4 h5
 unfold spec_l12Setup.f
 simp only [Option.bind_some, List.length_nil, List.nil_append]
 rw [if_pos (by omega), if_pos (by omega), if_pos (by omega), if_pos (by omega), if_pos (by omega)]
theorem arenaNew_k {k : Nat} : spec_ArenaNew.f k = some (List.replicate 64 0) := by
 unfold spec_ArenaNew.f
 simp
theorem kernelNew_s {k : Nat} {S : Setup} (h : Small S) (hk : 1048576 < k) : spec_KernelNew.f k S = some (if faultM S = 0 then (newK S, 0) else ((([], [], [], [], []), [], [], [], [], 0, false, []), faultM S)) := by
 have h1 := h.a
 have h3 := h.c
 unfold spec_KernelNew.f
 rw [fault_s h hk]
 simp only [Option.bind_some]
 by_cases h0 : faultM S = 0
 ·rw [if_neg (fun g => g h0), if_pos h0, copySetup_s h, arenaNew_k]
  simp only [Option.bind_some, ↓reduceIte, Int.reduceMul, Int.reduceLE]
  rw [if_pos (by omega), if_pos (by omega)]
  simp only [Int.toNat_natCast, Option.bind_some]
  rw [if_pos (by omega), if_pos (by omega)]
  rw [if_pos (by omega), if_pos (by omega)]
  rfl
 ·rw [if_pos h0, if_neg h0]
end Go.Proofs.YtacpibmmodeacaaGreat.Pure
/- The reference's turns of a kernel. No condition. -/
namespace Go.Proofs.YtacpibmmodeacaaGreat.Pure
open Go Go.Proofs.YtacpibmmodeacaaGreatA Go.Proofs.YtacpibmmodeacaaGreatU Go.Proofs.YtacpibmmodeacaaGreat.QA
set_option linter.unusedVariables false
set_option linter.unusedSimpArgs false
theorem set_self {L : List PartT} {i : Nat} (h : i < L.length) : L.set i (el PT L i) = L := by
 have := el_lt (t := PT) h
 refine List.ext_getElem? fun j => ?_
 rw [List.getElem?_set]
 split
 ·rename_i hij
  subst hij
  exact this.symm
 ·rfl
theorem copyKernel_s {k : Nat} {K : Kernel} (h : SmallK K) (hk : 1048576 < k) : spec_l12Copy.f k K = some K := by
 obtain ⟨⟨R, W, P, U, C⟩, A, Ps, Ls, O, T, D, G⟩ := K
 obtain ⟨s1, s2, s3, s4, s5, s6, s7, s8⟩ := h
 simp only at s2 s3 s4 s5 s6 s7 s8
 refine ok_eq ?_
 unfold spec_l12Copy.f
 refine ok_bind' (copySetup_s s1) (ok_bind' (arena_s s2) (ok_let ?_))
 refine ok_loop (L := spec_l12Copy.l1 k) (I := fun d s => ∃ j : Nat, s = ((j : Int), T, D, 0, false, T, D, R, W, P, U, C, A, Ps, Ls, O, G, [], [], [], [], [], [], [], [], [], [], R, W, P, U, C, A, Ps.take j, ()) ∧ j + d = Ps.length) ?_ k Ps.length _ (by omega) ⟨0, rfl, by omega⟩
 rintro d n s ⟨j, rfl, hd⟩ ih
 rw [spec_l12Copy.l1]
 have h4 : w64 ((j : Int) + 1) = ((j + 1 : Nat) : Int) := w64_id (by omega) (by omega)
 refine ok_if (fun hlt => ok_grd (by omega) (ok_grd hlt ?_)) (fun hge => ?_)
 ·have hj : j < Ps.length := by omega
  have hst := s4 _ (el_mem (t := PT) hj)
  have htl : (Ps.take j).length = j := by rw [List.length_take]; omega
  have et : Ps.take j ++ [el PT Ps j] = Ps.take (j + 1) := by rw [List.take_add_one, el_lt (t := PT) hj]; rfl
  simp only [Int.toNat_natCast]
  refine ok_bind' (cpu_s hst) (ok_let (ok_grd (by simp only [List.length_cons, List.length_nil]; omega) (ok_let ?_)))
  rw [h4]
  exact ih (d - 1) _ (by omega) ⟨j + 1, by rw [← et], by omega⟩
 ·rw [List.take_of_length_le (by omega)]
  clear ih hd hge h4
  refine ok_let ?_
  refine ok_loop (L := spec_l12Copy.l2 k) (I := fun d s => ∃ j : Nat, s = ((j : Int), T, D, 0, false, T, D, R, W, P, U, C, A, Ps, Ls, O, G, [], [], [], [], [], [], [], [], [], [], R, W, P, U, C, A, Ps, Ls.take j, ()) ∧ j + d = Ls.length) ?_ k Ls.length _ (by omega) ⟨0, rfl, by omega⟩
  rintro d n s ⟨j, rfl, hd⟩ ih
  rw [spec_l12Copy.l2]
  have h4 : w64 ((j : Int) + 1) = ((j + 1 : Nat) : Int) := w64_id (by omega) (by omega)
  refine ok_if (fun hlt => ok_grd (by omega) (ok_grd hlt ?_)) (fun hge => ?_)
  ·have hj : j < Ls.length := by omega
   have hst := s6 _ (el_mem (t := LT) hj)
   have htl : (Ls.take j).length = j := by rw [List.length_take]; omega
   have et : Ls.take j ++ [el LT Ls j] = Ls.take (j + 1) := by rw [List.take_add_one, el_lt (t := LT) hj]; rfl
   simp only [Int.toNat_natCast]
   refine ok_bind' (line_s (l := el LT Ls j) hst) (ok_let (ok_grd (by simp only [List.length_cons, List.length_nil]; omega) (ok_let ?_)))
   rw [h4]
   exact ih (d - 1) _ (by omega) ⟨j + 1, by rw [← et], by omega⟩
  ·rw [List.take_of_length_le (by omega)]
   refine ok_let (ok_grd (by simp only [List.length_nil]; omega) (ok_let (ok_let (ok_grd (by simp only [List.length_nil]; omega) (ok_let (ok_some rfl))))))
theorem window_s {k : Nat} {L : List (Int × Int)} {n : Nat} (hk : 1048576 < k) (h : PlanOk L) : spec_WindowAt.f k L (n : Int) = some (el W2 L (n % L.length)) := by
 have h1 := h.2
 have e : Int.tmod (n : Int) (L.length : Int) = ((n % L.length : Nat) : Int) := by
  rw [Int.tmod_eq_emod_of_nonneg (by omega)]
  omega
 have hlt : n % L.length < L.length := Nat.mod_lt _ (by omega)
 unfold spec_WindowAt.f
 rw [planOk_s (by omega) hk, B_yes h]
 simp only [Option.bind_some, not_true_eq_false, ↓reduceIte]
 rw [if_neg (by omega), if_pos (by omega), e, if_pos (by omega), if_pos (by omega)]
 rfl
theorem clear_s {k : Nat} {A : List Int} {r : Int × Int} (hk : 1048576 < k) (hA : A.length = 64) (hr : RegIn r) : spec_ClearCells.f k A r = some (clearM A r) := by
 obtain ⟨fr, z⟩ := r
 obtain ⟨r0, r1, r2, r3⟩ := hr
 simp only at r0 r1 r2 r3
 refine ok_eq ?_
 unfold spec_ClearCells.f
 rw [arena_s (by omega)]
 refine ok_let ?_
 refine ok_loop (L := spec_ClearCells.l1 k) (I := fun d s => ∃ j : Nat, s = ((j : Int), fr, z, A, [], clr (fr, z) j A, ()) ∧ (j : Int) + d = z) ?_ k z.toNat _ (by omega) ⟨0, rfl, by omega⟩
 rintro d n s ⟨j, rfl, hd⟩ ih
 rw [spec_ClearCells.l1]
 have hc := clr_len (fr, z) A j
 have h4 : w64 ((j : Int) + 1) = ((j + 1 : Nat) : Int) := w64_id (by omega) (by omega)
 refine ok_if (fun hj => ok_grd (by omega) ?_) (fun hj => ok_some ?_)
 ·rw [cellAt_s (by omega)]
  refine ok_let ?_
  unfold cellAt
  dsimp only
  rw [if_pos (show 0 ≤ fr ∧ 0 ≤ (j : Int) ∧ (j : Int) < z ∧ (j : Int) < (A.length : Int) - fr by omega), if_pos (by omega), if_pos (by omega), if_pos (by omega), h4]
  exact ih (d - 1) _ (by omega) ⟨j + 1, rfl, by omega⟩
 ·unfold clearM
  dsimp only
  rw [show z.toNat = j by omega]
theorem act_s {k : Nat} {K : Kernel} {part act : Int} (hk : 1048576 < k) (h : ActOk K part) : spec_l12Act.f k K part act = some (actK K part act) := by
 obtain ⟨⟨R, W, P, U, C⟩, A, Ps, Ls, O, T, D, G⟩ := K
 obtain ⟨h1, h2, h3, h4, h5, h6, h7, h8⟩ := h
 simp only at h3 h4 h5 h6 h7 h8
 unfold Number at h8
 have w0 : w64 (part - 1) = part - 1 := w64_id (by omega) (by omega)
 have w1 : w64 (w64 (2 * part) - 2) = 2 * part - 2 := by rw [w64_id (z := 2 * part) (by omega) (by omega), w64_id (by omega) (by omega)]
 have w2 : w64 (w64 (2 * part) - 1) = 2 * part - 1 := by rw [w64_id (z := 2 * part) (by omega) (by omega), w64_id (by omega) (by omega)]
 have hi : (part - 1).toNat < Ps.length := by omega
 have w3 : w64 ((el PT Ps (part - 1).toNat).2.2.1 + 1) = (el PT Ps (part - 1).toNat).2.2.1 + 1 := w64_id (by omega) (by omega)
 have w3' : w64 ((el TyP Ps (part - 1).toNat).2.2.1 + 1) = (el PT Ps (part - 1).toNat).2.2.1 + 1 := w3
 have hself : Ps.set (part - 1).toNat ((el TyP Ps (part - 1).toNat).1, ((el TyP Ps (part - 1).toNat).2.1, ((el TyP Ps (part - 1).toNat).2.2.1, (el TyP Ps (part - 1).toNat).2.2.2))) = Ps := set_self hi
 unfold spec_l12Act.f actK
 simp only [w0]
 rw [if_pos (by omega), if_pos (by omega)]
 by_cases a1 : act = 1
 ·rw [if_pos a1, if_neg (show ¬ act = 2 by omega), if_neg (show ¬ act = 2 by omega), if_pos a1, if_pos (by omega), if_pos (by omega)]
  simp only [Option.bind_some, w3']
  rfl
 rw [if_neg a1]
 by_cases a2 : act = 2
 ·rw [if_pos a2, if_pos a2, if_pos a2, if_pos (by omega), if_pos (by omega)]
  refine Eq.trans (congrArg (fun o => Option.bind o _) (clear_s hk h6 h5)) ?_
  simp only [Option.bind_some]
  rw [if_pos (by omega), if_pos (by omega)]
  simp only [Option.bind_some, w3']
  rfl
 rw [if_neg a2, if_neg a2, if_neg a1]
 by_cases a3 : act = 3
 ·rw [if_pos a3, if_pos a3]
  simp only [w1, w2, Option.bind_some, List.length_set]
  rw [if_pos (by omega), if_pos (by omega), if_pos (by omega), if_pos (by omega), if_pos (by omega), if_pos (by omega), if_pos trivial]
 rw [if_neg a3, if_neg a3]
 by_cases a4 : act = 4
 ·rw [if_pos a4, if_pos a4]
  simp only [↓reduceIte, Option.bind_some, Int.reduceMul, Int.reduceLE, hself]
  have g1 : 0 ≤ part - 1 := by omega
  have g2 : part - 1 < (Ps.length : Int) := by omega
  simp only [g1, g2, ↓reduceIte]
  rw [if_pos (by omega), if_pos (by omega)]
 rw [if_neg a4, if_neg a4]
 rw [if_pos (by omega), if_pos (by omega)]
 simp only [↓reduceIte, Option.bind_some, hself]
noncomputable def runPartM (K : Kernel) (part budget : Int) (ins : List Int) : Kernel × Int × Int :=
 if B (KernelOk K) = true ∧ 1 ≤ part ∧ part ≤ (K.2.2.1.length : Int) then (afterRun K part budget ins, (runOf K part budget ins).2.1, (runOf K part budget ins).2.2) else (K, 1, 6)
theorem runPartM_yes {K : Kernel} {part budget : Int} {ins : List Int} (hok : KernelOk K) (hp : 1 ≤ part ∧ part ≤ (K.2.2.1.length : Int)) : runPartM K part budget ins = (afterRun K part budget ins, (runOf K part budget ins).2.1, (runOf K part budget ins).2.2) := if_pos ⟨B_yes hok, hp⟩
theorem runPartM_no {K : Kernel} {part budget : Int} {ins : List Int} (h : ¬ (KernelOk K ∧ 1 ≤ part ∧ part ≤ (K.2.2.1.length : Int))) : runPartM K part budget ins = (K, 1, 6) := if_neg (fun g => h ⟨B_iff.1 g.1, g.2⟩)
theorem runPart_i {k : Nat} {K : Kernel} {part budget : Int} {ins : List Int} (hk : 1048576 < k) (hs : SmallK K) (hst : KernelOk K → StampsK K) : impl_RunPart.f k K part budget ins = some (runPartM K part budget ins) := by
 refine ok_eq ?_
 unfold impl_RunPart.f
 refine ok_bind' (copyKernel_i hs hk) (ok_bind' (kernelOk_i hs hk) ?_)
 by_cases hok : KernelOk K
 ·rw [B_yes hok]
  refine ok_els (fun h => h rfl) ?_
  rw [in_i]
  refine ok_let ?_
  by_cases hp : 1 ≤ part ∧ part ≤ (K.2.2.1.length : Int)
  ·rw [decide_eq_true hp, runPartM_yes hok hp]
   refine ok_els (fun h => h rfl) ?_
   exact ok_bind' (run_i hk hok (hst hok) ⟨hp.1, hp.2⟩) (ok_some rfl)
  ·rw [decide_eq_false hp, runPartM_no (fun h => hp h.2)]
   exact ok_grd (by decide) (ok_some rfl)
 ·rw [B_no hok, runPartM_no (fun h => hok h.1)]
  exact ok_grd (by decide) (ok_some rfl)
theorem runPart_s {k : Nat} {K : Kernel} {part budget : Int} {ins : List Int} (hk : 1048576 < k) (hs : SmallK K) (hst : KernelOk K → StampsK K) : spec_RunPart.f k K part budget ins = some (runPartM K part budget ins) := by
 refine ok_eq ?_
 unfold spec_RunPart.f
 refine ok_bind' (copyKernel_s hs hk) (ok_bind' (kernelOk_s hs hk) ?_)
 by_cases hok : KernelOk K
 ·rw [B_yes hok]
  refine ok_els (fun h => h rfl) ?_
  rw [in_s]
  refine ok_let ?_
  by_cases hp : 1 ≤ part ∧ part ≤ (K.2.2.1.length : Int)
  ·rw [decide_eq_true hp, runPartM_yes hok hp]
   refine ok_els (fun h => h rfl) ?_
   obtain ⟨⟨R, W, P, U, C⟩, A, Ps, Ls, O, T, D, G⟩ := K
   obtain ⟨f1, f2, f3, f4, f5, f6⟩ := fault_parts hok.fault
   have h1 := hp.1
   have h2 := hp.2
   have h3 := hok.parts
   have h4 := f1.2.2
   have h5 := f5.2
   have hpI : InPart ((R, W, P, U, C), A, Ps, Ls, O, T, D, G) part := ⟨h1, h2⟩
   have hw := worldOk_of (ins := ins) hok hpI
   have hr := runOk_of (ins := ins) hok (hst hok) hpI
   simp only at h2 h3 h4 h5
   have hi : (((part - 1).toNat : Nat) : Int) = part - 1 := by omega
   have hpo := hok.part (part - 1).toNat (by dsimp only; omega)
   have w0 : w64 (part - 1) = part - 1 := w64_id (by omega) (by omega)
   have hrd : readM (el .str C (part - 1).toNat) = (insOf (el .str C (part - 1).toNat) ((el .str C (part - 1).toNat).size / 2), true) := by
    unfold readM
    rw [B_yes (f5.1 (part - 1).toNat (by dsimp only; omega)), if_pos rfl]
   simp only [w0]
   refine ok_grd (by omega) (ok_grd (by omega) (ok_bind' ((read_s hk).trans (congrArg some hrd)) ?_))
   have hlo := runLoop_k (k := k) (w := worldOf ((R, W, P, U, C), A, Ps, Ls, O, T, D, G) part ins) (R := R) (W := W) (U := U) (C := C) (Ps := Ps) (D := D) (G := G) (i := (part - 1).toNat) (e0 := (el PT Ps (part - 1).toNat).2.2.2.1) (s0 := (A, (el PT Ps (part - 1).toNat).2.1, Ls, O)) (left0 := min budget 1000) hk hw hi (by omega) rfl (by omega) hpo.ends hr (by omega)
   simp only at hlo
   rw [setP_same (by omega)] at hlo
   have hj : ∀ b : Int, b = min budget 1000 → Ok (spec_RunPart.j1 k (part, b, 0, false, T, D, ins, [], [], [], [], [], [], [], [], [], [], R, W, P, U, C, A, Ps, Ls, O, G, insOf (el .str C (part - 1).toNat) ((el .str C (part - 1).toNat).size / 2), ())) (fun r => r = (afterRun ((R, W, P, U, C), A, Ps, Ls, O, T, D, G) part budget ins, (runOf ((R, W, P, U, C), A, Ps, Ls, O, T, D, G) part budget ins).2.1, (runOf ((R, W, P, U, C), A, Ps, Ls, O, T, D, G) part budget ins).2.2)) := fun b hb => by
    subst hb
    rw [spec_RunPart.j1]
    exact ⟨_, hlo, rfl⟩
   exact ok_if (fun hb => hj 1000 (by omega)) (fun hb => hj budget (by omega))
  ·rw [decide_eq_false hp, runPartM_no (fun h => hp h.2)]
   exact ok_grd (by decide) (ok_some rfl)
 ·rw [B_no hok, runPartM_no (fun h => hok h.1)]
  exact ok_grd (by decide) (ok_some rfl)
theorem act_parts {K' : Kernel} {p a : Int} : (actK K' p a).1 = K'.1 ∧ (actK K' p a).2.2.2.1 = K'.2.2.2.1 ∧ (actK K' p a).2.2.2.2.2.2.2 = K'.2.2.2.2.2.2.2 := by
 unfold actK
 repeat' split
 all_goals exact ⟨rfl, rfl, rfl⟩
theorem turn_s {k : Nat} {K : Kernel} {ins : List Int} (hs : SmallK K) (hst : StampsK K) (hlg : K.2.2.2.2.2.2.2.length ≤ 40) (hk : 1048576 < k) : spec_TurnOf.f k K ins = some (turnK K ins) := by
 have e0 : (K.1, K.2) = K := rfl
 unfold spec_TurnOf.f turnK
 simp only [e0, copyKernel_s hs hk, kernelOk_s hs hk, Option.bind_some]
 by_cases hok : KernelOk K
 ·simp only [B_yes hok, not_true_eq_false, ↓reduceIte, true_and]
  by_cases hT : K.2.2.2.2.2.1 = 1000000000
  ·rw [if_pos hT, if_neg (fun h => h hT)]
  rw [if_neg hT, if_pos hT]
  obtain ⟨f1, f2, f3, f4, f5, f6⟩ := fault_parts hok.fault
  have hTn := hok.turn
  unfold Number at hTn
  obtain ⟨hw, hb1, hb2⟩ := win_in hok
  have eT : ((K.2.2.2.2.2.1.toNat : Nat) : Int) = K.2.2.2.2.2.1 := by omega
  have hwi := window_s (k := k) (L := K.1.2.1) (n := K.2.2.2.2.2.1.toNat) hk f2
  rw [eT] at hwi
  rw [hwi]
  have w9 : w64 (K.2.2.2.2.2.1 + 1) = K.2.2.2.2.2.1 + 1 := w64_id (by omega) (by omega)
  simp only [Option.bind_some, w9]
  rw [show el W2 K.1.2.1 (K.2.2.2.2.2.1.toNat % K.1.2.1.length) = winOf K from rfl]
  by_cases hD : K.2.2.2.2.2.2.1 = true
  ·rw [if_pos hD, if_pos (.inl hD)]
   rfl
  have h1 := hw.lo
  have h2 := hw.hi
  have h3 := hok.parts
  have h4 := f1.2.2
  have w0 : w64 ((winOf K).1 - 1) = (winOf K).1 - 1 := w64_id (by omega) (by omega)
  have hi : ((winOf K).1 - 1).toNat < K.2.2.1.length := by omega
  simp only [w0]
  rw [if_neg hD, if_pos (by omega), if_pos (by omega)]
  by_cases hh : (el PT K.2.2.1 ((winOf K).1 - 1).toNat).1 = 1
  ·rw [if_pos hh, if_pos (.inr hh)]
   rfl
  rw [if_neg hh, if_neg (by rintro (h | h); exact hD h; exact hh h), runPart_s hk hs (fun _ => hst)]
  have hrp : runPartM K (winOf K).1 (winOf K).2 ins = (afterRun K (winOf K).1 (winOf K).2 ins, (runOf K (winOf K).1 (winOf K).2 ins).2.1, (runOf K (winOf K).1 (winOf K).2 ins).2.2) := by
   exact runPartM_yes hok ⟨h1, h2⟩
  rw [hrp]
  unfold runTurn
  simp only [Option.bind_some]
  by_cases h0 : (runOf K (winOf K).1 (winOf K).2 ins).2.1 = 0
  ·rw [if_pos h0, if_pos h0]
   rfl
  rw [if_neg h0, if_neg h0]
  obtain ⟨ap, ai⟩ := after_at (budget := (winOf K).2) (ins := ins) hw
  have hlen : (winOf K).1 ≤ ((afterRun K (winOf K).1 (winOf K).2 ins).2.2.1.length : Int) := ai.hi
  have hpo := hok.part _ hi
  have hlate := hpo.late
  have hstart := hpo.starts
  have hr := runOf_ok (budget := (winOf K).2) (ins := ins) hok hst hw
  have hU : K.1.2.2.2.1.length ≤ 1048576 := hs.st.d
  -- behind the run
  have j1 : ∀ (Ps' : List PartT) (how trap : Int), Ps' = (lateK (tick (afterRun K (winOf K).1 (winOf K).2 ins)) (winOf K).1 how).2.2.1 → spec_TurnOf.j1 k ((winOf K).1, how, trap, K.2.2.2.2.2.1, K.2.2.2.2.2.2.1, 0, false, K.2.2.2.2.2.1 + 1, (afterRun K (winOf K).1 (winOf K).2 ins).2.2.2.2.2.2.1, K.1.1, K.1.2.1, K.1.2.2.1, K.1.2.2.2.1, K.1.2.2.2.2, K.2.1, K.2.2.1, K.2.2.2.1, K.2.2.2.2.1, K.2.2.2.2.2.2.2, [], [], [], [], [], [], [], [], [], [], K.1.1, K.1.2.1, K.1.2.2.1, K.1.2.2.2.1, K.1.2.2.2.2, (afterRun K (winOf K).1 (winOf K).2 ins).2.1, Ps', (afterRun K (winOf K).1 (winOf K).2 ins).2.2.2.1, (afterRun K (winOf K).1 (winOf K).2 ins).2.2.2.2.1, K.2.2.2.2.2.2.2, ()) = some (failK (tick (afterRun K (winOf K).1 (winOf K).2 ins)) K.2.2.2.2.2.1 (winOf K).1 how trap) := by
   intro Ps' how trap hPs
   have htp : InPart (tick (afterRun K (winOf K).1 (winOf K).2 ins)) (winOf K).1 := ⟨ai.lo, ai.hi⟩
   obtain ⟨l1, l2⟩ := late_same (how := how) htp
   have el1 : (el PT Ps' ((winOf K).1 - 1).toNat).2.2.1 = (el PT K.2.2.1 ((winOf K).1 - 1).toNat).2.2.1 := by
    rw [hPs, l1]
    show (el PT (afterRun K (winOf K).1 (winOf K).2 ins).2.2.1 ((winOf K).1 - 1).toNat).2.2.1 = _
    rw [ap]
   have eact : actOf (lateK (tick (afterRun K (winOf K).1 (winOf K).2 ins)) (winOf K).1 how) (winOf K).1 how = actM K.1.2.2.2.1 (winOf K).1 how (el PT Ps' ((winOf K).1 - 1).toNat).2.2.1 := by
    unfold actOf
    rw [← hPs]
    unfold lateK
    split <;> rfl
   have eK : lateK (tick (afterRun K (winOf K).1 (winOf K).2 ins)) (winOf K).1 how = (K.1, (afterRun K (winOf K).1 (winOf K).2 ins).2.1, Ps', (afterRun K (winOf K).1 (winOf K).2 ins).2.2.2.1, (afterRun K (winOf K).1 (winOf K).2 ins).2.2.2.2.1, K.2.2.2.2.2.1 + 1, K.2.2.2.2.2.2) := by
    rw [hPs]
    unfold lateK
    split <;> rfl
   have hlP : (Ps'.length : Int) = (K.2.2.1.length : Int) := by
    rw [hPs]
    unfold lateK
    split
    ·show ((List.set _ _ _).length : Int) = _
     rw [List.length_set]
     show ((setP _ _ _ _).length : Int) = _
     rw [setP_len]
    ·show ((setP _ _ _ _).length : Int) = _
     rw [setP_len]
   rw [spec_TurnOf.j1]
   simp only [w0]
   rw [if_pos (by omega), if_pos (by omega), actFor_s hU hk]
   unfold failK
   rw [eact]
   simp only [show el TyP Ps' ((winOf K).1 - 1).toNat = el PT Ps' ((winOf K).1 - 1).toNat from rfl]
   generalize actM K.1.2.2.2.1 (winOf K).1 how (el PT Ps' ((winOf K).1 - 1).toNat).2.2.1 = act
   rw [eK]
   simp only [Option.bind_some, List.length_append, List.length_cons, List.length_nil]
   rw [if_pos (by omega)]
   have hao : ∀ L : List Port5, ActOk (K.1, (afterRun K (winOf K).1 (winOf K).2 ins).2.1, Ps', (afterRun K (winOf K).1 (winOf K).2 ins).2.2.2.1, (afterRun K (winOf K).1 (winOf K).2 ins).2.2.2.2.1, K.2.2.2.2.2.1 + 1, (afterRun K (winOf K).1 (winOf K).2 ins).2.2.2.2.2.2.1, L) (winOf K).1 := fun L => ⟨h1, by omega, by dsimp only; omega, by dsimp only; omega, (f1.1 _ (by omega)).1, hr.cells, hr.outs, by dsimp only; rw [el1]; exact hstart⟩
   have fin : ∀ L : List Port5, L = logM K.2.2.2.2.2.2.2 (K.2.2.2.2.2.1, (winOf K).1, how, trap, act) → (spec_l12Act.f k ((K.1.1, K.1.2.1, K.1.2.2.1, K.1.2.2.2.1, K.1.2.2.2.2), (afterRun K (winOf K).1 (winOf K).2 ins).2.1, Ps', (afterRun K (winOf K).1 (winOf K).2 ins).2.2.2.1, (afterRun K (winOf K).1 (winOf K).2 ins).2.2.2.2.1, K.2.2.2.2.2.1 + 1, (afterRun K (winOf K).1 (winOf K).2 ins).2.2.2.2.2.2.1, L) (winOf K).1 act).bind (fun t => some ((K.1.1, K.1.2.1, K.1.2.2.1, K.1.2.2.2.1, K.1.2.2.2.2), t.2.1, t.2.2.1, (afterRun K (winOf K).1 (winOf K).2 ins).2.2.2.1, t.2.2.2.2.1, t.2.2.2.2.2.1, t.2.2.2.2.2.2.1, L)) = some (actK (logK (K.1, (afterRun K (winOf K).1 (winOf K).2 ins).2.1, Ps', (afterRun K (winOf K).1 (winOf K).2 ins).2.2.2.1, (afterRun K (winOf K).1 (winOf K).2 ins).2.2.2.2.1, K.2.2.2.2.2.1 + 1, K.2.2.2.2.2.2) (K.2.2.2.2.2.1, (winOf K).1, how, trap, act)) (winOf K).1 act) := by
    intro L hL
    rw [show (K.1.1, K.1.2.1, K.1.2.2.1, K.1.2.2.2.1, K.1.2.2.2.2) = K.1 from rfl, act_s hk (hao L)]
    have hlk : logK (K.1, (afterRun K (winOf K).1 (winOf K).2 ins).2.1, Ps', (afterRun K (winOf K).1 (winOf K).2 ins).2.2.2.1, (afterRun K (winOf K).1 (winOf K).2 ins).2.2.2.2.1, K.2.2.2.2.2.1 + 1, K.2.2.2.2.2.2) (K.2.2.2.2.2.1, (winOf K).1, how, trap, act) = (K.1, (afterRun K (winOf K).1 (winOf K).2 ins).2.1, Ps', (afterRun K (winOf K).1 (winOf K).2 ins).2.2.2.1, (afterRun K (winOf K).1 (winOf K).2 ins).2.2.2.2.1, K.2.2.2.2.2.1 + 1, (afterRun K (winOf K).1 (winOf K).2 ins).2.2.2.2.2.2.1, L) := by
     rw [hL]
     rfl
    rw [hlk]
    obtain ⟨g1, g2, g3⟩ := act_parts (K' := (K.1, (afterRun K (winOf K).1 (winOf K).2 ins).2.1, Ps', (afterRun K (winOf K).1 (winOf K).2 ins).2.2.2.1, (afterRun K (winOf K).1 (winOf K).2 ins).2.2.2.2.1, K.2.2.2.2.2.1 + 1, (afterRun K (winOf K).1 (winOf K).2 ins).2.2.2.2.2.2.1, L)) (p := (winOf K).1) (a := act)
    simp only [Option.bind_some]
    refine congrArg some ?_
    generalize actK (K.1, (afterRun K (winOf K).1 (winOf K).2 ins).2.1, Ps', (afterRun K (winOf K).1 (winOf K).2 ins).2.2.2.1, (afterRun K (winOf K).1 (winOf K).2 ins).2.2.2.2.1, K.2.2.2.2.2.1 + 1, (afterRun K (winOf K).1 (winOf K).2 ins).2.2.2.2.2.2.1, L) (winOf K).1 act = X at g1 g2 g3 ⊢
    obtain ⟨x1, x2, x3, x4, x5, x6, x7, x8⟩ := X
    simp only at g1 g2 g3
    subst g1 g2 g3
    rfl
   by_cases h40 : (40 : Int) < ((K.2.2.2.2.2.2.2.length + (0 + 1) : Nat) : Int)
   ·have hlq : K.2.2.2.2.2.2.2.length = 40 := by omega
    rw [if_pos h40, if_pos (by omega), if_pos (by omega), if_pos (by rw [List.length_drop, List.length_append, List.length_cons, List.length_nil]; omega), List.nil_append]
    refine fin _ ?_
    unfold logM
    rw [hlq]
   ·rw [if_neg h40]
    refine fin _ ?_
    unfold logM
    rw [show K.2.2.2.2.2.2.2.length + 1 - 40 = 0 by omega]
    rfl
  by_cases h2' : (runOf K (winOf K).1 (winOf K).2 ins).2.1 = 2
  ·rw [if_pos h2', if_pos (by omega), if_pos (by omega), if_pos (by omega), if_pos (by omega)]
   refine Eq.trans ?_ (j1 _ _ _ rfl)
   rw [show lateK (tick (afterRun K (winOf K).1 (winOf K).2 ins)) (winOf K).1 (runOf K (winOf K).1 (winOf K).2 ins).2.1 = ((tick (afterRun K (winOf K).1 (winOf K).2 ins)).1, (tick (afterRun K (winOf K).1 (winOf K).2 ins)).2.1, (tick (afterRun K (winOf K).1 (winOf K).2 ins)).2.2.1.set ((winOf K).1 - 1).toNat (lateP (el PT (tick (afterRun K (winOf K).1 (winOf K).2 ins)).2.2.1 ((winOf K).1 - 1).toNat)), (tick (afterRun K (winOf K).1 (winOf K).2 ins)).2.2.2) from if_pos h2']
   have ap' : el TyP (afterRun K (winOf K).1 (winOf K).2 ins).2.2.1 ((winOf K).1 - 1).toNat = ((el PT K.2.2.1 ((winOf K).1 - 1).toNat).1, (runOf K (winOf K).1 (winOf K).2 ins).1.2.1, (el PT K.2.2.1 ((winOf K).1 - 1).toNat).2.2.1, endsOf K (winOf K).1 (runOf K (winOf K).1 (winOf K).2 ins).2.1, (el PT K.2.2.1 ((winOf K).1 - 1).toNat).2.2.2.2) := ap
   have ap2 : el PT (tick (afterRun K (winOf K).1 (winOf K).2 ins)).2.2.1 ((winOf K).1 - 1).toNat = _ := ap
   rw [ap2]
   simp only [ap']
   unfold Number at hlate
   rw [w64_id (z := (el PT K.2.2.1 ((winOf K).1 - 1).toNat).2.2.2.2 + 1) (by omega) (by omega)]
   rfl
  ·rw [if_neg h2']
   refine Eq.trans ?_ (j1 _ _ _ rfl)
   rw [show lateK (tick (afterRun K (winOf K).1 (winOf K).2 ins)) (winOf K).1 (runOf K (winOf K).1 (winOf K).2 ins).2.1 = tick (afterRun K (winOf K).1 (winOf K).2 ins) from if_neg h2']
   rfl
 ·simp only [B_no hok, Bool.false_eq_true, not_false_eq_true, ↓reduceIte, false_and]
end Go.Proofs.YtacpibmmodeacaaGreat.Pure
/- What a draw's cursor tells. No condition. -/
namespace Go.Proofs.YtacpibmmodeacaaGreat.Pure
open Go Go.Proofs.YtacpibmmodeacaaGreatA Go.Proofs.YtacpibmmodeacaaGreatU Go.Proofs.YtacpibmmodeacaaGreat.QA
set_option linter.unusedVariables false
/-- A cursor that stands within its bytes. -/
def Cur (c : List Int × Int × Int) : Prop := c.1.length ≤ 1048576 ∧ 0 ≤ c.2.1 ∧ c.2.1 ≤ (c.1.length : Int)
theorem and255 (x : Int) : 0 ≤ bits .and .i64 x 255 ∧ bits .and .i64 x 255 ≤ 255 := by
 have h : (BitVec.ofInt IntKind.i64.bits x &&& BitVec.ofInt IntKind.i64.bits 255).toNat ≤ 255 := by
  rw [BitVec.toNat_and]
  exact Nat.and_le_right
 have e : bits .and .i64 x 255 = IntKind.i64.wrap (((BitVec.ofInt IntKind.i64.bits x &&& BitVec.ofInt IntKind.i64.bits 255).toNat : Nat) : Int) := rfl
 rw [e, w_id (by omega) (by omega)]
 omega
theorem byte_ok {k : Nat} {c : List Int × Int × Int} (h : Cur c) : Ok (spec_l01Byte.f k c) (fun r => 0 ≤ r.1 ∧ r.1 ≤ 255 ∧ Cur (c.1, r.2.2)) := by
 obtain ⟨h1, h2, h3⟩ := h
 unfold spec_l01Byte.f
 refine ok_if (fun hc => ?_) (fun hc => ?_)
 ·rw [if_pos h2, if_pos hc]
  refine ok_some ⟨(and255 _).1, (and255 _).2, h1, ?_, ?_⟩
  ·show (0 : Int) ≤ w64 (c.2.1 + 1)
   rw [w64_id (by omega) (by omega)]
   omega
  ·show w64 (c.2.1 + 1) ≤ (c.1.length : Int)
   rw [w64_id (by omega) (by omega)]
   omega
 ·exact ok_some ⟨(and255 _).1, (and255 _).2, h1, h2, h3⟩
theorem below_ok {k : Nat} {c : List Int × Int × Int} {n : Int} (h : Cur c) : Ok (spec_l01Below.f k c n) (fun r => 0 ≤ r.1 ∧ (0 < n → r.1 < n) ∧ (n ≤ 0 → r.1 = 0) ∧ Cur (c.1, r.2.2)) := by
 have hm : ∀ a : Int, 0 ≤ a → 0 < n → 0 ≤ Int.tmod a n ∧ Int.tmod a n < n := fun a h0 h1 => ⟨Int.tmod_nonneg _ h0, Int.tmod_lt_of_pos _ h1⟩
 unfold spec_l01Below.f
 refine ok_if (fun hc => ok_some ⟨Int.le_refl 0, fun h' => absurd h' (by omega), fun _ => rfl, h⟩) (fun hc => ?_)
 refine ok_if (fun hc2 => ?_) (fun hc2 => ?_)
 ·refine ok_bind (byte_ok h) (fun r hr => ?_)
  rw [if_pos (by omega)]
  exact ok_some ⟨(hm _ hr.1 (by omega)).1, fun _ => (hm _ hr.1 (by omega)).2, fun h' => absurd h' (by omega), hr.2.2⟩
 ·refine ok_bind (byte_ok h) (fun r1 hr1 => ok_bind (byte_ok hr1.2.2) (fun r2 hr2 => ok_bind (byte_ok hr2.2.2) (fun r3 hr3 => ok_bind (byte_ok hr3.2.2) (fun r4 hr4 => ?_))))
  obtain ⟨a1, b1, -⟩ := hr1
  obtain ⟨a2, b2, -⟩ := hr2
  obtain ⟨a3, b3, -⟩ := hr3
  obtain ⟨a4, b4, hc4⟩ := hr4
  rw [if_pos (by omega)]
  have e1 : w64 (r1.1 * 16777216) = r1.1 * 16777216 := w64_id (by omega) (by omega)
  have e2 : w64 (r2.1 * 65536) = r2.1 * 65536 := w64_id (by omega) (by omega)
  have e3 : w64 (r3.1 * 256) = r3.1 * 256 := w64_id (by omega) (by omega)
  have e4 : w64 (r1.1 * 16777216 + r2.1 * 65536) = r1.1 * 16777216 + r2.1 * 65536 := w64_id (by omega) (by omega)
  have e5 : w64 (r1.1 * 16777216 + r2.1 * 65536 + r3.1 * 256) = r1.1 * 16777216 + r2.1 * 65536 + r3.1 * 256 := w64_id (by omega) (by omega)
  have e6 : w64 (r1.1 * 16777216 + r2.1 * 65536 + r3.1 * 256 + r4.1) = r1.1 * 16777216 + r2.1 * 65536 + r3.1 * 256 + r4.1 := w64_id (by omega) (by omega)
  rw [e1, e2, e3, e4, e5, e6]
  exact ok_some ⟨(hm _ (by omega) (by omega)).1, fun _ => (hm _ (by omega) (by omega)).2, fun h' => absurd h' (by omega), hc4⟩
theorem below_lt {k : Nat} {c : List Int × Int × Int} {n : Int} (h : Cur c) (hn : 0 < n) : Ok (spec_l01Below.f k c n) (fun r => 0 ≤ r.1 ∧ r.1 < n ∧ Cur (c.1, r.2.2)) :=
 (below_ok h).mono fun r hr => ⟨hr.1, hr.2.1 hn, hr.2.2.2⟩
theorem new_ok {k : Nat} {xs : List Int} (hl : xs.length ≤ 1048576) (hk : 1048576 < k) : Ok (spec_l01New.f k xs) (fun r => Cur (xs, r.2)) := by
 unfold spec_l01New.f
 refine ok_loop (L := spec_l01New.l1 k) (I := fun d s => 0 ≤ s.2.1 ∧ s.2.2.1 = xs ∧ s.2.1 + (d : Int) = (xs.length : Int)) ?_ k xs.length _ (by omega) ⟨Int.le_refl 0, rfl, by simp⟩
 rintro d n ⟨x1, x2, x3, u⟩ ⟨h1, h2, h3⟩ ih
 simp only at h1 h2 h3
 subst h2
 rw [spec_l01New.l1]
 have he : Cur (x3, 0, x1) := ⟨hl, Int.le_refl 0, by dsimp only; omega⟩
 refine ok_if (fun hc => ?_) (fun _ => ok_some he)
 refine ok_if (fun hc2 => ?_) (fun _ => ok_some he)
 rw [if_pos h1, if_pos hc, w64_id (z := x2 + 1) (by omega) (by omega)]
 exact ih (d - 1) _ (by omega) ⟨by show 0 ≤ x2 + 1; omega, rfl, by show x2 + 1 + ((d - 1 : Nat) : Int) = _; omega⟩
end Go.Proofs.YtacpibmmodeacaaGreat.Pure
/- Code, machines, cells and regions that are drawn. No condition. -/
namespace Go.Proofs.YtacpibmmodeacaaGreat.Pure
open Go Go.Proofs.YtacpibmmodeacaaGreatA Go.Proofs.YtacpibmmodeacaaGreatU Go.Proofs.YtacpibmmodeacaaGreat.QA
set_option linter.unusedVariables false
theorem once_ok {k : Nat} {c : List Int × Int × Int} {n : Int} (h : Cur c) : Ok (spec_l01Once.f k c n) (fun r => Cur (c.1, r.2.2)) := by
 unfold spec_l01Once.f
 exact ok_bind (below_ok h) (fun r hr => ok_some hr.2.2.2)
theorem pickInt_ok {k : Nat} {c : List Int × Int × Int} {L : List Int} (h : Cur c) (hl : 0 < L.length) : Ok (spec_l01PickInt.f k c L) (fun r => r.1 ∈ L ∧ Cur (c.1, r.2.2)) := by
 unfold spec_l01PickInt.f
 refine ok_bind (below_lt h (by omega)) (fun r hr => ?_)
 rw [if_pos hr.1, if_pos hr.2.1]
 exact ok_some ⟨el_mem (t := I1) (by omega), hr.2.2⟩
theorem insOk_of {op g : Int} (h1 : 0 ≤ op ∧ op ≤ 255) (h2 : 0 ≤ g ∧ g ≤ 255) : InsOk (op, g) := ⟨h1, h2⟩
theorem l05Instr_ok {k : Nat} {c : List Int × Int × Int} (h : Cur c) : Ok (spec_l05Instr.f k c) (fun r => InsOk r.1 ∧ Cur (c.1, r.2.2)) := by
 have hj2 : ∀ {a b x y op g : Int}, Cur (c.1, a, b) → (0 ≤ op ∧ op ≤ 255) → (0 ≤ g ∧ g ≤ 255) → Ok (spec_l05Instr.j2 k (a, b, x, y, op, g, c.1, ())) (fun r => InsOk r.1 ∧ Cur (c.1, r.2.2)) := fun hc ho hg => by
  rw [spec_l05Instr.j2]
  refine ok_bind (once_ok hc) (fun r7 h7 => ok_if (fun _ => ok_bind (below_lt h7 (by omega)) (fun r8 h8 => ok_some ⟨insOk_of (by omega) hg, h8.2.2⟩)) (fun _ => ok_some ⟨insOk_of ho hg, h7⟩))
 have hj1 : ∀ {a b x y op g : Int}, Cur (c.1, a, b) → (0 ≤ op ∧ op ≤ 255) → (0 ≤ g ∧ g ≤ 255) → Ok (spec_l05Instr.j1 k (a, b, x, y, op, g, c.1, ())) (fun r => InsOk r.1 ∧ Cur (c.1, r.2.2)) := fun hc ho hg => by
  rw [spec_l05Instr.j1]
  refine ok_if (fun _ => ok_bind (below_lt hc (by omega)) (fun r h5 => hj2 h5.2.2 ho (by omega))) (fun _ => ok_if (fun _ => ok_bind (below_lt hc (by omega)) (fun r h5 => hj2 h5.2.2 ho (by omega))) (fun _ => hj2 hc ho hg))
 unfold spec_l05Instr.f
 refine ok_let (ok_bind (pickInt_ok h (by decide)) (fun r2 h2 => ok_bind (below_lt h2.2 (by omega)) (fun r3 h3 => ?_)))
 have ho : 0 ≤ r2.1 ∧ r2.1 ≤ 255 := by
  have hm := h2.1
  simp only [List.mem_cons, List.not_mem_nil, or_false] at hm
  omega
 exact ok_if (fun _ => ok_bind (below_lt h3.2.2 (by omega)) (fun r4 h4 => hj1 h4.2.2 ho (by omega))) (fun _ => hj1 h3.2.2 ho (by omega))
def AllIns (L : List (Int × Int)) : Prop := ∀ x, x ∈ L → InsOk x
theorem allIns_app {L M : List (Int × Int)} (h1 : AllIns L) (h2 : AllIns M) : AllIns (L ++ M) := fun x hx => by
 rcases List.mem_append.1 hx with h | h
 ·exact h1 x h
 ·exact h2 x h
theorem allIns_3 {x y z : Int × Int} (hx : InsOk x) (hy : InsOk y) (hz : InsOk z) : AllIns [x, y, z] := fun w hw => by
 simp only [List.mem_cons, List.not_mem_nil, or_false] at hw
 rcases hw with rfl | rfl | rfl
 ·exact hx
 ·exact hy
 ·exact hz
theorem allIns_1 {x : Int × Int} (hx : InsOk x) : AllIns [x] := fun w hw => by
 rw [List.mem_singleton.1 hw]
 exact hx
theorem codeOk_of {L : List (Int × Int)} (h : AllIns L) (hl : L.length ≤ 60) : CodeOk L := ⟨fun i hi => h _ (el_mem (t := C2) hi), hl⟩
theorem l05Code_ok {k : Nat} {c : List Int × Int × Int} (hk : 1048576 < k) (h : Cur c) : Ok (spec_l05Code.f k c) (fun r => AllIns r.1 ∧ r.1.length ≤ 46 ∧ Cur (c.1, r.2.2)) := by
 unfold spec_l05Code.f
 refine ok_let ?_
 refine ok_loop (L := spec_l05Code.l1 k) (I := fun d s => ∃ (j : Nat) (ci ch : Int) (L : List (Int × Int)), s = ((j : Int), ci, ch, c.1, L, ()) ∧ j + d = 16 ∧ Cur (c.1, ci, ch) ∧ AllIns L ∧ L.length ≤ 3 * j ∧ j ≤ 15) ?_ k 16 _ (by omega) ⟨0, c.2.1, c.2.2, [], rfl, by omega, h, (fun x hx => by cases hx), by simp, by omega⟩
 rintro d n s ⟨j, ci, ch, L, rfl, hd, hc, hL, hlen, hj⟩ ih
 rw [spec_l05Code.l1]
 refine ok_bind (below_lt hc (by omega)) (fun r2 h2 => ok_if (fun hlt => ?_) (fun hge => ?_))
 ·have hj2 : j < 15 := by omega
  have h4 : w64 ((j : Int) + 1) = ((j + 1 : Nat) : Int) := w64_id (by omega) (by omega)
  have go3 : ∀ {a b : Int} {x y z : Int × Int}, Cur (c.1, a, b) → InsOk x → InsOk y → InsOk z → Ok (if (L.length + [x, y, z].length) * 16 ≤ 140737488355328 then ((some (L ++ [x, y, z])).bind fun y7 => spec_l05Code.l1 k n (w64 ((j : Int) + 1), a, b, c.1, y7, ())) else none) (fun r => AllIns r.1 ∧ r.1.length ≤ 46 ∧ Cur (c.1, r.2.2)) := fun hc' hx hy hz => by
   refine ok_grd (by simp only [List.length_cons, List.length_nil]; omega) (ok_let ?_)
   rw [h4]
   exact ih (d - 1) _ (by omega) ⟨j + 1, _, _, _, rfl, by omega, hc', allIns_app hL (allIns_3 hx hy hz), by simp only [List.length_append, List.length_cons, List.length_nil]; omega, by omega⟩
  refine ok_bind (below_lt h2.2.2 (by omega)) (fun r3 h3 => ok_if (fun _ => ?_) (fun _ => ok_if (fun _ => ?_) (fun _ => ok_if (fun _ => ?_) (fun _ => ?_))))
  ·refine ok_bind (below_lt h3.2.2 (by omega)) (fun r4 h4' => ok_bind (below_lt h4'.2.2 (by omega)) (fun r5 h5 => ok_let (go3 h5.2.2 (insOk_of (by omega) (by omega)) (insOk_of (by omega) (by omega)) (insOk_of (by omega) (by omega)))))
  ·refine ok_bind (below_lt h3.2.2 (by omega)) (fun r4 h4' => ok_bind (below_lt h4'.2.2 (by omega)) (fun r5 h5 => ok_let (go3 h5.2.2 (insOk_of (by omega) (by omega)) (insOk_of (by omega) (by omega)) (insOk_of (by omega) (by omega)))))
  ·refine ok_bind (below_lt h3.2.2 (by omega)) (fun r4 h4' => ok_bind (below_lt h4'.2.2 (by omega)) (fun r5 h5 => ok_let (go3 h5.2.2 (insOk_of (by omega) (by omega)) (insOk_of (by omega) (by omega)) (insOk_of (by omega) (by omega)))))
  ·refine ok_bind (l05Instr_ok h3.2.2) (fun r4 h4' => ok_let ?_)
   refine ok_grd (by simp only [List.length_cons, List.length_nil]; omega) (ok_let ?_)
   rw [h4]
   exact ih (d - 1) _ (by omega) ⟨j + 1, _, _, _, rfl, by omega, h4'.2, allIns_app hL (allIns_1 h4'.1), by simp only [List.length_append, List.length_cons, List.length_nil]; omega, by omega⟩
 ·have hl45 : L.length ≤ 45 := by omega
  refine ok_bind (once_ok h2.2.2) (fun r3 h3 => ok_if (fun _ => ok_let ?_) (fun _ => ok_some ⟨hL, by dsimp only; omega, h3⟩))
  refine ok_grd (by simp only [List.length_cons, List.length_nil]; omega) (ok_let (ok_some ⟨allIns_app hL (allIns_1 (insOk_of (by omega) (by omega))), by dsimp only; simp only [List.length_append, List.length_cons, List.length_nil]; omega, h3⟩))
/-! ### cells and regions -/
theorem arenaNew_s {k : Nat} : spec_ArenaNew.f k = some (List.replicate 64 0) := by
 unfold spec_ArenaNew.f
 rfl
theorem l04Arena_ok {k : Nat} {c : List Int × Int × Int} (hk : 1048576 < k) (h : Cur c) : Ok (spec_l04Arena.f k c) (fun r => r.1.length ≤ 64 ∧ Cur (c.1, r.2.2)) := by
 unfold spec_l04Arena.f
 rw [arenaNew_s]
 refine ok_let ?_
 refine ok_loop (L := spec_l04Arena.l1 k) (I := fun d s => ∃ (j : Nat) (ci ch : Int) (L : List Int), s = ((j : Int), ci, ch, c.1, [], L, ()) ∧ j + d = 10 ∧ Cur (c.1, ci, ch) ∧ L.length = 64) ?_ k 10 _ (by omega) ⟨0, _, _, _, rfl, by omega, h, by simp⟩
 rintro d n s ⟨j, ci, ch, L, rfl, hd, hc, hL⟩ ih
 rw [spec_l04Arena.l1]
 refine ok_if (fun hlt => ?_) (fun _ => ?_)
 ·have h4 : w64 ((j : Int) + 1) = ((j + 1 : Nat) : Int) := w64_id (by omega) (by omega)
  refine ok_bind (below_lt hc (by omega)) (fun r2 h2 => ok_bind (below_lt h2.2.2 (by omega)) (fun r3 h3 => ?_))
  refine ok_grd h2.1 (ok_grd (by omega) (ok_let ?_))
  rw [h4]
  exact ih (d - 1) _ (by omega) ⟨j + 1, _, _, _, rfl, by omega, h3.2.2, by rw [List.length_set]; exact hL⟩
 ·refine ok_bind (once_ok hc) (fun r5 h5 => ok_if (fun _ => ?_) (fun _ => ok_some ⟨by dsimp only; omega, h5⟩))
  refine ok_bind (below_lt h5 (by omega)) (fun r6 h6 => ok_grd h6.1 (ok_grd (by omega) (ok_some ⟨by dsimp only; rw [List.length_take]; omega, h6.2.2⟩)))
/-- Regions, one behind the other. -/
def Rows : Int → List (Int × Int) → Prop
 | _, [] => True
 | lo, r :: L => lo ≤ r.1 ∧ 1 ≤ r.2 ∧ r.2 ≤ 14 ∧ r.1 + r.2 ≤ 64 ∧ Rows (r.1 + r.2) L
def endOf : Int → List (Int × Int) → Int
 | lo, [] => lo
 | _, r :: L => endOf (r.1 + r.2) L
theorem rows_app : ∀ {L : List (Int × Int)} {lo : Int} {r : Int × Int}, Rows lo L → endOf lo L ≤ r.1 → 1 ≤ r.2 → r.2 ≤ 14 → r.1 + r.2 ≤ 64 → Rows lo (L ++ [r]) ∧ endOf lo (L ++ [r]) = r.1 + r.2
 | [], lo, r, _, h1, h2, h3, h4 => ⟨⟨h1, h2, h3, h4, trivial⟩, rfl⟩
 | q :: L, lo, r, ⟨a, b, c, d, e⟩, h1, h2, h3, h4 => by
  have := rows_app (L := L) (lo := q.1 + q.2) (r := r) e h1 h2 h3 h4
  exact ⟨⟨a, b, c, d, this.1⟩, this.2⟩
theorem l04Regions_ok {k : Nat} {c : List Int × Int × Int} (hk : 1048576 < k) (h : Cur c) : Ok (spec_l04Regions.f k c) (fun r => Rows 0 r.1 ∧ 1 ≤ r.1.length ∧ r.1.length ≤ 4 ∧ Cur (c.1, r.2.2)) := by
 unfold spec_l04Regions.f
 refine ok_let (ok_bind (below_lt h (by omega)) (fun r2 h2 => ?_))
 refine ok_loop (L := spec_l04Regions.l1 k) (I := fun d s => ∃ (j : Nat) (fr ci ch : Int) (L : List (Int × Int)), s = (fr, (j : Int), ci, ch, c.1, L, ()) ∧ j + d = 4 ∧ Cur (c.1, ci, ch) ∧ Rows 0 L ∧ endOf 0 L ≤ fr ∧ fr ≤ 5 + 17 * (j : Int) ∧ 0 ≤ fr ∧ L.length ≤ j ∧ (j = 0 ∨ 1 ≤ L.length) ∧ (j = 0 → fr ≤ 5)) ?_ k 4 _ (by omega) ⟨0, _, _, _, [], rfl, by omega, h2.2.2, trivial, h2.1, by omega, h2.1, Nat.le_refl 0, .inl rfl, fun _ => by omega⟩
 rintro d n s ⟨j, fr, ci, ch, L, rfl, hd, hc, hR, he, hf, hf0, hl, hn, hz⟩ ih
 rw [spec_l04Regions.l1]
 refine ok_bind (below_lt hc (by omega)) (fun r3 h3 => ?_)
 rw [w64_id (z := 1 + r3.1) (by omega) (by omega)]
 refine ok_if (fun hlt => ?_) (fun hge => ok_some ⟨hR, by dsimp only; omega, by dsimp only; omega, h3.2.2⟩)
 refine ok_bind (below_lt h3.2.2 (by omega)) (fun r4 h4 => ?_)
 have h5 : w64 ((j : Int) + 1) = ((j + 1 : Nat) : Int) := w64_id (by omega) (by omega)
 rw [w64_id (z := 1 + r4.1) (by omega) (by omega), w64_id (z := fr + (1 + r4.1)) (by omega) (by omega)]
 have fin : ∀ M : List (Int × Int), Rows 0 M → endOf 0 M ≤ fr + (1 + r4.1) → M.length ≤ j + 1 → 1 ≤ M.length → Ok (spec_l04Regions.j2 k (spec_l04Regions.l1 k n) ((j : Int), r4.2.2.1, r4.2.2.2, fr, 1 + r4.1, c.1, M, ())) (fun r => Rows 0 r.1 ∧ 1 ≤ r.1.length ∧ r.1.length ≤ 4 ∧ Cur (c.1, r.2.2)) := fun M hM hM2 hM3 hM4 => by
  rw [spec_l04Regions.j2]
  refine ok_bind (below_lt h4.2.2 (by omega)) (fun r7 h7 => ?_)
  rw [h5, w64_id (z := fr + (1 + r4.1)) (by omega) (by omega), w64_id (z := fr + (1 + r4.1) + r7.1) (by omega) (by omega)]
  exact ih (d - 1) _ (by omega) ⟨j + 1, _, _, _, _, rfl, by omega, h7.2.2, hM, by omega, by omega, by omega, hM3, .inr hM4, fun h => by omega⟩
 refine ok_if (fun h64 => ok_let ?_) (fun h64 => fin L hR (by omega) (by omega) (by omega))
 refine ok_grd (by simp only [List.length_cons, List.length_nil]; omega) (ok_let ?_)
 have ra := rows_app (L := L) (lo := 0) (r := (fr, 1 + r4.1)) hR he (by dsimp only; omega) (by dsimp only; omega) (by dsimp only; omega)
 exact fin _ ra.1 (by rw [ra.2]; exact Int.le_refl _) (by simp only [List.length_append, List.length_cons, List.length_nil]; omega) (by simp only [List.length_append, List.length_cons, List.length_nil]; omega)
theorem rows_in : ∀ {L : List (Int × Int)} {lo : Int}, Rows lo L → ∀ x, x ∈ L → lo ≤ x.1 ∧ 1 ≤ x.2 ∧ x.2 ≤ 14 ∧ x.1 + x.2 ≤ 64
 | [], _, _, x, hx => by cases hx
 | r :: L, lo, ⟨a, b, c, d, e⟩, x, hx => by
  rcases List.mem_cons.1 hx with rfl | hx
  ·exact ⟨a, b, c, d⟩
  ·have := rows_in e x hx
   exact ⟨by omega, this.2⟩
def Near (L : List (Int × Int)) : Prop := ∀ x, x ∈ L → x.1 < 9223372036854775808
theorem l04Any_ok {k : Nat} {c : List Int × Int × Int} (hk : 1048576 < k) (h : Cur c) : Ok (spec_l04Any.f k c) (fun r => Near r.1 ∧ r.1.length ≤ 5 ∧ Cur (c.1, r.2.2)) := by
 unfold spec_l04Any.f
 refine ok_bind (l04Regions_ok hk h) (fun r1 h1 => ?_)
 have hl := h1.2.2.1
 have hN : Near r1.1 := fun x hx => by have := rows_in h1.1 x hx; omega
 have hset : ∀ (i : Nat) (y : Int × Int), y.1 < 9223372036854775808 → Near (r1.1.set i y) := fun i y hy x hx => by
  rcases List.mem_or_eq_of_mem_set hx with hx | rfl
  ·exact hN x hx
  ·exact hy
 refine ok_bind (below_lt h1.2.2.2 (by omega)) (fun r2 h2 => ok_bind (below_lt h2.2.2 (by omega)) (fun r3 h3 => ?_))
 have hi : r2.1.toNat < r1.1.length := by omega
 have hm := hN _ (el_mem (t := C2) hi)
 refine ok_if (fun _ => ?_) (fun _ => ok_if (fun _ => ?_) (fun _ => ok_if (fun _ => ?_) (fun _ => ok_if (fun _ => ?_) (fun _ => ok_some ⟨hN, by dsimp only; omega, h3.2.2⟩))))
 ·refine ok_let (ok_bind (pickInt_ok h3.2.2 (by decide)) (fun r5 h5 => ok_grd h2.1 (ok_grd h2.2.1 (ok_let (ok_some ⟨hset _ _ ?_, by dsimp only; rw [List.length_set]; omega, h5.2⟩)))))
  have hm := h5.1
  simp only [List.mem_cons, List.not_mem_nil, or_false] at hm
  show r5.1 < _
  omega
 ·exact ok_let (ok_bind (pickInt_ok h3.2.2 (by decide)) (fun r5 h5 => ok_grd h2.1 (ok_grd h2.2.1 (ok_let (ok_some ⟨hset _ _ hm, by dsimp only; rw [List.length_set]; omega, h5.2⟩)))))
 ·refine ok_grd h2.1 (ok_grd h2.2.1 (ok_let (ok_grd (by simp only [List.length_cons, List.length_nil]; omega) (ok_let (ok_some ⟨fun x hx => ?_, by dsimp only; simp only [List.length_append, List.length_cons, List.length_nil]; omega, h3.2.2⟩)))))
  rcases List.mem_append.1 hx with hx | hx
  ·exact hN x hx
  ·rw [List.mem_singleton.1 hx]
   exact hm
 ·exact ok_let (ok_some ⟨(fun x hx => by cases hx), by simp, h3.2.2⟩)
end Go.Proofs.YtacpibmmodeacaaGreat.Pure
/- Ports and lines that are drawn. No condition. -/
namespace Go.Proofs.YtacpibmmodeacaaGreat.Pure
open Go Go.Proofs.YtacpibmmodeacaaGreatA Go.Proofs.YtacpibmmodeacaaGreatU Go.Proofs.YtacpibmmodeacaaGreat.QA
set_option linter.unusedVariables false
theorem onceP_ok {k : Nat} {c : List Int × Int × Int} {n : Int} (h : Cur c) : Ok (spec_l01Once.f k c n) (fun r => Cur (c.1, r.2.2)) := by
 unfold spec_l01Once.f
 exact ok_bind (below_ok h) (fun r hr => ok_some hr.2.2.2)
theorem pickP_ok {k : Nat} {c : List Int × Int × Int} {L : List Int} (h : Cur c) (hl : 0 < L.length) : Ok (spec_l01PickInt.f k c L) (fun r => Cur (c.1, r.2.2)) := by
 unfold spec_l01PickInt.f
 refine ok_bind (below_lt h (by omega)) (fun r hr => ?_)
 rw [if_pos hr.1, if_pos hr.2.1]
 exact ok_some hr.2.2
theorem l08Port_ok {k : Nat} {c : List Int × Int × Int} (h : Cur c) : Ok (spec_l08Port.f k c) (fun r => PortOk r.1 ∧ Cur (c.1, r.2.2)) := by
 have hj : ∀ {x1 x2 fr tq mo : Int} {a b : Int}, Cur (c.1, a, b) → (1 ≤ fr ∧ fr ≤ 4) → (1 ≤ tq ∧ tq ≤ 4) → ¬ fr = tq → (1 ≤ mo ∧ mo ≤ 6) → Ok (spec_l08Port.j1 k (a, b, 0, 0, 0, 0, 0, 1, fr, tq, mo, 0, c.1, ())) (fun r => PortOk r.1 ∧ Cur (c.1, r.2.2)) := fun hc h1 h2 h3 h4 => by
  rw [spec_l08Port.j1]
  refine ok_bind (onceP_ok hc) (fun r4 h4' => ok_if (fun _ => ok_bind (below_lt h4' (by omega)) (fun r5 h5 => ok_some ⟨⟨h1, h2, h3, .inr ⟨rfl, rfl, ?_⟩⟩, h5.2.2⟩)) (fun _ => ok_some ⟨⟨h1, h2, h3, .inl ⟨rfl, h4, rfl⟩⟩, h4'⟩))
  rw [w64_id (z := 1 + r5.1) (by omega) (by omega)]
  dsimp only
  omega
 unfold spec_l08Port.f
 refine ok_bind (below_lt h (by omega)) (fun r1 h1 => ok_bind (below_lt h1.2.2 (by omega)) (fun r2 h2 => ok_bind (below_lt h2.2.2 (by omega)) (fun r3 h3 => ?_)))
 have e1 : w64 (1 + r1.1) = 1 + r1.1 := w64_id (by omega) (by omega)
 have e2 : w64 (1 + r2.1) = 1 + r2.1 := w64_id (by omega) (by omega)
 have e3 : w64 (1 + r3.1) = 1 + r3.1 := w64_id (by omega) (by omega)
 have e4 : Int.tmod (1 + r1.1) 3 = (1 + r1.1) % 3 := Int.tmod_eq_emod_of_nonneg (by omega)
 rw [e1, e2, e3, e4, w64_id (z := 1 + (1 + r1.1) % 3) (by omega) (by omega)]
 refine ok_if (fun he => hj (x1 := 0) (x2 := 0) h3.2.2 (by omega) (by omega) (by omega) (by omega)) (fun he => hj (x1 := 0) (x2 := 0) h3.2.2 (by omega) (by omega) he (by omega))
theorem l08Any_ok {k : Nat} {c : List Int × Int × Int} (h : Cur c) : Ok (spec_l08Any.f k c) (fun r => Cur (c.1, r.2.2)) := by
 unfold spec_l08Any.f
 refine ok_bind (l08Port_ok h) (fun r1 h1 => ok_bind (below_lt h1.2 (by omega)) (fun r2 h2 => ok_if (fun _ => ok_bind (below_lt h2.2.2 (by omega)) (fun r h => ok_some h.2.2)) (fun _ => ok_if (fun _ => ok_let (ok_bind (pickP_ok h2.2.2 (by decide)) (fun r h => ok_some h))) (fun _ => ok_if (fun _ => ok_let (ok_bind (pickP_ok h2.2.2 (by decide)) (fun r h => ok_some h))) (fun _ => ok_if (fun _ => ok_let (ok_bind (pickP_ok h2.2.2 (by decide)) (fun r h => ok_some h))) (fun _ => ok_some h2.2.2))))))
end Go.Proofs.YtacpibmmodeacaaGreat.Pure
/- Rules that are drawn. No condition. -/
namespace Go.Proofs.YtacpibmmodeacaaGreat.Pure
open Go Go.Proofs.YtacpibmmodeacaaGreatA Go.Proofs.YtacpibmmodeacaaGreatU Go.Proofs.YtacpibmmodeacaaGreat.QA
set_option linter.unusedVariables false
theorem rulesOk_nil : RulesOk [] := ⟨fun i hi => absurd hi (by simp), by simp⟩
theorem l10Rules_ok {k : Nat} {c : List Int × Int × Int} {parts : Int} (hk : 1048576 < k) (h : Cur c) (hp : 1 ≤ parts ∧ parts ≤ 4) :
  Ok (spec_l10Rules.f k c parts) (fun r => RulesOk r.1 ∧ (∀ x, x ∈ r.1 → 1 ≤ x.1 ∧ x.1 ≤ parts) ∧ Cur (c.1, r.2.2)) := by
 unfold spec_l10Rules.f
 refine ok_let ?_
 refine ok_loop (L := spec_l10Rules.l1 k) (I := fun d s => ∃ (j : Nat) (ci ch : Int) (R : List (Int × Int × Int)), s = (parts, (j : Int), ci, ch, c.1, R, ()) ∧ j + d = 6 ∧ Cur (c.1, ci, ch) ∧ RulesOk R ∧ ∀ x, x ∈ R → 1 ≤ x.1 ∧ x.1 ≤ parts) ?_ k 6 _ (by omega) ⟨0, c.2.1, c.2.2, [], rfl, by omega, h, rulesOk_nil, fun x hx => by cases hx⟩
 rintro d n s ⟨j, ci, ch, R, rfl, hd, hc, hR, hx⟩ ih
 rw [spec_l10Rules.l1]
 refine ok_bind (below_lt hc (by omega)) (fun r2 hr2 => ok_if (fun hlt => ?_) (fun _ => ok_some ⟨hR, hx, hr2.2.2⟩))
 refine ok_bind (below_lt hr2.2.2 (by omega)) (fun r3 hr3 => ok_bind (below_lt hr3.2.2 (by omega)) (fun r4 hr4 => ok_bind (below_lt hr4.2.2 (by omega)) (fun r5 hr5 => ok_bind (once_ok hr5.2.2) (fun r6 hr6 => ?_))))
 have h4 : w64 ((j : Int) + 1) = ((j + 1 : Nat) : Int) := w64_id (by omega) (by omega)
 have e3 : w64 (1 + r3.1) = 1 + r3.1 := w64_id (by omega) (by omega)
 have hlen : R.length ≤ 8 := hR.2
 have fin : ∀ a b : Int, Ok (spec_l10Rules.j2 k (spec_l10Rules.l1 k n) (parts, (j : Int), r6.2.2.1, r6.2.2.2, w64 (1 + r3.1), a, b, c.1, R, ())) (fun r => RulesOk r.1 ∧ (∀ x, x ∈ r.1 → 1 ≤ x.1 ∧ x.1 ≤ parts) ∧ Cur (c.1, r.2.2)) := fun a b => by
  rw [e3]
  unfold spec_l10Rules.j2
  simp only [Option.bind_some, List.nil_append, List.length_nil, List.length_cons]
  rw [if_pos (by omega), if_pos (by omega), rulesOk_s (by rw [List.length_append, List.length_cons, List.length_nil]; omega) hk, h4]
  refine ok_let ?_
  refine ok_if (fun hb => ih (d - 1) _ (by omega) ⟨j + 1, _, _, _, rfl, by omega, hr6, B_iff.1 hb, fun x hx' => ?_⟩) (fun hb => ih (d - 1) _ (by omega) ⟨j + 1, _, _, _, rfl, by omega, hr6, hR, hx⟩)
  rcases List.mem_append.1 hx' with h' | h'
  ·exact hx x h'
  ·rw [List.mem_singleton.1 h']
   show 1 ≤ 1 + r3.1 ∧ 1 + r3.1 ≤ parts
   omega
 exact ok_if (fun _ => fin _ _) (fun _ => fin _ _)
theorem l10Any_ok {k : Nat} {c : List Int × Int × Int} (hk : 1048576 < k) (h : Cur c) : Ok (spec_l10Any.f k c) (fun r => r.1.length ≤ 9 ∧ Cur (c.1, r.2.2)) := by
 unfold spec_l10Any.f
 refine ok_bind (l10Rules_ok hk h (by omega)) (fun r1 hr1 => ok_bind (once_ok hr1.2.2) (fun r2 hr2 => ?_))
 have hlen : r1.1.length ≤ 8 := hr1.1.2
 refine ok_if (fun _ => ?_) (fun _ => ok_some ⟨by show r1.1.length ≤ 9; omega, hr2⟩)
 refine ok_bind (below_ok hr2) (fun r3 hr3 => ok_bind (below_ok hr3.2.2.2) (fun r4 hr4 => ok_bind (below_ok hr4.2.2.2) (fun r5 hr5 => ?_)))
 simp only [Option.bind_some, List.length_cons, List.length_nil]
 rw [if_pos (by omega)]
 exact ok_some ⟨by show (_ ++ _ : List _).length ≤ 9; rw [List.length_append, List.length_cons, List.length_nil]; omega, hr5.2.2.2⟩
end Go.Proofs.YtacpibmmodeacaaGreat.Pure
/- Texts of numbers. No condition. -/
namespace Go.Proofs.YtacpibmmodeacaaGreat.Pure
open Go Go.Proofs.YtacpibmmodeacaaGreatA Go.Proofs.YtacpibmmodeacaaGreatU Go.Proofs.YtacpibmmodeacaaGreat.QA
set_option linter.unusedVariables false
theorem u8_w (z : Int) : IntKind.u8.wrap z = z % 256 := by simp [IntKind.wrap, IntKind.signed, IntKind.bits]
theorem chrs_size (xs : List Int) : (chrs xs).size = xs.length := by
 show (chrs xs).data.size = _
 simp [chrs]
end Go.Proofs.YtacpibmmodeacaaGreat.Pure
/- The bytes of code. No condition. -/
namespace Go.Proofs.YtacpibmmodeacaaGreat.Pure
open Go Go.Proofs.YtacpibmmodeacaaGreatA Go.Proofs.YtacpibmmodeacaaGreatU Go.Proofs.YtacpibmmodeacaaGreat.QA
set_option linter.unusedVariables false
def codeB : List (Int × Int) → List Int
 | [] => []
 | x :: L => x.1 :: x.2 :: codeB L
theorem codeB_len : ∀ L, (codeB L).length = 2 * L.length
 | [] => rfl
 | x :: L => by
  rw [codeB, List.length_cons, List.length_cons, codeB_len L, List.length_cons]
  omega
theorem codeB_app : ∀ L M, codeB (L ++ M) = codeB L ++ codeB M
 | [], M => rfl
 | x :: L, M => by
  rw [List.cons_append, codeB, codeB, codeB_app L M]
  rfl
noncomputable def codeTextM (L : List (Int × Int)) : ByteArray × Bool := if B (CodeOk L) = true then (chrs (codeB L), true) else (⟨#[]⟩, false)
theorem codeText_s {k : Nat} {L : List (Int × Int)} (hl : L.length ≤ 1048576) (hk : 1048576 < k) : spec_CodeText.f k L = some (codeTextM L) := by
 refine ok_eq ?_
 unfold spec_CodeText.f codeTextM
 rw [codeOk_s hl hk]
 refine ok_let (ok_if (fun h => ok_some (by rw [if_neg h])) (fun h => ok_let ?_))
 have hc := B_iff.1 (Classical.not_not.1 h)
 have h60 := hc.2
 rw [if_pos (Classical.not_not.1 h)]
 refine ok_loop (L := spec_CodeText.l1 k) (I := fun d s => ∃ j : Nat, s = ((j : Int), L, codeB (L.take j), ()) ∧ j + d = L.length) ?_ k L.length _ (by omega) ⟨0, rfl, by omega⟩
 rintro d n s ⟨j, rfl, hd⟩ ih
 rw [spec_CodeText.l1]
 refine ok_if (fun hlt => ?_) (fun hge => ok_some ?_)
 ·have hj : j < L.length := by omega
  have c0 : (0 : Int) ≤ (j : Int) := by omega
  have h4 : w64 ((j : Int) + 1) = ((j + 1 : Nat) : Int) := w64_id (by omega) (by omega)
  have hin := hc.1 j hj
  have hx := el_lt (t := C2) hj
  obtain ⟨op, g, hxe⟩ : ∃ op g : Int, el C2 L j = (op, g) := ⟨_, _, rfl⟩
  rw [hxe] at hin hx
  obtain ⟨i1, i2⟩ := hin
  simp only at i1 i2
  have e1 : IntKind.u8.wrap op = op := by rw [u8_w]; omega
  have e2 : IntKind.u8.wrap g = g := by rw [u8_w]; omega
  have hcl := codeB_len (L.take j)
  have htl : (L.take j).length = j := by rw [List.length_take]; omega
  simp only [c0, hlt, h4, ↓reduceIte, Int.toNat_natCast, show el (.pair (.int .i64) (.int .i64)) L j = (op, g) from hxe, e1, e2, Option.bind_some, List.length_cons, List.length_nil]
  rw [if_pos (by omega)]
  refine ih (d - 1) _ (by omega) ⟨j + 1, ?_, by omega⟩
  have et : L.take (j + 1) = L.take j ++ [(op, g)] := by
   rw [List.take_add_one, hx]
   rfl
  rw [et, codeB_app]
  rfl
 ·rw [List.take_of_length_le (by omega)]
end Go.Proofs.YtacpibmmodeacaaGreat.Pure
/- Set-ups that are drawn: they are right. No condition. -/
namespace Go.Proofs.YtacpibmmodeacaaGreat.Pure
open Go Go.Proofs.YtacpibmmodeacaaGreatA Go.Proofs.YtacpibmmodeacaaGreatU Go.Proofs.YtacpibmmodeacaaGreat.QA
set_option linter.unusedVariables false
theorem rows_head {L : List (Int × Int)} {lo : Int} (h : Rows lo L) : ∀ j i, j < i → i < L.length → (el W2 L j).1 + (el W2 L j).2 ≤ (el W2 L i).1 := by
 induction L generalizing lo with
 | nil => intro j i h1 h2; exact absurd h2 (by simp)
 | cons r L ih =>
  obtain ⟨a, b, c, d, e⟩ := h
  intro j i h1 h2
  cases i with
  | zero => exact absurd h1 (by omega)
  | succ i =>
   have hi : i < L.length := by simpa using h2
   cases j with
   | zero =>
    have := rows_in e _ (el_mem (t := W2) hi)
    exact this.1
   | succ j => exact ih e j i (by omega) hi
theorem regions_of {L : List (Int × Int)} (h : Rows 0 L) (h1 : 1 ≤ L.length) (h4 : L.length ≤ 4) : RegionsOk L := by
 refine ⟨fun i hi => ⟨?_, fun j hj ho => ?_⟩, h1, h4⟩
 ·have := rows_in h _ (el_mem (t := W2) hi)
  exact ⟨this.1, this.2.1, by omega, by omega⟩
 ·exact absurd ho.1 (Int.not_lt.2 (rows_head h j i hj hi))
/-- A drawn text of code. -/
def CodeDrawn (s : ByteArray) : Prop := ∃ L, AllIns L ∧ L.length ≤ 46 ∧ s = chrs (codeB L)
structure Drawn (s : Setup) : Prop where
 rows : Rows 0 s.1
 n1 : 1 ≤ s.1.length
 n4 : s.1.length ≤ 4
 plan1 : 1 ≤ s.2.1.length
 plan5 : s.2.1.length ≤ 5
 plan : ∀ w, w ∈ s.2.1 → (1 ≤ w.1 ∧ w.1 ≤ (s.1.length : Int)) ∧ (1 ≤ w.2 ∧ w.2 ≤ 40)
 ports3 : s.2.2.1.length ≤ 3
 ports : ∀ p, p ∈ s.2.2.1 → PortOk p ∧ p.2.1 ≤ (s.1.length : Int) ∧ p.2.2.1 ≤ (s.1.length : Int)
 rules : RulesOk s.2.2.2.1
 rulesN : ∀ r, r ∈ s.2.2.2.1 → 1 ≤ r.1 ∧ r.1 ≤ (s.1.length : Int)
 codesN : s.2.2.2.2.length = s.1.length
 codes : ∀ c, c ∈ s.2.2.2.2 → CodeDrawn c
theorem l09Plan_ok {k : Nat} {c : List Int × Int × Int} {parts : Int} (hk : 1048576 < k) (h : Cur c) (hp : 1 ≤ parts ∧ parts ≤ 4) :
  Ok (spec_l09Plan.f k c parts) (fun r => 1 ≤ r.1.length ∧ r.1.length ≤ 5 ∧ (∀ w, w ∈ r.1 → (1 ≤ w.1 ∧ w.1 ≤ parts) ∧ (1 ≤ w.2 ∧ w.2 ≤ 40)) ∧ Cur (c.1, r.2.2)) := by
 unfold spec_l09Plan.f
 refine ok_let ?_
 refine ok_loop (L := spec_l09Plan.l1 k) (I := fun d s => ∃ (j : Nat) (ci ch : Int) (L : List (Int × Int)), s = (parts, (j : Int), ci, ch, c.1, L, ()) ∧ j + d = 5 ∧ Cur (c.1, ci, ch) ∧ L.length = j ∧ ∀ w, w ∈ L → (1 ≤ w.1 ∧ w.1 ≤ parts) ∧ (1 ≤ w.2 ∧ w.2 ≤ 40)) ?_ k 5 _ (by omega) ⟨0, _, _, [], rfl, by omega, h, rfl, fun w hw => by cases hw⟩
 rintro d n s ⟨j, ci, ch, L, rfl, hd, hc, hL, hw⟩ ih
 rw [spec_l09Plan.l1]
 refine ok_bind (below_lt hc (by omega)) (fun r2 h2 => ?_)
 rw [w64_id (z := 1 + r2.1) (by omega) (by omega)]
 refine ok_if (fun hlt => ?_) (fun hge => ok_some ⟨by dsimp only; omega, by dsimp only; omega, hw, h2.2.2⟩)
 refine ok_bind (below_lt h2.2.2 (by omega)) (fun r3 h3 => ok_bind (below_lt h3.2.2 (by omega)) (fun r4 h4 => ok_let ?_))
 rw [w64_id (z := 1 + r3.1) (by omega) (by omega), w64_id (z := 1 + r4.1) (by omega) (by omega)]
 refine ok_grd (by simp only [List.length_cons, List.length_nil]; omega) (ok_let ?_)
 have h5 : w64 ((j : Int) + 1) = ((j + 1 : Nat) : Int) := w64_id (by omega) (by omega)
 rw [h5]
 refine ih (d - 1) _ (by omega) ⟨j + 1, _, _, _, rfl, by omega, h4.2.2, by simp [hL], fun w hw' => ?_⟩
 rcases List.mem_append.1 hw' with h' | h'
 ·exact hw w h'
 ·rw [List.mem_singleton.1 h']
  dsimp only
  omega
theorem l11Setup_ok {k : Nat} {c : List Int × Int × Int} (hk : 1048576 < k) (h : Cur c) : Ok (spec_l11Setup.f k c) (fun r => Drawn r.1 ∧ Cur (c.1, r.2.2)) := by
 unfold spec_l11Setup.f
 refine ok_bind (l04Regions_ok hk h) (fun r1 h1 => ok_bind (l09Plan_ok hk h1.2.2.2 (by have := h1.2; omega)) (fun r2 h2 => ok_bind (l10Rules_ok hk h2.2.2.2 (by have := h1.2; omega)) (fun r3 h3 => ?_)))
 obtain ⟨hR, hn1, hn4, -⟩ := h1
 obtain ⟨hp1, hp5, hpl, -⟩ := h2
 obtain ⟨hru, hrn, hc3⟩ := h3
 generalize r1.1 = R at hR hn1 hn4 hpl hrn
 generalize r2.1 = W at hp1 hp5 hpl
 generalize r3.1 = U at hru hrn
 refine ok_loop (L := spec_l11Setup.l1 k) (I := fun d s => ∃ (j : Nat) (ci ch : Int) (P : List Port5), s = ((R.length : Int), (j : Int), ci, ch, c.1, [], [], [], [], [], R, W, P, U, [], ()) ∧ j + d = 4 ∧ Cur (c.1, ci, ch) ∧ P.length ≤ j ∧ j ≤ 3 ∧ ∀ p, p ∈ P → PortOk p ∧ p.2.1 ≤ (R.length : Int) ∧ p.2.2.1 ≤ (R.length : Int)) ?_ k 4 _ (by omega) ⟨0, _, _, [], rfl, by omega, hc3, Nat.le_refl 0, by omega, fun p hp => by cases hp⟩
 rintro d n s ⟨j, ci, ch, P, rfl, hd, hc, hP, hj, hpp⟩ ih
 rw [spec_l11Setup.l1]
 refine ok_bind (below_lt hc (by omega)) (fun r4 h4 => ok_if (fun hlt => ?_) (fun hge => ?_))
 ·have h5 : w64 ((j : Int) + 1) = ((j + 1 : Nat) : Int) := w64_id (by omega) (by omega)
  refine ok_bind (l08Port_ok h4.2.2) (fun r5 h6 => ?_)
  rw [h5]
  have skip := ih (d - 1) ((R.length : Int), ((j + 1 : Nat) : Int), r5.2.2.1, r5.2.2.2, c.1, [], [], [], [], [], R, W, P, U, [], ()) (by omega) ⟨j + 1, _, _, P, rfl, by omega, h6.2, by omega, by omega, hpp⟩
  refine ok_if (fun q1 => ok_if (fun q2 => ok_let (ok_grd (by simp only [List.length_cons, List.length_nil]; omega) (ok_let ?_))) (fun _ => skip)) (fun _ => skip)
  refine ih (d - 1) _ (by omega) ⟨j + 1, _, _, _, rfl, by omega, h6.2, by simp only [List.length_append, List.length_cons, List.length_nil]; omega, by omega, fun p hp => ?_⟩
  rcases List.mem_append.1 hp with h' | h'
  ·exact hpp p h'
  ·rw [List.mem_singleton.1 h']
   exact ⟨h6.1, q1, q2⟩
 ·clear ih hc hd
  refine ok_loop (L := spec_l11Setup.l2 k) (I := fun d s => ∃ (j : Nat) (ci ch : Int) (C : List ByteArray), s = ((R.length : Int), (j : Int), ci, ch, c.1, [], [], [], [], [], R, W, P, U, C, ()) ∧ j + d = R.length ∧ Cur (c.1, ci, ch) ∧ C.length = j ∧ ∀ c, c ∈ C → CodeDrawn c) ?_ k R.length _ (by omega) ⟨0, _, _, [], rfl, by omega, h4.2.2, rfl, fun p hp => by cases hp⟩
  rintro d m s ⟨i, ci, ch, C, rfl, hd, hc, hC, hcd⟩ ih
  rw [spec_l11Setup.l2]
  refine ok_if (fun hlt => ?_) (fun hge => ok_some ⟨⟨hR, hn1, hn4, hp1, hp5, hpl, by dsimp only; omega, hpp, hru, hrn, by dsimp only; omega, hcd⟩, hc⟩)
  refine ok_bind (l05Code_ok hk hc) (fun r8 h8 => ?_)
  have hl8 := h8.2.1
  have h5 : w64 ((i : Int) + 1) = ((i + 1 : Nat) : Int) := w64_id (by omega) (by omega)
  have ect : codeTextM r8.1 = (chrs (codeB r8.1), true) := by
   unfold codeTextM
   rw [B_yes (codeOk_of h8.1 (by omega)), if_pos rfl]
  rw [codeText_s (by omega) hk, ect, h5]
  refine ok_let (ok_let (ok_grd (by simp only [List.length_cons, List.length_nil]; omega) (ok_let ?_)))
  refine ih (d - 1) _ (by omega) ⟨i + 1, _, _, _, rfl, by omega, h8.2.2, by simp [hC], fun x hx => ?_⟩
  rcases List.mem_append.1 hx with h' | h'
  ·exact hcd x h'
  ·rw [List.mem_singleton.1 h']
   exact ⟨r8.1, h8.1, hl8, rfl⟩
theorem codeRead_of {s : ByteArray} (h : CodeDrawn s) : CodeRead s := by
 obtain ⟨L, h1, h2, rfl⟩ := h
 have := codeB_len L
 exact ⟨by rw [chrs_size, this]; omega, by rw [chrs_size, this]; omega⟩
theorem drawn_plan {s : Setup} (h : Drawn s) : PlanOk s.2.1 := ⟨fun i hi => by
  have := h.plan _ (el_mem (t := W2) hi)
  have h4 := h.n4
  exact ⟨by omega, by omega⟩, h.plan1, by have := h.plan5; omega⟩
theorem drawn_ports {s : Setup} (h : Drawn s) : PortsOk s.2.2.1 := ⟨fun i hi => (h.ports _ (el_mem (t := P5) hi)).1, by have := h.ports3; omega⟩
theorem drawn_codes {s : Setup} (h : Drawn s) : CodesOk s.2.2.2.2 (s.1.length : Int) := ⟨fun i hi => codeRead_of (h.codes _ (el_mem (t := .str) hi)), by rw [h.codesN]⟩
theorem drawn_parts {s : Setup} (h : Drawn s) : PartsOk s := ⟨fun i hi => (h.plan _ (el_mem (t := W2) hi)).1.2, fun i hi => (h.ports _ (el_mem (t := P5) hi)).2.1, fun i hi => (h.ports _ (el_mem (t := P5) hi)).2.2, fun i hi => (h.rulesN _ (el_mem (t := R3) hi)).2⟩
theorem drawn_small {s : Setup} (h : Drawn s) : Small s := ⟨by have := h.n4; omega, by have := h.plan5; omega, by have := h.ports3; omega, by have := h.rules.2; omega, by have := h.codesN; have := h.n4; omega⟩
theorem fault0 {s : Setup} (h1 : RegionsOk s.1) (h2 : PlanOk s.2.1) (h3 : PortsOk s.2.2.1) (h4 : RulesOk s.2.2.2.1) (h5 : CodesOk s.2.2.2.2 (s.1.length : Int)) (h6 : PartsOk s) : faultM s = 0 := by
 unfold faultM
 rw [B_yes h1, B_yes h2, B_yes h3, B_yes h4, B_yes h5, B_yes h6]
 rfl
theorem drawn_right {s : Setup} (h : Drawn s) : faultM s = 0 := fault0 (regions_of h.rows h.n1 h.n4) (drawn_plan h) (drawn_ports h) h.rules (drawn_codes h) (drawn_parts h)
end Go.Proofs.YtacpibmmodeacaaGreat.Pure
/- Drawn kernels. No condition. -/
namespace Go.Proofs.YtacpibmmodeacaaGreat.Pure
open Go Go.Proofs.YtacpibmmodeacaaGreatA Go.Proofs.YtacpibmmodeacaaGreatU Go.Proofs.YtacpibmmodeacaaGreat.QA
set_option linter.unusedVariables false
set_option linter.unusedSimpArgs false
/-- When all is stopped no register tells anything. -/
def StopZ (K : Kernel) : Prop := K.2.2.2.2.2.2.1 = true → K.2.2.2.2.1 = List.replicate 8 0
theorem stop_turn {K : Kernel} {ins : List Int} (h : StopZ K) : StopZ (turnK K ins) := by
 unfold turnK
 by_cases hc : B (KernelOk K) = true ∧ ¬ K.2.2.2.2.2.1 = 1000000000
 ·rw [if_pos hc]
  by_cases hs : K.2.2.2.2.2.2.1 = true ∨ (el PT K.2.2.1 ((winOf K).1 - 1).toNat).1 = 1
  ·rw [if_pos hs]
   exact h
  ·rw [if_neg hs]
   have hD : ¬ K.2.2.2.2.2.2.1 = true := fun g => hs (.inl g)
   unfold runTurn
   split
   ·exact fun g => absurd g hD
   ·unfold failK
    have es : ∀ (K' : Kernel) (p w : Int), (lateK K' p w).2.2.2.2.2.2.1 = K'.2.2.2.2.2.2.1 := fun K' p w => by unfold lateK; split <;> rfl
    have ea : ∀ (K' : Kernel) (p a : Int), ¬ K'.2.2.2.2.2.2.1 = true → StopZ (actK K' p a) := fun K' p a hn => by
     unfold actK
     split
     ·exact fun g => absurd g hn
     split
     ·exact fun g => absurd g hn
     split
     ·exact fun g => absurd g hn
     split
     ·exact fun _ => rfl
     ·exact fun g => absurd g hn
    refine ea _ _ _ ?_
    show ¬ (lateK _ _ _).2.2.2.2.2.2.1 = true
    rw [es]
    exact hD
 ·rw [if_neg hc]
  exact h
structure DrawnK (K : Kernel) : Prop where
 good : Good 12 K
 time : 0 ≤ K.2.2.2.2.2.1 ∧ K.2.2.2.2.2.1 ≤ 12
 setup : Drawn K.1
 stop : StopZ K
theorem ins_ok {k : Nat} {c : List Int × Int × Int} (hk : 1048576 < k) (h : Cur c) : Ok (spec_l12Ins.f k c) (fun r => Cur (c.1, r.2.2) ∧ r.1.length ≤ 4) := by
 obtain ⟨b, ci, ch⟩ := c
 unfold spec_l12Ins.f
 refine ok_let ?_
 refine ok_loop (L := spec_l12Ins.l1 k) (I := fun d s => ∃ (j : Nat) (ci ch : Int) (L : List Int), s = ((j : Int), ci, ch, b, L, ()) ∧ j + d = 4 ∧ Cur (b, ci, ch) ∧ L.length = j) ?_ k 4 _ (by omega) ⟨0, ci, ch, [], rfl, by omega, h, rfl⟩
 rintro d n s ⟨j, ci, ch, L, rfl, hd, hc, hL⟩ ih
 rw [spec_l12Ins.l1]
 refine ok_bind (below_lt hc (by omega)) (fun r hr => ?_)
 have h4 : w64 ((j : Int) + 1) = ((j + 1 : Nat) : Int) := w64_id (by omega) (by omega)
 refine ok_if (fun hlt => ?_) (fun hge => ok_some ⟨hr.2.2, by dsimp only; omega⟩)
 refine ok_bind (below_lt hr.2.2 (by omega)) (fun q hq => ?_)
 refine ok_let (ok_grd (by simp only [List.length_cons, List.length_nil]; omega) (ok_let ?_))
 rw [h4]
 exact ih (d - 1) _ (by have := hr.2.1; omega) ⟨j + 1, _, _, _, rfl, by have := hr.2.1; omega, hq.2.2, by rw [List.length_append, List.length_cons, List.length_nil]; omega⟩
theorem l12Kernel_ok {k : Nat} {c : List Int × Int × Int} (hk : 1048576 < k) (h : Cur c) : Ok (spec_l12Kernel.f k c) (fun r => DrawnK r.1 ∧ Cur (c.1, r.2.2)) := by
 obtain ⟨b, ci, ch⟩ := c
 unfold spec_l12Kernel.f
 refine ok_bind (l11Setup_ok hk h) (fun r1 h1 => ?_)
 obtain ⟨S, hS⟩ : ∃ S, S = r1.1 := ⟨_, rfl⟩
 have hD : Drawn S := by rw [hS]; exact h1.1
 have hf := drawn_right hD
 rw [← hS]
 refine ok_bind' (r := (newK S, 0)) ((kernelNew_s (drawn_small hD) hk).trans (by rw [if_pos hf])) ?_
 refine ok_loop (L := spec_l12Kernel.l1 k) (I := fun d s => ∃ (j : Nat) (ci ch : Int) (K : Kernel), s = ((j : Int), ci, ch, 0, false, K.2.2.2.2.2.1, K.2.2.2.2.2.2.1, b, [], [], [], [], [], [], [], [], [], [], K.1.1, K.1.2.1, K.1.2.2.1, K.1.2.2.2.1, K.1.2.2.2.2, K.2.1, K.2.2.1, K.2.2.2.1, K.2.2.2.2.1, K.2.2.2.2.2.2.2, ()) ∧ j + d = 12 ∧ Cur (b, ci, ch) ∧ Good (j : Int) K ∧ K.2.2.2.2.2.1 = (j : Int) ∧ K.1 = S ∧ StopZ K) ?_ k 12 _ (by omega) ⟨0, _, _, newK S, rfl, by omega, h1.2, new_good hf, rfl, rfl, fun g => by cases g⟩
 rintro d n s ⟨j, ci, ch, K, rfl, hd, hc, hG, hT, hKS, hZ⟩ ih
 rw [spec_l12Kernel.l1]
 refine ok_bind (below_lt hc (by omega)) (fun r hr => ?_)
 have h4 : w64 ((j : Int) + 1) = ((j + 1 : Nat) : Int) := w64_id (by omega) (by omega)
 refine ok_if (fun hlt => ?_) (fun hge => ok_some ⟨⟨hG.up (by omega), by rw [show ((K.1.1, K.1.2.1, K.1.2.2.1, K.1.2.2.2.1, K.1.2.2.2.2), K.2.1, K.2.2.1, K.2.2.2.1, K.2.2.2.2.1, K.2.2.2.2.2.1, K.2.2.2.2.2.2.1, K.2.2.2.2.2.2.2) = K from rfl, hT]; omega, by rw [show ((K.1.1, K.1.2.1, K.1.2.2.1, K.1.2.2.2.1, K.1.2.2.2.2), K.2.1, K.2.2.1, K.2.2.2.1, K.2.2.2.2.1, K.2.2.2.2.2.1, K.2.2.2.2.2.2.1, K.2.2.2.2.2.2.2) = K from rfl, hKS]; exact hD, hZ⟩, hr.2.2⟩)
 refine ok_bind (ins_ok hk hr.2.2) (fun q hq => ?_)
 have ht : spec_TurnOf.f k ((K.1.1, K.1.2.1, K.1.2.2.1, K.1.2.2.2.1, K.1.2.2.2.2), K.2.1, K.2.2.1, K.2.2.2.1, K.2.2.2.2.1, K.2.2.2.2.2.1, K.2.2.2.2.2.2.1, K.2.2.2.2.2.2.2) q.1 = some (turnK K q.1) := turn_s hG.small hG.st hG.log hk
 refine ok_bind' ht ?_
 rw [h4]
 have hr2 := hr.2.1
 exact ih (d - 1) _ (by omega) ⟨j + 1, _, _, turnK K q.1, rfl, by omega, hq.1, (turn_good hG (by omega)).up (by omega), by rw [turn_turn hG (by omega), hT]; omega, by rw [turn_setup]; exact hKS, stop_turn hZ⟩
end Go.Proofs.YtacpibmmodeacaaGreat.Pure
