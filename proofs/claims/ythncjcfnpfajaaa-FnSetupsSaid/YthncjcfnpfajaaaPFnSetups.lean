/- The plain words and the plain law of FnSetups. No condition. -/
import Derived.Test.YthncjcfnpfajaaaUWords
import Derived.Test.YthncjcfnpfajaaaBQA
import Derived.Test.YthncjcfnpfajaaaQFnSetups
/- Numbers within bounds, as both programs ask it. No condition. -/
namespace Go.Proofs.Ythncjcfnpfajaaa.Pure
open Go Go.Proofs.YthncjcfnpfajaaaA Go.Proofs.YthncjcfnpfajaaaU Go.Proofs.Ythncjcfnpfajaaa.QA
set_option linter.unusedVariables false
theorem in_s {k : Nat} (x lo hi : Int) : spec_l01In.f k x lo hi = some (decide (lo ≤ x ∧ x ≤ hi)) := by
 unfold spec_l01In.f
 by_cases h : lo ≤ x <;> simp [h]
theorem in_i {k : Nat} (x lo hi : Int) : impl_within.f k x lo hi = some (decide (lo ≤ x ∧ x ≤ hi)) := by
 unfold impl_within.f
 by_cases h : lo ≤ x <;> simp [h]
end Go.Proofs.Ythncjcfnpfajaaa.Pure
/- Ports: when they are right; what is sent and taken by the program. No condition. -/
namespace Go.Proofs.Ythncjcfnpfajaaa.Pure
open Go Go.Proofs.YthncjcfnpfajaaaA Go.Proofs.YthncjcfnpfajaaaU Go.Proofs.Ythncjcfnpfajaaa.QA
set_option linter.unusedVariables false
set_option linter.unusedSimpArgs false
abbrev Port5 := Int × Int × Int × Int × Int
structure PortOk (p : Port5) : Prop where
 fr : 1 ≤ p.2.1 ∧ p.2.1 ≤ 4
 tp : 1 ≤ p.2.2.1 ∧ p.2.2.1 ≤ 4
 ne : ¬ p.2.1 = p.2.2.1
 kd : (p.1 = 1 ∧ (1 ≤ p.2.2.2.1 ∧ p.2.2.2.1 ≤ 6) ∧ p.2.2.2.2 = 0) ∨ (p.1 = 2 ∧ p.2.2.2.1 = 1 ∧ (1 ≤ p.2.2.2.2 ∧ p.2.2.2.2 ≤ 100))
theorem isPart_p {k : Nat} (x : Int) : impl_isPart.f k x = some (decide (1 ≤ x ∧ x ≤ 4)) := by
 unfold impl_isPart.f
 rw [in_i]
 rfl
theorem portOk_i {k : Nat} {p : Port5} : impl_PortOk.f k p = some (B (PortOk p)) := by
 refine ok_eq ?_
 unfold impl_PortOk.f
 simp only [isPart_p, in_i, Option.bind_some, decide_eq_true_eq]
 have no : ¬ PortOk p → Ok (some false) (fun r => r = B (PortOk p)) := fun h => ok_some (B_no h).symm
 refine ok_if (fun h => no (fun g => h g.fr)) (fun h1 => ok_if (fun h => no (fun g => h g.tp)) (fun h2 => ok_if (fun h => no (fun g => g.ne h)) (fun h3 => ok_if (fun h4 => ?_) (fun h4 => ?_))))
 ·refine ok_if (fun h5 => ok_some (B_of (decide_eq_true_iff.trans ⟨fun h => ⟨Classical.not_not.1 h1, Classical.not_not.1 h2, h3, .inl ⟨h4, h5, h⟩⟩, fun g => ?_⟩))) (fun h5 => no (fun g => ?_))
  ·rcases g.kd with h | h
   ·exact h.2.2
   ·exact absurd h.1 (by omega)
  ·rcases g.kd with h | h
   ·exact h5 h.2.1
   ·exact absurd h.1 (by omega)
 ·refine ok_if (fun h5 => ok_if (fun h6 => ok_some (B_of (decide_eq_true_iff.trans ⟨fun h => ⟨Classical.not_not.1 h1, Classical.not_not.1 h2, h3, .inr ⟨h5, h6, h⟩⟩, fun g => ?_⟩))) (fun h6 => no (fun g => ?_))) (fun h5 => no (fun g => ?_))
  ·rcases g.kd with h | h
   ·exact absurd h.1 h4
   ·exact h.2.2
  ·rcases g.kd with h | h
   ·exact h4 h.1
   ·exact h6 h.2.1
  ·rcases g.kd with h | h
   ·exact h4 h.1
   ·exact h5 h.1
end Go.Proofs.Ythncjcfnpfajaaa.Pure
/- Ports: when the reference tells that they are right. No condition. -/
namespace Go.Proofs.Ythncjcfnpfajaaa.Pure
open Go Go.Proofs.YthncjcfnpfajaaaA Go.Proofs.YthncjcfnpfajaaaU Go.Proofs.Ythncjcfnpfajaaa.QA
set_option linter.unusedVariables false
set_option linter.unusedSimpArgs false
theorem portOk_s {k : Nat} {p : Port5} : spec_PortOk.f k p = some (B (PortOk p)) := by
 have h : spec_PortOk.f k p = impl_PortOk.f k p := by
  unfold spec_PortOk.f impl_PortOk.f
  simp only [isPart_p, in_i, in_s, Option.bind_some]
 rw [h, portOk_i]
end Go.Proofs.Ythncjcfnpfajaaa.Pure
/- Rules: which one is first, and when they are right. No condition. -/
namespace Go.Proofs.Ythncjcfnpfajaaa.Pure
open Go Go.Proofs.YthncjcfnpfajaaaA Go.Proofs.YthncjcfnpfajaaaU Go.Proofs.Ythncjcfnpfajaaa.QA
set_option linter.unusedVariables false
abbrev R3 : Ty := .pair (.int .i64) (.pair (.int .i64) (.int .i64))
def Fits (r : Int × Int × Int) (p f : Int) : Prop := r.1 = p ∧ r.2.1 = f
instance (r : Int × Int × Int) (p f : Int) : Decidable (Fits r p f) := inferInstanceAs (Decidable (_ ∧ _))
theorem ruleFor_ok {k : Nat} {L : List (Int × Int × Int)} {p f : Int} (hl : L.length ≤ 1048576) (hk : 1048576 < k) :
  Ok (impl_ruleFor.f k L p f) (fun r => (r = -1 ∧ ∀ j, j < L.length → ¬ Fits (el R3 L j) p f) ∨ ∃ i : Nat, r = (i : Int) ∧ i < L.length ∧ Fits (el R3 L i) p f ∧ ∀ j, j < i → ¬ Fits (el R3 L j) p f) := by
 unfold impl_ruleFor.f
 refine ok_loop (L := impl_ruleFor.l1 k) (I := fun d s => ∃ j : Nat, s = (p, f, (L.length : Int), (j : Int), L, ()) ∧ j + d = L.length ∧ ∀ i, i < j → ¬ Fits (el R3 L i) p f) ?_ k L.length _ (by omega) ⟨0, rfl, by omega, fun i hi => absurd hi (by omega)⟩
 rintro d n s ⟨j, rfl, hd, hq⟩ ih
 rw [impl_ruleFor.l1]
 refine ok_if (fun hc => ?_) (fun hc => ok_some (.inl ⟨rfl, fun i hi => hq i (by omega)⟩))
 rw [if_pos (by omega), if_pos hc]
 simp only [Int.toNat_natCast]
 have h4 : w64 ((j : Int) + 1) = ((j + 1 : Nat) : Int) := w64_id (by omega) (by omega)
 rw [h4]
 have go : ¬ Fits (el R3 L j) p f → Ok (impl_ruleFor.l1 k n (p, f, (L.length : Int), ((j + 1 : Nat) : Int), L, ())) _ := fun hf => ih (d - 1) _ (by omega) ⟨j + 1, rfl, by omega, fun i hi => by
  rcases Nat.lt_or_ge i j with h | h
  ·exact hq i h
  ·obtain rfl : i = j := by omega
   exact hf⟩
 refine ok_if (fun h1 => ok_if (fun h2 => ok_some (.inr ⟨j, rfl, by omega, ⟨h1, h2⟩, hq⟩)) (fun h2 => go (fun h => h2 h.2))) (fun h1 => go (fun h => h1 h.1))
/-! ### rules that are right -/
def RuleIn (r : Int × Int × Int) : Prop := (1 ≤ r.1 ∧ r.1 ≤ 4) ∧ (1 ≤ r.2.1 ∧ r.2.1 ≤ 2) ∧ (0 ≤ r.2.2 ∧ r.2.2 ≤ 4) ∧ ¬ (r.2.1 = 1 ∧ r.2.2 = 0)
def RuleAt (L : List (Int × Int × Int)) (i : Nat) : Prop := RuleIn (el R3 L i) ∧ ∀ j, j < i → ¬ Fits (el R3 L j) (el R3 L i).1 (el R3 L i).2.1
def RulesOk (L : List (Int × Int × Int)) : Prop := (∀ i, i < L.length → RuleAt L i) ∧ L.length ≤ 8
theorem isPart_i {k : Nat} (x : Int) : impl_isPart.f k x = some (decide (1 ≤ x ∧ x ≤ 4)) := by
 unfold impl_isPart.f
 rw [in_i]
 rfl
theorem rulesOk_i {k : Nat} {L : List (Int × Int × Int)} (hl : L.length ≤ 1048576) (hk : 1048576 < k) : impl_RulesOk.f k L = some (B (RulesOk L)) := by
 refine ok_eq ?_
 unfold impl_RulesOk.f
 refine ok_loop (L := impl_RulesOk.l1 k) (I := fun d s => ∃ j : Nat, s = ((L.length : Int), (j : Int), L, ()) ∧ j + d = L.length ∧ ∀ i, i < j → RuleAt L i) ?_ k L.length _ (by omega) ⟨0, rfl, by omega, fun i hi => absurd hi (by omega)⟩
 rintro d n s ⟨j, rfl, hd, hq⟩ ih
 rw [impl_RulesOk.l1]
 refine ok_if (fun hc => ?_) (fun hc => ok_some ?_)
 ·rw [if_pos (by omega), if_pos hc]
  simp only [Int.toNat_natCast, isPart_i, in_i, Option.bind_some, decide_eq_true_eq]
  have h4 : w64 ((j : Int) + 1) = ((j + 1 : Nat) : Int) := w64_id (by omega) (by omega)
  rw [h4]
  have bad : ¬ RuleAt L j → Ok (some false) (fun r => r = B (RulesOk L)) := fun h => ok_some (B_no (fun hr => h (hr.1 j (by omega)))).symm
  have go : RuleAt L j → Ok (impl_RulesOk.l1 k n ((L.length : Int), ((j + 1 : Nat) : Int), L, ())) (fun r => r = B (RulesOk L)) := fun hf => ih (d - 1) _ (by omega) ⟨j + 1, rfl, by omega, fun i hi => by
   rcases Nat.lt_or_ge i j with h | h
   ·exact hq i h
   ·obtain rfl : i = j := by omega
    exact hf⟩
  refine ok_if (fun h1 => bad (fun h => h1 h.1.1)) (fun h1 => ok_if (fun h2 => bad (fun h => h2 h.1.2.1)) (fun h2 => ok_if (fun h3 => bad (fun h => h3 h.1.2.2.1)) (fun h3 => ?_)))
  refine ok_bind (ruleFor_ok hl hk) (fun r hr => ?_)
  refine ok_if (fun h5 => bad (fun h => ?_)) (fun h5 => ?_)
  ·rcases hr with ⟨rfl, hn⟩ | ⟨i, rfl, hi, hf, hn⟩
   ·exact hn j (by omega) ⟨rfl, rfl⟩
   ·rcases Nat.lt_trichotomy i j with h' | h' | h'
    ·exact h.2 i h' hf
    ·exact h5 (by omega)
    ·exact hn j h' ⟨rfl, rfl⟩
  ·have h5' := Classical.not_not.1 h5
   have hn : ∀ i, i < j → ¬ Fits (el R3 L i) (el R3 L j).1 (el R3 L j).2.1 := by
    rcases hr with ⟨rfl, hn⟩ | ⟨i, rfl, hi, hf, hn⟩
    ·exact absurd h5' (by omega)
    ·obtain rfl : i = j := by omega
     exact hn
   have g : ¬ ((el R3 L j).2.1 = 1 ∧ (el R3 L j).2.2 = 0) → RuleAt L j := fun h6 => ⟨⟨Classical.not_not.1 h1, Classical.not_not.1 h2, Classical.not_not.1 h3, h6⟩, hn⟩
   exact ok_if (fun h6 => ok_if (fun h7 => bad (fun h => h.1.2.2.2 ⟨h6, h7⟩)) (fun h7 => go (g (fun h => h7 h.2)))) (fun h6 => go (g (fun h => h6 h.1)))
 ·refine B_of (decide_eq_true_iff.trans ⟨fun h => ⟨fun i hi => hq i (by omega), by omega⟩, fun h => ?_⟩)
  have := h.2
  omega
theorem rulesOk_s {k : Nat} {L : List (Int × Int × Int)} (hl : L.length ≤ 1048576) (hk : 1048576 < k) : spec_RulesOk.f k L = some (B (RulesOk L)) := by
 refine ok_eq ?_
 unfold spec_RulesOk.f
 refine ok_loop (L := spec_RulesOk.l1 k) (I := fun d s => ∃ j : Nat, s = ((j : Int), L, ()) ∧ j + d = L.length ∧ ∀ i, i < j → RuleAt L i) ?_ k L.length _ (by omega) ⟨0, rfl, by omega, fun i hi => absurd hi (by omega)⟩
 rintro d n s ⟨j, rfl, hd, hq⟩ ih
 rw [spec_RulesOk.l1]
 refine ok_if (fun hc => ?_) (fun hc => ok_some ?_)
 ·rw [if_pos (by omega), if_pos hc]
  simp only [Int.toNat_natCast, in_s, Option.bind_some, decide_eq_true_eq]
  have h4 : w64 ((j : Int) + 1) = ((j + 1 : Nat) : Int) := w64_id (by omega) (by omega)
  have bad : ¬ RuleAt L j → Ok (some false) (fun r => r = B (RulesOk L)) := fun h => ok_some (B_no (fun hr => h (hr.1 j (by omega)))).symm
  have go : RuleAt L j → Ok (spec_RulesOk.l1 k n (((j + 1 : Nat) : Int), L, ())) (fun r => r = B (RulesOk L)) := fun hf => ih (d - 1) _ (by omega) ⟨j + 1, rfl, by omega, fun i hi => by
   rcases Nat.lt_or_ge i j with h | h
   ·exact hq i h
   ·obtain rfl : i = j := by omega
    exact hf⟩
  refine ok_if (fun h1 => bad (fun h => h1 h.1.1)) (fun h1 => ok_if (fun h2 => bad (fun h => h2 h.1.2.1)) (fun h2 => ok_if (fun h3 => bad (fun h => h3 h.1.2.2.1)) (fun h3 => ?_)))
  have inner : ¬ ((el R3 L j).2.1 = 1 ∧ (el R3 L j).2.2 = 0) → Ok (spec_RulesOk.l2 k (spec_RulesOk.l1 k n) k ((j : Int), 0, (el R3 L j).1, (el R3 L j).2.1, (el R3 L j).2.2, L, ())) (fun r => r = B (RulesOk L)) := fun h6 => by
   refine ok_loop (L := spec_RulesOk.l2 k (spec_RulesOk.l1 k n)) (I := fun e s => ∃ i : Nat, s = ((j : Int), (i : Int), (el R3 L j).1, (el R3 L j).2.1, (el R3 L j).2.2, L, ()) ∧ i + e = j ∧ ∀ i', i' < i → ¬ Fits (el R3 L i') (el R3 L j).1 (el R3 L j).2.1) ?_ k j _ (by omega) ⟨0, rfl, by omega, fun i hi => absurd hi (by omega)⟩
   rintro e n' s ⟨i, rfl, he, hi⟩ ih2
   rw [spec_RulesOk.l2]
   refine ok_if (fun hc2 => ?_) (fun hc2 => ?_)
   ·have c0 : (0 : Int) ≤ (i : Int) := by omega
    have c1 : (i : Int) < (L.length : Int) := by omega
    have c2 : w64 ((i : Int) + 1) = ((i + 1 : Nat) : Int) := w64_id (by omega) (by omega)
    simp only [c0, c1, c2, ↓reduceIte, Int.toNat_natCast]
    have go2 : ¬ Fits (el R3 L i) (el R3 L j).1 (el R3 L j).2.1 → Ok (spec_RulesOk.l2 k (spec_RulesOk.l1 k n) n' ((j : Int), ((i + 1 : Nat) : Int), (el R3 L j).1, (el R3 L j).2.1, (el R3 L j).2.2, L, ())) (fun r => r = B (RulesOk L)) := fun hf => ih2 (e - 1) _ (by omega) ⟨i + 1, rfl, by omega, fun i' hi' => by
     rcases Nat.lt_or_ge i' i with h | h
     ·exact hi i' h
     ·obtain rfl : i' = i := by omega
      exact hf⟩
    exact ok_if (fun f1 => ok_if (fun f2 => bad (fun h => h.2 i (by omega) ⟨f1, f2⟩)) (fun f2 => go2 (fun h => f2 h.2))) (fun f1 => go2 (fun h => f1 h.1))
   ·rw [h4]
    exact go ⟨⟨Classical.not_not.1 h1, Classical.not_not.1 h2, Classical.not_not.1 h3, h6⟩, fun i' hi' => hi i' (by omega)⟩
  exact ok_if (fun h6 => ok_if (fun h7 => bad (fun h => h.1.2.2.2 ⟨h6, h7⟩)) (fun h7 => inner (fun h => h7 h.2))) (fun h6 => inner (fun h => h6 h.1))
 ·refine B_of (decide_eq_true_iff.trans ⟨fun h => ⟨fun i hi => hq i (by omega), by omega⟩, fun h => ?_⟩)
  have := h.2
  omega
end Go.Proofs.Ythncjcfnpfajaaa.Pure
/- Plans: their time, and when they are right. No condition. -/
namespace Go.Proofs.Ythncjcfnpfajaaa.Pure
open Go Go.Proofs.YthncjcfnpfajaaaA Go.Proofs.YthncjcfnpfajaaaU Go.Proofs.Ythncjcfnpfajaaa.QA
set_option linter.unusedVariables false
abbrev W2 : Ty := .pair (.int .i64) (.int .i64)
def WinOk (w : Int × Int) : Prop := (1 ≤ w.1 ∧ w.1 ≤ 4) ∧ (1 ≤ w.2 ∧ w.2 ≤ 200)
def PlanOk (L : List (Int × Int)) : Prop := (∀ i, i < L.length → WinOk (el W2 L i)) ∧ 1 ≤ L.length ∧ L.length ≤ 12
theorem isPart_i' {k : Nat} (x : Int) : impl_isPart.f k x = some (decide (1 ≤ x ∧ x ≤ 4)) := by
 unfold impl_isPart.f
 rw [in_i]
 rfl
theorem isBudget_i {k : Nat} (x : Int) : impl_isBudget.f k x = some (decide (1 ≤ x ∧ x ≤ 200)) := by
 unfold impl_isBudget.f
 rw [in_i]
 rfl
theorem planOk_i {k : Nat} {L : List (Int × Int)} (hl : L.length ≤ 1048576) (hk : 1048576 < k) : impl_PlanOk.f k L = some (B (PlanOk L)) := by
 refine ok_eq ?_
 unfold impl_PlanOk.f
 refine ok_loop (L := impl_PlanOk.l1 k) (I := fun d s => ∃ j : Nat, s = ((L.length : Int), (j : Int), L, ()) ∧ j + d = L.length ∧ ∀ i, i < j → WinOk (el W2 L i)) ?_ k L.length _ (by omega) ⟨0, rfl, by omega, fun i hi => absurd hi (by omega)⟩
 rintro d n s ⟨j, rfl, hd, hq⟩ ih
 rw [impl_PlanOk.l1]
 refine ok_if (fun hc => ?_) (fun hc => ?_)
 ·rw [if_pos (by omega), if_pos hc]
  simp only [Int.toNat_natCast, isPart_i', isBudget_i, Option.bind_some, decide_eq_true_eq]
  have h4 : w64 ((j : Int) + 1) = ((j + 1 : Nat) : Int) := w64_id (by omega) (by omega)
  rw [h4]
  have bad : ¬ WinOk (el W2 L j) → Ok (some false) (fun r => r = B (PlanOk L)) := fun h => ok_some (B_no (fun hr => h (hr.1 j (by omega)))).symm
  refine ok_if (fun h => bad (fun g => h g.1)) (fun h1 => ok_if (fun h => bad (fun g => h g.2)) (fun h2 => ?_))
  exact ih (d - 1) _ (by omega) ⟨j + 1, rfl, by omega, fun i hi => by
   rcases Nat.lt_or_ge i j with h | h
   ·exact hq i h
   ·obtain rfl : i = j := by omega
    exact ⟨Classical.not_not.1 h1, Classical.not_not.1 h2⟩⟩
 ·rw [in_i]
  refine ok_let (ok_some ?_)
  refine B_of (decide_eq_true_iff.trans ⟨fun h => ⟨fun i hi => hq i (by omega), by omega, by omega⟩, fun h => ?_⟩)
  have := h.2
  omega
end Go.Proofs.Ythncjcfnpfajaaa.Pure
/- Set-ups: their faults. No condition. -/
namespace Go.Proofs.Ythncjcfnpfajaaa.Pure
open Go Go.Proofs.YthncjcfnpfajaaaA Go.Proofs.YthncjcfnpfajaaaU Go.Proofs.Ythncjcfnpfajaaa.QA
set_option linter.unusedVariables false
set_option linter.unusedSimpArgs false
abbrev P5 : Ty := .pair (.int .i64) (.pair (.int .i64) (.pair (.int .i64) (.pair (.int .i64) (.int .i64))))
abbrev Setup := List (Int × Int) × List (Int × Int) × List Port5 × List (Int × Int × Int) × List ByteArray
theorem allS {p : Nat → Prop} {j : Nat} (h : ∀ i, i < j → p i) (hj : p j) : ∀ i, i < j + 1 → p i := fun i hi => by
 rcases Nat.lt_or_ge i j with h' | h'
 ·exact h i h'
 ·obtain rfl : i = j := by omega
  exact hj
/-! ### regions -/
def RegIn (r : Int × Int) : Prop := 0 ≤ r.1 ∧ 1 ≤ r.2 ∧ r.2 ≤ 64 ∧ r.1 ≤ 64 - r.2
def Over (r o : Int × Int) : Prop := r.1 < o.1 + o.2 ∧ o.1 < r.1 + r.2
def RegAt (L : List (Int × Int)) (i : Nat) : Prop := RegIn (el W2 L i) ∧ ∀ j, j < i → ¬ Over (el W2 L i) (el W2 L j)
def RegionsOk (L : List (Int × Int)) : Prop := (∀ i, i < L.length → RegAt L i) ∧ 1 ≤ L.length ∧ L.length ≤ 4
theorem regionsOk_i {k : Nat} {L : List (Int × Int)} (hl : L.length ≤ 1048576) (hk : 1048576 < k) : impl_RegionsOk.f k L = some (B (RegionsOk L)) := by
 refine ok_eq ?_
 unfold impl_RegionsOk.f
 refine ok_loop (L := impl_RegionsOk.l1 k) (I := fun d s => ∃ j : Nat, s = ((L.length : Int), (j : Int), L, ()) ∧ j + d = L.length ∧ ∀ i, i < j → RegAt L i) ?_ k L.length _ (by omega) ⟨0, rfl, by omega, fun i hi => absurd hi (by omega)⟩
 rintro d n s ⟨j, rfl, hd, hq⟩ ih
 rw [impl_RegionsOk.l1]
 refine ok_if (fun hc => ?_) (fun hc => ?_)
 ·have hj : j < L.length := by omega
  have c0 : (0 : Int) ≤ (j : Int) := by omega
  have c1 : (j : Int) ≤ (L.length : Int) := by omega
  have h4 : w64 ((j : Int) + 1) = ((j + 1 : Nat) : Int) := w64_id (by omega) (by omega)
  have bad : ¬ RegAt L j → Ok (some false) (fun r => r = B (RegionsOk L)) := fun h => ok_some (B_no (fun hr => h (hr.1 j hj))).symm
  have go : RegAt L j → Ok (impl_RegionsOk.l1 k n ((L.length : Int), ((j + 1 : Nat) : Int), L, ())) (fun r => r = B (RegionsOk L)) := fun h => ih (d - 1) _ (by omega) ⟨j + 1, rfl, by omega, allS hq h⟩
  obtain ⟨fr, z, hxe⟩ : ∃ fr z : Int, el W2 L j = (fr, z) := ⟨_, _, rfl⟩
  unfold RegAt at bad go
  rw [hxe] at bad go
  simp only [c0, c1, hc, ↓reduceIte, Int.toNat_natCast, show el (.pair (.int .i64) (.int .i64)) L j = (fr, z) from hxe]
  refine ok_if (fun (h1 : fr < (0 : Int)) => bad (fun h => ?_)) (fun (h1 : ¬ fr < (0 : Int)) => ok_if (fun (h2 : z < (1 : Int)) => bad (fun h => ?_)) (fun (h2 : ¬ z < (1 : Int)) => ok_if (fun (h3 : (64 : Int) < z) => bad (fun h => ?_)) (fun (h3 : ¬ (64 : Int) < z) => ?_)))
  ·have := h.1.1; dsimp only at this; omega
  ·have := h.1.2.1; dsimp only at this; omega
  ·have := h.1.2.2.1; dsimp only at this; omega
  ·rw [w64_id (z := 64 - z) (by omega) (by omega)]
   refine ok_if (fun (h5 : 64 - z < fr) => bad (fun h => ?_)) (fun (h5 : ¬ 64 - z < fr) => ?_)
   ·have := h.1.2.2.2; dsimp only at this; omega
   ·have hin : RegIn (fr, z) := ⟨by dsimp only; omega, by dsimp only; omega, by dsimp only; omega, by dsimp only; omega⟩
    have htl : (L.take j).length = j := by rw [List.length_take]; omega
    refine ok_loop (L := impl_RegionsOk.l2 k (impl_RegionsOk.l1 k n)) (I := fun e s => ∃ i : Nat, s = ((L.length : Int), (j : Int), ((j : Nat) : Int), (i : Int), fr, z, L, L.take j, ()) ∧ i + e = j ∧ ∀ i', i' < i → ¬ Over (fr, z) (el W2 L i')) ?_ k j _ (by omega) ⟨0, rfl, by omega, fun i hi => absurd hi (by omega)⟩
    rintro e n' s ⟨i, rfl, he, hi⟩ ih2
    rw [impl_RegionsOk.l2]
    refine ok_if (fun hc2 => ?_) (fun hc2 => ?_)
    ·have hij : i < j := by omega
     have c2 : (0 : Int) ≤ (i : Int) := by omega
     have c3 : (i : Int) < ((L.take j).length : Int) := by omega
     have c4 : w64 ((i : Int) + 1) = ((i + 1 : Nat) : Int) := w64_id (by omega) (by omega)
     have et : el W2 (L.take j) i = el W2 L i := el_at (t := W2) (by rw [List.getElem?_take, if_pos hij]; exact el_lt (t := W2) (by omega))
     obtain ⟨f2, z2, hx2⟩ : ∃ f2 z2 : Int, el W2 L i = (f2, z2) := ⟨_, _, rfl⟩
     have hin2 := (hq i hij).1
     rw [hx2] at hin2
     obtain ⟨q1, q2, q3, q4⟩ := hin2
     obtain ⟨p1, p2, p3, p4⟩ := hin
     simp only at q1 q2 q3 q4 p1 p2 p3 p4
     simp only [c2, c3, c4, ↓reduceIte, Int.toNat_natCast, show el (.pair (.int .i64) (.int .i64)) (L.take j) i = (f2, z2) from et.trans hx2]
     rw [w64_id (z := f2 + z2) (by omega) (by omega), w64_id (z := fr + z) (by omega) (by omega)]
     have go2 : ¬ Over (fr, z) (f2, z2) → Ok (impl_RegionsOk.l2 k (impl_RegionsOk.l1 k n) n' ((L.length : Int), (j : Int), ((j : Nat) : Int), ((i + 1 : Nat) : Int), fr, z, L, L.take j, ())) (fun r => r = B (RegionsOk L)) := fun h => ih2 (e - 1) _ (by omega) ⟨i + 1, rfl, by omega, allS hi (by rw [hx2]; exact h)⟩
     refine ok_if (fun o1 => ok_if (fun o2 => bad (fun h => h.2 i hij (by rw [hx2]; exact ⟨o1, o2⟩))) (fun o2 => go2 (fun h => o2 h.2))) (fun o1 => go2 (fun h => o1 h.1))
    ·rw [h4]
     exact go ⟨hin, fun i' hi' => hi i' (by omega)⟩
 ·rw [in_i]
  refine ok_let (ok_some (B_of (decide_eq_true_iff.trans ⟨fun h => ⟨fun i hi => hq i (by omega), by omega, by omega⟩, fun h => ?_⟩)))
  have := h.2
  omega
theorem regionsOk_s {k : Nat} {L : List (Int × Int)} (hl : L.length ≤ 1048576) (hk : 1048576 < k) : spec_RegionsOk.f k L = some (B (RegionsOk L)) := by
 refine ok_eq ?_
 unfold spec_RegionsOk.f
 refine ok_loop (L := spec_RegionsOk.l1 k) (I := fun d s => ∃ j : Nat, s = ((j : Int), L, ()) ∧ j + d = L.length ∧ ∀ i, i < j → RegAt L i) ?_ k L.length _ (by omega) ⟨0, rfl, by omega, fun i hi => absurd hi (by omega)⟩
 rintro d n s ⟨j, rfl, hd, hq⟩ ih
 rw [spec_RegionsOk.l1]
 refine ok_if (fun hc => ?_) (fun hc => ?_)
 ·have hj : j < L.length := by omega
  have c0 : (0 : Int) ≤ (j : Int) := by omega
  have h4 : w64 ((j : Int) + 1) = ((j + 1 : Nat) : Int) := w64_id (by omega) (by omega)
  have bad : ¬ RegAt L j → Ok (some false) (fun r => r = B (RegionsOk L)) := fun h => ok_some (B_no (fun hr => h (hr.1 j hj))).symm
  have go : RegAt L j → Ok (spec_RegionsOk.l1 k n (((j + 1 : Nat) : Int), L, ())) (fun r => r = B (RegionsOk L)) := fun h => ih (d - 1) _ (by omega) ⟨j + 1, rfl, by omega, allS hq h⟩
  obtain ⟨fr, z, hxe⟩ : ∃ fr z : Int, el W2 L j = (fr, z) := ⟨_, _, rfl⟩
  unfold RegAt at bad go
  rw [hxe] at bad go
  simp only [c0, hc, ↓reduceIte, Int.toNat_natCast, show el (.pair (.int .i64) (.int .i64)) L j = (fr, z) from hxe, in_s, Option.bind_some, decide_eq_true_eq]
  refine ok_if (fun h1 => bad (fun h => ?_)) (fun h1 => ?_)
  ·obtain ⟨p1, p2, p3, p4⟩ := h.1
   simp only at p1 p2 p3 p4
   omega
  ·have h1' := Classical.not_not.1 h1
   rw [w64_id (z := 64 - fr) (by omega) (by omega)]
   refine ok_if (fun h2 => bad (fun h => ?_)) (fun h2 => ?_)
   ·obtain ⟨p1, p2, p3, p4⟩ := h.1
    simp only at p1 p2 p3 p4
    omega
   ·have hin : RegIn (fr, z) := ⟨by dsimp only; omega, by dsimp only; omega, by dsimp only; omega, by dsimp only; omega⟩
    refine ok_loop (L := spec_RegionsOk.l2 k (spec_RegionsOk.l1 k n)) (I := fun e s => ∃ i : Nat, s = ((j : Int), (i : Int), fr, z, L, ()) ∧ i + e = j ∧ ∀ i', i' < i → ¬ Over (fr, z) (el W2 L i')) ?_ k j _ (by omega) ⟨0, rfl, by omega, fun i hi => absurd hi (by omega)⟩
    rintro e n' s ⟨i, rfl, he, hi⟩ ih2
    rw [spec_RegionsOk.l2]
    refine ok_if (fun hc2 => ?_) (fun hc2 => ?_)
    ·have hij : i < j := by omega
     have c2 : (0 : Int) ≤ (i : Int) := by omega
     have c3 : (i : Int) < (L.length : Int) := by omega
     have c4 : w64 ((i : Int) + 1) = ((i + 1 : Nat) : Int) := w64_id (by omega) (by omega)
     obtain ⟨f2, z2, hx2⟩ : ∃ f2 z2 : Int, el W2 L i = (f2, z2) := ⟨_, _, rfl⟩
     have hin2 := (hq i hij).1
     rw [hx2] at hin2
     obtain ⟨q1, q2, q3, q4⟩ := hin2
     obtain ⟨p1, p2, p3, p4⟩ := hin
     simp only at q1 q2 q3 q4 p1 p2 p3 p4
     simp only [c2, c3, c4, ↓reduceIte, Int.toNat_natCast, show el (.pair (.int .i64) (.int .i64)) L i = (f2, z2) from hx2]
     rw [w64_id (z := f2 + z2) (by omega) (by omega), w64_id (z := fr + z) (by omega) (by omega)]
     have go2 : ¬ Over (fr, z) (f2, z2) → Ok (spec_RegionsOk.l2 k (spec_RegionsOk.l1 k n) n' ((j : Int), ((i + 1 : Nat) : Int), fr, z, L, ())) (fun r => r = B (RegionsOk L)) := fun h => ih2 (e - 1) _ (by omega) ⟨i + 1, rfl, by omega, allS hi (by rw [hx2]; exact h)⟩
     refine ok_if (fun o1 => ok_if (fun o2 => bad (fun h => h.2 i hij (by rw [hx2]; exact ⟨o1, o2⟩))) (fun o2 => go2 (fun h => o2 h.2))) (fun o1 => go2 (fun h => o1 h.1))
    ·rw [h4]
     exact go ⟨hin, fun i' hi' => hi i' (by omega)⟩
 ·rw [in_s]
  refine ok_let (ok_some (B_of (decide_eq_true_iff.trans ⟨fun h => ⟨fun i hi => hq i (by omega), by omega, by omega⟩, fun h => ?_⟩)))
  have := h.2
  omega
theorem planOk_s {k : Nat} {L : List (Int × Int)} (hl : L.length ≤ 1048576) (hk : 1048576 < k) : spec_PlanOk.f k L = some (B (PlanOk L)) := by
 refine ok_eq ?_
 unfold spec_PlanOk.f
 refine ok_loop (L := spec_PlanOk.l1 k) (I := fun d s => ∃ j : Nat, s = ((j : Int), L, ()) ∧ j + d = L.length ∧ ∀ i, i < j → WinOk (el W2 L i)) ?_ k L.length _ (by omega) ⟨0, rfl, by omega, fun i hi => absurd hi (by omega)⟩
 rintro d n s ⟨j, rfl, hd, hq⟩ ih
 rw [spec_PlanOk.l1]
 refine ok_if (fun hc => ?_) (fun hc => ?_)
 ·have c0 : (0 : Int) ≤ (j : Int) := by omega
  have h4 : w64 ((j : Int) + 1) = ((j + 1 : Nat) : Int) := w64_id (by omega) (by omega)
  simp only [c0, hc, ↓reduceIte, Int.toNat_natCast, in_s, h4, Option.bind_some, decide_eq_true_eq]
  have bad : ¬ WinOk (el W2 L j) → Ok (some false) (fun r => r = B (PlanOk L)) := fun h => ok_some (B_no (fun hr => h (hr.1 j (by omega)))).symm
  refine ok_if (fun h => bad (fun g => h g.1)) (fun h1 => ok_if (fun h => bad (fun g => h g.2)) (fun h2 => ?_))
  exact ih (d - 1) _ (by omega) ⟨j + 1, rfl, by omega, allS hq ⟨Classical.not_not.1 h1, Classical.not_not.1 h2⟩⟩
 ·rw [in_s]
  refine ok_let (ok_some (B_of (decide_eq_true_iff.trans ⟨fun h => ⟨fun i hi => hq i (by omega), by omega, by omega⟩, fun h => ?_⟩)))
  have := h.2
  omega
/-! ### codes -/
def CodeRead (s : ByteArray) : Prop := s.size % 2 = 0 ∧ s.size ≤ 120
/-- The instructions that stand in a text's bytes. -/
def insOf (s : ByteArray) (n : Nat) : List (Int × Int) := (List.range n).map fun i => (bt s ((2 * i : Nat) : Int), bt s ((2 * i + 1 : Nat) : Int))
theorem insOf_len (s : ByteArray) (n : Nat) : (insOf s n).length = n := by simp [insOf]
theorem insOf_next (s : ByteArray) (n : Nat) : insOf s (n + 1) = insOf s n ++ [(bt s ((2 * n : Nat) : Int), bt s ((2 * n + 1 : Nat) : Int))] := by simp [insOf, List.range_succ]
noncomputable def readM (s : ByteArray) : List (Int × Int) × Bool := if B (CodeRead s) = true then (insOf s (s.size / 2), true) else ([], false)
theorem bt_in (s : ByteArray) (i : Int) : 0 ≤ bt s i ∧ bt s i ≤ 255 := by
 unfold bt
 have := (s.toList.getD i.toNat 0).toNat_lt
 omega
theorem tmod2 (n : Nat) : (Int.tmod (n : Int) 2 = 0) ↔ n % 2 = 0 := by
 rw [Int.tmod_eq_emod_of_nonneg (by omega)]
 omega
theorem read_i {k : Nat} {s : ByteArray} (hk : 1048576 < k) : impl_ReadCode.f k s = some (readM s) := by
 refine ok_eq ?_
 unfold impl_ReadCode.f readM
 refine ok_if (fun h => ok_some ?_) (fun h1 => ok_if (fun h => ok_some ?_) (fun h2 => ok_let ?_))
 ·rw [B_no (fun g => h ((tmod2 _).2 g.1))]
  rfl
 ·rw [B_no (fun g => by have := g.2; omega)]
  rfl
 ·have h0 : s.size % 2 = 0 := (tmod2 _).1 (Classical.not_not.1 h1)
  rw [B_yes ⟨h0, by omega⟩, if_pos rfl]
  refine ok_loop (L := impl_ReadCode.l1 k) (I := fun d t => ∃ j : Nat, t = (s, ((2 * j : Nat) : Int), insOf s j, ()) ∧ j + d = s.size / 2) ?_ k (s.size / 2) _ (by omega) ⟨0, rfl, by omega⟩
  rintro d n t ⟨j, rfl, hd⟩ ih
  rw [impl_ReadCode.l1]
  refine ok_if (fun hc => ?_) (fun hc => ok_some ?_)
  ·have c0 : (0 : Int) ≤ ((2 * j : Nat) : Int) := by omega
   have c1 : w64 (((2 * j : Nat) : Int) + 1) = ((2 * j + 1 : Nat) : Int) := by rw [w64_id (by omega) (by omega)]; omega
   have c2 : (0 : Int) ≤ ((2 * j + 1 : Nat) : Int) := by omega
   have c3 : ((2 * j + 1 : Nat) : Int) < (s.size : Int) := by omega
   have c4 : w64 (((2 * j : Nat) : Int) + 2) = ((2 * (j + 1) : Nat) : Int) := by rw [w64_id (by omega) (by omega)]; omega
   have b1 := bt_in s ((2 * j : Nat) : Int)
   have b2 := bt_in s ((2 * j + 1 : Nat) : Int)
   have hl := insOf_len s j
   simp only [c0, hc, c1, c2, c3, c4, ↓reduceIte, Option.bind_some, List.length_cons, List.length_nil]
   rw [w64_id (z := bt s ((2 * j : Nat) : Int)) (by omega) (by omega), w64_id (z := bt s ((2 * j + 1 : Nat) : Int)) (by omega) (by omega), if_pos (by omega), ← insOf_next]
   exact ih (d - 1) _ (by omega) ⟨j + 1, rfl, by omega⟩
  ·obtain rfl : j = s.size / 2 := by omega
   rfl
theorem read_s {k : Nat} {s : ByteArray} (hk : 1048576 < k) : spec_ReadCode.f k s = some (readM s) := by
 have hl : ∀ n t, spec_ReadCode.l1 k n t = impl_ReadCode.l1 k n t := by
  intro n
  induction n with
  | zero => intro t; rfl
  | succ n ih =>
   rintro ⟨a, b, c, u⟩
   simp only [spec_ReadCode.l1, impl_ReadCode.l1, ih]
 rw [← read_i (s := s) hk]
 unfold spec_ReadCode.f impl_ReadCode.f
 simp only [Option.bind_some, hl]
def CodesOk (L : List ByteArray) (n : Int) : Prop := (∀ i, i < L.length → CodeRead (el .str L i)) ∧ (L.length : Int) = n
theorem codesOk_i {k : Nat} {L : List ByteArray} {n : Int} (hl : L.length ≤ 1048576) (hk : 1048576 < k) : impl_codesOk.f k L n = some (B (CodesOk L n)) := by
 refine ok_eq ?_
 unfold impl_codesOk.f
 refine ok_loop (L := impl_codesOk.l1 k) (I := fun d s => ∃ j : Nat, s = (n, (L.length : Int), (j : Int), L, ()) ∧ j + d = L.length ∧ ∀ i, i < j → CodeRead (el .str L i)) ?_ k L.length _ (by omega) ⟨0, rfl, by omega, fun i hi => absurd hi (by omega)⟩
 rintro d m s ⟨j, rfl, hd, hq⟩ ih
 rw [impl_codesOk.l1]
 refine ok_if (fun hc => ok_grd (by omega) (ok_grd hc ?_)) (fun hc => ok_some (B_of (decide_eq_true_iff.trans ⟨fun h => ⟨fun i hi => hq i (by omega), h⟩, fun h => h.2⟩)))
 have h4 : w64 ((j : Int) + 1) = ((j + 1 : Nat) : Int) := w64_id (by omega) (by omega)
 rw [read_i hk, h4]
 simp only [Int.toNat_natCast, Option.bind_some]
 by_cases h : CodeRead (el .str L j)
 ·have e : (readM (el .str L j)).2 = true := by
   unfold readM
   rw [B_yes h, if_pos rfl]
  rw [if_neg (fun g => g e)]
  exact ih (d - 1) _ (by omega) ⟨j + 1, rfl, by omega, allS hq h⟩
 ·have e : (readM (el .str L j)).2 = false := by
   unfold readM
   rw [B_no h]
   rfl
  rw [if_pos (by rw [e]; simp)]
  exact ok_some (B_no (fun g => h (g.1 j (by omega)))).symm
/-! ### ports and parts -/
def PortsOk (L : List Port5) : Prop := (∀ i, i < L.length → PortOk (el P5 L i)) ∧ L.length ≤ 6
theorem portsOk_i {k : Nat} {L : List Port5} (hl : L.length ≤ 1048576) (hk : 1048576 < k) : impl_portsOk.f k L = some (B (PortsOk L)) := by
 refine ok_eq ?_
 unfold impl_portsOk.f
 refine ok_loop (L := impl_portsOk.l1 k) (I := fun d s => ∃ j : Nat, s = ((L.length : Int), (j : Int), L, ()) ∧ j + d = L.length ∧ ∀ i, i < j → PortOk (el P5 L i)) ?_ k L.length _ (by omega) ⟨0, rfl, by omega, fun i hi => absurd hi (by omega)⟩
 rintro d m s ⟨j, rfl, hd, hq⟩ ih
 rw [impl_portsOk.l1]
 refine ok_if (fun hc => ok_grd (by omega) (ok_grd hc ?_)) (fun hc => ok_some (B_of (decide_eq_true_iff.trans ⟨fun h => ⟨fun i hi => hq i (by omega), by omega⟩, fun h => by have := h.2; omega⟩)))
 have h4 : w64 ((j : Int) + 1) = ((j + 1 : Nat) : Int) := w64_id (by omega) (by omega)
 rw [portOk_i, h4]
 simp only [Int.toNat_natCast]
 refine ok_let (ok_if (fun h => ok_some (B_no (fun g => h (B_yes (g.1 j (by omega))))).symm) (fun h => ?_))
 exact ih (d - 1) _ (by omega) ⟨j + 1, rfl, by omega, allS hq (B_iff.1 (Classical.not_not.1 h))⟩
structure PartsOk (s : Setup) : Prop where
 wins : ∀ i, i < s.2.1.length → (el W2 s.2.1 i).1 ≤ (s.1.length : Int)
 pfr : ∀ i, i < s.2.2.1.length → (el P5 s.2.2.1 i).2.1 ≤ (s.1.length : Int)
 pto : ∀ i, i < s.2.2.1.length → (el P5 s.2.2.1 i).2.2.1 ≤ (s.1.length : Int)
 rls : ∀ i, i < s.2.2.2.1.length → (el R3 s.2.2.2.1 i).1 ≤ (s.1.length : Int)
theorem partsOk_i {k : Nat} {s : Setup} (h2 : s.2.1.length ≤ 1048576) (h3 : s.2.2.1.length ≤ 1048576) (h4 : s.2.2.2.1.length ≤ 1048576) (hk : 1048576 < k) : impl_partsOk.f k s = some (B (PartsOk s)) := by
 obtain ⟨R, W, P, U, C⟩ := s
 simp only at h2 h3 h4
 refine ok_eq ?_
 unfold impl_partsOk.f
 refine ok_loop (L := impl_partsOk.l1 k) (I := fun d t => ∃ (j : Nat) (x : Int), t = (x, (W.length : Int), (j : Int), R, W, P, U, C, ()) ∧ j + d = W.length ∧ (x ≤ (R.length : Int) ↔ ∀ i, i < j → (el W2 W i).1 ≤ (R.length : Int))) ?_ k W.length _ (by omega) ⟨0, 0, rfl, by omega, ⟨fun _ i hi => absurd hi (by omega), fun _ => by omega⟩⟩
 rintro d m t ⟨j, x, rfl, hd, hq⟩ ih
 rw [impl_partsOk.l1]
 refine ok_if (fun hc => ok_grd (by omega) (ok_grd hc ?_)) (fun hc => ?_)
 ·have c4 : w64 ((j : Int) + 1) = ((j + 1 : Nat) : Int) := w64_id (by omega) (by omega)
  rw [c4]
  simp only [Int.toNat_natCast]
  refine ih (d - 1) _ (by omega) ⟨j + 1, _, rfl, by omega, Int.max_le.trans ⟨fun h => allS (hq.1 h.1) h.2, fun h => ⟨hq.2 (fun i hi => h i (by omega)), h j (by omega)⟩⟩⟩
 ·have hq1 : x ≤ (R.length : Int) ↔ ∀ i, i < W.length → (el W2 W i).1 ≤ (R.length : Int) := by
   rw [hq, show j = W.length by omega]
  clear ih hq hc hd
  refine ok_loop (L := impl_partsOk.l2 k) (I := fun d t => ∃ (j : Nat) (y : Int), t = (y, (P.length : Int), (j : Int), R, W, P, U, C, ()) ∧ j + d = P.length ∧ (y ≤ (R.length : Int) ↔ x ≤ (R.length : Int) ∧ (∀ i, i < j → (el P5 P i).2.1 ≤ (R.length : Int)) ∧ ∀ i, i < j → (el P5 P i).2.2.1 ≤ (R.length : Int))) ?_ k P.length _ (by omega) ⟨0, x, rfl, by omega, ⟨fun h => ⟨h, fun i hi => absurd hi (by omega), fun i hi => absurd hi (by omega)⟩, fun h => h.1⟩⟩
  rintro d m' t ⟨j, y, rfl, hd, hq⟩ ih
  rw [impl_partsOk.l2]
  refine ok_if (fun hc => ok_grd (by omega) (ok_grd hc ?_)) (fun hc => ?_)
  ·have c4 : w64 ((j : Int) + 1) = ((j + 1 : Nat) : Int) := w64_id (by omega) (by omega)
   rw [c4]
   simp only [Int.toNat_natCast]
   refine ih (d - 1) _ (by omega) ⟨j + 1, _, rfl, by omega, Int.max_le.trans ⟨fun h => ?_, fun h => ⟨Int.max_le.2 ⟨hq.2 ⟨h.1, fun i hi => h.2.1 i (by omega), fun i hi => h.2.2 i (by omega)⟩, h.2.1 j (by omega)⟩, h.2.2 j (by omega)⟩⟩⟩
   have h1 := Int.max_le.1 h.1
   have h2 := hq.1 h1.1
   exact ⟨h2.1, allS h2.2.1 h1.2, allS h2.2.2 h.2⟩
  ·have hq2 : y ≤ (R.length : Int) ↔ x ≤ (R.length : Int) ∧ (∀ i, i < P.length → (el P5 P i).2.1 ≤ (R.length : Int)) ∧ ∀ i, i < P.length → (el P5 P i).2.2.1 ≤ (R.length : Int) := by
    rw [hq, show j = P.length by omega]
   clear ih hq hc hd
   refine ok_loop (L := impl_partsOk.l3 k) (I := fun d t => ∃ (j : Nat) (z : Int), t = (z, (U.length : Int), (j : Int), R, W, P, U, C, ()) ∧ j + d = U.length ∧ (z ≤ (R.length : Int) ↔ y ≤ (R.length : Int) ∧ ∀ i, i < j → (el R3 U i).1 ≤ (R.length : Int))) ?_ k U.length _ (by omega) ⟨0, y, rfl, by omega, ⟨fun h => ⟨h, fun i hi => absurd hi (by omega)⟩, fun h => h.1⟩⟩
   rintro d m'' t ⟨j, z, rfl, hd, hq⟩ ih
   rw [impl_partsOk.l3]
   refine ok_if (fun hc => ok_grd (by omega) (ok_grd hc ?_)) (fun hc => ok_some (B_of (decide_eq_true_iff.trans ?_)))
   ·have c4 : w64 ((j : Int) + 1) = ((j + 1 : Nat) : Int) := w64_id (by omega) (by omega)
    rw [c4]
    simp only [Int.toNat_natCast]
    refine ih (d - 1) _ (by omega) ⟨j + 1, _, rfl, by omega, Int.max_le.trans ⟨fun h => ?_, fun h => ⟨hq.2 ⟨h.1, fun i hi => h.2 i (by omega)⟩, h.2 j (by omega)⟩⟩⟩
    have h2 := hq.1 h.1
    exact ⟨h2.1, allS h2.2 h.2⟩
   ·rw [hq, show j = U.length by omega, hq2, hq1]
    exact ⟨fun h => ⟨h.1.1, h.1.2.1, h.1.2.2, h.2⟩, fun h => ⟨⟨h.wins, h.pfr, h.pto⟩, h.rls⟩⟩
theorem partsOk_s {k : Nat} {s : Setup} (h2 : s.2.1.length ≤ 1048576) (h3 : s.2.2.1.length ≤ 1048576) (h4 : s.2.2.2.1.length ≤ 1048576) (hk : 1048576 < k) : spec_l11Parts.f k s = some (if B (PartsOk s) = true then 0 else 6) := by
 obtain ⟨R, W, P, U, C⟩ := s
 simp only at h2 h3 h4
 refine ok_eq ?_
 unfold spec_l11Parts.f
 have no : ¬ PartsOk (R, W, P, U, C) → Ok (some (6 : Int)) (fun r => r = if B (PartsOk (R, W, P, U, C)) = true then 0 else 6) := fun h => ok_some (by rw [B_no h]; rfl)
 refine ok_loop (L := spec_l11Parts.l1 k) (I := fun d t => ∃ j : Nat, t = ((R.length : Int), (j : Int), R, W, P, U, C, ()) ∧ j + d = W.length ∧ ∀ i, i < j → (el W2 W i).1 ≤ (R.length : Int)) ?_ k W.length _ (by omega) ⟨0, rfl, by omega, fun i hi => absurd hi (by omega)⟩
 rintro d m t ⟨j, rfl, hd, hq⟩ ih
 rw [spec_l11Parts.l1]
 refine ok_if (fun hc => ok_grd (by omega) (ok_grd hc ?_)) (fun hc => ?_)
 ·have c4 : w64 ((j : Int) + 1) = ((j + 1 : Nat) : Int) := w64_id (by omega) (by omega)
  rw [c4]
  simp only [Int.toNat_natCast]
  exact ok_if (fun h => no (fun g => Int.not_le.2 h (g.wins j (by dsimp only; omega)))) (fun h => ih (d - 1) _ (by omega) ⟨j + 1, rfl, by omega, allS hq (Int.not_lt.1 h)⟩)
 ·have hq1 : ∀ i, i < W.length → (el W2 W i).1 ≤ (R.length : Int) := fun i hi => hq i (by omega)
  clear ih hq hc hd
  refine ok_loop (L := spec_l11Parts.l2 k) (I := fun d t => ∃ j : Nat, t = ((R.length : Int), (j : Int), R, W, P, U, C, ()) ∧ j + d = P.length ∧ (∀ i, i < j → (el P5 P i).2.1 ≤ (R.length : Int)) ∧ ∀ i, i < j → (el P5 P i).2.2.1 ≤ (R.length : Int)) ?_ k P.length _ (by omega) ⟨0, rfl, by omega, fun i hi => absurd hi (by omega), fun i hi => absurd hi (by omega)⟩
  rintro d m' t ⟨j, rfl, hd, hq, hq'⟩ ih
  rw [spec_l11Parts.l2]
  refine ok_if (fun hc => ok_grd (by omega) (ok_grd hc ?_)) (fun hc => ?_)
  ·have c4 : w64 ((j : Int) + 1) = ((j + 1 : Nat) : Int) := w64_id (by omega) (by omega)
   rw [c4]
   simp only [Int.toNat_natCast]
   exact ok_if (fun h => no (fun g => Int.not_le.2 h (g.pfr j (by dsimp only; omega)))) (fun h => ok_grd (by omega) (ok_grd hc (ok_if (fun h' => no (fun g => Int.not_le.2 h' (g.pto j (by dsimp only; omega)))) (fun h' => ih (d - 1) _ (by omega) ⟨j + 1, rfl, by omega, allS hq (Int.not_lt.1 h), allS hq' (Int.not_lt.1 h')⟩))))
  ·have hq2 : ∀ i, i < P.length → (el P5 P i).2.1 ≤ (R.length : Int) := fun i hi => hq i (by omega)
   have hq3 : ∀ i, i < P.length → (el P5 P i).2.2.1 ≤ (R.length : Int) := fun i hi => hq' i (by omega)
   clear ih hq hq' hc hd
   refine ok_loop (L := spec_l11Parts.l3 k) (I := fun d t => ∃ j : Nat, t = ((R.length : Int), (j : Int), R, W, P, U, C, ()) ∧ j + d = U.length ∧ ∀ i, i < j → (el R3 U i).1 ≤ (R.length : Int)) ?_ k U.length _ (by omega) ⟨0, rfl, by omega, fun i hi => absurd hi (by omega)⟩
   rintro d m'' t ⟨j, rfl, hd, hq⟩ ih
   rw [spec_l11Parts.l3]
   refine ok_if (fun hc => ok_grd (by omega) (ok_grd hc ?_)) (fun hc => ok_some ?_)
   ·have c4 : w64 ((j : Int) + 1) = ((j + 1 : Nat) : Int) := w64_id (by omega) (by omega)
    rw [c4]
    simp only [Int.toNat_natCast]
    exact ok_if (fun h => no (fun g => Int.not_le.2 h (g.rls j (by dsimp only; omega)))) (fun h => ih (d - 1) _ (by omega) ⟨j + 1, rfl, by omega, allS hq (Int.not_lt.1 h)⟩)
   ·rw [B_yes ⟨hq1, hq2, hq3, fun i hi => hq i (by dsimp only at hi; omega)⟩]
    rfl
/-! ### the fault -/
noncomputable def faultM (s : Setup) : Int :=
 if ¬ B (RegionsOk s.1) = true then 1 else if ¬ B (PlanOk s.2.1) = true then 2 else if ¬ B (PortsOk s.2.2.1) = true then 3 else if ¬ B (RulesOk s.2.2.2.1) = true then 4 else if ¬ B (CodesOk s.2.2.2.2 (s.1.length : Int)) = true then 5 else if ¬ B (PartsOk s) = true then 6 else 0
structure Small (s : Setup) : Prop where
 a : s.1.length ≤ 1048576
 b : s.2.1.length ≤ 1048576
 c : s.2.2.1.length ≤ 1048576
 d : s.2.2.2.1.length ≤ 1048576
 e : s.2.2.2.2.length ≤ 1048576
theorem fault_i {k : Nat} {s : Setup} (h : Small s) (hk : 1048576 < k) : impl_SetupFault.f k s = some (faultM s) := by
 unfold impl_SetupFault.f faultM
 rw [regionsOk_i h.a hk, planOk_i h.b hk, portsOk_i h.c hk, rulesOk_i h.d hk, codesOk_i h.e hk, partsOk_i h.b h.c h.d hk]
 simp only [Option.bind_some]
 repeat' split
 all_goals rfl
theorem fault_s {k : Nat} {s : Setup} (h : Small s) (hk : 1048576 < k) : spec_SetupFault.f k s = some (faultM s) := by
 obtain ⟨R, W, P, U, C⟩ := s
 obtain ⟨h1, h2, h3, h4, h5⟩ := h
 simp only at h1 h2 h3 h4 h5
 refine ok_eq ?_
 unfold spec_SetupFault.f faultM
 rw [regionsOk_s h1 hk, planOk_s h2 hk]
 simp only [Option.bind_some]
 refine ok_if (fun h => ok_some (by rw [if_pos h])) (fun g1 => ok_if (fun h => ok_some (by rw [if_neg g1, if_pos h])) (fun g2 => ?_))
 rw [if_neg g1, if_neg g2]
 have no : ¬ PortsOk P → Ok (some (3 : Int)) (fun r => r = if ¬ B (PortsOk P) = true then 3 else if ¬ B (RulesOk U) = true then 4 else if ¬ B (CodesOk C (R.length : Int)) = true then 5 else if ¬ B (PartsOk (R, W, P, U, C)) = true then 6 else 0) := fun h => ok_some (by rw [B_no h]; rfl)
 refine ok_loop (L := spec_SetupFault.l1 k) (I := fun d t => ∃ j : Nat, t = ((j : Int), R, W, P, U, C, ()) ∧ j + d = P.length ∧ (∀ i, i < j → PortOk (el P5 P i)) ∧ j ≤ 6) ?_ k P.length _ (by omega) ⟨0, rfl, by omega, fun i hi => absurd hi (by omega), by omega⟩
 rintro d m t ⟨j, rfl, hd, hq, hj6⟩ ih
 rw [spec_SetupFault.l1]
 refine ok_if (fun hc => ok_grd (by omega) (ok_grd hc ?_)) (fun hc => ?_)
 ·have c4 : w64 ((j : Int) + 1) = ((j + 1 : Nat) : Int) := w64_id (by omega) (by omega)
  rw [portOk_s, c4]
  simp only [Int.toNat_natCast]
  refine ok_let (ok_if (fun h => no (fun g => h (B_yes (g.1 j (by omega))))) (fun h => ok_if (fun h6 => no (fun g => by have := g.2; omega)) (fun h6 => ?_)))
  exact ih (d - 1) _ (by omega) ⟨j + 1, rfl, by omega, allS hq (B_iff.1 (Classical.not_not.1 h)), by omega⟩
 ·have hp : PortsOk P := ⟨fun i hi => hq i (by omega), by omega⟩
  rw [B_yes hp, if_neg (c := ¬ true = true) (fun h => h rfl), rulesOk_s h4 hk]
  clear ih hq hc hd
  refine ok_let (ok_if (fun h => ok_some (by rw [if_pos h])) (fun g4 => ?_))
  rw [if_neg g4]
  have no5 : ¬ CodesOk C (R.length : Int) → Ok (some (5 : Int)) (fun r => r = if ¬ B (CodesOk C (R.length : Int)) = true then 5 else if ¬ B (PartsOk (R, W, P, U, C)) = true then 6 else 0) := fun h => ok_some (by rw [B_no h]; rfl)
  refine ok_if (fun h => no5 (fun g => h g.2)) (fun g5 => ?_)
  refine ok_loop (L := spec_SetupFault.l2 k) (I := fun d t => ∃ j : Nat, t = ((j : Int), R, W, P, U, C, ()) ∧ j + d = C.length ∧ ∀ i, i < j → CodeRead (el .str C i)) ?_ k C.length _ (by omega) ⟨0, rfl, by omega, fun i hi => absurd hi (by omega)⟩
  rintro d m' t ⟨j, rfl, hd, hq⟩ ih
  rw [spec_SetupFault.l2]
  refine ok_if (fun hc => ok_grd (by omega) (ok_grd hc ?_)) (fun hc => ?_)
  ·have c4 : w64 ((j : Int) + 1) = ((j + 1 : Nat) : Int) := w64_id (by omega) (by omega)
   rw [read_s hk, c4]
   simp only [Int.toNat_natCast, Option.bind_some]
   by_cases h : CodeRead (el .str C j)
   ·have e : (readM (el .str C j)).2 = true := by
     unfold readM
     rw [B_yes h, if_pos rfl]
    rw [if_neg (fun g => g e)]
    exact ih (d - 1) _ (by omega) ⟨j + 1, rfl, by omega, allS hq h⟩
   ·have e : (readM (el .str C j)).2 = false := by
     unfold readM
     rw [B_no h]
     rfl
    rw [if_pos (by rw [e]; simp)]
    exact no5 (fun g => h (g.1 j (by omega)))
  ·have hcs : CodesOk C (R.length : Int) := ⟨fun i hi => hq i (by omega), Classical.not_not.1 g5⟩
   rw [B_yes hcs, if_neg (c := ¬ true = true) (fun h => h rfl), partsOk_s h2 h3 h4 hk]
   refine ok_let (ok_some ?_)
   by_cases hb : B (PartsOk (R, W, P, U, C)) = true
   ·rw [if_pos hb, if_neg (fun h => h hb)]
   ·rw [if_neg hb, if_pos hb]
end Go.Proofs.Ythncjcfnpfajaaa.Pure
/- What a draw's cursor tells. No condition. -/
namespace Go.Proofs.Ythncjcfnpfajaaa.Pure
open Go Go.Proofs.YthncjcfnpfajaaaA Go.Proofs.YthncjcfnpfajaaaU Go.Proofs.Ythncjcfnpfajaaa.QA
set_option linter.unusedVariables false
/-- A cursor that stands within its bytes. -/
def Cur (c : List Int × Int × Int) : Prop := c.1.length ≤ 1048576 ∧ 0 ≤ c.2.1 ∧ c.2.1 ≤ (c.1.length : Int)
theorem and255 (x : Int) : 0 ≤ bits .and .i64 x 255 ∧ bits .and .i64 x 255 ≤ 255 := by
 have h : (BitVec.ofInt IntKind.i64.bits x &&& BitVec.ofInt IntKind.i64.bits 255).toNat ≤ 255 := by
  rw [BitVec.toNat_and]
  exact Nat.and_le_right
 have e : bits .and .i64 x 255 = IntKind.i64.wrap (((BitVec.ofInt IntKind.i64.bits x &&& BitVec.ofInt IntKind.i64.bits 255).toNat : Nat) : Int) := rfl
 rw [e, w_id (by omega) (by omega)]
 omega
theorem byte_ok {k : Nat} {c : List Int × Int × Int} (h : Cur c) : Ok (spec_l01Byte.f k c) (fun r => 0 ≤ r.1 ∧ r.1 ≤ 255 ∧ Cur (c.1, r.2.2)) := by
 obtain ⟨h1, h2, h3⟩ := h
 unfold spec_l01Byte.f
 refine ok_if (fun hc => ?_) (fun hc => ?_)
 ·rw [if_pos h2, if_pos hc]
  refine ok_some ⟨(and255 _).1, (and255 _).2, h1, ?_, ?_⟩
  ·show (0 : Int) ≤ w64 (c.2.1 + 1)
   rw [w64_id (by omega) (by omega)]
   omega
  ·show w64 (c.2.1 + 1) ≤ (c.1.length : Int)
   rw [w64_id (by omega) (by omega)]
   omega
 ·exact ok_some ⟨(and255 _).1, (and255 _).2, h1, h2, h3⟩
theorem below_ok {k : Nat} {c : List Int × Int × Int} {n : Int} (h : Cur c) : Ok (spec_l01Below.f k c n) (fun r => 0 ≤ r.1 ∧ (0 < n → r.1 < n) ∧ (n ≤ 0 → r.1 = 0) ∧ Cur (c.1, r.2.2)) := by
 have hm : ∀ a : Int, 0 ≤ a → 0 < n → 0 ≤ Int.tmod a n ∧ Int.tmod a n < n := fun a h0 h1 => ⟨Int.tmod_nonneg _ h0, Int.tmod_lt_of_pos _ h1⟩
 unfold spec_l01Below.f
 refine ok_if (fun hc => ok_some ⟨Int.le_refl 0, fun h' => absurd h' (by omega), fun _ => rfl, h⟩) (fun hc => ?_)
 refine ok_if (fun hc2 => ?_) (fun hc2 => ?_)
 ·refine ok_bind (byte_ok h) (fun r hr => ?_)
  rw [if_pos (by omega)]
  exact ok_some ⟨(hm _ hr.1 (by omega)).1, fun _ => (hm _ hr.1 (by omega)).2, fun h' => absurd h' (by omega), hr.2.2⟩
 ·refine ok_bind (byte_ok h) (fun r1 hr1 => ok_bind (byte_ok hr1.2.2) (fun r2 hr2 => ok_bind (byte_ok hr2.2.2) (fun r3 hr3 => ok_bind (byte_ok hr3.2.2) (fun r4 hr4 => ?_))))
  obtain ⟨a1, b1, -⟩ := hr1
  obtain ⟨a2, b2, -⟩ := hr2
  obtain ⟨a3, b3, -⟩ := hr3
  obtain ⟨a4, b4, hc4⟩ := hr4
  rw [if_pos (by omega)]
  have e1 : w64 (r1.1 * 16777216) = r1.1 * 16777216 := w64_id (by omega) (by omega)
  have e2 : w64 (r2.1 * 65536) = r2.1 * 65536 := w64_id (by omega) (by omega)
  have e3 : w64 (r3.1 * 256) = r3.1 * 256 := w64_id (by omega) (by omega)
  have e4 : w64 (r1.1 * 16777216 + r2.1 * 65536) = r1.1 * 16777216 + r2.1 * 65536 := w64_id (by omega) (by omega)
  have e5 : w64 (r1.1 * 16777216 + r2.1 * 65536 + r3.1 * 256) = r1.1 * 16777216 + r2.1 * 65536 + r3.1 * 256 := w64_id (by omega) (by omega)
  have e6 : w64 (r1.1 * 16777216 + r2.1 * 65536 + r3.1 * 256 + r4.1) = r1.1 * 16777216 + r2.1 * 65536 + r3.1 * 256 + r4.1 := w64_id (by omega) (by omega)
  rw [e1, e2, e3, e4, e5, e6]
  exact ok_some ⟨(hm _ (by omega) (by omega)).1, fun _ => (hm _ (by omega) (by omega)).2, fun h' => absurd h' (by omega), hc4⟩
theorem below_lt {k : Nat} {c : List Int × Int × Int} {n : Int} (h : Cur c) (hn : 0 < n) : Ok (spec_l01Below.f k c n) (fun r => 0 ≤ r.1 ∧ r.1 < n ∧ Cur (c.1, r.2.2)) :=
 (below_ok h).mono fun r hr => ⟨hr.1, hr.2.1 hn, hr.2.2.2⟩
theorem new_ok {k : Nat} {xs : List Int} (hl : xs.length ≤ 1048576) (hk : 1048576 < k) : Ok (spec_l01New.f k xs) (fun r => Cur (xs, r.2)) := by
 unfold spec_l01New.f
 refine ok_loop (L := spec_l01New.l1 k) (I := fun d s => 0 ≤ s.2.1 ∧ s.2.2.1 = xs ∧ s.2.1 + (d : Int) = (xs.length : Int)) ?_ k xs.length _ (by omega) ⟨Int.le_refl 0, rfl, by simp⟩
 rintro d n ⟨x1, x2, x3, u⟩ ⟨h1, h2, h3⟩ ih
 simp only at h1 h2 h3
 subst h2
 rw [spec_l01New.l1]
 have he : Cur (x3, 0, x1) := ⟨hl, Int.le_refl 0, by dsimp only; omega⟩
 refine ok_if (fun hc => ?_) (fun _ => ok_some he)
 refine ok_if (fun hc2 => ?_) (fun _ => ok_some he)
 rw [if_pos h1, if_pos hc, w64_id (z := x2 + 1) (by omega) (by omega)]
 exact ih (d - 1) _ (by omega) ⟨by show 0 ≤ x2 + 1; omega, rfl, by show x2 + 1 + ((d - 1 : Nat) : Int) = _; omega⟩
end Go.Proofs.Ythncjcfnpfajaaa.Pure
/- Machines: when they and code are right, places of cells, remainders, copies. No condition. -/
namespace Go.Proofs.Ythncjcfnpfajaaa.Pure
open Go Go.Proofs.YthncjcfnpfajaaaA Go.Proofs.YthncjcfnpfajaaaU Go.Proofs.Ythncjcfnpfajaaa.QA
set_option linter.unusedVariables false
abbrev I1 : Ty := .int .i64
abbrev C2 : Ty := .pair (.int .i64) (.int .i64)
def InsOk (x : Int × Int) : Prop := (0 ≤ x.1 ∧ x.1 ≤ 255) ∧ (0 ≤ x.2 ∧ x.2 ≤ 255)
def CodeOk (L : List (Int × Int)) : Prop := (∀ i, i < L.length → InsOk (el C2 L i)) ∧ L.length ≤ 60
theorem all_next {p : Nat → Prop} {j : Nat} (h : ∀ i, i < j → p i) (hj : p j) : ∀ i, i < j + 1 → p i := fun i hi => by
 rcases Nat.lt_or_ge i j with h' | h'
 ·exact h i h'
 ·obtain rfl : i = j := by omega
  exact hj
theorem codeOk_s {k : Nat} {L : List (Int × Int)} (hl : L.length ≤ 1048576) (hk : 1048576 < k) : spec_CodeOk.f k L = some (B (CodeOk L)) := by
 refine ok_eq ?_
 unfold spec_CodeOk.f
 refine ok_loop (L := spec_CodeOk.l1 k) (I := fun d s => ∃ j : Nat, s = ((j : Int), L, ()) ∧ j + d = L.length ∧ ∀ i, i < j → InsOk (el C2 L i)) ?_ k L.length _ (by omega) ⟨0, rfl, by omega, fun i hi => absurd hi (by omega)⟩
 rintro d n s ⟨j, rfl, hd, hq⟩ ih
 rw [spec_CodeOk.l1]
 have h4 : w64 ((j : Int) + 1) = ((j + 1 : Nat) : Int) := w64_id (by omega) (by omega)
 refine ok_if (fun hc => ?_) (fun hc => ok_some (B_of (decide_eq_true_iff.trans ⟨fun h => ⟨fun i hi => hq i (by omega), by omega⟩, fun h => by have := h.2; omega⟩)))
 have c0 : (0 : Int) ≤ (j : Int) := by omega
 simp only [c0, hc, ↓reduceIte, in_s, h4, Int.toNat_natCast, Option.bind_some, decide_eq_true_eq]
 have bad : ¬ InsOk (el C2 L j) → Ok (some false) (fun r => r = B (CodeOk L)) := fun h => ok_some (B_no (fun hr => h (hr.1 j (by omega)))).symm
 refine ok_if (fun h => bad (fun g => h g.1)) (fun h1 => ok_if (fun h => bad (fun g => h g.2)) (fun h2 => ?_))
 exact ih (d - 1) _ (by omega) ⟨j + 1, rfl, by omega, all_next hq ⟨Classical.not_not.1 h1, Classical.not_not.1 h2⟩⟩
end Go.Proofs.Ythncjcfnpfajaaa.Pure
/- Code, machines, cells and regions that are drawn. No condition. -/
namespace Go.Proofs.Ythncjcfnpfajaaa.Pure
open Go Go.Proofs.YthncjcfnpfajaaaA Go.Proofs.YthncjcfnpfajaaaU Go.Proofs.Ythncjcfnpfajaaa.QA
set_option linter.unusedVariables false
theorem once_ok {k : Nat} {c : List Int × Int × Int} {n : Int} (h : Cur c) : Ok (spec_l01Once.f k c n) (fun r => Cur (c.1, r.2.2)) := by
 unfold spec_l01Once.f
 exact ok_bind (below_ok h) (fun r hr => ok_some hr.2.2.2)
theorem pickInt_ok {k : Nat} {c : List Int × Int × Int} {L : List Int} (h : Cur c) (hl : 0 < L.length) : Ok (spec_l01PickInt.f k c L) (fun r => r.1 ∈ L ∧ Cur (c.1, r.2.2)) := by
 unfold spec_l01PickInt.f
 refine ok_bind (below_lt h (by omega)) (fun r hr => ?_)
 rw [if_pos hr.1, if_pos hr.2.1]
 exact ok_some ⟨el_mem (t := I1) (by omega), hr.2.2⟩
theorem insOk_of {op g : Int} (h1 : 0 ≤ op ∧ op ≤ 255) (h2 : 0 ≤ g ∧ g ≤ 255) : InsOk (op, g) := ⟨h1, h2⟩
theorem l05Instr_ok {k : Nat} {c : List Int × Int × Int} (h : Cur c) : Ok (spec_l05Instr.f k c) (fun r => InsOk r.1 ∧ Cur (c.1, r.2.2)) := by
 have hj2 : ∀ {a b x y op g : Int}, Cur (c.1, a, b) → (0 ≤ op ∧ op ≤ 255) → (0 ≤ g ∧ g ≤ 255) → Ok (spec_l05Instr.j2 k (a, b, x, y, op, g, c.1, ())) (fun r => InsOk r.1 ∧ Cur (c.1, r.2.2)) := fun hc ho hg => by
  rw [spec_l05Instr.j2]
  refine ok_bind (once_ok hc) (fun r7 h7 => ok_if (fun _ => ok_bind (below_lt h7 (by omega)) (fun r8 h8 => ok_some ⟨insOk_of (by omega) hg, h8.2.2⟩)) (fun _ => ok_some ⟨insOk_of ho hg, h7⟩))
 have hj1 : ∀ {a b x y op g : Int}, Cur (c.1, a, b) → (0 ≤ op ∧ op ≤ 255) → (0 ≤ g ∧ g ≤ 255) → Ok (spec_l05Instr.j1 k (a, b, x, y, op, g, c.1, ())) (fun r => InsOk r.1 ∧ Cur (c.1, r.2.2)) := fun hc ho hg => by
  rw [spec_l05Instr.j1]
  refine ok_if (fun _ => ok_bind (below_lt hc (by omega)) (fun r h5 => hj2 h5.2.2 ho (by omega))) (fun _ => ok_if (fun _ => ok_bind (below_lt hc (by omega)) (fun r h5 => hj2 h5.2.2 ho (by omega))) (fun _ => hj2 hc ho hg))
 unfold spec_l05Instr.f
 refine ok_let (ok_bind (pickInt_ok h (by decide)) (fun r2 h2 => ok_bind (below_lt h2.2 (by omega)) (fun r3 h3 => ?_)))
 have ho : 0 ≤ r2.1 ∧ r2.1 ≤ 255 := by
  have hm := h2.1
  simp only [List.mem_cons, List.not_mem_nil, or_false] at hm
  omega
 exact ok_if (fun _ => ok_bind (below_lt h3.2.2 (by omega)) (fun r4 h4 => hj1 h4.2.2 ho (by omega))) (fun _ => hj1 h3.2.2 ho (by omega))
def AllIns (L : List (Int × Int)) : Prop := ∀ x, x ∈ L → InsOk x
theorem allIns_app {L M : List (Int × Int)} (h1 : AllIns L) (h2 : AllIns M) : AllIns (L ++ M) := fun x hx => by
 rcases List.mem_append.1 hx with h | h
 ·exact h1 x h
 ·exact h2 x h
theorem allIns_3 {x y z : Int × Int} (hx : InsOk x) (hy : InsOk y) (hz : InsOk z) : AllIns [x, y, z] := fun w hw => by
 simp only [List.mem_cons, List.not_mem_nil, or_false] at hw
 rcases hw with rfl | rfl | rfl
 ·exact hx
 ·exact hy
 ·exact hz
theorem allIns_1 {x : Int × Int} (hx : InsOk x) : AllIns [x] := fun w hw => by
 rw [List.mem_singleton.1 hw]
 exact hx
theorem codeOk_of {L : List (Int × Int)} (h : AllIns L) (hl : L.length ≤ 60) : CodeOk L := ⟨fun i hi => h _ (el_mem (t := C2) hi), hl⟩
theorem l05Code_ok {k : Nat} {c : List Int × Int × Int} (hk : 1048576 < k) (h : Cur c) : Ok (spec_l05Code.f k c) (fun r => AllIns r.1 ∧ r.1.length ≤ 46 ∧ Cur (c.1, r.2.2)) := by
 unfold spec_l05Code.f
 refine ok_let ?_
 refine ok_loop (L := spec_l05Code.l1 k) (I := fun d s => ∃ (j : Nat) (ci ch : Int) (L : List (Int × Int)), s = ((j : Int), ci, ch, c.1, L, ()) ∧ j + d = 16 ∧ Cur (c.1, ci, ch) ∧ AllIns L ∧ L.length ≤ 3 * j ∧ j ≤ 15) ?_ k 16 _ (by omega) ⟨0, c.2.1, c.2.2, [], rfl, by omega, h, (fun x hx => by cases hx), by simp, by omega⟩
 rintro d n s ⟨j, ci, ch, L, rfl, hd, hc, hL, hlen, hj⟩ ih
 rw [spec_l05Code.l1]
 refine ok_bind (below_lt hc (by omega)) (fun r2 h2 => ok_if (fun hlt => ?_) (fun hge => ?_))
 ·have hj2 : j < 15 := by omega
  have h4 : w64 ((j : Int) + 1) = ((j + 1 : Nat) : Int) := w64_id (by omega) (by omega)
  have go3 : ∀ {a b : Int} {x y z : Int × Int}, Cur (c.1, a, b) → InsOk x → InsOk y → InsOk z → Ok (if (L.length + [x, y, z].length) * 16 ≤ 140737488355328 then ((some (L ++ [x, y, z])).bind fun y7 => spec_l05Code.l1 k n (w64 ((j : Int) + 1), a, b, c.1, y7, ())) else none) (fun r => AllIns r.1 ∧ r.1.length ≤ 46 ∧ Cur (c.1, r.2.2)) := fun hc' hx hy hz => by
   refine ok_grd (by simp only [List.length_cons, List.length_nil]; omega) (ok_let ?_)
   rw [h4]
   exact ih (d - 1) _ (by omega) ⟨j + 1, _, _, _, rfl, by omega, hc', allIns_app hL (allIns_3 hx hy hz), by simp only [List.length_append, List.length_cons, List.length_nil]; omega, by omega⟩
  refine ok_bind (below_lt h2.2.2 (by omega)) (fun r3 h3 => ok_if (fun _ => ?_) (fun _ => ok_if (fun _ => ?_) (fun _ => ok_if (fun _ => ?_) (fun _ => ?_))))
  ·refine ok_bind (below_lt h3.2.2 (by omega)) (fun r4 h4' => ok_bind (below_lt h4'.2.2 (by omega)) (fun r5 h5 => ok_let (go3 h5.2.2 (insOk_of (by omega) (by omega)) (insOk_of (by omega) (by omega)) (insOk_of (by omega) (by omega)))))
  ·refine ok_bind (below_lt h3.2.2 (by omega)) (fun r4 h4' => ok_bind (below_lt h4'.2.2 (by omega)) (fun r5 h5 => ok_let (go3 h5.2.2 (insOk_of (by omega) (by omega)) (insOk_of (by omega) (by omega)) (insOk_of (by omega) (by omega)))))
  ·refine ok_bind (below_lt h3.2.2 (by omega)) (fun r4 h4' => ok_bind (below_lt h4'.2.2 (by omega)) (fun r5 h5 => ok_let (go3 h5.2.2 (insOk_of (by omega) (by omega)) (insOk_of (by omega) (by omega)) (insOk_of (by omega) (by omega)))))
  ·refine ok_bind (l05Instr_ok h3.2.2) (fun r4 h4' => ok_let ?_)
   refine ok_grd (by simp only [List.length_cons, List.length_nil]; omega) (ok_let ?_)
   rw [h4]
   exact ih (d - 1) _ (by omega) ⟨j + 1, _, _, _, rfl, by omega, h4'.2, allIns_app hL (allIns_1 h4'.1), by simp only [List.length_append, List.length_cons, List.length_nil]; omega, by omega⟩
 ·have hl45 : L.length ≤ 45 := by omega
  refine ok_bind (once_ok h2.2.2) (fun r3 h3 => ok_if (fun _ => ok_let ?_) (fun _ => ok_some ⟨hL, by dsimp only; omega, h3⟩))
  refine ok_grd (by simp only [List.length_cons, List.length_nil]; omega) (ok_let (ok_some ⟨allIns_app hL (allIns_1 (insOk_of (by omega) (by omega))), by dsimp only; simp only [List.length_append, List.length_cons, List.length_nil]; omega, h3⟩))
/-! ### cells and regions -/
/-- Regions, one behind the other. -/
def Rows : Int → List (Int × Int) → Prop
 | _, [] => True
 | lo, r :: L => lo ≤ r.1 ∧ 1 ≤ r.2 ∧ r.2 ≤ 14 ∧ r.1 + r.2 ≤ 64 ∧ Rows (r.1 + r.2) L
def endOf : Int → List (Int × Int) → Int
 | lo, [] => lo
 | _, r :: L => endOf (r.1 + r.2) L
theorem rows_app : ∀ {L : List (Int × Int)} {lo : Int} {r : Int × Int}, Rows lo L → endOf lo L ≤ r.1 → 1 ≤ r.2 → r.2 ≤ 14 → r.1 + r.2 ≤ 64 → Rows lo (L ++ [r]) ∧ endOf lo (L ++ [r]) = r.1 + r.2
 | [], lo, r, _, h1, h2, h3, h4 => ⟨⟨h1, h2, h3, h4, trivial⟩, rfl⟩
 | q :: L, lo, r, ⟨a, b, c, d, e⟩, h1, h2, h3, h4 => by
  have := rows_app (L := L) (lo := q.1 + q.2) (r := r) e h1 h2 h3 h4
  exact ⟨⟨a, b, c, d, this.1⟩, this.2⟩
theorem l04Regions_ok {k : Nat} {c : List Int × Int × Int} (hk : 1048576 < k) (h : Cur c) : Ok (spec_l04Regions.f k c) (fun r => Rows 0 r.1 ∧ 1 ≤ r.1.length ∧ r.1.length ≤ 4 ∧ Cur (c.1, r.2.2)) := by
 unfold spec_l04Regions.f
 refine ok_let (ok_bind (below_lt h (by omega)) (fun r2 h2 => ?_))
 refine ok_loop (L := spec_l04Regions.l1 k) (I := fun d s => ∃ (j : Nat) (fr ci ch : Int) (L : List (Int × Int)), s = (fr, (j : Int), ci, ch, c.1, L, ()) ∧ j + d = 4 ∧ Cur (c.1, ci, ch) ∧ Rows 0 L ∧ endOf 0 L ≤ fr ∧ fr ≤ 5 + 17 * (j : Int) ∧ 0 ≤ fr ∧ L.length ≤ j ∧ (j = 0 ∨ 1 ≤ L.length) ∧ (j = 0 → fr ≤ 5)) ?_ k 4 _ (by omega) ⟨0, _, _, _, [], rfl, by omega, h2.2.2, trivial, h2.1, by omega, h2.1, Nat.le_refl 0, .inl rfl, fun _ => by omega⟩
 rintro d n s ⟨j, fr, ci, ch, L, rfl, hd, hc, hR, he, hf, hf0, hl, hn, hz⟩ ih
 rw [spec_l04Regions.l1]
 refine ok_bind (below_lt hc (by omega)) (fun r3 h3 => ?_)
 rw [w64_id (z := 1 + r3.1) (by omega) (by omega)]
 refine ok_if (fun hlt => ?_) (fun hge => ok_some ⟨hR, by dsimp only; omega, by dsimp only; omega, h3.2.2⟩)
 refine ok_bind (below_lt h3.2.2 (by omega)) (fun r4 h4 => ?_)
 have h5 : w64 ((j : Int) + 1) = ((j + 1 : Nat) : Int) := w64_id (by omega) (by omega)
 rw [w64_id (z := 1 + r4.1) (by omega) (by omega), w64_id (z := fr + (1 + r4.1)) (by omega) (by omega)]
 have fin : ∀ M : List (Int × Int), Rows 0 M → endOf 0 M ≤ fr + (1 + r4.1) → M.length ≤ j + 1 → 1 ≤ M.length → Ok (spec_l04Regions.j2 k (spec_l04Regions.l1 k n) ((j : Int), r4.2.2.1, r4.2.2.2, fr, 1 + r4.1, c.1, M, ())) (fun r => Rows 0 r.1 ∧ 1 ≤ r.1.length ∧ r.1.length ≤ 4 ∧ Cur (c.1, r.2.2)) := fun M hM hM2 hM3 hM4 => by
  rw [spec_l04Regions.j2]
  refine ok_bind (below_lt h4.2.2 (by omega)) (fun r7 h7 => ?_)
  rw [h5, w64_id (z := fr + (1 + r4.1)) (by omega) (by omega), w64_id (z := fr + (1 + r4.1) + r7.1) (by omega) (by omega)]
  exact ih (d - 1) _ (by omega) ⟨j + 1, _, _, _, _, rfl, by omega, h7.2.2, hM, by omega, by omega, by omega, hM3, .inr hM4, fun h => by omega⟩
 refine ok_if (fun h64 => ok_let ?_) (fun h64 => fin L hR (by omega) (by omega) (by omega))
 refine ok_grd (by simp only [List.length_cons, List.length_nil]; omega) (ok_let ?_)
 have ra := rows_app (L := L) (lo := 0) (r := (fr, 1 + r4.1)) hR he (by dsimp only; omega) (by dsimp only; omega) (by dsimp only; omega)
 exact fin _ ra.1 (by rw [ra.2]; exact Int.le_refl _) (by simp only [List.length_append, List.length_cons, List.length_nil]; omega) (by simp only [List.length_append, List.length_cons, List.length_nil]; omega)
theorem rows_in : ∀ {L : List (Int × Int)} {lo : Int}, Rows lo L → ∀ x, x ∈ L → lo ≤ x.1 ∧ 1 ≤ x.2 ∧ x.2 ≤ 14 ∧ x.1 + x.2 ≤ 64
 | [], _, _, x, hx => by cases hx
 | r :: L, lo, ⟨a, b, c, d, e⟩, x, hx => by
  rcases List.mem_cons.1 hx with rfl | hx
  ·exact ⟨a, b, c, d⟩
  ·have := rows_in e x hx
   exact ⟨by omega, this.2⟩
def Near (L : List (Int × Int)) : Prop := ∀ x, x ∈ L → x.1 < 9223372036854775808
theorem l04Any_ok {k : Nat} {c : List Int × Int × Int} (hk : 1048576 < k) (h : Cur c) : Ok (spec_l04Any.f k c) (fun r => Near r.1 ∧ r.1.length ≤ 5 ∧ Cur (c.1, r.2.2)) := by
 unfold spec_l04Any.f
 refine ok_bind (l04Regions_ok hk h) (fun r1 h1 => ?_)
 have hl := h1.2.2.1
 have hN : Near r1.1 := fun x hx => by have := rows_in h1.1 x hx; omega
 have hset : ∀ (i : Nat) (y : Int × Int), y.1 < 9223372036854775808 → Near (r1.1.set i y) := fun i y hy x hx => by
  rcases List.mem_or_eq_of_mem_set hx with hx | rfl
  ·exact hN x hx
  ·exact hy
 refine ok_bind (below_lt h1.2.2.2 (by omega)) (fun r2 h2 => ok_bind (below_lt h2.2.2 (by omega)) (fun r3 h3 => ?_))
 have hi : r2.1.toNat < r1.1.length := by omega
 have hm := hN _ (el_mem (t := C2) hi)
 refine ok_if (fun _ => ?_) (fun _ => ok_if (fun _ => ?_) (fun _ => ok_if (fun _ => ?_) (fun _ => ok_if (fun _ => ?_) (fun _ => ok_some ⟨hN, by dsimp only; omega, h3.2.2⟩))))
 ·refine ok_let (ok_bind (pickInt_ok h3.2.2 (by decide)) (fun r5 h5 => ok_grd h2.1 (ok_grd h2.2.1 (ok_let (ok_some ⟨hset _ _ ?_, by dsimp only; rw [List.length_set]; omega, h5.2⟩)))))
  have hm := h5.1
  simp only [List.mem_cons, List.not_mem_nil, or_false] at hm
  show r5.1 < _
  omega
 ·exact ok_let (ok_bind (pickInt_ok h3.2.2 (by decide)) (fun r5 h5 => ok_grd h2.1 (ok_grd h2.2.1 (ok_let (ok_some ⟨hset _ _ hm, by dsimp only; rw [List.length_set]; omega, h5.2⟩)))))
 ·refine ok_grd h2.1 (ok_grd h2.2.1 (ok_let (ok_grd (by simp only [List.length_cons, List.length_nil]; omega) (ok_let (ok_some ⟨fun x hx => ?_, by dsimp only; simp only [List.length_append, List.length_cons, List.length_nil]; omega, h3.2.2⟩)))))
  rcases List.mem_append.1 hx with hx | hx
  ·exact hN x hx
  ·rw [List.mem_singleton.1 hx]
   exact hm
 ·exact ok_let (ok_some ⟨(fun x hx => by cases hx), by simp, h3.2.2⟩)
end Go.Proofs.Ythncjcfnpfajaaa.Pure
/- Ports and lines that are drawn. No condition. -/
namespace Go.Proofs.Ythncjcfnpfajaaa.Pure
open Go Go.Proofs.YthncjcfnpfajaaaA Go.Proofs.YthncjcfnpfajaaaU Go.Proofs.Ythncjcfnpfajaaa.QA
set_option linter.unusedVariables false
theorem onceP_ok {k : Nat} {c : List Int × Int × Int} {n : Int} (h : Cur c) : Ok (spec_l01Once.f k c n) (fun r => Cur (c.1, r.2.2)) := by
 unfold spec_l01Once.f
 exact ok_bind (below_ok h) (fun r hr => ok_some hr.2.2.2)
theorem pickP_ok {k : Nat} {c : List Int × Int × Int} {L : List Int} (h : Cur c) (hl : 0 < L.length) : Ok (spec_l01PickInt.f k c L) (fun r => Cur (c.1, r.2.2)) := by
 unfold spec_l01PickInt.f
 refine ok_bind (below_lt h (by omega)) (fun r hr => ?_)
 rw [if_pos hr.1, if_pos hr.2.1]
 exact ok_some hr.2.2
theorem l08Port_ok {k : Nat} {c : List Int × Int × Int} (h : Cur c) : Ok (spec_l08Port.f k c) (fun r => PortOk r.1 ∧ Cur (c.1, r.2.2)) := by
 have hj : ∀ {x1 x2 fr tq mo : Int} {a b : Int}, Cur (c.1, a, b) → (1 ≤ fr ∧ fr ≤ 4) → (1 ≤ tq ∧ tq ≤ 4) → ¬ fr = tq → (1 ≤ mo ∧ mo ≤ 6) → Ok (spec_l08Port.j1 k (a, b, 0, 0, 0, 0, 0, 1, fr, tq, mo, 0, c.1, ())) (fun r => PortOk r.1 ∧ Cur (c.1, r.2.2)) := fun hc h1 h2 h3 h4 => by
  rw [spec_l08Port.j1]
  refine ok_bind (onceP_ok hc) (fun r4 h4' => ok_if (fun _ => ok_bind (below_lt h4' (by omega)) (fun r5 h5 => ok_some ⟨⟨h1, h2, h3, .inr ⟨rfl, rfl, ?_⟩⟩, h5.2.2⟩)) (fun _ => ok_some ⟨⟨h1, h2, h3, .inl ⟨rfl, h4, rfl⟩⟩, h4'⟩))
  rw [w64_id (z := 1 + r5.1) (by omega) (by omega)]
  dsimp only
  omega
 unfold spec_l08Port.f
 refine ok_bind (below_lt h (by omega)) (fun r1 h1 => ok_bind (below_lt h1.2.2 (by omega)) (fun r2 h2 => ok_bind (below_lt h2.2.2 (by omega)) (fun r3 h3 => ?_)))
 have e1 : w64 (1 + r1.1) = 1 + r1.1 := w64_id (by omega) (by omega)
 have e2 : w64 (1 + r2.1) = 1 + r2.1 := w64_id (by omega) (by omega)
 have e3 : w64 (1 + r3.1) = 1 + r3.1 := w64_id (by omega) (by omega)
 have e4 : Int.tmod (1 + r1.1) 3 = (1 + r1.1) % 3 := Int.tmod_eq_emod_of_nonneg (by omega)
 rw [e1, e2, e3, e4, w64_id (z := 1 + (1 + r1.1) % 3) (by omega) (by omega)]
 refine ok_if (fun he => hj (x1 := 0) (x2 := 0) h3.2.2 (by omega) (by omega) (by omega) (by omega)) (fun he => hj (x1 := 0) (x2 := 0) h3.2.2 (by omega) (by omega) he (by omega))
theorem l08Any_ok {k : Nat} {c : List Int × Int × Int} (h : Cur c) : Ok (spec_l08Any.f k c) (fun r => Cur (c.1, r.2.2)) := by
 unfold spec_l08Any.f
 refine ok_bind (l08Port_ok h) (fun r1 h1 => ok_bind (below_lt h1.2 (by omega)) (fun r2 h2 => ok_if (fun _ => ok_bind (below_lt h2.2.2 (by omega)) (fun r h => ok_some h.2.2)) (fun _ => ok_if (fun _ => ok_let (ok_bind (pickP_ok h2.2.2 (by decide)) (fun r h => ok_some h))) (fun _ => ok_if (fun _ => ok_let (ok_bind (pickP_ok h2.2.2 (by decide)) (fun r h => ok_some h))) (fun _ => ok_if (fun _ => ok_let (ok_bind (pickP_ok h2.2.2 (by decide)) (fun r h => ok_some h))) (fun _ => ok_some h2.2.2))))))
end Go.Proofs.Ythncjcfnpfajaaa.Pure
/- Rules that are drawn. No condition. -/
namespace Go.Proofs.Ythncjcfnpfajaaa.Pure
open Go Go.Proofs.YthncjcfnpfajaaaA Go.Proofs.YthncjcfnpfajaaaU Go.Proofs.Ythncjcfnpfajaaa.QA
set_option linter.unusedVariables false
theorem rulesOk_nil : RulesOk [] := ⟨fun i hi => absurd hi (by simp), by simp⟩
theorem l10Rules_ok {k : Nat} {c : List Int × Int × Int} {parts : Int} (hk : 1048576 < k) (h : Cur c) (hp : 1 ≤ parts ∧ parts ≤ 4) :
  Ok (spec_l10Rules.f k c parts) (fun r => RulesOk r.1 ∧ (∀ x, x ∈ r.1 → 1 ≤ x.1 ∧ x.1 ≤ parts) ∧ Cur (c.1, r.2.2)) := by
 unfold spec_l10Rules.f
 refine ok_let ?_
 refine ok_loop (L := spec_l10Rules.l1 k) (I := fun d s => ∃ (j : Nat) (ci ch : Int) (R : List (Int × Int × Int)), s = (parts, (j : Int), ci, ch, c.1, R, ()) ∧ j + d = 6 ∧ Cur (c.1, ci, ch) ∧ RulesOk R ∧ ∀ x, x ∈ R → 1 ≤ x.1 ∧ x.1 ≤ parts) ?_ k 6 _ (by omega) ⟨0, c.2.1, c.2.2, [], rfl, by omega, h, rulesOk_nil, fun x hx => by cases hx⟩
 rintro d n s ⟨j, ci, ch, R, rfl, hd, hc, hR, hx⟩ ih
 rw [spec_l10Rules.l1]
 refine ok_bind (below_lt hc (by omega)) (fun r2 hr2 => ok_if (fun hlt => ?_) (fun _ => ok_some ⟨hR, hx, hr2.2.2⟩))
 refine ok_bind (below_lt hr2.2.2 (by omega)) (fun r3 hr3 => ok_bind (below_lt hr3.2.2 (by omega)) (fun r4 hr4 => ok_bind (below_lt hr4.2.2 (by omega)) (fun r5 hr5 => ok_bind (once_ok hr5.2.2) (fun r6 hr6 => ?_))))
 have h4 : w64 ((j : Int) + 1) = ((j + 1 : Nat) : Int) := w64_id (by omega) (by omega)
 have e3 : w64 (1 + r3.1) = 1 + r3.1 := w64_id (by omega) (by omega)
 have hlen : R.length ≤ 8 := hR.2
 have fin : ∀ a b : Int, Ok (spec_l10Rules.j2 k (spec_l10Rules.l1 k n) (parts, (j : Int), r6.2.2.1, r6.2.2.2, w64 (1 + r3.1), a, b, c.1, R, ())) (fun r => RulesOk r.1 ∧ (∀ x, x ∈ r.1 → 1 ≤ x.1 ∧ x.1 ≤ parts) ∧ Cur (c.1, r.2.2)) := fun a b => by
  rw [e3]
  unfold spec_l10Rules.j2
  simp only [Option.bind_some, List.nil_append, List.length_nil, List.length_cons]
  rw [if_pos (by omega), if_pos (by omega), rulesOk_s (by rw [List.length_append, List.length_cons, List.length_nil]; omega) hk, h4]
  refine ok_let ?_
  refine ok_if (fun hb => ih (d - 1) _ (by omega) ⟨j + 1, _, _, _, rfl, by omega, hr6, B_iff.1 hb, fun x hx' => ?_⟩) (fun hb => ih (d - 1) _ (by omega) ⟨j + 1, _, _, _, rfl, by omega, hr6, hR, hx⟩)
  rcases List.mem_append.1 hx' with h' | h'
  ·exact hx x h'
  ·rw [List.mem_singleton.1 h']
   show 1 ≤ 1 + r3.1 ∧ 1 + r3.1 ≤ parts
   omega
 exact ok_if (fun _ => fin _ _) (fun _ => fin _ _)
theorem l10Any_ok {k : Nat} {c : List Int × Int × Int} (hk : 1048576 < k) (h : Cur c) : Ok (spec_l10Any.f k c) (fun r => r.1.length ≤ 9 ∧ Cur (c.1, r.2.2)) := by
 unfold spec_l10Any.f
 refine ok_bind (l10Rules_ok hk h (by omega)) (fun r1 hr1 => ok_bind (once_ok hr1.2.2) (fun r2 hr2 => ?_))
 have hlen : r1.1.length ≤ 8 := hr1.1.2
 refine ok_if (fun _ => ?_) (fun _ => ok_some ⟨by show r1.1.length ≤ 9; omega, hr2⟩)
 refine ok_bind (below_ok hr2) (fun r3 hr3 => ok_bind (below_ok hr3.2.2.2) (fun r4 hr4 => ok_bind (below_ok hr4.2.2.2) (fun r5 hr5 => ?_)))
 simp only [Option.bind_some, List.length_cons, List.length_nil]
 rw [if_pos (by omega)]
 exact ok_some ⟨by show (_ ++ _ : List _).length ≤ 9; rw [List.length_append, List.length_cons, List.length_nil]; omega, hr5.2.2.2⟩
end Go.Proofs.Ythncjcfnpfajaaa.Pure
/- Texts of numbers. No condition. -/
namespace Go.Proofs.Ythncjcfnpfajaaa.Pure
open Go Go.Proofs.YthncjcfnpfajaaaA Go.Proofs.YthncjcfnpfajaaaU Go.Proofs.Ythncjcfnpfajaaa.QA
set_option linter.unusedVariables false
theorem u8_w (z : Int) : IntKind.u8.wrap z = z % 256 := by simp [IntKind.wrap, IntKind.signed, IntKind.bits]
theorem chrs_size (xs : List Int) : (chrs xs).size = xs.length := by
 show (chrs xs).data.size = _
 simp [chrs]
theorem chrs_app (xs ys : List Int) : chrs (xs ++ ys) = chrs xs ++ chrs ys := by
 apply ByteArray.ext
 simp [chrs]
/-- The bytes of a number. -/
def varL (n : Nat) : List Int := if n > 127 then ((n % 128 + 128 : Nat) : Int) :: varL (n / 128) else [(n : Int)]
termination_by n
decreasing_by omega
theorem varL_len : ∀ (d n : Nat), n < 128 ^ d → (varL n).length ≤ d + 1
 | 0, n, h => by
  rw [varL, if_neg (by simp at h; omega)]
  simp
 | d + 1, n, h => by
  rw [varL]
  split
  ·have := varL_len d (n / 128) (by rw [Nat.pow_succ] at h; omega)
   rw [List.length_cons]
   omega
  ·simp
theorem var_s {k : Nat} {n : Nat} (hk : 1048576 < k) (hn : n ≤ 1000000000) : spec_l01Var.f k (n : Int) = some (chrs (varL n)) := by
 refine ok_eq ?_
 unfold spec_l01Var.f
 refine ok_let ?_
 refine ok_loop (L := spec_l01Var.l1 k) (I := fun d s => ∃ (m : Nat) (acc : List Int), s = ((m : Int), acc, ()) ∧ m < 128 ^ d ∧ m ≤ 1000000000 ∧ acc.length + d ≤ 5 ∧ acc ++ varL m = varL n) ?_ k 5 _ (by omega) ⟨n, [], rfl, by omega, hn, by simp, rfl⟩
 rintro d c s ⟨m, acc, rfl, hm, hm2, ha, he⟩ ih
 rw [spec_l01Var.l1]
 refine ok_if (fun hc => ?_) (fun hc => ?_)
 ·refine ok_let (ok_grd (by simp only [List.length_cons, List.length_nil]; omega) (ok_let ?_))
  have e1 : Int.tmod (m : Int) 128 = ((m % 128 : Nat) : Int) := by rw [Int.tmod_eq_emod_of_nonneg (by omega)]; omega
  have e2 : Int.tdiv (m : Int) 128 = ((m / 128 : Nat) : Int) := by rw [Int.tdiv_eq_ediv_of_nonneg (by omega)]; omega
  have e3 : w64 (((m % 128 : Nat) : Int) + 128) = ((m % 128 + 128 : Nat) : Int) := by rw [w64_id (by omega) (by omega)]; omega
  have e4 : IntKind.u8.wrap ((m % 128 + 128 : Nat) : Int) = ((m % 128 + 128 : Nat) : Int) := by rw [u8_w]; omega
  have e5 : w64 ((m / 128 : Nat) : Int) = ((m / 128 : Nat) : Int) := w64_id (by omega) (by omega)
  rw [e1, e2, e3, e4, e5]
  have hd : d ≠ 0 := by
   rintro rfl
   simp at hm
   omega
  obtain ⟨d, rfl⟩ : ∃ d', d = d' + 1 := ⟨d - 1, by omega⟩
  refine ih d _ (by omega) ⟨m / 128, _, rfl, by rw [Nat.pow_succ] at hm; omega, by omega, by simp; omega, ?_⟩
  rw [← he]
  conv => rhs; rw [varL, if_pos (by omega)]
  simp
 ·refine ok_let (ok_grd (by simp only [List.length_cons, List.length_nil]; omega) (ok_let (ok_some ?_)))
  have e4 : IntKind.u8.wrap (m : Int) = (m : Int) := by rw [u8_w]; omega
  rw [e4, ← he]
  congr 2
  rw [varL, if_neg (by omega)]
theorem var_i {k : Nat} {n : Nat} (hk : 1048576 < k) (hn : n ≤ 1000000000) : impl_VarText.f k (n : Int) = some (chrs (varL n), true) := by
 have h : ∀ c s, impl_VarText.l1 k c s = (spec_l01Var.l1 k c s).map fun t => (t, true) := by
  intro c
  induction c with
  | zero => intro s; rfl
  | succ c ih =>
   rintro ⟨x, acc, u⟩
   rw [impl_VarText.l1, spec_l01Var.l1]
   simp only [Option.bind_some, ih]
   split <;> split <;> rfl
 have hs := var_s hk hn
 unfold spec_l01Var.f at hs
 simp only [Option.bind_some] at hs
 unfold impl_VarText.f
 rw [in_i, decide_eq_true (by omega)]
 simp only [Option.bind_some, not_true_eq_false, ↓reduceIte, h, hs]
 rfl
/-- The bytes of numbers. -/
def numsL : List Nat → List Int
 | [] => []
 | n :: L => varL n ++ numsL L
theorem numbers_i {k : Nat} {L : List Nat} (hk : 1048576 < k) (hl : L.length ≤ 1000) (hn : ∀ n, n ∈ L → n ≤ 1000000000) : impl_numbers.f k (L.map fun n : Nat => (n : Int)) = some (chrs (numsL L)) := by
 refine ok_eq ?_
 unfold impl_numbers.f
 have hlm : (L.map fun n : Nat => (n : Int)).length = L.length := List.length_map ..
 refine ok_loop (L := impl_numbers.l1 k) (I := fun d s => ∃ (j : Nat) (acc : List Int), s = (chrs acc, ((L.map fun n : Nat => (n : Int)).length : Int), (j : Int), (L.map fun n : Nat => (n : Int)), ()) ∧ j + d = L.length ∧ acc.length ≤ 6 * j ∧ acc ++ numsL (L.drop j) = numsL L) ?_ k L.length _ (by omega) ⟨0, [], rfl, by omega, by simp, rfl⟩
 rintro d c s ⟨j, acc, rfl, hd, ha, he⟩ ih
 rw [impl_numbers.l1]
 refine ok_if (fun hc => ?_) (fun hc => ok_some ?_)
 ·have hj : j < L.length := by omega
  have e1 : el (.int .i64) (L.map fun n : Nat => (n : Int)) (j : Int).toNat = ((L[j] : Nat) : Int) := el_at (by simp [hj])
  have h4 : w64 ((j : Int) + 1) = ((j + 1 : Nat) : Int) := w64_id (by omega) (by omega)
  have hb := hn L[j] (List.getElem_mem hj)
  have hb2 := varL_len 5 L[j] (by omega)
  rw [if_pos (by omega), if_pos hc, e1, var_i hk hb, h4]
  refine ok_let (ok_grd (by simp only [chrs_size]; omega) ?_)
  rw [← chrs_app]
  refine ih (d - 1) _ (by omega) ⟨j + 1, _, rfl, by omega, by rw [List.length_append]; omega, ?_⟩
  rw [← he, List.drop_eq_getElem_cons hj, numsL, List.append_assoc]
 ·rw [← he, List.drop_of_length_le (by omega), numsL, List.append_nil]
end Go.Proofs.Ythncjcfnpfajaaa.Pure
/- The bytes of code. No condition. -/
namespace Go.Proofs.Ythncjcfnpfajaaa.Pure
open Go Go.Proofs.YthncjcfnpfajaaaA Go.Proofs.YthncjcfnpfajaaaU Go.Proofs.Ythncjcfnpfajaaa.QA
set_option linter.unusedVariables false
def codeB : List (Int × Int) → List Int
 | [] => []
 | x :: L => x.1 :: x.2 :: codeB L
theorem codeB_len : ∀ L, (codeB L).length = 2 * L.length
 | [] => rfl
 | x :: L => by
  rw [codeB, List.length_cons, List.length_cons, codeB_len L, List.length_cons]
  omega
theorem codeB_app : ∀ L M, codeB (L ++ M) = codeB L ++ codeB M
 | [], M => rfl
 | x :: L, M => by
  rw [List.cons_append, codeB, codeB, codeB_app L M]
  rfl
noncomputable def codeTextM (L : List (Int × Int)) : ByteArray × Bool := if B (CodeOk L) = true then (chrs (codeB L), true) else (⟨#[]⟩, false)
theorem codeText_s {k : Nat} {L : List (Int × Int)} (hl : L.length ≤ 1048576) (hk : 1048576 < k) : spec_CodeText.f k L = some (codeTextM L) := by
 refine ok_eq ?_
 unfold spec_CodeText.f codeTextM
 rw [codeOk_s hl hk]
 refine ok_let (ok_if (fun h => ok_some (by rw [if_neg h])) (fun h => ok_let ?_))
 have hc := B_iff.1 (Classical.not_not.1 h)
 have h60 := hc.2
 rw [if_pos (Classical.not_not.1 h)]
 refine ok_loop (L := spec_CodeText.l1 k) (I := fun d s => ∃ j : Nat, s = ((j : Int), L, codeB (L.take j), ()) ∧ j + d = L.length) ?_ k L.length _ (by omega) ⟨0, rfl, by omega⟩
 rintro d n s ⟨j, rfl, hd⟩ ih
 rw [spec_CodeText.l1]
 refine ok_if (fun hlt => ?_) (fun hge => ok_some ?_)
 ·have hj : j < L.length := by omega
  have c0 : (0 : Int) ≤ (j : Int) := by omega
  have h4 : w64 ((j : Int) + 1) = ((j + 1 : Nat) : Int) := w64_id (by omega) (by omega)
  have hin := hc.1 j hj
  have hx := el_lt (t := C2) hj
  obtain ⟨op, g, hxe⟩ : ∃ op g : Int, el C2 L j = (op, g) := ⟨_, _, rfl⟩
  rw [hxe] at hin hx
  obtain ⟨i1, i2⟩ := hin
  simp only at i1 i2
  have e1 : IntKind.u8.wrap op = op := by rw [u8_w]; omega
  have e2 : IntKind.u8.wrap g = g := by rw [u8_w]; omega
  have hcl := codeB_len (L.take j)
  have htl : (L.take j).length = j := by rw [List.length_take]; omega
  simp only [c0, hlt, h4, ↓reduceIte, Int.toNat_natCast, show el (.pair (.int .i64) (.int .i64)) L j = (op, g) from hxe, e1, e2, Option.bind_some, List.length_cons, List.length_nil]
  rw [if_pos (by omega)]
  refine ih (d - 1) _ (by omega) ⟨j + 1, ?_, by omega⟩
  have et : L.take (j + 1) = L.take j ++ [(op, g)] := by
   rw [List.take_add_one, hx]
   rfl
  rw [et, codeB_app]
  rfl
 ·rw [List.take_of_length_le (by omega)]
end Go.Proofs.Ythncjcfnpfajaaa.Pure
/- Set-ups that are drawn: they are right. No condition. -/
namespace Go.Proofs.Ythncjcfnpfajaaa.Pure
open Go Go.Proofs.YthncjcfnpfajaaaA Go.Proofs.YthncjcfnpfajaaaU Go.Proofs.Ythncjcfnpfajaaa.QA
set_option linter.unusedVariables false
/-- A drawn text of code. -/
def CodeDrawn (s : ByteArray) : Prop := ∃ L, AllIns L ∧ L.length ≤ 46 ∧ s = chrs (codeB L)
structure Drawn (s : Setup) : Prop where
 rows : Rows 0 s.1
 n1 : 1 ≤ s.1.length
 n4 : s.1.length ≤ 4
 plan1 : 1 ≤ s.2.1.length
 plan5 : s.2.1.length ≤ 5
 plan : ∀ w, w ∈ s.2.1 → (1 ≤ w.1 ∧ w.1 ≤ (s.1.length : Int)) ∧ (1 ≤ w.2 ∧ w.2 ≤ 40)
 ports3 : s.2.2.1.length ≤ 3
 ports : ∀ p, p ∈ s.2.2.1 → PortOk p ∧ p.2.1 ≤ (s.1.length : Int) ∧ p.2.2.1 ≤ (s.1.length : Int)
 rules : RulesOk s.2.2.2.1
 rulesN : ∀ r, r ∈ s.2.2.2.1 → 1 ≤ r.1 ∧ r.1 ≤ (s.1.length : Int)
 codesN : s.2.2.2.2.length = s.1.length
 codes : ∀ c, c ∈ s.2.2.2.2 → CodeDrawn c
theorem l09Plan_ok {k : Nat} {c : List Int × Int × Int} {parts : Int} (hk : 1048576 < k) (h : Cur c) (hp : 1 ≤ parts ∧ parts ≤ 4) :
  Ok (spec_l09Plan.f k c parts) (fun r => 1 ≤ r.1.length ∧ r.1.length ≤ 5 ∧ (∀ w, w ∈ r.1 → (1 ≤ w.1 ∧ w.1 ≤ parts) ∧ (1 ≤ w.2 ∧ w.2 ≤ 40)) ∧ Cur (c.1, r.2.2)) := by
 unfold spec_l09Plan.f
 refine ok_let ?_
 refine ok_loop (L := spec_l09Plan.l1 k) (I := fun d s => ∃ (j : Nat) (ci ch : Int) (L : List (Int × Int)), s = (parts, (j : Int), ci, ch, c.1, L, ()) ∧ j + d = 5 ∧ Cur (c.1, ci, ch) ∧ L.length = j ∧ ∀ w, w ∈ L → (1 ≤ w.1 ∧ w.1 ≤ parts) ∧ (1 ≤ w.2 ∧ w.2 ≤ 40)) ?_ k 5 _ (by omega) ⟨0, _, _, [], rfl, by omega, h, rfl, fun w hw => by cases hw⟩
 rintro d n s ⟨j, ci, ch, L, rfl, hd, hc, hL, hw⟩ ih
 rw [spec_l09Plan.l1]
 refine ok_bind (below_lt hc (by omega)) (fun r2 h2 => ?_)
 rw [w64_id (z := 1 + r2.1) (by omega) (by omega)]
 refine ok_if (fun hlt => ?_) (fun hge => ok_some ⟨by dsimp only; omega, by dsimp only; omega, hw, h2.2.2⟩)
 refine ok_bind (below_lt h2.2.2 (by omega)) (fun r3 h3 => ok_bind (below_lt h3.2.2 (by omega)) (fun r4 h4 => ok_let ?_))
 rw [w64_id (z := 1 + r3.1) (by omega) (by omega), w64_id (z := 1 + r4.1) (by omega) (by omega)]
 refine ok_grd (by simp only [List.length_cons, List.length_nil]; omega) (ok_let ?_)
 have h5 : w64 ((j : Int) + 1) = ((j + 1 : Nat) : Int) := w64_id (by omega) (by omega)
 rw [h5]
 refine ih (d - 1) _ (by omega) ⟨j + 1, _, _, _, rfl, by omega, h4.2.2, by simp [hL], fun w hw' => ?_⟩
 rcases List.mem_append.1 hw' with h' | h'
 ·exact hw w h'
 ·rw [List.mem_singleton.1 h']
  dsimp only
  omega
theorem l11Setup_ok {k : Nat} {c : List Int × Int × Int} (hk : 1048576 < k) (h : Cur c) : Ok (spec_l11Setup.f k c) (fun r => Drawn r.1 ∧ Cur (c.1, r.2.2)) := by
 unfold spec_l11Setup.f
 refine ok_bind (l04Regions_ok hk h) (fun r1 h1 => ok_bind (l09Plan_ok hk h1.2.2.2 (by have := h1.2; omega)) (fun r2 h2 => ok_bind (l10Rules_ok hk h2.2.2.2 (by have := h1.2; omega)) (fun r3 h3 => ?_)))
 obtain ⟨hR, hn1, hn4, -⟩ := h1
 obtain ⟨hp1, hp5, hpl, -⟩ := h2
 obtain ⟨hru, hrn, hc3⟩ := h3
 generalize r1.1 = R at hR hn1 hn4 hpl hrn
 generalize r2.1 = W at hp1 hp5 hpl
 generalize r3.1 = U at hru hrn
 refine ok_loop (L := spec_l11Setup.l1 k) (I := fun d s => ∃ (j : Nat) (ci ch : Int) (P : List Port5), s = ((R.length : Int), (j : Int), ci, ch, c.1, [], [], [], [], [], R, W, P, U, [], ()) ∧ j + d = 4 ∧ Cur (c.1, ci, ch) ∧ P.length ≤ j ∧ j ≤ 3 ∧ ∀ p, p ∈ P → PortOk p ∧ p.2.1 ≤ (R.length : Int) ∧ p.2.2.1 ≤ (R.length : Int)) ?_ k 4 _ (by omega) ⟨0, _, _, [], rfl, by omega, hc3, Nat.le_refl 0, by omega, fun p hp => by cases hp⟩
 rintro d n s ⟨j, ci, ch, P, rfl, hd, hc, hP, hj, hpp⟩ ih
 rw [spec_l11Setup.l1]
 refine ok_bind (below_lt hc (by omega)) (fun r4 h4 => ok_if (fun hlt => ?_) (fun hge => ?_))
 ·have h5 : w64 ((j : Int) + 1) = ((j + 1 : Nat) : Int) := w64_id (by omega) (by omega)
  refine ok_bind (l08Port_ok h4.2.2) (fun r5 h6 => ?_)
  rw [h5]
  have skip := ih (d - 1) ((R.length : Int), ((j + 1 : Nat) : Int), r5.2.2.1, r5.2.2.2, c.1, [], [], [], [], [], R, W, P, U, [], ()) (by omega) ⟨j + 1, _, _, P, rfl, by omega, h6.2, by omega, by omega, hpp⟩
  refine ok_if (fun q1 => ok_if (fun q2 => ok_let (ok_grd (by simp only [List.length_cons, List.length_nil]; omega) (ok_let ?_))) (fun _ => skip)) (fun _ => skip)
  refine ih (d - 1) _ (by omega) ⟨j + 1, _, _, _, rfl, by omega, h6.2, by simp only [List.length_append, List.length_cons, List.length_nil]; omega, by omega, fun p hp => ?_⟩
  rcases List.mem_append.1 hp with h' | h'
  ·exact hpp p h'
  ·rw [List.mem_singleton.1 h']
   exact ⟨h6.1, q1, q2⟩
 ·clear ih hc hd
  refine ok_loop (L := spec_l11Setup.l2 k) (I := fun d s => ∃ (j : Nat) (ci ch : Int) (C : List ByteArray), s = ((R.length : Int), (j : Int), ci, ch, c.1, [], [], [], [], [], R, W, P, U, C, ()) ∧ j + d = R.length ∧ Cur (c.1, ci, ch) ∧ C.length = j ∧ ∀ c, c ∈ C → CodeDrawn c) ?_ k R.length _ (by omega) ⟨0, _, _, [], rfl, by omega, h4.2.2, rfl, fun p hp => by cases hp⟩
  rintro d m s ⟨i, ci, ch, C, rfl, hd, hc, hC, hcd⟩ ih
  rw [spec_l11Setup.l2]
  refine ok_if (fun hlt => ?_) (fun hge => ok_some ⟨⟨hR, hn1, hn4, hp1, hp5, hpl, by dsimp only; omega, hpp, hru, hrn, by dsimp only; omega, hcd⟩, hc⟩)
  refine ok_bind (l05Code_ok hk hc) (fun r8 h8 => ?_)
  have hl8 := h8.2.1
  have h5 : w64 ((i : Int) + 1) = ((i + 1 : Nat) : Int) := w64_id (by omega) (by omega)
  have ect : codeTextM r8.1 = (chrs (codeB r8.1), true) := by
   unfold codeTextM
   rw [B_yes (codeOk_of h8.1 (by omega)), if_pos rfl]
  rw [codeText_s (by omega) hk, ect, h5]
  refine ok_let (ok_let (ok_grd (by simp only [List.length_cons, List.length_nil]; omega) (ok_let ?_)))
  refine ih (d - 1) _ (by omega) ⟨i + 1, _, _, _, rfl, by omega, h8.2.2, by simp [hC], fun x hx => ?_⟩
  rcases List.mem_append.1 hx with h' | h'
  ·exact hcd x h'
  ·rw [List.mem_singleton.1 h']
   exact ⟨r8.1, h8.1, hl8, rfl⟩
end Go.Proofs.Ythncjcfnpfajaaa.Pure
/- Drawn set-ups, right or not. No condition. -/
namespace Go.Proofs.Ythncjcfnpfajaaa.Pure
open Go Go.Proofs.YthncjcfnpfajaaaA Go.Proofs.YthncjcfnpfajaaaU Go.Proofs.Ythncjcfnpfajaaa.QA
set_option linter.unusedVariables false
set_option linter.unusedSimpArgs false
theorem l09Any_ok {k : Nat} {c : List Int × Int × Int} (hk : 1048576 < k) (h : Cur c) : Ok (spec_l09Any.f k c) (fun r => r.1.length ≤ 13 ∧ Cur (c.1, r.2.2)) := by
 obtain ⟨b, ci, ch⟩ := c
 unfold spec_l09Any.f
 refine ok_bind (l09Plan_ok hk h (by omega)) (fun r1 h1 => ?_)
 obtain ⟨p1, p2, p3, h1⟩ := h1
 refine ok_bind (below_lt h1 (by omega)) (fun r2 h2 => ?_)
 refine ok_if (fun _ => ?_) (fun _ => ok_if (fun _ => ?_) (fun _ => ok_if (fun _ => ok_let (ok_some ⟨by simp, h2.2.2⟩)) (fun _ => ok_if (fun _ => ?_) (fun _ => ok_some ⟨by dsimp only; omega, h2.2.2⟩))))
 ·refine ok_let (ok_bind (pickInt_ok h2.2.2 (by decide)) (fun r h => ok_grd (by omega) (ok_grd (by omega) (ok_let (ok_some ⟨by dsimp only; rw [List.length_set]; omega, h.2⟩)))))
 ·refine ok_let (ok_bind (pickInt_ok h2.2.2 (by decide)) (fun r h => ok_grd (by omega) (ok_grd (by omega) (ok_let (ok_some ⟨by dsimp only; rw [List.length_set]; omega, h.2⟩)))))
 ·refine ok_loop (L := spec_l09Any.l1 k) (I := fun d s => ∃ (ci ch : Int) (L : List (Int × Int)), s = (ci, ch, b, L, ()) ∧ L.length + d = 13 ∧ Cur (b, ci, ch)) ?_ k (13 - r1.1.length) _ (by omega) ⟨_, _, _, rfl, by omega, h2.2.2⟩
  rintro d n s ⟨ci, ch, L, rfl, hd, hc⟩ ih
  rw [spec_l09Any.l1]
  refine ok_bind (below_lt hc (by omega)) (fun r hr => ?_)
  have hr1 := hr.1
  have hr2 := hr.2.1
  rw [w64_id (z := 12 + r.1) (by omega) (by omega)]
  refine ok_if (fun hlt => ok_let (ok_grd (by simp only [List.length_cons, List.length_nil]; omega) (ok_let ?_))) (fun _ => ok_some ⟨by dsimp only; omega, hr.2.2⟩)
  exact ih (d - 1) _ (by omega) ⟨_, _, _, rfl, by rw [List.length_append, List.length_cons, List.length_nil]; omega, hr.2.2⟩
theorem l11Any_ok {k : Nat} {c : List Int × Int × Int} (hk : 1048576 < k) (h : Cur c) : Ok (spec_l11Any.f k c) (fun r => Small r.1 ∧ (∀ s, s ∈ r.1.2.2.2.2 → s.size ≤ 200) ∧ Cur (c.1, r.2.2)) := by
 obtain ⟨b, ci, ch⟩ := c
 unfold spec_l11Any.f
 refine ok_bind (l11Setup_ok hk h) ?_
 rintro ⟨⟨R, W, P, U, C⟩, bb⟩ ⟨hD, hcu⟩
 have l1 := hD.n4
 have l3 := hD.plan5
 have l5 := hD.ports3
 have l6 := hD.rules.2
 have l7 := hD.codesN
 have l8 := hD.n1
 have lc : ∀ s, s ∈ C → s.size ≤ 120 := fun s hs => by
  obtain ⟨L, _, h2, rfl⟩ := hD.codes s hs
  rw [chrs_size, codeB_len]
  omega
 simp only at l1 l3 l5 l6 l7 l8 hcu ⊢
 have lc2 : ∀ s, s ∈ C → s.size ≤ 200 := fun s hs => by have := lc s hs; omega
 refine ok_bind (below_lt hcu (by omega)) (fun r2 h2 => ?_)
 refine ok_if (fun _ => ?_) (fun _ => ok_if (fun _ => ?_) (fun _ => ok_if (fun _ => ?_) (fun _ => ok_if (fun _ => ?_) (fun _ => ok_if (fun _ => ?_) (fun _ => ok_if (fun _ => ?_) (fun _ => ok_if (fun _ => ?_) (fun _ => ?_)))))))
 ·exact ok_bind (l04Any_ok hk h2.2.2) (fun r h => ok_some ⟨⟨by have := h.2.1; dsimp only; omega, by dsimp only; omega, by dsimp only; omega, by dsimp only; omega, by dsimp only; omega⟩, lc2, h.2.2⟩)
 ·exact ok_bind (l09Any_ok hk h2.2.2) (fun r h => ok_some ⟨⟨by dsimp only; omega, by have := h.1; dsimp only; omega, by dsimp only; omega, by dsimp only; omega, by dsimp only; omega⟩, lc2, h.2⟩)
 ·exact ok_bind (l08Any_ok h2.2.2) (fun r h => ok_let (ok_grd (by simp only [List.length_cons, List.length_nil]; omega) (ok_let (ok_some ⟨⟨by dsimp only; omega, by dsimp only; omega, by dsimp only; rw [List.length_append, List.length_cons, List.length_nil]; omega, by dsimp only; omega, by dsimp only; omega⟩, lc2, h⟩))))
 ·exact ok_bind (l10Any_ok hk h2.2.2) (fun r h => ok_some ⟨⟨by dsimp only; omega, by dsimp only; omega, by dsimp only; omega, by have := h.1; dsimp only; omega, by dsimp only; omega⟩, lc2, h.2⟩)
 ·exact ok_let (ok_grd (by simp only [List.length_cons, List.length_nil]; omega) (ok_let (ok_some ⟨⟨by dsimp only; omega, by dsimp only; omega, by dsimp only; omega, by dsimp only; omega, by dsimp only; rw [List.length_append, List.length_cons, List.length_nil]; omega⟩, fun s hs => by
   rcases List.mem_append.1 hs with h' | h'
   ·exact lc2 s h'
   ·rw [List.mem_singleton.1 h']
    decide, h2.2.2⟩)))
 ·have hC0 : 0 < C.length := by omega
  have hsz := lc _ (el_mem (t := .str) hC0)
  have hx : (⟨#[120]⟩ : ByteArray).size = 1 := rfl
  refine ok_grd (by omega) (ok_grd (by omega) (ok_grd (by rw [hx]; omega) (ok_grd (by omega) (ok_grd (by omega) (ok_let (ok_some ⟨⟨by dsimp only; omega, by dsimp only; omega, by dsimp only; omega, by dsimp only; omega, by dsimp only; rw [List.length_set]; omega⟩, fun s hs => ?_, h2.2.2⟩))))))
  rcases List.mem_or_eq_of_mem_set hs with h' | h'
  ·exact lc2 s h'
  ·rw [h', ByteArray.size_append, hx]
   omega
 ·refine ok_loop (L := spec_l11Any.l1 k) (I := fun d s => ∃ (ci ch : Int) (L : List Port5), s = (ci, ch, b, [], [], [], [], [], R, W, L, U, C, ()) ∧ L.length + d = 7 ∧ Cur (b, ci, ch)) ?_ k (7 - P.length) _ (by omega) ⟨_, _, _, rfl, by omega, h2.2.2⟩
  rintro d n s ⟨ci, ch, L, rfl, hd, hc⟩ ih
  rw [spec_l11Any.l1]
  refine ok_bind (below_lt hc (by omega)) (fun r hr => ?_)
  have hr1 := hr.1
  have hr2 := hr.2.1
  rw [w64_id (z := 6 + r.1) (by omega) (by omega)]
  refine ok_if (fun hlt => ok_let (ok_grd (by simp only [List.length_cons, List.length_nil]; omega) (ok_let ?_))) (fun _ => ok_some ⟨⟨by dsimp only; omega, by dsimp only; omega, by dsimp only; omega, by dsimp only; omega, by dsimp only; omega⟩, lc2, hr.2.2⟩)
  exact ih (d - 1) _ (by omega) ⟨_, _, _, rfl, by rw [List.length_append, List.length_cons, List.length_nil]; omega, hr.2.2⟩
 ·exact ok_some ⟨⟨by dsimp only; omega, by dsimp only; omega, by dsimp only; omega, by dsimp only; omega, by dsimp only; omega⟩, lc2, h2.2.2⟩
end Go.Proofs.Ythncjcfnpfajaaa.Pure
/- Numbers read from texts: the pure part. No condition. -/
namespace Go.Proofs.Ythncjcfnpfajaaa.Pure
open Go Go.Proofs.YthncjcfnpfajaaaA Go.Proofs.YthncjcfnpfajaaaU Go.Proofs.Ythncjcfnpfajaaa.QA
set_option linter.unusedVariables false
set_option linter.unusedSimpArgs false
def btn (t : ByteArray) (p : Nat) : Nat := (t.toList.getD p 0).toNat
theorem bt_btn (t : ByteArray) (p : Nat) : bt t (p : Int) = (btn t p : Int) := by
 unfold bt btn
 rw [Int.toNat_natCast]
theorem btn_lt (t : ByteArray) (p : Nat) : btn t p < 256 := (t.toList.getD p 0).toNat_lt
/-- From a place on a text has these bytes. -/
def Bytes (t : ByteArray) : Nat → List Int → Prop
 | p, [] => p ≤ t.size
 | p, c :: l => p < t.size ∧ c = (btn t p : Int) ∧ Bytes t (p + 1) l
theorem bytes_le {t : ByteArray} : ∀ {l : List Int} {p : Nat}, Bytes t p l → p + l.length ≤ t.size
 | [], p, h => by simpa [Bytes] using h
 | c :: l, p, h => by
  have := bytes_le h.2.2
  rw [List.length_cons]
  omega
theorem bytes_app {t : ByteArray} : ∀ {l m : List Int} {p : Nat}, Bytes t p (l ++ m) ↔ Bytes t p l ∧ Bytes t (p + l.length) m
 | [], m, p => ⟨fun h => ⟨by have := bytes_le h; show p ≤ t.size; omega, by simpa using h⟩, fun h => by simpa using h.2⟩
 | c :: l, m, p => by
  have ih := bytes_app (t := t) (l := l) (m := m) (p := p + 1)
  have e : p + (c :: l).length = p + 1 + l.length := by rw [List.length_cons]; omega
  rw [e]
  exact ⟨fun h => ⟨⟨h.1, h.2.1, (ih.1 h.2.2).1⟩, (ih.1 h.2.2).2⟩, fun h => ⟨h.1.1, h.1.2.1, ih.2 ⟨h.1.2.2, h.2⟩⟩⟩
/-- A number, from a place on; d bytes may come; i have come, n is their sum. -/
def rdv (t : ByteArray) : Nat → Nat → Nat → Nat → Option (Nat × Nat)
 | 0, _, _, _ => none
 | d + 1, p, i, n =>
  if p < t.size then
   if 127 < btn t p then rdv t d (p + 1) (i + 1) (n + btn t p % 128 * 128 ^ i)
   else if (0 < i ∧ btn t p = 0) ∨ 1000000000 < n + btn t p % 128 * 128 ^ i then none else some (n + btn t p % 128 * 128 ^ i, p + 1)
  else none
theorem varL_small {u : Nat} (h : ¬ u > 127) : varL u = [(u : Int)] := by rw [varL, if_neg h]
theorem varL_big {u : Nat} (h : u > 127) : varL u = ((u % 128 + 128 : Nat) : Int) :: varL (u / 128) := by rw [varL, if_pos h]
theorem rdv_sound {t : ByteArray} : ∀ {d p i n v q : Nat}, rdv t d p i n = some (v, q) → ∃ u, v = n + u * 128 ^ i ∧ v ≤ 1000000000 ∧ (0 < i → 0 < u) ∧ Bytes t p (varL u) ∧ q = p + (varL u).length
 | 0, p, i, n, v, q, h => by cases h
 | d + 1, p, i, n, v, q, h => by
  rw [rdv] at h
  split at h
  ·rename_i hp
   split at h
   ·rename_i hc
    obtain ⟨u, e1, e2, e3, e4, e5⟩ := rdv_sound h
    have hu := e3 (by omega)
    have hb := btn_lt t p
    refine ⟨btn t p % 128 + 128 * u, ?_, e2, fun _ => by omega, ?_, ?_⟩
    ·rw [e1, Nat.pow_succ, Nat.add_mul, Nat.add_assoc, Nat.mul_comm (128 ^ i) 128, Nat.mul_comm 128 u, Nat.mul_assoc]
    ·rw [varL_big (by omega)]
     exact ⟨hp, by omega, by rw [show (btn t p % 128 + 128 * u) / 128 = u by omega]; exact e4⟩
    ·rw [varL_big (by omega), List.length_cons, show (btn t p % 128 + 128 * u) / 128 = u by omega, e5]
     omega
   ·rename_i hc
    split at h
    ·cases h
    ·rename_i hn
     injection h with h
     injection h with h1 h2
     subst h1 h2
     have hm : btn t p % 128 = btn t p := by omega
     rw [hm] at hn ⊢
     refine ⟨btn t p, rfl, by omega, fun hi => by omega, ?_, ?_⟩
     ·rw [varL_small (by omega)]
      exact ⟨hp, rfl, hp⟩
     ·rw [varL_small (by omega)]
      rfl
  ·cases h
theorem rdv_full {t : ByteArray} : ∀ {d u p i n : Nat}, Bytes t p (varL u) → (varL u).length ≤ d → (0 < i → 0 < u) → n + u * 128 ^ i ≤ 1000000000 → rdv t d p i n = some (n + u * 128 ^ i, p + (varL u).length)
 | 0, u, p, i, n, hb, hl, hi, hn => by
  exfalso
  by_cases h : u > 127
  ·rw [varL_big h] at hl
   simp at hl
  ·rw [varL_small h] at hl
   simp at hl
 | d + 1, u, p, i, n, hb, hl, hi, hn => by
  rw [rdv]
  by_cases h : u > 127
  ·rw [varL_big h] at hb hl ⊢
   obtain ⟨hp, hc, hb'⟩ := hb
   have hc' : btn t p = u % 128 + 128 := by omega
   have hsum : n + u % 128 * 128 ^ i + u / 128 * 128 ^ (i + 1) = n + u * 128 ^ i := by
    rw [Nat.pow_succ, Nat.add_assoc, ← Nat.mul_comm 128, ← Nat.mul_assoc, ← Nat.add_mul]
    congr 2
    omega
   rw [if_pos hp, if_pos (by omega), hc', show (u % 128 + 128) % 128 = u % 128 by omega, rdv_full hb' (by rw [List.length_cons] at hl; omega) (fun _ => by omega) (by rw [hsum]; exact hn), hsum, List.length_cons]
   congr 2
   omega
  ·rw [varL_small h] at hb hl ⊢
   obtain ⟨hp, hc, hb'⟩ := hb
   have hc' : btn t p = u := by omega
   rw [if_pos hp, if_neg (by omega), hc', show u % 128 = u by omega, if_neg (by rintro (⟨h1, h2⟩ | h1); have := hi h1; omega; omega)]
   rfl
def rdVar (t : ByteArray) (p : Nat) : Option (Nat × Nat) := rdv t 5 p 0 0
theorem varL_len1 : ∀ (d n : Nat), n < 128 ^ (d + 1) → (varL n).length ≤ d + 1
 | 0, n, h => by
  rw [varL_small (by simp at h; omega)]
  simp
 | d + 1, n, h => by
  by_cases hn : n > 127
  ·have := varL_len1 d (n / 128) (by rw [Nat.pow_succ] at h; omega)
   rw [varL_big hn, List.length_cons]
   omega
  ·rw [varL_small hn]
   simp
theorem varL_five {n : Nat} (h : n ≤ 1000000000) : (varL n).length ≤ 5 := varL_len1 4 n (by omega)
theorem rdVar_iff {t : ByteArray} {p n q : Nat} : rdVar t p = some (n, q) ↔ n ≤ 1000000000 ∧ Bytes t p (varL n) ∧ q = p + (varL n).length := by
 constructor
 ·intro h
  obtain ⟨u, e1, e2, _, e4, e5⟩ := rdv_sound h
  rw [Nat.pow_zero, Nat.mul_one, Nat.zero_add] at e1
  subst e1
  exact ⟨e2, e4, e5⟩
 ·rintro ⟨h1, h2, rfl⟩
  have := rdv_full (d := 5) (i := 0) (n := 0) h2 (varL_five h1) (fun h => absurd h (by omega)) (by omega)
  rw [Nat.pow_zero, Nat.mul_one, Nat.zero_add] at this
  exact this
/-! ### what a text's bytes are -/
def byl (t : ByteArray) : List Int := t.toList.map fun b => (b.toNat : Int)
theorem size_toList (t : ByteArray) : t.toList.length = t.size := by
 rw [ByteArray.toList_eq]
 rfl
theorem byl_len (t : ByteArray) : (byl t).length = t.size := by unfold byl; rw [List.length_map, size_toList]
theorem chrs_byl (t : ByteArray) : chrs (byl t) = t := by
 apply ByteArray.ext
 unfold chrs byl
 rw [ByteArray.toList_eq, List.map_map]
 have : ((fun z : Int => UInt8.ofNat z.toNat) ∘ fun b : UInt8 => (b.toNat : Int)) = id := by
  funext b
  simp
 rw [this]
 simp
theorem bytes_at {t : ByteArray} : ∀ {l : List Int} {p : Nat}, Bytes t p l ↔ (p ≤ t.size ∧ ∀ j, j < l.length → l[j]? = (byl t)[p + j]?)
 | [], p => ⟨fun h => ⟨h, fun j hj => absurd hj (by simp)⟩, fun h => h.1⟩
 | c :: l, p => by
  have ih := bytes_at (t := t) (l := l) (p := p + 1)
  have hb : ∀ q, q < t.size → (byl t)[q]? = some (btn t q : Int) := fun q hq => by
   have hq' : q < t.toList.length := by rw [size_toList]; exact hq
   unfold byl btn
   rw [List.getElem?_map, List.getD_eq_getElem?_getD, List.getElem?_eq_getElem hq']
   rfl
  constructor
  ·rintro ⟨h1, h2, h3⟩
   refine ⟨by omega, fun j hj => ?_⟩
   cases j with
   | zero => rw [Nat.add_zero, hb p h1, h2]; rfl
   | succ j =>
    have := (ih.1 h3).2 j (by simpa using hj)
    rw [show p + (j + 1) = p + 1 + j by omega, ← this]
    rfl
  ·rintro ⟨h1, h2⟩
   have h0 := h2 0 (by simp)
   rw [Nat.add_zero] at h0
   have hp : p < t.size := by
    rcases Nat.lt_or_ge p t.size with h | h
    ·exact h
    ·have hn : (byl t)[p]? = none := List.getElem?_eq_none (by rw [byl_len]; exact h)
     rw [hn] at h0
     cases h0
   rw [hb p hp] at h0
   injection h0 with h0
   refine ⟨hp, h0, ih.2 ⟨by omega, fun j hj => ?_⟩⟩
   have := h2 (j + 1) (by simpa using hj)
   rw [show p + 1 + j = p + (j + 1) by omega, ← this]
   rfl
theorem bytes_all {t : ByteArray} {l : List Int} : Bytes t 0 l ∧ l.length = t.size ↔ l = byl t := by
 constructor
 ·rintro ⟨h, hl⟩
  refine List.ext_getElem? fun j => ?_
  rcases Nat.lt_or_ge j l.length with hj | hj
  ·have := (bytes_at.1 h).2 j hj
   rw [Nat.zero_add] at this
   exact this
  ·rw [List.getElem?_eq_none hj, List.getElem?_eq_none (by rw [byl_len]; omega)]
 ·rintro rfl
  exact ⟨bytes_at.2 ⟨by omega, fun j _ => by rw [Nat.zero_add]⟩, byl_len t⟩
end Go.Proofs.Ythncjcfnpfajaaa.Pure
/- The bytes of set-ups. No condition. -/
namespace Go.Proofs.Ythncjcfnpfajaaa.Pure
open Go Go.Proofs.YthncjcfnpfajaaaA Go.Proofs.YthncjcfnpfajaaaU Go.Proofs.Ythncjcfnpfajaaa.QA
set_option linter.unusedVariables false
set_option linter.unusedSimpArgs false
theorem numsL_app : ∀ A B, numsL (A ++ B) = numsL A ++ numsL B
 | [], B => rfl
 | n :: A, B => by rw [List.cons_append, numsL, numsL, numsL_app A B, List.append_assoc]
def Nums (L : List Nat) : Prop := ∀ n, n ∈ L → n ≤ 1000000000
theorem nums_app {A C : List Nat} (h1 : Nums A) (h2 : Nums C) : Nums (A ++ C) := fun n hn => (List.mem_append.1 hn).elim (h1 n) (h2 n)
theorem nums_1 {n : Nat} (h : n ≤ 1000000000) : Nums [n] := fun m hm => by rw [List.mem_singleton.1 hm]; exact h
theorem numsL_len : ∀ {L : List Nat}, Nums L → (numsL L).length ≤ 6 * L.length
 | [], _ => Nat.le_refl 0
 | n :: L, h => by
  have h1 := numsL_len (L := L) (fun m hm => h m (List.mem_cons_of_mem _ hm))
  have h2 := varL_len 5 n (by have := h n (List.mem_cons_self ..); omega)
  rw [numsL, List.length_append, List.length_cons]
  omega
/-- The text of numbers. -/
def numT (L : List Nat) : ByteArray := chrs (numsL L)
theorem numT_app (A C : List Nat) : numT A ++ numT C = numT (A ++ C) := by
 unfold numT
 rw [numsL_app, chrs_app]
theorem numT_size {L : List Nat} (h : Nums L) : (numT L).size ≤ 6 * L.length := by
 unfold numT
 rw [chrs_size]
 exact numsL_len h
theorem numT_1 (n : Nat) : chrs (varL n) = numT [n] := by
 unfold numT
 rw [numsL, numsL, List.append_nil]
theorem varN_s {k : Nat} {n : Nat} (hk : 1048576 < k) (h : n ≤ 1000000000) : spec_l01Var.f k (n : Int) = some (numT [n]) := by rw [var_s hk h, numT_1]
theorem num_i {k : Nat} {L : List Nat} (hk : 1048576 < k) (hl : L.length ≤ 1000) (h : Nums L) : impl_numbers.f k (L.map fun n : Nat => (n : Int)) = some (numT L) := numbers_i hk hl h
def two (x : Int × Int) : List Nat := [x.1.toNat, x.2.toNat]
def five (x : Port5) : List Nat := [x.1.toNat, x.2.1.toNat, x.2.2.1.toNat, x.2.2.2.1.toNat, x.2.2.2.2.toNat]
def three (x : Int × Int × Int) : List Nat := [x.1.toNat, x.2.1.toNat, x.2.2.toNat]
def flatL {α : Type} (f : α → List Nat) : List α → List Nat
 | [] => []
 | x :: L => f x ++ flatL f L
theorem flatL_app {α : Type} (f : α → List Nat) : ∀ L M, flatL f (L ++ M) = flatL f L ++ flatL f M
 | [], M => rfl
 | x :: L, M => by rw [List.cons_append, flatL, flatL, flatL_app f L M, List.append_assoc]
theorem flatL_next {α : Type} {f : α → List Nat} {L : List α} {j : Nat} {x : α} (h : L[j]? = some x) : flatL f (L.take (j + 1)) = flatL f (L.take j) ++ f x := by
 rw [List.take_add_one, h, flatL_app]
 show _ ++ (f x ++ []) = _
 rw [List.append_nil]
def codesT : List ByteArray → ByteArray
 | [] => ⟨#[]⟩
 | c :: L => (numT [c.size] ++ c) ++ codesT L
theorem codesT_app : ∀ L M, codesT (L ++ M) = codesT L ++ codesT M
 | [], M => by rw [List.nil_append]; exact ByteArray.empty_append.symm
 | c :: L, M => by rw [List.cons_append, codesT, codesT, codesT_app L M]; exact (ByteArray.append_assoc ..).symm
theorem codesT_next {L : List ByteArray} {j : Nat} {c : ByteArray} (h : L[j]? = some c) : codesT (L.take (j + 1)) = codesT (L.take j) ++ (numT [c.size] ++ c) := by
 rw [List.take_add_one, h, codesT_app]
 show _ ++ ((numT [c.size] ++ c) ++ (⟨#[]⟩ : ByteArray)) = _
 rw [show ((⟨#[]⟩ : ByteArray)) = ByteArray.empty from rfl, ByteArray.append_empty]
def numsOf (s : Setup) : List Nat := [s.1.length] ++ flatL two s.1 ++ [s.2.1.length] ++ flatL two s.2.1 ++ [s.2.2.1.length] ++ flatL five s.2.2.1 ++ [s.2.2.2.1.length] ++ flatL three s.2.2.2.1
def setupT (s : Setup) : ByteArray := numT (numsOf s) ++ codesT s.2.2.2.2
noncomputable def setupTextM (s : Setup) : ByteArray × Bool := if faultM s = 0 then (setupT s, true) else (⟨#[]⟩, false)
structure Right (s : Setup) : Prop where
 rg : RegionsOk s.1
 pl : PlanOk s.2.1
 po : PortsOk s.2.2.1
 ru : RulesOk s.2.2.2.1
 co : CodesOk s.2.2.2.2 (s.1.length : Int)
 pa : PartsOk s
theorem right_of {s : Setup} (h : faultM s = 0) : Right s := by
 unfold faultM at h
 split at h
 ·exact absurd h (by omega)
 split at h
 ·exact absurd h (by omega)
 split at h
 ·exact absurd h (by omega)
 split at h
 ·exact absurd h (by omega)
 split at h
 ·exact absurd h (by omega)
 split at h
 ·exact absurd h (by omega)
 rename_i a b c d e f
 exact ⟨B_iff.1 (Classical.not_not.1 a), B_iff.1 (Classical.not_not.1 b), B_iff.1 (Classical.not_not.1 c), B_iff.1 (Classical.not_not.1 d), B_iff.1 (Classical.not_not.1 e), B_iff.1 (Classical.not_not.1 f)⟩
def Nn (L : List Int) : Prop := ∀ x, x ∈ L → 0 ≤ x ∧ x ≤ 1000000000
theorem toNat_map {L : List Int} (h : Nn L) : (L.map Int.toNat).map (fun n : Nat => (n : Int)) = L := by
 rw [List.map_map]
 conv => rhs; rw [← List.map_id L]
 refine List.map_congr_left fun x hx => ?_
 have := h x hx
 show ((x.toNat : Nat) : Int) = x
 omega
theorem reg_nn {L : List (Int × Int)} (h : RegionsOk L) {j : Nat} (hj : j < L.length) : Nn [(el W2 L j).1, (el W2 L j).2] := fun x hx => by
 obtain ⟨a, b, c, d⟩ := (h.1 j hj).1
 simp only [List.mem_cons, List.not_mem_nil, or_false] at hx
 rcases hx with rfl | rfl <;> omega
theorem win_nn {L : List (Int × Int)} (h : PlanOk L) {j : Nat} (hj : j < L.length) : Nn [(el W2 L j).1, (el W2 L j).2] := fun x hx => by
 obtain ⟨a, b⟩ := h.1 j hj
 simp only [List.mem_cons, List.not_mem_nil, or_false] at hx
 rcases hx with rfl | rfl <;> omega
theorem port_nn {L : List Port5} (h : PortsOk L) {j : Nat} (hj : j < L.length) : Nn [(el P5 L j).1, (el P5 L j).2.1, (el P5 L j).2.2.1, (el P5 L j).2.2.2.1, (el P5 L j).2.2.2.2] := fun x hx => by
 obtain ⟨a, b, -, c⟩ := h.1 j hj
 simp only [List.mem_cons, List.not_mem_nil, or_false] at hx
 rcases hx with rfl | rfl | rfl | rfl | rfl
 ·rcases c with c | c <;> (have := c.1; omega)
 ·omega
 ·omega
 ·rcases c with c | c
  ·have := c.2.1; omega
  ·have := c.2.1; omega
 ·rcases c with c | c
  ·have := c.2.2; omega
  ·have := c.2.2; omega
theorem rule_nn {L : List (Int × Int × Int)} (h : RulesOk L) {j : Nat} (hj : j < L.length) : Nn [(el R3 L j).1, (el R3 L j).2.1, (el R3 L j).2.2] := fun x hx => by
 obtain ⟨a, b, c, -⟩ := (h.1 j hj).1
 simp only [List.mem_cons, List.not_mem_nil, or_false] at hx
 rcases hx with rfl | rfl | rfl <;> omega
theorem nums_toNat {L : List Int} (h : Nn L) : Nums (L.map Int.toNat) := fun n hn => by
 obtain ⟨x, hx, rfl⟩ := List.mem_map.1 hn
 have := h x hx
 omega
theorem var_nn {k : Nat} {x : Int} (hk : 1048576 < k) (h : 0 ≤ x ∧ x ≤ 1000000000) : spec_l01Var.f k x = some (numT [x.toNat]) := by
 have e := varN_s (k := k) (n := x.toNat) hk (by omega)
 rw [show ((x.toNat : Nat) : Int) = x by omega] at e
 exact e
theorem nums_nn {k : Nat} {L : List Int} (hk : 1048576 < k) (hl : L.length ≤ 1000) (h : Nn L) : impl_numbers.f k L = some (numT (L.map Int.toNat)) := by
 have e := num_i (k := k) (L := L.map Int.toNat) hk (by rw [List.length_map]; exact hl) (nums_toNat h)
 rw [toNat_map h] at e
 exact e
theorem len1 {k : Nat} {n : Nat} (hk : 1048576 < k) (h : n ≤ 1000) : impl_numbers.f k [(n : Int)] = some (numT [n]) := num_i (L := [n]) hk (by simp) (nums_1 (by omega))
/-! ### the reference -/
theorem st5_s {k : Nat} {R W : List (Int × Int)} {P : List Port5} {U : List (Int × Int × Int)} {C : List ByteArray} {T : ByteArray} {n : Int} (hk : 1048576 < k) (hc : CodesOk C n) (h4 : C.length ≤ 4) (hT : T.size ≤ 10000) : spec_SetupText.l5 k k (T, 0, R, W, P, U, C, ()) = some (T ++ codesT C, true) := by
 refine ok_eq ?_
 refine ok_loop (L := spec_SetupText.l5 k) (I := fun d t => ∃ j : Nat, t = (T ++ codesT (C.take j), (j : Int), R, W, P, U, C, ()) ∧ j + d = C.length ∧ (codesT (C.take j)).size ≤ 130 * j) ?_ k C.length _ (by omega) ⟨0, by rw [List.take_zero, codesT, show (⟨#[]⟩ : ByteArray) = ByteArray.empty from rfl, ByteArray.append_empty]; rfl, by omega, by rw [List.take_zero, codesT]; exact Nat.zero_le _⟩
 rintro d m t ⟨j, rfl, hd, hz⟩ ih
 rw [spec_SetupText.l5]
 refine ok_if (fun hlt => ?_) (fun hge => ok_some ?_)
 ·have hj : j < C.length := by omega
  have hx := el_lt (t := .str) hj
  have hr := hc.1 j hj
  have nx := codesT_next hx
  obtain ⟨c, hce⟩ : ∃ c : ByteArray, el .str C j = c := ⟨_, rfl⟩
  rw [hce] at hr nx
  have h120 := hr.2
  have c0 : (0 : Int) ≤ (j : Int) := by omega
  have h5 : w64 ((j : Int) + 1) = ((j + 1 : Nat) : Int) := w64_id (by omega) (by omega)
  have z := numT_size (nums_1 (n := c.size) (by omega))
  rw [List.length_cons, List.length_nil] at z
  have hz' : (codesT (C.take (j + 1))).size ≤ 130 * (j + 1) := by
   rw [nx, ByteArray.size_append, ByteArray.size_append]
   omega
  simp only [c0, hlt, h5, ↓reduceIte, Int.toNat_natCast, hce, varN_s hk (show c.size ≤ 1000000000 by omega), Option.bind_some, ByteArray.size_append]
  rw [if_pos (by omega), if_pos (by omega)]
  refine ih (d - 1) _ (by omega) ⟨j + 1, ?_, by omega, hz'⟩
  rw [nx]
  simp only [ByteArray.append_assoc]
 ·rw [List.take_of_length_le (by omega)]
theorem st4_s {k : Nat} {R W : List (Int × Int)} {P : List Port5} {U : List (Int × Int × Int)} {C : List ByteArray} {A : List Nat} {n : Int} (hk : 1048576 < k) (ru : RulesOk U) (hc : CodesOk C n) (h4 : C.length ≤ 4) (hA : Nums A) (hl : A.length ≤ 200 - 25) : spec_SetupText.l4 k k (numT A, 0, R, W, P, U, C, ()) = some (numT (A ++ flatL three U) ++ codesT C, true) := by
 refine ok_eq ?_
 have hmx := ru.2
 refine ok_loop (L := spec_SetupText.l4 k) (I := fun d t => ∃ j : Nat, t = (numT (A ++ flatL three (U.take j)), (j : Int), R, W, P, U, C, ()) ∧ j + d = U.length ∧ Nums (A ++ flatL three (U.take j)) ∧ (A ++ flatL three (U.take j)).length ≤ A.length + 3 * j) ?_ k U.length _ (by omega) ⟨0, by rw [List.take_zero, flatL, List.append_nil]; rfl, by omega, by rw [List.take_zero, flatL, List.append_nil]; exact hA, by rw [List.take_zero, flatL, List.append_nil]; omega⟩
 rintro d m t ⟨j, rfl, hd, hN, hL⟩ ih
 rw [spec_SetupText.l4]
 refine ok_if (fun hlt => ?_) (fun hge => ?_)
 ·have hj : j < U.length := by omega
  have hx := el_lt (t := R3) hj
  have hnn := rule_nn ru hj
  obtain ⟨a, b, c, hxe⟩ : ∃ a b c : Int, el R3 U j = (a, b, c) := ⟨_, _, _, rfl⟩
  rw [hxe] at hx hnn
  have ha := hnn a (by simp)
  have hb := hnn b (by simp)
  have hc := hnn c (by simp)
  have c0 : (0 : Int) ≤ (j : Int) := by omega
  have h5 : w64 ((j : Int) + 1) = ((j + 1 : Nat) : Int) := w64_id (by omega) (by omega)
  have nx := flatL_next (f := three) hx
  have hN' : Nums (A ++ flatL three (U.take (j + 1))) := by
   rw [nx, ← List.append_assoc]
   exact nums_app hN (nums_toNat hnn)
  have hL' : (A ++ flatL three (U.take (j + 1))).length ≤ A.length + 3 * (j + 1) := by
   rw [nx, ← List.append_assoc, List.length_append]
   show _ + 3 ≤ _
   omega
  have n0 := nums_1 (n := a.toNat) (by omega)
  have n1 := nums_1 (n := b.toNat) (by omega)
  have n2 := nums_1 (n := c.toNat) (by omega)
  have z0 := numT_size hN
  have z1 := numT_size (nums_app hN n0)
  have z2 := numT_size (nums_app (nums_app hN n0) n1)
  have y0 := numT_size n0
  have y1 := numT_size n1
  have y2 := numT_size n2
  generalize hQ : A ++ flatL three (U.take j) = Q at *
  simp only [List.length_append, List.length_cons, List.length_nil] at z1 z2 y0 y1 y2
  simp only [c0, hlt, h5, ↓reduceIte, Int.toNat_natCast, show el (.pair (.int .i64) (.pair (.int .i64) (.int .i64))) U j = (a, b, c) from hxe, var_nn hk ha, var_nn hk hb, var_nn hk hc, Option.bind_some, numT_app]
  rw [if_pos (by omega), if_pos (by omega), if_pos (by omega)]
  refine ih (d - 1) _ (by omega) ⟨j + 1, ?_, by omega, hN', hL'⟩
  rw [nx, ← List.append_assoc, hQ]
  simp only [three, List.map_cons, List.map_nil, List.append_assoc, List.cons_append, List.nil_append]
 ·have hje : j = U.length := by omega
  subst hje
  rw [List.take_length] at hN hL ⊢
  have z := numT_size hN
  rw [st5_s hk hc h4 (by simp only [List.length_append] at hL z; omega)]
  exact ok_some rfl
theorem st3_s {k : Nat} {R W : List (Int × Int)} {P : List Port5} {U : List (Int × Int × Int)} {C : List ByteArray} {A : List Nat} {n : Int} (hk : 1048576 < k) (po : PortsOk P) (ru : RulesOk U) (hc : CodesOk C n) (h4 : C.length ≤ 4) (hA : Nums A) (hl : A.length ≤ 200 - 56) : spec_SetupText.l3 k k (numT A, 0, R, W, P, U, C, ()) = some (numT (A ++ flatL five P ++ [U.length] ++ flatL three U) ++ codesT C, true) := by
 refine ok_eq ?_
 have hmx := po.2
 refine ok_loop (L := spec_SetupText.l3 k) (I := fun d t => ∃ j : Nat, t = (numT (A ++ flatL five (P.take j)), (j : Int), R, W, P, U, C, ()) ∧ j + d = P.length ∧ Nums (A ++ flatL five (P.take j)) ∧ (A ++ flatL five (P.take j)).length ≤ A.length + 5 * j) ?_ k P.length _ (by omega) ⟨0, by rw [List.take_zero, flatL, List.append_nil]; rfl, by omega, by rw [List.take_zero, flatL, List.append_nil]; exact hA, by rw [List.take_zero, flatL, List.append_nil]; omega⟩
 rintro d m t ⟨j, rfl, hd, hN, hL⟩ ih
 rw [spec_SetupText.l3]
 refine ok_if (fun hlt => ?_) (fun hge => ?_)
 ·have hj : j < P.length := by omega
  have hx := el_lt (t := P5) hj
  have hnn := port_nn po hj
  obtain ⟨a, b, c, e, f, hxe⟩ : ∃ a b c e f : Int, el P5 P j = (a, b, c, e, f) := ⟨_, _, _, _, _, rfl⟩
  rw [hxe] at hx hnn
  have ha := hnn a (by simp)
  have hb := hnn b (by simp)
  have hc := hnn c (by simp)
  have he := hnn e (by simp)
  have hf := hnn f (by simp)
  have c0 : (0 : Int) ≤ (j : Int) := by omega
  have h5 : w64 ((j : Int) + 1) = ((j + 1 : Nat) : Int) := w64_id (by omega) (by omega)
  have nx := flatL_next (f := five) hx
  have hN' : Nums (A ++ flatL five (P.take (j + 1))) := by
   rw [nx, ← List.append_assoc]
   exact nums_app hN (nums_toNat hnn)
  have hL' : (A ++ flatL five (P.take (j + 1))).length ≤ A.length + 5 * (j + 1) := by
   rw [nx, ← List.append_assoc, List.length_append]
   show _ + 5 ≤ _
   omega
  have n0 := nums_1 (n := a.toNat) (by omega)
  have n1 := nums_1 (n := b.toNat) (by omega)
  have n2 := nums_1 (n := c.toNat) (by omega)
  have n3 := nums_1 (n := e.toNat) (by omega)
  have n4 := nums_1 (n := f.toNat) (by omega)
  have z0 := numT_size hN
  have z1 := numT_size (nums_app hN n0)
  have z2 := numT_size (nums_app (nums_app hN n0) n1)
  have z3 := numT_size (nums_app (nums_app (nums_app hN n0) n1) n2)
  have z4 := numT_size (nums_app (nums_app (nums_app (nums_app hN n0) n1) n2) n3)
  have y0 := numT_size n0
  have y1 := numT_size n1
  have y2 := numT_size n2
  have y3 := numT_size n3
  have y4 := numT_size n4
  generalize hQ : A ++ flatL five (P.take j) = Q at *
  simp only [List.length_append, List.length_cons, List.length_nil] at z1 z2 z3 z4 y0 y1 y2 y3 y4
  simp only [c0, hlt, h5, ↓reduceIte, Int.toNat_natCast, show el (.pair (.int .i64) (.pair (.int .i64) (.pair (.int .i64) (.pair (.int .i64) (.int .i64))))) P j = (a, b, c, e, f) from hxe, var_nn hk ha, var_nn hk hb, var_nn hk hc, var_nn hk he, var_nn hk hf, Option.bind_some, numT_app]
  rw [if_pos (by omega), if_pos (by omega), if_pos (by omega), if_pos (by omega), if_pos (by omega)]
  refine ih (d - 1) _ (by omega) ⟨j + 1, ?_, by omega, hN', hL'⟩
  rw [nx, ← List.append_assoc, hQ]
  simp only [five, List.map_cons, List.map_nil, List.append_assoc, List.cons_append, List.nil_append]
 ·have hje : j = P.length := by omega
  subst hje
  rw [List.take_length] at hN hL ⊢
  have zn := numT_size (nums_1 (n := U.length) (by have := ru.2; omega))
  rw [List.length_cons, List.length_nil] at zn
  have z := numT_size hN
  rw [varN_s hk (show U.length ≤ 1000000000 by have := ru.2; omega)]
  refine ok_let (ok_grd (by omega) ?_)
  rw [numT_app, st4_s (A := A ++ flatL five P ++ [U.length]) hk ru hc h4 (nums_app hN (nums_1 (by have := ru.2; omega))) (by simp only [List.length_append, List.length_cons, List.length_nil] at hL ⊢; omega)]
  exact ok_some (by simp only [List.append_assoc])
theorem st2_s {k : Nat} {R W : List (Int × Int)} {P : List Port5} {U : List (Int × Int × Int)} {C : List ByteArray} {A : List Nat} {n : Int} (hk : 1048576 < k) (pl : PlanOk W) (po : PortsOk P) (ru : RulesOk U) (hc : CodesOk C n) (h4 : C.length ≤ 4) (hA : Nums A) (hl : A.length ≤ 200 - 81) : spec_SetupText.l2 k k (numT A, 0, R, W, P, U, C, ()) = some (numT (A ++ flatL two W ++ [P.length] ++ flatL five P ++ [U.length] ++ flatL three U) ++ codesT C, true) := by
 refine ok_eq ?_
 have hmx := pl.2.2
 refine ok_loop (L := spec_SetupText.l2 k) (I := fun d t => ∃ j : Nat, t = (numT (A ++ flatL two (W.take j)), (j : Int), R, W, P, U, C, ()) ∧ j + d = W.length ∧ Nums (A ++ flatL two (W.take j)) ∧ (A ++ flatL two (W.take j)).length ≤ A.length + 2 * j) ?_ k W.length _ (by omega) ⟨0, by rw [List.take_zero, flatL, List.append_nil]; rfl, by omega, by rw [List.take_zero, flatL, List.append_nil]; exact hA, by rw [List.take_zero, flatL, List.append_nil]; omega⟩
 rintro d m t ⟨j, rfl, hd, hN, hL⟩ ih
 rw [spec_SetupText.l2]
 refine ok_if (fun hlt => ?_) (fun hge => ?_)
 ·have hj : j < W.length := by omega
  have hx := el_lt (t := W2) hj
  have hnn := win_nn pl hj
  obtain ⟨a, b, hxe⟩ : ∃ a b : Int, el W2 W j = (a, b) := ⟨_, _, rfl⟩
  rw [hxe] at hx hnn
  have ha := hnn a (by simp)
  have hb := hnn b (by simp)
  have c0 : (0 : Int) ≤ (j : Int) := by omega
  have h5 : w64 ((j : Int) + 1) = ((j + 1 : Nat) : Int) := w64_id (by omega) (by omega)
  have nx := flatL_next (f := two) hx
  have hN' : Nums (A ++ flatL two (W.take (j + 1))) := by
   rw [nx, ← List.append_assoc]
   exact nums_app hN (nums_toNat hnn)
  have hL' : (A ++ flatL two (W.take (j + 1))).length ≤ A.length + 2 * (j + 1) := by
   rw [nx, ← List.append_assoc, List.length_append]
   show _ + 2 ≤ _
   omega
  have n0 := nums_1 (n := a.toNat) (by omega)
  have n1 := nums_1 (n := b.toNat) (by omega)
  have z0 := numT_size hN
  have z1 := numT_size (nums_app hN n0)
  have y0 := numT_size n0
  have y1 := numT_size n1
  generalize hQ : A ++ flatL two (W.take j) = Q at *
  simp only [List.length_append, List.length_cons, List.length_nil] at z1 y0 y1
  simp only [c0, hlt, h5, ↓reduceIte, Int.toNat_natCast, show el (.pair (.int .i64) (.int .i64)) W j = (a, b) from hxe, var_nn hk ha, var_nn hk hb, Option.bind_some, numT_app]
  rw [if_pos (by omega), if_pos (by omega)]
  refine ih (d - 1) _ (by omega) ⟨j + 1, ?_, by omega, hN', hL'⟩
  rw [nx, ← List.append_assoc, hQ]
  simp only [two, List.map_cons, List.map_nil, List.append_assoc, List.cons_append, List.nil_append]
 ·have hje : j = W.length := by omega
  subst hje
  rw [List.take_length] at hN hL ⊢
  have zn := numT_size (nums_1 (n := P.length) (by have := po.2; omega))
  rw [List.length_cons, List.length_nil] at zn
  have z := numT_size hN
  rw [varN_s hk (show P.length ≤ 1000000000 by have := po.2; omega)]
  refine ok_let (ok_grd (by omega) ?_)
  rw [numT_app, st3_s (A := A ++ flatL two W ++ [P.length]) hk po ru hc h4 (nums_app hN (nums_1 (by have := po.2; omega))) (by simp only [List.length_append, List.length_cons, List.length_nil] at hL ⊢; omega)]
  exact ok_some (by simp only [List.append_assoc])
theorem st1_s {k : Nat} {R W : List (Int × Int)} {P : List Port5} {U : List (Int × Int × Int)} {C : List ByteArray} {A : List Nat} {n : Int} (hk : 1048576 < k) (rg : RegionsOk R) (pl : PlanOk W) (po : PortsOk P) (ru : RulesOk U) (hc : CodesOk C n) (h4 : C.length ≤ 4) (hA : Nums A) (hl : A.length ≤ 200 - 90) : spec_SetupText.l1 k k (numT A, 0, R, W, P, U, C, ()) = some (numT (A ++ flatL two R ++ [W.length] ++ flatL two W ++ [P.length] ++ flatL five P ++ [U.length] ++ flatL three U) ++ codesT C, true) := by
 refine ok_eq ?_
 have hmx := rg.2.2
 refine ok_loop (L := spec_SetupText.l1 k) (I := fun d t => ∃ j : Nat, t = (numT (A ++ flatL two (R.take j)), (j : Int), R, W, P, U, C, ()) ∧ j + d = R.length ∧ Nums (A ++ flatL two (R.take j)) ∧ (A ++ flatL two (R.take j)).length ≤ A.length + 2 * j) ?_ k R.length _ (by omega) ⟨0, by rw [List.take_zero, flatL, List.append_nil]; rfl, by omega, by rw [List.take_zero, flatL, List.append_nil]; exact hA, by rw [List.take_zero, flatL, List.append_nil]; omega⟩
 rintro d m t ⟨j, rfl, hd, hN, hL⟩ ih
 rw [spec_SetupText.l1]
 refine ok_if (fun hlt => ?_) (fun hge => ?_)
 ·have hj : j < R.length := by omega
  have hx := el_lt (t := W2) hj
  have hnn := reg_nn rg hj
  obtain ⟨a, b, hxe⟩ : ∃ a b : Int, el W2 R j = (a, b) := ⟨_, _, rfl⟩
  rw [hxe] at hx hnn
  have ha := hnn a (by simp)
  have hb := hnn b (by simp)
  have c0 : (0 : Int) ≤ (j : Int) := by omega
  have h5 : w64 ((j : Int) + 1) = ((j + 1 : Nat) : Int) := w64_id (by omega) (by omega)
  have nx := flatL_next (f := two) hx
  have hN' : Nums (A ++ flatL two (R.take (j + 1))) := by
   rw [nx, ← List.append_assoc]
   exact nums_app hN (nums_toNat hnn)
  have hL' : (A ++ flatL two (R.take (j + 1))).length ≤ A.length + 2 * (j + 1) := by
   rw [nx, ← List.append_assoc, List.length_append]
   show _ + 2 ≤ _
   omega
  have n0 := nums_1 (n := a.toNat) (by omega)
  have n1 := nums_1 (n := b.toNat) (by omega)
  have z0 := numT_size hN
  have z1 := numT_size (nums_app hN n0)
  have y0 := numT_size n0
  have y1 := numT_size n1
  generalize hQ : A ++ flatL two (R.take j) = Q at *
  simp only [List.length_append, List.length_cons, List.length_nil] at z1 y0 y1
  simp only [c0, hlt, h5, ↓reduceIte, Int.toNat_natCast, show el (.pair (.int .i64) (.int .i64)) R j = (a, b) from hxe, var_nn hk ha, var_nn hk hb, Option.bind_some, numT_app]
  rw [if_pos (by omega), if_pos (by omega)]
  refine ih (d - 1) _ (by omega) ⟨j + 1, ?_, by omega, hN', hL'⟩
  rw [nx, ← List.append_assoc, hQ]
  simp only [two, List.map_cons, List.map_nil, List.append_assoc, List.cons_append, List.nil_append]
 ·have hje : j = R.length := by omega
  subst hje
  rw [List.take_length] at hN hL ⊢
  have zn := numT_size (nums_1 (n := W.length) (by have := pl.2.2; omega))
  rw [List.length_cons, List.length_nil] at zn
  have z := numT_size hN
  rw [varN_s hk (show W.length ≤ 1000000000 by have := pl.2.2; omega)]
  refine ok_let (ok_grd (by omega) ?_)
  rw [numT_app, st2_s (A := A ++ flatL two R ++ [W.length]) hk pl po ru hc h4 (nums_app hN (nums_1 (by have := pl.2.2; omega))) (by simp only [List.length_append, List.length_cons, List.length_nil] at hL ⊢; omega)]
  exact ok_some (by simp only [List.append_assoc])
theorem text_s {k : Nat} {s : Setup} (hs : Small s) (hk : 1048576 < k) : spec_SetupText.f k s = some (setupTextM s) := by
 refine ok_eq ?_
 unfold spec_SetupText.f setupTextM
 rw [fault_s hs hk]
 refine ok_let (ok_if (fun h => ok_some (by rw [if_neg h])) (fun h => ?_))
 have h0 := Classical.not_not.1 h
 obtain ⟨rg, pl, po, ru, co, pa⟩ := right_of h0
 rw [if_pos h0]
 obtain ⟨R, W, P, U, C⟩ := s
 unfold setupT numsOf
 simp only at rg pl po ru co pa ⊢
 have c4 : C.length ≤ 4 := by
  have h1 := co.2
  have h2 := rg.2.2
  omega
 rw [varN_s hk (show R.length ≤ 1000000000 by have := rg.2.2; omega)]
 refine ok_let ?_
 rw [st1_s (A := [R.length]) hk rg pl po ru co c4 (nums_1 (by have := rg.2.2; omega)) (by simp)]
 exact ok_some rfl
/-! ### the program -/
theorem short_i {k : Nat} {c : ByteArray} (hk : 1048576 < k) (h : c.size ≤ 120) : impl_ShortText.f k c = some (numT [c.size] ++ c, true) := by
 have z := numT_size (nums_1 (n := c.size) (by omega))
 rw [List.length_cons, List.length_nil] at z
 unfold impl_ShortText.f
 rw [if_neg (by omega), var_i hk (by omega), numT_1]
 simp only [Option.bind_some]
 rw [if_pos (by omega)]
theorem st5_i {k : Nat} {C : List ByteArray} {T : ByteArray} {n : Int} (hk : 1048576 < k) (hc : CodesOk C n) (h4 : C.length ≤ 4) (hT : T.size ≤ 10000) : impl_SetupText.l5 k k (T, (C.length : Int), 0, C, ()) = some (T ++ codesT C, true) := by
 refine ok_eq ?_
 refine ok_loop (L := impl_SetupText.l5 k) (I := fun d t => ∃ j : Nat, t = (T ++ codesT (C.take j), (C.length : Int), (j : Int), C, ()) ∧ j + d = C.length ∧ (codesT (C.take j)).size ≤ 130 * j) ?_ k C.length _ (by omega) ⟨0, by rw [List.take_zero, codesT, show (⟨#[]⟩ : ByteArray) = ByteArray.empty from rfl, ByteArray.append_empty]; rfl, by omega, by rw [List.take_zero, codesT]; exact Nat.zero_le _⟩
 rintro d m t ⟨j, rfl, hd, hz⟩ ih
 rw [impl_SetupText.l5]
 refine ok_if (fun hlt => ?_) (fun hge => ok_some ?_)
 ·have hj : j < C.length := by omega
  have hx := el_lt (t := .str) hj
  have hr := hc.1 j hj
  have nx := codesT_next hx
  obtain ⟨c, hce⟩ : ∃ c : ByteArray, el .str C j = c := ⟨_, rfl⟩
  rw [hce] at hr nx
  have h120 := hr.2
  have c0 : (0 : Int) ≤ (j : Int) := by omega
  have h5 : w64 ((j : Int) + 1) = ((j + 1 : Nat) : Int) := w64_id (by omega) (by omega)
  have z := numT_size (nums_1 (n := c.size) (by omega))
  rw [List.length_cons, List.length_nil] at z
  have hz' : (codesT (C.take (j + 1))).size ≤ 130 * (j + 1) := by
   rw [nx, ByteArray.size_append, ByteArray.size_append]
   omega
  simp only [c0, hlt, h5, ↓reduceIte, Int.toNat_natCast, hce, short_i hk h120, Option.bind_some, ByteArray.size_append]
  rw [if_pos (by omega)]
  refine ih (d - 1) _ (by omega) ⟨j + 1, ?_, by omega, hz'⟩
  rw [nx]
  simp only [ByteArray.append_assoc]
 ·rw [List.take_of_length_le (by omega)]
theorem st4_i {k : Nat} {R W : List (Int × Int)} {P : List Port5} {U : List (Int × Int × Int)} {C : List ByteArray} {A : List Nat} {n : Int} (hk : 1048576 < k) (ru : RulesOk U) (hc : CodesOk C n) (h4 : C.length ≤ 4) (hA : Nums A) (hl : A.length ≤ 200 - 25) : impl_SetupText.l4 k k (numT A, (U.length : Int), 0, R, W, P, U, C, ()) = some (numT (A ++ flatL three U) ++ codesT C, true) := by
 refine ok_eq ?_
 have hmx := ru.2
 refine ok_loop (L := impl_SetupText.l4 k) (I := fun d t => ∃ j : Nat, t = (numT (A ++ flatL three (U.take j)), (U.length : Int), (j : Int), R, W, P, U, C, ()) ∧ j + d = U.length ∧ Nums (A ++ flatL three (U.take j)) ∧ (A ++ flatL three (U.take j)).length ≤ A.length + 3 * j) ?_ k U.length _ (by omega) ⟨0, by rw [List.take_zero, flatL, List.append_nil]; rfl, by omega, by rw [List.take_zero, flatL, List.append_nil]; exact hA, by rw [List.take_zero, flatL, List.append_nil]; omega⟩
 rintro d m t ⟨j, rfl, hd, hN, hL⟩ ih
 rw [impl_SetupText.l4]
 refine ok_if (fun hlt => ?_) (fun hge => ?_)
 ·have hj : j < U.length := by omega
  have hx := el_lt (t := R3) hj
  have hnn := rule_nn ru hj
  obtain ⟨a, b, c, hxe⟩ : ∃ a b c : Int, el R3 U j = (a, b, c) := ⟨_, _, _, rfl⟩
  rw [hxe] at hx hnn
  have ha := hnn a (by simp)
  have hb := hnn b (by simp)
  have hc := hnn c (by simp)
  have c0 : (0 : Int) ≤ (j : Int) := by omega
  have h5 : w64 ((j : Int) + 1) = ((j + 1 : Nat) : Int) := w64_id (by omega) (by omega)
  have nx := flatL_next (f := three) hx
  have hN' : Nums (A ++ flatL three (U.take (j + 1))) := by
   rw [nx, ← List.append_assoc]
   exact nums_app hN (nums_toNat hnn)
  have hL' : (A ++ flatL three (U.take (j + 1))).length ≤ A.length + 3 * (j + 1) := by
   rw [nx, ← List.append_assoc, List.length_append]
   show _ + 3 ≤ _
   omega
  have z0 := numT_size hN
  have zz := numT_size (nums_toNat hnn)
  rw [List.length_map] at zz
  simp only [List.length_cons, List.length_nil] at zz
  generalize hQ : A ++ flatL three (U.take j) = Q at *
  simp only [c0, hlt, h5, ↓reduceIte, Int.toNat_natCast, show el (.pair (.int .i64) (.pair (.int .i64) (.int .i64))) U j = (a, b, c) from hxe, nums_nn hk (show [a, b, c].length ≤ 1000 by simp) hnn, Option.bind_some, numT_app]
  rw [if_pos (by omega)]
  refine ih (d - 1) _ (by omega) ⟨j + 1, ?_, by omega, hN', hL'⟩
  rw [nx, ← List.append_assoc, hQ]
  simp only [three, List.map_cons, List.map_nil, List.append_assoc, List.cons_append, List.nil_append]
 ·have hje : j = U.length := by omega
  subst hje
  rw [List.take_length] at hN hL ⊢
  have z := numT_size hN
  rw [st5_i hk hc h4 (by simp only [List.length_append] at hL z; omega)]
  exact ok_some rfl
theorem st3_i {k : Nat} {R W : List (Int × Int)} {P : List Port5} {U : List (Int × Int × Int)} {C : List ByteArray} {A : List Nat} {n : Int} (hk : 1048576 < k) (po : PortsOk P) (ru : RulesOk U) (hc : CodesOk C n) (h4 : C.length ≤ 4) (hA : Nums A) (hl : A.length ≤ 200 - 56) : impl_SetupText.l3 k k (numT A, (P.length : Int), 0, R, W, P, U, C, ()) = some (numT (A ++ flatL five P ++ [U.length] ++ flatL three U) ++ codesT C, true) := by
 refine ok_eq ?_
 have hmx := po.2
 refine ok_loop (L := impl_SetupText.l3 k) (I := fun d t => ∃ j : Nat, t = (numT (A ++ flatL five (P.take j)), (P.length : Int), (j : Int), R, W, P, U, C, ()) ∧ j + d = P.length ∧ Nums (A ++ flatL five (P.take j)) ∧ (A ++ flatL five (P.take j)).length ≤ A.length + 5 * j) ?_ k P.length _ (by omega) ⟨0, by rw [List.take_zero, flatL, List.append_nil]; rfl, by omega, by rw [List.take_zero, flatL, List.append_nil]; exact hA, by rw [List.take_zero, flatL, List.append_nil]; omega⟩
 rintro d m t ⟨j, rfl, hd, hN, hL⟩ ih
 rw [impl_SetupText.l3]
 refine ok_if (fun hlt => ?_) (fun hge => ?_)
 ·have hj : j < P.length := by omega
  have hx := el_lt (t := P5) hj
  have hnn := port_nn po hj
  obtain ⟨a, b, c, e, f, hxe⟩ : ∃ a b c e f : Int, el P5 P j = (a, b, c, e, f) := ⟨_, _, _, _, _, rfl⟩
  rw [hxe] at hx hnn
  have ha := hnn a (by simp)
  have hb := hnn b (by simp)
  have hc := hnn c (by simp)
  have he := hnn e (by simp)
  have hf := hnn f (by simp)
  have c0 : (0 : Int) ≤ (j : Int) := by omega
  have h5 : w64 ((j : Int) + 1) = ((j + 1 : Nat) : Int) := w64_id (by omega) (by omega)
  have nx := flatL_next (f := five) hx
  have hN' : Nums (A ++ flatL five (P.take (j + 1))) := by
   rw [nx, ← List.append_assoc]
   exact nums_app hN (nums_toNat hnn)
  have hL' : (A ++ flatL five (P.take (j + 1))).length ≤ A.length + 5 * (j + 1) := by
   rw [nx, ← List.append_assoc, List.length_append]
   show _ + 5 ≤ _
   omega
  have z0 := numT_size hN
  have zz := numT_size (nums_toNat hnn)
  rw [List.length_map] at zz
  simp only [List.length_cons, List.length_nil] at zz
  generalize hQ : A ++ flatL five (P.take j) = Q at *
  simp only [c0, hlt, h5, ↓reduceIte, Int.toNat_natCast, show el (.pair (.int .i64) (.pair (.int .i64) (.pair (.int .i64) (.pair (.int .i64) (.int .i64))))) P j = (a, b, c, e, f) from hxe, nums_nn hk (show [a, b, c, e, f].length ≤ 1000 by simp) hnn, Option.bind_some, numT_app]
  rw [if_pos (by omega)]
  refine ih (d - 1) _ (by omega) ⟨j + 1, ?_, by omega, hN', hL'⟩
  rw [nx, ← List.append_assoc, hQ]
  simp only [five, List.map_cons, List.map_nil, List.append_assoc, List.cons_append, List.nil_append]
 ·have hje : j = P.length := by omega
  subst hje
  rw [List.take_length] at hN hL ⊢
  have zn := numT_size (nums_1 (n := U.length) (by have := ru.2; omega))
  rw [List.length_cons, List.length_nil] at zn
  have z := numT_size hN
  refine ok_let ?_
  rw [show impl_numbers.f k [(U.length : Int)] = _ from len1 hk (show U.length ≤ 1000 by have := ru.2; omega)]
  refine ok_let (ok_grd (by omega) ?_)
  rw [numT_app, st4_i (A := A ++ flatL five P ++ [U.length]) hk ru hc h4 (nums_app hN (nums_1 (by have := ru.2; omega))) (by simp only [List.length_append, List.length_cons, List.length_nil] at hL ⊢; omega)]
  exact ok_some (by simp only [List.append_assoc])
theorem st2_i {k : Nat} {R W : List (Int × Int)} {P : List Port5} {U : List (Int × Int × Int)} {C : List ByteArray} {A : List Nat} {n : Int} (hk : 1048576 < k) (pl : PlanOk W) (po : PortsOk P) (ru : RulesOk U) (hc : CodesOk C n) (h4 : C.length ≤ 4) (hA : Nums A) (hl : A.length ≤ 200 - 81) : impl_SetupText.l2 k k (numT A, (W.length : Int), 0, R, W, P, U, C, ()) = some (numT (A ++ flatL two W ++ [P.length] ++ flatL five P ++ [U.length] ++ flatL three U) ++ codesT C, true) := by
 refine ok_eq ?_
 have hmx := pl.2.2
 refine ok_loop (L := impl_SetupText.l2 k) (I := fun d t => ∃ j : Nat, t = (numT (A ++ flatL two (W.take j)), (W.length : Int), (j : Int), R, W, P, U, C, ()) ∧ j + d = W.length ∧ Nums (A ++ flatL two (W.take j)) ∧ (A ++ flatL two (W.take j)).length ≤ A.length + 2 * j) ?_ k W.length _ (by omega) ⟨0, by rw [List.take_zero, flatL, List.append_nil]; rfl, by omega, by rw [List.take_zero, flatL, List.append_nil]; exact hA, by rw [List.take_zero, flatL, List.append_nil]; omega⟩
 rintro d m t ⟨j, rfl, hd, hN, hL⟩ ih
 rw [impl_SetupText.l2]
 refine ok_if (fun hlt => ?_) (fun hge => ?_)
 ·have hj : j < W.length := by omega
  have hx := el_lt (t := W2) hj
  have hnn := win_nn pl hj
  obtain ⟨a, b, hxe⟩ : ∃ a b : Int, el W2 W j = (a, b) := ⟨_, _, rfl⟩
  rw [hxe] at hx hnn
  have ha := hnn a (by simp)
  have hb := hnn b (by simp)
  have c0 : (0 : Int) ≤ (j : Int) := by omega
  have h5 : w64 ((j : Int) + 1) = ((j + 1 : Nat) : Int) := w64_id (by omega) (by omega)
  have nx := flatL_next (f := two) hx
  have hN' : Nums (A ++ flatL two (W.take (j + 1))) := by
   rw [nx, ← List.append_assoc]
   exact nums_app hN (nums_toNat hnn)
  have hL' : (A ++ flatL two (W.take (j + 1))).length ≤ A.length + 2 * (j + 1) := by
   rw [nx, ← List.append_assoc, List.length_append]
   show _ + 2 ≤ _
   omega
  have z0 := numT_size hN
  have zz := numT_size (nums_toNat hnn)
  rw [List.length_map] at zz
  simp only [List.length_cons, List.length_nil] at zz
  generalize hQ : A ++ flatL two (W.take j) = Q at *
  simp only [c0, hlt, h5, ↓reduceIte, Int.toNat_natCast, show el (.pair (.int .i64) (.int .i64)) W j = (a, b) from hxe, nums_nn hk (show [a, b].length ≤ 1000 by simp) hnn, Option.bind_some, numT_app]
  rw [if_pos (by omega)]
  refine ih (d - 1) _ (by omega) ⟨j + 1, ?_, by omega, hN', hL'⟩
  rw [nx, ← List.append_assoc, hQ]
  simp only [two, List.map_cons, List.map_nil, List.append_assoc, List.cons_append, List.nil_append]
 ·have hje : j = W.length := by omega
  subst hje
  rw [List.take_length] at hN hL ⊢
  have zn := numT_size (nums_1 (n := P.length) (by have := po.2; omega))
  rw [List.length_cons, List.length_nil] at zn
  have z := numT_size hN
  refine ok_let ?_
  rw [show impl_numbers.f k [(P.length : Int)] = _ from len1 hk (show P.length ≤ 1000 by have := po.2; omega)]
  refine ok_let (ok_grd (by omega) ?_)
  rw [numT_app, st3_i (A := A ++ flatL two W ++ [P.length]) hk po ru hc h4 (nums_app hN (nums_1 (by have := po.2; omega))) (by simp only [List.length_append, List.length_cons, List.length_nil] at hL ⊢; omega)]
  exact ok_some (by simp only [List.append_assoc])
theorem st1_i {k : Nat} {R W : List (Int × Int)} {P : List Port5} {U : List (Int × Int × Int)} {C : List ByteArray} {A : List Nat} {n : Int} (hk : 1048576 < k) (rg : RegionsOk R) (pl : PlanOk W) (po : PortsOk P) (ru : RulesOk U) (hc : CodesOk C n) (h4 : C.length ≤ 4) (hA : Nums A) (hl : A.length ≤ 200 - 90) : impl_SetupText.l1 k k (numT A, (R.length : Int), 0, R, W, P, U, C, ()) = some (numT (A ++ flatL two R ++ [W.length] ++ flatL two W ++ [P.length] ++ flatL five P ++ [U.length] ++ flatL three U) ++ codesT C, true) := by
 refine ok_eq ?_
 have hmx := rg.2.2
 refine ok_loop (L := impl_SetupText.l1 k) (I := fun d t => ∃ j : Nat, t = (numT (A ++ flatL two (R.take j)), (R.length : Int), (j : Int), R, W, P, U, C, ()) ∧ j + d = R.length ∧ Nums (A ++ flatL two (R.take j)) ∧ (A ++ flatL two (R.take j)).length ≤ A.length + 2 * j) ?_ k R.length _ (by omega) ⟨0, by rw [List.take_zero, flatL, List.append_nil]; rfl, by omega, by rw [List.take_zero, flatL, List.append_nil]; exact hA, by rw [List.take_zero, flatL, List.append_nil]; omega⟩
 rintro d m t ⟨j, rfl, hd, hN, hL⟩ ih
 rw [impl_SetupText.l1]
 refine ok_if (fun hlt => ?_) (fun hge => ?_)
 ·have hj : j < R.length := by omega
  have hx := el_lt (t := W2) hj
  have hnn := reg_nn rg hj
  obtain ⟨a, b, hxe⟩ : ∃ a b : Int, el W2 R j = (a, b) := ⟨_, _, rfl⟩
  rw [hxe] at hx hnn
  have ha := hnn a (by simp)
  have hb := hnn b (by simp)
  have c0 : (0 : Int) ≤ (j : Int) := by omega
  have h5 : w64 ((j : Int) + 1) = ((j + 1 : Nat) : Int) := w64_id (by omega) (by omega)
  have nx := flatL_next (f := two) hx
  have hN' : Nums (A ++ flatL two (R.take (j + 1))) := by
   rw [nx, ← List.append_assoc]
   exact nums_app hN (nums_toNat hnn)
  have hL' : (A ++ flatL two (R.take (j + 1))).length ≤ A.length + 2 * (j + 1) := by
   rw [nx, ← List.append_assoc, List.length_append]
   show _ + 2 ≤ _
   omega
  have z0 := numT_size hN
  have zz := numT_size (nums_toNat hnn)
  rw [List.length_map] at zz
  simp only [List.length_cons, List.length_nil] at zz
  generalize hQ : A ++ flatL two (R.take j) = Q at *
  simp only [c0, hlt, h5, ↓reduceIte, Int.toNat_natCast, show el (.pair (.int .i64) (.int .i64)) R j = (a, b) from hxe, nums_nn hk (show [a, b].length ≤ 1000 by simp) hnn, Option.bind_some, numT_app]
  rw [if_pos (by omega)]
  refine ih (d - 1) _ (by omega) ⟨j + 1, ?_, by omega, hN', hL'⟩
  rw [nx, ← List.append_assoc, hQ]
  simp only [two, List.map_cons, List.map_nil, List.append_assoc, List.cons_append, List.nil_append]
 ·have hje : j = R.length := by omega
  subst hje
  rw [List.take_length] at hN hL ⊢
  have zn := numT_size (nums_1 (n := W.length) (by have := pl.2.2; omega))
  rw [List.length_cons, List.length_nil] at zn
  have z := numT_size hN
  refine ok_let ?_
  rw [show impl_numbers.f k [(W.length : Int)] = _ from len1 hk (show W.length ≤ 1000 by have := pl.2.2; omega)]
  refine ok_let (ok_grd (by omega) ?_)
  rw [numT_app, st2_i (A := A ++ flatL two R ++ [W.length]) hk pl po ru hc h4 (nums_app hN (nums_1 (by have := pl.2.2; omega))) (by simp only [List.length_append, List.length_cons, List.length_nil] at hL ⊢; omega)]
  exact ok_some (by simp only [List.append_assoc])
theorem text_i {k : Nat} {s : Setup} (hs : Small s) (hk : 1048576 < k) : impl_SetupText.f k s = some (setupTextM s) := by
 refine ok_eq ?_
 unfold impl_SetupText.f setupTextM
 rw [fault_i hs hk]
 refine ok_let (ok_if (fun h => ok_some (by rw [if_neg h])) (fun h => ?_))
 have h0 := Classical.not_not.1 h
 obtain ⟨rg, pl, po, ru, co, pa⟩ := right_of h0
 rw [if_pos h0]
 obtain ⟨R, W, P, U, C⟩ := s
 unfold setupT numsOf
 simp only at rg pl po ru co pa ⊢
 have c4 : C.length ≤ 4 := by
  have h1 := co.2
  have h2 := rg.2.2
  omega
 refine ok_let ?_
 rw [show impl_numbers.f k [(R.length : Int)] = _ from len1 hk (show R.length ≤ 1000 by have := rg.2.2; omega)]
 refine ok_let ?_
 rw [st1_i (A := [R.length]) hk rg pl po ru co c4 (nums_1 (by have := rg.2.2; omega)) (by simp)]
 exact ok_some rfl
end Go.Proofs.Ythncjcfnpfajaaa.Pure
/- Set-ups read from texts: what a reader has read, and what comes next in a right text. No condition. -/
namespace Go.Proofs.Ythncjcfnpfajaaa.Pure
open Go Go.Proofs.YthncjcfnpfajaaaA Go.Proofs.YthncjcfnpfajaaaU Go.Proofs.Ythncjcfnpfajaaa.QA
set_option linter.unusedVariables false
set_option linter.unusedSimpArgs false
abbrev Rst := Nat × Bool
def stepR (t : ByteArray) (s : Rst) : Nat × Rst :=
 if s.2 = true then (0, (s.1, true)) else match rdVar t s.1 with
  | none => (0, (s.1, true))
  | some (n, q) => (n, (q, false))
def shortR (t : ByteArray) (s : Rst) : ByteArray × Rst :=
 if s.2 = true then (⟨#[]⟩, (s.1, true)) else match rdVar t s.1 with
  | none => (⟨#[]⟩, (s.1, true))
  | some (n, q) => if n > 20000 ∨ n > t.size - q then (⟨#[]⟩, (s.1, true)) else (t.extract q (q + n), (q + n, false))
def stepsR (t : ByteArray) : Nat → Rst → List Nat × Rst
 | 0, s => ([], s)
 | m + 1, s => ((stepR t s).1 :: (stepsR t m (stepR t s).2).1, (stepsR t m (stepR t s).2).2)
def countR (t : ByteArray) (m : Nat) (s : Rst) : Nat × Rst := if (stepR t s).1 > m then (0, ((stepR t s).2.1, true)) else stepR t s
def cod : List ByteArray → List Int
 | [] => []
 | c :: L => varL c.size ++ byl c ++ cod L
def enc (s : Setup) : List Int := numsL (numsOf s) ++ cod s.2.2.2.2
/-! ### texts and their bytes -/
theorem byl_app (a b : ByteArray) : byl (a ++ b) = byl a ++ byl b := by
 unfold byl
 rw [ByteArray.toList_eq, ByteArray.toList_eq, ByteArray.toList_eq, ← List.map_append]
 congr 1
theorem byl_chrs {l : List Int} (h : ∀ c, c ∈ l → 0 ≤ c ∧ c < 256) : byl (chrs l) = l := by
 unfold byl chrs
 rw [ByteArray.toList_eq]
 show List.map _ (List.map _ l) = l
 rw [List.map_map]
 conv => rhs; rw [← List.map_id l]
 refine List.map_congr_left fun c hc => ?_
 have := h c hc
 show ((UInt8.ofNat c.toNat).toNat : Int) = c
 simp only [UInt8.toNat_ofNat']
 omega
theorem varL_in : ∀ (n : Nat) (c : Int), c ∈ varL n → 0 ≤ c ∧ c < 256 := fun n => by
 induction n using Nat.strongRecOn with
 | ind n ih =>
  intro c hc
  by_cases h : n > 127
  ·rw [varL_big h] at hc
   rcases List.mem_cons.1 hc with h1 | h1
   ·omega
   ·exact ih (n / 128) (by omega) c h1
  ·rw [varL_small h] at hc
   have := List.mem_singleton.1 hc
   omega
theorem numsL_in : ∀ {L : List Nat} {c : Int}, c ∈ numsL L → 0 ≤ c ∧ c < 256
 | [], c, h => by cases h
 | n :: L, c, h => (List.mem_append.1 h).elim (varL_in n c) numsL_in
theorem byl_codes : ∀ L : List ByteArray, byl (codesT L) = cod L
 | [] => by
  rw [codesT, cod]
  unfold byl
  rw [ByteArray.toList_eq]
  rfl
 | c :: L => by
  rw [codesT, cod, byl_app, byl_app, byl_codes L, numT, byl_chrs (fun c h => numsL_in h), numsL, numsL, List.append_nil]
theorem byl_setup (s : Setup) : byl (setupT s) = enc s := by
 unfold setupT enc
 rw [byl_app, byl_codes, numT, byl_chrs (fun c h => numsL_in h)]
theorem byl_inj {a b : ByteArray} (h : byl a = byl b) : a = b := by rw [← chrs_byl a, ← chrs_byl b, h]
/-- The text of a right set-up. -/
def TextOf (t : ByteArray) (s : Setup) : Prop := faultM s = 0 ∧ byl t = enc s
theorem textOf_iff {t : ByteArray} {s : Setup} : TextOf t s ↔ faultM s = 0 ∧ setupT s = t :=
 ⟨fun h => ⟨h.1, byl_inj (by rw [byl_setup, h.2])⟩, fun h => ⟨h.1, by rw [← h.2, byl_setup]⟩⟩
structure At (t : ByteArray) (s : Rst) (P : List Int) (rest : Setup → List Int) : Prop where
 fwd : s.2 = false → Bytes t 0 P ∧ s.1 = P.length
 cmp : ∀ s0, TextOf t s0 → s.2 = false ∧ enc s0 = P ++ rest s0
theorem at_here {t : ByteArray} {s : Rst} {P : List Int} {rest : Setup → List Int} (h : At t s P rest) {s0 : Setup} (h0 : TextOf t s0) : s = (P.length, false) ∧ Bytes t P.length (rest s0) := by
 obtain ⟨h1, h2⟩ := h.cmp s0 h0
 obtain ⟨h3, h4⟩ := h.fwd h1
 have h5 := (bytes_all.2 (h0.2.symm)).1
 rw [h2] at h5
 have := (bytes_app.1 h5).2
 rw [Nat.zero_add] at this
 exact ⟨Prod.ext h4 h1, this⟩
/-- One number read. -/
theorem at_step {t : ByteArray} {s : Rst} {P : List Int} {rest rest' : Setup → List Int} (h : At t s P rest) (nx : Setup → Nat) (hr : ∀ s0, TextOf t s0 → rest s0 = varL (nx s0) ++ rest' s0 ∧ nx s0 ≤ 1000000000) :
  At t (stepR t s).2 (P ++ varL (stepR t s).1) rest' ∧ (stepR t s).1 ≤ 1000000000 ∧ ∀ s0, TextOf t s0 → (stepR t s).1 = nx s0 := by
 have key : ∀ s0, TextOf t s0 → stepR t s = (nx s0, (P.length + (varL (nx s0)).length, false)) := fun s0 h0 => by
  obtain ⟨rfl, h2⟩ := at_here h h0
  obtain ⟨e, hn⟩ := hr s0 h0
  rw [e] at h2
  have := rdVar_iff.2 ⟨hn, (bytes_app.1 h2).1, rfl⟩
  unfold stepR
  rw [if_neg (show ¬ (false = true) from fun h => by cases h), this]
 refine ⟨⟨fun hb => ?_, fun s0 h0 => ?_⟩, ?_, fun s0 h0 => by rw [key s0 h0]⟩
 ·unfold stepR at hb ⊢
  by_cases hs : s.2 = true
  ·rw [if_pos hs] at hb
   cases hb
  ·rw [if_neg hs] at hb ⊢
   obtain ⟨f1, f2⟩ := h.fwd (by simpa using hs)
   cases hv : rdVar t s.1 with
   | none => rw [hv] at hb; cases hb
   | some x =>
    obtain ⟨n, q⟩ := x
    obtain ⟨v1, v2, v3⟩ := rdVar_iff.1 hv
    refine ⟨bytes_app.2 ⟨f1, by rw [Nat.zero_add, ← f2]; exact v2⟩, ?_⟩
    show q = _
    rw [v3, f2, List.length_append]
 ·rw [key s0 h0]
  refine ⟨rfl, ?_⟩
  rw [(h.cmp s0 h0).2, (hr s0 h0).1, List.append_assoc]
 ·unfold stepR
  split
  ·show 0 ≤ _
   omega
  ·split
   ·show 0 ≤ _
    omega
   ·rename_i n q hv
    exact (rdVar_iff.1 hv).1
/-- More numbers read. -/
theorem at_steps {t : ByteArray} : ∀ {m : Nat} {s : Rst} {P : List Int} {rest rest' : Setup → List Int} (h : At t s P rest) (xs : Setup → List Nat) (hr : ∀ s0, TextOf t s0 → rest s0 = numsL (xs s0) ++ rest' s0 ∧ (xs s0).length = m ∧ Nums (xs s0)),
  At t (stepsR t m s).2 (P ++ numsL (stepsR t m s).1) rest' ∧ (stepsR t m s).1.length = m ∧ Nums (stepsR t m s).1 ∧ ∀ s0, TextOf t s0 → (stepsR t m s).1 = xs s0
 | 0, s, P, rest, rest', h, xs, hr => by
  have e : ∀ s0, TextOf t s0 → xs s0 = [] := fun s0 h0 => List.length_eq_zero_iff.1 (hr s0 h0).2.1
  refine ⟨⟨fun hb => ?_, fun s0 h0 => ?_⟩, rfl, fun n hn => (by cases hn), fun s0 h0 => (e s0 h0).symm⟩
  ·show Bytes t 0 (P ++ []) ∧ s.1 = (P ++ []).length
   rw [List.append_nil]
   exact h.fwd hb
  ·have h1 := h.cmp s0 h0
   have h2 := (hr s0 h0).1
   rw [e s0 h0] at h2
   refine ⟨h1.1, ?_⟩
   show enc s0 = P ++ [] ++ rest' s0
   rw [List.append_nil, h1.2, h2]
   rfl
 | m + 1, s, P, rest, rest', h, xs, hr => by
  have hx : ∀ s0, TextOf t s0 → xs s0 = (xs s0).headD 0 :: (xs s0).tail := fun s0 h0 => by
   have := (hr s0 h0).2.1
   cases hc : xs s0 with
   | nil => rw [hc] at this; simp at this
   | cons a l => rfl
  obtain ⟨a1, a2, a3⟩ := at_step (rest' := fun s0 => numsL (xs s0).tail ++ rest' s0) h (fun s0 => (xs s0).headD 0) (fun s0 h0 => by
   obtain ⟨r1, r2, r3⟩ := hr s0 h0
   rw [hx s0 h0] at r1 r3
   refine ⟨?_, r3 _ (List.mem_cons_self ..)⟩
   rw [r1, numsL, List.append_assoc])
  obtain ⟨b1, b2, b3, b4⟩ := at_steps (m := m) (rest' := rest') a1 (fun s0 => (xs s0).tail) (fun s0 h0 => by
   obtain ⟨r1, r2, r3⟩ := hr s0 h0
   exact ⟨rfl, by rw [List.length_tail, r2]; rfl, fun n hn => r3 n (List.mem_of_mem_tail hn)⟩)
  refine ⟨?_, ?_, ?_, fun s0 h0 => ?_⟩
  ·show At t _ (P ++ (varL _ ++ numsL _)) rest'
   rw [← List.append_assoc]
   exact b1
  ·show (_ :: _).length = _
   rw [List.length_cons, b2]
  ·intro n hn
   rcases List.mem_cons.1 hn with h1 | h1
   ·rw [h1]; exact a2
   ·exact b3 n h1
  ·show _ :: _ = _
   rw [a3 s0 h0, b4 s0 h0]
   exact (hx s0 h0).symm
/-- A count read, of which the text of a right set-up has no more than m. -/
theorem at_count {t : ByteArray} {m : Nat} {s : Rst} {P : List Int} {rest rest' : Setup → List Int} (h : At t s P rest) (nx : Setup → Nat) (hr : ∀ s0, TextOf t s0 → rest s0 = varL (nx s0) ++ rest' s0 ∧ nx s0 ≤ 1000000000 ∧ nx s0 ≤ m) :
  At t (countR t m s).2 (P ++ varL (countR t m s).1) rest' ∧ (countR t m s).1 ≤ m ∧ (countR t m s).1 ≤ 1000000000 ∧ ∀ s0, TextOf t s0 → (countR t m s).1 = nx s0 := by
 obtain ⟨a1, a2, a3⟩ := at_step (rest' := rest') h nx (fun s0 h0 => ⟨(hr s0 h0).1, (hr s0 h0).2.1⟩)
 unfold countR
 by_cases hm : (stepR t s).1 > m
 ·rw [if_pos hm]
  have no : ∀ s0, ¬ TextOf t s0 := fun s0 h0 => by
   have := (hr s0 h0).2.2
   rw [← a3 s0 h0] at this
   omega
  exact ⟨⟨fun hb => (by cases hb), fun s0 h0 => absurd h0 (no s0)⟩, Nat.zero_le _, Nat.zero_le _, fun s0 h0 => absurd h0 (no s0)⟩
 ·rw [if_neg hm]
  exact ⟨a1, by omega, a2, a3⟩
theorem byl_extract {t : ByteArray} {q n : Nat} (h : q + n ≤ t.size) : byl (t.extract q (q + n)) = ((byl t).drop q).take n := by
 unfold byl
 rw [ByteArray.toList_eq, ByteArray.toList_eq, ← List.map_drop, ← List.map_take]
 congr 1
 simp
theorem byl_sub {t : ByteArray} {q n : Nat} (h : q + n ≤ t.size) : Bytes t q (byl (t.extract q (q + n))) ∧ (byl (t.extract q (q + n))).length = n := by
 have hl : (byl (t.extract q (q + n))).length = n := by
  rw [byl_extract h, List.length_take, List.length_drop, byl_len]
  omega
 refine ⟨bytes_at.2 ⟨by omega, fun j hj => ?_⟩, hl⟩
 rw [hl] at hj
 rw [byl_extract h, List.getElem?_take_of_lt hj, List.getElem?_drop]
theorem bytes_uniq {t : ByteArray} : ∀ {l m : List Int} {p : Nat}, Bytes t p l → Bytes t p m → l.length = m.length → l = m
 | [], [], p, _, _, _ => rfl
 | [], c :: m, p, _, _, h => by simp at h
 | c :: l, [], p, _, _, h => by simp at h
 | c :: l, d :: m, p, h1, h2, h => by
  rw [h1.2.1, h2.2.1, bytes_uniq h1.2.2 h2.2.2 (by simpa using h)]
/-- A short text read. -/
theorem at_short {t : ByteArray} {s : Rst} {P : List Int} {rest rest' : Setup → List Int} (h : At t s P rest) (nx : Setup → ByteArray) (hr : ∀ s0, TextOf t s0 → rest s0 = varL (nx s0).size ++ byl (nx s0) ++ rest' s0 ∧ (nx s0).size ≤ 20000) :
  At t (shortR t s).2 (P ++ (varL (shortR t s).1.size ++ byl (shortR t s).1)) rest' ∧ (shortR t s).1.size ≤ 20000 ∧ ∀ s0, TextOf t s0 → (shortR t s).1 = nx s0 := by
 have key : ∀ s0, TextOf t s0 → shortR t s = (nx s0, (P.length + (varL (nx s0).size ++ byl (nx s0)).length, false)) := fun s0 h0 => by
  obtain ⟨rfl, h2⟩ := at_here h h0
  obtain ⟨e, hn⟩ := hr s0 h0
  rw [e] at h2
  obtain ⟨h3, h4⟩ := bytes_app.1 (bytes_app.1 h2).1
  have h5 := rdVar_iff.2 ⟨show (nx s0).size ≤ 1000000000 by omega, h3, rfl⟩
  have h6 := bytes_le h4
  rw [byl_len] at h6
  obtain ⟨h7, h8⟩ := byl_sub h6
  have h9 := bytes_uniq h7 h4 (by rw [h8, byl_len])
  unfold shortR
  rw [if_neg (show ¬ (false = true) from fun h => by cases h), h5]
  dsimp only
  rw [if_neg (by omega), byl_inj h9, List.length_append, byl_len, Nat.add_assoc]
 refine ⟨⟨fun hb => ?_, fun s0 h0 => ?_⟩, ?_, fun s0 h0 => by rw [key s0 h0]⟩
 ·unfold shortR at hb ⊢
  by_cases hs : s.2 = true
  ·rw [if_pos hs] at hb
   cases hb
  ·rw [if_neg hs] at hb ⊢
   obtain ⟨f1, f2⟩ := h.fwd (by simpa using hs)
   cases hv : rdVar t s.1 with
   | none => rw [hv] at hb; cases hb
   | some x =>
    obtain ⟨n, q⟩ := x
    rw [hv] at hb
    dsimp only at hb ⊢
    split at hb
    ·cases hb
    ·rename_i hc
     rw [if_neg hc]
     obtain ⟨v1, v2, v3⟩ := rdVar_iff.1 hv
     have v4 := bytes_le v2
     obtain ⟨h7, h8⟩ := byl_sub (t := t) (q := q) (n := n) (by omega)
     have h9 : (t.extract q (q + n)).size = n := by rw [← byl_len]; exact h8
     dsimp only
     rw [h9]
     refine ⟨bytes_app.2 ⟨f1, bytes_app.2 ⟨by rw [Nat.zero_add, ← f2]; exact v2, by rw [Nat.zero_add, ← f2, ← v3]; exact h7⟩⟩, ?_⟩
     rw [List.length_append, List.length_append, h8, ← f2, v3]
     omega
 ·rw [key s0 h0]
  refine ⟨rfl, ?_⟩
  dsimp only
  rw [(h.cmp s0 h0).2, (hr s0 h0).1, List.append_assoc, List.append_assoc, List.append_assoc]
 ·unfold shortR
  split
  ·exact Nat.zero_le _
  ·split
   ·exact Nat.zero_le _
   ·rename_i n q hv
    split
    ·exact Nat.zero_le _
    ·rename_i hc
     have v4 := bytes_le (rdVar_iff.1 hv).2.1
     have v3 := (rdVar_iff.1 hv).2.2
     obtain ⟨h7, h8⟩ := byl_sub (t := t) (q := q) (n := n) (by omega)
     have h9 : (t.extract q (q + n)).size = n := by rw [← byl_len]; exact h8
     show (t.extract q (q + n)).size ≤ 20000
     omega
/-! ### rows of records -/
structure RRows {α : Type} (t : ByteArray) (s : Rst) (P : List Int) (f : α → List Nat) (g : Setup → List α) (acc : List α) (tail : Setup → List Int) : Prop where
 here : At t s (P ++ numsL (flatL f acc)) (fun s0 => numsL (flatL f ((g s0).drop acc.length)) ++ tail s0)
 pre : ∀ s0, TextOf t s0 → acc = (g s0).take acc.length
theorem rows_start {α : Type} {t : ByteArray} {s : Rst} {P : List Int} {f : α → List Nat} {g : Setup → List α} {tail : Setup → List Int} (h : At t s P (fun s0 => numsL (flatL f (g s0)) ++ tail s0)) : RRows t s P f g [] tail := by
 refine ⟨?_, fun s0 h0 => rfl⟩
 show At t s (P ++ []) (fun s0 => numsL (flatL f (g s0)) ++ tail s0)
 rw [List.append_nil]
 exact h
theorem flat_one {α : Type} (f : α → List Nat) (x : α) : flatL f [x] = f x := List.append_nil _
/-- One record more. -/
theorem rows_step {α : Type} {t : ByteArray} {s : Rst} {P : List Int} {f : α → List Nat} {g : Setup → List α} {acc : List α} {tail : Setup → List Int} {m : Nat} (mk : List Nat → α)
  (hm : ∀ ns, ns.length = m → f (mk ns) = ns) (hg : ∀ s0, TextOf t s0 → ∀ x, x ∈ g s0 → (f x).length = m ∧ Nums (f x) ∧ mk (f x) = x)
  (h : RRows t s P f g acc tail) (hl : ∀ s0, TextOf t s0 → acc.length < (g s0).length) :
  RRows t (stepsR t m s).2 P f g (acc ++ [mk (stepsR t m s).1]) tail ∧ (stepsR t m s).1.length = m ∧ Nums (stepsR t m s).1 := by
 have cut : ∀ s0, TextOf t s0 → ∃ x, (g s0)[acc.length]? = some x ∧ x ∈ g s0 ∧ (g s0).drop acc.length = x :: (g s0).drop (acc.length + 1) := fun s0 h0 => by
  have := hl s0 h0
  exact ⟨(g s0)[acc.length], List.getElem?_eq_getElem this, List.getElem_mem this, List.drop_eq_getElem_cons this⟩
 have nx : ∀ s0, TextOf t s0 → flatL f ((g s0).drop acc.length) = flatL f (((g s0).drop acc.length).take 1) ++ flatL f ((g s0).drop (acc.length + 1)) := fun s0 h0 => by
  obtain ⟨x, x1, x2, x3⟩ := cut s0 h0
  rw [x3]
  show f x ++ _ = (f x ++ []) ++ _
  rw [List.append_nil]
 obtain ⟨a1, a2, a3, a4⟩ := at_steps (m := m) (rest' := fun s0 => numsL (flatL f ((g s0).drop (acc.length + 1))) ++ tail s0) h.here (fun s0 => flatL f (((g s0).drop acc.length).take 1)) (fun s0 h0 => by
  obtain ⟨x, x1, x2, x3⟩ := cut s0 h0
  refine ⟨?_, ?_⟩
  ·rw [nx s0 h0, numsL_app, List.append_assoc]
  ·rw [x3]
   show (f x ++ []).length = m ∧ Nums (f x ++ [])
   rw [List.append_nil]
   exact ⟨(hg s0 h0 x x2).1, (hg s0 h0 x x2).2.1⟩)
 refine ⟨⟨?_, fun s0 h0 => ?_⟩, a2, a3⟩
 ·rw [flatL_app, flat_one, hm _ a2, numsL_app, ← List.append_assoc, List.length_append]
  exact a1
 ·obtain ⟨x, x1, x2, x3⟩ := cut s0 h0
  have e : (stepsR t m s).1 = f x := by
   rw [a4 s0 h0, x3]
   exact List.append_nil _
  rw [e, (hg s0 h0 x x2).2.2, List.length_append]
  show acc ++ [x] = (g s0).take (acc.length + 1)
  rw [List.take_add_one, x1, ← h.pre s0 h0]
  rfl
/-- All records read. -/
theorem rows_end {α : Type} {t : ByteArray} {s : Rst} {P : List Int} {f : α → List Nat} {g : Setup → List α} {acc : List α} {tail : Setup → List Int} (h : RRows t s P f g acc tail) (hl : ∀ s0, TextOf t s0 → acc.length = (g s0).length) :
  At t s (P ++ numsL (flatL f acc)) tail ∧ ∀ s0, TextOf t s0 → acc = g s0 := by
 refine ⟨⟨h.here.fwd, fun s0 h0 => ?_⟩, fun s0 h0 => ?_⟩
 ·obtain ⟨h1, h2⟩ := h.here.cmp s0 h0
  refine ⟨h1, ?_⟩
  rw [h2, hl s0 h0, List.drop_length]
  rfl
 ·have := h.pre s0 h0
  rw [hl s0 h0, List.take_length] at this
  exact this
/-! ### codes -/
theorem cod_app : ∀ L M, cod (L ++ M) = cod L ++ cod M
 | [], M => rfl
 | c :: L, M => by rw [List.cons_append, cod, cod, cod_app L M]; simp only [List.append_assoc]
structure Cods (t : ByteArray) (s : Rst) (P : List Int) (acc : List ByteArray) : Prop where
 here : At t s (P ++ cod acc) (fun s0 => cod (s0.2.2.2.2.drop acc.length))
 pre : ∀ s0, TextOf t s0 → acc = s0.2.2.2.2.take acc.length
theorem cods_start {t : ByteArray} {s : Rst} {P : List Int} (h : At t s P (fun s0 => cod s0.2.2.2.2)) : Cods t s P [] := by
 refine ⟨?_, fun s0 h0 => rfl⟩
 show At t s (P ++ []) (fun s0 => cod s0.2.2.2.2)
 rw [List.append_nil]
 exact h
theorem cods_step {t : ByteArray} {s : Rst} {P : List Int} {acc : List ByteArray} (h : Cods t s P acc) (hl : ∀ s0, TextOf t s0 → acc.length < s0.2.2.2.2.length ∧ ∀ c, c ∈ s0.2.2.2.2 → c.size ≤ 20000) :
  Cods t (shortR t s).2 P (acc ++ [(shortR t s).1]) ∧ (shortR t s).1.size ≤ 20000 := by
 have cut : ∀ s0, TextOf t s0 → s0.2.2.2.2[acc.length]? = some (el .str s0.2.2.2.2 acc.length) ∧ s0.2.2.2.2.drop acc.length = el .str s0.2.2.2.2 acc.length :: s0.2.2.2.2.drop (acc.length + 1) := fun s0 h0 => by
  have h1 := (hl s0 h0).1
  have h2 := el_lt (t := .str) h1
  refine ⟨h2, ?_⟩
  rw [List.drop_eq_getElem_cons h1]
  congr 1
  rw [List.getElem?_eq_getElem h1] at h2
  exact Option.some.inj h2
 obtain ⟨a1, a2, a3⟩ := at_short (rest' := fun s0 => cod (s0.2.2.2.2.drop (acc.length + 1))) h.here (fun s0 => el .str s0.2.2.2.2 acc.length) (fun s0 h0 => ⟨by
  rw [(cut s0 h0).2]
  rfl, (hl s0 h0).2 _ (el_mem (t := .str) (hl s0 h0).1)⟩)
 refine ⟨⟨?_, fun s0 h0 => ?_⟩, a2⟩
 ·rw [cod_app, show cod [(shortR t s).1] = varL (shortR t s).1.size ++ byl (shortR t s).1 from List.append_nil _, ← List.append_assoc, List.length_append]
  exact a1
 ·rw [a3 s0 h0, List.length_append]
  show acc ++ [_] = s0.2.2.2.2.take (acc.length + 1)
  rw [List.take_add_one, (cut s0 h0).1, ← h.pre s0 h0]
  rfl
theorem cods_end {t : ByteArray} {s : Rst} {P : List Int} {acc : List ByteArray} (h : Cods t s P acc) (hl : ∀ s0, TextOf t s0 → acc.length = s0.2.2.2.2.length) :
  At t s (P ++ cod acc) (fun _ => []) ∧ ∀ s0, TextOf t s0 → acc = s0.2.2.2.2 := by
 refine ⟨⟨h.here.fwd, fun s0 h0 => ?_⟩, fun s0 h0 => ?_⟩
 ·obtain ⟨h1, h2⟩ := h.here.cmp s0 h0
  refine ⟨h1, ?_⟩
  rw [h2, hl s0 h0, List.drop_length]
  rfl
 ·have := h.pre s0 h0
  rw [hl s0 h0, List.take_length] at this
  exact this
end Go.Proofs.Ythncjcfnpfajaaa.Pure
/- The set-up of a text. No condition. -/
namespace Go.Proofs.Ythncjcfnpfajaaa.Pure
open Go Go.Proofs.YthncjcfnpfajaaaA Go.Proofs.YthncjcfnpfajaaaU Go.Proofs.Ythncjcfnpfajaaa.QA
set_option linter.unusedVariables false
set_option linter.unusedSimpArgs false
def mk2 (ns : List Nat) : Int × Int := ((ns.getD 0 0 : Nat), (ns.getD 1 0 : Nat))
def mk3 (ns : List Nat) : Int × Int × Int := ((ns.getD 0 0 : Nat), (ns.getD 1 0 : Nat), (ns.getD 2 0 : Nat))
def mk5 (ns : List Nat) : Port5 := ((ns.getD 0 0 : Nat), (ns.getD 1 0 : Nat), (ns.getD 2 0 : Nat), (ns.getD 3 0 : Nat), (ns.getD 4 0 : Nat))
theorem two_mk {ns : List Nat} (h : ns.length = 2) : two (mk2 ns) = ns := by
 match ns, h with
 | [a, b], _ => rfl
theorem three_mk {ns : List Nat} (h : ns.length = 3) : three (mk3 ns) = ns := by
 match ns, h with
 | [a, b, c], _ => rfl
theorem five_mk {ns : List Nat} (h : ns.length = 5) : five (mk5 ns) = ns := by
 match ns, h with
 | [a, b, c, d, e], _ => rfl
theorem nat_back {x : Int} (h : 0 ≤ x) : ((x.toNat : Nat) : Int) = x := Int.toNat_of_nonneg h
theorem text_regs {t : ByteArray} {s : Setup} (h : TextOf t s) (x : Int × Int) (hx : x ∈ s.1) : (two x).length = 2 ∧ Nums (two x) ∧ mk2 (two x) = x := by
 obtain ⟨j, hj, rfl⟩ := List.mem_iff_getElem.1 hx
 have := reg_nn (right_of h.1).rg hj
 rw [el_at (t := W2) (List.getElem?_eq_getElem hj)] at this
 exact ⟨rfl, nums_toNat this, Prod.ext (nat_back (this _ (by simp)).1) (nat_back (this _ (by simp)).1)⟩
theorem text_plan {t : ByteArray} {s : Setup} (h : TextOf t s) (x : Int × Int) (hx : x ∈ s.2.1) : (two x).length = 2 ∧ Nums (two x) ∧ mk2 (two x) = x := by
 obtain ⟨j, hj, rfl⟩ := List.mem_iff_getElem.1 hx
 have := win_nn (right_of h.1).pl hj
 rw [el_at (t := W2) (List.getElem?_eq_getElem hj)] at this
 exact ⟨rfl, nums_toNat this, Prod.ext (nat_back (this _ (by simp)).1) (nat_back (this _ (by simp)).1)⟩
theorem text_ports {t : ByteArray} {s : Setup} (h : TextOf t s) (x : Port5) (hx : x ∈ s.2.2.1) : (five x).length = 5 ∧ Nums (five x) ∧ mk5 (five x) = x := by
 obtain ⟨j, hj, rfl⟩ := List.mem_iff_getElem.1 hx
 have := port_nn (right_of h.1).po hj
 rw [el_at (t := P5) (List.getElem?_eq_getElem hj)] at this
 exact ⟨rfl, nums_toNat this, Prod.ext (nat_back (this _ (by simp)).1) (Prod.ext (nat_back (this _ (by simp)).1) (Prod.ext (nat_back (this _ (by simp)).1) (Prod.ext (nat_back (this _ (by simp)).1) (nat_back (this _ (by simp)).1))))⟩
theorem text_rules {t : ByteArray} {s : Setup} (h : TextOf t s) (x : Int × Int × Int) (hx : x ∈ s.2.2.2.1) : (three x).length = 3 ∧ Nums (three x) ∧ mk3 (three x) = x := by
 obtain ⟨j, hj, rfl⟩ := List.mem_iff_getElem.1 hx
 have := rule_nn (right_of h.1).ru hj
 rw [el_at (t := R3) (List.getElem?_eq_getElem hj)] at this
 exact ⟨rfl, nums_toNat this, Prod.ext (nat_back (this _ (by simp)).1) (Prod.ext (nat_back (this _ (by simp)).1) (nat_back (this _ (by simp)).1))⟩
/-! ### what comes next -/
def rest4 (s : Setup) : List Int := cod s.2.2.2.2
def rest3 (s : Setup) : List Int := varL s.2.2.2.1.length ++ (numsL (flatL three s.2.2.2.1) ++ rest4 s)
def rest2 (s : Setup) : List Int := varL s.2.2.1.length ++ (numsL (flatL five s.2.2.1) ++ rest3 s)
def rest1 (s : Setup) : List Int := varL s.2.1.length ++ (numsL (flatL two s.2.1) ++ rest2 s)
def rest0 (s : Setup) : List Int := varL s.1.length ++ (numsL (flatL two s.1) ++ rest1 s)
theorem numsL_1 (n : Nat) : numsL [n] = varL n := List.append_nil _
theorem enc_rest (s : Setup) : enc s = rest0 s := by
 unfold enc numsOf rest0 rest1 rest2 rest3 rest4
 simp only [numsL_app, numsL_1, List.append_assoc]
theorem at_start {t : ByteArray} : At t (0, false) [] rest0 := ⟨fun _ => ⟨Nat.zero_le _, rfl⟩, fun s0 h0 => ⟨rfl, by rw [enc_rest]; rfl⟩⟩
structure Counts (s : Setup) : Prop where
 rg : s.1.length ≤ 4
 pl : s.2.1.length ≤ 12
 po : s.2.2.1.length ≤ 6
 ru : s.2.2.2.1.length ≤ 8
 co : s.2.2.2.2.length = s.1.length
theorem counts_of {t : ByteArray} {s : Setup} (h : TextOf t s) : Counts s := by
 obtain ⟨a, b, c, d, e, f⟩ := right_of h.1
 have := a.2; have := b.2; have := c.2; have := d.2; have := e.2
 exact ⟨by omega, by omega, by omega, by omega, by omega⟩
/-! ### the reading of a text -/
open Classical in
noncomputable def readSetM (t : ByteArray) : Setup × Bool := if h : ∃ s, TextOf t s then (Classical.choose h, true) else (([], [], [], [], []), false)
theorem readSetM_yes {t : ByteArray} {s : Setup} (h : TextOf t s) (hu : ∀ s0, TextOf t s0 → s = s0) : readSetM t = (s, true) := by
 have he : ∃ s, TextOf t s := ⟨s, h⟩
 unfold readSetM
 rw [dif_pos he, ← hu _ (Classical.choose_spec he)]
theorem readSetM_no {t : ByteArray} (h : ∀ s0, ¬ TextOf t s0) : readSetM t = (([], [], [], [], []), false) := by
 unfold readSetM
 rw [dif_neg (fun ⟨s, hs⟩ => h s hs)]
/-- What a reader has at its end. -/
structure Ended (t : ByteArray) (s : Rst) (S : Setup) : Prop where
 fwd : s.2 = false → byl t = enc S ∨ ¬ s.1 = t.size
 cmp : ∀ s0, TextOf t s0 → s.2 = false ∧ s.1 = t.size ∧ S = s0
theorem readSetM_end {t : ByteArray} {s : Rst} {S : Setup} (h : Ended t s S) : readSetM t = if s.2 = true ∨ ¬ s.1 = t.size ∨ ¬ faultM S = 0 then (([], [], [], [], []), false) else (S, true) := by
 split
 ·rename_i hc
  refine readSetM_no fun s0 h0 => ?_
  obtain ⟨c1, c2, c3⟩ := h.cmp s0 h0
  rcases hc with hc | hc | hc
  ·rw [c1] at hc; cases hc
  ·exact hc c2
  ·rw [c3] at hc; exact hc h0.1
 ·rename_i hc
  have h1 : s.2 = false := by
   cases hb : s.2 with
   | false => rfl
   | true => exact absurd (.inl hb) hc
  have h2 : s.1 = t.size := Classical.not_not.1 fun g => hc (.inr (.inl g))
  have h3 : faultM S = 0 := Classical.not_not.1 fun g => hc (.inr (.inr g))
  rcases h.fwd h1 with h4 | h4
  ·exact readSetM_yes ⟨h3, h4⟩ (fun s0 h0 => (h.cmp s0 h0).2.2)
  ·exact absurd h2 h4
theorem ended_of {t : ByteArray} {s : Rst} {P : List Int} {S : Setup} (h : At t s P (fun _ => [])) (hP : P = enc S) (hu : ∀ s0, TextOf t s0 → S = s0) : Ended t s S := by
 refine ⟨fun hb => ?_, fun s0 h0 => ?_⟩
 ·obtain ⟨f1, f2⟩ := h.fwd hb
  by_cases he : s.1 = t.size
  ·left
   rw [← hP]
   exact (bytes_all.1 ⟨f1, by rw [← f2, he]⟩).symm
  ·exact .inr he
 ·obtain ⟨c1, c2⟩ := h.cmp s0 h0
  obtain ⟨f1, f2⟩ := h.fwd c1
  refine ⟨c1, ?_, hu s0 h0⟩
  rw [f2, ← byl_len, h0.2, c2, List.append_nil]
/-- The reference: it writes what it has read, and compares. -/
theorem readSetM_back {t : ByteArray} {b : Bool} {S : Setup} (hu : ∀ s0, TextOf t s0 → b = false ∧ S = s0) : readSetM t = if b = true ∨ ¬ (setupTextM S).2 = true ∨ ¬ (setupTextM S).1 = t then (([], [], [], [], []), false) else (S, true) := by
 have hm : faultM S = 0 → setupTextM S = (setupT S, true) := fun h => if_pos h
 have hn : ¬ faultM S = 0 → setupTextM S = (⟨#[]⟩, false) := fun h => if_neg h
 split
 ·rename_i hc
  refine readSetM_no fun s0 h0 => ?_
  obtain ⟨c1, rfl⟩ := hu s0 h0
  rw [c1, hm h0.1] at hc
  rcases hc with hc | hc | hc
  ·cases hc
  ·exact hc rfl
  ·exact hc (textOf_iff.1 h0).2
 ·rename_i hc
  have h2 : (setupTextM S).2 = true := Classical.not_not.1 fun g => hc (.inr (.inl g))
  have h3 : (setupTextM S).1 = t := Classical.not_not.1 fun g => hc (.inr (.inr g))
  by_cases hf : faultM S = 0
  ·rw [hm hf] at h3
   exact readSetM_yes (textOf_iff.2 ⟨hf, h3⟩) (fun s0 h0 => (hu s0 h0).2)
  ·rw [hn hf] at h2
   cases h2
theorem readSetM_small (t : ByteArray) : Small (readSetM t).1 := by
 unfold readSetM
 split
 ·rename_i h
  have c := counts_of (Classical.choose_spec h)
  have h1 := c.rg; have h2 := c.pl; have h3 := c.po; have h4 := c.ru; have h5 := c.co
  exact ⟨by dsimp only; omega, by dsimp only; omega, by dsimp only; omega, by dsimp only; omega, by dsimp only; omega⟩
 ·exact ⟨by simp, by simp, by simp, by simp, by simp⟩
end Go.Proofs.Ythncjcfnpfajaaa.Pure
/- How long the text of a set-up is. No condition. -/
namespace Go.Proofs.Ythncjcfnpfajaaa.Pure
open Go Go.Proofs.YthncjcfnpfajaaaA Go.Proofs.YthncjcfnpfajaaaU Go.Proofs.Ythncjcfnpfajaaa.QA
set_option linter.unusedVariables false
set_option linter.unusedSimpArgs false
theorem flat_nums {α : Type} {f : α → List Nat} : ∀ {L : List α}, (∀ x, x ∈ L → Nums (f x)) → Nums (flatL f L)
 | [], _ => fun n hn => (by cases hn)
 | x :: L, h => nums_app (h x (List.mem_cons_self ..)) (flat_nums fun y hy => h y (List.mem_cons_of_mem _ hy))
theorem flat_len {α : Type} {f : α → List Nat} {w : Nat} (hf : ∀ x, (f x).length = w) : ∀ L : List α, (flatL f L).length = w * L.length
 | [] => rfl
 | x :: L => by
  rw [flatL, List.length_append, hf, flat_len hf L, List.length_cons, Nat.mul_succ]
  omega
theorem cod_len {n : Nat} (hn : n ≤ 1000) : ∀ {L : List ByteArray}, (∀ c, c ∈ L → c.size ≤ n) → (cod L).length ≤ (n + 6) * L.length
 | [], _ => Nat.zero_le _
 | c :: L, h => by
  have h1 := h c (List.mem_cons_self ..)
  have h2 := cod_len hn (L := L) (fun y hy => h y (List.mem_cons_of_mem _ hy))
  have h3 := varL_five (n := c.size) (by omega)
  rw [cod, List.length_append, List.length_append, byl_len, List.length_cons, Nat.mul_succ]
  omega
theorem setupText_size (s : Setup) : (setupTextM s).1.size ≤ 10000 := by
 unfold setupTextM
 split
 ·rename_i h
  have ht : TextOf (setupT s) s := textOf_iff.2 ⟨h, rfl⟩
  have c := counts_of ht
  have h1 := c.rg; have h2 := c.pl; have h3 := c.po; have h4 := c.ru; have h5 := c.co
  have n1 : Nums (numsOf s) := nums_app (nums_app (nums_app (nums_app (nums_app (nums_app (nums_app (nums_1 (by omega)) (flat_nums fun x hx => (text_regs ht x hx).2.1)) (nums_1 (by omega))) (flat_nums fun x hx => (text_plan ht x hx).2.1)) (nums_1 (by omega))) (flat_nums fun x hx => (text_ports ht x hx).2.1)) (nums_1 (by omega))) (flat_nums fun x hx => (text_rules ht x hx).2.1)
  have n2 := numsL_len n1
  have n3 : (numsOf s).length = 4 + 2 * s.1.length + 2 * s.2.1.length + 5 * s.2.2.1.length + 3 * s.2.2.2.1.length := by
   unfold numsOf
   simp only [List.length_append, flat_len (f := two) (w := 2) (fun _ => rfl), flat_len (f := five) (w := 5) (fun _ => rfl), flat_len (f := three) (w := 3) (fun _ => rfl), List.length_cons, List.length_nil]
   omega
  have n4 := cod_len (n := 120) (by omega) (L := s.2.2.2.2) (fun x hx => by
   obtain ⟨j, hj, rfl⟩ := List.mem_iff_getElem.1 hx
   have := ((right_of h).co.1 j hj).2
   rw [el_at (t := .str) (List.getElem?_eq_getElem hj)] at this
   exact this)
  show (setupT s).size ≤ 10000
  rw [← byl_len, byl_setup, enc, List.length_append]
  omega
 ·show 0 ≤ _
  omega
end Go.Proofs.Ythncjcfnpfajaaa.Pure
/- Drawn texts of set-ups, spoilt or not. No condition. -/
namespace Go.Proofs.Ythncjcfnpfajaaa.Pure
open Go Go.Proofs.YthncjcfnpfajaaaA Go.Proofs.YthncjcfnpfajaaaU Go.Proofs.Ythncjcfnpfajaaa.QA
set_option linter.unusedVariables false
set_option linter.unusedSimpArgs false
theorem text1_ok {k : Nat} {c : List Int × Int × Int} (hk : 1048576 < k) (h : Cur c) : Ok (spec_l01Text.f k c 1) (fun r => r.1.size ≤ 1 ∧ Cur (c.1, r.2.2)) := by
 obtain ⟨b, ci, ch⟩ := c
 unfold spec_l01Text.f
 refine ok_els (by omega) ?_
 unfold spec_l01Text.j1
 refine ok_let ?_
 refine ok_loop (L := spec_l01Text.l2 k) (I := fun d s => ∃ (j : Nat) (ci ch : Int) (L : List Int), s = (1, (j : Int), ci, ch, b, L, ()) ∧ j + d = 1 ∧ Cur (b, ci, ch) ∧ L.length = j) ?_ k 1 _ (by omega) ⟨0, _, _, [], rfl, by omega, h, rfl⟩
 rintro d n s ⟨j, ci, ch, L, rfl, hd, hc, hL⟩ ih
 rw [spec_l01Text.l2]
 refine ok_if (fun hlt => ok_bind (byte_ok hc) (fun r hr => ok_let (ok_grd (by simp only [List.length_cons, List.length_nil]; omega) (ok_let ?_)))) (fun _ => ok_some ⟨by rw [chrs_size]; omega, hc⟩)
 have h4 : w64 ((j : Int) + 1) = ((j + 1 : Nat) : Int) := w64_id (by omega) (by omega)
 rw [h4]
 exact ih (d - 1) _ (by omega) ⟨j + 1, _, _, _, rfl, by omega, hr.2.2, by rw [List.length_append, hL]; rfl⟩
theorem spoiltJ_ok {k : Nat} {b : List Int} {ci ch : Int} {z : ByteArray} {g : Bool} (hk : 1048576 < k) (h : Cur (b, ci, ch)) (hz : z.size ≤ 10000) : Ok (spec_l02Spoilt.j1 k (z, g, ci, ch, b, ())) (fun r => r.1.size ≤ 30000 ∧ Cur (b, r.2.2)) := by
 rw [spec_l02Spoilt.j1]
 refine ok_if (fun _ => ok_if (fun h0 => ?_) (fun _ => ok_some ⟨by dsimp only; omega, h⟩)) (fun _ => ok_some ⟨by dsimp only; omega, h⟩)
 refine ok_bind (below_lt h h0) (fun r hr => ?_)
 obtain ⟨r1, r2, r3⟩ := hr
 refine ok_grd r1 (ok_grd (by omega) (ok_bind (text1_ok hk r3) (fun q hq => ?_)))
 have e : w64 (r.1 + 1) = r.1 + 1 := w64_id (by omega) (by omega)
 have s1 := hq.1
 have s2 : (z.extract 0 r.1.toNat).size ≤ 10000 := by rw [ByteArray.size_extract]; omega
 have s3 : (z.extract (r.1 + 1).toNat z.size).size ≤ 10000 := by rw [ByteArray.size_extract]; omega
 rw [e]
 refine ok_grd (by omega) (ok_grd (by omega) (ok_grd (by omega) (ok_grd ?_ (ok_some ⟨?_, hq.2⟩))))
 ·rw [ByteArray.size_append]
  omega
 ·dsimp only
  rw [ByteArray.size_append, ByteArray.size_append]
  omega
theorem spoilt_ok {k : Nat} {c : List Int × Int × Int} {z : ByteArray} (hk : 1048576 < k) (h : Cur c) (hz : z.size ≤ 10000) : Ok (spec_l02Spoilt.f k c z) (fun r => r.1.size ≤ 30000 ∧ Cur (c.1, r.2.2)) := by
 obtain ⟨b, ci, ch⟩ := c
 unfold spec_l02Spoilt.f
 refine ok_bind (below_lt h (by omega)) (fun r hr => ok_if (fun _ => ?_) (fun _ => ok_if (fun _ => ?_) (fun _ => ok_if (fun _ => ?_) (fun _ => ?_))))
 ·refine ok_bind (text1_ok hk hr.2.2) (fun q hq => ?_)
  have s1 := hq.1
  refine ok_grd (by omega) (ok_some ⟨?_, hq.2⟩)
  dsimp only
  rw [ByteArray.size_append]
  omega
 ·have e : w64 ((z.size : Int) + 1) = (z.size : Int) + 1 := w64_id (by omega) (by omega)
  rw [e]
  refine ok_bind (below_lt hr.2.2 (by omega)) (fun q hq => ok_grd hq.1 (ok_grd (by have := hq.2.1; omega) (ok_some ⟨?_, hq.2.2⟩)))
  dsimp only
  rw [ByteArray.size_extract]
  omega
 ·exact spoiltJ_ok hk hr.2.2 hz
 ·exact spoiltJ_ok hk hr.2.2 hz
theorem drawReadSetup_ok {k : Nat} {xs : List Int} (hl : xs.length ≤ 1048576) (hk : 1048576 < k) : Ok (spec_DrawReadSetup.f k xs) (fun u => u.size ≤ 1048576) := by
 unfold spec_DrawReadSetup.f
 refine ok_bind (new_ok hl hk) (fun r1 h1 => ok_bind (l11Any_ok hk h1) (fun r2 h2 => ?_))
 rw [text_s h2.1 hk]
 have hz := setupText_size r2.1
 unfold spec_l01Once.f
 refine ok_let (ok_bind (P := fun r : Bool × List Int × Int × Int => Cur (xs, r.2.2)) (ok_bind (below_lt h2.2.2 (by omega)) (fun r3 h3 => ok_some h3.2.2)) (fun r4 h4 => ?_))
 refine ok_if (fun _ => ok_bind (spoilt_ok hk h4 hz) (fun r5 h5 => ok_some (by have := h5.1; omega))) (fun _ => ok_some (by omega))
theorem drawSetupText_ok {k : Nat} {xs : List Int} (hl : xs.length ≤ 1048576) (hk : 1048576 < k) : Ok (spec_DrawSetupText.f k xs) Small := by
 unfold spec_DrawSetupText.f
 exact ok_bind (new_ok hl hk) (fun r1 h1 => ok_bind (l11Any_ok hk h1) (fun r2 h2 => ok_some h2.1))
end Go.Proofs.Ythncjcfnpfajaaa.Pure
/- Twelve drawn numbers. No condition. -/
namespace Go.Proofs.Ythncjcfnpfajaaa.Pure
open Go Go.Proofs.YthncjcfnpfajaaaA Go.Proofs.YthncjcfnpfajaaaU Go.Proofs.Ythncjcfnpfajaaa.QA
set_option linter.unusedVariables false
/-- What a law over drawn bytes begins with. -/
theorem big_ok {k : Nat} {xs : List Int} {g : Bool → Option Bool} (h : xs.length ≤ 1048576 → Ok (g false) (fun r => r = true)) (h2 : Ok (g true) (fun r => r = true)) : Ok ((laws_big.f k xs).bind g) (fun r => r = true) := by
 unfold laws_big.f
 refine ok_let ?_
 by_cases hb : xs.length ≤ 1048576
 ·rw [decide_eq_false (by omega)]
  exact h hb
 ·rw [decide_eq_true (by omega)]
  exact h2
end Go.Proofs.Ythncjcfnpfajaaa.Pure
/- How both read numbers and short texts. No condition. -/
namespace Go.Proofs.Ythncjcfnpfajaaa.Pure
open Go Go.Proofs.YthncjcfnpfajaaaA Go.Proofs.YthncjcfnpfajaaaU Go.Proofs.Ythncjcfnpfajaaa.QA
set_option linter.unusedVariables false
set_option linter.unusedSimpArgs false
def varR (t : ByteArray) (p : Nat) : Int × Int × Bool := match rdVar t p with
 | none => (0, 0, false)
 | some (n, q) => ((n : Int), (q : Int), true)
theorem rdv_out {t : ByteArray} {d p i n : Nat} (h : ¬ p < t.size) : rdv t d p i n = none := by
 cases d with
 | zero => rfl
 | succ d => rw [rdv, if_neg h]
theorem varR_none {t : ByteArray} {p : Nat} (h : rdVar t p = none) : varR t p = (0, 0, false) := by
 unfold varR
 rw [h]
theorem varR_some {t : ByteArray} {p n q : Nat} (h : rdVar t p = some (n, q)) : varR t p = ((n : Int), (q : Int), true) := by
 unfold varR
 rw [h]
theorem pow5 {i : Nat} (h : i < 5) : 128 ^ i ≤ 268435456 := Nat.le_trans (Nat.pow_le_pow_right (n := 128) (by omega) (show i ≤ 4 by omega)) (by decide)
theorem addv {t : ByteArray} {q i n : Nat} (h : i < 5) (hn : n < 128 ^ i) : w64 ((n : Int) + w64 (Int.tmod (w64 (bt t (q : Int))) 128 * ((128 ^ i : Nat) : Int))) = ((n + btn t q % 128 * 128 ^ i : Nat) : Int) ∧ n + btn t q % 128 * 128 ^ i < 128 ^ (i + 1) := by
 have h1 := btn_lt t q
 have h2 := pow5 h
 have h3 : btn t q % 128 * 128 ^ i ≤ 127 * 128 ^ i := Nat.mul_le_mul_right _ (by omega)
 have h4 : 128 ^ (i + 1) = 128 * 128 ^ i := by rw [Nat.pow_succ, Nat.mul_comm]
 have h5 : Int.tmod (w64 (bt t (q : Int))) 128 = ((btn t q % 128 : Nat) : Int) := by
  rw [bt_btn, w64_id (by omega) (by omega), Int.tmod_eq_emod_of_nonneg (by omega)]
  omega
 rw [h4, h5, ← Int.natCast_mul]
 generalize btn t q % 128 * 128 ^ i = X at *
 generalize 128 ^ i = Y at *
 have hx : w64 ((X : Nat) : Int) = (X : Int) := w64_id (by omega) (by omega)
 have hy : w64 ((n : Int) + (X : Int)) = (n : Int) + (X : Int) := w64_id (by omega) (by omega)
 rw [hx, hy]
 exact ⟨(Int.natCast_add n X).symm, by omega⟩
theorem pow7 {i : Nat} (h : i < 5) : (2 ^ (min (w64 (7 * (i : Int))).toNat 64) : Nat) = 128 ^ i := by
 rw [w64_id (by omega) (by omega), show (min (7 * (i : Int)).toNat 64) = 7 * i by omega, Nat.pow_mul]
theorem rv_i {k : Nat} {t : ByteArray} {p : Nat} (ht : t.size ≤ 1048576) (hp : p ≤ t.size) : ∀ (d i n c : Nat), i + d = 5 → n < 128 ^ i → rdv t d (p + i) i n = rdVar t p → d < c → impl_ReadVar.l1 k c (t, (p : Int), (n : Int), (i : Int), ()) = some (varR t p)
 | d, i, n, 0, _, _, _, h => absurd h (by omega)
 | 0, i, n, c + 1, h5, hn, hr, hc => by
  rw [impl_ReadVar.l1, if_neg (by omega), varR_none hr.symm]
 | d + 1, i, n, c + 1, h5, hn, hr, hc => by
  have hi : i < 5 := by omega
  have e1 : w64 ((p : Int) + (i : Int)) = ((p + i : Nat) : Int) := w64_id (by omega) (by omega)
  have e2 : w64 (bt t ((p + i : Nat) : Int)) = (btn t (p + i) : Int) := by
   have := btn_lt t (p + i)
   rw [bt_btn, w64_id (by omega) (by omega)]
  obtain ⟨e3, e4⟩ := addv (t := t) (q := p + i) hi hn
  have e5 : (0 : Int) ≤ w64 (7 * (i : Int)) := by rw [w64_id (by omega) (by omega)]; omega
  have e6 : w64 ((i : Int) + 1) = ((i + 1 : Nat) : Int) := w64_id (by omega) (by omega)
  have e7 : w64 (((p + i : Nat) : Int) + 1) = ((p + i + 1 : Nat) : Int) := w64_id (by omega) (by omega)
  rw [e2] at e3
  rw [impl_ReadVar.l1, if_pos (by omega)]
  simp only [e1, e2, pow7 hi, e3, e6, e7]
  by_cases hs : p + i < t.size
  ·rw [if_pos (by omega), if_pos (by omega), if_pos (by omega), if_pos e5]
   rw [rdv, if_pos hs] at hr
   by_cases hb : 127 < btn t (p + i)
   ·rw [if_pos hb] at hr
    rw [if_pos (by omega)]
    exact rv_i ht hp d (i + 1) _ c (by omega) e4 hr (by omega)
   ·rw [if_neg hb] at hr
    rw [if_neg (by omega)]
    generalize n + btn t (p + i) % 128 * 128 ^ i = v at hr ⊢
    by_cases hi0 : 0 < i
    ·rw [if_pos (by omega)]
     by_cases hb0 : btn t (p + i) = 0
     ·rw [if_pos (.inl ⟨hi0, hb0⟩)] at hr
      rw [if_pos (by omega), varR_none hr.symm]
     ·rw [if_neg (by omega)]
      by_cases hv : 1000000000 < v
      ·rw [if_pos (.inr hv)] at hr
       rw [if_pos (by omega), varR_none hr.symm]
      ·rw [if_neg (by rintro (⟨_, h⟩ | h); exact hb0 h; exact hv h)] at hr
       rw [if_neg (by omega), varR_some hr.symm]
    ·rw [if_neg (by omega)]
     by_cases hv : 1000000000 < v
     ·rw [if_pos (.inr hv)] at hr
      rw [if_pos (by omega), varR_none hr.symm]
     ·rw [if_neg (by rintro (⟨h, _⟩ | h); exact hi0 h; exact hv h)] at hr
      rw [if_neg (by omega), varR_some hr.symm]
  ·rw [rdv_out hs] at hr
   rw [if_neg (by omega), varR_none hr.symm]
theorem readVar_i {k : Nat} {t : ByteArray} (hk : 1048576 < k) (ht : t.size ≤ 1048576) (p : Nat) : impl_ReadVar.f k t (p : Int) = some (varR t p) := by
 unfold impl_ReadVar.f
 rw [in_i]
 by_cases hp : p ≤ t.size
 ·rw [decide_eq_true (by omega)]
  simp only [Option.bind_some, not_true_eq_false, ↓reduceIte]
  exact rv_i ht hp 5 0 0 k (by omega) (by decide) rfl (by omega)
 ·rw [decide_eq_false (by omega), varR_none (rdv_out (by omega))]
  rfl
theorem ext_iff {t : ByteArray} {p n m : Nat} (h : p + m ≤ t.size) : chrs (varL n) = t.extract p (p + m) ↔ Bytes t p (varL n) ∧ (varL n).length = m := by
 obtain ⟨b1, b2⟩ := byl_sub (t := t) (q := p) (n := m) h
 constructor
 ·intro he
  have := byl_chrs (varL_in n)
  rw [he] at this
  rw [← this]
  exact ⟨b1, b2⟩
 ·rintro ⟨h1, h2⟩
  rw [bytes_uniq h1 b1 (by rw [h2, b2]), chrs_byl]
theorem rv_s {k : Nat} {t : ByteArray} {p : Nat} (hk : 1048576 < k) (ht : t.size ≤ 1048576) (hp : p ≤ t.size) : ∀ (d i n c : Nat), i + d = 5 → n < 128 ^ i → rdv t d (p + i) i n = rdVar t p → d < c → spec_ReadVar.l1 k c (t, (p : Int), (n : Int), ((128 ^ i : Nat) : Int), ((p + i : Nat) : Int), ()) = some (varR t p)
 | d, i, n, 0, _, _, _, h => absurd h (by omega)
 | 0, i, n, c + 1, h5, hn, hr, hc => by
  have e0 : w64 ((p : Int) + 5) = ((p + 5 : Nat) : Int) := w64_id (by omega) (by omega)
  rw [spec_ReadVar.l1, e0, varR_none hr.symm]
  by_cases hs : p + i < t.size
  ·rw [if_pos (by omega), if_neg (by omega)]
  ·rw [if_neg (by omega)]
 | d + 1, i, n, c + 1, h5, hn, hr, hc => by
  have hi : i < 5 := by omega
  have e0 : w64 ((p : Int) + 5) = ((p + 5 : Nat) : Int) := w64_id (by omega) (by omega)
  obtain ⟨e3, e4⟩ := addv (t := t) (q := p + i) hi hn
  have e7 : w64 (((p + i : Nat) : Int) + 1) = ((p + i + 1 : Nat) : Int) := w64_id (by omega) (by omega)
  have e8 : w64 (((128 ^ i : Nat) : Int) * 128) = ((128 ^ (i + 1) : Nat) : Int) := by
   have := pow5 hi
   rw [Nat.pow_succ]
   generalize 128 ^ i = Y at *
   rw [w64_id (by omega) (by omega)]
   omega
  have eb := bt_btn t (p + i)
  rw [spec_ReadVar.l1]
  simp only [e0, e3, e7, e8]
  by_cases hs : p + i < t.size
  ·rw [if_pos (by omega), if_pos (by omega), if_pos (by omega), if_pos (by omega), if_pos (by omega), if_pos (by omega)]
   have hr' := hr
   rw [rdv, if_pos hs] at hr'
   by_cases hb : 127 < btn t (p + i)
   ·rw [if_pos hb] at hr'
    rw [if_neg (by omega)]
    exact rv_s hk ht hp d (i + 1) _ c (by omega) e4 hr' (by omega)
   ·rw [if_neg hb] at hr'
    rw [if_pos (by omega)]
    generalize n + btn t (p + i) % 128 * 128 ^ i = v at hr' ⊢
    by_cases hv : 1000000000 < v
    ·rw [if_pos (.inr hv)] at hr'
     rw [if_pos (by omega), varR_none hr'.symm]
    ·rw [if_neg (by omega), var_s hk (by omega)]
     simp only [Option.bind_some, Int.toNat_natCast]
     rw [if_pos (by omega), if_pos (by omega), if_pos (by omega), show p + i + 1 = p + (i + 1) from rfl]
     have hx := ext_iff (t := t) (p := p) (n := v) (m := i + 1) (by omega)
     by_cases he : chrs (varL v) = t.extract p (p + (i + 1))
     ·rw [if_neg (fun h => h he)]
      obtain ⟨h1, h2⟩ := hx.1 he
      rw [varR_some (rdVar_iff.2 ⟨show v ≤ 1000000000 by omega, h1, rfl⟩), h2]
     ·rw [if_pos he]
      have hn : rdVar t p = none := by
       cases hc : rdVar t p with
       | none => rfl
       | some x =>
        obtain ⟨v', q⟩ := x
        rw [hc] at hr'
        split at hr'
        ·cases hr'
        ·injection hr' with hr'
         injection hr' with h1 h2
         obtain ⟨g1, g2, g3⟩ := rdVar_iff.1 hc
         rw [← h1] at g2 g3
         exact absurd (hx.2 ⟨g2, by omega⟩) he
      rw [varR_none hn]
  ·rw [rdv_out hs] at hr
   rw [if_neg (by omega), varR_none hr.symm]
theorem readVar_s {k : Nat} {t : ByteArray} (hk : 1048576 < k) (ht : t.size ≤ 1048576) (p : Nat) : spec_ReadVar.f k t (p : Int) = some (varR t p) := by
 unfold spec_ReadVar.f
 rw [in_s]
 by_cases hp : p ≤ t.size
 ·rw [decide_eq_true (by omega)]
  simp only [Option.bind_some, not_true_eq_false, ↓reduceIte]
  exact rv_s hk ht hp 5 0 0 k (by omega) (by decide) rfl (by omega)
 ·rw [decide_eq_false (by omega), varR_none (rdv_out (by omega))]
  rfl
/-! ### readers -/
theorem number_i {k : Nat} {t : ByteArray} (hk : 1048576 < k) (ht : t.size ≤ 1048576) (s : Rst) : impl_reader_number.f k (t, (s.1 : Int), s.2) = some (((stepR t s).1 : Int), t, ((stepR t s).2.1 : Int), (stepR t s).2.2) := by
 obtain ⟨p, b⟩ := s
 unfold impl_reader_number.f
 simp only
 rw [readVar_i hk ht p]
 unfold stepR varR
 cases b with
 | true => rfl
 | false =>
  cases h : rdVar t p with
  | none => simp
  | some x => obtain ⟨n, q⟩ := x; simp
theorem number_s {k : Nat} {t : ByteArray} (hk : 1048576 < k) (ht : t.size ≤ 1048576) (s : Rst) : spec_l11Var.f k (t, (s.1 : Int), s.2) = some (((stepR t s).1 : Int), t, ((stepR t s).2.1 : Int), (stepR t s).2.2) := by
 obtain ⟨p, b⟩ := s
 unfold spec_l11Var.f
 simp only
 rw [readVar_s hk ht p]
 unfold stepR varR
 cases b with
 | true => rfl
 | false =>
  cases h : rdVar t p with
  | none => simp
  | some x => obtain ⟨n, q⟩ := x; simp
theorem count_i {k : Nat} {t : ByteArray} (hk : 1048576 < k) (ht : t.size ≤ 1048576) (s : Rst) (m : Nat) : impl_reader_count.f k (t, (s.1 : Int), s.2) (m : Int) = some (((countR t m s).1 : Int), t, ((countR t m s).2.1 : Int), (countR t m s).2.2) := by
 unfold impl_reader_count.f
 rw [number_i hk ht s]
 simp only [Option.bind_some]
 unfold countR
 by_cases h : (stepR t s).1 > m
 ·rw [if_pos (by omega), if_pos h]
  rfl
 ·rw [if_neg (by omega), if_neg h]
def shR (t : ByteArray) (p : Nat) : ByteArray × Int × Bool := match rdVar t p with
 | none => (⟨#[]⟩, 0, false)
 | some (n, q) => if n > 20000 ∨ n > t.size - q then (⟨#[]⟩, 0, false) else (t.extract q (q + n), ((q + n : Nat) : Int), true)
theorem rdVar_le {t : ByteArray} {p n q : Nat} (h : rdVar t p = some (n, q)) : n ≤ 1000000000 ∧ q ≤ t.size := by
 obtain ⟨h1, h2, h3⟩ := rdVar_iff.1 h
 have := bytes_le h2
 exact ⟨h1, by omega⟩
theorem readShort_i {k : Nat} {t : ByteArray} (hk : 1048576 < k) (ht : t.size ≤ 1048576) (p : Nat) : impl_ReadShort.f k t (p : Int) = some (shR t p) := by
 unfold impl_ReadShort.f
 rw [readVar_i hk ht p]
 unfold varR shR
 cases h : rdVar t p with
 | none => rfl
 | some x =>
  obtain ⟨n, q⟩ := x
  obtain ⟨h1, h2⟩ := rdVar_le h
  have e1 : w64 ((t.size : Int) - (q : Int)) = ((t.size - q : Nat) : Int) := by rw [w64_id (by omega) (by omega)]; omega
  simp only [Option.bind_some, not_true_eq_false, ↓reduceIte, e1]
  by_cases ha : n > 20000
  ·rw [if_pos (by omega), if_pos (.inl ha)]
  ·rw [if_neg (by omega)]
   by_cases hb : n > t.size - q
   ·rw [if_pos (by omega), if_pos (.inr hb)]
   ·have e2 : w64 ((q : Int) + (n : Int)) = ((q + n : Nat) : Int) := w64_id (by omega) (by omega)
    simp only [e2, Int.toNat_natCast]
    rw [if_neg (by omega), if_pos (by omega), if_pos (by omega), if_pos (by omega), if_neg (by rintro (h | h); exact ha h; exact hb h)]
theorem readShort_s {k : Nat} {t : ByteArray} (hk : 1048576 < k) (ht : t.size ≤ 1048576) (p : Nat) : spec_ReadShort.f k t (p : Int) = some (shR t p) := by
 unfold spec_ReadShort.f
 rw [readVar_s hk ht p]
 unfold varR shR
 cases h : rdVar t p with
 | none => rfl
 | some x =>
  obtain ⟨n, q⟩ := x
  obtain ⟨h1, h2⟩ := rdVar_le h
  have e1 : w64 ((t.size : Int) - (q : Int)) = ((t.size - q : Nat) : Int) := by rw [w64_id (by omega) (by omega)]; omega
  simp only [Option.bind_some, not_true_eq_false, ↓reduceIte, e1]
  by_cases ha : n > 20000
  ·rw [if_pos (by omega), if_pos (.inl ha)]
  ·rw [if_neg (by omega)]
   by_cases hb : n > t.size - q
   ·rw [if_pos (by omega), if_pos (.inr hb)]
   ·have e2 : w64 ((q : Int) + (n : Int)) = ((q + n : Nat) : Int) := w64_id (by omega) (by omega)
    simp only [e2, Int.toNat_natCast]
    rw [if_neg (by omega), if_pos (by omega), if_pos (by omega), if_pos (by omega), if_neg (by rintro (h | h); exact ha h; exact hb h)]
theorem short_r {k : Nat} {t : ByteArray} (hk : 1048576 < k) (ht : t.size ≤ 1048576) (s : Rst) : impl_reader_short.f k (t, (s.1 : Int), s.2) = some ((shortR t s).1, t, ((shortR t s).2.1 : Int), (shortR t s).2.2) := by
 obtain ⟨p, b⟩ := s
 unfold impl_reader_short.f
 simp only
 rw [readShort_i hk ht p]
 unfold shortR shR
 cases b with
 | true => rfl
 | false =>
  cases h : rdVar t p with
  | none => simp
  | some x =>
   obtain ⟨n, q⟩ := x
   by_cases hc : n > 20000 ∨ n > t.size - q
   ·simp [hc]
   ·simp [hc]
theorem short_s {k : Nat} {t : ByteArray} (hk : 1048576 < k) (ht : t.size ≤ 1048576) (s : Rst) : spec_l11Short.f k (t, (s.1 : Int), s.2) = some ((shortR t s).1, t, ((shortR t s).2.1 : Int), (shortR t s).2.2) := by
 obtain ⟨p, b⟩ := s
 unfold spec_l11Short.f
 simp only
 rw [readShort_s hk ht p]
 unfold shortR shR
 cases b with
 | true => rfl
 | false =>
  cases h : rdVar t p with
  | none => simp
  | some x =>
   obtain ⟨n, q⟩ := x
   by_cases hc : n > 20000 ∨ n > t.size - q
   ·simp [hc]
   ·simp [hc]
end Go.Proofs.Ythncjcfnpfajaaa.Pure
/- Loops that read records and codes. No condition. -/
namespace Go.Proofs.Ythncjcfnpfajaaa.Pure
open Go Go.Proofs.YthncjcfnpfajaaaA Go.Proofs.YthncjcfnpfajaaaU Go.Proofs.Ythncjcfnpfajaaa.QA
set_option linter.unusedVariables false
set_option linter.unusedSimpArgs false
/-- A loop over records: while cond holds, one record more. -/
theorem rows_loop {α R : Type} {t : ByteArray} {P : List Int} {f : α → List Nat} {g : Setup → List α} {tail : Setup → List Int} {m : Nat} {mk : List Nat → α} {Q : R → Prop} {L : Nat → Nat → Rst → List α → Option R} {N M : Nat} (cond : Nat → Rst → Prop)
  (hm : ∀ ns, ns.length = m → f (mk ns) = ns) (hg : ∀ s0, TextOf t s0 → ∀ x, x ∈ g s0 → (f x).length = m ∧ Nums (f x) ∧ mk (f x) = x)
  (hN : ∀ s0, TextOf t s0 → (g s0).length = N) (hc : ∀ s0, TextOf t s0 → ∀ j (s : Rst), s.2 = false → ¬ cond j s → N ≤ j) (hM : ∀ j s, cond j s → j < N ∧ j < M)
  (step : ∀ c j s acc, cond j s → acc.length = j → L (c + 1) j s acc = L c (j + 1) (stepsR t m s).2 (acc ++ [mk (stepsR t m s).1]))
  (last : ∀ c j s acc, ¬ cond j s → acc.length = j → j ≤ M → At t s (P ++ numsL (flatL f acc)) tail → (∀ s0, TextOf t s0 → acc = g s0) → Ok (L (c + 1) j s acc) Q) :
  ∀ (d j c : Nat) (s : Rst) (acc : List α), j + d = M → d < c → acc.length = j → RRows t s P f g acc tail → Ok (L c j s acc) Q
 | d, j, 0, s, acc, _, h, _, _ => absurd h (by omega)
 | d, j, c + 1, s, acc, hd, hdc, hj, h => by
  by_cases hcd : cond j s
  ·obtain ⟨b1, b2⟩ := hM j s hcd
   obtain ⟨d, rfl⟩ : ∃ d', d = d' + 1 := ⟨d - 1, by omega⟩
   rw [step c j s acc hcd hj]
   obtain ⟨a1, a2, a3⟩ := rows_step mk hm hg h (fun s0 h0 => by rw [hN s0 h0, hj]; exact b1)
   exact rows_loop cond hm hg hN hc hM step last d (j + 1) c _ _ (by omega) (by omega) (by rw [List.length_append, hj]; rfl) a1
  ·obtain ⟨e1, e2⟩ := rows_end h (fun s0 h0 => by
    have h1 := hc s0 h0 j s (h.here.cmp s0 h0).1 hcd
    have h2 := h.pre s0 h0
    have h3 : acc.length ≤ (g s0).length := by rw [h2, List.length_take]; omega
    rw [hN s0 h0] at h3 ⊢
    omega)
   exact last c j s acc hcd hj (by omega) e1 e2
theorem text_codes {t : ByteArray} {s0 : Setup} (h : TextOf t s0) (c : ByteArray) (hc : c ∈ s0.2.2.2.2) : c.size ≤ 20000 := by
 obtain ⟨j, hj, rfl⟩ := List.mem_iff_getElem.1 hc
 have := ((right_of h.1).co.1 j hj).2
 rw [el_at (t := .str) (List.getElem?_eq_getElem hj)] at this
 omega
/-- A loop over codes. -/
theorem cods_loop {R : Type} {t : ByteArray} {P : List Int} {Q : R → Prop} {L : Nat → Nat → Rst → List ByteArray → Option R} {N : Nat} (cond : Nat → Rst → Prop)
  (hN : ∀ s0, TextOf t s0 → s0.2.2.2.2.length = N) (hc : ∀ s0, TextOf t s0 → ∀ j (s : Rst), s.2 = false → ¬ cond j s → N ≤ j) (hM : ∀ j s, cond j s → j < N)
  (step : ∀ c j s acc, cond j s → acc.length = j → L (c + 1) j s acc = L c (j + 1) (shortR t s).2 (acc ++ [(shortR t s).1]))
  (last : ∀ c j s acc, ¬ cond j s → acc.length = j → j ≤ N → At t s (P ++ cod acc) (fun _ => []) → (∀ s0, TextOf t s0 → acc = s0.2.2.2.2) → Ok (L (c + 1) j s acc) Q) :
  ∀ (d j c : Nat) (s : Rst) (acc : List ByteArray), j + d = N → d < c → acc.length = j → Cods t s P acc → Ok (L c j s acc) Q
 | d, j, 0, s, acc, _, h, _, _ => absurd h (by omega)
 | d, j, c + 1, s, acc, hd, hdc, hj, h => by
  by_cases hcd : cond j s
  ·have b1 := hM j s hcd
   obtain ⟨d, rfl⟩ : ∃ d', d = d' + 1 := ⟨d - 1, by omega⟩
   rw [step c j s acc hcd hj]
   obtain ⟨a1, a2⟩ := cods_step h (fun s0 h0 => ⟨by rw [hN s0 h0, hj]; exact b1, text_codes h0⟩)
   exact cods_loop cond hN hc hM step last d (j + 1) c _ _ (by omega) (by omega) (by rw [List.length_append, hj]; rfl) a1
  ·obtain ⟨e1, e2⟩ := cods_end h (fun s0 h0 => by
    have h1 := hc s0 h0 j s (h.here.cmp s0 h0).1 hcd
    have h2 := h.pre s0 h0
    have h3 : acc.length ≤ s0.2.2.2.2.length := by rw [h2, List.length_take]; omega
    rw [hN s0 h0] at h3 ⊢
    omega)
   exact last c j s acc hcd hj (by omega) e1 e2
end Go.Proofs.Ythncjcfnpfajaaa.Pure
/- The program reads a set-up. No condition. -/
namespace Go.Proofs.Ythncjcfnpfajaaa.Pure
open Go Go.Proofs.YthncjcfnpfajaaaA Go.Proofs.YthncjcfnpfajaaaU Go.Proofs.Ythncjcfnpfajaaa.QA
set_option linter.unusedVariables false
set_option linter.unusedSimpArgs false

/-- What the program's reader has at its end. -/
def Fin (t : ByteArray) (r : Setup × ByteArray × Int × Bool) : Prop := ∃ (s' : Rst) (S : Setup), r = (S, t, (s'.1 : Int), s'.2) ∧ Ended t s' S ∧ Small S
theorem imp5 {k : Nat} {t : ByteArray} (hk : 1048576 < k) (ht : t.size ≤ 1048576) {R W : List (Int × Int)} {Po : List Port5} {U : List (Int × Int × Int)} {y1 y2 : List (Int × Int)} {y3 : List Port5} {y4 : List (Int × Int × Int)} {y5 : List ByteArray} {s : Rst} (h : At t s (numsL (numsOf (R, W, Po, U, []))) rest4)
  (hu : ∀ s0, TextOf t s0 → R = s0.1 ∧ W = s0.2.1 ∧ Po = s0.2.2.1 ∧ U = s0.2.2.2.1) (h1 : R.length ≤ 4) (h2 : W.length ≤ 12) (h3 : Po.length ≤ 6) (h4 : U.length ≤ 8) :
  Ok (impl_reader_setup.l5 k k ((R.length : Int), 0, t, (s.1 : Int), s.2, y1, y2, y3, y4, y5, R, W, Po, U, [], ())) (Fin t) := by
 refine cods_loop (N := R.length) (L := fun c j s acc => impl_reader_setup.l5 k c ((R.length : Int), (j : Int), t, (s.1 : Int), s.2, y1, y2, y3, y4, y5, R, W, Po, U, acc, ())) (fun j s => j < R.length) (fun s0 h0 => ?_) (fun _ _ j s _ hn => by omega) (fun j s h => h) (fun c j s acc hcd hj => ?_) (fun c j s acc hn hj hjM ha he => ?_) R.length 0 k s [] (by omega) (by omega) rfl (cods_start h)
 ·rw [(counts_of h0).co, (hu s0 h0).1]
 ·have e : w64 ((j : Int) + 1) = ((j + 1 : Nat) : Int) := w64_id (by omega) (by omega)
  rw [impl_reader_setup.l5, if_pos (by omega), short_r hk ht s]
  simp only [Option.bind_some, e, List.length_cons, List.length_nil]
  rw [if_pos (by omega)]
 ·rw [impl_reader_setup.l5, if_neg (by omega)]
  refine ok_some ⟨s, (R, W, Po, U, acc), rfl, ended_of ha rfl (fun s0 h0 => ?_), ⟨by dsimp only; omega, by dsimp only; omega, by dsimp only; omega, by dsimp only; omega, by dsimp only; omega⟩⟩
  obtain ⟨u1, u2, u3, u4⟩ := hu s0 h0
  exact Prod.ext u1 (Prod.ext u2 (Prod.ext u3 (Prod.ext u4 (he s0 h0))))
theorem imp4 {k : Nat} {t : ByteArray} (hk : 1048576 < k) (ht : t.size ≤ 1048576) {R : List (Int × Int)} {W : List (Int × Int)} {Po : List Port5} {y1 y2 : List (Int × Int)} {y3 : List Port5} {y4 : List (Int × Int × Int)} {y5 : List ByteArray} {s : Rst} {N : Nat} (h : At t s (numsL ([R.length] ++ flatL two R ++ [W.length] ++ flatL two W ++ [Po.length] ++ flatL five Po ++ [N])) (fun s0 => numsL (flatL three s0.2.2.2.1) ++ rest4 s0))
  (hN : ∀ s0, TextOf t s0 → (s0.2.2.2.1).length = N) (hu : ∀ s0, TextOf t s0 → R = s0.1 ∧ W = s0.2.1 ∧ Po = s0.2.2.1) (h1 : R.length ≤ 4) (h2 : W.length ≤ 12) (h3 : Po.length ≤ 6) (hn : N ≤ 8) :
  Ok (impl_reader_setup.l4 k k ((R.length : Int), (N : Int), 0, t, (s.1 : Int), s.2, y1, y2, y3, y4, y5, R, W, Po, [], [], ())) (Fin t) := by
 refine rows_loop (f := three) (g := fun s0 => s0.2.2.2.1) (tail := rest4) (m := 3) (mk := mk3) (N := N) (M := N) (L := fun c j s acc => impl_reader_setup.l4 k c ((R.length : Int), (N : Int), (j : Int), t, (s.1 : Int), s.2, y1, y2, y3, y4, y5, R, W, Po, acc, [], ())) (fun j s => j < N) (fun _ => three_mk) (fun s0 h0 => text_rules h0) hN (fun _ _ j s _ hn => by omega) (fun j s h => ⟨h, h⟩) (fun c j s acc hcd hj => ?_) (fun c j s acc hcd hj hjM ha he => ?_) N 0 k s [] (by omega) (by omega) rfl (rows_start h)
 ·have e : w64 ((j : Int) + 1) = ((j + 1 : Nat) : Int) := w64_id (by omega) (by omega)
  rw [impl_reader_setup.l4, if_pos (by omega)]
  rw [number_i hk ht s]
  simp only [Option.bind_some]
  rw [number_i hk ht (stepR t s).2]
  simp only [Option.bind_some]
  rw [number_i hk ht (stepR t (stepR t s).2).2]
  simp only [Option.bind_some]
  simp only [e, List.length_cons, List.length_nil]
  rw [if_pos (by omega)]
  rfl
 ·have hl : N = acc.length := by omega
  subst hl
  rw [← numsL_app] at ha
  rw [impl_reader_setup.l4, if_neg (by omega)]
  exact imp5 hk ht ha (fun s0 h0 => ⟨(hu s0 h0).1, (hu s0 h0).2.1, (hu s0 h0).2.2, he s0 h0⟩) h1 h2 h3 hn
theorem imp3 {k : Nat} {t : ByteArray} (hk : 1048576 < k) (ht : t.size ≤ 1048576) {R : List (Int × Int)} {W : List (Int × Int)} {y1 y2 : List (Int × Int)} {y3 : List Port5} {y4 : List (Int × Int × Int)} {y5 : List ByteArray} {s : Rst} {N : Nat} (h : At t s (numsL ([R.length] ++ flatL two R ++ [W.length] ++ flatL two W ++ [N])) (fun s0 => numsL (flatL five s0.2.2.1) ++ rest3 s0))
  (hN : ∀ s0, TextOf t s0 → (s0.2.2.1).length = N) (hu : ∀ s0, TextOf t s0 → R = s0.1 ∧ W = s0.2.1) (h1 : R.length ≤ 4) (h2 : W.length ≤ 12) (hn : N ≤ 6) :
  Ok (impl_reader_setup.l3 k k ((R.length : Int), (N : Int), 0, t, (s.1 : Int), s.2, y1, y2, y3, y4, y5, R, W, [], [], [], ())) (Fin t) := by
 refine rows_loop (f := five) (g := fun s0 => s0.2.2.1) (tail := rest3) (m := 5) (mk := mk5) (N := N) (M := N) (L := fun c j s acc => impl_reader_setup.l3 k c ((R.length : Int), (N : Int), (j : Int), t, (s.1 : Int), s.2, y1, y2, y3, y4, y5, R, W, acc, [], [], ())) (fun j s => j < N) (fun _ => five_mk) (fun s0 h0 => text_ports h0) hN (fun _ _ j s _ hn => by omega) (fun j s h => ⟨h, h⟩) (fun c j s acc hcd hj => ?_) (fun c j s acc hcd hj hjM ha he => ?_) N 0 k s [] (by omega) (by omega) rfl (rows_start h)
 ·have e : w64 ((j : Int) + 1) = ((j + 1 : Nat) : Int) := w64_id (by omega) (by omega)
  rw [impl_reader_setup.l3, if_pos (by omega)]
  rw [number_i hk ht s]
  simp only [Option.bind_some]
  rw [number_i hk ht (stepR t s).2]
  simp only [Option.bind_some]
  rw [number_i hk ht (stepR t (stepR t s).2).2]
  simp only [Option.bind_some]
  rw [number_i hk ht (stepR t (stepR t (stepR t s).2).2).2]
  simp only [Option.bind_some]
  rw [number_i hk ht (stepR t (stepR t (stepR t (stepR t s).2).2).2).2]
  simp only [Option.bind_some]
  simp only [e, List.length_cons, List.length_nil]
  rw [if_pos (by omega)]
  rfl
 ·have hl : N = acc.length := by omega
  subst hl
  rw [← numsL_app] at ha
  rw [impl_reader_setup.l3, if_neg (by omega)]
  have hcnt : impl_reader_count.f k (t, (s.1 : Int), s.2) 8 = some (((countR t 8 s).1 : Int), t, ((countR t 8 s).2.1 : Int), (countR t 8 s).2.2) := count_i hk ht s 8
  rw [hcnt]
  simp only [Option.bind_some]
  obtain ⟨c1, c2, c3, c4⟩ := at_count (m := 8) (rest' := fun s0 => numsL (flatL three s0.2.2.2.1) ++ rest4 s0) ha (fun s0 => (s0.2.2.2.1).length) (fun s0 h0 => ⟨rfl, by have := (counts_of h0).ru; omega, (counts_of h0).ru⟩)
  rw [← numsL_1, ← numsL_app] at c1
  exact imp4 hk ht c1 (fun s0 h0 => (c4 s0 h0).symm) (fun s0 h0 => ⟨(hu s0 h0).1, (hu s0 h0).2, he s0 h0⟩) h1 h2 hn c2
theorem imp2 {k : Nat} {t : ByteArray} (hk : 1048576 < k) (ht : t.size ≤ 1048576) {R : List (Int × Int)} {y1 y2 : List (Int × Int)} {y3 : List Port5} {y4 : List (Int × Int × Int)} {y5 : List ByteArray} {s : Rst} {N : Nat} (h : At t s (numsL ([R.length] ++ flatL two R ++ [N])) (fun s0 => numsL (flatL two s0.2.1) ++ rest2 s0))
  (hN : ∀ s0, TextOf t s0 → (s0.2.1).length = N) (hu : ∀ s0, TextOf t s0 → R = s0.1) (h1 : R.length ≤ 4) (hn : N ≤ 12) :
  Ok (impl_reader_setup.l2 k k ((R.length : Int), (N : Int), 0, t, (s.1 : Int), s.2, y1, y2, y3, y4, y5, R, [], [], [], [], ())) (Fin t) := by
 refine rows_loop (f := two) (g := fun s0 => s0.2.1) (tail := rest2) (m := 2) (mk := mk2) (N := N) (M := N) (L := fun c j s acc => impl_reader_setup.l2 k c ((R.length : Int), (N : Int), (j : Int), t, (s.1 : Int), s.2, y1, y2, y3, y4, y5, R, acc, [], [], [], ())) (fun j s => j < N) (fun _ => two_mk) (fun s0 h0 => text_plan h0) hN (fun _ _ j s _ hn => by omega) (fun j s h => ⟨h, h⟩) (fun c j s acc hcd hj => ?_) (fun c j s acc hcd hj hjM ha he => ?_) N 0 k s [] (by omega) (by omega) rfl (rows_start h)
 ·have e : w64 ((j : Int) + 1) = ((j + 1 : Nat) : Int) := w64_id (by omega) (by omega)
  rw [impl_reader_setup.l2, if_pos (by omega)]
  rw [number_i hk ht s]
  simp only [Option.bind_some]
  rw [number_i hk ht (stepR t s).2]
  simp only [Option.bind_some]
  simp only [e, List.length_cons, List.length_nil]
  rw [if_pos (by omega)]
  rfl
 ·have hl : N = acc.length := by omega
  subst hl
  rw [← numsL_app] at ha
  rw [impl_reader_setup.l2, if_neg (by omega)]
  have hcnt : impl_reader_count.f k (t, (s.1 : Int), s.2) 6 = some (((countR t 6 s).1 : Int), t, ((countR t 6 s).2.1 : Int), (countR t 6 s).2.2) := count_i hk ht s 6
  rw [hcnt]
  simp only [Option.bind_some]
  obtain ⟨c1, c2, c3, c4⟩ := at_count (m := 6) (rest' := fun s0 => numsL (flatL five s0.2.2.1) ++ rest3 s0) ha (fun s0 => (s0.2.2.1).length) (fun s0 h0 => ⟨rfl, by have := (counts_of h0).po; omega, (counts_of h0).po⟩)
  rw [← numsL_1, ← numsL_app] at c1
  exact imp3 hk ht c1 (fun s0 h0 => (c4 s0 h0).symm) (fun s0 h0 => ⟨(hu s0 h0), he s0 h0⟩) h1 hn c2
theorem imp1 {k : Nat} {t : ByteArray} (hk : 1048576 < k) (ht : t.size ≤ 1048576)  {y1 y2 : List (Int × Int)} {y3 : List Port5} {y4 : List (Int × Int × Int)} {y5 : List ByteArray} {s : Rst} {N : Nat} (h : At t s (numsL (([] : List Nat) ++ [N])) (fun s0 => numsL (flatL two s0.1) ++ rest1 s0))
  (hN : ∀ s0, TextOf t s0 → (s0.1).length = N)   (hn : N ≤ 4) :
  Ok (impl_reader_setup.l1 k k ((N : Int), (N : Int), 0, t, (s.1 : Int), s.2, y1, y2, y3, y4, y5, [], [], [], [], [], ())) (Fin t) := by
 refine rows_loop (f := two) (g := fun s0 => s0.1) (tail := rest1) (m := 2) (mk := mk2) (N := N) (M := N) (L := fun c j s acc => impl_reader_setup.l1 k c ((N : Int), (N : Int), (j : Int), t, (s.1 : Int), s.2, y1, y2, y3, y4, y5, acc, [], [], [], [], ())) (fun j s => j < N) (fun _ => two_mk) (fun s0 h0 => text_regs h0) hN (fun _ _ j s _ hn => by omega) (fun j s h => ⟨h, h⟩) (fun c j s acc hcd hj => ?_) (fun c j s acc hcd hj hjM ha he => ?_) N 0 k s [] (by omega) (by omega) rfl (rows_start h)
 ·have e : w64 ((j : Int) + 1) = ((j + 1 : Nat) : Int) := w64_id (by omega) (by omega)
  rw [impl_reader_setup.l1, if_pos (by omega)]
  rw [number_i hk ht s]
  simp only [Option.bind_some]
  rw [number_i hk ht (stepR t s).2]
  simp only [Option.bind_some]
  simp only [e, List.length_cons, List.length_nil]
  rw [if_pos (by omega)]
  rfl
 ·have hl : N = acc.length := by omega
  subst hl
  rw [← numsL_app] at ha
  rw [impl_reader_setup.l1, if_neg (by omega)]
  have hcnt : impl_reader_count.f k (t, (s.1 : Int), s.2) 12 = some (((countR t 12 s).1 : Int), t, ((countR t 12 s).2.1 : Int), (countR t 12 s).2.2) := count_i hk ht s 12
  rw [hcnt]
  simp only [Option.bind_some]
  obtain ⟨c1, c2, c3, c4⟩ := at_count (m := 12) (rest' := fun s0 => numsL (flatL two s0.2.1) ++ rest2 s0) ha (fun s0 => (s0.2.1).length) (fun s0 h0 => ⟨rfl, by have := (counts_of h0).pl; omega, (counts_of h0).pl⟩)
  rw [← numsL_1, ← numsL_app] at c1
  exact imp2 hk ht c1 (fun s0 h0 => (c4 s0 h0).symm) (fun s0 h0 => he s0 h0)  hn c2
theorem setup_i {k : Nat} {t : ByteArray} (hk : 1048576 < k) (ht : t.size ≤ 1048576) : Ok (impl_reader_setup.f k (t, 0, false)) (Fin t) := by
 unfold impl_reader_setup.f
 have hcnt : impl_reader_count.f k (t, 0, false) 4 = some (((countR t 4 (0, false)).1 : Int), t, ((countR t 4 (0, false)).2.1 : Int), (countR t 4 (0, false)).2.2) := count_i hk ht (0, false) 4
 rw [hcnt]
 simp only [Option.bind_some]
 obtain ⟨c1, c2, c3, c4⟩ := at_count (m := 4) (rest' := fun s0 => numsL (flatL two s0.1) ++ rest1 s0) at_start (fun s0 => s0.1.length) (fun s0 h0 => ⟨rfl, by have := (counts_of h0).rg; omega, (counts_of h0).rg⟩)
 rw [← numsL_1] at c1
 exact imp1 hk ht c1 (fun s0 h0 => (c4 s0 h0).symm) c2
theorem readSetup_i {k : Nat} {t : ByteArray} (hk : 1048576 < k) (ht : t.size ≤ 1048576) : impl_ReadSetup.f k t = some (readSetM t) := by
 obtain ⟨r, hr, s, S, rfl, hE, hS⟩ := setup_i hk ht
 unfold impl_ReadSetup.f
 rw [hr, readSetM_end hE]
 simp only [Option.bind_some]
 by_cases h1 : s.2 = true
 ·rw [if_pos h1, if_pos (.inl h1)]
 ·rw [if_neg h1]
  by_cases h2 : s.1 = t.size
  ·rw [if_neg (by omega), fault_i hS hk]
   simp only [Option.bind_some]
   by_cases h3 : faultM S = 0
   ·rw [if_neg (fun h => h h3), if_neg (by rintro (h | h | h); exact h1 h; exact h h2; exact h h3)]
   ·rw [if_pos h3, if_pos (.inr (.inr h3))]
  ·rw [if_pos (by omega), if_pos (.inr (.inl h2))]
end Go.Proofs.Ythncjcfnpfajaaa.Pure
/- The reference reads a set-up. No condition. -/
namespace Go.Proofs.Ythncjcfnpfajaaa.Pure
open Go Go.Proofs.YthncjcfnpfajaaaA Go.Proofs.YthncjcfnpfajaaaU Go.Proofs.Ythncjcfnpfajaaa.QA
set_option linter.unusedVariables false
set_option linter.unusedSimpArgs false

theorem ref5 {k : Nat} {t : ByteArray} (hk : 1048576 < k) (ht : t.size ≤ 1048576) {R W : List (Int × Int)} {Po : List Port5} {U : List (Int × Int × Int)} {y1 y2 : List (Int × Int)} {y3 : List Port5} {y4 : List (Int × Int × Int)} {y5 : List ByteArray} {s : Rst} {P : List Int} (h : At t s P rest4)
  (hu : ∀ s0, TextOf t s0 → R = s0.1 ∧ W = s0.2.1 ∧ Po = s0.2.2.1 ∧ U = s0.2.2.2.1) (h1 : R.length ≤ 50) (h2 : W.length ≤ 50) (h3 : Po.length ≤ 50) (h4 : U.length ≤ 50) :
  Ok (spec_ReadSetup.l5 k k (t, 0, t, (s.1 : Int), s.2, y1, y2, y3, y4, y5, R, W, Po, U, [], ())) (fun r => r = readSetM t) := by
 refine cods_loop (N := R.length) (L := fun c j s acc => spec_ReadSetup.l5 k c (t, (j : Int), t, (s.1 : Int), s.2, y1, y2, y3, y4, y5, R, W, Po, U, acc, ())) (fun j s => j < R.length ∧ s.2 = false) (fun s0 h0 => ?_) (fun _ _ j s hs hn => Nat.le_of_not_lt (fun h => hn ⟨h, hs⟩)) (fun j s h => h.1) (fun c j s acc hcd hj => ?_) (fun c j s acc hn hj hjM ha he => ?_) R.length 0 k s [] (by omega) (by omega) rfl (cods_start h)
 ·rw [(counts_of h0).co, (hu s0 h0).1]
 ·have e : w64 ((j : Int) + 1) = ((j + 1 : Nat) : Int) := w64_id (by omega) (by omega)
  have hb : ¬ s.2 = true := by rw [hcd.2]; exact Bool.false_ne_true
  have hjl := hcd.1
  rw [spec_ReadSetup.l5, if_pos (by omega), if_pos hb, short_s hk ht s]
  simp only [Option.bind_some, e, List.length_cons, List.length_nil]
  rw [if_pos (by omega)]
 ·have hS : Small (R, W, Po, U, acc) := ⟨by dsimp only; omega, by dsimp only; omega, by dsimp only; omega, by dsimp only; omega, by dsimp only; omega⟩
  have hT := readSetM_back (t := t) (b := s.2) (S := (R, W, Po, U, acc)) (fun s0 h0 => ⟨(ha.cmp s0 h0).1, by
   obtain ⟨u1, u2, u3, u4⟩ := hu s0 h0
   exact Prod.ext u1 (Prod.ext u2 (Prod.ext u3 (Prod.ext u4 (he s0 h0))))⟩)
  have tl : ∀ o : Option (Setup × Bool), o = ((some (setupTextM (R, W, Po, U, acc))).bind fun t34 => (if s.2 = true then (some (([], ([], ([], ([], [])))), false)) else (if ¬ t34.2 = true then (some (([], ([], ([], ([], [])))), false)) else (if ¬ t34.1 = t then (some (([], ([], ([], ([], [])))), false)) else (some ((R, (W, (Po, (U, acc)))), true)))))) → Ok o (fun r => r = readSetM t) := by
   rintro o rfl
   refine ok_of (r := readSetM t) ?_ rfl
   rw [hT]
   simp only [Option.bind_some]
   by_cases g1 : s.2 = true
   ·rw [if_pos g1, if_pos (.inl g1)]
   ·rw [if_neg g1]
    by_cases g2 : (setupTextM (R, W, Po, U, acc)).2 = true
    ·rw [if_neg (fun h => h g2)]
     by_cases g3 : (setupTextM (R, W, Po, U, acc)).1 = t
     ·rw [if_neg (fun h => h g3), if_neg (by rintro (h | h | h); exact g1 h; exact h g2; exact h g3)]
     ·rw [if_pos g3, if_pos (.inr (.inr g3))]
    ·rw [if_pos g2, if_pos (.inr (.inl g2))]
  refine tl _ ?_
  rw [spec_ReadSetup.l5, text_s hS hk]
  by_cases hj2 : j < R.length
  ·rw [if_pos (by omega), if_neg (fun hb => hn ⟨hj2, by simpa using hb⟩)]
  ·rw [if_neg (by omega)]
theorem ref4 {k : Nat} {t : ByteArray} (hk : 1048576 < k) (ht : t.size ≤ 1048576) {R : List (Int × Int)} {W : List (Int × Int)} {Po : List Port5} {y1 y2 : List (Int × Int)} {y3 : List Port5} {y4 : List (Int × Int × Int)} {y5 : List ByteArray} {s : Rst} {N : Nat} {P : List Int} (h : At t s P (fun s0 => numsL (flatL three s0.2.2.2.1) ++ rest4 s0))
  (hN : ∀ s0, TextOf t s0 → (s0.2.2.2.1).length = N) (hu : ∀ s0, TextOf t s0 → R = s0.1 ∧ W = s0.2.1 ∧ Po = s0.2.2.1) (h1 : R.length ≤ 50) (h2 : W.length ≤ 50) (h3 : Po.length ≤ 50) :
  Ok (spec_ReadSetup.l4 k k (t, (N : Int), 0, t, (s.1 : Int), s.2, y1, y2, y3, y4, y5, R, W, Po, [], [], ())) (fun r => r = readSetM t) := by
 refine rows_loop (f := three) (g := fun s0 => s0.2.2.2.1) (tail := rest4) (m := 3) (mk := mk3) (N := N) (M := 50) (L := fun c j s acc => spec_ReadSetup.l4 k c (t, (N : Int), (j : Int), t, (s.1 : Int), s.2, y1, y2, y3, y4, y5, R, W, Po, acc, [], ())) (fun j s => j < N ∧ j < 50 ∧ s.2 = false) (fun _ => three_mk) (fun s0 h0 => text_rules h0) hN (fun s0 h0 j s hs hn => ?_) (fun j s h => ⟨h.1, h.2.1⟩) (fun c j s acc hcd hj => ?_) (fun c j s acc hcd hj hjM ha he => ?_) 50 0 k s [] (by omega) (by omega) rfl (rows_start h)
 ·have hle := (counts_of h0).ru
  rw [hN s0 h0] at hle
  refine Nat.le_of_not_lt (fun h => hn ⟨h, by omega, hs⟩)
 ·obtain ⟨hj1, hj2, hb⟩ := hcd
  have e : w64 ((j : Int) + 1) = ((j + 1 : Nat) : Int) := w64_id (by omega) (by omega)
  have hb' : ¬ s.2 = true := by rw [hb]; exact Bool.false_ne_true
  rw [spec_ReadSetup.l4, if_pos (by omega), if_pos (by omega), if_pos hb']
  rw [number_s hk ht s]
  simp only [Option.bind_some]
  rw [number_s hk ht (stepR t s).2]
  simp only [Option.bind_some]
  rw [number_s hk ht (stepR t (stepR t s).2).2]
  simp only [Option.bind_some]
  simp only [e, List.length_cons, List.length_nil]
  rw [if_pos (by omega)]
  rfl
 ·have tl : Ok (spec_ReadSetup.l5 k k (t, 0, t, (s.1 : Int), s.2, y1, y2, y3, y4, y5, R, W, Po, acc, [], ())) (fun r => r = readSetM t) := ref5 hk ht ha (fun s0 h0 => ⟨(hu s0 h0).1, (hu s0 h0).2.1, (hu s0 h0).2.2, he s0 h0⟩) h1 h2 h3 (by omega)
  rw [spec_ReadSetup.l4]
  by_cases g1 : j < N
  ·rw [if_pos (by omega)]
   by_cases g2 : j < 50
   ·rw [if_pos (by omega), if_neg (fun hb => hcd ⟨g1, g2, by simpa using hb⟩)]
    exact tl
   ·rw [if_neg (by omega)]
    exact tl
  ·rw [if_neg (by omega)]
   exact tl
theorem ref3 {k : Nat} {t : ByteArray} (hk : 1048576 < k) (ht : t.size ≤ 1048576) {R : List (Int × Int)} {W : List (Int × Int)} {y1 y2 : List (Int × Int)} {y3 : List Port5} {y4 : List (Int × Int × Int)} {y5 : List ByteArray} {s : Rst} {N : Nat} {P : List Int} (h : At t s P (fun s0 => numsL (flatL five s0.2.2.1) ++ rest3 s0))
  (hN : ∀ s0, TextOf t s0 → (s0.2.2.1).length = N) (hu : ∀ s0, TextOf t s0 → R = s0.1 ∧ W = s0.2.1) (h1 : R.length ≤ 50) (h2 : W.length ≤ 50) :
  Ok (spec_ReadSetup.l3 k k (t, (N : Int), 0, t, (s.1 : Int), s.2, y1, y2, y3, y4, y5, R, W, [], [], [], ())) (fun r => r = readSetM t) := by
 refine rows_loop (f := five) (g := fun s0 => s0.2.2.1) (tail := rest3) (m := 5) (mk := mk5) (N := N) (M := 50) (L := fun c j s acc => spec_ReadSetup.l3 k c (t, (N : Int), (j : Int), t, (s.1 : Int), s.2, y1, y2, y3, y4, y5, R, W, acc, [], [], ())) (fun j s => j < N ∧ j < 50 ∧ s.2 = false) (fun _ => five_mk) (fun s0 h0 => text_ports h0) hN (fun s0 h0 j s hs hn => ?_) (fun j s h => ⟨h.1, h.2.1⟩) (fun c j s acc hcd hj => ?_) (fun c j s acc hcd hj hjM ha he => ?_) 50 0 k s [] (by omega) (by omega) rfl (rows_start h)
 ·have hle := (counts_of h0).po
  rw [hN s0 h0] at hle
  refine Nat.le_of_not_lt (fun h => hn ⟨h, by omega, hs⟩)
 ·obtain ⟨hj1, hj2, hb⟩ := hcd
  have e : w64 ((j : Int) + 1) = ((j + 1 : Nat) : Int) := w64_id (by omega) (by omega)
  have hb' : ¬ s.2 = true := by rw [hb]; exact Bool.false_ne_true
  rw [spec_ReadSetup.l3, if_pos (by omega), if_pos (by omega), if_pos hb']
  rw [number_s hk ht s]
  simp only [Option.bind_some]
  rw [number_s hk ht (stepR t s).2]
  simp only [Option.bind_some]
  rw [number_s hk ht (stepR t (stepR t s).2).2]
  simp only [Option.bind_some]
  rw [number_s hk ht (stepR t (stepR t (stepR t s).2).2).2]
  simp only [Option.bind_some]
  rw [number_s hk ht (stepR t (stepR t (stepR t (stepR t s).2).2).2).2]
  simp only [Option.bind_some]
  simp only [e, List.length_cons, List.length_nil]
  rw [if_pos (by omega)]
  rfl
 ·have tl : Ok ((spec_l11Var.f k (t, ((s.1 : Int), s.2))).bind fun t23 => (spec_ReadSetup.l4 k k (t, t23.1, 0, t23.2.1, t23.2.2.1, t23.2.2.2, y1, y2, y3, y4, y5, R, W, acc, [], [], ()))) (fun r => r = readSetM t) := by
   rw [number_s hk ht s]
   simp only [Option.bind_some]
   obtain ⟨c1, c2, c3⟩ := at_step (rest' := fun s0 => numsL (flatL three s0.2.2.2.1) ++ rest4 s0) ha (fun s0 => (s0.2.2.2.1).length) (fun s0 h0 => ⟨rfl, by have := (counts_of h0).ru; omega⟩)
   exact ref4 hk ht c1 (fun s0 h0 => (c3 s0 h0).symm) (fun s0 h0 => ⟨(hu s0 h0).1, (hu s0 h0).2, he s0 h0⟩) h1 h2 (by omega)
  rw [spec_ReadSetup.l3]
  by_cases g1 : j < N
  ·rw [if_pos (by omega)]
   by_cases g2 : j < 50
   ·rw [if_pos (by omega), if_neg (fun hb => hcd ⟨g1, g2, by simpa using hb⟩)]
    exact tl
   ·rw [if_neg (by omega)]
    exact tl
  ·rw [if_neg (by omega)]
   exact tl
theorem ref2 {k : Nat} {t : ByteArray} (hk : 1048576 < k) (ht : t.size ≤ 1048576) {R : List (Int × Int)} {y1 y2 : List (Int × Int)} {y3 : List Port5} {y4 : List (Int × Int × Int)} {y5 : List ByteArray} {s : Rst} {N : Nat} {P : List Int} (h : At t s P (fun s0 => numsL (flatL two s0.2.1) ++ rest2 s0))
  (hN : ∀ s0, TextOf t s0 → (s0.2.1).length = N) (hu : ∀ s0, TextOf t s0 → R = s0.1) (h1 : R.length ≤ 50) :
  Ok (spec_ReadSetup.l2 k k (t, (N : Int), 0, t, (s.1 : Int), s.2, y1, y2, y3, y4, y5, R, [], [], [], [], ())) (fun r => r = readSetM t) := by
 refine rows_loop (f := two) (g := fun s0 => s0.2.1) (tail := rest2) (m := 2) (mk := mk2) (N := N) (M := 50) (L := fun c j s acc => spec_ReadSetup.l2 k c (t, (N : Int), (j : Int), t, (s.1 : Int), s.2, y1, y2, y3, y4, y5, R, acc, [], [], [], ())) (fun j s => j < N ∧ j < 50 ∧ s.2 = false) (fun _ => two_mk) (fun s0 h0 => text_plan h0) hN (fun s0 h0 j s hs hn => ?_) (fun j s h => ⟨h.1, h.2.1⟩) (fun c j s acc hcd hj => ?_) (fun c j s acc hcd hj hjM ha he => ?_) 50 0 k s [] (by omega) (by omega) rfl (rows_start h)
 ·have hle := (counts_of h0).pl
  rw [hN s0 h0] at hle
  refine Nat.le_of_not_lt (fun h => hn ⟨h, by omega, hs⟩)
 ·obtain ⟨hj1, hj2, hb⟩ := hcd
  have e : w64 ((j : Int) + 1) = ((j + 1 : Nat) : Int) := w64_id (by omega) (by omega)
  have hb' : ¬ s.2 = true := by rw [hb]; exact Bool.false_ne_true
  rw [spec_ReadSetup.l2, if_pos (by omega), if_pos (by omega), if_pos hb']
  rw [number_s hk ht s]
  simp only [Option.bind_some]
  rw [number_s hk ht (stepR t s).2]
  simp only [Option.bind_some]
  simp only [e, List.length_cons, List.length_nil]
  rw [if_pos (by omega)]
  rfl
 ·have tl : Ok ((spec_l11Var.f k (t, ((s.1 : Int), s.2))).bind fun t23 => (spec_ReadSetup.l3 k k (t, t23.1, 0, t23.2.1, t23.2.2.1, t23.2.2.2, y1, y2, y3, y4, y5, R, acc, [], [], [], ()))) (fun r => r = readSetM t) := by
   rw [number_s hk ht s]
   simp only [Option.bind_some]
   obtain ⟨c1, c2, c3⟩ := at_step (rest' := fun s0 => numsL (flatL five s0.2.2.1) ++ rest3 s0) ha (fun s0 => (s0.2.2.1).length) (fun s0 h0 => ⟨rfl, by have := (counts_of h0).po; omega⟩)
   exact ref3 hk ht c1 (fun s0 h0 => (c3 s0 h0).symm) (fun s0 h0 => ⟨(hu s0 h0), he s0 h0⟩) h1 (by omega)
  rw [spec_ReadSetup.l2]
  by_cases g1 : j < N
  ·rw [if_pos (by omega)]
   by_cases g2 : j < 50
   ·rw [if_pos (by omega), if_neg (fun hb => hcd ⟨g1, g2, by simpa using hb⟩)]
    exact tl
   ·rw [if_neg (by omega)]
    exact tl
  ·rw [if_neg (by omega)]
   exact tl
theorem ref1 {k : Nat} {t : ByteArray} (hk : 1048576 < k) (ht : t.size ≤ 1048576)  {y1 y2 : List (Int × Int)} {y3 : List Port5} {y4 : List (Int × Int × Int)} {y5 : List ByteArray} {s : Rst} {N : Nat} {P : List Int} (h : At t s P (fun s0 => numsL (flatL two s0.1) ++ rest1 s0))
  (hN : ∀ s0, TextOf t s0 → (s0.1).length = N)   :
  Ok (spec_ReadSetup.l1 k k (t, (N : Int), 0, t, (s.1 : Int), s.2, y1, y2, y3, y4, y5, [], [], [], [], [], ())) (fun r => r = readSetM t) := by
 refine rows_loop (f := two) (g := fun s0 => s0.1) (tail := rest1) (m := 2) (mk := mk2) (N := N) (M := 50) (L := fun c j s acc => spec_ReadSetup.l1 k c (t, (N : Int), (j : Int), t, (s.1 : Int), s.2, y1, y2, y3, y4, y5, acc, [], [], [], [], ())) (fun j s => j < N ∧ j < 50 ∧ s.2 = false) (fun _ => two_mk) (fun s0 h0 => text_regs h0) hN (fun s0 h0 j s hs hn => ?_) (fun j s h => ⟨h.1, h.2.1⟩) (fun c j s acc hcd hj => ?_) (fun c j s acc hcd hj hjM ha he => ?_) 50 0 k s [] (by omega) (by omega) rfl (rows_start h)
 ·have hle := (counts_of h0).rg
  rw [hN s0 h0] at hle
  refine Nat.le_of_not_lt (fun h => hn ⟨h, by omega, hs⟩)
 ·obtain ⟨hj1, hj2, hb⟩ := hcd
  have e : w64 ((j : Int) + 1) = ((j + 1 : Nat) : Int) := w64_id (by omega) (by omega)
  have hb' : ¬ s.2 = true := by rw [hb]; exact Bool.false_ne_true
  rw [spec_ReadSetup.l1, if_pos (by omega), if_pos (by omega), if_pos hb']
  rw [number_s hk ht s]
  simp only [Option.bind_some]
  rw [number_s hk ht (stepR t s).2]
  simp only [Option.bind_some]
  simp only [e, List.length_cons, List.length_nil]
  rw [if_pos (by omega)]
  rfl
 ·have tl : Ok ((spec_l11Var.f k (t, ((s.1 : Int), s.2))).bind fun t23 => (spec_ReadSetup.l2 k k (t, t23.1, 0, t23.2.1, t23.2.2.1, t23.2.2.2, y1, y2, y3, y4, y5, acc, [], [], [], [], ()))) (fun r => r = readSetM t) := by
   rw [number_s hk ht s]
   simp only [Option.bind_some]
   obtain ⟨c1, c2, c3⟩ := at_step (rest' := fun s0 => numsL (flatL two s0.2.1) ++ rest2 s0) ha (fun s0 => (s0.2.1).length) (fun s0 h0 => ⟨rfl, by have := (counts_of h0).pl; omega⟩)
   exact ref2 hk ht c1 (fun s0 h0 => (c3 s0 h0).symm) (fun s0 h0 => he s0 h0) (by omega)
  rw [spec_ReadSetup.l1]
  by_cases g1 : j < N
  ·rw [if_pos (by omega)]
   by_cases g2 : j < 50
   ·rw [if_pos (by omega), if_neg (fun hb => hcd ⟨g1, g2, by simpa using hb⟩)]
    exact tl
   ·rw [if_neg (by omega)]
    exact tl
  ·rw [if_neg (by omega)]
   exact tl
theorem readSetup_s {k : Nat} {t : ByteArray} (hk : 1048576 < k) (ht : t.size ≤ 1048576) : spec_ReadSetup.f k t = some (readSetM t) := by
 refine ok_eq ?_
 unfold spec_ReadSetup.f
 have hv : spec_l11Var.f k (t, 0, false) = some (((stepR t (0, false)).1 : Int), t, ((stepR t (0, false)).2.1 : Int), (stepR t (0, false)).2.2) := number_s hk ht (0, false)
 rw [hv]
 simp only [Option.bind_some]
 obtain ⟨c1, c2, c3⟩ := at_step (rest' := fun s0 => numsL (flatL two s0.1) ++ rest1 s0) at_start (fun s0 => s0.1.length) (fun s0 h0 => ⟨rfl, by have := (counts_of h0).rg; omega⟩)
 exact ref1 hk ht c1 (fun s0 h0 => (c3 s0 h0).symm)
end Go.Proofs.Ythncjcfnpfajaaa.Pure
/- The plain law of FnSetups: a drawn right set-up comes back from its bytes; drawn bytes that are one are the bytes of it. No condition. -/
namespace Go.Proofs.Ythncjcfnpfajaaa.Pure
open Go Go.Proofs.YthncjcfnpfajaaaA Go.Proofs.YthncjcfnpfajaaaU Go.Proofs.Ythncjcfnpfajaaa.QA Go.Proofs.Ythncjcfnpfajaaa.QFnSetups
set_option linter.unusedVariables false
set_option linter.unusedSimpArgs false
theorem text_one {t : ByteArray} (ht : t.size ≤ 1048576) {s s0 : Setup} (h : TextOf t s) (h0 : TextOf t s0) : s = s0 := by
 obtain ⟨r, hr, s', S, rfl, hE, hS⟩ := setup_i (k := 1048577) (by omega) ht
 rw [← (hE.cmp s h).2.2, ← (hE.cmp s0 h0).2.2]
theorem readSetM_text {t : ByteArray} (h : (readSetM t).2 = true) : TextOf t (readSetM t).1 := by
 unfold readSetM at h ⊢
 split at h
 ·rename_i he
  rw [dif_pos he]
  exact Classical.choose_spec he
 ·cases h
theorem textM_of {t : ByteArray} {s : Setup} (h : TextOf t s) : setupTextM s = (t, true) := by
 obtain ⟨h1, h2⟩ := textOf_iff.1 h
 unfold setupTextM
 rw [if_pos h1, h2]
theorem textM_snd (s : Setup) : (setupTextM s).2 = decide (faultM s = 0) := by
 unfold setupTextM
 by_cases h : faultM s = 0
 ·rw [if_pos h, decide_eq_true h]
 ·rw [if_neg h, decide_eq_false h]
theorem FnSetups : ∀ (x0 : den (.sl 5 (.int .u8))), Wf (.sl 5 (.int .u8)) x0 → ∃ k, laws_FnSetups.f k x0 = some true := by
 intro xs _
 refine ⟨1048577, ?_⟩
 have hk : 1048576 < 1048577 := by omega
 generalize 1048577 = k at hk
 refine ok_eq ?_
 unfold laws_FnSetups.f
 refine big_ok (fun hl => ?_) (ok_some rfl)
 refine ok_els (fun h => by cases h) (ok_bind (drawSetupText_ok hl hk) (fun s hs => ?_))
 have hz := setupText_size s
 have tl : ∀ o : Option Bool, o = ((spec_DrawReadSetup.f k xs).bind fun t9 => ((impl_ReadSetup.f k t9).bind fun t10 => ((spec_ReadSetup.f k t9).bind fun t11 => ((impl_SetupText.f k t10.1).bind fun t12 => (if t10.2 = t11.2 then (if ¬ t10.2 = true then (some true) else (some (decide (t12.1 = t9)))) else (some false)))))) → Ok o (fun r => r = true) := by
  rintro o rfl
  refine ok_bind (drawReadSetup_ok hl hk) (fun u hu => ?_)
  rw [readSetup_i hk hu, readSetup_s hk hu]
  refine ok_let (ok_let ?_)
  rw [text_i (readSetM_small u) hk]
  refine ok_let (ok_grd rfl (ok_if (fun _ => ok_some rfl) (fun hy => ok_some ?_)))
  have hy' : (readSetM u).2 = true := Classical.not_not.1 hy
  rw [textM_of (readSetM_text hy')]
  exact decide_eq_true rfl
 rw [text_i hs hk]
 refine ok_let ?_
 rw [readSetup_i hk (show (setupTextM s).1.size ≤ 1048576 by omega)]
 refine ok_let ?_
 rw [text_i (readSetM_small _) hk, fault_s hs hk, fault_i hs hk]
 refine ok_let (ok_let (ok_els (fun h => h (textM_snd s)) (ok_let (ok_let (ok_els (fun h => h rfl) (ok_if (fun hy => ?_) (fun _ => tl _ rfl)))))))
 have hf : faultM s = 0 := by
  rw [textM_snd] at hy
  exact of_decide_eq_true hy
 have ht : TextOf (setupTextM s).1 s := by
  refine textOf_iff.2 ⟨hf, ?_⟩
  unfold setupTextM
  rw [if_pos hf]
 have hr : readSetM (setupTextM s).1 = (s, true) := readSetM_yes ht (fun s0 h0 => text_one (by omega) ht h0)
 rw [hr]
 exact ok_els (fun h => h rfl) (ok_els (fun h => h rfl) (tl _ rfl))
end Go.Proofs.Ythncjcfnpfajaaa.Pure
