/- The pure statement of FnExactSetupFault: both tell the same fault of every setup. No condition. -/
import Derived.Test.YtcnaldcinkmpbaaPFnExactSetupFaultx14
namespace Go.Proofs.Ytcnaldcinkmpbaa.Pure
open Go.RowKit Go.Proofs.Ytcnaldcinkmpbaa.PFnExactSetupFault Go.Proofs.YtcnaldcinkmpbaaW.PrintWords Go.Proofs.YtcnaldcinkmpbaaW.PrintLast
set_option linter.unusedVariables false
set_option linter.unusedSimpArgs false
theorem wrap_id {n : Int} (h0 : -9223372036854775808 ≤ n) (h1 : n ≤ 9223372036854775807) : wrap64 n = n := by unfold wrap64; omega
theorem wrap_succ {i n : Nat} (h : i < n) (hn : n ≤ 1048576) : wrap64 ((i : Int) + 1) = ((i + 1 : Nat) : Int) := by rw [wrap_id (by omega) (by omega)]; omega
theorem ev_now {α : Type} {g : Nat → Option α} {r : α} (h : ∀ k, g k = some r) : Ev g r := ⟨0, fun k _ => h k⟩
theorem ev_all {α : Type} {g : Nat → Option α} {r : α} (h : Ev g r) : ∃ K, ∀ k, K ≤ k → g k = some r := h

def inn (a b c : Int) : Bool := decide (a ≥ b) && decide (a ≤ c)
theorem in_s (a b c : Int) : spec_l01In.f a b c = some (inn a b c) := by unfold spec_l01In.f inn; by_cases h : a ≥ b <;> simp [h]
theorem in_i (a b c : Int) : impl_within.f a b c = some (inn a b c) := by unfold impl_within.f inn; by_cases h : a ≥ b <;> simp [h]
theorem part_i (a : Int) : impl_isPart.f a = some (inn a 1 4) := by unfold impl_isPart.f; rw [in_i]; rfl
theorem bud_i (a : Int) : impl_isBudget.f a = some (inn a 1 200) := by unfold impl_isBudget.f; rw [in_i]; rfl
theorem inn_le {a b c : Int} (h : inn a b c = true) : b ≤ a ∧ a ≤ c := by unfold inn at h; simp at h; omega

namespace Regions
def bad (L : List S53) (i : Nat) : Bool := !(inn (rd_T53 L (i : Nat)).f0 0 63 && inn (rd_T53 L (i : Nat)).f1 1 (wrap64 (64 - (rd_T53 L (i : Nat)).f0)))
theorem bad_eq (a c : Int) : (!(inn a 0 63 && inn c 1 (wrap64 (64 - a)))) = (decide (a < 0) || (decide (c < 1) || (decide (c > 64) || decide (a > wrap64 (64 - c))))) := by
  rw [Bool.eq_iff_iff]
  unfold inn
  by_cases h : 0 ≤ a ∧ a ≤ 63 ∧ 1 ≤ c ∧ c ≤ 64
  · rw [wrap_id (n := 64 - a) (by omega) (by omega), wrap_id (n := 64 - c) (by omega) (by omega)]
    simp
    omega
  · by_cases h2 : 0 ≤ a ∧ a ≤ 63
    · rw [wrap_id (n := 64 - a) (by omega) (by omega)]
      simp
      omega
    · simp
      by_cases h3 : c < 1 ∨ 64 < c
      · omega
      · rw [wrap_id (n := 64 - c) (by omega) (by omega)]
        omega
def hits (L : List S53) (a c : Int) (j : Nat) : Bool := decide (a < wrap64 ((rd_T53 L (j : Nat)).f0 + (rd_T53 L (j : Nat)).f1)) && decide ((rd_T53 L (j : Nat)).f0 < wrap64 (a + c))
def anyHit (L : List S53) (a c : Int) : Nat → Nat → Bool
  | 0, _ => false
  | d + 1, j => hits L a c j || anyHit L a c d (j + 1)
def val (L : List S53) : Nat → Nat → Bool
  | 0, _ => inn (L.length : Int) 1 4
  | d + 1, i => if bad L i || anyHit L (rd_T53 L (i : Nat)).f0 (rd_T53 L (i : Nat)).f1 i 0 then false else val L d (i + 1)
theorem s_inner (L : List S53) (h : L.length ≤ 1048576) (i : Nat) (hi : i < L.length) (a c : Int) (r : Bool) (hr : Ev (fun k => spec_RegionsOk.l0 k L ((i + 1 : Nat) : Int)) r) :
    ∀ d j, j + d = i → Ev (fun k => spec_RegionsOk.l1 k L (i : Nat) (j : Nat) a c) (if anyHit L a c d j then false else r) := by
  intro d
  induction d with
  | zero =>
    intro j hj
    refine Ev.step (fun k => ?_) hr
    simp only [spec_RegionsOk.l1, if_neg (show ¬ ((j : Int) < (i : Int)) by omega), wrap_succ (show i < L.length by omega) h]
  | succ d ih =>
    intro j hj
    by_cases hf : hits L a c j = true
    · have e : anyHit L a c (d + 1) j = true := by simp [anyHit, hf]
      rw [e]
      unfold hits at hf
      simp only [Bool.and_eq_true, decide_eq_true_eq] at hf
      refine Ev.step (f := fun k => some false) (fun k => ?_) (Ev.now _)
      simp only [spec_RegionsOk.l1, if_pos (show (j : Int) < (i : Int) by omega), if_pos (show (j : Int) < (L.length : Int) by omega), if_pos (show (0 : Int) ≤ (j : Int) by omega), if_pos hf.1, if_pos hf.2]
    · have e : anyHit L a c (d + 1) j = anyHit L a c d (j + 1) := by simp [anyHit, hf]
      rw [e]
      refine Ev.step (fun k => ?_) (ih (j + 1) (by omega))
      simp only [spec_RegionsOk.l1, if_pos (show (j : Int) < (i : Int) by omega), if_pos (show (j : Int) < (L.length : Int) by omega), if_pos (show (0 : Int) ≤ (j : Int) by omega), wrap_succ (show j < L.length by omega) h]
      unfold hits at hf
      simp only [Bool.and_eq_true, decide_eq_true_eq, not_and] at hf
      by_cases h0 : a < wrap64 ((rd_T53 L (j : Nat)).f0 + (rd_T53 L (j : Nat)).f1)
      · rw [if_pos h0, if_neg (hf h0)]
      · rw [if_neg h0]
theorem rd_take (L : List S53) (i j : Nat) (h : j < i) : rd_T53 (L.take i) (j : Nat) = rd_T53 L (j : Nat) := by
  unfold rd_T53
  simp [List.getD_eq_getElem?_getD, List.getElem?_take, h]
theorem i_inner (L : List S53) (h : L.length ≤ 1048576) (i : Nat) (hi : i < L.length) (a c : Int) (r : Bool) (hr : Ev (fun k => impl_RegionsOk.l0 k L L (L.length : Int) ((i + 1 : Nat) : Int)) r) :
    ∀ d j, j + d = i → Ev (fun k => impl_RegionsOk.l1 k L L (L.length : Int) (i : Nat) (L.take i) ((L.take i).length : Int) (j : Nat) a c) (if anyHit L a c d j then false else r) := by
  have hlen : (L.take i).length = i := by rw [List.length_take]; omega
  rw [hlen]
  intro d
  induction d with
  | zero =>
    intro j hj
    refine Ev.step (fun k => ?_) hr
    simp only [impl_RegionsOk.l1, if_neg (show ¬ ((j : Int) < (i : Int)) by omega), wrap_succ (show i < L.length by omega) h]
  | succ d ih =>
    intro j hj
    by_cases hf : hits L a c j = true
    · have e : anyHit L a c (d + 1) j = true := by simp [anyHit, hf]
      rw [e]
      unfold hits at hf
      simp only [Bool.and_eq_true, decide_eq_true_eq] at hf
      refine Ev.step (f := fun k => some false) (fun k => ?_) (Ev.now _)
      simp only [impl_RegionsOk.l1, if_pos (show (j : Int) < (i : Int) by omega), hlen, if_pos (show (0 : Int) ≤ (j : Int) by omega), rd_take L i j (by omega), if_pos hf.1, if_pos hf.2]
    · have e : anyHit L a c (d + 1) j = anyHit L a c d (j + 1) := by simp [anyHit, hf]
      rw [e]
      refine Ev.step (fun k => ?_) (ih (j + 1) (by omega))
      simp only [impl_RegionsOk.l1, if_pos (show (j : Int) < (i : Int) by omega), hlen, if_pos (show (0 : Int) ≤ (j : Int) by omega), rd_take L i j (by omega), wrap_succ (show j < L.length by omega) h]
      unfold hits at hf
      simp only [Bool.and_eq_true, decide_eq_true_eq, not_and] at hf
      by_cases h0 : a < wrap64 ((rd_T53 L (j : Nat)).f0 + (rd_T53 L (j : Nat)).f1)
      · rw [if_pos h0, if_neg (hf h0)]
      · rw [if_neg h0]
theorem s_step (L : List S53) (i : Nat) (hi : i < L.length) (k : Nat) : spec_RegionsOk.l0 (k + 1) L (i : Nat) = spec_RegionsOk.j1 k L (i : Nat) (bad L i) (rd_T53 L (i : Nat)).f0 (rd_T53 L (i : Nat)).f1 := by
  simp only [spec_RegionsOk.l0, if_pos (show (i : Int) < (L.length : Int) by omega), if_pos (show (0 : Int) ≤ (i : Int) by omega), in_s, Option.bind_some, bad]
  cases inn (rd_T53 L (i : Nat)).f0 0 63 <;> simp
theorem i_step (L : List S53) (i : Nat) (hi : i < L.length) (k : Nat) : impl_RegionsOk.l0 (k + 1) L L (L.length : Int) (i : Nat) = impl_RegionsOk.j1 k L (i : Nat) L (L.length : Int) (i : Nat) (bad L i) (rd_T53 L (i : Nat)).f0 (rd_T53 L (i : Nat)).f1 := by
  unfold bad
  rw [bad_eq]
  simp only [impl_RegionsOk.l0, if_pos (show (i : Int) < (L.length : Int) by omega), if_pos (show (0 : Int) ≤ (i : Int) by omega)]
  by_cases h0 : (rd_T53 L (i : Nat)).f0 < 0
  · simp only [if_pos h0, decide_eq_true h0, Bool.true_or]
  · by_cases h1 : (rd_T53 L (i : Nat)).f1 < 1
    · simp only [if_neg h0, if_pos h1, decide_eq_true h1, decide_eq_false h0, Bool.true_or, Bool.false_or]
    · by_cases h2 : (rd_T53 L (i : Nat)).f1 > 64
      · simp only [if_neg h0, if_neg h1, if_pos h2, decide_eq_true h2, decide_eq_false h0, decide_eq_false h1, Bool.true_or, Bool.false_or]
      · simp only [if_neg h0, if_neg h1, if_neg h2, decide_eq_false h0, decide_eq_false h1, decide_eq_false h2, Bool.false_or]
theorem spec_ev (L : List S53) (h : L.length ≤ 1048576) : ∀ d i, i + d = L.length → Ev (fun k => spec_RegionsOk.l0 k L (i : Nat)) (val L d i) := by
  intro d
  induction d with
  | zero =>
    intro i hi
    refine Ev.step (f := fun k => some (val L 0 i)) (fun k => ?_) (Ev.now _)
    simp only [spec_RegionsOk.l0, if_neg (show ¬ ((i : Int) < (L.length : Int)) by omega), val, in_s, Option.bind_some]
  | succ d ih =>
    intro i hi
    refine Ev.step (fun k => s_step L i (by omega) k) ?_
    have hin := s_inner L h i (by omega) (rd_T53 L (i : Nat)).f0 (rd_T53 L (i : Nat)).f1 _ (ih (i + 1) (by omega)) i 0 (by omega)
    cases ho : bad L i with
    | true =>
      refine Ev.step (f := fun k => some (val L (d + 1) i)) (fun k => ?_) (Ev.now _)
      simp [spec_RegionsOk.j1, val, ho]
    | false =>
      simp only [val, ho, Bool.false_or]
      refine Ev.step (fun k => ?_) hin
      simp only [spec_RegionsOk.j1, Bool.false_eq_true, if_false]
      rfl
theorem impl_ev (L : List S53) (h : L.length ≤ 1048576) : ∀ d i, i + d = L.length → Ev (fun k => impl_RegionsOk.l0 k L L (L.length : Int) (i : Nat)) (val L d i) := by
  intro d
  induction d with
  | zero =>
    intro i hi
    refine Ev.step (f := fun k => some (val L 0 i)) (fun k => ?_) (Ev.now _)
    simp only [impl_RegionsOk.l0, if_neg (show ¬ ((i : Int) < (L.length : Int)) by omega), val, in_i, Option.bind_some]
  | succ d ih =>
    intro i hi
    refine Ev.step (fun k => i_step L i (by omega) k) ?_
    have hin := i_inner L h i (by omega) (rd_T53 L (i : Nat)).f0 (rd_T53 L (i : Nat)).f1 _ (ih (i + 1) (by omega)) i 0 (by omega)
    cases ho : bad L i with
    | true =>
      refine Ev.step (f := fun k => some (val L (d + 1) i)) (fun k => ?_) (Ev.now _)
      simp [impl_RegionsOk.j1, val, ho]
    | false =>
      simp only [val, ho, Bool.false_or]
      refine Ev.step (fun k => ?_) hin
      simp only [impl_RegionsOk.j1, Bool.false_eq_true, if_false, if_pos (show (0 : Int) ≤ (i : Int) by omega), if_pos (show (i : Int) ≤ (L.length : Int) by omega), Option.bind_some, Int.toNat_natCast]
      rfl
theorem both (L : List S53) (h : L.length ≤ 1048576) : ∃ r, Ev (fun k => spec_RegionsOk.f k L) r ∧ Ev (fun k => impl_RegionsOk.f k L) r :=
  ⟨val L L.length 0, Ev.congr (fun k => rfl) (spec_ev L h L.length 0 (by omega)), Ev.congr (fun k => rfl) (impl_ev L h L.length 0 (by omega))⟩
end Regions

namespace Plan
def val (L : List S35) : Nat → Nat → Bool
  | 0, _ => inn (L.length : Int) 1 12
  | d + 1, i => if inn (rd_T35 L (i : Nat)).f0 1 4 then (if inn (rd_T35 L (i : Nat)).f1 1 200 then val L d (i + 1) else false) else false
theorem spec_ev (L : List S35) (h : L.length ≤ 1048576) : ∀ d i, i + d = L.length → Ev (fun k => spec_PlanOk.l0 k L (i : Nat)) (val L d i) := by
  intro d
  induction d with
  | zero =>
    intro i hi
    refine Ev.step (f := fun k => some (val L 0 i)) (fun k => ?_) (Ev.now _)
    simp only [spec_PlanOk.l0, if_neg (show ¬ ((i : Int) < (L.length : Int)) by omega), val, in_s, Option.bind_some]
  | succ d ih =>
    intro i hi
    unfold val
    refine Ev.step (fun k => by simp only [spec_PlanOk.l0, if_pos (show (i : Int) < (L.length : Int) by omega), if_pos (show (0 : Int) ≤ (i : Int) by omega), in_s, Option.bind_some, wrap_succ (show i < L.length by omega) h]; rfl) ?_
    cases inn (rd_T35 L (i : Nat)).f0 1 4 <;> cases inn (rd_T35 L (i : Nat)).f1 1 200
    · exact Ev.now _
    · exact Ev.now _
    · exact Ev.now _
    · exact ih (i + 1) (by omega)
theorem impl_ev (L : List S35) (h : L.length ≤ 1048576) : ∀ d i, i + d = L.length → Ev (fun k => impl_PlanOk.l0 k L L (L.length : Int) (i : Nat)) (val L d i) := by
  intro d
  induction d with
  | zero =>
    intro i hi
    refine Ev.step (f := fun k => some (val L 0 i)) (fun k => ?_) (Ev.now _)
    simp only [impl_PlanOk.l0, if_neg (show ¬ ((i : Int) < (L.length : Int)) by omega), val, in_i, Option.bind_some]
  | succ d ih =>
    intro i hi
    unfold val
    refine Ev.step (fun k => by simp only [impl_PlanOk.l0, if_pos (show (i : Int) < (L.length : Int) by omega), if_pos (show (0 : Int) ≤ (i : Int) by omega), part_i, bud_i, Option.bind_some, wrap_succ (show i < L.length by omega) h]; rfl) ?_
    cases inn (rd_T35 L (i : Nat)).f0 1 4 <;> cases inn (rd_T35 L (i : Nat)).f1 1 200
    · exact Ev.now _
    · exact Ev.now _
    · exact Ev.now _
    · exact ih (i + 1) (by omega)
theorem both (L : List S35) (h : L.length ≤ 1048576) : ∃ r, Ev (fun k => spec_PlanOk.f k L) r ∧ Ev (fun k => impl_PlanOk.f k L) r :=
  ⟨val L L.length 0, Ev.congr (fun k => rfl) (spec_ev L h L.length 0 (by omega)), Ev.congr (fun k => rfl) (impl_ev L h L.length 0 (by omega))⟩
end Plan

namespace Port
theorem same (k : Nat) (a b c d e : Int) : impl_PortOk.f k a b c d e = spec_PortOk.f k a b c d e := by
  have h0 : ∀ k x a b c d e, impl_PortOk.j0 k x a b c d e = spec_PortOk.j0 k x a b c d e := by intro k; cases k <;> intros <;> simp only [impl_PortOk.j0, spec_PortOk.j0, in_s, in_i]
  simp only [impl_PortOk.f, spec_PortOk.f, h0, part_i, in_s]
theorem ends (a b c d e : Int) : ∃ r, Ev (fun k => spec_PortOk.f k a b c d e) r := by
  have h0 : ∀ x, ∃ r, Ev (fun k => spec_PortOk.j0 k x a b c d e) r := by
    intro x
    have : ∃ r, ∀ k, spec_PortOk.j0 (k + 1) x a b c d e = some r := by
      simp only [spec_PortOk.j0, in_s, Option.bind_some]
      split
      · exact ⟨_, fun _ => rfl⟩
      · split
        · split <;> exact ⟨_, fun _ => rfl⟩
        · split
          · split <;> exact ⟨_, fun _ => rfl⟩
          · exact ⟨_, fun _ => rfl⟩
    obtain ⟨r, hr⟩ := this
    exact ⟨r, Ev.step (f := fun _ => some r) hr (Ev.now _)⟩
  obtain ⟨r1, h1⟩ := h0 (b == c)
  obtain ⟨r2, h2⟩ := h0 true
  cases hb : inn b 1 4 with
  | false => exact ⟨r2, Ev.congr (fun k => by simp only [spec_PortOk.f, in_s, hb, Option.bind_some, Bool.false_eq_true, if_false]) h2⟩
  | true =>
    cases hc : inn c 1 4 with
    | false => exact ⟨r2, Ev.congr (fun k => by simp only [spec_PortOk.f, in_s, hb, hc, Option.bind_some, Bool.false_eq_true, if_false, if_true]) h2⟩
    | true => exact ⟨r1, Ev.congr (fun k => by simp only [spec_PortOk.f, in_s, hb, hc, Option.bind_some, if_true]) h1⟩
end Port
namespace Rules
def fits (L : List S40) (a b : Int) (i : Nat) : Bool := decide ((rd_T40 L (i : Nat)).f0 = a ∧ (rd_T40 L (i : Nat)).f1 = b)
def first (L : List S40) (a b : Int) : Nat → Nat → Option Nat
  | 0, _ => none
  | d + 1, i => if fits L a b i then some i else first L a b d (i + 1)
def out3 (L : List S40) (i : Nat) : Bool := !(inn (rd_T40 L (i : Nat)).f0 1 4) || !(inn (rd_T40 L (i : Nat)).f1 1 2) || !(inn (rd_T40 L (i : Nat)).f2 0 4)
def idle (L : List S40) (i : Nat) : Bool := decide ((rd_T40 L (i : Nat)).f1 = 1) && decide ((rd_T40 L (i : Nat)).f2 = 0)
def out (L : List S40) (i : Nat) : Bool := out3 L i || idle L i
def val (L : List S40) : Nat → Nat → Bool
  | 0, _ => decide ((L.length : Int) ≤ 8)
  | d + 1, i => if out L i || (first L (rd_T40 L (i : Nat)).f0 (rd_T40 L (i : Nat)).f1 i 0).isSome then false else val L d (i + 1)
theorem first_lt (L : List S40) (a b : Int) : ∀ d i j, first L a b d i = some j → i ≤ j ∧ j < i + d := by
  intro d
  induction d with
  | zero => intro i j h; simp [first] at h
  | succ d ih =>
    intro i j h
    unfold first at h
    split at h
    · simp at h; omega
    · have := ih _ _ h; omega
theorem first_split (L : List S40) (a b : Int) (e : Nat) : ∀ d i, first L a b (d + e) i = match first L a b d i with | some j => some j | none => first L a b e (i + d) := by
  intro d
  induction d with
  | zero => intro i; simp [first]
  | succ d ih =>
    intro i
    have e1 : ∀ n, first L a b (n + 1) i = if fits L a b i then some i else first L a b n (i + 1) := fun n => rfl
    rw [show d + 1 + e = (d + e) + 1 by omega, e1, e1, ih (i + 1), show i + 1 + d = i + (d + 1) by omega]
    by_cases hf : fits L a b i = true
    · simp [hf]
    · rw [if_neg hf, if_neg hf]
theorem find_ev (L : List S40) (h : L.length ≤ 1048576) (a b : Int) : ∀ d i, i + d = L.length → Ev (fun k => impl_ruleFor.l0 k a b L (L.length : Int) (i : Nat)) (match first L a b d i with | none => -1 | some j => (j : Int)) := by
  intro d
  induction d with
  | zero =>
    intro i hi
    refine Ev.step (f := fun k => some (-1)) (fun k => ?_) (Ev.now _)
    simp only [impl_ruleFor.l0, if_neg (show ¬ ((i : Int) < (L.length : Int)) by omega)]
  | succ d ih =>
    intro i hi
    by_cases hf : fits L a b i = true
    · have e : first L a b (d + 1) i = some i := by simp [first, hf]
      rw [e]
      unfold fits at hf
      obtain ⟨h0, h1⟩ := of_decide_eq_true hf
      refine Ev.step (f := fun k => some (i : Int)) (fun k => ?_) (Ev.now _)
      simp only [impl_ruleFor.l0, if_pos (show (i : Int) < (L.length : Int) by omega), if_pos (show (0 : Int) ≤ (i : Int) by omega), if_pos h0, if_pos h1]
    · have e : first L a b (d + 1) i = first L a b d (i + 1) := by simp [first, hf]
      rw [e]
      refine Ev.step (fun k => ?_) (ih (i + 1) (by omega))
      simp only [impl_ruleFor.l0, if_pos (show (i : Int) < (L.length : Int) by omega), if_pos (show (0 : Int) ≤ (i : Int) by omega), wrap_succ (show i < L.length by omega) h]
      unfold fits at hf
      simp only [decide_eq_true_eq, not_and] at hf
      by_cases h0 : (rd_T40 L (i : Nat)).f0 = a
      · rw [if_pos h0, if_neg (hf h0)]
      · rw [if_neg h0]
theorem inner (L : List S40) (h : L.length ≤ 1048576) (i : Nat) (hi : i < L.length) (a b c : Int) (r : Bool) (hr : Ev (fun k => spec_RulesOk.l0 k L ((i + 1 : Nat) : Int)) r) :
    ∀ d j, j + d = i → Ev (fun k => spec_RulesOk.l1 k L (i : Nat) (j : Nat) a b c) (if (first L a b d j).isSome then false else r) := by
  intro d
  induction d with
  | zero =>
    intro j hj
    refine Ev.step (fun k => ?_) hr
    simp only [spec_RulesOk.l1, if_neg (show ¬ ((j : Int) < (i : Int)) by omega), wrap_succ (show i < L.length by omega) h]
  | succ d ih =>
    intro j hj
    by_cases hf : fits L a b j = true
    · have e : first L a b (d + 1) j = some j := by simp [first, hf]
      rw [e]
      unfold fits at hf
      obtain ⟨h0, h1⟩ := of_decide_eq_true hf
      refine Ev.step (f := fun k => some false) (fun k => ?_) (Ev.now _)
      simp only [spec_RulesOk.l1, if_pos (show (j : Int) < (i : Int) by omega), if_pos (show (j : Int) < (L.length : Int) by omega), if_pos (show (0 : Int) ≤ (j : Int) by omega), if_pos h0, if_pos h1]
    · have e : first L a b (d + 1) j = first L a b d (j + 1) := by simp [first, hf]
      rw [e]
      refine Ev.step (fun k => ?_) (ih (j + 1) (by omega))
      simp only [spec_RulesOk.l1, if_pos (show (j : Int) < (i : Int) by omega), if_pos (show (j : Int) < (L.length : Int) by omega), if_pos (show (0 : Int) ≤ (j : Int) by omega), wrap_succ (show j < L.length by omega) h]
      unfold fits at hf
      simp only [decide_eq_true_eq, not_and] at hf
      by_cases h0 : (rd_T40 L (j : Nat)).f0 = a
      · rw [if_pos h0, if_neg (hf h0)]
      · rw [if_neg h0]
theorem s_step (L : List S40) (i : Nat) (hi : i < L.length) (k : Nat) : spec_RulesOk.l0 (k + 1) L (i : Nat) = spec_RulesOk.j1 k L (i : Nat) (out L i) (rd_T40 L (i : Nat)).f0 (rd_T40 L (i : Nat)).f1 (rd_T40 L (i : Nat)).f2 := by
  simp only [spec_RulesOk.l0, if_pos (show (i : Int) < (L.length : Int) by omega), if_pos (show (0 : Int) ≤ (i : Int) by omega), in_s, Option.bind_some, out, out3, idle]
  cases inn (rd_T40 L (i : Nat)).f0 1 4 <;> cases inn (rd_T40 L (i : Nat)).f1 1 2 <;> cases inn (rd_T40 L (i : Nat)).f2 0 4 <;> simp
  by_cases h1 : (rd_T40 L (i : Nat)).f1 = 1
  · simp [h1]
    congr 1
  · simp [h1]
theorem i_step (L : List S40) (i : Nat) (hi : i < L.length) (k : Nat) : impl_RulesOk.l0 (k + 1) L L (L.length : Int) (i : Nat) = impl_RulesOk.j1 k L (i : Nat) L (L.length : Int) (i : Nat) (out3 L i) (rd_T40 L (i : Nat)).f0 (rd_T40 L (i : Nat)).f1 (rd_T40 L (i : Nat)).f2 := by
  simp only [impl_RulesOk.l0, if_pos (show (i : Int) < (L.length : Int) by omega), if_pos (show (0 : Int) ≤ (i : Int) by omega), in_i, part_i, Option.bind_some, out3]
  cases inn (rd_T40 L (i : Nat)).f0 1 4 <;> cases inn (rd_T40 L (i : Nat)).f1 1 2 <;> cases inn (rd_T40 L (i : Nat)).f2 0 4 <;> simp
theorem spec_ev (L : List S40) (h : L.length ≤ 1048576) : ∀ d i, i + d = L.length → Ev (fun k => spec_RulesOk.l0 k L (i : Nat)) (val L d i) := by
  intro d
  induction d with
  | zero =>
    intro i hi
    refine Ev.step (f := fun k => some (val L 0 i)) (fun k => ?_) (Ev.now _)
    simp only [spec_RulesOk.l0, if_neg (show ¬ ((i : Int) < (L.length : Int)) by omega), val]
  | succ d ih =>
    intro i hi
    refine Ev.step (fun k => s_step L i (by omega) k) ?_
    have hin := inner L h i (by omega) (rd_T40 L (i : Nat)).f0 (rd_T40 L (i : Nat)).f1 (rd_T40 L (i : Nat)).f2 _ (ih (i + 1) (by omega)) i 0 (by omega)
    cases ho : out L i with
    | true =>
      refine Ev.step (f := fun k => some (val L (d + 1) i)) (fun k => ?_) (Ev.now _)
      simp [spec_RulesOk.j1, val, ho]
    | false =>
      simp only [val, ho, Bool.false_or]
      refine Ev.step (fun k => ?_) hin
      simp only [spec_RulesOk.j1, Bool.false_eq_true, if_false]
      rfl
theorem impl_ev' (L : List S40) (h : L.length ≤ 1048576) : ∀ d i, i + d = L.length → Ev (fun k => impl_RulesOk.l0 k L L (L.length : Int) (i : Nat)) (val L d i) := by
  intro d
  induction d with
  | zero =>
    intro i hi
    refine Ev.step (f := fun k => some (val L 0 i)) (fun k => ?_) (Ev.now _)
    simp only [impl_RulesOk.l0, if_neg (show ¬ ((i : Int) < (L.length : Int)) by omega), val]
  | succ d ih =>
    intro i hi
    refine Ev.step (fun k => i_step L i (by omega) k) ?_
    cases ho : out3 L i with
    | true =>
      refine Ev.step (f := fun k => some (val L (d + 1) i)) (fun k => ?_) (Ev.now _)
      simp [impl_RulesOk.j1, val, out, ho]
    | false =>
      obtain ⟨K1, h1⟩ := find_ev L h (rd_T40 L (i : Nat)).f0 (rd_T40 L (i : Nat)).f1 L.length 0 (by omega)
      obtain ⟨K2, h2⟩ := ih (i + 1) (by omega)
      refine ⟨max K1 K2 + 1, fun k hk => ?_⟩
      obtain ⟨k, rfl⟩ : ∃ k', k = k' + 1 := ⟨k - 1, by omega⟩
      have h1 := h1 k (by omega)
      have h2 := h2 k (by omega)
      have hz : ((0 : Nat) : Int) = 0 := rfl
      simp only [hz] at h1
      simp only [impl_RulesOk.j1, Bool.false_eq_true, if_false, impl_ruleFor.f, h1, Option.bind_some]
      have hs := first_split L (rd_T40 L (i : Nat)).f0 (rd_T40 L (i : Nat)).f1 (d + 1) i 0
      rw [show i + (d + 1) = L.length by omega] at hs
      simp only [Nat.zero_add] at hs
      rw [hs]
      cases hq : first L (rd_T40 L (i : Nat)).f0 (rd_T40 L (i : Nat)).f1 i 0 with
      | some j =>
        have := first_lt L _ _ _ _ _ hq
        simp only [if_neg (show ¬ ((j : Int) = (i : Int)) by omega), val, hq]
        simp
      | none =>
        have hfit : fits L (rd_T40 L (i : Nat)).f0 (rd_T40 L (i : Nat)).f1 i = true := by unfold fits; simp
        have e : first L (rd_T40 L (i : Nat)).f0 (rd_T40 L (i : Nat)).f1 (d + 1) i = some i := by simp only [first, hfit, if_true]
        simp only [e, if_true, val, hq, out, ho, idle, wrap_succ (show i < L.length by omega) h, h2]
        by_cases h1 : (rd_T40 L (i : Nat)).f1 = 1
        · by_cases h3 : (rd_T40 L (i : Nat)).f2 = 0 <;> simp [h1, h3]
        · simp [h1]
end Rules

theorem cps_ev (l : List ByteArray) (h : l.length ≤ 1048576) : ∃ l' : List ByteArray, l'.length = l.length ∧ Ev (fun k => laws_toStringS.f k l) l' := by
  have key : ∀ d i (acc : List ByteArray), acc.length = l.length → i + d = l.length → ∃ l' : List ByteArray, l'.length = l.length ∧ Ev (fun k => laws_toStringS.l0 k l acc (i : Nat)) l' := by
    intro d
    induction d with
    | zero =>
      intro i acc ha hi
      refine ⟨acc, ha, Ev.step (f := fun k => some acc) (fun k => ?_) (Ev.now _)⟩
      simp only [laws_toStringS.l0, if_neg (show ¬ ((i : Int) < (l.length : Int)) by omega)]
    | succ d ih =>
      intro i acc ha hi
      obtain ⟨L, hL, hE⟩ := ih (i + 1) (acc.set i (rdOf ByteArray.empty l (i : Nat))) (by simp [ha]) (by omega)
      refine ⟨L, hL, Ev.step (fun k => ?_) hE⟩
      simp only [laws_toStringS.l0, if_pos (show (i : Int) < (l.length : Int) by omega), if_pos (show (0 : Int) ≤ (i : Int) by omega), if_pos (show (i : Int) < (acc.length : Int) by omega), wrap_succ (show i < l.length by omega) h, Int.toNat_natCast]
  obtain ⟨L, hL, hE⟩ := key l.length 0 (List.replicate l.length (⟨#[]⟩ : ByteArray)) (List.length_replicate ..) (by omega)
  refine ⟨L, hL, Ev.congr (fun k => ?_) hE⟩
  simp only [laws_toStringS.f, if_pos (show (0 : Int) ≤ (l.length : Int) by omega), Int.toNat_natCast, if_pos (show l.length ≤ 17592186044416 by omega)]
  rfl
theorem eqs_ev (L : List ByteArray) (h : L.length ≤ 1048576) : Ev (fun k => laws_eqStringS.f k L L) true := by
  have key : ∀ d i, i + d = L.length → Ev (fun k => laws_eqStringS.l0 k L L (i : Nat)) true := by
    intro d
    induction d with
    | zero =>
      intro i hi
      refine Ev.step (f := fun k => some true) (fun k => ?_) (Ev.now _)
      simp only [laws_eqStringS.l0, if_neg (show ¬ ((i : Int) < (L.length : Int)) by omega)]
    | succ d ih =>
      intro i hi
      refine Ev.step (fun k => ?_) (ih (i + 1) (by omega))
      simp only [laws_eqStringS.l0, if_pos (show (i : Int) < (L.length : Int) by omega), if_pos (show (0 : Int) ≤ (i : Int) by omega), if_true, wrap_succ (show i < L.length by omega) h]
  refine Ev.congr (fun k => ?_) (key L.length 0 (by omega))
  simp only [laws_eqStringS.f, if_true]
  rfl
theorem szs_ev (l : List ByteArray) (hl : l.length ≤ maxLen) (a : Int) (ha : 0 ≤ a) (ha2 : a ≤ 1048576) : ∃ t, Ev (fun k => laws_szStringS.f k l a) t ∧ (¬ t < 0 → l.length ≤ 1048576) := by
  simp only [maxLen] at hl
  have key : ∀ d i (x : Int), i + d = l.length → l.length ≤ 1048576 → ∃ t, Ev (fun k => laws_szStringS.l0 k l x (i : Nat)) t := by
    intro d
    induction d with
    | zero =>
      intro i x hi h
      refine ⟨x, Ev.step (f := fun k => some x) (fun k => ?_) (Ev.now _)⟩
      simp only [laws_szStringS.l0, if_neg (show ¬ ((i : Int) < (l.length : Int)) by omega)]
    | succ d ih =>
      intro i x hi h
      by_cases hs : wrap64 (x - ((rdOf ByteArray.empty l (i : Nat)).size : Int)) < 0
      · refine ⟨-1, Ev.step (f := fun k => some (-1)) (fun k => ?_) (Ev.now _)⟩
        simp only [laws_szStringS.l0, if_pos (show (i : Int) < (l.length : Int) from Int.ofNat_lt.2 (by clear hs; omega)), if_pos (show (0 : Int) ≤ (i : Int) from Int.natCast_nonneg i), if_pos hs]
      · obtain ⟨t, ht⟩ := ih (i + 1) (wrap64 (x - ((rdOf ByteArray.empty l (i : Nat)).size : Int))) (by clear hs; omega) h
        refine ⟨t, Ev.step (fun k => ?_) ht⟩
        simp only [laws_szStringS.l0, if_pos (show (i : Int) < (l.length : Int) from Int.ofNat_lt.2 (by clear hs; omega)), if_pos (show (0 : Int) ≤ (i : Int) from Int.natCast_nonneg i), if_neg hs, wrap_succ (show i < l.length by clear hs; omega) h]
  by_cases h : wrap64 (a - (l.length : Int)) < 0
  · exact ⟨-1, Ev.congr (f := fun _ => some (-1)) (fun k => by simp only [laws_szStringS.f, if_pos h]) (Ev.now _), fun h => by omega⟩
  · have hl' : l.length ≤ 1048576 := by
      rw [wrap_id (by omega) (by omega)] at h
      omega
    obtain ⟨t, ht⟩ := key l.length 0 (wrap64 (a - (l.length : Int))) (by omega) hl'
    exact ⟨t, Ev.congr (fun k => by simp only [laws_szStringS.f, if_neg h] <;> rfl) ht, fun _ => hl'⟩
-- codes
theorem code_same (k : Nat) (a : ByteArray) : impl_ReadCode.f k a = spec_ReadCode.f k a := by
  have h0 : ∀ k a acc i, impl_ReadCode.l0 k a acc i = spec_ReadCode.l0 k a acc i := by
    intro k
    induction k with
    | zero => intros; rfl
    | succ k ih => intro a acc i; simp only [impl_ReadCode.l0, spec_ReadCode.l0, ih]
  have h1 : ∀ k a x, impl_ReadCode.j0 k a x = spec_ReadCode.j0 k a [] x := by
    intro k a x
    cases k with
    | zero => rfl
    | succ k => simp only [impl_ReadCode.j0, spec_ReadCode.j0, h0]
  simp only [impl_ReadCode.f, spec_ReadCode.f, h1, Option.bind_some]
theorem code_ends (a : ByteArray) : ∃ r, Ev (fun k => spec_ReadCode.f k a) r := by
  have bad : Ev (fun k => spec_ReadCode.j0 k a [] true) ([], false) := Ev.step (f := fun k => some ([], false)) (fun k => by simp only [spec_ReadCode.j0, if_true]) (Ev.now _)
  by_cases h2 : ((a.size : Int) % 2) = 0
  · by_cases h3 : (a.size : Int) > 120
    · exact ⟨_, Ev.congr (fun k => by simp only [spec_ReadCode.f, Option.bind_some, if_pos h2, decide_eq_true h3]) bad⟩
    · have key : ∀ d i (acc : List S46), i + d = a.size / 2 → acc.length ≤ i → ∃ r, Ev (fun k => spec_ReadCode.l0 k a acc ((2 * i : Nat) : Int)) r := by
        intro d
        induction d with
        | zero =>
          intro i acc hi _
          refine ⟨_, Ev.step (f := fun k => some (acc, true)) (fun k => ?_) (Ev.now _)⟩
          simp only [spec_ReadCode.l0, if_neg (show ¬ (((2 * i : Nat) : Int) < (a.size : Int)) by omega)]
        | succ d ih =>
          intro i acc hi hl
          obtain ⟨r, hr⟩ := ih (i + 1) (acc ++ [(⟨wrap64 (bt a ((2 * i : Nat) : Int)), wrap64 (bt a ((2 * i + 1 : Nat) : Int))⟩ : S46)]) (by omega) (by rw [List.length_append, List.length_singleton]; omega)
          have p1 : ((2 * i : Nat) : Int) < (a.size : Int) := by omega
          have p2 : (0 : Int) ≤ ((2 * i : Nat) : Int) := by omega
          have p3 : (0 : Int) ≤ ((2 * i + 1 : Nat) : Int) := by omega
          have p4 : ((2 * i + 1 : Nat) : Int) < (a.size : Int) := by omega
          have p5 : acc.length < 8796093022208 := by omega
          have e1 : wrap64 (((2 * i : Nat) : Int) + 1) = ((2 * i + 1 : Nat) : Int) := by rw [wrap_id (by omega) (by omega)]; omega
          have e2 : wrap64 (((2 * i : Nat) : Int) + 2) = ((2 * (i + 1) : Nat) : Int) := by rw [wrap_id (by omega) (by omega)]; omega
          refine ⟨r, Ev.step (fun k => ?_) hr⟩
          simp only [spec_ReadCode.l0, if_pos p1, if_pos p2, e1, e2, if_pos p3, if_pos p4, if_pos p5]
      obtain ⟨r, hr⟩ := key (a.size / 2) 0 [] (by omega) (by simp)
      refine ⟨r, Ev.congr (f := fun k => spec_ReadCode.j0 k a [] false) (fun k => by simp only [spec_ReadCode.f, Option.bind_some, if_pos h2, decide_eq_false h3]) (Ev.step (fun k => ?_) hr)⟩
      simp only [spec_ReadCode.j0, Bool.false_eq_true, if_false]
      rfl
  · exact ⟨_, Ev.congr (fun k => by simp only [spec_ReadCode.f, Option.bind_some, if_neg h2]) bad⟩
-- what the reference tells, from its end backwards
section Fault
variable (R : List S53) (W : List S35) (Po : List S42) (Ru : List S40) (C : List ByteArray)
def fits_w : Nat → Nat → Bool
  | 0, _ => true
  | d + 1, i => decide ((rd_T35 W (i : Nat)).f0 ≤ (R.length : Int)) && fits_w d (i + 1)
def fits_p : Nat → Nat → Bool
  | 0, _ => true
  | d + 1, i => decide ((rd_T42 Po (i : Nat)).f1 ≤ (R.length : Int)) && (decide ((rd_T42 Po (i : Nat)).f2 ≤ (R.length : Int)) && fits_p d (i + 1))
def fits_u : Nat → Nat → Bool
  | 0, _ => true
  | d + 1, i => decide ((rd_T40 Ru (i : Nat)).f0 ≤ (R.length : Int)) && fits_u d (i + 1)
theorem mx_le (x v n : Int) : decide (mx x v ≤ n) = (decide (x ≤ n) && decide (v ≤ n)) := by
  unfold mx
  rw [Bool.eq_iff_iff]
  split <;> simp <;> omega
theorem s_u (h : Ru.length ≤ 1048576) : ∀ d i, i + d = Ru.length → Ev (fun k => spec_l11Parts.l2 k (R.length : Int) (i : Nat) R W Po Ru C) (if fits_u R Ru d i then 0 else 6) := by
  intro d
  induction d with
  | zero =>
    intro i hi
    refine Ev.step (f := fun k => some 0) (fun k => ?_) (Ev.now _)
    simp only [spec_l11Parts.l2, if_neg (show ¬ ((i : Int) < (Ru.length : Int)) by omega)]
  | succ d ih =>
    intro i hi
    have p1 : (i : Int) < (Ru.length : Int) := by omega
    have p2 : (0 : Int) ≤ (i : Int) := by omega
    by_cases hc : (rd_T40 Ru (i : Nat)).f0 ≤ (R.length : Int)
    · simp only [fits_u, decide_eq_true hc, Bool.true_and]
      refine Ev.step (fun k => ?_) (ih (i + 1) (by omega))
      simp only [spec_l11Parts.l2, if_pos p1, if_pos p2, if_neg (Int.not_lt.2 hc), wrap_succ (show i < Ru.length by omega) h]
    · simp only [fits_u, decide_eq_false hc, Bool.false_and]
      refine Ev.step (f := fun k => some 6) (fun k => ?_) (Ev.now _)
      simp only [spec_l11Parts.l2, if_pos p1, if_pos p2, if_pos (Int.not_le.1 hc)]
theorem s_p (h : Po.length ≤ 1048576) (h2 : Ru.length ≤ 1048576) : ∀ d i, i + d = Po.length → Ev (fun k => spec_l11Parts.l1 k (R.length : Int) (i : Nat) R W Po Ru C) (if fits_p R Po d i && fits_u R Ru Ru.length 0 then 0 else 6) := by
  intro d
  induction d with
  | zero =>
    intro i hi
    refine Ev.step (fun k => ?_) (s_u R W Po Ru C h2 Ru.length 0 (by omega))
    simp only [spec_l11Parts.l1, if_neg (show ¬ ((i : Int) < (Po.length : Int)) by omega)]
    rfl
  | succ d ih =>
    intro i hi
    have p1 : (i : Int) < (Po.length : Int) := by omega
    have p2 : (0 : Int) ≤ (i : Int) := by omega
    by_cases hc : (rd_T42 Po (i : Nat)).f1 ≤ (R.length : Int)
    · by_cases hd : (rd_T42 Po (i : Nat)).f2 ≤ (R.length : Int)
      · simp only [fits_p, decide_eq_true hc, decide_eq_true hd, Bool.true_and]
        refine Ev.step (fun k => ?_) (ih (i + 1) (by omega))
        simp only [spec_l11Parts.l1, if_pos p1, if_pos p2, if_neg (Int.not_lt.2 hc), if_neg (Int.not_lt.2 hd), wrap_succ (show i < Po.length by omega) h]
      · simp only [fits_p, decide_eq_true hc, decide_eq_false hd, Bool.false_and, Bool.and_false]
        refine Ev.step (f := fun k => some 6) (fun k => ?_) (Ev.now _)
        simp only [spec_l11Parts.l1, if_pos p1, if_pos p2, if_neg (Int.not_lt.2 hc), if_pos (Int.not_le.1 hd)]
    · simp only [fits_p, decide_eq_false hc, Bool.false_and]
      refine Ev.step (f := fun k => some 6) (fun k => ?_) (Ev.now _)
      simp only [spec_l11Parts.l1, if_pos p1, if_pos p2, if_pos (Int.not_le.1 hc)]
theorem s_w (h : W.length ≤ 1048576) (h1 : Po.length ≤ 1048576) (h2 : Ru.length ≤ 1048576) : ∀ d i, i + d = W.length → Ev (fun k => spec_l11Parts.l0 k (R.length : Int) (i : Nat) R W Po Ru C) (if fits_w R W d i && (fits_p R Po Po.length 0 && fits_u R Ru Ru.length 0) then 0 else 6) := by
  intro d
  induction d with
  | zero =>
    intro i hi
    refine Ev.step (fun k => ?_) (s_p R W Po Ru C h1 h2 Po.length 0 (by omega))
    simp only [spec_l11Parts.l0, if_neg (show ¬ ((i : Int) < (W.length : Int)) by omega)]
    rfl
  | succ d ih =>
    intro i hi
    have p1 : (i : Int) < (W.length : Int) := by omega
    have p2 : (0 : Int) ≤ (i : Int) := by omega
    by_cases hc : (rd_T35 W (i : Nat)).f0 ≤ (R.length : Int)
    · simp only [fits_w, decide_eq_true hc, Bool.true_and]
      refine Ev.step (fun k => ?_) (ih (i + 1) (by omega))
      simp only [spec_l11Parts.l0, if_pos p1, if_pos p2, if_neg (Int.not_lt.2 hc), wrap_succ (show i < W.length by omega) h]
    · simp only [fits_w, decide_eq_false hc, Bool.false_and]
      refine Ev.step (f := fun k => some 6) (fun k => ?_) (Ev.now _)
      simp only [spec_l11Parts.l0, if_pos p1, if_pos p2, if_pos (Int.not_le.1 hc)]
theorem i_u (h : Ru.length ≤ 1048576) : ∀ d i x, i + d = Ru.length → Ev (fun k => impl_partsOk.l2 k x Ru (Ru.length : Int) (i : Nat) R W Po Ru C) (decide (x ≤ (R.length : Int)) && fits_u R Ru d i) := by
  intro d
  induction d with
  | zero =>
    intro i x hi
    simp only [fits_u, Bool.and_true]
    refine Ev.step (f := fun k => some (decide (x ≤ (R.length : Int)))) (fun k => ?_) (Ev.now _)
    simp only [impl_partsOk.l2, if_neg (show ¬ ((i : Int) < (Ru.length : Int)) by omega)]
  | succ d ih =>
    intro i x hi
    have e := ih (i + 1) (mx x (rd_T40 Ru (i : Nat)).f0) (by omega)
    rw [mx_le, Bool.and_assoc] at e
    refine Ev.step (fun k => ?_) e
    simp only [impl_partsOk.l2, if_pos (show (i : Int) < (Ru.length : Int) by omega), if_pos (show (0 : Int) ≤ (i : Int) by omega), wrap_succ (show i < Ru.length by omega) h]
theorem i_p (h : Po.length ≤ 1048576) (h2 : Ru.length ≤ 1048576) : ∀ d i x, i + d = Po.length → Ev (fun k => impl_partsOk.l1 k x Po (Po.length : Int) (i : Nat) R W Po Ru C) (decide (x ≤ (R.length : Int)) && (fits_p R Po d i && fits_u R Ru Ru.length 0)) := by
  intro d
  induction d with
  | zero =>
    intro i x hi
    simp only [fits_p, Bool.true_and]
    refine Ev.step (fun k => ?_) (i_u R W Po Ru C h2 Ru.length 0 x (by omega))
    simp only [impl_partsOk.l1, if_neg (show ¬ ((i : Int) < (Po.length : Int)) by omega)]
    rfl
  | succ d ih =>
    intro i x hi
    have e := ih (i + 1) (mx (mx x (rd_T42 Po (i : Nat)).f1) (rd_T42 Po (i : Nat)).f2) (by omega)
    rw [mx_le, mx_le] at e
    have e' : (decide (x ≤ (R.length : Int)) && (fits_p R Po (d + 1) i && fits_u R Ru Ru.length 0)) = (decide (x ≤ (R.length : Int)) && decide ((rd_T42 Po (i : Nat)).f1 ≤ (R.length : Int)) && decide ((rd_T42 Po (i : Nat)).f2 ≤ (R.length : Int)) && (fits_p R Po d (i + 1) && fits_u R Ru Ru.length 0)) := by
      simp only [fits_p, Bool.and_assoc]
    rw [e']
    refine Ev.step (fun k => ?_) e
    simp only [impl_partsOk.l1, if_pos (show (i : Int) < (Po.length : Int) by omega), if_pos (show (0 : Int) ≤ (i : Int) by omega), wrap_succ (show i < Po.length by omega) h]
theorem i_w (h : W.length ≤ 1048576) (h1 : Po.length ≤ 1048576) (h2 : Ru.length ≤ 1048576) : ∀ d i x, i + d = W.length → Ev (fun k => impl_partsOk.l0 k x W (W.length : Int) (i : Nat) R W Po Ru C) (decide (x ≤ (R.length : Int)) && (fits_w R W d i && (fits_p R Po Po.length 0 && fits_u R Ru Ru.length 0))) := by
  intro d
  induction d with
  | zero =>
    intro i x hi
    simp only [fits_w, Bool.true_and]
    refine Ev.step (fun k => ?_) (i_p R W Po Ru C h1 h2 Po.length 0 x (by omega))
    simp only [impl_partsOk.l0, if_neg (show ¬ ((i : Int) < (W.length : Int)) by omega)]
    rfl
  | succ d ih =>
    intro i x hi
    have e := ih (i + 1) (mx x (rd_T35 W (i : Nat)).f0) (by omega)
    rw [mx_le, Bool.and_assoc] at e
    have e' : (decide (x ≤ (R.length : Int)) && (fits_w R W (d + 1) i && (fits_p R Po Po.length 0 && fits_u R Ru Ru.length 0))) = (decide (x ≤ (R.length : Int)) && (decide ((rd_T35 W (i : Nat)).f0 ≤ (R.length : Int)) && (fits_w R W d (i + 1) && (fits_p R Po Po.length 0 && fits_u R Ru Ru.length 0)))) := by
      simp only [fits_w, Bool.and_assoc]
    rw [e']
    refine Ev.step (fun k => ?_) e
    simp only [impl_partsOk.l0, if_pos (show (i : Int) < (W.length : Int) by omega), if_pos (show (0 : Int) ≤ (i : Int) by omega), wrap_succ (show i < W.length by omega) h]
theorem parts (h : W.length ≤ 1048576) (h1 : Po.length ≤ 1048576) (h2 : Ru.length ≤ 1048576) : ∃ b : Bool, Ev (fun k => spec_l11Parts.f k R W Po Ru C) (if b then 0 else 6) ∧ Ev (fun k => impl_partsOk.f k R W Po Ru C) b := by
  refine ⟨_, Ev.congr (fun k => rfl) (s_w R W Po Ru C h h1 h2 W.length 0 (by omega)), ?_⟩
  have e := i_w R W Po Ru C h h1 h2 W.length 0 0 (by omega)
  rw [decide_eq_true (show (0 : Int) ≤ (R.length : Int) by omega), Bool.true_and] at e
  exact Ev.congr (fun k => rfl) e
theorem codes (hC : C.length ≤ 1048576) (n : Int) (r : Int) (hr : Ev (fun k => spec_l11Parts.f k R W Po Ru C) r) :
    ∀ d i, i + d = C.length → ∃ b : Bool, Ev (fun k => spec_SetupFault.l1 k (i : Nat) R W Po Ru C) (if b then r else 5) ∧ Ev (fun k => impl_codesOk.l0 k C n C (C.length : Int) (i : Nat)) (b && ((C.length : Int) == n)) := by
  intro d
  induction d with
  | zero =>
    intro i hi
    refine ⟨true, Ev.step (fun k => ?_) hr, Ev.step (f := fun k => some ((C.length : Int) == n)) (fun k => ?_) (Ev.now _)⟩
    · simp only [spec_SetupFault.l1, if_neg (show ¬ ((i : Int) < (C.length : Int)) by omega)]
      cases spec_l11Parts.f k R W Po Ru C <;> rfl
    · simp only [impl_codesOk.l0, if_neg (show ¬ ((i : Int) < (C.length : Int)) by omega)]
  | succ d ih =>
    intro i hi
    obtain ⟨b, h1, h2⟩ := ih (i + 1) (by omega)
    obtain ⟨c, hc⟩ := code_ends (rdOf ByteArray.empty C (i : Nat))
    have hci : Ev (fun k => impl_ReadCode.f k (rdOf ByteArray.empty C (i : Nat))) c := Ev.congr (fun k => code_same k _) hc
    have p1 : (i : Int) < (C.length : Int) := by omega
    have p2 : (0 : Int) ≤ (i : Int) := by omega
    have e1 := wrap_succ (show i < C.length by omega) hC
    cases hq : c.2 with
    | false =>
      refine ⟨false, Ev.step (fun k => by simp only [spec_SetupFault.l1, if_pos p1, if_pos p2, e1] <;> rfl) (Ev.bind hc ?_), Ev.step (fun k => by simp only [impl_codesOk.l0, if_pos p1, if_pos p2, e1] <;> rfl) (Ev.bind hci ?_)⟩
      · exact Ev.congr (fun k => by simp only [hq, Bool.false_eq_true, if_false] <;> rfl) (Ev.now _)
      · exact Ev.congr (fun k => by simp only [hq, Bool.false_eq_true, if_false] <;> rfl) (Ev.now _)
    | true =>
      refine ⟨b, Ev.step (fun k => by simp only [spec_SetupFault.l1, if_pos p1, if_pos p2, e1] <;> rfl) (Ev.bind hc ?_), Ev.step (fun k => by simp only [impl_codesOk.l0, if_pos p1, if_pos p2, e1] <;> rfl) (Ev.bind hci ?_)⟩
      · exact Ev.congr (fun k => by simp only [hq, if_true] <;> rfl) h1
      · exact Ev.congr (fun k => by simp only [hq, if_true] <;> rfl) h2
theorem ports (hP : Po.length ≤ 1048576) (r : Int) (hr : Ev (fun k => (spec_RulesOk.f k Ru).bind fun t206 => (if t206 = true then (if (C.length : Int) = (R.length : Int) then (spec_SetupFault.l1 k 0 R W Po Ru C) else (some 5)) else (some 4))) r) :
    ∀ d i, i + d = Po.length → ∃ b : Bool, Ev (fun k => spec_SetupFault.l0 k (i : Nat) R W Po Ru C) (if b && (d == 0 || decide (Po.length ≤ 6)) then r else 3) ∧ Ev (fun k => impl_portsOk.l0 k Po Po (Po.length : Int) (i : Nat)) (b && decide ((Po.length : Int) ≤ 6)) := by
  intro d
  induction d with
  | zero =>
    intro i hi
    refine ⟨true, Ev.step (fun k => ?_) hr, Ev.step (f := fun k => some (decide ((Po.length : Int) ≤ 6))) (fun k => ?_) (Ev.now _)⟩
    · simp only [spec_SetupFault.l0, if_neg (show ¬ ((i : Int) < (Po.length : Int)) by omega)]
    · simp only [impl_portsOk.l0, if_neg (show ¬ ((i : Int) < (Po.length : Int)) by omega)]
  | succ d ih =>
    intro i hi
    obtain ⟨b, h1, h2⟩ := ih (i + 1) (by omega)
    obtain ⟨c, hc⟩ := Port.ends (rd_T42 Po (i : Nat)).f0 (rd_T42 Po (i : Nat)).f1 (rd_T42 Po (i : Nat)).f2 (rd_T42 Po (i : Nat)).f3 (rd_T42 Po (i : Nat)).f4
    have hci : Ev (fun k => impl_PortOk.f k (rd_T42 Po (i : Nat)).f0 (rd_T42 Po (i : Nat)).f1 (rd_T42 Po (i : Nat)).f2 (rd_T42 Po (i : Nat)).f3 (rd_T42 Po (i : Nat)).f4) c := Ev.congr (fun k => Port.same k _ _ _ _ _) hc
    have p1 : (i : Int) < (Po.length : Int) := by omega
    have p2 : (0 : Int) ≤ (i : Int) := by omega
    have e1 := wrap_succ (show i < Po.length by omega) hP
    cases c with
    | false =>
      refine ⟨false, Ev.step (fun k => by simp only [spec_SetupFault.l0, if_pos p1, if_pos p2, e1] <;> rfl) (Ev.bind hc ?_), Ev.step (fun k => by simp only [impl_portsOk.l0, if_pos p1, if_pos p2, e1] <;> rfl) (Ev.bind hci ?_)⟩
      · exact Ev.congr (fun k => by simp only [Bool.false_eq_true, if_false] <;> rfl) (Ev.now _)
      · exact Ev.congr (fun k => by simp only [Bool.false_eq_true, if_false] <;> rfl) (Ev.now _)
    | true =>
      refine ⟨b, Ev.step (fun k => by simp only [spec_SetupFault.l0, if_pos p1, if_pos p2, e1] <;> rfl) (Ev.bind hc ?_), Ev.step (fun k => by simp only [impl_portsOk.l0, if_pos p1, if_pos p2, e1] <;> rfl) (Ev.bind hci ?_)⟩
      · by_cases h6 : (i : Int) ≥ 6
        · have e : decide (Po.length ≤ 6) = false := decide_eq_false (by omega)
          refine Ev.congr (f := fun _ => some 3) (fun k => by simp only [if_true, if_pos h6]) ?_
          rw [e]
          have : ((d + 1 == 0) || false) = false := by simp
          rw [this, Bool.and_false]
          exact Ev.now _
        · refine Ev.congr (fun k => by simp only [if_true, if_neg h6] <;> rfl) ?_
          have e : (d + 1 == 0 || decide (Po.length ≤ 6)) = (d == 0 || decide (Po.length ≤ 6)) := by
            cases d with
            | zero => simp; omega
            | succ d => simp
          rw [e]
          exact h1
      · exact Ev.congr (fun k => by simp only [if_true] <;> rfl) h2
end Fault
theorem both (R : List S53) (W : List S35) (Po : List S42) (Ru : List S40) (C : List ByteArray) (hR : R.length ≤ 1048576) (hW : W.length ≤ 1048576) (hP : Po.length ≤ 1048576) (hU : Ru.length ≤ 1048576) (hC : C.length ≤ 1048576) :
    ∃ r, Ev (fun k => spec_SetupFault.f k R W Po Ru C) r ∧ Ev (fun k => impl_SetupFault.f k R W Po Ru C) r := by
  obtain ⟨b1, s1, i1⟩ := Regions.both R hR
  obtain ⟨b2, s2, i2⟩ := Plan.both W hW
  obtain ⟨b6, s6, i6⟩ := parts R W Po Ru C hW hP hU
  obtain ⟨b5, s5, i5⟩ := codes R W Po Ru C hC (R.length : Int) _ s6 C.length 0 (by omega)
  obtain ⟨b4, s4, i4⟩ : ∃ b, Ev (fun k => spec_RulesOk.f k Ru) b ∧ Ev (fun k => impl_RulesOk.f k Ru) b := ⟨_, Ev.congr (fun k => rfl) (Rules.spec_ev Ru hU Ru.length 0 (by omega)), Ev.congr (fun k => rfl) (Rules.impl_ev' Ru hU Ru.length 0 (by omega))⟩
  obtain ⟨c5, hc5⟩ : ∃ c : Bool, c = (b5 && ((C.length : Int) == (R.length : Int))) := ⟨_, rfl⟩
  obtain ⟨r4, hr4⟩ : ∃ r4 : Int, r4 = if b4 then (if c5 then (if b6 then 0 else 6) else 5) else 4 := ⟨_, rfl⟩
  have q4 : Ev (fun k => (spec_RulesOk.f k Ru).bind fun t206 => (if t206 = true then (if (C.length : Int) = (R.length : Int) then (spec_SetupFault.l1 k 0 R W Po Ru C) else (some 5)) else (some 4))) r4 := by
    refine Ev.bind (f := fun k t206 => (if t206 = true then (if (C.length : Int) = (R.length : Int) then (spec_SetupFault.l1 k 0 R W Po Ru C) else (some 5)) else (some 4))) s4 ?_
    subst hr4
    cases b4 with
    | false => exact Ev.now _
    | true =>
      by_cases hn : (C.length : Int) = (R.length : Int)
      · have e : ((C.length : Int) == (R.length : Int)) = true := by simp [hn]
        rw [e, Bool.and_true] at hc5
        subst hc5
        refine Ev.congr (fun k => by simp only [if_true, if_pos hn] <;> rfl) s5
      · have e : ((C.length : Int) == (R.length : Int)) = false := by simp; omega
        rw [e, Bool.and_false] at hc5
        subst hc5
        exact Ev.congr (f := fun _ => some 5) (fun k => by simp only [if_true, if_neg hn]) (Ev.now _)
  obtain ⟨b3, s3, i3⟩ := ports R W Po Ru C hP r4 q4 Po.length 0 (by omega)
  have e3 : (b3 && (Po.length == 0 || decide (Po.length ≤ 6))) = (b3 && decide ((Po.length : Int) ≤ 6)) := by
    congr 1
    by_cases h6 : Po.length ≤ 6
    · rw [decide_eq_true h6, decide_eq_true (show (Po.length : Int) ≤ 6 by omega), Bool.or_true]
    · rw [decide_eq_false h6, decide_eq_false (show ¬ (Po.length : Int) ≤ 6 by omega), Bool.or_false]
      exact beq_eq_false_iff_ne.2 (by omega)
  rw [e3] at s3
  obtain ⟨c3, hc3⟩ : ∃ c : Bool, c = (b3 && decide ((Po.length : Int) ≤ 6)) := ⟨_, rfl⟩
  rw [← hc3] at s3 i3
  rw [← hc5] at i5
  refine ⟨if b1 then (if b2 then (if c3 then r4 else 3) else 2) else 1, ?_, ?_⟩
  · refine Ev.congr (g := fun k => spec_SetupFault.f k R W Po Ru C) (fun k => rfl) (Ev.bind s1 ?_)
    cases b1 with
    | false => exact Ev.now _
    | true =>
      refine Ev.congr (fun k => by simp only [if_true] <;> rfl) (Ev.bind s2 ?_)
      cases b2 with
      | false => exact Ev.now _
      | true => exact Ev.congr (fun k => by simp only [if_true] <;> rfl) s3
  · refine Ev.congr (g := fun k => impl_SetupFault.f k R W Po Ru C) (fun k => rfl) (Ev.bind i1 ?_)
    cases b1 with
    | false => exact Ev.now _
    | true =>
      refine Ev.congr (fun k => by simp only [if_true] <;> rfl) (Ev.bind i2 ?_)
      cases b2 with
      | false => exact Ev.now _
      | true =>
        refine Ev.congr (fun k => by simp only [if_true] <;> rfl) (Ev.bind (a := c3) (Ev.congr (fun k => rfl) i3) ?_)
        cases c3 with
        | false => exact Ev.now _
        | true =>
          subst hr4
          refine Ev.congr (fun k => by simp only [if_true] <;> rfl) (Ev.bind i4 ?_)
          cases b4 with
          | false => exact Ev.now _
          | true =>
            refine Ev.congr (fun k => by simp only [if_true] <;> rfl) (Ev.bind (a := c5) (Ev.congr (fun k => rfl) i5) ?_)
            cases c5 with
            | false => exact Ev.now _
            | true =>
              refine Ev.congr (fun k => by simp only [if_true] <;> rfl) (Ev.bind i6 ?_)
              cases b6
              · exact Ev.now _
              · exact Ev.now _
namespace LRegion
theorem sz_big (l : List S74) (h : l.length ≤ maxLen) : laws_szRegionS.f l 1048576 = some (if l.length ≤ 1048576 then 1048576 - (l.length : Int) else -1) := by
  unfold laws_szRegionS.f
  simp only [maxLen] at h
  rw [wrap_id (by omega) (by omega)]
  by_cases hl : l.length ≤ 1048576
  · rw [if_neg (by omega), if_pos hl]
  · rw [if_pos (by omega), if_neg hl]
theorem to_list (l : List S74) (h : l.length ≤ 1048576) : ∃ L : List S53, L.length = l.length ∧ Ev (fun k => laws_toRegionS.f k l) L := by
  have key : ∀ d i (acc : List S53), acc.length = l.length → i + d = l.length → ∃ L : List S53, L.length = l.length ∧ Ev (fun k => laws_toRegionS.l0 k l acc (i : Nat)) L := by
    intro d
    induction d with
    | zero =>
      intro i acc ha hi
      refine ⟨acc, ha, Ev.step (f := fun k => some acc) (fun k => ?_) (Ev.now _)⟩
      simp only [laws_toRegionS.l0, if_neg (show ¬ ((i : Int) < (l.length : Int)) by omega)]
    | succ d ih =>
      intro i acc ha hi
      obtain ⟨L, hL, hE⟩ := ih (i + 1) (acc.set i ⟨(rd_T74 l (i : Nat)).f0, (rd_T74 l (i : Nat)).f1⟩) (by simp [ha]) (by omega)
      refine ⟨L, hL, Ev.step (fun k => ?_) hE⟩
      simp only [laws_toRegionS.l0, if_pos (show (i : Int) < (l.length : Int) by omega), if_pos (show (0 : Int) ≤ (i : Int) by omega), if_pos (show (i : Int) < (acc.length : Int) by omega), laws_toRegion.f, Option.bind_some, wrap_succ (show i < l.length by omega) h, Int.toNat_natCast]
  obtain ⟨L, hL, hE⟩ := key l.length 0 (List.replicate l.length z53) (by simp) (by omega)
  refine ⟨L, hL, Ev.congr (fun k => ?_) hE⟩
  simp only [laws_toRegionS.f, if_pos (show (0 : Int) ≤ (l.length : Int) by omega), Int.toNat_natCast, if_pos (show l.length ≤ 17592186044416 by omega)]
  rfl
theorem eq_list (L : List S53) (h : L.length ≤ 1048576) : Ev (fun k => laws_eqRegionS.f k L L) true := by
  have key : ∀ d i, i + d = L.length → Ev (fun k => laws_eqRegionS.l0 k L L (i : Nat)) true := by
    intro d
    induction d with
    | zero =>
      intro i hi
      refine Ev.step (f := fun k => some true) (fun k => ?_) (Ev.now _)
      simp only [laws_eqRegionS.l0, if_neg (show ¬ ((i : Int) < (L.length : Int)) by omega)]
    | succ d ih =>
      intro i hi
      refine Ev.step (fun k => ?_) (ih (i + 1) (by omega))
      simp only [laws_eqRegionS.l0, if_pos (show (i : Int) < (L.length : Int) by omega), if_pos (show (0 : Int) ≤ (i : Int) by omega), laws_eqRegion.f, if_true, Option.bind_some, wrap_succ (show i < L.length by omega) h]
  refine Ev.congr (fun k => ?_) (key L.length 0 (by omega))
  simp only [laws_eqRegionS.f, if_true]
  rfl
end LRegion
namespace LWindow
theorem sz_big (l : List S193) (h : l.length ≤ maxLen) : laws_szWindowS.f l 1048576 = some (if l.length ≤ 1048576 then 1048576 - (l.length : Int) else -1) := by
  unfold laws_szWindowS.f
  simp only [maxLen] at h
  rw [wrap_id (by omega) (by omega)]
  by_cases hl : l.length ≤ 1048576
  · rw [if_neg (by omega), if_pos hl]
  · rw [if_pos (by omega), if_neg hl]
theorem to_list (l : List S193) (h : l.length ≤ 1048576) : ∃ L : List S35, L.length = l.length ∧ Ev (fun k => laws_toWindowS.f k l) L := by
  have key : ∀ d i (acc : List S35), acc.length = l.length → i + d = l.length → ∃ L : List S35, L.length = l.length ∧ Ev (fun k => laws_toWindowS.l0 k l acc (i : Nat)) L := by
    intro d
    induction d with
    | zero =>
      intro i acc ha hi
      refine ⟨acc, ha, Ev.step (f := fun k => some acc) (fun k => ?_) (Ev.now _)⟩
      simp only [laws_toWindowS.l0, if_neg (show ¬ ((i : Int) < (l.length : Int)) by omega)]
    | succ d ih =>
      intro i acc ha hi
      obtain ⟨L, hL, hE⟩ := ih (i + 1) (acc.set i ⟨(rd_T193 l (i : Nat)).f0, (rd_T193 l (i : Nat)).f1⟩) (by simp [ha]) (by omega)
      refine ⟨L, hL, Ev.step (fun k => ?_) hE⟩
      simp only [laws_toWindowS.l0, if_pos (show (i : Int) < (l.length : Int) by omega), if_pos (show (0 : Int) ≤ (i : Int) by omega), if_pos (show (i : Int) < (acc.length : Int) by omega), laws_toWindow.f, Option.bind_some, wrap_succ (show i < l.length by omega) h, Int.toNat_natCast]
  obtain ⟨L, hL, hE⟩ := key l.length 0 (List.replicate l.length z35) (by simp) (by omega)
  refine ⟨L, hL, Ev.congr (fun k => ?_) hE⟩
  simp only [laws_toWindowS.f, if_pos (show (0 : Int) ≤ (l.length : Int) by omega), Int.toNat_natCast, if_pos (show l.length ≤ 17592186044416 by omega)]
  rfl
theorem eq_list (L : List S35) (h : L.length ≤ 1048576) : Ev (fun k => laws_eqWindowS.f k L L) true := by
  have key : ∀ d i, i + d = L.length → Ev (fun k => laws_eqWindowS.l0 k L L (i : Nat)) true := by
    intro d
    induction d with
    | zero =>
      intro i hi
      refine Ev.step (f := fun k => some true) (fun k => ?_) (Ev.now _)
      simp only [laws_eqWindowS.l0, if_neg (show ¬ ((i : Int) < (L.length : Int)) by omega)]
    | succ d ih =>
      intro i hi
      refine Ev.step (fun k => ?_) (ih (i + 1) (by omega))
      simp only [laws_eqWindowS.l0, if_pos (show (i : Int) < (L.length : Int) by omega), if_pos (show (0 : Int) ≤ (i : Int) by omega), laws_eqWindow.f, if_true, Option.bind_some, wrap_succ (show i < L.length by omega) h]
  refine Ev.congr (fun k => ?_) (key L.length 0 (by omega))
  simp only [laws_eqWindowS.f, if_true]
  rfl
end LWindow
namespace LPort
theorem sz_big (l : List S195) (h : l.length ≤ maxLen) : laws_szPortS.f l 1048576 = some (if l.length ≤ 1048576 then 1048576 - (l.length : Int) else -1) := by
  unfold laws_szPortS.f
  simp only [maxLen] at h
  rw [wrap_id (by omega) (by omega)]
  by_cases hl : l.length ≤ 1048576
  · rw [if_neg (by omega), if_pos hl]
  · rw [if_pos (by omega), if_neg hl]
theorem to_list (l : List S195) (h : l.length ≤ 1048576) : ∃ L : List S42, L.length = l.length ∧ Ev (fun k => laws_toPortS.f k l) L := by
  have key : ∀ d i (acc : List S42), acc.length = l.length → i + d = l.length → ∃ L : List S42, L.length = l.length ∧ Ev (fun k => laws_toPortS.l0 k l acc (i : Nat)) L := by
    intro d
    induction d with
    | zero =>
      intro i acc ha hi
      refine ⟨acc, ha, Ev.step (f := fun k => some acc) (fun k => ?_) (Ev.now _)⟩
      simp only [laws_toPortS.l0, if_neg (show ¬ ((i : Int) < (l.length : Int)) by omega)]
    | succ d ih =>
      intro i acc ha hi
      obtain ⟨L, hL, hE⟩ := ih (i + 1) (acc.set i ⟨(rd_T195 l (i : Nat)).f0, (rd_T195 l (i : Nat)).f1, (rd_T195 l (i : Nat)).f2, (rd_T195 l (i : Nat)).f3, (rd_T195 l (i : Nat)).f4⟩) (by simp [ha]) (by omega)
      refine ⟨L, hL, Ev.step (fun k => ?_) hE⟩
      simp only [laws_toPortS.l0, if_pos (show (i : Int) < (l.length : Int) by omega), if_pos (show (0 : Int) ≤ (i : Int) by omega), if_pos (show (i : Int) < (acc.length : Int) by omega), laws_toPort.f, Option.bind_some, wrap_succ (show i < l.length by omega) h, Int.toNat_natCast]
  obtain ⟨L, hL, hE⟩ := key l.length 0 (List.replicate l.length z42) (by simp) (by omega)
  refine ⟨L, hL, Ev.congr (fun k => ?_) hE⟩
  simp only [laws_toPortS.f, if_pos (show (0 : Int) ≤ (l.length : Int) by omega), Int.toNat_natCast, if_pos (show l.length ≤ 7036874417766 by omega)]
  rfl
theorem eq_list (L : List S42) (h : L.length ≤ 1048576) : Ev (fun k => laws_eqPortS.f k L L) true := by
  have key : ∀ d i, i + d = L.length → Ev (fun k => laws_eqPortS.l0 k L L (i : Nat)) true := by
    intro d
    induction d with
    | zero =>
      intro i hi
      refine Ev.step (f := fun k => some true) (fun k => ?_) (Ev.now _)
      simp only [laws_eqPortS.l0, if_neg (show ¬ ((i : Int) < (L.length : Int)) by omega)]
    | succ d ih =>
      intro i hi
      refine Ev.step (fun k => ?_) (ih (i + 1) (by omega))
      simp only [laws_eqPortS.l0, if_pos (show (i : Int) < (L.length : Int) by omega), if_pos (show (0 : Int) ≤ (i : Int) by omega), laws_eqPort.f, if_true, Option.bind_some, wrap_succ (show i < L.length by omega) h]
  refine Ev.congr (fun k => ?_) (key L.length 0 (by omega))
  simp only [laws_eqPortS.f, if_true]
  rfl
end LPort
namespace LRule
theorem sz_big (l : List S197) (h : l.length ≤ maxLen) : laws_szRuleS.f l 1048576 = some (if l.length ≤ 1048576 then 1048576 - (l.length : Int) else -1) := by
  unfold laws_szRuleS.f
  simp only [maxLen] at h
  rw [wrap_id (by omega) (by omega)]
  by_cases hl : l.length ≤ 1048576
  · rw [if_neg (by omega), if_pos hl]
  · rw [if_pos (by omega), if_neg hl]
theorem to_list (l : List S197) (h : l.length ≤ 1048576) : ∃ L : List S40, L.length = l.length ∧ Ev (fun k => laws_toRuleS.f k l) L := by
  have key : ∀ d i (acc : List S40), acc.length = l.length → i + d = l.length → ∃ L : List S40, L.length = l.length ∧ Ev (fun k => laws_toRuleS.l0 k l acc (i : Nat)) L := by
    intro d
    induction d with
    | zero =>
      intro i acc ha hi
      refine ⟨acc, ha, Ev.step (f := fun k => some acc) (fun k => ?_) (Ev.now _)⟩
      simp only [laws_toRuleS.l0, if_neg (show ¬ ((i : Int) < (l.length : Int)) by omega)]
    | succ d ih =>
      intro i acc ha hi
      obtain ⟨L, hL, hE⟩ := ih (i + 1) (acc.set i ⟨(rd_T197 l (i : Nat)).f0, (rd_T197 l (i : Nat)).f1, (rd_T197 l (i : Nat)).f2⟩) (by simp [ha]) (by omega)
      refine ⟨L, hL, Ev.step (fun k => ?_) hE⟩
      simp only [laws_toRuleS.l0, if_pos (show (i : Int) < (l.length : Int) by omega), if_pos (show (0 : Int) ≤ (i : Int) by omega), if_pos (show (i : Int) < (acc.length : Int) by omega), laws_toRule.f, Option.bind_some, wrap_succ (show i < l.length by omega) h, Int.toNat_natCast]
  obtain ⟨L, hL, hE⟩ := key l.length 0 (List.replicate l.length z40) (by simp) (by omega)
  refine ⟨L, hL, Ev.congr (fun k => ?_) hE⟩
  simp only [laws_toRuleS.f, if_pos (show (0 : Int) ≤ (l.length : Int) by omega), Int.toNat_natCast, if_pos (show l.length ≤ 11728124029610 by omega)]
  rfl
theorem eq_list (L : List S40) (h : L.length ≤ 1048576) : Ev (fun k => laws_eqRuleS.f k L L) true := by
  have key : ∀ d i, i + d = L.length → Ev (fun k => laws_eqRuleS.l0 k L L (i : Nat)) true := by
    intro d
    induction d with
    | zero =>
      intro i hi
      refine Ev.step (f := fun k => some true) (fun k => ?_) (Ev.now _)
      simp only [laws_eqRuleS.l0, if_neg (show ¬ ((i : Int) < (L.length : Int)) by omega)]
    | succ d ih =>
      intro i hi
      refine Ev.step (fun k => ?_) (ih (i + 1) (by omega))
      simp only [laws_eqRuleS.l0, if_pos (show (i : Int) < (L.length : Int) by omega), if_pos (show (0 : Int) ≤ (i : Int) by omega), laws_eqRule.f, if_true, Option.bind_some, wrap_succ (show i < L.length by omega) h]
  refine Ev.congr (fun k => ?_) (key L.length 0 (by omega))
  simp only [laws_eqRuleS.f, if_true]
  rfl
end LRule

theorem szsetup (l0 : List S74) (l1 : List S193) (l2 : List S195) (l3 : List S197) (l4 : List ByteArray) (h0 : l0.length ≤ maxLen) (h1 : l1.length ≤ maxLen) (h2 : l2.length ≤ maxLen) (h3 : l3.length ≤ maxLen) (h4 : l4.length ≤ maxLen) :
    ∃ t, Ev (fun k => laws_szSetup.f k l0 l1 l2 l3 l4 1048576) t ∧ (¬ t < 0 → l0.length ≤ 1048576 ∧ l1.length ≤ 1048576 ∧ l2.length ≤ 1048576 ∧ l3.length ≤ 1048576 ∧ l4.length ≤ 1048576) := by
  have hm : maxLen = 9223372036854775807 := rfl
  have sub : ∀ (a : Int) (n : Nat), n ≤ maxLen → 0 ≤ a → a ≤ 1048576 → wrap64 (a - (n : Int)) = a - (n : Int) := fun a n hn h0 h1 => wrap_id (by omega) (by omega)
  have neg : ∀ t : Int, t = -1 → ∃ t', Ev (fun _ : Nat => some (-1 : Int)) t' ∧ (¬ t' < 0 → l0.length ≤ 1048576 ∧ l1.length ≤ 1048576 ∧ l2.length ≤ 1048576 ∧ l3.length ≤ 1048576 ∧ l4.length ≤ 1048576) := fun _ _ => ⟨-1, Ev.now _, fun h => by omega⟩
  by_cases g0 : (1048576 : Int) - (l0.length : Int) < 0
  · obtain ⟨t, ht, hq⟩ := neg _ rfl
    exact ⟨t, Ev.congr (fun k => by simp only [laws_szSetup.f, laws_szRegionS.f, sub _ _ h0 (show (0 : Int) ≤ 1048576 by omega) (show (1048576 : Int) ≤ 1048576 by omega), if_pos g0, Option.bind_some] <;> rfl) ht, hq⟩
  · by_cases g1 : (1048576 : Int) - (l0.length : Int) - (l1.length : Int) < 0
    · obtain ⟨t, ht, hq⟩ := neg _ rfl
      exact ⟨t, Ev.congr (fun k => by simp only [laws_szSetup.f, laws_szRegionS.f, laws_szWindowS.f, sub _ _ h0 (show (0 : Int) ≤ 1048576 by omega) (show (1048576 : Int) ≤ 1048576 by omega), sub _ _ h1 (show (0 : Int) ≤ 1048576 - (l0.length : Int) by omega) (by omega), if_neg g0, if_pos g1, Option.bind_some] <;> rfl) ht, hq⟩
    · by_cases g2 : (1048576 : Int) - (l0.length : Int) - (l1.length : Int) - (l2.length : Int) < 0
      · obtain ⟨t, ht, hq⟩ := neg _ rfl
        exact ⟨t, Ev.congr (fun k => by simp only [laws_szSetup.f, laws_szRegionS.f, laws_szWindowS.f, laws_szPortS.f, sub _ _ h0 (show (0 : Int) ≤ 1048576 by omega) (show (1048576 : Int) ≤ 1048576 by omega), sub _ _ h1 (show (0 : Int) ≤ 1048576 - (l0.length : Int) by omega) (by omega), sub _ _ h2 (show (0 : Int) ≤ 1048576 - (l0.length : Int) - (l1.length : Int) by omega) (by omega), if_neg g0, if_neg g1, if_pos g2, Option.bind_some] <;> rfl) ht, hq⟩
      · by_cases g3 : (1048576 : Int) - (l0.length : Int) - (l1.length : Int) - (l2.length : Int) - (l3.length : Int) < 0
        · obtain ⟨t, ht, hq⟩ := neg _ rfl
          exact ⟨t, Ev.congr (fun k => by simp only [laws_szSetup.f, laws_szRegionS.f, laws_szWindowS.f, laws_szPortS.f, laws_szRuleS.f, sub _ _ h0 (show (0 : Int) ≤ 1048576 by omega) (show (1048576 : Int) ≤ 1048576 by omega), sub _ _ h1 (show (0 : Int) ≤ 1048576 - (l0.length : Int) by omega) (by omega), sub _ _ h2 (show (0 : Int) ≤ 1048576 - (l0.length : Int) - (l1.length : Int) by omega) (by omega), sub _ _ h3 (show (0 : Int) ≤ 1048576 - (l0.length : Int) - (l1.length : Int) - (l2.length : Int) by omega) (by omega), if_neg g0, if_neg g1, if_neg g2, if_pos g3, Option.bind_some] <;> rfl) ht, hq⟩
        · obtain ⟨t, ht, hq⟩ := szs_ev l4 h4 ((1048576 : Int) - (l0.length : Int) - (l1.length : Int) - (l2.length : Int) - (l3.length : Int)) (by omega) (by omega)
          by_cases g4 : t < 0
          · refine ⟨-1, Ev.congr (f := fun k => (laws_szStringS.f k l4 ((1048576 : Int) - (l0.length : Int) - (l1.length : Int) - (l2.length : Int) - (l3.length : Int))).bind fun t164 => if t164 < 0 then some (-1) else some t164) (fun k => by simp only [laws_szSetup.f, laws_szRegionS.f, laws_szWindowS.f, laws_szPortS.f, laws_szRuleS.f, sub _ _ h0 (show (0 : Int) ≤ 1048576 by omega) (show (1048576 : Int) ≤ 1048576 by omega), sub _ _ h1 (show (0 : Int) ≤ 1048576 - (l0.length : Int) by omega) (by omega), sub _ _ h2 (show (0 : Int) ≤ 1048576 - (l0.length : Int) - (l1.length : Int) by omega) (by omega), sub _ _ h3 (show (0 : Int) ≤ 1048576 - (l0.length : Int) - (l1.length : Int) - (l2.length : Int) by omega) (by omega), if_neg g0, if_neg g1, if_neg g2, if_neg g3, Option.bind_some]) (Ev.bind (f := fun _ t164 => if t164 < 0 then some (-1) else some t164) ht (Ev.congr (fun k => by simp only [if_pos g4] <;> rfl) (Ev.now _))), fun h => by omega⟩
          · refine ⟨t, Ev.congr (f := fun k => (laws_szStringS.f k l4 ((1048576 : Int) - (l0.length : Int) - (l1.length : Int) - (l2.length : Int) - (l3.length : Int))).bind fun t164 => if t164 < 0 then some (-1) else some t164) (fun k => by simp only [laws_szSetup.f, laws_szRegionS.f, laws_szWindowS.f, laws_szPortS.f, laws_szRuleS.f, sub _ _ h0 (show (0 : Int) ≤ 1048576 by omega) (show (1048576 : Int) ≤ 1048576 by omega), sub _ _ h1 (show (0 : Int) ≤ 1048576 - (l0.length : Int) by omega) (by omega), sub _ _ h2 (show (0 : Int) ≤ 1048576 - (l0.length : Int) - (l1.length : Int) by omega) (by omega), sub _ _ h3 (show (0 : Int) ≤ 1048576 - (l0.length : Int) - (l1.length : Int) - (l2.length : Int) by omega) (by omega), if_neg g0, if_neg g1, if_neg g2, if_neg g3, Option.bind_some]) (Ev.bind (f := fun _ t164 => if t164 < 0 then some (-1) else some t164) ht (Ev.congr (fun k => by simp only [if_neg g4] <;> rfl) (Ev.now _))), fun _ => ⟨by omega, by omega, by omega, by omega, hq g4⟩⟩
theorem FnExactSetupFault : ∀ (l0 : List S74) (l1 : List S193) (l2 : List S195) (l3 : List S197) (l4 : List ByteArray), (((∀ y, y ∈ l0 → ((Lit.int .i64 y.f0).wf = true) ∧ ((Lit.int .i64 y.f1).wf = true)) ∧ l0.length ≤ maxLen) ∧ ((∀ y, y ∈ l1 → ((Lit.int .i64 y.f0).wf = true) ∧ ((Lit.int .i64 y.f1).wf = true)) ∧ l1.length ≤ maxLen) ∧ ((∀ y, y ∈ l2 → ((Lit.int .i64 y.f0).wf = true) ∧ ((Lit.int .i64 y.f1).wf = true) ∧ ((Lit.int .i64 y.f2).wf = true) ∧ ((Lit.int .i64 y.f3).wf = true) ∧ ((Lit.int .i64 y.f4).wf = true)) ∧ l2.length ≤ maxLen) ∧ ((∀ y, y ∈ l3 → ((Lit.int .i64 y.f0).wf = true) ∧ ((Lit.int .i64 y.f1).wf = true) ∧ ((Lit.int .i64 y.f2).wf = true)) ∧ l3.length ≤ maxLen) ∧ ((∀ y, y ∈ l4 → y.size ≤ maxLen) ∧ l4.length ≤ maxLen)) → ∃ k, laws_FnExactSetupFault.f k l0 l1 l2 l3 l4 = some true := by
  rintro l0 l1 l2 l3 l4 ⟨⟨_, h0⟩, ⟨_, h1⟩, ⟨_, h2⟩, ⟨_, h3⟩, ⟨_, h4⟩⟩
  obtain ⟨t, ht, hq⟩ := szsetup l0 l1 l2 l3 l4 h0 h1 h2 h3 h4
  suffices h : Ev (fun k => laws_FnExactSetupFault.f k l0 l1 l2 l3 l4) true by
    obtain ⟨K, hK⟩ := h
    exact ⟨K, hK K (Nat.le_refl _)⟩
  refine Ev.congr (g := fun k => laws_FnExactSetupFault.f k l0 l1 l2 l3 l4) (fun k => rfl) (Ev.bind ht ?_)
  by_cases g : t < 0
  · exact Ev.congr (fun k => by simp only [if_pos g] <;> rfl) (Ev.now _)
  · obtain ⟨b0, b1, b2, b3, b4⟩ := hq g
    obtain ⟨R, hR, cR⟩ := LRegion.to_list l0 b0
    obtain ⟨W, hW, cW⟩ := LWindow.to_list l1 b1
    obtain ⟨P, hP, cP⟩ := LPort.to_list l2 b2
    obtain ⟨U, hU, cU⟩ := LRule.to_list l3 b3
    obtain ⟨C, hC, cC⟩ := cps_ev l4 b4
    obtain ⟨r, hs, hi⟩ := both R W P U C (by omega) (by omega) (by omega) (by omega) (by omega)
    have hto : Ev (fun k => laws_toSetup.f k l0 l1 l2 l3 l4) (R, W, P, U, C) :=
      Ev.congr (fun k => rfl) (Ev.bind cR (Ev.bind cW (Ev.bind cP (Ev.bind cU (Ev.bind cC (Ev.now (R, W, P, U, C)))))))
    have hback : Ev (fun k => laws_eqSetup.f k R W P U C R W P U C) true := by
      refine Ev.congr (g := fun k => laws_eqSetup.f k R W P U C R W P U C) (fun k => rfl) (Ev.bind (LRegion.eq_list R (by omega)) ?_)
      refine Ev.congr (fun k => by rw [if_pos rfl]) (Ev.bind (LWindow.eq_list W (by omega)) ?_)
      refine Ev.congr (fun k => by rw [if_pos rfl]) (Ev.bind (LPort.eq_list P (by omega)) ?_)
      refine Ev.congr (fun k => by rw [if_pos rfl]) (Ev.bind (LRule.eq_list U (by omega)) ?_)
      refine Ev.congr (fun k => by rw [if_pos rfl]) (Ev.bind (eqs_ev C (by omega)) ?_)
      exact Ev.congr (fun k => by rw [if_pos rfl]) (Ev.now true)
    refine Ev.congr (fun k => by rw [if_neg g]) (Ev.bind hto ?_)
    refine Ev.bind (f := fun n t326 => (laws_toSetup.f n l0 l1 l2 l3 l4).bind fun bt327 => (impl_SetupFault.f n bt327.1 bt327.2.1 bt327.2.2.1 bt327.2.2.2.1 bt327.2.2.2.2).bind fun t343 => (if t343 = t326 then ((laws_toSetup.f n l0 l1 l2 l3 l4).bind fun bt344 => ((laws_eqSetup.f n bt327.1 bt327.2.1 bt327.2.2.1 bt327.2.2.2.1 bt327.2.2.2.2 bt344.1 bt344.2.1 bt344.2.2.1 bt344.2.2.2.1 bt344.2.2.2.2).bind fun t359 => (if t359 = true then (some true) else (some false)))) else (some false))) hs ?_
    refine Ev.bind hto ?_
    refine Ev.bind (f := fun n t343 => (if t343 = r then ((laws_toSetup.f n l0 l1 l2 l3 l4).bind fun bt344 => ((laws_eqSetup.f n R W P U C bt344.1 bt344.2.1 bt344.2.2.1 bt344.2.2.2.1 bt344.2.2.2.2).bind fun t359 => (if t359 = true then (some true) else (some false)))) else (some false))) hi ?_
    refine Ev.congr (fun k => by rw [if_pos rfl]) (Ev.bind hto ?_)
    refine Ev.bind (f := fun _ t359 => (if t359 = true then (some true) else (some false))) hback ?_
    exact Ev.congr (fun k => by rw [if_pos rfl]) (Ev.now true)

end Go.Proofs.Ytcnaldcinkmpbaa.Pure
