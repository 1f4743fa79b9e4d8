/- The pure statement of FnExactRulesOk: both tell the same of every list of rules. No condition. -/
import Derived.Test.YtbnmhfglkbkbnaaPFnExactRulesOkx3
namespace Go.Proofs.Ytbnmhfglkbkbnaa.Pure
open Go.RowKit Go.Proofs.Ytbnmhfglkbkbnaa.PFnExactRulesOk Go.Proofs.YtbnmhfglkbkbnaaW.PrintWords Go.Proofs.YtbnmhfglkbkbnaaW.PrintLast
set_option linter.unusedVariables false
set_option linter.unusedSimpArgs false
theorem wrap_id {n : Int} (h0 : -9223372036854775808 ≤ n) (h1 : n ≤ 9223372036854775807) : wrap64 n = n := by unfold wrap64; omega
theorem wrap_succ {i n : Nat} (h : i < n) (hn : n ≤ 1048576) : wrap64 ((i : Int) + 1) = ((i + 1 : Nat) : Int) := by rw [wrap_id (by omega) (by omega)]; omega
theorem ev_now {α : Type} {g : Nat → Option α} {r : α} (h : ∀ k, g k = some r) : Ev g r := ⟨0, fun k _ => h k⟩
theorem ev_all {α : Type} {g : Nat → Option α} {r : α} (h : Ev g r) : ∃ K, ∀ k, K ≤ k → g k = some r := h
theorem sz_big (l : List S119) (h : l.length ≤ maxLen) : laws_szRuleS.f l 1048576 = some (if l.length ≤ 1048576 then 1048576 - (l.length : Int) else -1) := by
  unfold laws_szRuleS.f
  simp only [maxLen] at h
  rw [wrap_id (by omega) (by omega)]
  by_cases hl : l.length ≤ 1048576
  · rw [if_neg (by omega), if_pos hl]
  · rw [if_pos (by omega), if_neg hl]
theorem to_list (l : List S119) (h : l.length ≤ 1048576) : ∃ L : List S117, L.length = l.length ∧ Ev (fun k => laws_toRuleS.f k l) L := by
  have key : ∀ d i (acc : List S117), acc.length = l.length → i + d = l.length → ∃ L : List S117, L.length = l.length ∧ Ev (fun k => laws_toRuleS.l0 k l acc (i : Nat)) L := by
    intro d
    induction d with
    | zero =>
      intro i acc ha hi
      refine ⟨acc, ha, Ev.step (f := fun k => some acc) (fun k => ?_) (Ev.now _)⟩
      simp only [laws_toRuleS.l0, if_neg (show ¬ ((i : Int) < (l.length : Int)) by omega)]
    | succ d ih =>
      intro i acc ha hi
      obtain ⟨L, hL, hE⟩ := ih (i + 1) (acc.set i ⟨(rd_T119 l (i : Nat)).f0, (rd_T119 l (i : Nat)).f1, (rd_T119 l (i : Nat)).f2⟩) (by simp [ha]) (by omega)
      refine ⟨L, hL, Ev.step (fun k => ?_) hE⟩
      simp only [laws_toRuleS.l0, if_pos (show (i : Int) < (l.length : Int) by omega), if_pos (show (0 : Int) ≤ (i : Int) by omega), if_pos (show (i : Int) < (acc.length : Int) by omega), laws_toRule.f, Option.bind_some, wrap_succ (show i < l.length by omega) h, Int.toNat_natCast]
  obtain ⟨L, hL, hE⟩ := key l.length 0 (List.replicate l.length z117) (by simp) (by omega)
  refine ⟨L, hL, Ev.congr (fun k => ?_) hE⟩
  simp only [laws_toRuleS.f, if_pos (show (0 : Int) ≤ (l.length : Int) by omega), Int.toNat_natCast, if_pos (show l.length ≤ 11728124029610 by omega)]
  rfl
theorem eq_list (L : List S117) (h : L.length ≤ 1048576) : Ev (fun k => laws_eqRuleS.f k L L) true := by
  have key : ∀ d i, i + d = L.length → Ev (fun k => laws_eqRuleS.l0 k L L (i : Nat)) true := by
    intro d
    induction d with
    | zero =>
      intro i hi
      refine Ev.step (f := fun k => some true) (fun k => ?_) (Ev.now _)
      simp only [laws_eqRuleS.l0, if_neg (show ¬ ((i : Int) < (L.length : Int)) by omega)]
    | succ d ih =>
      intro i hi
      refine Ev.step (fun k => ?_) (ih (i + 1) (by omega))
      simp only [laws_eqRuleS.l0, if_pos (show (i : Int) < (L.length : Int) by omega), if_pos (show (0 : Int) ≤ (i : Int) by omega), laws_eqRule.f, if_true, Option.bind_some, wrap_succ (show i < L.length by omega) h]
  refine Ev.congr (fun k => ?_) (key L.length 0 (by omega))
  simp only [laws_eqRuleS.f, if_true]
  rfl

def fits (L : List S117) (a b : Int) (i : Nat) : Bool := decide ((rd_T117 L (i : Nat)).f0 = a ∧ (rd_T117 L (i : Nat)).f1 = b)
def first (L : List S117) (a b : Int) : Nat → Nat → Option Nat
  | 0, _ => none
  | d + 1, i => if fits L a b i then some i else first L a b d (i + 1)
def inn (a b c : Int) : Bool := decide (a ≥ b) && decide (a ≤ c)
theorem in_s (a b c : Int) : spec_l01In.f a b c = some (inn a b c) := by unfold spec_l01In.f inn; by_cases h : a ≥ b <;> simp [h]
theorem in_i (a b c : Int) : impl_within.f a b c = some (inn a b c) := by unfold impl_within.f inn; by_cases h : a ≥ b <;> simp [h]
theorem part_i (a : Int) : impl_isPart.f a = some (inn a 1 4) := by unfold impl_isPart.f; rw [in_i]; rfl
def out3 (L : List S117) (i : Nat) : Bool := !(inn (rd_T117 L (i : Nat)).f0 1 4) || !(inn (rd_T117 L (i : Nat)).f1 1 2) || !(inn (rd_T117 L (i : Nat)).f2 0 4)
def idle (L : List S117) (i : Nat) : Bool := decide ((rd_T117 L (i : Nat)).f1 = 1) && decide ((rd_T117 L (i : Nat)).f2 = 0)
def out (L : List S117) (i : Nat) : Bool := out3 L i || idle L i
def val (L : List S117) : Nat → Nat → Bool
  | 0, _ => decide ((L.length : Int) ≤ 8)
  | d + 1, i => if out L i || (first L (rd_T117 L (i : Nat)).f0 (rd_T117 L (i : Nat)).f1 i 0).isSome then false else val L d (i + 1)
theorem first_lt (L : List S117) (a b : Int) : ∀ d i j, first L a b d i = some j → i ≤ j ∧ j < i + d := by
  intro d
  induction d with
  | zero => intro i j h; simp [first] at h
  | succ d ih =>
    intro i j h
    unfold first at h
    split at h
    · simp at h; omega
    · have := ih _ _ h; omega
theorem first_split (L : List S117) (a b : Int) (e : Nat) : ∀ d i, first L a b (d + e) i = match first L a b d i with | some j => some j | none => first L a b e (i + d) := by
  intro d
  induction d with
  | zero => intro i; simp [first]
  | succ d ih =>
    intro i
    have e1 : ∀ n, first L a b (n + 1) i = if fits L a b i then some i else first L a b n (i + 1) := fun n => rfl
    rw [show d + 1 + e = (d + e) + 1 by omega, e1, e1, ih (i + 1), show i + 1 + d = i + (d + 1) by omega]
    by_cases hf : fits L a b i = true
    · simp [hf]
    · rw [if_neg hf, if_neg hf]
theorem find_ev (L : List S117) (h : L.length ≤ 1048576) (a b : Int) : ∀ d i, i + d = L.length → Ev (fun k => impl_ruleFor.l0 k a b L (L.length : Int) (i : Nat)) (match first L a b d i with | none => -1 | some j => (j : Int)) := by
  intro d
  induction d with
  | zero =>
    intro i hi
    refine Ev.step (f := fun k => some (-1)) (fun k => ?_) (Ev.now _)
    simp only [impl_ruleFor.l0, if_neg (show ¬ ((i : Int) < (L.length : Int)) by omega)]
  | succ d ih =>
    intro i hi
    by_cases hf : fits L a b i = true
    · have e : first L a b (d + 1) i = some i := by simp [first, hf]
      rw [e]
      unfold fits at hf
      obtain ⟨h0, h1⟩ := of_decide_eq_true hf
      refine Ev.step (f := fun k => some (i : Int)) (fun k => ?_) (Ev.now _)
      simp only [impl_ruleFor.l0, if_pos (show (i : Int) < (L.length : Int) by omega), if_pos (show (0 : Int) ≤ (i : Int) by omega), if_pos h0, if_pos h1]
    · have e : first L a b (d + 1) i = first L a b d (i + 1) := by simp [first, hf]
      rw [e]
      refine Ev.step (fun k => ?_) (ih (i + 1) (by omega))
      simp only [impl_ruleFor.l0, if_pos (show (i : Int) < (L.length : Int) by omega), if_pos (show (0 : Int) ≤ (i : Int) by omega), wrap_succ (show i < L.length by omega) h]
      unfold fits at hf
      simp only [decide_eq_true_eq, not_and] at hf
      by_cases h0 : (rd_T117 L (i : Nat)).f0 = a
      · rw [if_pos h0, if_neg (hf h0)]
      · rw [if_neg h0]
theorem inner (L : List S117) (h : L.length ≤ 1048576) (i : Nat) (hi : i < L.length) (a b c : Int) (r : Bool) (hr : Ev (fun k => spec_RulesOk.l0 k L ((i + 1 : Nat) : Int)) r) :
    ∀ d j, j + d = i → Ev (fun k => spec_RulesOk.l1 k L (i : Nat) (j : Nat) a b c) (if (first L a b d j).isSome then false else r) := by
  intro d
  induction d with
  | zero =>
    intro j hj
    refine Ev.step (fun k => ?_) hr
    simp only [spec_RulesOk.l1, if_neg (show ¬ ((j : Int) < (i : Int)) by omega), wrap_succ (show i < L.length by omega) h]
  | succ d ih =>
    intro j hj
    by_cases hf : fits L a b j = true
    · have e : first L a b (d + 1) j = some j := by simp [first, hf]
      rw [e]
      unfold fits at hf
      obtain ⟨h0, h1⟩ := of_decide_eq_true hf
      refine Ev.step (f := fun k => some false) (fun k => ?_) (Ev.now _)
      simp only [spec_RulesOk.l1, if_pos (show (j : Int) < (i : Int) by omega), if_pos (show (j : Int) < (L.length : Int) by omega), if_pos (show (0 : Int) ≤ (j : Int) by omega), if_pos h0, if_pos h1]
    · have e : first L a b (d + 1) j = first L a b d (j + 1) := by simp [first, hf]
      rw [e]
      refine Ev.step (fun k => ?_) (ih (j + 1) (by omega))
      simp only [spec_RulesOk.l1, if_pos (show (j : Int) < (i : Int) by omega), if_pos (show (j : Int) < (L.length : Int) by omega), if_pos (show (0 : Int) ≤ (j : Int) by omega), wrap_succ (show j < L.length by omega) h]
      unfold fits at hf
      simp only [decide_eq_true_eq, not_and] at hf
      by_cases h0 : (rd_T117 L (j : Nat)).f0 = a
      · rw [if_pos h0, if_neg (hf h0)]
      · rw [if_neg h0]
theorem s_step (L : List S117) (i : Nat) (hi : i < L.length) (k : Nat) : spec_RulesOk.l0 (k + 1) L (i : Nat) = spec_RulesOk.j1 k L (i : Nat) (out L i) (rd_T117 L (i : Nat)).f0 (rd_T117 L (i : Nat)).f1 (rd_T117 L (i : Nat)).f2 := by
  simp only [spec_RulesOk.l0, if_pos (show (i : Int) < (L.length : Int) by omega), if_pos (show (0 : Int) ≤ (i : Int) by omega), in_s, Option.bind_some, out, out3, idle]
  cases inn (rd_T117 L (i : Nat)).f0 1 4 <;> cases inn (rd_T117 L (i : Nat)).f1 1 2 <;> cases inn (rd_T117 L (i : Nat)).f2 0 4 <;> simp
  by_cases h1 : (rd_T117 L (i : Nat)).f1 = 1
  · simp [h1]
    congr 1
  · simp [h1]
theorem i_step (L : List S117) (i : Nat) (hi : i < L.length) (k : Nat) : impl_RulesOk.l0 (k + 1) L L (L.length : Int) (i : Nat) = impl_RulesOk.j1 k L (i : Nat) L (L.length : Int) (i : Nat) (out3 L i) (rd_T117 L (i : Nat)).f0 (rd_T117 L (i : Nat)).f1 (rd_T117 L (i : Nat)).f2 := by
  simp only [impl_RulesOk.l0, if_pos (show (i : Int) < (L.length : Int) by omega), if_pos (show (0 : Int) ≤ (i : Int) by omega), in_i, part_i, Option.bind_some, out3]
  cases inn (rd_T117 L (i : Nat)).f0 1 4 <;> cases inn (rd_T117 L (i : Nat)).f1 1 2 <;> cases inn (rd_T117 L (i : Nat)).f2 0 4 <;> simp
theorem spec_ev (L : List S117) (h : L.length ≤ 1048576) : ∀ d i, i + d = L.length → Ev (fun k => spec_RulesOk.l0 k L (i : Nat)) (val L d i) := by
  intro d
  induction d with
  | zero =>
    intro i hi
    refine Ev.step (f := fun k => some (val L 0 i)) (fun k => ?_) (Ev.now _)
    simp only [spec_RulesOk.l0, if_neg (show ¬ ((i : Int) < (L.length : Int)) by omega), val]
  | succ d ih =>
    intro i hi
    refine Ev.step (fun k => s_step L i (by omega) k) ?_
    have hin := inner L h i (by omega) (rd_T117 L (i : Nat)).f0 (rd_T117 L (i : Nat)).f1 (rd_T117 L (i : Nat)).f2 _ (ih (i + 1) (by omega)) i 0 (by omega)
    cases ho : out L i with
    | true =>
      refine Ev.step (f := fun k => some (val L (d + 1) i)) (fun k => ?_) (Ev.now _)
      simp [spec_RulesOk.j1, val, ho]
    | false =>
      simp only [val, ho, Bool.false_or]
      refine Ev.step (fun k => ?_) hin
      simp only [spec_RulesOk.j1, Bool.false_eq_true, if_false]
      rfl
theorem impl_ev' (L : List S117) (h : L.length ≤ 1048576) : ∀ d i, i + d = L.length → Ev (fun k => impl_RulesOk.l0 k L L (L.length : Int) (i : Nat)) (val L d i) := by
  intro d
  induction d with
  | zero =>
    intro i hi
    refine Ev.step (f := fun k => some (val L 0 i)) (fun k => ?_) (Ev.now _)
    simp only [impl_RulesOk.l0, if_neg (show ¬ ((i : Int) < (L.length : Int)) by omega), val]
  | succ d ih =>
    intro i hi
    refine Ev.step (fun k => i_step L i (by omega) k) ?_
    cases ho : out3 L i with
    | true =>
      refine Ev.step (f := fun k => some (val L (d + 1) i)) (fun k => ?_) (Ev.now _)
      simp [impl_RulesOk.j1, val, out, ho]
    | false =>
      obtain ⟨K1, h1⟩ := find_ev L h (rd_T117 L (i : Nat)).f0 (rd_T117 L (i : Nat)).f1 L.length 0 (by omega)
      obtain ⟨K2, h2⟩ := ih (i + 1) (by omega)
      refine ⟨max K1 K2 + 1, fun k hk => ?_⟩
      obtain ⟨k, rfl⟩ : ∃ k', k = k' + 1 := ⟨k - 1, by omega⟩
      have h1 := h1 k (by omega)
      have h2 := h2 k (by omega)
      have hz : ((0 : Nat) : Int) = 0 := rfl
      simp only [hz] at h1
      simp only [impl_RulesOk.j1, Bool.false_eq_true, if_false, impl_ruleFor.f, h1, Option.bind_some]
      have hs := first_split L (rd_T117 L (i : Nat)).f0 (rd_T117 L (i : Nat)).f1 (d + 1) i 0
      rw [show i + (d + 1) = L.length by omega] at hs
      simp only [Nat.zero_add] at hs
      rw [hs]
      cases hq : first L (rd_T117 L (i : Nat)).f0 (rd_T117 L (i : Nat)).f1 i 0 with
      | some j =>
        have := first_lt L _ _ _ _ _ hq
        simp only [if_neg (show ¬ ((j : Int) = (i : Int)) by omega), val, hq]
        simp
      | none =>
        have hfit : fits L (rd_T117 L (i : Nat)).f0 (rd_T117 L (i : Nat)).f1 i = true := by unfold fits; simp
        have e : first L (rd_T117 L (i : Nat)).f0 (rd_T117 L (i : Nat)).f1 (d + 1) i = some i := by simp only [first, hfit, if_true]
        simp only [e, if_true, val, hq, out, ho, idle, wrap_succ (show i < L.length by omega) h, h2]
        by_cases h1 : (rd_T117 L (i : Nat)).f1 = 1
        · by_cases h3 : (rd_T117 L (i : Nat)).f2 = 0 <;> simp [h1, h3]
        · simp [h1]
theorem FnExactRulesOk : ∀ (x0 : (List S119)), ((∀ y, y ∈ x0 → ((Lit.int .i64 y.f0).wf = true) ∧ ((Lit.int .i64 y.f1).wf = true) ∧ ((Lit.int .i64 y.f2).wf = true)) ∧ x0.length ≤ maxLen) → ∃ k, laws_FnExactRulesOk.f k x0 = some true := by
  intro x0 G0
  obtain ⟨_, hl⟩ := G0
  by_cases h : x0.length ≤ 1048576
  · obtain ⟨L, hL, hto⟩ := to_list x0 h
    have heq := eq_list L (by omega)
    obtain ⟨K1, h1⟩ := hto
    obtain ⟨K2, h2⟩ := heq
    obtain ⟨K3, h3⟩ := spec_ev L (by omega) L.length 0 (by omega)
    obtain ⟨K4, h4⟩ := impl_ev' L (by omega) L.length 0 (by omega)
    have h3 := h3 (max (max K1 K2) (max K3 K4)) (by omega)
    have h4 := h4 (max (max K1 K2) (max K3 K4)) (by omega)
    have hz : ((0 : Nat) : Int) = 0 := rfl
    simp only [hz] at h3 h4
    refine ⟨max (max K1 K2) (max K3 K4), ?_⟩
    simp only [laws_FnExactRulesOk.f, sz_big x0 hl, if_pos h, Option.bind_some, if_neg (show ¬ ((1048576 : Int) - (x0.length : Int) < 0) by omega), h1 _ (show K1 ≤ max (max K1 K2) (max K3 K4) by omega), h2 _ (show K2 ≤ max (max K1 K2) (max K3 K4) by omega), spec_RulesOk.f, impl_RulesOk.f, h3, h4]
    simp
  · refine ⟨0, ?_⟩
    simp only [laws_FnExactRulesOk.f, sz_big x0 hl, if_neg h, Option.bind_some]
    rfl

end Go.Proofs.Ytbnmhfglkbkbnaa.Pure
