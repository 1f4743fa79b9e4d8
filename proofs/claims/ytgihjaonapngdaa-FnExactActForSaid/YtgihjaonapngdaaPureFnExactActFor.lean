/- The pure statement of FnExactActFor: the first rule that fits gives both the act. No condition. -/
import Derived.Test.YtgihjaonapngdaaPFnExactActForx2
namespace Go.Proofs.Ytgihjaonapngdaa.Pure
open Go.RowKit Go.Proofs.Ytgihjaonapngdaa.PFnExactActFor Go.Proofs.YtgihjaonapngdaaW.PrintWords Go.Proofs.YtgihjaonapngdaaW.PrintLast
set_option linter.unusedVariables false
set_option linter.unusedSimpArgs false
theorem wrap_id {n : Int} (h0 : -9223372036854775808 ≤ n) (h1 : n ≤ 9223372036854775807) : wrap64 n = n := by unfold wrap64; omega
theorem wrap_succ {i n : Nat} (h : i < n) (hn : n ≤ 1048576) : wrap64 ((i : Int) + 1) = ((i + 1 : Nat) : Int) := by rw [wrap_id (by omega) (by omega)]; omega
theorem ev_now {α : Type} {g : Nat → Option α} {r : α} (h : ∀ k, g k = some r) : Ev g r := ⟨0, fun k _ => h k⟩
theorem ev_all {α : Type} {g : Nat → Option α} {r : α} (h : Ev g r) : ∃ K, ∀ k, K ≤ k → g k = some r := h
theorem sz_big (l : List S96) (h : l.length ≤ maxLen) : laws_szRuleS.f l 1048576 = some (if l.length ≤ 1048576 then 1048576 - (l.length : Int) else -1) := by
  unfold laws_szRuleS.f
  simp only [maxLen] at h
  rw [wrap_id (by omega) (by omega)]
  by_cases hl : l.length ≤ 1048576
  · rw [if_neg (by omega), if_pos hl]
  · rw [if_pos (by omega), if_neg hl]
theorem to_list (l : List S96) (h : l.length ≤ 1048576) : ∃ L : List S44, L.length = l.length ∧ Ev (fun k => laws_toRuleS.f k l) L := by
  have key : ∀ d i (acc : List S44), acc.length = l.length → i + d = l.length → ∃ L : List S44, L.length = l.length ∧ Ev (fun k => laws_toRuleS.l0 k l acc (i : Nat)) L := by
    intro d
    induction d with
    | zero =>
      intro i acc ha hi
      refine ⟨acc, ha, Ev.step (f := fun k => some acc) (fun k => ?_) (Ev.now _)⟩
      simp only [laws_toRuleS.l0, if_neg (show ¬ ((i : Int) < (l.length : Int)) by omega)]
    | succ d ih =>
      intro i acc ha hi
      obtain ⟨L, hL, hE⟩ := ih (i + 1) (acc.set i ⟨(rd_T96 l (i : Nat)).f0, (rd_T96 l (i : Nat)).f1, (rd_T96 l (i : Nat)).f2⟩) (by simp [ha]) (by omega)
      refine ⟨L, hL, Ev.step (fun k => ?_) hE⟩
      simp only [laws_toRuleS.l0, if_pos (show (i : Int) < (l.length : Int) by omega), if_pos (show (0 : Int) ≤ (i : Int) by omega), if_pos (show (i : Int) < (acc.length : Int) by omega), laws_toRule.f, Option.bind_some, wrap_succ (show i < l.length by omega) h, Int.toNat_natCast]
  obtain ⟨L, hL, hE⟩ := key l.length 0 (List.replicate l.length z44) (by simp) (by omega)
  refine ⟨L, hL, Ev.congr (fun k => ?_) hE⟩
  simp only [laws_toRuleS.f, if_pos (show (0 : Int) ≤ (l.length : Int) by omega), Int.toNat_natCast, if_pos (show l.length ≤ 11728124029610 by omega)]
  rfl
theorem eq_list (L : List S44) (h : L.length ≤ 1048576) : Ev (fun k => laws_eqRuleS.f k L L) true := by
  have key : ∀ d i, i + d = L.length → Ev (fun k => laws_eqRuleS.l0 k L L (i : Nat)) true := by
    intro d
    induction d with
    | zero =>
      intro i hi
      refine Ev.step (f := fun k => some true) (fun k => ?_) (Ev.now _)
      simp only [laws_eqRuleS.l0, if_neg (show ¬ ((i : Int) < (L.length : Int)) by omega)]
    | succ d ih =>
      intro i hi
      refine Ev.step (fun k => ?_) (ih (i + 1) (by omega))
      simp only [laws_eqRuleS.l0, if_pos (show (i : Int) < (L.length : Int) by omega), if_pos (show (0 : Int) ≤ (i : Int) by omega), laws_eqRule.f, if_true, Option.bind_some, wrap_succ (show i < L.length by omega) h]
  refine Ev.congr (fun k => ?_) (key L.length 0 (by omega))
  simp only [laws_eqRuleS.f, if_true]
  rfl

def fits (L : List S44) (a b : Int) (i : Nat) : Bool := decide ((rd_T44 L (i : Nat)).f0 = a ∧ (rd_T44 L (i : Nat)).f1 = b)
def first (L : List S44) (a b : Int) : Nat → Nat → Option Nat
  | 0, _ => none
  | d + 1, i => if fits L a b i then some i else first L a b d (i + 1)
def act (L : List S44) (x : Int) : Option Nat → Int
  | none => x
  | some i => (rd_T44 L (i : Nat)).f2
def last (v x3 : Int) : Option Int := if v = 1 then (if x3 ≥ 3 then some 3 else some v) else (if v = 2 then (if x3 ≥ 3 then some 3 else some v) else some v)
theorem first_lt (L : List S44) (a b : Int) : ∀ d i j, first L a b d i = some j → i ≤ j ∧ j < i + d := by
  intro d
  induction d with
  | zero => intro i j h; simp [first] at h
  | succ d ih =>
    intro i j h
    unfold first at h
    split at h
    · simp at h; omega
    · have := ih _ _ h; omega
theorem last_some (v x : Int) : ∃ r, last v x = some r := by unfold last; split <;> (try split) <;> (try split) <;> exact ⟨_, rfl⟩
theorem spec_ev (L : List S44) (h : L.length ≤ 1048576) (a b c x : Int) {r : Int} (hr : last (act L x (first L a b L.length 0)) c = some r) :
    ∀ i d, i + d = L.length → Ev (fun k => spec_ActFor.l0 k L a b c (act L x (first L a b d i)) ((i : Int) - 1)) r := by
  intro i
  induction i with
  | zero =>
    intro d hd
    obtain rfl : d = L.length := by omega
    refine Ev.step (f := fun k => some r) (fun k => ?_) (Ev.now _)
    simp only [spec_ActFor.l0, if_neg (show ¬ (((0 : Nat) : Int) - 1 ≥ 0) by omega)]
    exact hr
  | succ i ih =>
    intro d hd
    have hE := ih (d + 1) (by omega)
    refine Ev.step (fun k => ?_) hE
    have e1 : (((i + 1 : Nat) : Int) - 1) = (i : Int) := by omega
    have e2 : wrap64 ((i : Int) - 1) = (i : Int) - 1 := wrap_id (by omega) (by omega)
    simp only [spec_ActFor.l0, e1, e2, if_pos (show (i : Int) ≥ 0 by omega), if_pos (show (0 : Int) ≤ (i : Int) by omega), if_pos (show (i : Int) < (L.length : Int) by omega)]
    by_cases h0 : (rd_T44 L (i : Nat)).f0 = a
    · by_cases h1 : (rd_T44 L (i : Nat)).f1 = b
      · simp [first, fits, h0, h1, act]
      · simp [first, fits, h0, h1]
    · simp [first, fits, h0]
theorem find_ev (L : List S44) (h : L.length ≤ 1048576) (a b : Int) : ∀ d i, i + d = L.length → Ev (fun k => impl_ruleFor.l0 k a b L (L.length : Int) (i : Nat)) (match first L a b d i with | none => -1 | some j => (j : Int)) := by
  intro d
  induction d with
  | zero =>
    intro i hi
    refine Ev.step (f := fun k => some (-1)) (fun k => ?_) (Ev.now _)
    simp only [impl_ruleFor.l0, if_neg (show ¬ ((i : Int) < (L.length : Int)) by omega)]
  | succ d ih =>
    intro i hi
    by_cases hf : fits L a b i = true
    · have e : first L a b (d + 1) i = some i := by simp [first, hf]
      rw [e]
      unfold fits at hf
      obtain ⟨h0, h1⟩ := of_decide_eq_true hf
      refine Ev.step (f := fun k => some (i : Int)) (fun k => ?_) (Ev.now _)
      simp only [impl_ruleFor.l0, if_pos (show (i : Int) < (L.length : Int) by omega), if_pos (show (0 : Int) ≤ (i : Int) by omega), if_pos h0, if_pos h1]
    · have e : first L a b (d + 1) i = first L a b d (i + 1) := by simp [first, hf]
      rw [e]
      refine Ev.step (fun k => ?_) (ih (i + 1) (by omega))
      simp only [impl_ruleFor.l0, if_pos (show (i : Int) < (L.length : Int) by omega), if_pos (show (0 : Int) ≤ (i : Int) by omega), wrap_succ (show i < L.length by omega) h]
      unfold fits at hf
      simp only [decide_eq_true_eq, not_and] at hf
      by_cases h0 : (rd_T44 L (i : Nat)).f0 = a
      · rw [if_pos h0, if_neg (hf h0)]
      · rw [if_neg h0]
theorem spec_j (L : List S44) (h : L.length ≤ 1048576) (a b c x : Int) {r : Int} (hr : last (act L x (first L a b L.length 0)) c = some r) : Ev (fun k => spec_ActFor.j0 k L a b c x) r := by
  refine Ev.step (fun k => ?_) (spec_ev L h a b c x hr L.length 0 (by omega))
  simp only [spec_ActFor.j0, first, act]
  rw [wrap_id (by omega) (by omega)]
theorem impl_j (L : List S44) (h : L.length ≤ 1048576) (a b c x : Int) {r : Int} (hr : last (act L x (first L a b L.length 0)) c = some r) : Ev (fun k => impl_ActFor.j0 k L a b c x) r := by
  have hf := find_ev L h a b L.length 0 (by omega)
  obtain ⟨K, hK⟩ := hf
  refine ⟨K + 1, fun k hk => ?_⟩
  obtain ⟨k, rfl⟩ : ∃ k', k = k' + 1 := ⟨k - 1, by omega⟩
  have hK := hK k (by omega)
  simp only [impl_ActFor.j0, impl_ruleFor.f]
  have hz : ((0 : Nat) : Int) = 0 := rfl
  simp only [hz] at hK
  rw [hK]
  cases hq : first L a b L.length 0 with
  | none =>
    rw [hq] at hr
    simp only [Option.bind_some, if_neg (show ¬ ((-1 : Int) ≥ 0) by omega)]
    exact hr
  | some j =>
    have := first_lt L a b _ _ _ hq
    rw [hq] at hr
    simp only [Option.bind_some, if_pos (show ((j : Int) ≥ 0) by omega), if_pos (show ((0 : Int) ≤ (j : Int)) by omega), if_pos (show ((j : Int) < (L.length : Int)) by omega)]
    exact hr
theorem spec_ends (L : List S44) (h : L.length ≤ 1048576) (a b c : Int) : ∃ r, Ev (fun k => spec_ActFor.f k L a b c) r ∧ Ev (fun k => impl_ActFor.f k L a b c) r := by
  by_cases hb : b = 1
  · obtain ⟨r, hr⟩ := last_some (act L 3 (first L a b L.length 0)) c
    exact ⟨r, Ev.congr (fun k => by simp only [spec_ActFor.f, if_pos hb]) (spec_j L h a b c 3 hr), Ev.congr (fun k => by simp only [impl_ActFor.f, if_pos hb]) (impl_j L h a b c 3 hr)⟩
  · obtain ⟨r, hr⟩ := last_some (act L 0 (first L a b L.length 0)) c
    exact ⟨r, Ev.congr (fun k => by simp only [spec_ActFor.f, if_neg hb]) (spec_j L h a b c 0 hr), Ev.congr (fun k => by simp only [impl_ActFor.f, if_neg hb]) (impl_j L h a b c 0 hr)⟩
theorem FnExactActFor : ∀ (x0 : (List S96)) (x1 : Int) (x2 : Int) (x3 : Int), ((∀ y, y ∈ x0 → ((Lit.int .i64 y.f0).wf = true) ∧ ((Lit.int .i64 y.f1).wf = true) ∧ ((Lit.int .i64 y.f2).wf = true)) ∧ x0.length ≤ maxLen) → ((Lit.int .i64 x1).wf = true) → ((Lit.int .i64 x2).wf = true) → ((Lit.int .i64 x3).wf = true) → ∃ k, laws_FnExactActFor.f k x0 x1 x2 x3 = some true := by
  intro x0 x1 x2 x3 G0 _ _ _
  obtain ⟨_, hl⟩ := G0
  by_cases h : x0.length ≤ 1048576
  · obtain ⟨L, hL, hto⟩ := to_list x0 h
    have heq := eq_list L (by omega)
    obtain ⟨r, hs, hi⟩ := spec_ends L (by omega) x1 x2 x3
    obtain ⟨K1, h1⟩ := hto
    obtain ⟨K2, h2⟩ := heq
    obtain ⟨K3, h3⟩ := hs
    obtain ⟨K4, h4⟩ := hi
    refine ⟨max (max K1 K2) (max K3 K4), ?_⟩
    simp only [laws_FnExactActFor.f, sz_big x0 hl, if_pos h, Option.bind_some, if_neg (show ¬ ((1048576 : Int) - (x0.length : Int) < 0) by omega), h1 _ (show K1 ≤ max (max K1 K2) (max K3 K4) by omega), h2 _ (show K2 ≤ max (max K1 K2) (max K3 K4) by omega), h3 _ (show K3 ≤ max (max K1 K2) (max K3 K4) by omega), h4 _ (show K4 ≤ max (max K1 K2) (max K3 K4) by omega)]
    simp
  · refine ⟨0, ?_⟩
    simp only [laws_FnExactActFor.f, sz_big x0 hl, if_neg h, Option.bind_some]
    rfl

end Go.Proofs.Ytgihjaonapngdaa.Pure
