/- The pure statement of FnRules: what is done is what drawn rules tell. No condition. -/
import Derived.Test.YtgihjaonapngdaaPFnRulesx5
namespace Go.Proofs.Ytgihjaonapngdaa.Pure
open Go.RowKit Go.Proofs.Ytgihjaonapngdaa.PFnRules Go.Proofs.YtgihjaonapngdaaW.PrintWords Go.Proofs.YtgihjaonapngdaaW.PrintLast
set_option linter.unusedVariables false
set_option linter.unusedSimpArgs false
theorem wrap_id {n : Int} (h0 : -9223372036854775808 ≤ n) (h1 : n ≤ 9223372036854775807) : wrap64 n = n := by unfold wrap64; omega
theorem wrap_succ {i n : Nat} (h : i < n) (hn : n ≤ 1048576) : wrap64 ((i : Int) + 1) = ((i + 1 : Nat) : Int) := by rw [wrap_id (by omega) (by omega)]; omega
theorem ev_now {α : Type} {g : Nat → Option α} {r : α} (h : ∀ k, g k = some r) : Ev g r := ⟨0, fun k _ => h k⟩
theorem ev_all {α : Type} {g : Nat → Option α} {r : α} (h : Ev g r) : ∃ K, ∀ k, K ≤ k → g k = some r := h
namespace Act

def fits (L : List S44) (a b : Int) (i : Nat) : Bool := decide ((rd_T44 L (i : Nat)).f0 = a ∧ (rd_T44 L (i : Nat)).f1 = b)
def first (L : List S44) (a b : Int) : Nat → Nat → Option Nat
  | 0, _ => none
  | d + 1, i => if fits L a b i then some i else first L a b d (i + 1)
def act (L : List S44) (x : Int) : Option Nat → Int
  | none => x
  | some i => (rd_T44 L (i : Nat)).f2
def last (v x3 : Int) : Option Int := if v = 1 then (if x3 ≥ 3 then some 3 else some v) else (if v = 2 then (if x3 ≥ 3 then some 3 else some v) else some v)
theorem first_lt (L : List S44) (a b : Int) : ∀ d i j, first L a b d i = some j → i ≤ j ∧ j < i + d := by
  intro d
  induction d with
  | zero => intro i j h; simp [first] at h
  | succ d ih =>
    intro i j h
    unfold first at h
    split at h
    · simp at h; omega
    · have := ih _ _ h; omega
theorem last_some (v x : Int) : ∃ r, last v x = some r := by unfold last; split <;> (try split) <;> (try split) <;> exact ⟨_, rfl⟩
theorem spec_ev (L : List S44) (h : L.length ≤ 1048576) (a b c x : Int) {r : Int} (hr : last (act L x (first L a b L.length 0)) c = some r) :
    ∀ i d, i + d = L.length → Ev (fun k => spec_ActFor.l0 k L a b c (act L x (first L a b d i)) ((i : Int) - 1)) r := by
  intro i
  induction i with
  | zero =>
    intro d hd
    obtain rfl : d = L.length := by omega
    refine Ev.step (f := fun k => some r) (fun k => ?_) (Ev.now _)
    simp only [spec_ActFor.l0, if_neg (show ¬ (((0 : Nat) : Int) - 1 ≥ 0) by omega)]
    exact hr
  | succ i ih =>
    intro d hd
    have hE := ih (d + 1) (by omega)
    refine Ev.step (fun k => ?_) hE
    have e1 : (((i + 1 : Nat) : Int) - 1) = (i : Int) := by omega
    have e2 : wrap64 ((i : Int) - 1) = (i : Int) - 1 := wrap_id (by omega) (by omega)
    simp only [spec_ActFor.l0, e1, e2, if_pos (show (i : Int) ≥ 0 by omega), if_pos (show (0 : Int) ≤ (i : Int) by omega), if_pos (show (i : Int) < (L.length : Int) by omega)]
    by_cases h0 : (rd_T44 L (i : Nat)).f0 = a
    · by_cases h1 : (rd_T44 L (i : Nat)).f1 = b
      · simp [first, fits, h0, h1, act]
      · simp [first, fits, h0, h1]
    · simp [first, fits, h0]
theorem find_ev (L : List S44) (h : L.length ≤ 1048576) (a b : Int) : ∀ d i, i + d = L.length → Ev (fun k => impl_ruleFor.l0 k a b L (L.length : Int) (i : Nat)) (match first L a b d i with | none => -1 | some j => (j : Int)) := by
  intro d
  induction d with
  | zero =>
    intro i hi
    refine Ev.step (f := fun k => some (-1)) (fun k => ?_) (Ev.now _)
    simp only [impl_ruleFor.l0, if_neg (show ¬ ((i : Int) < (L.length : Int)) by omega)]
  | succ d ih =>
    intro i hi
    by_cases hf : fits L a b i = true
    · have e : first L a b (d + 1) i = some i := by simp [first, hf]
      rw [e]
      unfold fits at hf
      obtain ⟨h0, h1⟩ := of_decide_eq_true hf
      refine Ev.step (f := fun k => some (i : Int)) (fun k => ?_) (Ev.now _)
      simp only [impl_ruleFor.l0, if_pos (show (i : Int) < (L.length : Int) by omega), if_pos (show (0 : Int) ≤ (i : Int) by omega), if_pos h0, if_pos h1]
    · have e : first L a b (d + 1) i = first L a b d (i + 1) := by simp [first, hf]
      rw [e]
      refine Ev.step (fun k => ?_) (ih (i + 1) (by omega))
      simp only [impl_ruleFor.l0, if_pos (show (i : Int) < (L.length : Int) by omega), if_pos (show (0 : Int) ≤ (i : Int) by omega), wrap_succ (show i < L.length by omega) h]
      unfold fits at hf
      simp only [decide_eq_true_eq, not_and] at hf
      by_cases h0 : (rd_T44 L (i : Nat)).f0 = a
      · rw [if_pos h0, if_neg (hf h0)]
      · rw [if_neg h0]
theorem spec_j (L : List S44) (h : L.length ≤ 1048576) (a b c x : Int) {r : Int} (hr : last (act L x (first L a b L.length 0)) c = some r) : Ev (fun k => spec_ActFor.j0 k L a b c x) r := by
  refine Ev.step (fun k => ?_) (spec_ev L h a b c x hr L.length 0 (by omega))
  simp only [spec_ActFor.j0, first, act]
  rw [wrap_id (by omega) (by omega)]
theorem impl_j (L : List S44) (h : L.length ≤ 1048576) (a b c x : Int) {r : Int} (hr : last (act L x (first L a b L.length 0)) c = some r) : Ev (fun k => impl_ActFor.j0 k L a b c x) r := by
  have hf := find_ev L h a b L.length 0 (by omega)
  obtain ⟨K, hK⟩ := hf
  refine ⟨K + 1, fun k hk => ?_⟩
  obtain ⟨k, rfl⟩ : ∃ k', k = k' + 1 := ⟨k - 1, by omega⟩
  have hK := hK k (by omega)
  simp only [impl_ActFor.j0, impl_ruleFor.f]
  have hz : ((0 : Nat) : Int) = 0 := rfl
  simp only [hz] at hK
  rw [hK]
  cases hq : first L a b L.length 0 with
  | none =>
    rw [hq] at hr
    simp only [Option.bind_some, if_neg (show ¬ ((-1 : Int) ≥ 0) by omega)]
    exact hr
  | some j =>
    have := first_lt L a b _ _ _ hq
    rw [hq] at hr
    simp only [Option.bind_some, if_pos (show ((j : Int) ≥ 0) by omega), if_pos (show ((0 : Int) ≤ (j : Int)) by omega), if_pos (show ((j : Int) < (L.length : Int)) by omega)]
    exact hr
theorem spec_ends (L : List S44) (h : L.length ≤ 1048576) (a b c : Int) : ∃ r, Ev (fun k => spec_ActFor.f k L a b c) r ∧ Ev (fun k => impl_ActFor.f k L a b c) r := by
  by_cases hb : b = 1
  · obtain ⟨r, hr⟩ := last_some (act L 3 (first L a b L.length 0)) c
    exact ⟨r, Ev.congr (fun k => by simp only [spec_ActFor.f, if_pos hb]) (spec_j L h a b c 3 hr), Ev.congr (fun k => by simp only [impl_ActFor.f, if_pos hb]) (impl_j L h a b c 3 hr)⟩
  · obtain ⟨r, hr⟩ := last_some (act L 0 (first L a b L.length 0)) c
    exact ⟨r, Ev.congr (fun k => by simp only [spec_ActFor.f, if_neg hb]) (spec_j L h a b c 0 hr), Ev.congr (fun k => by simp only [impl_ActFor.f, if_neg hb]) (impl_j L h a b c 0 hr)⟩
end Act
namespace Rul
def fits (L : List S44) (a b : Int) (i : Nat) : Bool := decide ((rd_T44 L (i : Nat)).f0 = a ∧ (rd_T44 L (i : Nat)).f1 = b)
def first (L : List S44) (a b : Int) : Nat → Nat → Option Nat
  | 0, _ => none
  | d + 1, i => if fits L a b i then some i else first L a b d (i + 1)
def inn (a b c : Int) : Bool := decide (a ≥ b) && decide (a ≤ c)
theorem in_s (a b c : Int) : spec_l01In.f a b c = some (inn a b c) := by unfold spec_l01In.f inn; by_cases h : a ≥ b <;> simp [h]
theorem in_i (a b c : Int) : impl_within.f a b c = some (inn a b c) := by unfold impl_within.f inn; by_cases h : a ≥ b <;> simp [h]
theorem part_i (a : Int) : impl_isPart.f a = some (inn a 1 4) := by unfold impl_isPart.f; rw [in_i]; rfl
def out3 (L : List S44) (i : Nat) : Bool := !(inn (rd_T44 L (i : Nat)).f0 1 4) || !(inn (rd_T44 L (i : Nat)).f1 1 2) || !(inn (rd_T44 L (i : Nat)).f2 0 4)
def idle (L : List S44) (i : Nat) : Bool := decide ((rd_T44 L (i : Nat)).f1 = 1) && decide ((rd_T44 L (i : Nat)).f2 = 0)
def out (L : List S44) (i : Nat) : Bool := out3 L i || idle L i
def val (L : List S44) : Nat → Nat → Bool
  | 0, _ => decide ((L.length : Int) ≤ 8)
  | d + 1, i => if out L i || (first L (rd_T44 L (i : Nat)).f0 (rd_T44 L (i : Nat)).f1 i 0).isSome then false else val L d (i + 1)
theorem first_lt (L : List S44) (a b : Int) : ∀ d i j, first L a b d i = some j → i ≤ j ∧ j < i + d := by
  intro d
  induction d with
  | zero => intro i j h; simp [first] at h
  | succ d ih =>
    intro i j h
    unfold first at h
    split at h
    · simp at h; omega
    · have := ih _ _ h; omega
theorem first_split (L : List S44) (a b : Int) (e : Nat) : ∀ d i, first L a b (d + e) i = match first L a b d i with | some j => some j | none => first L a b e (i + d) := by
  intro d
  induction d with
  | zero => intro i; simp [first]
  | succ d ih =>
    intro i
    have e1 : ∀ n, first L a b (n + 1) i = if fits L a b i then some i else first L a b n (i + 1) := fun n => rfl
    rw [show d + 1 + e = (d + e) + 1 by omega, e1, e1, ih (i + 1), show i + 1 + d = i + (d + 1) by omega]
    by_cases hf : fits L a b i = true
    · simp [hf]
    · rw [if_neg hf, if_neg hf]
theorem find_ev (L : List S44) (h : L.length ≤ 1048576) (a b : Int) : ∀ d i, i + d = L.length → Ev (fun k => impl_ruleFor.l0 k a b L (L.length : Int) (i : Nat)) (match first L a b d i with | none => -1 | some j => (j : Int)) := by
  intro d
  induction d with
  | zero =>
    intro i hi
    refine Ev.step (f := fun k => some (-1)) (fun k => ?_) (Ev.now _)
    simp only [impl_ruleFor.l0, if_neg (show ¬ ((i : Int) < (L.length : Int)) by omega)]
  | succ d ih =>
    intro i hi
    by_cases hf : fits L a b i = true
    · have e : first L a b (d + 1) i = some i := by simp [first, hf]
      rw [e]
      unfold fits at hf
      obtain ⟨h0, h1⟩ := of_decide_eq_true hf
      refine Ev.step (f := fun k => some (i : Int)) (fun k => ?_) (Ev.now _)
      simp only [impl_ruleFor.l0, if_pos (show (i : Int) < (L.length : Int) by omega), if_pos (show (0 : Int) ≤ (i : Int) by omega), if_pos h0, if_pos h1]
    · have e : first L a b (d + 1) i = first L a b d (i + 1) := by simp [first, hf]
      rw [e]
      refine Ev.step (fun k => ?_) (ih (i + 1) (by omega))
      simp only [impl_ruleFor.l0, if_pos (show (i : Int) < (L.length : Int) by omega), if_pos (show (0 : Int) ≤ (i : Int) by omega), wrap_succ (show i < L.length by omega) h]
      unfold fits at hf
      simp only [decide_eq_true_eq, not_and] at hf
      by_cases h0 : (rd_T44 L (i : Nat)).f0 = a
      · rw [if_pos h0, if_neg (hf h0)]
      · rw [if_neg h0]
theorem inner (L : List S44) (h : L.length ≤ 1048576) (i : Nat) (hi : i < L.length) (a b c : Int) (r : Bool) (hr : Ev (fun k => spec_RulesOk.l0 k L ((i + 1 : Nat) : Int)) r) :
    ∀ d j, j + d = i → Ev (fun k => spec_RulesOk.l1 k L (i : Nat) (j : Nat) a b c) (if (first L a b d j).isSome then false else r) := by
  intro d
  induction d with
  | zero =>
    intro j hj
    refine Ev.step (fun k => ?_) hr
    simp only [spec_RulesOk.l1, if_neg (show ¬ ((j : Int) < (i : Int)) by omega), wrap_succ (show i < L.length by omega) h]
  | succ d ih =>
    intro j hj
    by_cases hf : fits L a b j = true
    · have e : first L a b (d + 1) j = some j := by simp [first, hf]
      rw [e]
      unfold fits at hf
      obtain ⟨h0, h1⟩ := of_decide_eq_true hf
      refine Ev.step (f := fun k => some false) (fun k => ?_) (Ev.now _)
      simp only [spec_RulesOk.l1, if_pos (show (j : Int) < (i : Int) by omega), if_pos (show (j : Int) < (L.length : Int) by omega), if_pos (show (0 : Int) ≤ (j : Int) by omega), if_pos h0, if_pos h1]
    · have e : first L a b (d + 1) j = first L a b d (j + 1) := by simp [first, hf]
      rw [e]
      refine Ev.step (fun k => ?_) (ih (j + 1) (by omega))
      simp only [spec_RulesOk.l1, if_pos (show (j : Int) < (i : Int) by omega), if_pos (show (j : Int) < (L.length : Int) by omega), if_pos (show (0 : Int) ≤ (j : Int) by omega), wrap_succ (show j < L.length by omega) h]
      unfold fits at hf
      simp only [decide_eq_true_eq, not_and] at hf
      by_cases h0 : (rd_T44 L (j : Nat)).f0 = a
      · rw [if_pos h0, if_neg (hf h0)]
      · rw [if_neg h0]
theorem s_step (L : List S44) (i : Nat) (hi : i < L.length) (k : Nat) : spec_RulesOk.l0 (k + 1) L (i : Nat) = spec_RulesOk.j1 k L (i : Nat) (out L i) (rd_T44 L (i : Nat)).f0 (rd_T44 L (i : Nat)).f1 (rd_T44 L (i : Nat)).f2 := by
  simp only [spec_RulesOk.l0, if_pos (show (i : Int) < (L.length : Int) by omega), if_pos (show (0 : Int) ≤ (i : Int) by omega), in_s, Option.bind_some, out, out3, idle]
  cases inn (rd_T44 L (i : Nat)).f0 1 4 <;> cases inn (rd_T44 L (i : Nat)).f1 1 2 <;> cases inn (rd_T44 L (i : Nat)).f2 0 4 <;> simp
  by_cases h1 : (rd_T44 L (i : Nat)).f1 = 1
  · simp [h1]
    congr 1
  · simp [h1]
theorem i_step (L : List S44) (i : Nat) (hi : i < L.length) (k : Nat) : impl_RulesOk.l0 (k + 1) L L (L.length : Int) (i : Nat) = impl_RulesOk.j1 k L (i : Nat) L (L.length : Int) (i : Nat) (out3 L i) (rd_T44 L (i : Nat)).f0 (rd_T44 L (i : Nat)).f1 (rd_T44 L (i : Nat)).f2 := by
  simp only [impl_RulesOk.l0, if_pos (show (i : Int) < (L.length : Int) by omega), if_pos (show (0 : Int) ≤ (i : Int) by omega), in_i, part_i, Option.bind_some, out3]
  cases inn (rd_T44 L (i : Nat)).f0 1 4 <;> cases inn (rd_T44 L (i : Nat)).f1 1 2 <;> cases inn (rd_T44 L (i : Nat)).f2 0 4 <;> simp
theorem spec_ev (L : List S44) (h : L.length ≤ 1048576) : ∀ d i, i + d = L.length → Ev (fun k => spec_RulesOk.l0 k L (i : Nat)) (val L d i) := by
  intro d
  induction d with
  | zero =>
    intro i hi
    refine Ev.step (f := fun k => some (val L 0 i)) (fun k => ?_) (Ev.now _)
    simp only [spec_RulesOk.l0, if_neg (show ¬ ((i : Int) < (L.length : Int)) by omega), val]
  | succ d ih =>
    intro i hi
    refine Ev.step (fun k => s_step L i (by omega) k) ?_
    have hin := inner L h i (by omega) (rd_T44 L (i : Nat)).f0 (rd_T44 L (i : Nat)).f1 (rd_T44 L (i : Nat)).f2 _ (ih (i + 1) (by omega)) i 0 (by omega)
    cases ho : out L i with
    | true =>
      refine Ev.step (f := fun k => some (val L (d + 1) i)) (fun k => ?_) (Ev.now _)
      simp [spec_RulesOk.j1, val, ho]
    | false =>
      simp only [val, ho, Bool.false_or]
      refine Ev.step (fun k => ?_) hin
      simp only [spec_RulesOk.j1, Bool.false_eq_true, if_false]
      rfl
theorem impl_ev' (L : List S44) (h : L.length ≤ 1048576) : ∀ d i, i + d = L.length → Ev (fun k => impl_RulesOk.l0 k L L (L.length : Int) (i : Nat)) (val L d i) := by
  intro d
  induction d with
  | zero =>
    intro i hi
    refine Ev.step (f := fun k => some (val L 0 i)) (fun k => ?_) (Ev.now _)
    simp only [impl_RulesOk.l0, if_neg (show ¬ ((i : Int) < (L.length : Int)) by omega), val]
  | succ d ih =>
    intro i hi
    refine Ev.step (fun k => i_step L i (by omega) k) ?_
    cases ho : out3 L i with
    | true =>
      refine Ev.step (f := fun k => some (val L (d + 1) i)) (fun k => ?_) (Ev.now _)
      simp [impl_RulesOk.j1, val, out, ho]
    | false =>
      obtain ⟨K1, h1⟩ := find_ev L h (rd_T44 L (i : Nat)).f0 (rd_T44 L (i : Nat)).f1 L.length 0 (by omega)
      obtain ⟨K2, h2⟩ := ih (i + 1) (by omega)
      refine ⟨max K1 K2 + 1, fun k hk => ?_⟩
      obtain ⟨k, rfl⟩ : ∃ k', k = k' + 1 := ⟨k - 1, by omega⟩
      have h1 := h1 k (by omega)
      have h2 := h2 k (by omega)
      have hz : ((0 : Nat) : Int) = 0 := rfl
      simp only [hz] at h1
      simp only [impl_RulesOk.j1, Bool.false_eq_true, if_false, impl_ruleFor.f, h1, Option.bind_some]
      have hs := first_split L (rd_T44 L (i : Nat)).f0 (rd_T44 L (i : Nat)).f1 (d + 1) i 0
      rw [show i + (d + 1) = L.length by omega] at hs
      simp only [Nat.zero_add] at hs
      rw [hs]
      cases hq : first L (rd_T44 L (i : Nat)).f0 (rd_T44 L (i : Nat)).f1 i 0 with
      | some j =>
        have := first_lt L _ _ _ _ _ hq
        simp only [if_neg (show ¬ ((j : Int) = (i : Int)) by omega), val, hq]
        simp
      | none =>
        have hfit : fits L (rd_T44 L (i : Nat)).f0 (rd_T44 L (i : Nat)).f1 i = true := by unfold fits; simp
        have e : first L (rd_T44 L (i : Nat)).f0 (rd_T44 L (i : Nat)).f1 (d + 1) i = some i := by simp only [first, hfit, if_true]
        simp only [e, if_true, val, hq, out, ho, idle, wrap_succ (show i < L.length by omega) h, h2]
        by_cases h1 : (rd_T44 L (i : Nat)).f1 = 1
        · by_cases h3 : (rd_T44 L (i : Nat)).f2 = 0 <;> simp [h1, h3]
        · simp [h1]
end Rul

/-! draws -/
theorem and255 (a : Int) : 0 ≤ Go.bits .and .i64 a 255 ∧ Go.bits .and .i64 a 255 ≤ 255 := by
  have hk : ∀ n : Nat, n ≤ 255 → IntKind.i64.wrap (n : Int) = n := fun n hn => by rw [IntKind.wrap_i64]; omega
  have hle : ∀ x : BitVec 64, (x &&& BitVec.ofInt 64 255).toNat ≤ 255 := fun x => by
    rw [BitVec.toNat_and]
    exact Nat.le_trans Nat.and_le_right (by decide)
  have hb : ∃ n : Nat, n ≤ 255 ∧ Go.bits .and .i64 a 255 = (n : Int) := ⟨_, hle (BitVec.ofInt 64 a), by
    rw [← hk _ (hle (BitVec.ofInt 64 a))]
    rfl⟩
  obtain ⟨n, hn, e⟩ := hb
  rw [e]
  omega
def InS (b : List Int) (i : Int) : Prop := 0 ≤ i ∧ i ≤ (b.length : Int)
theorem byte_some (b : List Int) (hb : b.length ≤ 1048576) (i h : Int) (hi : InS b i) : ∃ x i' h', spec_l01Byte.f b i h = some (x, i', h') ∧ 0 ≤ x ∧ x ≤ 255 ∧ InS b i' := by
  obtain ⟨h0, h1⟩ := hi
  by_cases hl : i < (b.length : Int)
  · have hw : wrap64 (i + 1) = i + 1 := wrap_id (by omega) (by omega)
    refine ⟨_, _, _, by simp only [spec_l01Byte.f, if_pos hl, if_pos h0] <;> rfl, (and255 _).1, (and255 _).2, ?_⟩
    rw [hw]
    exact ⟨by omega, by omega⟩
  · exact ⟨_, _, _, by simp only [spec_l01Byte.f, if_neg hl] <;> rfl, (and255 _).1, (and255 _).2, h0, h1⟩
theorem below_some (b : List Int) (hb : b.length ≤ 1048576) (i h : Int) (hi : InS b i) (n : Int) (hn : 0 < n) (hn2 : n ≤ 256) : ∃ x i' h', spec_l01Below.f b i h n = some (x, i', h') ∧ 0 ≤ x ∧ x < n ∧ InS b i' := by
  obtain ⟨x, i', h', e, x0, _, hi'⟩ := byte_some b hb i h hi
  refine ⟨Int.tmod x n, i', h', ?_, Int.tmod_nonneg _ x0, Int.tmod_lt_of_pos _ hn, hi'⟩
  simp only [spec_l01Below.f, if_neg (show ¬ n ≤ 0 by omega), if_pos hn2, e, Option.bind_some, if_neg (show ¬ n = 0 by omega)]
theorem once_some (b : List Int) (hb : b.length ≤ 1048576) (i h : Int) (hi : InS b i) (n : Int) (hn : 0 < n) (hn2 : n ≤ 256) : ∃ x i' h', spec_l01Once.f b i h n = some (x, i', h') ∧ InS b i' := by
  obtain ⟨x, i', h', e, _, _, hi'⟩ := below_some b hb i h hi n hn hn2
  exact ⟨_, i', h', by simp only [spec_l01Once.f, e, Option.bind_some] <;> rfl, hi'⟩
theorem new_ev (b : List Int) (hb : b.length ≤ 1048576) : ∃ h, Ev (fun k => spec_l01New.f k b) (b, 0, h) := by
  have key : ∀ d i (x : Int), i + d = b.length → ∃ h, Ev (fun k => spec_l01New.l0 k b x (i : Nat)) (b, 0, h) := by
    intro d
    induction d with
    | zero =>
      intro i x hi
      exact ⟨x, Ev.step (f := fun k => some (b, 0, x)) (fun k => by simp only [spec_l01New.l0, if_neg (show ¬ ((i : Int) < (b.length : Int)) by omega)]) (Ev.now _)⟩
    | succ d ih =>
      intro i x hi
      by_cases h4 : (i : Int) < 4000
      · obtain ⟨h, hE⟩ := ih (i + 1) (Go.bits .and .i64 (wrap64 ((wrap64 ((wrap64 (x * 131)) + (wrap64 (rd b (i : Nat))))) + 7)) 1073741823) (by omega)
        exact ⟨h, Ev.step (fun k => by simp only [spec_l01New.l0, if_pos (show (i : Int) < (b.length : Int) by omega), if_pos h4, if_pos (show (0 : Int) ≤ (i : Int) by omega), wrap_succ (show i < b.length by omega) hb]) hE⟩
      · exact ⟨x, Ev.step (f := fun k => some (b, 0, x)) (fun k => by simp only [spec_l01New.l0, if_pos (show (i : Int) < (b.length : Int) by omega), if_neg h4]) (Ev.now _)⟩
  obtain ⟨h, hE⟩ := key b.length 0 (wrap64 (37101 + (b.length : Int))) (by omega)
  exact ⟨h, hE⟩

theorem rules_ev (b : List Int) (hb : b.length ≤ 1048576) : ∀ d (x : Nat) (L : List S44) (i h : Int), x + d = 6 → L.length ≤ x → InS b i → ∃ L' i' h', L'.length ≤ 6 ∧ InS b i' ∧ Ev (fun k => spec_l10Rules.l0 k 4 L (x : Nat) b i h) (L', i', h') := by
  intro d
  induction d with
  | zero =>
    intro x L i h hx hL hi
    obtain ⟨t, i1, h1, e1, _, t1, hi1⟩ := below_some b hb i h hi 6 (by decide) (by decide)
    exact ⟨L, i1, h1, by omega, hi1, Ev.step (f := fun k => some (L, i1, h1)) (fun k => by simp only [spec_l10Rules.l0, e1, Option.bind_some, if_neg (show ¬ ((x : Int) < t) by omega)]) (Ev.now _)⟩
  | succ d ih =>
    intro x L i h hx hL hi
    obtain ⟨t, i1, h1, e1, _, t1, hi1⟩ := below_some b hb i h hi 6 (by decide) (by decide)
    by_cases hc : (x : Int) < t
    · obtain ⟨t2, i2, h2, e2, _, _, hi2⟩ := below_some b hb i1 h1 hi1 4 (by decide) (by decide)
      obtain ⟨t3, i3, h3, e3, _, _, hi3⟩ := below_some b hb i2 h2 hi2 2 (by decide) (by decide)
      obtain ⟨t4, i4, h4, e4, _, _, hi4⟩ := below_some b hb i3 h3 hi3 3 (by decide) (by decide)
      obtain ⟨t5, i5, h5, e5, hi5⟩ := once_some b hb i4 h4 hi4 8 (by decide) (by decide)
      have hx1 : wrap64 ((x : Int) + 1) = ((x + 1 : Nat) : Int) := by rw [wrap_id (by omega) (by omega)]; omega
      have g1 : L.length < 5864062014805 := by omega
      have g2 : L.length + 1 < 5864062014805 := by omega
      have go : ∀ y : S44, ∃ L' i' h', L'.length ≤ 6 ∧ InS b i' ∧ Ev (fun k => (spec_RulesOk.f k (L ++ [y])).bind fun t168 => if t168 = true then spec_l10Rules.l0 k 4 (L ++ [y]) ((x + 1 : Nat) : Int) b i5 h5 else spec_l10Rules.l0 k 4 L ((x + 1 : Nat) : Int) b i5 h5) (L', i', h') := by
        intro y
        have hr := Rul.spec_ev (L ++ [y]) (by simp; omega) (L ++ [y]).length 0 (by omega)
        cases hv : Rul.val (L ++ [y]) (L ++ [y]).length 0 with
        | true =>
          obtain ⟨L', i', h', q1, q2, q3⟩ := ih (x + 1) (L ++ [y]) i5 h5 (by omega) (by simp; omega) hi5
          rw [hv] at hr
          exact ⟨L', i', h', q1, q2, Ev.bind hr q3⟩
        | false =>
          obtain ⟨L', i', h', q1, q2, q3⟩ := ih (x + 1) L i5 h5 (by omega) (by omega) hi5
          rw [hv] at hr
          exact ⟨L', i', h', q1, q2, Ev.bind hr q3⟩
      cases t5 with
      | true =>
        obtain ⟨L', i', h', q1, q2, q3⟩ := go ⟨wrap64 (1 + t2), wrap64 (1 + t3), 4⟩
        refine ⟨L', i', h', q1, q2, Ev.step (fun k => ?_) q3⟩
        simp [spec_l10Rules.l0, e1, e2, e3, e4, e5, hc, hx1, g1, g2]
      | false =>
        obtain ⟨L', i', h', q1, q2, q3⟩ := go ⟨wrap64 (1 + t2), wrap64 (1 + t3), wrap64 (1 + t4)⟩
        refine ⟨L', i', h', q1, q2, Ev.step (fun k => ?_) q3⟩
        simp [spec_l10Rules.l0, e1, e2, e3, e4, e5, hc, hx1, g1, g2]
    · exact ⟨L, i1, h1, by omega, hi1, Ev.step (f := fun k => some (L, i1, h1)) (fun k => by simp only [spec_l10Rules.l0, e1, Option.bind_some, if_neg hc]) (Ev.now _)⟩
theorem any_ev (b : List Int) (hb : b.length ≤ 1048576) (i h : Int) (hi : InS b i) : ∃ L i' h', L.length ≤ 7 ∧ InS b i' ∧ Ev (fun k => spec_l10Any.f k b i h) (L, i', h') := by
  obtain ⟨L, i1, h1, hL, hi1, hE⟩ := rules_ev b hb 6 0 [] i h rfl (by simp) hi
  have hE : Ev (fun k => spec_l10Rules.f k b i h 4) (L, i1, h1) := hE
  obtain ⟨t, i2, h2, e2, hi2⟩ := once_some b hb i1 h1 hi1 4 (by decide) (by decide)
  cases t with
  | true =>
    obtain ⟨x, i3, h3, e3, _, _, hi3⟩ := below_some b hb i2 h2 hi2 6 (by decide) (by decide)
    obtain ⟨y, i4, h4, e4, _, _, hi4⟩ := below_some b hb i3 h3 hi3 4 (by decide) (by decide)
    obtain ⟨z, i5, h5, e5, _, _, hi5⟩ := below_some b hb i4 h4 hi4 6 (by decide) (by decide)
    have g1 : L.length < 5864062014805 := by omega
    exact ⟨L ++ [⟨x, y, z⟩], i5, h5, by simp; omega, hi5, Ev.bind hE (ev_now fun k => by simp [e2, e3, e4, e5, g1])⟩
  | false => exact ⟨L, i2, h2, by omega, hi2, Ev.bind hE (ev_now fun k => by simp [e2])⟩
theorem draw_ev (b : List Int) (hb : b.length ≤ 1048576) : ∃ L p f s, L.length ≤ 7 ∧ 1 ≤ p ∧ p ≤ 4 ∧ 1 ≤ f ∧ f ≤ 2 ∧ Ev (fun k => spec_DrawActFor.f k b) (L, p, f, s) := by
  obtain ⟨h, h0⟩ := new_ev b hb
  obtain ⟨L, i1, h1, hL, hi1, hE⟩ := any_ev b hb 0 h ⟨by omega, by omega⟩
  obtain ⟨x, i3, h3, e3, x0, x1, hi3⟩ := below_some b hb i1 h1 hi1 4 (by decide) (by decide)
  obtain ⟨y, i4, h4, e4, y0, y1, hi4⟩ := below_some b hb i3 h3 hi3 2 (by decide) (by decide)
  obtain ⟨z, i5, h5, e5, _, _, hi5⟩ := below_some b hb i4 h4 hi4 5 (by decide) (by decide)
  have w1 : wrap64 (1 + x) = 1 + x := wrap_id (by omega) (by omega)
  have w2 : wrap64 (1 + y) = 1 + y := wrap_id (by omega) (by omega)
  exact ⟨L, 1 + x, 1 + y, z, hL, by omega, by omega, by omega, by omega, Ev.bind h0 (Ev.bind hE (ev_now fun k => by simp [e3, e4, e5, w1, w2]))⟩
theorem last_out {v x r : Int} (h : Act.last v x = some r) (hx : x ≥ 3) : r ≠ 1 ∧ r ≠ 2 := by
  unfold Act.last at h
  split at h
  · simp only [if_pos hx, Option.some.injEq] at h; omega
  · split at h
    · simp only [if_pos hx, Option.some.injEq] at h; omega
    · simp only [Option.some.injEq] at h; omega
theorem acts (L : List S44) (h : L.length ≤ 1048576) (a b c : Int) : ∃ r, Ev (fun k => spec_ActFor.f k L a b c) r ∧ Ev (fun k => impl_ActFor.f k L a b c) r ∧ (c ≥ 3 → r ≠ 1 ∧ r ≠ 2) := by
  by_cases hb : b = 1
  · obtain ⟨r, hr⟩ := Act.last_some (Act.act L 3 (Act.first L a b L.length 0)) c
    exact ⟨r, Ev.congr (fun k => by simp only [spec_ActFor.f, if_pos hb]) (Act.spec_j L h a b c 3 hr), Ev.congr (fun k => by simp only [impl_ActFor.f, if_pos hb]) (Act.impl_j L h a b c 3 hr), last_out hr⟩
  · obtain ⟨r, hr⟩ := Act.last_some (Act.act L 0 (Act.first L a b L.length 0)) c
    exact ⟨r, Ev.congr (fun k => by simp only [spec_ActFor.f, if_neg hb]) (Act.spec_j L h a b c 0 hr), Ev.congr (fun k => by simp only [impl_ActFor.f, if_neg hb]) (Act.impl_j L h a b c 0 hr), last_out hr⟩
theorem one_act (p f c r : Int) (hr : Act.last 2 c = some r) : Ev (fun k => impl_ActFor.f k [(⟨p, f, 2⟩ : S44)] p f c) r := by
  have hf : Act.first [(⟨p, f, 2⟩ : S44)] p f 1 0 = some 0 := by simp [Act.first, Act.fits, rd_T44]
  have hr' : ∀ x, Act.last (Act.act [(⟨p, f, 2⟩ : S44)] x (Act.first [(⟨p, f, 2⟩ : S44)] p f [(⟨p, f, 2⟩ : S44)].length 0)) c = some r := fun x => by
    rw [show [(⟨p, f, 2⟩ : S44)].length = 1 from rfl, hf]
    exact hr
  by_cases hb : f = 1
  · exact Ev.congr (fun k => by simp only [impl_ActFor.f, if_pos hb]) (Act.impl_j _ (by simp) p f c 3 (hr' 3))
  · exact Ev.congr (fun k => by simp only [impl_ActFor.f, if_neg hb]) (Act.impl_j _ (by simp) p f c 0 (hr' 0))
theorem none_act1 (p : Int) : Ev (fun k => impl_ActFor.f k ([] : List S44) p 1 0) 3 := Ev.congr (fun k => by simp only [impl_ActFor.f, if_true]) (Act.impl_j [] (by simp) p 1 0 3 rfl)
theorem none_act2 (p : Int) : Ev (fun k => impl_ActFor.f k ([] : List S44) p 2 0) 0 := Ev.congr (fun k => by simp [impl_ActFor.f]) (Act.impl_j [] (by simp) p 2 0 0 rfl)
theorem one_ok (p f : Int) (p0 : 1 ≤ p) (p1 : p ≤ 4) (f0 : 1 ≤ f) (f1 : f ≤ 2) : Ev (fun k => impl_RulesOk.f k [(⟨p, f, 2⟩ : S44)]) true := by
  have h := Rul.impl_ev' [(⟨p, f, 2⟩ : S44)] (by simp) 1 0 rfl
  have hv : Rul.val [(⟨p, f, 2⟩ : S44)] 1 0 = true := by
    simp [Rul.val, Rul.out, Rul.out3, Rul.idle, Rul.inn, Rul.first, rd_T44]
    omega
  rw [hv] at h
  exact h
theorem law_end (p f s r : Int) (p0 : 1 ≤ p) (p1 : p ≤ 4) (f0 : 1 ≤ f) (f1 : f ≤ 2) (hs : s ≥ 3 → r ≠ 1 ∧ r ≠ 2) : Ev (fun k => laws_FnRules.j0 k p f s r false) true := by
  have h1 : Ev (fun k => laws_FnRules.j1 k p f false) true := by
    refine Ev.step (f := fun k => (impl_RulesOk.f k [(⟨p, f, 2⟩ : S44)]).bind fun t241 => (if t241 = true then ((impl_ActFor.f k [(⟨p, f, 2⟩ : S44)] p f 0).bind fun t242 => (if t242 = 2 then ((impl_ActFor.f k [(⟨p, f, 2⟩ : S44)] p f 3).bind fun t243 => (if t243 = 3 then ((impl_ActFor.f k (([] : List (S44))) p 1 0).bind fun t247 => (if t247 = 3 then ((impl_ActFor.f k (([] : List (S44))) p 2 0).bind fun t251 => (some (t251 == 0))) else (some false))) else (some false))) else (some false))) else (some false))) (fun k => by simp [laws_FnRules.j1]) ?_
    refine Ev.bind (one_ok p f p0 p1 f0 f1) (Ev.congr (fun k => by rw [if_pos rfl]) (Ev.bind (one_act p f 0 2 rfl) (Ev.congr (fun k => by rw [if_pos rfl]) (Ev.bind (one_act p f 3 3 rfl) (Ev.congr (fun k => by rw [if_pos rfl]) (Ev.bind (none_act1 p) (Ev.congr (fun k => by rw [if_pos rfl]) (Ev.bind (none_act2 p) (ev_now fun k => rfl)))))))))
  by_cases h : s ≥ 3
  · obtain ⟨q1, q2⟩ := hs h
    refine Ev.step (fun k => ?_) h1
    have : (r == 2) = false := by simp [q2]
    simp only [laws_FnRules.j0, Bool.false_eq_true, if_false, if_pos h, if_neg q1, this]
  · refine Ev.step (fun k => ?_) h1
    simp only [laws_FnRules.j0, Bool.false_eq_true, if_false, if_neg h]
theorem FnRules : laws_FnRules.Pure := by
  intro b _ _ _
  by_cases hb : b.length ≤ 1048576
  · obtain ⟨L, p, f, s, hL, p0, p1, f0, f1, hE⟩ := draw_ev b hb
    obtain ⟨r, r1, r2, r3⟩ := acts L (by omega) p f s
    have q1 := Rul.spec_ev L (by omega) L.length 0 (by omega)
    have q2 := Rul.impl_ev' L (by omega) L.length 0 (by omega)
    have hend := law_end p f s r p0 p1 f0 f1 r3
    have hbig : laws_big.f b = some false := by simp only [laws_big.f]; congr 1; exact decide_eq_false (by omega)
    obtain ⟨K1, h1⟩ := hE
    obtain ⟨K2, h2⟩ := r2
    obtain ⟨K3, h3⟩ := r1
    obtain ⟨K4, h4⟩ := q2
    obtain ⟨K5, h5⟩ := q1
    obtain ⟨K6, h6⟩ := hend
    have e1 := h1 (K1 + K2 + K3 + K4 + K5 + K6) (by omega)
    have e2 := h2 (K1 + K2 + K3 + K4 + K5 + K6) (by omega)
    have e3 := h3 (K1 + K2 + K3 + K4 + K5 + K6) (by omega)
    have e4 := h4 (K1 + K2 + K3 + K4 + K5 + K6) (by omega)
    have e5 := h5 (K1 + K2 + K3 + K4 + K5 + K6) (by omega)
    have e6 := h6 (K1 + K2 + K3 + K4 + K5 + K6) (by omega)
    have hz : ((0 : Nat) : Int) = 0 := rfl
    simp only [hz] at e1 e2 e3 e4 e5 e6
    have hv : (Rul.val L L.length 0 != Rul.val L L.length 0) = false := by simp
    exact ⟨K1 + K2 + K3 + K4 + K5 + K6, by simp only [laws_FnRules.f, hbig, Option.bind_some, Bool.false_eq_true, if_false, e1, e2, e3, if_true, impl_RulesOk.f, spec_RulesOk.f, e4, e5, hv, e6]⟩
  · refine ⟨0, ?_⟩
    have hbig : laws_big.f b = some true := by simp only [laws_big.f]; congr 1; exact decide_eq_true (by omega)
    simp [laws_FnRules.f, hbig]

end Go.Proofs.Ytgihjaonapngdaa.Pure
