/- The pure statement of FnExactHarmonic: both tell the same of every two lists, and what they return is new. No condition. -/
import Derived.Test.YtgihjaonapngdaaPFnExactHarmonicx4
namespace Go.Proofs.Ytgihjaonapngdaa.Pure
open Go.RowKit Go.Proofs.Ytgihjaonapngdaa.PFnExactHarmonic Go.Proofs.YtgihjaonapngdaaW.PrintWords Go.Proofs.YtgihjaonapngdaaW.PrintLast
set_option linter.unusedVariables false
set_option linter.unusedSimpArgs false
theorem wrap_id {n : Int} (h0 : -9223372036854775808 ≤ n) (h1 : n ≤ 9223372036854775807) : wrap64 n = n := by unfold wrap64; omega
theorem wrap_succ {i n : Nat} (h : i < n) (hn : n ≤ 1048576) : wrap64 ((i : Int) + 1) = ((i + 1 : Nat) : Int) := by rw [wrap_id (by omega) (by omega)]; omega
theorem ev_now {α : Type} {g : Nat → Option α} {r : α} (h : ∀ k, g k = some r) : Ev g r := ⟨0, fun k _ => h k⟩
theorem ev_all {α : Type} {g : Nat → Option α} {r : α} (h : Ev g r) : ∃ K, ∀ k, K ≤ k → g k = some r := h

-- copies, comparisons, marks
theorem cp_ev (l : List Int) (h : l.length ≤ 1048576) : Ev (fun k => laws_toIntS.f k l) l := by
  have key : ∀ d i (acc : List Int), acc.length = l.length → i + d = l.length → (∀ j, j < i → acc[j]? = l[j]?) → Ev (fun k => laws_toIntS.l0 k l acc (i : Nat)) l := by
    intro d
    induction d with
    | zero =>
      intro i acc ha hi hq
      have e : acc = l := by
        apply List.ext_getElem?
        intro j
        by_cases hj : j < i
        · exact hq j hj
        · rw [List.getElem?_eq_none (by omega), List.getElem?_eq_none (by omega)]
      refine Ev.step (f := fun k => some l) (fun k => ?_) (Ev.now _)
      simp only [laws_toIntS.l0, if_neg (show ¬ ((i : Int) < (l.length : Int)) by omega), e]
    | succ d ih =>
      intro i acc ha hi hq
      refine Ev.step (fun k => ?_) (ih (i + 1) (acc.set i (rd l (i : Nat))) (by simp [ha]) (by omega) (fun j hj => ?_))
      · simp only [laws_toIntS.l0, if_pos (show (i : Int) < (l.length : Int) by omega), if_pos (show (0 : Int) ≤ (i : Int) by omega), if_pos (show (i : Int) < (acc.length : Int) by omega), wrap_succ (show i < l.length by omega) h, Int.toNat_natCast]
      · rw [List.getElem?_set]
        by_cases e : i = j
        · subst e
          rw [if_pos rfl, if_pos (by omega)]
          unfold rd
          rw [Int.toNat_natCast, List.getD_eq_getElem?_getD, List.getElem?_eq_getElem (show i < l.length by omega)]
          rfl
        · rw [if_neg e]; exact hq j (by omega)
  refine Ev.congr (fun k => ?_) (key l.length 0 (List.replicate l.length 0) (List.length_replicate ..) (by omega) (fun j hj => by omega))
  simp only [laws_toIntS.f, if_pos (show (0 : Int) ≤ (l.length : Int) by omega), Int.toNat_natCast, if_pos (show l.length ≤ 35184372088832 by omega)]
  rfl
theorem eqi_ev (L : List Int) (h : L.length ≤ 1048576) : Ev (fun k => laws_eqIntS.f k L L) true := by
  have key : ∀ d i, i + d = L.length → Ev (fun k => laws_eqIntS.l0 k L L (i : Nat)) true := by
    intro d
    induction d with
    | zero =>
      intro i hi
      refine Ev.step (f := fun k => some true) (fun k => ?_) (Ev.now _)
      simp only [laws_eqIntS.l0, if_neg (show ¬ ((i : Int) < (L.length : Int)) by omega)]
    | succ d ih =>
      intro i hi
      refine Ev.step (fun k => ?_) (ih (i + 1) (by omega))
      simp only [laws_eqIntS.l0, if_pos (show (i : Int) < (L.length : Int) by omega), if_pos (show (0 : Int) ≤ (i : Int) by omega), if_true, wrap_succ (show i < L.length by omega) h]
  refine Ev.congr (fun k => ?_) (key L.length 0 (by omega))
  simp only [laws_eqIntS.f, if_true]
  rfl
theorem eqw_ev (L : List S57) (h : L.length ≤ 1048576) : Ev (fun k => laws_eqWindowS.f k L L) true := by
  have key : ∀ d i, i + d = L.length → Ev (fun k => laws_eqWindowS.l0 k L L (i : Nat)) true := by
    intro d
    induction d with
    | zero =>
      intro i hi
      refine Ev.step (f := fun k => some true) (fun k => ?_) (Ev.now _)
      simp only [laws_eqWindowS.l0, if_neg (show ¬ ((i : Int) < (L.length : Int)) by omega)]
    | succ d ih =>
      intro i hi
      refine Ev.step (fun k => ?_) (ih (i + 1) (by omega))
      simp only [laws_eqWindowS.l0, if_pos (show (i : Int) < (L.length : Int) by omega), if_pos (show (0 : Int) ≤ (i : Int) by omega), laws_eqWindow.f, if_true, Option.bind_some, wrap_succ (show i < L.length by omega) h]
  refine Ev.congr (fun k => ?_) (key L.length 0 (by omega))
  simp only [laws_eqWindowS.f, if_true]
  rfl
theorem marki_ev (l : List Int) (h : l.length ≤ 1048576) (a : Nat) (ha : a ≤ 1099511627776) : ∃ l', Ev (fun k => laws_markIntS.f k l (a : Nat)) (((a + l.length : Nat) : Int), l') := by
  have key : ∀ d i (c : List Int), c.length = l.length → i + d = l.length → ∃ l', Ev (fun k => laws_markIntS.l0 k c ((a + i : Nat) : Int) (i : Nat)) (((a + l.length : Nat) : Int), l') := by
    intro d
    induction d with
    | zero =>
      intro i c hc hi
      obtain rfl : i = l.length := by omega
      refine ⟨c, Ev.step (f := fun k => some (((a + l.length : Nat) : Int), c)) (fun k => ?_) (Ev.now _)⟩
      simp only [laws_markIntS.l0, if_neg (show ¬ ((l.length : Int) < (c.length : Int)) by omega)]
    | succ d ih =>
      intro i c hc hi
      obtain ⟨l', hE⟩ := ih (i + 1) (c.set i ((a + i : Nat) : Int)) (by simp [hc]) (by omega)
      refine ⟨l', Ev.step (fun k => ?_) hE⟩
      have e : wrap64 (((a + i : Nat) : Int) + 1) = ((a + (i + 1) : Nat) : Int) := by rw [wrap_id (by omega) (by omega)]; omega
      simp only [laws_markIntS.l0, if_pos (show (i : Int) < (c.length : Int) by omega), if_pos (show (0 : Int) ≤ (i : Int) by omega), wrap_succ (show i < l.length by omega) h, e, Int.toNat_natCast]
  obtain ⟨l', hE⟩ := key l.length 0 l rfl (by omega)
  exact ⟨l', Ev.congr (fun k => rfl) hE⟩
def mk (a j : Nat) : S57 := ⟨((a + 2 * j : Nat) : Int), ((a + 2 * j + 1 : Nat) : Int)⟩
theorem rd_some {l : List S57} {i : Nat} {x : S57} (h : l[i]? = some x) : rd_T57 l (i : Nat) = x := by
  unfold rd_T57
  rw [Int.toNat_natCast, List.getD_eq_getElem?_getD, h]
  rfl
theorem markw_ev (l : List S57) (h : l.length ≤ 1048576) (a : Nat) (ha : a ≤ 1099511627776) : ∃ l', l'.length = l.length ∧ (∀ j, j < l.length → l'[j]? = some (mk a j)) ∧ Ev (fun k => laws_markWindowS.f k l (a : Nat)) (((a + 2 * l.length : Nat) : Int), l') := by
  have key : ∀ d i (c : List S57), c.length = l.length → i + d = l.length → (∀ j, j < i → c[j]? = some (mk a j)) → ∃ l', l'.length = l.length ∧ (∀ j, j < l.length → l'[j]? = some (mk a j)) ∧ Ev (fun k => laws_markWindowS.l0 k c ((a + 2 * i : Nat) : Int) (i : Nat)) (((a + 2 * l.length : Nat) : Int), l') := by
    intro d
    induction d with
    | zero =>
      intro i c hc hi hq
      obtain rfl : i = l.length := by omega
      refine ⟨c, hc, hq, Ev.step (f := fun k => some (((a + 2 * l.length : Nat) : Int), c)) (fun k => ?_) (Ev.now _)⟩
      simp only [laws_markWindowS.l0, if_neg (show ¬ ((l.length : Int) < (c.length : Int)) by omega)]
    | succ d ih =>
      intro i c hc hi hq
      have e1 : wrap64 (((a + 2 * i : Nat) : Int) + 1) = ((a + 2 * i + 1 : Nat) : Int) := by rw [wrap_id (by omega) (by omega)]; omega
      have e2 : wrap64 (((a + 2 * i + 1 : Nat) : Int) + 1) = ((a + 2 * (i + 1) : Nat) : Int) := by rw [wrap_id (by omega) (by omega)]; omega
      have e3 : (rd_T57 (c.set i (⟨((a + 2 * i : Nat) : Int), (rd_T57 c (i : Nat)).f1⟩ : S57)) (i : Nat)) = ⟨((a + 2 * i : Nat) : Int), (rd_T57 c (i : Nat)).f1⟩ := rd_some (by rw [List.getElem?_set, if_pos rfl, if_pos (by omega)])
      obtain ⟨l', h1, h2, hE⟩ := ih (i + 1) ((c.set i (⟨((a + 2 * i : Nat) : Int), (rd_T57 c (i : Nat)).f1⟩ : S57)).set i (mk a i)) (by simp [hc]) (by omega) (fun j hj => by
        rw [List.getElem?_set]
        by_cases e : i = j
        · subst e; rw [if_pos rfl, if_pos (by simp; omega)]
        · rw [if_neg e, List.getElem?_set, if_neg e]; exact hq j (by omega))
      refine ⟨l', h1, h2, Ev.step (fun k => ?_) hE⟩
      simp only [laws_markWindowS.l0, if_pos (show (i : Int) < (c.length : Int) by omega), if_pos (show (0 : Int) ≤ (i : Int) by omega), Option.bind_some, wrap_succ (show i < l.length by omega) h, Int.toNat_natCast, e1, e2, e3, mk]
  obtain ⟨l', h1, h2, hE⟩ := key l.length 0 l rfl (by omega) (fun j hj => by omega)
  exact ⟨l', h1, h2, Ev.congr (fun k => rfl) hE⟩
theorem held_ev (l : List S57) (h : l.length ≤ 1048576) (a : Nat) (ha : a ≤ 1099511627776) (hq : ∀ j, j < l.length → l[j]? = some (mk a j)) : Ev (fun k => laws_heldWindowS.f k l (a : Nat)) ((a + 2 * l.length : Nat) : Int) := by
  have key : ∀ d i, i + d = l.length → Ev (fun k => laws_heldWindowS.l0 k l ((a + 2 * i : Nat) : Int) (i : Nat)) ((a + 2 * l.length : Nat) : Int) := by
    intro d
    induction d with
    | zero =>
      intro i hi
      obtain rfl : i = l.length := by omega
      refine Ev.step (f := fun k => some ((a + 2 * l.length : Nat) : Int)) (fun k => ?_) (Ev.now _)
      simp only [laws_heldWindowS.l0, if_neg (show ¬ ((l.length : Int) < (l.length : Int)) by omega)]
    | succ d ih =>
      intro i hi
      have e1 : wrap64 (((a + 2 * i : Nat) : Int) + 1) = ((a + 2 * i + 1 : Nat) : Int) := by rw [wrap_id (by omega) (by omega)]; omega
      have e2 : wrap64 (((a + 2 * i + 1 : Nat) : Int) + 1) = ((a + 2 * (i + 1) : Nat) : Int) := by rw [wrap_id (by omega) (by omega)]; omega
      refine Ev.step (fun k => ?_) (ih (i + 1) (by omega))
      simp only [laws_heldWindowS.l0, if_pos (show (i : Int) < (l.length : Int) by omega), if_pos (show (0 : Int) ≤ (i : Int) by omega), rd_some (hq i (by omega)), mk, e1, e2, if_true, wrap_succ (show i < l.length by omega) h]
  exact Ev.congr (fun k => rfl) (key l.length 0 (by omega))
-- the two programs
def inn (a b c : Int) : Bool := decide (a ≥ b) && decide (a ≤ c)
theorem in_s (a b c : Int) : spec_l01In.f a b c = some (inn a b c) := by unfold spec_l01In.f inn; by_cases h : a ≥ b <;> simp [h]
theorem in_i (a b c : Int) : impl_within.f a b c = some (inn a b c) := by unfold impl_within.f inn; by_cases h : a ≥ b <;> simp [h]
theorem bud_i (a : Int) : impl_isBudget.f a = some (inn a 1 200) := by unfold impl_isBudget.f; rw [in_i]; rfl
theorem inn_le {a b c : Int} (h : inn a b c = true) : b ≤ a ∧ a ≤ c := by unfold inn at h; simp at h; omega
theorem same23 (p b : List Int) (m : Int) : ∀ k, (∀ acc t, impl_Harmonic.l2 k p b m acc t = spec_Harmonic.l2 k p b [] m acc t) ∧ (∀ acc t i, impl_Harmonic.l3 k p b m acc t p (p.length : Int) i = spec_Harmonic.l3 k p b [] m acc t i) := by
  intro k
  induction k with
  | zero => exact ⟨fun _ _ => rfl, fun _ _ _ => rfl⟩
  | succ k ih =>
    obtain ⟨i2, i3⟩ := ih
    refine ⟨fun acc t => ?_, fun acc t i => ?_⟩
    · simp only [impl_Harmonic.l2, spec_Harmonic.l2, i3]
    · simp only [impl_Harmonic.l3, spec_Harmonic.l3, i3, i2]
      by_cases h1 : i < (p.length : Int)
      · simp only [if_pos h1]
      · simp only [if_neg h1]
def Fine (p : List Int) (x : List S57 × Bool) : Prop := x.1.length ≤ 12
theorem build (p b : List Int) (hb : b.length = p.length) (hp : p.length ≤ 4) (hr : ∀ j : Nat, j < p.length → 1 ≤ rd p j) (m : Nat) (hm : m ≤ 8) :
    ∃ r : List S57 × Bool, r.1.length ≤ 12 ∧ Ev (fun k => spec_Harmonic.l2 k p b [] (m : Nat) [] 0) r := by
  have key : ∀ d t (acc : List S57), t + d = m → acc.length ≤ 4 * t → ∃ r : List S57 × Bool, r.1.length ≤ 12 ∧ Ev (fun k => spec_Harmonic.l2 k p b [] (m : Nat) acc (t : Nat)) r := by
    intro d
    induction d with
    | zero =>
      intro t acc ht _
      by_cases h12 : (acc.length : Int) > 12
      · refine ⟨([], false), by simp, Ev.step (f := fun k => some ([], false)) (fun k => ?_) (Ev.now _)⟩
        simp only [spec_Harmonic.l2, if_neg (show ¬ ((t : Int) < (m : Int)) by omega), if_pos h12]
      · refine ⟨(acc, true), by simp; omega, Ev.step (f := fun k => some (acc, true)) (fun k => ?_) (Ev.now _)⟩
        simp only [spec_Harmonic.l2, if_neg (show ¬ ((t : Int) < (m : Int)) by omega), if_neg h12]
    | succ d ih =>
      intro t acc ht hl
      have inner : ∀ e i (acc : List S57), i + e = p.length → acc.length ≤ 4 * t + i → ∃ r : List S57 × Bool, r.1.length ≤ 12 ∧ Ev (fun k => spec_Harmonic.l3 k p b [] (m : Nat) acc (t : Nat) (i : Nat)) r := by
        intro e
        induction e with
        | zero =>
          intro i acc hi hl
          obtain ⟨r, h1, h2⟩ := ih (t + 1) acc (by omega) (by omega)
          refine ⟨r, h1, Ev.step (fun k => ?_) h2⟩
          have e1 : wrap64 ((t : Int) + 1) = ((t + 1 : Nat) : Int) := wrap_succ (show t < m by omega) (by omega)
          simp only [spec_Harmonic.l3, if_neg (show ¬ ((i : Int) < (p.length : Int)) by omega), e1]
        | succ e ihe =>
          intro i acc hi hl
          have h1 := hr i (by omega)
          have q1 : (i : Int) < (p.length : Int) := by omega
          have q2 : (0 : Int) ≤ (i : Int) := by omega
          have q3 : ¬ rd p (i : Nat) = 0 := by omega
          have q4 : (i : Int) < (b.length : Int) := by omega
          have q5 : acc.length < 8796093022208 := by omega
          obtain ⟨r, h2, h3⟩ := ihe (i + 1) (acc ++ [⟨((i + 1 : Nat) : Int), rd b (i : Nat)⟩]) (by omega) (by rw [List.length_append, List.length_singleton]; omega)
          obtain ⟨r', h2', h3'⟩ := ihe (i + 1) acc (by omega) (by omega)
          have e1 : wrap64 ((i : Int) + 1) = ((i + 1 : Nat) : Int) := wrap_succ (show i < p.length by omega) (by omega)
          by_cases hz : Int.tmod (t : Int) (rd p (i : Nat)) = 0
          · refine ⟨r, h2, Ev.step (fun k => ?_) h3⟩
            simp only [spec_Harmonic.l3, if_pos q1, if_pos q2, if_neg q3, if_pos hz, if_pos q4, if_pos q5, e1]
          · refine ⟨r', h2', Ev.step (fun k => ?_) h3'⟩
            simp only [spec_Harmonic.l3, if_pos q1, if_pos q2, if_neg q3, if_neg hz, e1]
      obtain ⟨r, h1, h2⟩ := inner p.length 0 acc (by omega) (by omega)
      refine ⟨r, h1, Ev.step (fun k => ?_) h2⟩
      simp only [spec_Harmonic.l2, if_pos (show (t : Int) < (m : Int) by omega)]
      rfl
  exact key m 0 [] (by omega) (by simp)
def top (p : List Int) (x : Int) : Nat → Nat → Int
  | 0, _ => x
  | d + 1, i => top p (mx x (rd p (i : Nat))) d (i + 1)
theorem top_ge (p : List Int) : ∀ d x i, x ≤ top p x d i := by
  intro d
  induction d with
  | zero => intro x i; exact Int.le_refl _
  | succ d ih =>
    intro x i
    have := ih (mx x (rd p (i : Nat))) (i + 1)
    unfold top
    unfold mx at this ⊢
    split at this <;> rename_i h
    · rw [if_pos h]; omega
    · rw [if_neg h]; omega
theorem top_le (p : List Int) (c : Int) : ∀ d x i, x ≤ c → (∀ j : Nat, i ≤ j → j < i + d → rd p j ≤ c) → top p x d i ≤ c := by
  intro d
  induction d with
  | zero => intro x i hx _; exact hx
  | succ d ih =>
    intro x i hx hj
    unfold top
    refine ih _ _ ?_ (fun j h1 h2 => hj j (by omega) (by omega))
    have := hj i (by omega) (by omega)
    unfold mx
    split <;> omega
def okAt (p b : List Int) (i : Nat) : Bool := inn (rd p (i : Nat)) 1 8 && inn (rd b (i : Nat)) 1 200
def allOk (p b : List Int) : Nat → Nat → Bool
  | 0, _ => true
  | d + 1, i => okAt p b i && allOk p b d (i + 1)
def allDiv (p : List Int) (m : Int) : Nat → Nat → Bool
  | 0, _ => true
  | d + 1, i => decide (Int.tmod m (rd p (i : Nat)) = 0) && allDiv p m d (i + 1)
theorem allOk_at (p b : List Int) : ∀ d i, allOk p b d i = true → ∀ j, i ≤ j → j < i + d → okAt p b j = true := by
  intro d
  induction d with
  | zero => intro i _ j h1 h2; omega
  | succ d ih =>
    intro i h j h1 h2
    unfold allOk at h
    simp only [Bool.and_eq_true] at h
    by_cases e : j = i
    · subst e; exact h.1
    · exact ih (i + 1) h.2 j (by omega) (by omega)
def Both (p b : List Int) (fs fi : Nat → Option (List S57 × Bool)) : Prop := ∃ r : List S57 × Bool, r.1.length ≤ 12 ∧ Ev fs r ∧ Ev fi r
-- the reference: first all ranges, then all divisions
theorem s_l1 (p b : List Int) (hp : p.length ≤ 4) (hb : b.length = p.length) (m : Int) (r : List S57 × Bool) (hr : ∀ j : Nat, j < p.length → 1 ≤ rd p j) (hE : Ev (fun k => spec_Harmonic.l2 k p b [] m [] 0) r) :
    ∀ d i, i + d = p.length → Ev (fun k => spec_Harmonic.l1 k p b [] m [] (i : Nat)) (if allDiv p m d i then r else ([], false)) := by
  intro d
  induction d with
  | zero =>
    intro i hi
    refine Ev.step (fun k => ?_) hE
    simp only [spec_Harmonic.l1, if_neg (show ¬ ((i : Int) < (p.length : Int)) by omega)]
  | succ d ih =>
    intro i hi
    have h1 := hr i (by omega)
    have e1 : wrap64 ((i : Int) + 1) = ((i + 1 : Nat) : Int) := wrap_succ (show i < p.length by omega) (by omega)
    by_cases hz : Int.tmod m (rd p (i : Nat)) = 0
    · have e : allDiv p m (d + 1) i = allDiv p m d (i + 1) := by simp [allDiv, hz]
      rw [e]
      refine Ev.step (fun k => ?_) (ih (i + 1) (by omega))
      simp only [spec_Harmonic.l1, if_pos (show (i : Int) < (p.length : Int) by omega), if_pos (show (0 : Int) ≤ (i : Int) by omega), if_neg (show ¬ rd p (i : Nat) = 0 by omega), if_pos hz, e1]
    · have e : allDiv p m (d + 1) i = false := by simp [allDiv, hz]
      rw [e]
      refine Ev.step (f := fun k => some ([], false)) (fun k => ?_) (Ev.now _)
      simp only [spec_Harmonic.l1, if_pos (show (i : Int) < (p.length : Int) by omega), if_pos (show (0 : Int) ≤ (i : Int) by omega), if_neg (show ¬ rd p (i : Nat) = 0 by omega), if_neg hz]
theorem s_l0 (p b : List Int) (hp : p.length ≤ 4) (hb : b.length = p.length) (r : List S57 × Bool) :
    ∀ d i x, i + d = p.length → (allOk p b d i = true → Ev (fun k => spec_Harmonic.l1 k p b [] (top p x d i) [] 0) r) → Ev (fun k => spec_Harmonic.l0 k p b [] x (i : Nat)) (if allOk p b d i then r else ([], false)) := by
  intro d
  induction d with
  | zero =>
    intro i x hi hE
    refine Ev.step (fun k => ?_) (hE rfl)
    simp only [spec_Harmonic.l0, if_neg (show ¬ ((i : Int) < (p.length : Int)) by omega), top]
  | succ d ih =>
    intro i x hi hE
    have e1 : wrap64 ((i : Int) + 1) = ((i + 1 : Nat) : Int) := wrap_succ (show i < p.length by omega) (by omega)
    have h0 : ∀ k, spec_Harmonic.l0 (k + 1) p b [] x (i : Nat) = spec_Harmonic.j2 k p b [] x (i : Nat) (!okAt p b i) := by
      intro k
      simp only [spec_Harmonic.l0, if_pos (show (i : Int) < (p.length : Int) by omega), if_pos (show (0 : Int) ≤ (i : Int) by omega), in_s, Option.bind_some, if_pos (show (i : Int) < (b.length : Int) by omega), okAt]
      cases inn (rd p (i : Nat)) 1 8 <;> simp
    refine Ev.step h0 ?_
    cases hq : okAt p b i with
    | false =>
      have e : allOk p b (d + 1) i = false := by simp [allOk, hq]
      rw [e]
      refine Ev.step (f := fun k => some ([], false)) (fun k => ?_) (Ev.now _)
      simp [spec_Harmonic.j2]
    | true =>
      have e : allOk p b (d + 1) i = allOk p b d (i + 1) := by simp [allOk, hq]
      rw [e] at hE ⊢
      refine Ev.step (fun k => ?_) (ih (i + 1) (mx x (rd p (i : Nat))) (by omega) hE)
      simp only [spec_Harmonic.j2, Bool.not_true, Bool.false_eq_true, if_false, if_pos (show (i : Int) < (p.length : Int) by omega), if_pos (show (0 : Int) ≤ (i : Int) by omega), e1, mx]
      by_cases hm : rd p (i : Nat) > x
      · rw [if_pos hm, if_pos (show x < rd p (i : Nat) from hm)]
      · rw [if_neg hm, if_neg (show ¬ x < rd p (i : Nat) from hm)]
-- the program
theorem i_l0 (p b : List Int) (hp : p.length ≤ 4) (r : List S57 × Bool) : ∀ d i x, i + d = p.length → Ev (fun k => impl_Harmonic.l1 k p b (top p x d i) p (p.length : Int) 0) r → Ev (fun k => impl_Harmonic.l0 k p b x p (p.length : Int) (i : Nat)) r := by
  intro d
  induction d with
  | zero =>
    intro i x hi hE
    refine Ev.step (fun k => ?_) hE
    simp only [impl_Harmonic.l0, if_neg (show ¬ ((i : Int) < (p.length : Int)) by omega), top]
  | succ d ih =>
    intro i x hi hE
    have e1 : wrap64 ((i : Int) + 1) = ((i + 1 : Nat) : Int) := wrap_succ (show i < p.length by omega) (by omega)
    refine Ev.step (fun k => ?_) (ih (i + 1) (mx x (rd p (i : Nat))) (by omega) hE)
    simp only [impl_Harmonic.l0, if_pos (show (i : Int) < (p.length : Int) by omega), if_pos (show (0 : Int) ≤ (i : Int) by omega), e1]
theorem i_l1 (p b : List Int) (hp : p.length ≤ 4) (hb : b.length = p.length) (m : Int) (r : List S57 × Bool) :
    ∀ d i, i + d = p.length → (allOk p b d i = true → allDiv p m d i = true → Ev (fun k => impl_Harmonic.l2 k p b m [] 0) r) → Ev (fun k => impl_Harmonic.l1 k p b m p (p.length : Int) (i : Nat)) (if allOk p b d i && allDiv p m d i then r else ([], false)) := by
  intro d
  induction d with
  | zero =>
    intro i hi hE
    refine Ev.step (fun k => ?_) (hE rfl rfl)
    simp only [impl_Harmonic.l1, if_neg (show ¬ ((i : Int) < (p.length : Int)) by omega)]
  | succ d ih =>
    intro i hi hE
    have e1 : wrap64 ((i : Int) + 1) = ((i + 1 : Nat) : Int) := wrap_succ (show i < p.length by omega) (by omega)
    cases h1 : inn (rd p (i : Nat)) 1 8 with
    | false =>
      have e : allOk p b (d + 1) i = false := by simp [allOk, okAt, h1]
      rw [e]
      refine Ev.step (f := fun k => some ([], false)) (fun k => ?_) (Ev.now _)
      simp only [impl_Harmonic.l1, if_pos (show (i : Int) < (p.length : Int) by omega), if_pos (show (0 : Int) ≤ (i : Int) by omega), in_i, h1, Option.bind_some, Bool.false_eq_true, if_false]
    | true =>
      have g1 := inn_le h1
      by_cases hz : Int.tmod m (rd p (i : Nat)) = 0
      · cases h2 : inn (rd b (i : Nat)) 1 200 with
        | false =>
          have e : allOk p b (d + 1) i = false := by simp [allOk, okAt, h2]
          rw [e]
          refine Ev.step (f := fun k => some ([], false)) (fun k => ?_) (Ev.now _)
          simp only [impl_Harmonic.l1, if_pos (show (i : Int) < (p.length : Int) by omega), if_pos (show (0 : Int) ≤ (i : Int) by omega), in_i, bud_i, h1, h2, Option.bind_some, Bool.false_eq_true, if_false, if_true, if_neg (show ¬ rd p (i : Nat) = 0 by omega), if_pos hz, if_pos (show (i : Int) < (b.length : Int) by omega)]
        | true =>
          have e : allOk p b (d + 1) i = allOk p b d (i + 1) := by simp [allOk, okAt, h1, h2]
          have e' : allDiv p m (d + 1) i = allDiv p m d (i + 1) := by simp [allDiv, hz]
          rw [e, e'] at hE ⊢
          refine Ev.step (fun k => ?_) (ih (i + 1) (by omega) hE)
          simp only [impl_Harmonic.l1, if_pos (show (i : Int) < (p.length : Int) by omega), if_pos (show (0 : Int) ≤ (i : Int) by omega), in_i, bud_i, h1, h2, Option.bind_some, if_true, if_neg (show ¬ rd p (i : Nat) = 0 by omega), if_pos hz, if_pos (show (i : Int) < (b.length : Int) by omega), e1]
      · have e : allDiv p m (d + 1) i = false := by simp [allDiv, hz]
        rw [e, Bool.and_false]
        refine Ev.step (f := fun k => some ([], false)) (fun k => ?_) (Ev.now _)
        simp only [impl_Harmonic.l1, if_pos (show (i : Int) < (p.length : Int) by omega), if_pos (show (0 : Int) ≤ (i : Int) by omega), in_i, h1, Option.bind_some, if_true, if_neg (show ¬ rd p (i : Nat) = 0 by omega), if_neg hz]
theorem ends (p b : List Int) : ∃ r : List S57 × Bool, r.1.length ≤ 12 ∧ Ev (fun k => spec_Harmonic.f k p b) r ∧ Ev (fun k => impl_Harmonic.f k p b) r := by
  have bad : ∀ x : Bool, x = true → Ev (fun k => spec_Harmonic.j0 k p b [] x) ([], false) := fun x hx => Ev.step (f := fun k => some ([], false)) (fun k => by simp only [spec_Harmonic.j0, if_pos hx]) (Ev.now _)
  have badi : ∀ x : Bool, x = true → Ev (fun k => impl_Harmonic.j0 k p b x) ([], false) := fun x hx => Ev.step (f := fun k => some ([], false)) (fun k => by simp only [impl_Harmonic.j0, if_pos hx]) (Ev.now _)
  cases hn : inn (p.length : Int) 1 4 with
  | false =>
    refine ⟨([], false), by simp, Ev.congr (fun k => ?_) (bad true rfl), Ev.congr (fun k => ?_) (badi true rfl)⟩
    · simp only [spec_Harmonic.f, Option.bind_some, in_s, hn, Bool.false_eq_true, if_false]
    · simp only [impl_Harmonic.f, Option.bind_some, in_i, hn, Bool.false_eq_true, if_false]
  | true =>
    have h4 := inn_le hn
    by_cases hb : b.length = p.length
    · have hf : ((b.length : Int) != (p.length : Int)) = false := by simp [hb]
      have hres : ∃ r : List S57 × Bool, r.1.length ≤ 12 ∧ (allOk p b p.length 0 = true → Ev (fun k => spec_Harmonic.l2 k p b [] (top p 0 p.length 0) [] 0) r) := by
        cases ha : allOk p b p.length 0 with
        | false => exact ⟨([], false), by simp, fun h => by cases h⟩
        | true =>
          have hat := allOk_at p b _ _ ha
          have hin : ∀ j : Nat, j < p.length → 1 ≤ rd p j ∧ rd p j ≤ 8 := fun j hj => by
            have := hat j (by omega) (by omega)
            unfold okAt at this
            simp only [Bool.and_eq_true] at this
            exact inn_le this.1
          have t0 := top_ge p p.length 0 0
          have t1 := top_le p 8 p.length 0 0 (by omega) (fun j _ h2 => (hin j (by omega)).2)
          obtain ⟨m, hm⟩ : ∃ m : Nat, top p 0 p.length 0 = (m : Int) := ⟨(top p 0 p.length 0).toNat, by omega⟩
          rw [hm]
          obtain ⟨r, h1, h2⟩ := build p b hb (by omega) (fun j hj => (hin j hj).1) m (by omega)
          exact ⟨r, h1, fun _ => h2⟩
      obtain ⟨r, hr, hE⟩ := hres
      refine ⟨if allOk p b p.length 0 then (if allDiv p (top p 0 p.length 0) p.length 0 then r else ([], false)) else ([], false), ?_, ?_, ?_⟩
      · split
        · split
          · exact hr
          · simp
        · simp
      · refine Ev.congr (g := fun k => spec_Harmonic.f k p b) (f := fun k => spec_Harmonic.j0 k p b [] false) (fun k => ?_) (Ev.step (fun k => ?_) (s_l0 p b (by omega) hb _ p.length 0 0 (by omega) (fun ha => ?_)))
        · simp only [spec_Harmonic.f, Option.bind_some, in_s, hn, if_true, hf]
        · simp only [spec_Harmonic.j0, Bool.false_eq_true, if_false]; rfl
        · have hat := allOk_at p b _ _ ha
          refine s_l1 p b (by omega) hb _ r (fun j hj => ?_) (hE ha) p.length 0 (by omega)
          have := hat j (by omega) (by omega)
          unfold okAt at this
          simp only [Bool.and_eq_true] at this
          exact (inn_le this.1).1
      · refine Ev.congr (g := fun k => impl_Harmonic.f k p b) (f := fun k => impl_Harmonic.j0 k p b false) (fun k => ?_) (Ev.step (fun k => ?_) (i_l0 p b (by omega) _ p.length 0 0 (by omega) ?_))
        · simp only [impl_Harmonic.f, Option.bind_some, in_i, hn, if_true, hf]
        · simp only [impl_Harmonic.j0, Bool.false_eq_true, if_false]; rfl
        · have hi := i_l1 p b (by omega) hb (top p 0 p.length 0) r p.length 0 (by omega) (fun ha _ => Ev.congr (fun k => (same23 p b _ k).1 [] 0) (hE ha))
          cases ha : allOk p b p.length 0 <;> cases hd : allDiv p (top p 0 p.length 0) p.length 0 <;> simp only [ha, hd, Bool.and_true, Bool.and_false, Bool.false_and, Bool.true_and] at hi ⊢ <;> exact hi
    · have hf : ((b.length : Int) != (p.length : Int)) = true := by simp; omega
      refine ⟨([], false), by simp, Ev.congr (fun k => ?_) (bad true rfl), Ev.congr (fun k => ?_) (badi true rfl)⟩
      · simp only [spec_Harmonic.f, Option.bind_some, in_s, hn, if_true, hf]
      · simp only [impl_Harmonic.f, Option.bind_some, in_i, hn, if_true, hf]
theorem FnExactHarmonic : laws_FnExactHarmonic.Pure := by
  intro x0 x1 _ _ _ _ _ _
  by_cases h0 : (x0.length : Int) > 1048576
  · exact ⟨0, by simp only [laws_FnExactHarmonic.f, if_pos h0]⟩
  by_cases h1 : (x1.length : Int) > 1048576
  · exact ⟨0, by simp only [laws_FnExactHarmonic.f, if_neg h0, if_pos h1]⟩
  obtain ⟨r, hr, hs, hi⟩ := ends x0 x1
  obtain ⟨_, hm0⟩ := marki_ev x0 (by omega) 1 (by omega)
  obtain ⟨_, hm1⟩ := marki_ev x1 (by omega) (1 + x0.length) (by omega)
  obtain ⟨W, hW, hWq, hmw⟩ := markw_ev r.1 (by omega) 1 (by omega)
  have hh := held_ev W (by omega) 1 (by omega) (fun j hj => hWq j (by omega))
  rw [hW] at hh
  obtain ⟨K1, c0⟩ := cp_ev x0 (by omega)
  obtain ⟨K2, c1⟩ := cp_ev x1 (by omega)
  obtain ⟨K3, s⟩ := hs
  obtain ⟨K4, i⟩ := hi
  obtain ⟨K5, q0⟩ := eqi_ev x0 (by omega)
  obtain ⟨K6, q1⟩ := eqi_ev x1 (by omega)
  obtain ⟨K7, qw⟩ := eqw_ev r.1 (by omega)
  obtain ⟨K8, m0⟩ := hm0
  obtain ⟨K9, m1⟩ := hm1
  obtain ⟨K10, mw⟩ := hmw
  obtain ⟨K11, hd⟩ := hh
  obtain ⟨K, hK⟩ : ∃ K, K = K1 + K2 + K3 + K4 + K5 + K6 + K7 + K8 + K9 + K10 + K11 := ⟨_, rfl⟩
  have one : ((1 : Nat) : Int) = 1 := rfl
  simp only [one] at m0 mw hd
  have b2 : (r.2 != r.2) = false := by cases r.2 <;> rfl
  refine ⟨K + 3, ?_⟩
  simp only [laws_FnExactHarmonic.f, if_neg h0, if_neg h1, c0 (K + 3) (by omega), c1 (K + 3) (by omega), s (K + 3) (by omega), i (K + 3) (by omega), qw (K + 3) (by omega), Option.bind_some, if_true, b2]
  simp only [laws_FnExactHarmonic.j0, Bool.false_eq_true, if_false, c0 (K + 2) (by omega), c1 (K + 2) (by omega), q0 (K + 2) (by omega), q1 (K + 2) (by omega), m0 (K + 2) (by omega), m1 (K + 2) (by omega), qw (K + 2) (by omega), Option.bind_some, if_true, b2, if_neg (show ¬ (((1 + x0.length + x1.length : Nat) : Int) < 0) by omega)]
  simp only [laws_FnExactHarmonic.j1, Bool.false_eq_true, if_false, mw (K + 1) (by omega), hd (K + 1) (by omega), c0 (K + 1) (by omega), c1 (K + 1) (by omega), i (K + 1) (by omega), qw (K + 1) (by omega), Option.bind_some, if_true, b2, if_neg (show ¬ (((1 + 2 * r.1.length : Nat) : Int) < 0) by omega)]
  simp only [laws_FnExactHarmonic.j2, Bool.false_eq_true, if_false, hd K (by omega), Option.bind_some, if_true, if_neg (show ¬ (((1 + 2 * r.1.length : Nat) : Int) < 0) by omega)]

end Go.Proofs.Ytgihjaonapngdaa.Pure
