/- Plans of periods. No condition. -/
import Derived.Test.YtgihjaonapngdaaTBase
namespace Go.Proofs.Ytgihjaonapngdaa.Pure
open Go Go.Proofs.YtgihjaonapngdaaA Go.Proofs.YtgihjaonapngdaaU Go.Proofs.Ytgihjaonapngdaa.QA
set_option linter.unusedVariables false
namespace Harm
abbrev I1 : Ty := .int .i64
theorem ne0 {x : Int} (h : 1 ≤ x) : ¬ x = 0 := by omega
def mx (P : List Int) : Nat → Int
  | 0 => 0
  | j + 1 => max (mx P j) (el I1 P j)
def row (P Bu : List Int) (t : Int) : Nat → List (Int × Int)
  | 0 => []
  | j + 1 => row P Bu t j ++ (if Int.tmod t (el I1 P j) = 0 then [(((j + 1 : Nat) : Int), el I1 Bu j)] else [])
def plan (P Bu : List Int) : Nat → List (Int × Int)
  | 0 => []
  | t + 1 => plan P Bu t ++ row P Bu (t : Int) P.length
def InN (p b : Int) : Prop := (1 ≤ p ∧ p ≤ 8) ∧ (1 ≤ b ∧ b ≤ 200)
def In (P Bu : List Int) (i : Nat) : Prop := InN (el I1 P i) (el I1 Bu i)
def Good (P Bu : List Int) : Prop := (1 ≤ (P.length : Int) ∧ (P.length : Int) ≤ 4) ∧ Bu.length = P.length ∧ ∀ i, i < P.length → In P Bu i ∧ Int.tmod (mx P P.length) (el I1 P i) = 0
noncomputable def harm (P Bu : List Int) : List (Int × Int) × Bool :=
  if B (Good P Bu) = true ∧ ((plan P Bu (mx P P.length).toNat).length : Int) ≤ 12 then (plan P Bu (mx P P.length).toNat, true) else ([], false)
theorem harm_bad {P Bu : List Int} (h : ¬ Good P Bu) : harm P Bu = ([], false) := by
  unfold harm
  rw [B_no h, if_neg (fun h => by cases h.1)]
theorem mx_nn (P : List Int) : ∀ j, 0 ≤ mx P j
  | 0 => Int.le_refl 0
  | j + 1 => by
    have := mx_nn P j
    show 0 ≤ max (mx P j) _
    omega
theorem mx_le {P : List Int} : ∀ j, (∀ i, i < j → el I1 P i ≤ 8) → mx P j ≤ 8
  | 0, _ => by show (0 : Int) ≤ 8; omega
  | j + 1, h => by
    have h1 := mx_le j (fun i hi => h i (by omega))
    have h2 := h j (by omega)
    exact Int.max_le.2 ⟨h1, h2⟩
theorem row_len (P Bu : List Int) (t : Int) : ∀ j, (row P Bu t j).length ≤ j
  | 0 => Nat.le_refl 0
  | j + 1 => by
    have := row_len P Bu t j
    show (row P Bu t j ++ _).length ≤ j + 1
    rw [List.length_append]
    split <;> simp <;> omega
theorem plan_len (P Bu : List Int) : ∀ t, (plan P Bu t).length ≤ t * P.length
  | 0 => Nat.zero_le _
  | t + 1 => by
    have h1 := plan_len P Bu t
    have h2 := row_len P Bu (t : Int) P.length
    show (plan P Bu t ++ _).length ≤ (t + 1) * P.length
    rw [List.length_append, Nat.succ_mul]
    omega
theorem good_M {P Bu : List Int} (h : ∀ i, i < P.length → In P Bu i) : 0 ≤ mx P P.length ∧ mx P P.length ≤ 8 := ⟨mx_nn _ _, mx_le _ (fun i hi => (h i hi).1.2)⟩
theorem plan32 {P Bu : List Int} {t j : Nat} (hp : P.length ≤ 4) (ht : t ≤ 8) (hj : j ≤ 4) : (plan P Bu t ++ row P Bu (t : Int) j).length ≤ 40 := by
  have h1 := plan_len P Bu t
  have h2 := row_len P Bu (t : Int) j
  have h3 : t * P.length ≤ 8 * 4 := Nat.mul_le_mul ht hp
  rw [List.length_append]
  omega
theorem fin_i {k : Nat} {P Bu : List Int} (hk : 1048576 < k) (hg : Good P Bu) : impl_Harmonic.l3 k k (mx P P.length, 0, P, Bu, [], ()) = some (harm P Bu) := by
  have hM := good_M (fun i hi => (hg.2.2 i hi).1)
  have hp : P.length ≤ 4 := by have := hg.1.2; omega
  have hB : Bu.length = P.length := hg.2.1
  obtain ⟨M, hMe⟩ : ∃ M : Nat, mx P P.length = (M : Int) := ⟨(mx P P.length).toNat, by omega⟩
  rw [hMe] at hM
  refine ok_eq ?_
  rw [hMe]
  refine ok_loop (L := impl_Harmonic.l3 k) (I := fun d s => ∃ t : Nat, s = ((M : Int), (t : Int), P, Bu, plan P Bu t, ()) ∧ t + d = M) ?_ k M _ (by omega) ⟨0, rfl, by omega⟩
  rintro d n s ⟨t, rfl, hd⟩ ih
  rw [impl_Harmonic.l3]
  refine ok_if (fun hc => ?_) (fun hc => ?_)
  · refine ok_loop (L := impl_Harmonic.l4 k (impl_Harmonic.l3 k n)) (I := fun e s => ∃ i : Nat, s = ((M : Int), (t : Int), (P.length : Int), (i : Int), P, Bu, plan P Bu t ++ row P Bu (t : Int) i, ()) ∧ i + e = P.length) ?_ k P.length _ (by omega) ⟨0, by rw [row, List.append_nil]; rfl, by omega⟩
    rintro e n' s ⟨i, rfl, he⟩ ih2
    rw [impl_Harmonic.l4]
    have h4 : w64 ((t : Int) + 1) = ((t + 1 : Nat) : Int) := w64_id (by omega) (by omega)
    refine ok_if (fun hc2 => ?_) (fun hc2 => ?_)
    · have c0 : (0 : Int) ≤ (i : Int) := by omega
      have c1 : (i : Int) < (P.length : Int) := by omega
      have c2 : (i : Int) < (Bu.length : Int) := by omega
      have c3 : w64 ((i : Int) + 1) = ((i + 1 : Nat) : Int) := w64_id (by omega) (by omega)
      have c4 : ¬ el I1 P i = 0 := ne0 (hg.2.2 i (by omega)).1.1.1
      have c5 := plan32 (P := P) (Bu := Bu) (t := t) (j := i) hp (by omega) (by omega)
      have c6 : ((plan P Bu t ++ row P Bu (t : Int) i).length + 1) * 16 ≤ 140737488355328 := by omega
      simp only [c0, c1, c2, c3, Int.toNat_natCast, Option.bind_some, ↓reduceIte, List.length_cons, List.length_nil, Nat.zero_add]
      rw [if_pos c4]
      have go := ih2 (e - 1) _ (by omega) ⟨i + 1, rfl, by omega⟩
      rw [row, ← List.append_assoc] at go
      refine ok_if (fun hz => ?_) (fun hz => ?_)
      · rw [if_pos hz] at go
        rw [if_pos c6]
        exact go
      · rw [if_neg hz, List.append_nil] at go
        exact go
    · rw [h4]
      obtain rfl : i = P.length := by omega
      exact ih (d - 1) _ (by omega) ⟨t + 1, rfl, by omega⟩
  · obtain rfl : t = M := by omega
    unfold harm
    rw [B_yes hg, hMe]
    simp only [Int.toNat_natCast, true_and]
    refine ok_if (fun h => ok_some ?_) (fun h => ok_some ?_)
    · rw [if_neg (by omega)]
    · rw [if_pos (by omega)]
theorem harm_i {k : Nat} {P Bu : List Int} (hk : 1048576 < k) : impl_Harmonic.f k P Bu = some (harm P Bu) := by
  refine ok_eq ?_
  unfold impl_Harmonic.f
  rw [in_i]
  refine ok_let ?_
  have bad : ¬ Good P Bu → Ok (some (([], false) : List (Int × Int) × Bool)) (fun r => r = harm P Bu) := fun h => ok_some (harm_bad h).symm
  refine ok_if (fun h => bad (fun hg => h (decide_eq_true hg.1))) (fun h1 => ?_)
  refine ok_if (fun h => bad (fun hg => h (by rw [hg.2.1]))) (fun h2 => ?_)
  have h1' := of_decide_eq_true (Classical.not_not.1 h1)
  have h2' : Bu.length = P.length := by have := Classical.not_not.1 h2; omega
  refine ok_loop (L := impl_Harmonic.l1 k) (I := fun d s => ∃ j : Nat, s = (mx P j, (P.length : Int), (j : Int), P, Bu, ()) ∧ j + d = P.length) ?_ k P.length _ (by omega) ⟨0, rfl, by omega⟩
  rintro d n s ⟨j, rfl, hd⟩ ih
  rw [impl_Harmonic.l1]
  have h4 : w64 ((j : Int) + 1) = ((j + 1 : Nat) : Int) := w64_id (by omega) (by omega)
  refine ok_if (fun hc => ?_) (fun hc => ?_)
  · rw [if_pos (by omega), if_pos hc, h4]
    exact ih (d - 1) _ (by omega) ⟨j + 1, rfl, by omega⟩
  · obtain rfl : j = P.length := by omega
    refine ok_loop (L := impl_Harmonic.l2 k) (I := fun d s => ∃ j : Nat, s = (mx P P.length, (P.length : Int), (j : Int), P, Bu, ()) ∧ j + d = P.length ∧ ∀ i, i < j → In P Bu i ∧ Int.tmod (mx P P.length) (el I1 P i) = 0) ?_ k P.length _ (by omega) ⟨0, rfl, by omega, fun i hi => absurd hi (by omega)⟩
    clear ih hd
    rintro d n s ⟨j, rfl, hd, hq⟩ ih
    rw [impl_Harmonic.l2]
    refine ok_if (fun hc => ?_) (fun hc => ?_)
    · have h4 : w64 ((j : Int) + 1) = ((j + 1 : Nat) : Int) := w64_id (by omega) (by omega)
      have hb : ∀ x, impl_isBudget.f k x = some (decide (1 ≤ x ∧ x ≤ 200)) := fun x => by
        unfold impl_isBudget.f
        rw [in_i]
        rfl
      rw [if_pos (by omega), if_pos hc, in_i, h4]
      refine ok_let (ok_if (fun h => bad (fun hg => h (decide_eq_true (by simp only [Int.toNat_natCast]; exact (hg.2.2 j (by omega)).1.1)))) (fun h5 => ?_))
      have h5' := of_decide_eq_true (Classical.not_not.1 h5)
      simp only [Int.toNat_natCast] at h5' ⊢
      rw [if_pos (show ¬ el I1 P j = 0 from ne0 h5'.1)]
      refine ok_if (fun h => bad (fun hg => h (hg.2.2 j (by omega)).2)) (fun h6 => ?_)
      rw [if_pos (by omega), if_pos (by omega), hb]
      refine ok_let (ok_if (fun h => bad (fun hg => h (decide_eq_true (hg.2.2 j (by omega)).1.2))) (fun h7 => ?_))
      have h7' := of_decide_eq_true (Classical.not_not.1 h7)
      exact ih (d - 1) _ (by omega) ⟨j + 1, rfl, by omega, fun i hi => by
        rcases Nat.lt_or_ge i j with h | h
        · exact hq i h
        · obtain rfl : i = j := by omega
          exact ⟨⟨h5', h7'⟩, Classical.not_not.1 h6⟩⟩
    · have hg : Good P Bu := ⟨h1', h2', fun i hi => hq i (by omega)⟩
      exact ok_let (ok_of (fin_i hk hg) rfl)
theorem fin_s {k : Nat} {P Bu : List Int} (hk : 1048576 < k) (hg : Good P Bu) : spec_Harmonic.l3 k k (mx P P.length, 0, P, Bu, [], [], ()) = some (harm P Bu) := by
  have hM := good_M (fun i hi => (hg.2.2 i hi).1)
  have hp : P.length ≤ 4 := by have := hg.1.2; omega
  have hB : Bu.length = P.length := hg.2.1
  obtain ⟨M, hMe⟩ : ∃ M : Nat, mx P P.length = (M : Int) := ⟨(mx P P.length).toNat, by omega⟩
  rw [hMe] at hM
  refine ok_eq ?_
  rw [hMe]
  refine ok_loop (L := spec_Harmonic.l3 k) (I := fun d s => ∃ t : Nat, s = ((M : Int), (t : Int), P, Bu, [], plan P Bu t, ()) ∧ t + d = M) ?_ k M _ (by omega) ⟨0, rfl, by omega⟩
  rintro d n s ⟨t, rfl, hd⟩ ih
  rw [spec_Harmonic.l3]
  refine ok_if (fun hc => ?_) (fun hc => ?_)
  · refine ok_loop (L := spec_Harmonic.l4 k (spec_Harmonic.l3 k n)) (I := fun e s => ∃ i : Nat, s = ((M : Int), (t : Int), (i : Int), P, Bu, [], plan P Bu t ++ row P Bu (t : Int) i, ()) ∧ i + e = P.length) ?_ k P.length _ (by omega) ⟨0, by rw [row, List.append_nil]; rfl, by omega⟩
    rintro e n' s ⟨i, rfl, he⟩ ih2
    rw [spec_Harmonic.l4]
    have h4 : w64 ((t : Int) + 1) = ((t + 1 : Nat) : Int) := w64_id (by omega) (by omega)
    refine ok_if (fun hc2 => ?_) (fun hc2 => ?_)
    · have c0 : (0 : Int) ≤ (i : Int) := by omega
      have c1 : (i : Int) < (P.length : Int) := by omega
      have c2 : (i : Int) < (Bu.length : Int) := by omega
      have c3 : w64 ((i : Int) + 1) = ((i + 1 : Nat) : Int) := w64_id (by omega) (by omega)
      have c4 : ¬ el I1 P i = 0 := ne0 (hg.2.2 i (by omega)).1.1.1
      have c5 := plan32 (P := P) (Bu := Bu) (t := t) (j := i) hp (by omega) (by omega)
      have c6 : ((plan P Bu t ++ row P Bu (t : Int) i).length + 1) * 16 ≤ 140737488355328 := by omega
      simp only [c0, c1, c2, c3, Int.toNat_natCast, Option.bind_some, ↓reduceIte, List.length_cons, List.length_nil, Nat.zero_add]
      rw [if_pos c4]
      have go := ih2 (e - 1) _ (by omega) ⟨i + 1, rfl, by omega⟩
      rw [row, ← List.append_assoc] at go
      refine ok_if (fun hz => ?_) (fun hz => ?_)
      · rw [if_pos hz] at go
        rw [if_pos c6]
        exact go
      · rw [if_neg hz, List.append_nil] at go
        exact go
    · rw [h4]
      obtain rfl : i = P.length := by omega
      exact ih (d - 1) _ (by omega) ⟨t + 1, rfl, by omega⟩
  · obtain rfl : t = M := by omega
    unfold harm
    rw [B_yes hg, hMe]
    simp only [Int.toNat_natCast, true_and]
    refine ok_if (fun h => ok_some ?_) (fun h => ok_some ?_)
    · rw [if_neg (by omega)]
    · rw [if_pos (by omega)]
theorem harm_s {k : Nat} {P Bu : List Int} (hk : 1048576 < k) : spec_Harmonic.f k P Bu = some (harm P Bu) := by
  refine ok_eq ?_
  unfold spec_Harmonic.f
  rw [in_s]
  refine ok_let (ok_let ?_)
  have bad : ¬ Good P Bu → Ok (some (([], false) : List (Int × Int) × Bool)) (fun r => r = harm P Bu) := fun h => ok_some (harm_bad h).symm
  refine ok_if (fun h => bad (fun hg => h (decide_eq_true hg.1))) (fun h1 => ?_)
  refine ok_if (fun h => bad (fun hg => h (by rw [hg.2.1]))) (fun h2 => ?_)
  have h1' := of_decide_eq_true (Classical.not_not.1 h1)
  have h2' : Bu.length = P.length := by have := Classical.not_not.1 h2; omega
  refine ok_loop (L := spec_Harmonic.l1 k) (I := fun d s => ∃ j : Nat, s = (mx P j, (j : Int), P, Bu, [], ()) ∧ j + d = P.length ∧ ∀ i, i < j → In P Bu i) ?_ k P.length _ (by omega) ⟨0, rfl, by omega, fun i hi => absurd hi (by omega)⟩
  rintro d n s ⟨j, rfl, hd, hq⟩ ih
  rw [spec_Harmonic.l1]
  have h4 : w64 ((j : Int) + 1) = ((j + 1 : Nat) : Int) := w64_id (by omega) (by omega)
  refine ok_if (fun hc => ?_) (fun hc => ?_)
  · have c0 : (0 : Int) ≤ (j : Int) := by omega
    have c1 : (j : Int) < (P.length : Int) := by omega
    have c2 : (j : Int) < (Bu.length : Int) := by omega
    simp only [c0, c1, c2, h4, Int.toNat_natCast, ↓reduceIte, in_s]
    refine ok_let (ok_if (fun h => bad (fun hg => h (decide_eq_true (hg.2.2 j (by omega)).1.1))) (fun h5 => ?_))
    refine ok_let (ok_if (fun h => bad (fun hg => h (decide_eq_true (hg.2.2 j (by omega)).1.2))) (fun h6 => ?_))
    have h5' := of_decide_eq_true (Classical.not_not.1 h5)
    have h6' := of_decide_eq_true (Classical.not_not.1 h6)
    have go := ih (d - 1) _ (by omega) ⟨j + 1, rfl, by omega, fun i hi => by
        rcases Nat.lt_or_ge i j with h | h
        · exact hq i h
        · obtain rfl : i = j := by omega
          exact ⟨h5', h6'⟩⟩
    rw [mx] at go
    refine ok_if (fun h => ?_) (fun h => ?_)
    · rw [show max (mx P j) (el I1 P j) = el I1 P j from Int.max_eq_right (Int.le_of_lt h)] at go
      exact go
    · rw [show max (mx P j) (el I1 P j) = mx P j from Int.max_eq_left (Int.not_lt.1 h)] at go
      exact go
  · obtain rfl : j = P.length := by omega
    refine ok_let ?_
    have hIn := hq
    refine ok_loop (L := spec_Harmonic.l2 k) (I := fun d s => ∃ j : Nat, s = (mx P P.length, (j : Int), P, Bu, [], [], ()) ∧ j + d = P.length ∧ ∀ i, i < j → Int.tmod (mx P P.length) (el I1 P i) = 0) ?_ k P.length _ (by omega) ⟨0, rfl, by omega, fun i hi => absurd hi (by omega)⟩
    clear ih hd hq
    rintro d n s ⟨j, rfl, hd, hq⟩ ih
    rw [spec_Harmonic.l2]
    refine ok_if (fun hc => ?_) (fun hc => ?_)
    · have h4 : w64 ((j : Int) + 1) = ((j + 1 : Nat) : Int) := w64_id (by omega) (by omega)
      rw [if_pos (by omega), if_pos hc, h4]
      simp only [Int.toNat_natCast]
      rw [if_pos (show ¬ el I1 P j = 0 from ne0 (hIn j (by omega)).1.1)]
      refine ok_if (fun h => bad (fun hg => h (hg.2.2 j (by omega)).2)) (fun h6 => ?_)
      exact ih (d - 1) _ (by omega) ⟨j + 1, rfl, by omega, fun i hi => by
        rcases Nat.lt_or_ge i j with h | h
        · exact hq i h
        · obtain rfl : i = j := by omega
          exact Classical.not_not.1 h6⟩
    · have hg : Good P Bu := ⟨h1', h2', fun i hi => ⟨hIn i hi, hq i (by omega)⟩⟩
      exact ok_of (fin_s hk hg) rfl
end Harm
end Go.Proofs.Ytgihjaonapngdaa.Pure
