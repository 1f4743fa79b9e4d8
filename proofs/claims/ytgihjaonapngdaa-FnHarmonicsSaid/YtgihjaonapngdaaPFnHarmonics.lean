/- The plain law of FnHarmonics. No condition. -/
import Derived.Test.YtgihjaonapngdaaTHarm
import Derived.Test.YtgihjaonapngdaaTPlan
import Derived.Test.YtgihjaonapngdaaTDraw
import Derived.Test.YtgihjaonapngdaaQFnHarmonics
namespace Go.Proofs.Ytgihjaonapngdaa.Pure
open Go Go.Proofs.YtgihjaonapngdaaA Go.Proofs.YtgihjaonapngdaaU Go.Proofs.Ytgihjaonapngdaa.QA Go.Proofs.Ytgihjaonapngdaa.QFnHarmonics
set_option linter.unusedVariables false
namespace Harm
/-! ### what is drawn -/
theorem pickInt_ok {k : Nat} {c : List Int × Int × Int} {L : List Int} (h : Cur c) (hl : 0 < L.length) : Ok (spec_l01PickInt.f k c L) (fun r => Cur (c.1, r.2.2)) := by
  unfold spec_l01PickInt.f
  refine ok_bind (below_lt h (by omega)) (fun r hr => ?_)
  rw [if_pos hr.1, if_pos hr.2.1]
  exact ok_some hr.2.2
theorem draw_ok {k : Nat} {xs : List Int} (hl : xs.length ≤ 1048576) (hk : 1048576 < k) : Ok (spec_DrawHarmonic.f k xs) (fun _ => True) := by
  unfold spec_DrawHarmonic.f
  refine ok_bind (new_ok hl hk) (fun r1 hr1 => ok_let (ok_let ?_))
  refine ok_loop (L := spec_DrawHarmonic.l1 k) (I := fun d s => ∃ (j : Nat) (ci ch : Int) (P Bu : List Int), s = ((j : Int), ci, ch, xs, P, Bu, ()) ∧ j + d = 4 ∧ Cur (xs, ci, ch) ∧ P.length = j ∧ Bu.length = j) ?_ k 4 _ (by omega) ⟨0, _, _, [], [], rfl, by omega, hr1, rfl, rfl⟩
  rintro d n s ⟨j, ci, ch, P, Bu, rfl, hd, hc, hP, hB⟩ ih
  rw [spec_DrawHarmonic.l1]
  refine ok_bind (below_lt hc (by omega)) (fun r4 hr4 => ?_)
  have e4 : w64 (1 + r4.1) = 1 + r4.1 := w64_id (by omega) (by omega)
  rw [e4]
  refine ok_if (fun hlt => ?_) (fun hge => ?_)
  · refine ok_let (ok_bind (pickInt_ok hr4.2.2 (by decide)) (fun r6 hr6 => ok_let ?_))
    simp only [List.length_cons, List.length_nil]
    rw [if_pos (by omega)]
    refine ok_let (ok_bind (below_lt hr6 (by omega)) (fun r9 hr9 => ok_let ?_))
    simp only [List.length_cons, List.length_nil]
    rw [if_pos (by omega)]
    refine ok_let ?_
    have h4 : w64 ((j : Int) + 1) = ((j + 1 : Nat) : Int) := w64_id (by omega) (by omega)
    rw [h4]
    exact ih (d - 1) _ (by omega) ⟨j + 1, _, _, _, _, rfl, by omega, hr9.2.2, by simp [hP], by simp [hB]⟩
  · refine ok_bind (below_ok hr4.2.2) (fun r12 hr12 => ok_if (fun _ => ?_) (fun _ => ok_if (fun _ => ?_) (fun _ => ok_if (fun _ => ?_) (fun _ => ok_some trivial))))
    · refine ok_let (ok_bind (pickInt_ok hr12.2.2.2 (by decide)) (fun r hr => ?_))
      rw [if_pos (by omega), if_pos (by omega)]
      exact ok_some trivial
    · refine ok_let (ok_bind (pickInt_ok hr12.2.2.2 (by decide)) (fun r hr => ?_))
      rw [if_pos (by omega), if_pos (by omega)]
      exact ok_some trivial
    · rw [if_pos (by omega), if_pos (by omega)]
      exact ok_some trivial
/-! ### how often -/
def mult (p : Int) : Nat → Int
  | 0 => 0
  | t + 1 => mult p t + (if Int.tmod (t : Int) p = 0 then 1 else 0)
theorem mult_all : ∀ p : Fin 9, ∀ T : Fin 9, Int.tmod (T.val : Int) (p.val : Int) = 0 → 1 ≤ p.val → mult (p.val : Int) T.val * (p.val : Int) = (T.val : Int) := by decide
theorem mult_at {p : Int} {T : Nat} (hp : 1 ≤ p ∧ p ≤ 8) (hT : T ≤ 8) (h : Int.tmod (T : Int) p = 0) : mult p T * p = (T : Int) := by
  obtain ⟨q, rfl⟩ : ∃ q : Nat, p = (q : Int) := ⟨p.toNat, by omega⟩
  exact mult_all ⟨q, by omega⟩ ⟨T, by omega⟩ h (by show 1 ≤ q; omega)
theorem cnt_row {P Bu : List Int} {t : Int} {i : Nat} : ∀ j, cnt ((i + 1 : Nat) : Int) (row P Bu t j) = if i < j ∧ Int.tmod t (el I1 P i) = 0 then 1 else 0
  | 0 => by rw [if_neg (by omega)]; rfl
  | j + 1 => by
    rw [row, cnt_app, cnt_row j]
    by_cases hj : i = j
    · subst hj
      rw [if_neg (by omega)]
      by_cases ht : Int.tmod t (el I1 P i) = 0
      · rw [if_pos ht, if_pos ⟨by omega, ht⟩]
        simp [cnt]
      · rw [if_neg ht, if_neg (fun h => ht h.2)]
        rfl
    · have e : cnt ((i + 1 : Nat) : Int) (if Int.tmod t (el I1 P j) = 0 then [(((j + 1 : Nat) : Int), el I1 Bu j)] else []) = 0 := by
        split
        · show (if ((j + 1 : Nat) : Int) = ((i + 1 : Nat) : Int) then (1 : Int) else 0) + 0 = 0
          rw [if_neg (by omega)]
          rfl
        · rfl
      rw [e, Int.add_zero]
      by_cases h : i < j ∧ Int.tmod t (el I1 P i) = 0
      · rw [if_pos h, if_pos ⟨by omega, h.2⟩]
      · rw [if_neg h, if_neg (fun h' => h ⟨by omega, h'.2⟩)]
theorem cnt_plan {P Bu : List Int} {i : Nat} (hi : i < P.length) : ∀ T, cnt ((i + 1 : Nat) : Int) (plan P Bu T) = mult (el I1 P i) T
  | 0 => rfl
  | T + 1 => by
    rw [plan, cnt_app, cnt_plan hi T, cnt_row, mult]
    by_cases ht : Int.tmod (T : Int) (el I1 P i) = 0
    · rw [if_pos ⟨hi, ht⟩, if_pos ht]
    · rw [if_neg (fun h => ht h.2), if_neg ht]
/-- A window of a plan is one of a part, of its budget. -/
def Of (P Bu : List Int) (w : Int × Int) : Prop := ∃ i, i < P.length ∧ w = (((i + 1 : Nat) : Int), el I1 Bu i)
theorem of_row {P Bu : List Int} {t : Int} : ∀ j, j ≤ P.length → ∀ w, w ∈ row P Bu t j → Of P Bu w
  | 0, _, w, h => by cases h
  | j + 1, hj, w, h => by
    rw [row] at h
    rcases List.mem_append.1 h with h | h
    · exact of_row j (by omega) w h
    · split at h
      · exact ⟨j, by omega, List.mem_singleton.1 h⟩
      · cases h
theorem of_plan {P Bu : List Int} : ∀ T, ∀ w, w ∈ plan P Bu T → Of P Bu w
  | 0, w, h => by cases h
  | T + 1, w, h => by
    rw [plan] at h
    rcases List.mem_append.1 h with h | h
    · exact of_plan T w h
    · exact of_row _ (Nat.le_refl _) w h
theorem time_cnt {P Bu : List Int} {i : Nat} : ∀ L : List (Int × Int), (∀ w, w ∈ L → Of P Bu w) → timeOf ((i + 1 : Nat) : Int) L = cnt ((i + 1 : Nat) : Int) L * el I1 Bu i
  | [], _ => by simp [timeOf, cnt]
  | w :: L, h => by
    have h1 := time_cnt (i := i) L (fun w hw => h w (List.mem_cons_of_mem _ hw))
    obtain ⟨j, hj, rfl⟩ := h w (List.mem_cons_self ..)
    rw [timeOf, cnt, h1]
    dsimp only
    by_cases e : j = i
    · subst e
      rw [if_pos rfl, if_pos rfl, Int.add_mul, Int.one_mul]
    · rw [if_neg (by omega), if_neg (by omega), Int.zero_add, Int.zero_add]
theorem row_head {P Bu : List Int} : ∀ j, 0 < j → ∃ r, row P Bu 0 j = (1, el I1 Bu 0) :: r
  | 0, h => absurd h (by omega)
  | 1, _ => ⟨[], by rw [row, row, Int.zero_tmod, if_pos rfl]; rfl⟩
  | j + 2, _ => by
    obtain ⟨r, hr⟩ := row_head (P := P) (Bu := Bu) (j + 1) (by omega)
    exact ⟨_, by rw [row, hr]; rfl⟩
theorem plan_head {P Bu : List Int} (hp : 0 < P.length) : ∀ T, 0 < T → ∃ r, plan P Bu T = (1, el I1 Bu 0) :: r
  | 0, h => absurd h (by omega)
  | 1, _ => by
    obtain ⟨r, hr⟩ := row_head (P := P) (Bu := Bu) P.length hp
    exact ⟨r, by rw [plan, plan, List.nil_append]; exact hr⟩
  | T + 2, _ => by
    obtain ⟨r, hr⟩ := plan_head (P := P) (Bu := Bu) hp (T + 1) (by omega)
    exact ⟨_, by rw [plan, hr]; rfl⟩
theorem mx_ge {P : List Int} : ∀ j, 0 < j → el I1 P 0 ≤ mx P j
  | 0, h => absurd h (by omega)
  | 1, _ => by
    show el I1 P 0 ≤ max 0 (el I1 P 0)
    exact Int.le_max_right _ _
  | j + 2, _ => by
    have := mx_ge (P := P) (j + 1) (by omega)
    show el I1 P 0 ≤ max (mx P (j + 1)) _
    exact Int.le_trans this (Int.le_max_left _ _)
end Harm
open Harm in
theorem FnHarmonics : ∀ (x0 : den (.sl 5 (.int .u8))), Wf (.sl 5 (.int .u8)) x0 → ∃ k, laws_FnHarmonics.f k x0 = some true := by
  intro xs _
  refine ⟨1048577, ?_⟩
  have hk : 1048576 < 1048577 := by omega
  generalize 1048577 = k at hk
  refine ok_eq ?_
  unfold laws_FnHarmonics.f laws_big.f
  refine ok_let (ok_if (fun _ => ok_some rfl) (fun hb => ?_))
  have hl : xs.length ≤ 1048576 := by
    by_cases h : xs.length ≤ 1048576
    · exact h
    · exact absurd (decide_eq_true (by omega)) hb
  refine ok_bind (draw_ok hl hk) ?_
  rintro ⟨P, Bu⟩ -
  simp only [Option.bind_some, harm_i hk, harm_s hk, not_true_eq_false, ↓reduceIte]
  by_cases hg : Harm.Good P Bu ∧ ((plan P Bu (mx P P.length).toNat).length : Int) ≤ 12
  · obtain ⟨hg, h12⟩ := hg
    have e : harm P Bu = (plan P Bu (mx P P.length).toNat, true) := by
      unfold harm
      rw [if_pos ⟨B_yes hg, h12⟩]
    rw [e]
    simp only [not_true_eq_false, ↓reduceIte]
    have hM := good_M (fun i hi => (hg.2.2 i hi).1)
    have hp : P.length ≤ 4 := by have := hg.1.2; omega
    have hp0 : 0 < P.length := by have := hg.1.1; omega
    have hB : Bu.length = P.length := hg.2.1
    have hM1 : 1 ≤ mx P P.length := Int.le_trans (hg.2.2 0 hp0).1.1.1 (mx_ge _ hp0)
    obtain ⟨M, hMe⟩ : ∃ M : Nat, mx P P.length = (M : Int) := ⟨(mx P P.length).toNat, by omega⟩
    have hof := of_plan (P := P) (Bu := Bu) M
    have hct : ∀ i, i < P.length → cnt ((i + 1 : Nat) : Int) (plan P Bu M) * el I1 P i = (M : Int) := fun i hi => by
      rw [cnt_plan hi]
      exact mult_at (hg.2.2 i hi).1.1 (by omega) (hMe ▸ (hg.2.2 i hi).2)
    have hcb : ∀ i, i < P.length → 0 ≤ cnt ((i + 1 : Nat) : Int) (plan P Bu M) ∧ cnt ((i + 1 : Nat) : Int) (plan P Bu M) ≤ 8 := fun i hi => by
      have h1 := hct i hi
      have h2 := (hg.2.2 i hi).1.1
      generalize cnt ((i + 1 : Nat) : Int) (plan P Bu M) = c at h1 ⊢
      have h3 : (1 : Int) ≤ el I1 P i := h2.1
      have h4 : el I1 P i ≤ 8 := h2.2
      obtain ⟨x, hx⟩ : ∃ x : Int, el I1 P i = x := ⟨_, rfl⟩
      rw [hx] at h1 h3 h4
      constructor
      · by_cases hc : 0 ≤ c
        · exact hc
        · have : c * x ≤ -1 * x := Int.mul_le_mul_of_nonneg_right (by omega) (by omega)
          omega
      · by_cases hc : c ≤ 8
        · exact hc
        · have h9 : 9 * x ≤ c * x := Int.mul_le_mul_of_nonneg_right (by omega) (by omega)
          rw [h1] at h9
          omega
    obtain ⟨r, hr⟩ := plan_head (P := P) (Bu := Bu) hp0 M (by omega)
    have hlen : (plan P Bu M).length ≤ 12 := by
      rw [hMe] at h12
      simp only [Int.toNat_natCast] at h12
      omega
    rw [hMe] at hM
    have hbud : ∀ w, w ∈ plan P Bu M → WinOk w := fun w hw => by
      obtain ⟨i, hi, rfl⟩ := hof w hw
      refine ⟨?_, (hg.2.2 i hi).1.2⟩
      dsimp only
      omega
    have htm : ∀ i, i < P.length → impl_TimeOf.f k (plan P Bu M) ((i + 1 : Nat) : Int) = some (cnt ((i + 1 : Nat) : Int) (plan P Bu M) * el I1 Bu i) := fun i hi => by
      rw [timeOf_i (by omega) hk (fun w hw => by have := (hbud w hw).2; omega), time_cnt (P := P) _ hof]
    have hpo : PlanOk (plan P Bu M) := ⟨fun i hi => hbud _ (el_mem hi), by rw [hr]; simp, hlen⟩
    have hpk := planOk_i (k := k) (L := plan P Bu M) (by omega) hk
    rw [B_yes hpo] at hpk
    have hh : (el W2 (plan P Bu M) 0).1 = 1 := by rw [hr]; rfl
    have hlp : (0 : Int) < ((plan P Bu M).length : Int) := by rw [hr]; simp
    rw [hMe]
    simp only [Int.toNat_natCast]
    generalize plan P Bu M = L at *
    -- the greatest period
    refine ok_loop (L := laws_FnHarmonics.l1 k) (I := fun d s => ∃ j : Nat, s = (mx P j, (j : Int), P, Bu, L, L, ()) ∧ j + d = P.length) ?_ k P.length _ (by omega) ⟨0, rfl, by omega⟩
    rintro d n s ⟨j, rfl, hd⟩ ih
    rw [laws_FnHarmonics.l1]
    refine ok_if (fun hc => ?_) (fun hc => ?_)
    · have h4 : w64 ((j : Int) + 1) = ((j + 1 : Nat) : Int) := w64_id (by omega) (by omega)
      have c0 : (0 : Int) ≤ (j : Int) := by omega
      simp only [c0, hc, h4, Int.toNat_natCast, ↓reduceIte]
      have go := ih (d - 1) _ (by omega) ⟨j + 1, rfl, by omega⟩
      rw [mx] at go
      refine ok_if (fun h => ?_) (fun h => ?_)
      · rw [show max (mx P j) (el I1 P j) = el I1 P j from Int.max_eq_right (Int.le_of_lt h)] at go
        exact go
      · rw [show max (mx P j) (el I1 P j) = mx P j from Int.max_eq_left (Int.not_lt.1 h)] at go
        exact go
    · obtain rfl : j = P.length := by omega
      clear ih
      rw [hMe]
      refine ok_loop (L := laws_FnHarmonics.l2 k) (I := fun d s => ∃ i : Nat, s = ((M : Int), (i : Int), P, Bu, L, L, ()) ∧ i + d = P.length) ?_ k P.length _ (by omega) ⟨0, rfl, by omega⟩
      rintro d n s ⟨i, rfl, hd⟩ ih
      rw [laws_FnHarmonics.l2]
      refine ok_if (fun hc => ?_) (fun hc => ?_)
      · have h4 : w64 ((i : Int) + 1) = ((i + 1 : Nat) : Int) := w64_id (by omega) (by omega)
        refine ok_loop (L := laws_FnHarmonics.l3 k (laws_FnHarmonics.l2 k n)) (I := fun e s => ∃ q : Nat, s = ((M : Int), (i : Int), cnt ((i + 1 : Nat) : Int) (L.take q), (q : Int), P, Bu, L, L, ()) ∧ q + e = L.length ∧ 0 ≤ cnt ((i + 1 : Nat) : Int) (L.take q) ∧ cnt ((i + 1 : Nat) : Int) (L.take q) ≤ q) ?_ k L.length _ (by omega) ⟨0, rfl, by omega, Int.le_refl 0, Int.le_refl 0⟩
        rintro e n' s ⟨q, rfl, he, hq0, hq1⟩ ih2
        rw [laws_FnHarmonics.l3]
        refine ok_if (fun hc2 => ?_) (fun hc2 => ?_)
        · have c0 : (0 : Int) ≤ (q : Int) := by omega
          have c3 : w64 ((q : Int) + 1) = ((q + 1 : Nat) : Int) := w64_id (by omega) (by omega)
          have c5 : w64 (cnt ((i + 1 : Nat) : Int) (L.take q) + 1) = cnt ((i + 1 : Nat) : Int) (L.take q) + 1 := w64_id (by omega) (by omega)
          simp only [c0, hc2, c3, c5, h4, Int.toNat_natCast, ↓reduceIte, and_self, not_true_eq_false]
          have hn := cnt_next (p := ((i + 1 : Nat) : Int)) (L := L) (j := q) (by omega)
          refine ok_if (fun h => ?_) (fun h => ?_)
          · rw [if_pos h] at hn
            exact ih2 (e - 1) _ (by omega) ⟨q + 1, by rw [hn], by omega, by omega, by omega⟩
          · rw [if_neg h, Int.add_zero] at hn
            exact ih2 (e - 1) _ (by omega) ⟨q + 1, by rw [hn], by omega, by omega, by omega⟩
        · have hi : i < P.length := by omega
          have c0 : (0 : Int) ≤ (i : Int) := by omega
          have c2 : (i : Int) < (Bu.length : Int) := by omega
          rw [List.take_of_length_le (by omega)]
          have b1 := hct i hi
          have b2 := hcb i hi
          have b3 := (hg.2.2 i hi).1.2
          have b4 : 0 ≤ cnt ((i + 1 : Nat) : Int) L * el I1 Bu i ∧ cnt ((i + 1 : Nat) : Int) L * el I1 Bu i ≤ 8 * 200 :=
            ⟨Int.mul_nonneg b2.1 (by omega), Int.mul_le_mul b2.2 b3.2 (by omega) (by omega)⟩
          have c6 : w64 (cnt ((i + 1 : Nat) : Int) L * el I1 P i) = (M : Int) := by rw [b1]; exact w64_id (by omega) (by omega)
          have c7 : w64 (cnt ((i + 1 : Nat) : Int) L * el I1 Bu i) = cnt ((i + 1 : Nat) : Int) L * el I1 Bu i := w64_id (by omega) (by omega)
          simp only [c0, hc, c2, c6, c7, h4, Int.toNat_natCast, ↓reduceIte, htm i hi, Option.bind_some, not_true_eq_false]
          exact ih (d - 1) _ (by omega) ⟨i + 1, rfl, by omega⟩
      · rw [hpk]
        simp only [Option.bind_some, ↓reduceIte, hlp, hh]
        exact ok_some (by simp)
  · have e : harm P Bu = ([], false) := by
      unfold harm
      rw [if_neg (fun h => hg ⟨B_iff.1 h.1, h.2⟩)]
    rw [e]
    exact ok_some (by simp)
end Go.Proofs.Ytgihjaonapngdaa.Pure
