/- Plans: their time, and when they are right. No condition. -/
import Derived.Test.YtacpibmmodeacaaTBase
namespace Go.Proofs.Ytacpibmmodeacaa.Pure
open Go Go.Proofs.YtacpibmmodeacaaA Go.Proofs.YtacpibmmodeacaaU Go.Proofs.Ytacpibmmodeacaa.QA
set_option linter.unusedVariables false
abbrev W2 : Ty := .pair (.int .i64) (.int .i64)
def WinOk (w : Int × Int) : Prop := (1 ≤ w.1 ∧ w.1 ≤ 4) ∧ (1 ≤ w.2 ∧ w.2 ≤ 200)
def PlanOk (L : List (Int × Int)) : Prop := (∀ i, i < L.length → WinOk (el W2 L i)) ∧ 1 ≤ L.length ∧ L.length ≤ 12
def timeOf (p : Int) : List (Int × Int) → Int
  | [] => 0
  | w :: L => (if w.1 = p then w.2 else 0) + timeOf p L
def cnt (p : Int) : List (Int × Int) → Int
  | [] => 0
  | w :: L => (if w.1 = p then 1 else 0) + cnt p L
theorem timeOf_app (p : Int) : ∀ L M, timeOf p (L ++ M) = timeOf p L + timeOf p M
  | [], M => by show timeOf p M = 0 + timeOf p M; omega
  | w :: L, M => by
    have := timeOf_app p L M
    show (if w.1 = p then w.2 else 0) + timeOf p (L ++ M) = (if w.1 = p then w.2 else 0) + timeOf p L + timeOf p M
    omega
theorem cnt_app (p : Int) : ∀ L M, cnt p (L ++ M) = cnt p L + cnt p M
  | [], M => by show cnt p M = 0 + cnt p M; omega
  | w :: L, M => by
    have := cnt_app p L M
    show (if w.1 = p then 1 else 0) + cnt p (L ++ M) = (if w.1 = p then 1 else 0) + cnt p L + cnt p M
    omega
theorem take_next {L : List (Int × Int)} {j : Nat} (h : j < L.length) : L.take (j + 1) = L.take j ++ [el W2 L j] := by
  rw [List.take_add_one, el_lt (t := W2) h]
  rfl
theorem timeOf_next {p : Int} {L : List (Int × Int)} {j : Nat} (h : j < L.length) : timeOf p (L.take (j + 1)) = timeOf p (L.take j) + (if (el W2 L j).1 = p then (el W2 L j).2 else 0) := by
  rw [take_next h, timeOf_app]
  show timeOf p (L.take j) + ((if (el W2 L j).1 = p then (el W2 L j).2 else 0) + 0) = _
  rw [Int.add_zero]
theorem cnt_next {p : Int} {L : List (Int × Int)} {j : Nat} (h : j < L.length) : cnt p (L.take (j + 1)) = cnt p (L.take j) + (if (el W2 L j).1 = p then 1 else 0) := by
  rw [take_next h, cnt_app]
  show cnt p (L.take j) + ((if (el W2 L j).1 = p then 1 else 0) + 0) = _
  rw [Int.add_zero]
theorem timeOf_bd {p : Int} : ∀ {L : List (Int × Int)}, (∀ w, w ∈ L → 0 ≤ w.2 ∧ w.2 ≤ 200) → 0 ≤ timeOf p L ∧ timeOf p L ≤ 200 * (L.length : Int)
  | [], _ => by simp [timeOf]
  | w :: L, h => by
    have h1 := timeOf_bd (p := p) (L := L) (fun w hw => h w (List.mem_cons_of_mem _ hw))
    have h2 := h w (List.mem_cons_self ..)
    have e : timeOf p (w :: L) = (if w.1 = p then w.2 else 0) + timeOf p L := rfl
    rw [e, List.length_cons]
    split <;> omega
theorem isPart_i' {k : Nat} (x : Int) : impl_isPart.f k x = some (decide (1 ≤ x ∧ x ≤ 4)) := by
  unfold impl_isPart.f
  rw [in_i]
  rfl
theorem isBudget_i {k : Nat} (x : Int) : impl_isBudget.f k x = some (decide (1 ≤ x ∧ x ≤ 200)) := by
  unfold impl_isBudget.f
  rw [in_i]
  rfl
theorem planOk_i {k : Nat} {L : List (Int × Int)} (hl : L.length ≤ 1048576) (hk : 1048576 < k) : impl_PlanOk.f k L = some (B (PlanOk L)) := by
  refine ok_eq ?_
  unfold impl_PlanOk.f
  refine ok_loop (L := impl_PlanOk.l1 k) (I := fun d s => ∃ j : Nat, s = ((L.length : Int), (j : Int), L, ()) ∧ j + d = L.length ∧ ∀ i, i < j → WinOk (el W2 L i)) ?_ k L.length _ (by omega) ⟨0, rfl, by omega, fun i hi => absurd hi (by omega)⟩
  rintro d n s ⟨j, rfl, hd, hq⟩ ih
  rw [impl_PlanOk.l1]
  refine ok_if (fun hc => ?_) (fun hc => ?_)
  · rw [if_pos (by omega), if_pos hc]
    simp only [Int.toNat_natCast, isPart_i', isBudget_i, Option.bind_some, decide_eq_true_eq]
    have h4 : w64 ((j : Int) + 1) = ((j + 1 : Nat) : Int) := w64_id (by omega) (by omega)
    rw [h4]
    have bad : ¬ WinOk (el W2 L j) → Ok (some false) (fun r => r = B (PlanOk L)) := fun h => ok_some (B_no (fun hr => h (hr.1 j (by omega)))).symm
    refine ok_if (fun h => bad (fun g => h g.1)) (fun h1 => ok_if (fun h => bad (fun g => h g.2)) (fun h2 => ?_))
    exact ih (d - 1) _ (by omega) ⟨j + 1, rfl, by omega, fun i hi => by
      rcases Nat.lt_or_ge i j with h | h
      · exact hq i h
      · obtain rfl : i = j := by omega
        exact ⟨Classical.not_not.1 h1, Classical.not_not.1 h2⟩⟩
  · rw [in_i]
    refine ok_let (ok_some ?_)
    refine B_of (decide_eq_true_iff.trans ⟨fun h => ⟨fun i hi => hq i (by omega), by omega, by omega⟩, fun h => ?_⟩)
    have := h.2
    omega
end Go.Proofs.Ytacpibmmodeacaa.Pure
