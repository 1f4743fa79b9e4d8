/- Ports: when they are right; what is sent and taken by the program. No condition. -/
import Derived.Test.YtbnmhfglkbkbnaaTBase
namespace Go.Proofs.Ytbnmhfglkbkbnaa.Pure
open Go Go.Proofs.YtbnmhfglkbkbnaaA Go.Proofs.YtbnmhfglkbkbnaaU Go.Proofs.Ytbnmhfglkbkbnaa.QA
set_option linter.unusedVariables false
set_option linter.unusedSimpArgs false
abbrev Port5 := Int × Int × Int × Int × Int
abbrev M2 : Ty := .pair (.int .i64) (.int .i64)
structure PortOk (p : Port5) : Prop where
  fr : 1 ≤ p.2.1 ∧ p.2.1 ≤ 4
  tp : 1 ≤ p.2.2.1 ∧ p.2.2.1 ≤ 4
  ne : ¬ p.2.1 = p.2.2.1
  kd : (p.1 = 1 ∧ (1 ≤ p.2.2.2.1 ∧ p.2.2.2.1 ≤ 6) ∧ p.2.2.2.2 = 0) ∨ (p.1 = 2 ∧ p.2.2.2.1 = 1 ∧ (1 ≤ p.2.2.2.2 ∧ p.2.2.2.2 ≤ 100))
theorem isPart_p {k : Nat} (x : Int) : impl_isPart.f k x = some (decide (1 ≤ x ∧ x ≤ 4)) := by
  unfold impl_isPart.f
  rw [in_i]
  rfl
theorem portOk_i {k : Nat} {p : Port5} : impl_PortOk.f k p = some (B (PortOk p)) := by
  refine ok_eq ?_
  unfold impl_PortOk.f
  simp only [isPart_p, in_i, Option.bind_some, decide_eq_true_eq]
  have no : ¬ PortOk p → Ok (some false) (fun r => r = B (PortOk p)) := fun h => ok_some (B_no h).symm
  refine ok_if (fun h => no (fun g => h g.fr)) (fun h1 => ok_if (fun h => no (fun g => h g.tp)) (fun h2 => ok_if (fun h => no (fun g => g.ne h)) (fun h3 => ok_if (fun h4 => ?_) (fun h4 => ?_))))
  · refine ok_if (fun h5 => ok_some (B_of (decide_eq_true_iff.trans ⟨fun h => ⟨Classical.not_not.1 h1, Classical.not_not.1 h2, h3, .inl ⟨h4, h5, h⟩⟩, fun g => ?_⟩))) (fun h5 => no (fun g => ?_))
    · rcases g.kd with h | h
      · exact h.2.2
      · exact absurd h.1 (by omega)
    · rcases g.kd with h | h
      · exact h5 h.2.1
      · exact absurd h.1 (by omega)
  · refine ok_if (fun h5 => ok_if (fun h6 => ok_some (B_of (decide_eq_true_iff.trans ⟨fun h => ⟨Classical.not_not.1 h1, Classical.not_not.1 h2, h3, .inr ⟨h5, h6, h⟩⟩, fun g => ?_⟩))) (fun h6 => no (fun g => ?_))) (fun h5 => no (fun g => ?_))
    · rcases g.kd with h | h
      · exact absurd h.1 h4
      · exact h.2.2
    · rcases g.kd with h | h
      · exact h4 h.1
      · exact h6 h.2.1
    · rcases g.kd with h | h
      · exact h4 h.1
      · exact h5 h.1
theorem line_i {k : Nat} {l : List (Int × Int)} (h : l.length ≤ 1048576) : impl_copyLine.f k l = some l := by
  unfold impl_copyLine.f
  simp only [Option.bind_some, List.length_nil, List.nil_append]
  rw [if_pos (by omega)]
noncomputable def sendM (p : Port5) (l : List (Int × Int)) (n time : Int) : List (Int × Int) × Int :=
  if B (PortOk p) = true then (if p.1 = 2 then ([(n, time)], 0) else if p.2.2.2.1 ≤ (l.length : Int) then (l, 1) else (l ++ [(n, time)], 0)) else (l, 1)
noncomputable def takeM (p : Port5) (l : List (Int × Int)) (time : Int) : List (Int × Int) × Int × Int :=
  if B (PortOk p) = true ∧ ¬ (l.length : Int) = 0 then (if p.1 = 1 then (l.drop 1, (el M2 l 0).1, 0) else if p.2.2.2.2 < time - (el M2 l 0).2 then (l, (el M2 l 0).1, 3) else (l, (el M2 l 0).1, 0)) else (l, 0, 2)
theorem send_i {k : Nat} {p : Port5} {l : List (Int × Int)} {n time : Int} (hl : l.length ≤ 1048576) : impl_SendPort.f k p l n time = some (sendM p l n time) := by
  have hj : ∀ L : List (Int × Int), L.length ≤ 1048576 → impl_SendPort.j1 k (n, time, [], L, ()) = some (L ++ [(n, time)], 0) := fun L hL => by
    rw [impl_SendPort.j1]
    simp only [Option.bind_some, List.length_cons, List.length_nil]
    rw [if_pos (by omega)]
  unfold impl_SendPort.f sendM
  rw [line_i hl, portOk_i]
  simp only [Option.bind_some, hj [] (by simp), hj l hl, List.nil_append]
  by_cases hp : PortOk p
  · rw [B_yes hp]
    simp only [not_true_eq_false, ↓reduceIte]
    by_cases h1 : p.1 = 1
    · have h2 : ¬ p.1 = 2 := by omega
      rw [if_pos h1, if_neg h2, if_neg h2]
      by_cases h3 : p.2.2.2.1 ≤ (l.length : Int)
      · rw [if_pos h3, if_pos h3]
      · rw [if_neg h3, if_neg h3]
    · have h2 : p.1 = 2 := by
        rcases hp.kd with h | h
        · exact absurd h.1 h1
        · exact h.1
      rw [if_neg h1, if_pos h2, if_pos h2]
  · rw [B_no hp]
    simp
theorem u64_w (z : Int) : IntKind.u64.wrap z = z % 18446744073709551616 := by simp [IntKind.wrap, IntKind.signed, IntKind.bits]
/-- What has been sent, and when it was. -/
def Stamps (l : List (Int × Int)) : Prop := ∀ x, x ∈ l → -9223372036854775808 ≤ x.2 ∧ x.2 < 9223372036854775808
theorem take_i {k : Nat} {p : Port5} {l : List (Int × Int)} {time : Int} (hl : l.length ≤ 1048576) (ht : -9223372036854775808 ≤ time ∧ time < 9223372036854775808) (hs : Stamps l) : impl_TakePort.f k p l time = some (takeM p l time) := by
  unfold impl_TakePort.f takeM
  rw [line_i hl, portOk_i]
  simp only [Option.bind_some]
  by_cases hp : PortOk p
  · rw [B_yes hp]
    simp only [not_true_eq_false, ↓reduceIte, true_and]
    by_cases h0 : (l.length : Int) = 0
    · rw [if_pos h0, if_neg (fun h => h h0)]
    · rw [if_neg h0, if_pos h0, if_pos (by omega), if_pos (by omega)]
      obtain ⟨x, t, hx⟩ : ∃ x t : Int, el M2 l 0 = (x, t) := ⟨_, _, rfl⟩
      have hst := hs _ (el_mem (t := M2) (xs := l) (i := 0) (by omega))
      rw [hx] at hst
      simp only [show el (.pair (.int .i64) (.int .i64)) l 0 = (x, t) from hx]
      simp only at hst
      by_cases h1 : p.1 = 1
      · rw [if_pos h1, if_pos h1, if_pos (by omega), if_pos (by omega)]
      · have h2 : 1 ≤ p.2.2.2.2 ∧ p.2.2.2.2 ≤ 100 := by
          rcases hp.kd with h | h
          · exact absurd h.1 h1
          · exact h.2.2
        rw [if_neg h1, if_neg h1]
        simp only [u64_w]
        by_cases h3 : t < time
        · rw [if_pos h3]
          by_cases h4 : p.2.2.2.2 < time - t
          · rw [if_pos h4, if_pos (by omega)]
          · rw [if_neg h4, if_neg (by omega)]
        · rw [if_neg h3, if_neg (by omega)]
  · rw [B_no hp]
    simp
end Go.Proofs.Ytbnmhfglkbkbnaa.Pure
