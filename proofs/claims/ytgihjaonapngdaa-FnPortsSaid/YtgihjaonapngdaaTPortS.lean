/- Ports: what is sent and taken by the reference. No condition. -/
import Derived.Test.YtgihjaonapngdaaTPort
namespace Go.Proofs.Ytgihjaonapngdaa.Pure
open Go Go.Proofs.YtgihjaonapngdaaA Go.Proofs.YtgihjaonapngdaaU Go.Proofs.Ytgihjaonapngdaa.QA
set_option linter.unusedVariables false
set_option linter.unusedSimpArgs false
theorem portOk_s {k : Nat} {p : Port5} : spec_PortOk.f k p = some (B (PortOk p)) := by
  have h : spec_PortOk.f k p = impl_PortOk.f k p := by
    unfold spec_PortOk.f impl_PortOk.f
    simp only [isPart_p, in_i, in_s, Option.bind_some]
  rw [h, portOk_i]
theorem line_s {k : Nat} {l : List (Int × Int)} (h : l.length ≤ 1048576) : spec_l08Copy.f k l = some l := by
  unfold spec_l08Copy.f
  simp only [Option.bind_some, List.length_nil, List.nil_append]
  rw [if_pos (by omega)]
theorem send_s {k : Nat} {p : Port5} {l : List (Int × Int)} {n time : Int} (hl : l.length ≤ 1048576) : spec_SendPort.f k p l n time = some (sendM p l n time) := by
  have c1 : (l.length + (0 + 1)) * 16 ≤ 140737488355328 := by omega
  unfold spec_SendPort.f sendM
  rw [line_s hl, portOk_s]
  simp only [Option.bind_some, List.length_cons, List.length_nil, c1, ↓reduceIte]
  by_cases hp : PortOk p
  · rw [B_yes hp]
    simp only [not_true_eq_false, ↓reduceIte]
    split
    · rfl
    · split <;> rfl
  · rw [B_no hp]
    simp
theorem take_s {k : Nat} {p : Port5} {l : List (Int × Int)} {time : Int} (hl : l.length ≤ 1048576) (ht : -9223372036854775808 ≤ time ∧ time < 9223372036854775808) (hs : Stamps l) : spec_TakePort.f k p l time = some (takeM p l time) := by
  unfold spec_TakePort.f takeM
  rw [line_s hl, portOk_s]
  simp only [Option.bind_some, List.nil_append, List.length_nil]
  by_cases hp : PortOk p
  · rw [B_yes hp]
    simp only [not_true_eq_false, ↓reduceIte, true_and]
    by_cases h0 : (l.length : Int) = 0
    · rw [if_pos h0, if_neg (fun h => h h0)]
    · rw [if_neg h0, if_pos h0, if_pos (by omega), if_pos (by omega)]
      obtain ⟨x, t, hx⟩ : ∃ x t : Int, el M2 l 0 = (x, t) := ⟨_, _, rfl⟩
      have hst := hs _ (el_mem (t := M2) (xs := l) (i := 0) (by omega))
      rw [hx] at hst
      simp only [show el (.pair (.int .i64) (.int .i64)) l 0 = (x, t) from hx]
      simp only at hst
      by_cases h1 : p.1 = 1
      · rw [if_pos h1, if_pos h1, if_pos (by omega), if_pos (by omega), if_pos (by rw [List.length_drop]; omega)]
      · have h2 : 1 ≤ p.2.2.2.2 ∧ p.2.2.2.2 ≤ 100 := by
          rcases hp.kd with h | h
          · exact absurd h.1 h1
          · exact h.2.2
        rw [if_neg h1, if_neg h1]
        by_cases h3 : t < time
        · rw [if_pos h3]
          have hw : w64 (time - t) = if time - t < 9223372036854775808 then time - t else time - t - 18446744073709551616 := by
            show IntKind.i64.wrap _ = _
            rw [IntKind.wrap_i64]
            split <;> omega
          by_cases h4 : time - t < 9223372036854775808
          · rw [if_pos h4] at hw
            rw [hw, if_neg (by omega)]
            by_cases h5 : p.2.2.2.2 < time - t
            · rw [if_pos h5, if_pos h5]
            · rw [if_neg h5, if_neg h5]
          · rw [if_neg h4] at hw
            rw [hw, if_pos (by omega), if_pos (by omega)]
        · rw [if_neg h3, if_neg (by omega)]
  · rw [B_no hp]
    simp
end Go.Proofs.Ytgihjaonapngdaa.Pure
