/- The plain law of FnPorts. No condition. -/
import Derived.Test.YtgihjaonapngdaaTPortS
import Derived.Test.YtgihjaonapngdaaTDrawPort
import Derived.Test.YtgihjaonapngdaaTPlaces
import Derived.Test.YtgihjaonapngdaaQFnPorts
namespace Go.Proofs.Ytgihjaonapngdaa.Pure
open Go Go.Proofs.YtgihjaonapngdaaA Go.Proofs.YtgihjaonapngdaaU Go.Proofs.Ytgihjaonapngdaa.QA Go.Proofs.Ytgihjaonapngdaa.QFnPorts
set_option linter.unusedVariables false
theorem FnPorts : ∀ (x0 : den (.sl 5 (.int .u8))), Wf (.sl 5 (.int .u8)) x0 → ∃ k, laws_FnPorts.f k x0 = some true := by
  intro xs _
  refine ⟨1048577, ?_⟩
  have hk : 1048576 < 1048577 := by omega
  generalize 1048577 = k at hk
  refine ok_eq ?_
  unfold laws_FnPorts.f
  refine big_ok (fun hl => ?_) (ok_some rfl)
  have hd : Ok (spec_DrawSendPort.f k xs) (fun r => r.2.1.length ≤ 4 ∧ Stamps r.2.1 ∧ 0 ≤ r.2.2.2 ∧ r.2.2.2 < 30) := by
    unfold spec_DrawSendPort.f
    exact ok_bind (new_ok hl hk) (fun r1 h1 => ok_bind (l08Any_ok h1) (fun r2 h2 => ok_bind (l08Line_ok hk h2) (fun r3 h3 => ok_bind (below_lt h3.2.2 (by omega)) (fun r4 h4 => ok_bind (below_lt h4.2.2 (by omega)) (fun r5 h5 => ok_some ⟨h3.1, h3.2.1, h5.1, h5.2.1⟩)))))
  refine ok_bind hd ?_
  rintro ⟨p, l, n, time⟩ ⟨h1, h2, h3, h4⟩
  simp only at h1 h2 h3 h4
  have hs : Stamps (sendM p l n time).1 ∧ (sendM p l n time).1.length ≤ 5 := by
    have h1' : Stamps [(n, time)] := fun x hx => by
      rw [List.mem_singleton.1 hx]
      dsimp only
      omega
    unfold sendM
    split
    · split
      · exact ⟨h1', by simp⟩
      · split
        · exact ⟨h2, by dsimp only; omega⟩
        · refine ⟨fun x hx => ?_, by simp only [List.length_append, List.length_cons, List.length_nil]; omega⟩
          rcases List.mem_append.1 hx with h | h
          · exact h2 x h
          · exact h1' x h
    · exact ⟨h2, by dsimp only; omega⟩
  simp only [send_i (show l.length ≤ 1048576 by omega), send_s (show l.length ≤ 1048576 by omega), Option.bind_some, take_i (show (sendM p l n time).1.length ≤ 1048576 by omega) (show -9223372036854775808 ≤ time ∧ time < 9223372036854775808 by omega) hs.1, take_s (show (sendM p l n time).1.length ≤ 1048576 by omega) (show -9223372036854775808 ≤ time ∧ time < 9223372036854775808 by omega) hs.1, portOk_i, portOk_s, ↓reduceIte]
  refine ok_if (fun _ => ok_some rfl) (fun hp => ?_)
  have e : sendM p l n time = (l, 1) := by
    unfold sendM
    rw [if_neg hp]
  rw [e]
  exact ok_some (by simp)
end Go.Proofs.Ytgihjaonapngdaa.Pure
