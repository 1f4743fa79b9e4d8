/- The plain law of FnExactOrderText. No condition. -/
import Derived.Test.YtgihjaonapngdaaTOrder
import Derived.Test.YtgihjaonapngdaaTSum
import Derived.Test.YtgihjaonapngdaaQFnExactOrderText
namespace Go.Proofs.Ytgihjaonapngdaa.Pure
open Go Go.Proofs.YtgihjaonapngdaaA Go.Proofs.YtgihjaonapngdaaU Go.Proofs.Ytgihjaonapngdaa.QA Go.Proofs.Ytgihjaonapngdaa.QFnExactOrderText
set_option linter.unusedVariables false
theorem orderText_both {k : Nat} {o : Int × Int × Int × Int} (hk : 1048576 < k) : ∃ r, spec_OrderText.f k o = some r ∧ impl_OrderText.f k o = some r := by
  obtain ⟨t, h1, h2, h3⟩ := order_both k o
  unfold spec_OrderText.f impl_OrderText.f
  rw [h1, h2]
  cases t with
  | false => exact ⟨_, rfl, rfl⟩
  | true =>
    obtain ⟨⟨b0, b1⟩, ⟨c0, c1⟩, ⟨d0, d1⟩⟩ := h3 rfl
    obtain ⟨op, b, c, d⟩ := o
    simp only at b0 b1 c0 c1 d0 d1
    obtain ⟨b, rfl⟩ : ∃ n : Nat, b = (n : Int) := ⟨b.toNat, by omega⟩
    obtain ⟨c, rfl⟩ : ∃ n : Nat, c = (n : Int) := ⟨c.toNat, by omega⟩
    obtain ⟨d, rfl⟩ : ∃ n : Nat, d = (n : Int) := ⟨d.toNat, by omega⟩
    have hn := numbers_i (k := k) (L := [b, c, d]) hk (by simp) (fun n hn => by
      simp only [List.mem_cons, List.not_mem_nil, or_false] at hn
      omega)
    have lb := varL_len 5 b (by omega)
    have lc := varL_len 5 c (by omega)
    have ld := varL_len 5 d (by omega)
    simp only [List.map_cons, List.map_nil, numsL, List.append_nil] at hn
    obtain ⟨r, e1, e2⟩ := sealed_both (k := k) (s := chrs ([IntKind.u8.wrap op] ++ (varL b ++ (varL c ++ varL d)))) hk
    refine ⟨(r.1, r.2), ?_, ?_⟩
    · simp only [Option.bind_some, not_true_eq_false, ↓reduceIte, var_s hk (show b ≤ 1000000000 by omega), var_s hk (show c ≤ 1000000000 by omega), var_s hk (show d ≤ 1000000000 by omega), ← chrs_app, chrs_size, List.length_append, List.length_cons, List.length_nil]
      rw [if_pos (by omega), if_pos (by omega), if_pos (by omega), List.append_assoc, List.append_assoc, e1]
      rfl
    · simp only [Option.bind_some, not_true_eq_false, ↓reduceIte, hn, ← chrs_app, chrs_size, List.length_append, List.length_cons, List.length_nil]
      rw [if_pos (by omega), e2]
      rfl
theorem FnExactOrderText : ∀ (x0 : den (.pair (.int .i64) (.pair (.int .i64) (.pair (.int .i64) (.int .i64))))), Wf (.pair (.int .i64) (.pair (.int .i64) (.pair (.int .i64) (.int .i64)))) x0 → ∃ k, laws_FnExactOrderText.f k x0 = some true := by
  intro o _
  refine ⟨1048577, ?_⟩
  obtain ⟨r, h1, h2⟩ := orderText_both (k := 1048577) (o := o) (by omega)
  simp [laws_FnExactOrderText.f, laws_toOrder.f, h1, h2]
end Go.Proofs.Ytgihjaonapngdaa.Pure
