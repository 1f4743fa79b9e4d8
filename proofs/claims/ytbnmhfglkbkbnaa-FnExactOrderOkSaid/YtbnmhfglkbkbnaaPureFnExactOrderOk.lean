/- The pure statement of FnExactOrderOk: both tell the same of every order. No condition. -/
import Derived.Test.YtbnmhfglkbkbnaaPFnExactOrderOkx2
namespace Go.Proofs.Ytbnmhfglkbkbnaa.Pure
open Go.RowKit Go.Proofs.Ytbnmhfglkbkbnaa.PFnExactOrderOk Go.Proofs.YtbnmhfglkbkbnaaW.PrintWords Go.Proofs.YtbnmhfglkbkbnaaW.PrintLast
set_option linter.unusedVariables false
set_option linter.unusedSimpArgs false
theorem wrap_id {n : Int} (h0 : -9223372036854775808 ≤ n) (h1 : n ≤ 9223372036854775807) : wrap64 n = n := by unfold wrap64; omega
theorem wrap_succ {i n : Nat} (h : i < n) (hn : n ≤ 1048576) : wrap64 ((i : Int) + 1) = ((i + 1 : Nat) : Int) := by rw [wrap_id (by omega) (by omega)]; omega
theorem ev_now {α : Type} {g : Nat → Option α} {r : α} (h : ∀ k, g k = some r) : Ev g r := ⟨0, fun k _ => h k⟩
theorem ev_all {α : Type} {g : Nat → Option α} {r : α} (h : Ev g r) : ∃ K, ∀ k, K ≤ k → g k = some r := h

def inn (a b c : Int) : Bool := decide (a ≥ b) && decide (a ≤ c)
theorem in_s (a b c : Int) : spec_l01In.f a b c = some (inn a b c) := by unfold spec_l01In.f inn; by_cases h : a ≥ b <;> simp [h]
theorem in_i (a b c : Int) : impl_within.f a b c = some (inn a b c) := by unfold impl_within.f inn; by_cases h : a ≥ b <;> simp [h]
theorem inn_mn (b m : Int) : inn b 1 (mn 1000 m) = (inn b 1 1000 && decide (b ≤ m)) := by
  unfold inn mn
  rw [Bool.eq_iff_iff]
  split <;> simp <;> omega
theorem both (a b c d : Int) : ∃ r, spec_OrderOk.f a b c d = some r ∧ impl_OrderOk.f a b c d = some r := by
  by_cases h1 : a = 1
  · simp only [spec_OrderOk.f, impl_OrderOk.f, if_pos h1, in_s, in_i, Option.bind_some, inn_mn]
    cases inn c 1 1000 <;> cases inn b 1 1000 <;> by_cases hm : b ≤ wrap64 (3 * c) <;> simp [hm]
  · by_cases h2 : a = 2
    · subst h2
      simp only [spec_OrderOk.f, impl_OrderOk.f, if_neg h1, if_pos, in_s, in_i, Option.bind_some]
      cases inn d 1 100 <;> by_cases hb : b = 0 <;> by_cases hc : c = 0 <;> simp [hb, hc]
    · simp only [spec_OrderOk.f, impl_OrderOk.f, if_neg h1, if_neg h2, in_s, in_i, Option.bind_some]
      cases inn a 3 6 <;> by_cases hb : b = 0 <;> by_cases hc : c = 0 <;> simp [hb, hc]
theorem FnExactOrderOk : ∀ (a b c d : Int), (((Lit.int .i64 a).wf = true) ∧ ((Lit.int .i64 b).wf = true) ∧ ((Lit.int .i64 c).wf = true) ∧ ((Lit.int .i64 d).wf = true)) → laws_FnExactOrderOk.f a b c d = some true := by
  intro a b c d _
  obtain ⟨r, h1, h2⟩ := both a b c d
  simp [laws_FnExactOrderOk.f, laws_toOrder.f, h1, h2]

end Go.Proofs.Ytbnmhfglkbkbnaa.Pure
