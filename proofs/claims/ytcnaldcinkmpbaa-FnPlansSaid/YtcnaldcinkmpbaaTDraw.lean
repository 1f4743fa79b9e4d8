/- What a draw's cursor tells. No condition. -/
import Derived.Test.YtcnaldcinkmpbaaTBase
namespace Go.Proofs.Ytcnaldcinkmpbaa.Pure
open Go Go.Proofs.YtcnaldcinkmpbaaA Go.Proofs.YtcnaldcinkmpbaaU Go.Proofs.Ytcnaldcinkmpbaa.QA
set_option linter.unusedVariables false
/-- A cursor that stands within its bytes. -/
def Cur (c : List Int × Int × Int) : Prop := c.1.length ≤ 1048576 ∧ 0 ≤ c.2.1 ∧ c.2.1 ≤ (c.1.length : Int)
theorem and255 (x : Int) : 0 ≤ bits .and .i64 x 255 ∧ bits .and .i64 x 255 ≤ 255 := by
  have h : (BitVec.ofInt IntKind.i64.bits x &&& BitVec.ofInt IntKind.i64.bits 255).toNat ≤ 255 := by
    rw [BitVec.toNat_and]
    exact Nat.and_le_right
  have e : bits .and .i64 x 255 = IntKind.i64.wrap (((BitVec.ofInt IntKind.i64.bits x &&& BitVec.ofInt IntKind.i64.bits 255).toNat : Nat) : Int) := rfl
  rw [e, w_id (by omega) (by omega)]
  omega
theorem byte_ok {k : Nat} {c : List Int × Int × Int} (h : Cur c) : Ok (spec_l01Byte.f k c) (fun r => 0 ≤ r.1 ∧ r.1 ≤ 255 ∧ Cur (c.1, r.2.2)) := by
  obtain ⟨h1, h2, h3⟩ := h
  unfold spec_l01Byte.f
  refine ok_if (fun hc => ?_) (fun hc => ?_)
  · rw [if_pos h2, if_pos hc]
    refine ok_some ⟨(and255 _).1, (and255 _).2, h1, ?_, ?_⟩
    · show (0 : Int) ≤ w64 (c.2.1 + 1)
      rw [w64_id (by omega) (by omega)]
      omega
    · show w64 (c.2.1 + 1) ≤ (c.1.length : Int)
      rw [w64_id (by omega) (by omega)]
      omega
  · exact ok_some ⟨(and255 _).1, (and255 _).2, h1, h2, h3⟩
theorem below_ok {k : Nat} {c : List Int × Int × Int} {n : Int} (h : Cur c) : Ok (spec_l01Below.f k c n) (fun r => 0 ≤ r.1 ∧ (0 < n → r.1 < n) ∧ (n ≤ 0 → r.1 = 0) ∧ Cur (c.1, r.2.2)) := by
  have hm : ∀ a : Int, 0 ≤ a → 0 < n → 0 ≤ Int.tmod a n ∧ Int.tmod a n < n := fun a h0 h1 => ⟨Int.tmod_nonneg _ h0, Int.tmod_lt_of_pos _ h1⟩
  unfold spec_l01Below.f
  refine ok_if (fun hc => ok_some ⟨Int.le_refl 0, fun h' => absurd h' (by omega), fun _ => rfl, h⟩) (fun hc => ?_)
  refine ok_if (fun hc2 => ?_) (fun hc2 => ?_)
  · refine ok_bind (byte_ok h) (fun r hr => ?_)
    rw [if_pos (by omega)]
    exact ok_some ⟨(hm _ hr.1 (by omega)).1, fun _ => (hm _ hr.1 (by omega)).2, fun h' => absurd h' (by omega), hr.2.2⟩
  · refine ok_bind (byte_ok h) (fun r1 hr1 => ok_bind (byte_ok hr1.2.2) (fun r2 hr2 => ok_bind (byte_ok hr2.2.2) (fun r3 hr3 => ok_bind (byte_ok hr3.2.2) (fun r4 hr4 => ?_))))
    obtain ⟨a1, b1, -⟩ := hr1
    obtain ⟨a2, b2, -⟩ := hr2
    obtain ⟨a3, b3, -⟩ := hr3
    obtain ⟨a4, b4, hc4⟩ := hr4
    rw [if_pos (by omega)]
    have e1 : w64 (r1.1 * 16777216) = r1.1 * 16777216 := w64_id (by omega) (by omega)
    have e2 : w64 (r2.1 * 65536) = r2.1 * 65536 := w64_id (by omega) (by omega)
    have e3 : w64 (r3.1 * 256) = r3.1 * 256 := w64_id (by omega) (by omega)
    have e4 : w64 (r1.1 * 16777216 + r2.1 * 65536) = r1.1 * 16777216 + r2.1 * 65536 := w64_id (by omega) (by omega)
    have e5 : w64 (r1.1 * 16777216 + r2.1 * 65536 + r3.1 * 256) = r1.1 * 16777216 + r2.1 * 65536 + r3.1 * 256 := w64_id (by omega) (by omega)
    have e6 : w64 (r1.1 * 16777216 + r2.1 * 65536 + r3.1 * 256 + r4.1) = r1.1 * 16777216 + r2.1 * 65536 + r3.1 * 256 + r4.1 := w64_id (by omega) (by omega)
    rw [e1, e2, e3, e4, e5, e6]
    exact ok_some ⟨(hm _ (by omega) (by omega)).1, fun _ => (hm _ (by omega) (by omega)).2, fun h' => absurd h' (by omega), hc4⟩
theorem below_lt {k : Nat} {c : List Int × Int × Int} {n : Int} (h : Cur c) (hn : 0 < n) : Ok (spec_l01Below.f k c n) (fun r => 0 ≤ r.1 ∧ r.1 < n ∧ Cur (c.1, r.2.2)) :=
  (below_ok h).mono fun r hr => ⟨hr.1, hr.2.1 hn, hr.2.2.2⟩
theorem new_ok {k : Nat} {xs : List Int} (hl : xs.length ≤ 1048576) (hk : 1048576 < k) : Ok (spec_l01New.f k xs) (fun r => Cur (xs, r.2)) := by
  unfold spec_l01New.f
  refine ok_loop (L := spec_l01New.l1 k) (I := fun d s => 0 ≤ s.2.1 ∧ s.2.2.1 = xs ∧ s.2.1 + (d : Int) = (xs.length : Int)) ?_ k xs.length _ (by omega) ⟨Int.le_refl 0, rfl, by simp⟩
  rintro d n ⟨x1, x2, x3, u⟩ ⟨h1, h2, h3⟩ ih
  simp only at h1 h2 h3
  subst h2
  rw [spec_l01New.l1]
  have he : Cur (x3, 0, x1) := ⟨hl, Int.le_refl 0, by dsimp only; omega⟩
  refine ok_if (fun hc => ?_) (fun _ => ok_some he)
  refine ok_if (fun hc2 => ?_) (fun _ => ok_some he)
  rw [if_pos h1, if_pos hc, w64_id (z := x2 + 1) (by omega) (by omega)]
  exact ih (d - 1) _ (by omega) ⟨by show 0 ≤ x2 + 1; omega, rfl, by show x2 + 1 + ((d - 1 : Nat) : Int) = _; omega⟩
end Go.Proofs.Ytcnaldcinkmpbaa.Pure
