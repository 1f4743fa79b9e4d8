/- Sums of texts, and sealed texts. No condition. -/
import Derived.Test.YtgihjaonapngdaaTText
namespace Go.Proofs.Ytgihjaonapngdaa.Pure
open Go Go.Proofs.YtgihjaonapngdaaA Go.Proofs.YtgihjaonapngdaaU Go.Proofs.Ytgihjaonapngdaa.QA
set_option linter.unusedVariables false
def InR (y : Int) : Prop := 0 ≤ y ∧ y < 4294967296
theorem u32_w (z : Int) : IntKind.u32.wrap z = z % 4294967296 := by simp [IntKind.wrap, IntKind.signed, IntKind.bits]
theorem xor_in (a b : Int) : InR (bits .xor .u32 a b) := by
  have e : bits .xor .u32 a b = IntKind.u32.wrap (((BitVec.ofInt IntKind.u32.bits a ^^^ BitVec.ofInt IntKind.u32.bits b).toNat : Nat) : Int) := rfl
  rw [e, u32_w]
  unfold InR
  omega
theorem and255' (x : Int) (h0 : 0 ≤ x) (h1 : x < 9223372036854775808) : bits .and .i64 x 255 = x % 256 := by
  have e : bits .and .i64 x 255 = IntKind.i64.wrap (((BitVec.ofInt IntKind.i64.bits x &&& BitVec.ofInt IntKind.i64.bits 255).toNat : Nat) : Int) := rfl
  have e2 : (BitVec.ofInt IntKind.i64.bits x &&& BitVec.ofInt IntKind.i64.bits 255).toNat = x.toNat % 256 := by
    rw [BitVec.toNat_and, BitVec.toNat_ofInt, BitVec.toNat_ofInt]
    have h3 : (x % ((2 ^ IntKind.i64.bits : Nat) : Int)).toNat = x.toNat := by
      rw [show ((2 ^ IntKind.i64.bits : Nat) : Int) = 18446744073709551616 from rfl]
      omega
    have h4 : ((255 : Int) % ((2 ^ IntKind.i64.bits : Nat) : Int)).toNat = 2 ^ 8 - 1 := rfl
    rw [h3, h4, Nat.and_two_pow_sub_one_eq_mod]
  rw [e, e2, w_id (by omega) (by omega)]
  omega
theorem sumMore_same {k : Nat} {x : Int} {s : ByteArray} : impl_SumMore.f k x s = spec_SumMore.f k x s := by
  have h2 : ∀ c0 n s, impl_SumMore.l2 k c0 n s = spec_SumMore.l2 k c0 n s := by
    intro c0 n
    induction n with
    | zero => intro s; rfl
    | succ n ih =>
      rintro ⟨a, b, c, d, u⟩
      simp only [impl_SumMore.l2, spec_SumMore.l2, ih]
  have h1 : ∀ n s, impl_SumMore.l1 k n s = spec_SumMore.l1 k n s := by
    intro n
    induction n with
    | zero => intro s; rfl
    | succ n ih =>
      rintro ⟨a, b, c, u⟩
      simp only [impl_SumMore.l1, spec_SumMore.l1, h2, (funext ih : impl_SumMore.l1 k n = spec_SumMore.l1 k n)]
  exact h1 _ _
theorem sumMore_ok {k : Nat} {x : Int} {s : ByteArray} (hk : 1048576 < k) (hs : s.size ≤ 1048576) (hx : InR x) : Ok (spec_SumMore.f k x s) InR := by
  unfold spec_SumMore.f
  refine ok_loop (L := spec_SumMore.l1 k) (I := fun d t => ∃ (j : Nat) (y : Int), t = (y, s, (j : Int), ()) ∧ j + d = s.size ∧ InR y) ?_ k s.size _ (by omega) ⟨0, x, rfl, by omega, hx⟩
  rintro d n t ⟨j, y, rfl, hd, hy⟩ ih
  rw [spec_SumMore.l1]
  refine ok_if (fun hc => ok_grd (by omega) (ok_grd hc ?_)) (fun _ => ok_some hy)
  have h4 : w64 ((j : Int) + 1) = ((j + 1 : Nat) : Int) := w64_id (by omega) (by omega)
  refine ok_loop (L := spec_SumMore.l2 k (spec_SumMore.l1 k n)) (I := fun e t => ∃ (i : Nat) (y : Int), t = (y, s, (j : Int), (i : Int), ()) ∧ i + e = 8 ∧ InR y) ?_ k 8 _ (by omega) ⟨0, _, rfl, by omega, xor_in _ _⟩
  rintro e n' t ⟨i, y, rfl, he, hy⟩ ih2
  rw [spec_SumMore.l2]
  refine ok_if (fun hc2 => ?_) (fun _ => ?_)
  · have h5 : w64 ((i : Int) + 1) = ((i + 1 : Nat) : Int) := w64_id (by omega) (by omega)
    rw [h5]
    refine ok_if (fun _ => ih2 (e - 1) _ (by omega) ⟨i + 1, _, rfl, by omega, xor_in _ _⟩) (fun _ => ih2 (e - 1) _ (by omega) ⟨i + 1, _, rfl, by omega, ?_⟩)
    rw [u32_w]
    unfold InR
    omega
  · rw [h4]
    exact ih (d - 1) _ (by omega) ⟨j + 1, _, rfl, by omega, hy⟩
theorem four_same {k : Nat} {t : Int} (hk : 1048576 < k) (ht : InR t) : ∃ s, s.size = 4 ∧ spec_l02Four.f k t = some s ∧ impl_highFirst.f k t 4 = some s := by
  obtain ⟨h0, h1⟩ := ht
  refine ⟨chrs [t / 16777216 % 256, t / 65536 % 256, t / 256 % 256, t % 256], by rw [chrs_size]; rfl, ?_, ?_⟩
  · unfold spec_l02Four.f
    simp only [u8_w, Option.bind_some]
  · obtain ⟨m, rfl⟩ : ∃ m, k = m + 5 := ⟨k - 5, by omega⟩
    have w3 : w64 ((4 : Int) - 1) = 3 := w64_id (by decide) (by decide)
    have w2 : w64 ((3 : Int) - 1) = 2 := w64_id (by decide) (by decide)
    have w1 : w64 ((2 : Int) - 1) = 1 := w64_id (by decide) (by decide)
    have w0 : w64 ((1 : Int) - 1) = 0 := w64_id (by decide) (by decide)
    have wm : w64 ((0 : Int) - 1) = -1 := w64_id (by decide) (by decide)
    have e2 : t / 256 / 256 = t / 65536 := by omega
    have e3 : t / 65536 / 256 = t / 16777216 := by omega
    unfold impl_highFirst.f
    rw [if_pos rfl, if_pos (by omega), if_pos (by decide), w3]
    simp only [Option.bind_some, impl_highFirst.l1, w3, w2, w1, w0, wm, e2, e3, and255' t h0 (by omega), and255' (t / 256) (by omega) (by omega), and255' (t / 65536) (by omega) (by omega), and255' (t / 16777216) (by omega) (by omega), u8_w, Int.emod_emod_of_dvd _ (Int.dvd_refl 256)]
    simp [List.replicate, List.set]
theorem sealed_both {k : Nat} {s : ByteArray} (hk : 1048576 < k) : ∃ r, spec_Sealed.f k s = some r ∧ impl_Sealed.f k s = some r := by
  unfold spec_Sealed.f impl_Sealed.f
  by_cases hs : 20000 < (s.size : Int)
  · rw [if_pos hs, if_pos hs]
    exact ⟨_, rfl, rfl⟩
  · obtain ⟨x, hx, hr⟩ := sumMore_ok (k := k) (x := 4294967295) (s := s) hk (by omega) (by unfold InR; omega)
    obtain ⟨f, hf, h1, h2⟩ := four_same hk hr
    have e : w64 x = x := w64_id (by have := hr.1; omega) (by have := hr.2; omega)
    rw [if_neg hs, if_neg hs]
    unfold spec_SumOf.f impl_SumOf.f
    rw [sumMore_same, hx]
    simp only [Option.bind_some, e, h1, h2]
    rw [if_pos (by omega)]
    exact ⟨_, rfl, rfl⟩
end Go.Proofs.Ytgihjaonapngdaa.Pure
