/- Texts of numbers. No condition. -/
import Derived.Test.YtcnaldcinkmpbaaTBase
import Derived.KernelRfl
namespace Go.Proofs.Ytcnaldcinkmpbaa.Pure
open Go Go.Proofs.YtcnaldcinkmpbaaA Go.Proofs.YtcnaldcinkmpbaaU Go.Proofs.Ytcnaldcinkmpbaa.QA
set_option linter.unusedVariables false
theorem u8_w (z : Int) : IntKind.u8.wrap z = z % 256 := by simp [IntKind.wrap, IntKind.signed, IntKind.bits]
theorem chrs_size (xs : List Int) : (chrs xs).size = xs.length := by
  show (chrs xs).data.size = _
  simp [chrs]
theorem chrs_app (xs ys : List Int) : chrs (xs ++ ys) = chrs xs ++ chrs ys := by
  apply ByteArray.ext
  simp [chrs]
/-- The bytes of a number. -/
def varL (n : Nat) : List Int := if n > 127 then ((n % 128 + 128 : Nat) : Int) :: varL (n / 128) else [(n : Int)]
termination_by n
decreasing_by omega
theorem varL_len : ∀ (d n : Nat), n < 128 ^ d → (varL n).length ≤ d + 1
  | 0, n, h => by
    rw [varL, if_neg (by simp at h; omega)]
    simp
  | d + 1, n, h => by
    rw [varL]
    split
    · have := varL_len d (n / 128) (by rw [Nat.pow_succ] at h; omega)
      rw [List.length_cons]
      omega
    · simp
theorem var_s {k : Nat} {n : Nat} (hk : 1048576 < k) (hn : n ≤ 1000000000) : spec_l01Var.f k (n : Int) = some (chrs (varL n)) := by
  refine ok_eq ?_
  unfold spec_l01Var.f
  refine ok_let ?_
  refine ok_loop (L := spec_l01Var.l1 k) (I := fun d s => ∃ (m : Nat) (acc : List Int), s = ((m : Int), acc, ()) ∧ m < 128 ^ d ∧ m ≤ 1000000000 ∧ acc.length + d ≤ 5 ∧ acc ++ varL m = varL n) ?_ k 5 _ (by omega) ⟨n, [], rfl, by omega, hn, by simp, rfl⟩
  rintro d c s ⟨m, acc, rfl, hm, hm2, ha, he⟩ ih
  rw [spec_l01Var.l1]
  refine ok_if (fun hc => ?_) (fun hc => ?_)
  · refine ok_let (ok_grd (by simp only [List.length_cons, List.length_nil]; omega) (ok_let ?_))
    have e1 : Int.tmod (m : Int) 128 = ((m % 128 : Nat) : Int) := by rw [Int.tmod_eq_emod_of_nonneg (by omega)]; omega
    have e2 : Int.tdiv (m : Int) 128 = ((m / 128 : Nat) : Int) := by rw [Int.tdiv_eq_ediv_of_nonneg (by omega)]; omega
    have e3 : w64 (((m % 128 : Nat) : Int) + 128) = ((m % 128 + 128 : Nat) : Int) := by rw [w64_id (by omega) (by omega)]; omega
    have e4 : IntKind.u8.wrap ((m % 128 + 128 : Nat) : Int) = ((m % 128 + 128 : Nat) : Int) := by rw [u8_w]; omega
    have e5 : w64 ((m / 128 : Nat) : Int) = ((m / 128 : Nat) : Int) := w64_id (by omega) (by omega)
    rw [e1, e2, e3, e4, e5]
    have hd : d ≠ 0 := by
      rintro rfl
      simp at hm
      omega
    obtain ⟨d, rfl⟩ : ∃ d', d = d' + 1 := ⟨d - 1, by omega⟩
    refine ih d _ (by omega) ⟨m / 128, _, rfl, by rw [Nat.pow_succ] at hm; omega, by omega, by simp; omega, ?_⟩
    rw [← he]
    conv => rhs; rw [varL, if_pos (by omega)]
    simp
  · refine ok_let (ok_grd (by simp only [List.length_cons, List.length_nil]; omega) (ok_let (ok_some ?_)))
    have e4 : IntKind.u8.wrap (m : Int) = (m : Int) := by rw [u8_w]; omega
    rw [e4, ← he]
    congr 2
    rw [varL, if_neg (by omega)]
theorem var_i {k : Nat} {n : Nat} (hk : 1048576 < k) (hn : n ≤ 1000000000) : impl_VarText.f k (n : Int) = some (chrs (varL n), true) := by
  have h : ∀ c s, impl_VarText.l1 k c s = (spec_l01Var.l1 k c s).map fun t => (t, true) := by
    intro c
    induction c with
    | zero => intro s; rfl
    | succ c ih =>
      rintro ⟨x, acc, u⟩
      rw [impl_VarText.l1, spec_l01Var.l1]
      simp only [Option.bind_some, ih]
      split <;> split <;> rfl
  have hs := var_s hk hn
  unfold spec_l01Var.f at hs
  simp only [Option.bind_some] at hs
  unfold impl_VarText.f
  rw [in_i, decide_eq_true (by omega)]
  simp only [Option.bind_some, not_true_eq_false, ↓reduceIte, h, hs]
  rfl
/-- The bytes of numbers. -/
def numsL : List Nat → List Int
  | [] => []
  | n :: L => varL n ++ numsL L
theorem numbers_i {k : Nat} {L : List Nat} (hk : 1048576 < k) (hl : L.length ≤ 1000) (hn : ∀ n, n ∈ L → n ≤ 1000000000) : impl_numbers.f k (L.map fun n : Nat => (n : Int)) = some (chrs (numsL L)) := by
  refine ok_eq ?_
  unfold impl_numbers.f
  have hlm : (L.map fun n : Nat => (n : Int)).length = L.length := List.length_map ..
  refine ok_loop (L := impl_numbers.l1 k) (I := fun d s => ∃ (j : Nat) (acc : List Int), s = (chrs acc, ((L.map fun n : Nat => (n : Int)).length : Int), (j : Int), (L.map fun n : Nat => (n : Int)), ()) ∧ j + d = L.length ∧ acc.length ≤ 6 * j ∧ acc ++ numsL (L.drop j) = numsL L) ?_ k L.length _ (by omega) ⟨0, [], rfl, by omega, by simp, rfl⟩
  rintro d c s ⟨j, acc, rfl, hd, ha, he⟩ ih
  rw [impl_numbers.l1]
  refine ok_if (fun hc => ?_) (fun hc => ok_some ?_)
  · have hj : j < L.length := by omega
    have e1 : el (.int .i64) (L.map fun n : Nat => (n : Int)) (j : Int).toNat = ((L[j] : Nat) : Int) := el_at (by simp [hj])
    have h4 : w64 ((j : Int) + 1) = ((j + 1 : Nat) : Int) := w64_id (by omega) (by omega)
    have hb := hn L[j] (List.getElem_mem hj)
    have hb2 := varL_len 5 L[j] (by omega)
    rw [if_pos (by omega), if_pos hc, e1, var_i hk hb, h4]
    refine ok_let (ok_grd (by simp only [chrs_size]; omega) ?_)
    rw [← chrs_app]
    refine ih (d - 1) _ (by omega) ⟨j + 1, _, rfl, by omega, by rw [List.length_append]; omega, ?_⟩
    rw [← he, List.drop_eq_getElem_cons hj, numsL, List.append_assoc]
  · rw [← he, List.drop_of_length_le (by omega), numsL, List.append_nil]
end Go.Proofs.Ytcnaldcinkmpbaa.Pure
