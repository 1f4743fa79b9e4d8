/- The plain law of FnPlans. No condition. -/
import Derived.Test.YtcnaldcinkmpbaaTDrawSetup
import Derived.Test.YtcnaldcinkmpbaaTWindow
import Derived.Test.YtcnaldcinkmpbaaTPlaces
import Derived.Test.YtcnaldcinkmpbaaQFnPlans
namespace Go.Proofs.Ytcnaldcinkmpbaa.Pure
open Go Go.Proofs.YtcnaldcinkmpbaaA Go.Proofs.YtcnaldcinkmpbaaU Go.Proofs.Ytcnaldcinkmpbaa.QA Go.Proofs.Ytcnaldcinkmpbaa.QFnPlans
set_option linter.unusedVariables false
set_option linter.unusedSimpArgs false
/-! ### sums that go round -/
def ssum (g : Nat → Int) (len n : Nat) : Nat → Int
  | 0 => 0
  | m + 1 => ssum g len n m + g ((n + m) % len)
theorem ssum_front (g : Nat → Int) (len n : Nat) : ∀ m, ssum g len n (m + 1) = g (n % len) + ssum g len (n + 1) m
  | 0 => by simp [ssum]
  | m + 1 => by
    rw [ssum, ssum_front g len n m, ssum, show n + (m + 1) = n + 1 + m by omega]
    omega
theorem ssum_turn (g : Nat → Int) (len : Nat) : ∀ n, ssum g len n len = ssum g len 0 len
  | 0 => rfl
  | n + 1 => by
    rw [← ssum_turn g len n]
    have h1 := ssum_front g len n len
    rw [ssum, Nat.add_mod_right] at h1
    omega
def part1 (L : List (Int × Int)) (i : Nat) : Int := if (el W2 L i).1 = 1 then (el W2 L i).2 else 0
theorem ssum_time (L : List (Int × Int)) : ∀ m, m ≤ L.length → ssum (part1 L) L.length 0 m = timeOf 1 (L.take m)
  | 0, _ => by simp [ssum, timeOf]
  | m + 1, h => by
    rw [ssum, ssum_time L m (by omega), timeOf_next (by omega), Nat.zero_add, Nat.mod_eq_of_lt (by omega)]
    rfl
def total : List (Int × Int) → Int
  | [] => 0
  | w :: L => w.2 + total L
theorem total_app : ∀ L M, total (L ++ M) = total L + total M
  | [], M => by show total M = 0 + total M; omega
  | w :: L, M => by
    have := total_app L M
    show w.2 + total (L ++ M) = w.2 + total L + total M
    omega
theorem total_next {L : List (Int × Int)} {j : Nat} (h : j < L.length) : total (L.take (j + 1)) = total (L.take j) + (el W2 L j).2 := by
  rw [take_next h, total_app]
  show total (L.take j) + ((el W2 L j).2 + 0) = _
  rw [Int.add_zero]
theorem parts_total : ∀ {L : List (Int × Int)}, (∀ w, w ∈ L → 1 ≤ w.1 ∧ w.1 ≤ 4) → timeOf 1 L + timeOf 2 L + timeOf 3 L + timeOf 4 L = total L
  | [], _ => rfl
  | w :: L, h => by
    have h1 := parts_total (L := L) (fun w hw => h w (List.mem_cons_of_mem _ hw))
    have h2 := h w (List.mem_cons_self ..)
    simp only [timeOf, total]
    have h3 : w.1 = 1 ∨ w.1 = 2 ∨ w.1 = 3 ∨ w.1 = 4 := by omega
    rcases h3 with h3 | h3 | h3 | h3 <;> simp only [h3, ↓reduceIte, Int.reduceEq] <;> omega
theorem FnPlans : ∀ (x0 : den (.sl 5 (.int .u8))), Wf (.sl 5 (.int .u8)) x0 → ∃ k, laws_FnPlans.f k x0 = some true := by
  intro xs _
  refine ⟨1048577, ?_⟩
  have hk : 1048576 < 1048577 := by omega
  generalize 1048577 = k at hk
  refine ok_eq ?_
  unfold laws_FnPlans.f
  refine big_ok (fun hl => ?_) (ok_some rfl)
  refine ok_bind (drawSetup_ok hl hk) ?_
  rintro ⟨R, L, P, U, C⟩ hD
  have hPl := drawn_plan hD
  have h4 := hD.n4
  have l3 := hD.plan1
  have l4 := hD.plan5
  have hw := hD.plan
  simp only at hPl l3 l4 hw h4
  clear hD
  refine ok_bind (places_ok hl hk) (fun p hp => ?_)
  obtain ⟨a, ha, ha0, ha1⟩ := places_at hp (i := 0) (by omega)
  have hl12 : (p.length : Int) = 12 := by rw [hp.1]; rfl
  rw [if_pos (by omega), if_pos (by omega)]
  simp only [ha]
  obtain ⟨N, rfl⟩ : ∃ N : Nat, a = (N : Int) := ⟨a.toNat, by omega⟩
  have hb : ∀ w, w ∈ L → 0 ≤ w.2 ∧ w.2 ≤ 200 := fun w hw' => by have := (hw w hw').2; omega
  have htm : ∀ q, impl_TimeOf.f k L q = some (timeOf q L) := fun q => timeOf_i (by omega) hk hb
  have htb : ∀ q, 0 ≤ timeOf q L ∧ timeOf q L ≤ 1000 := fun q => by have := timeOf_bd (p := q) hb; omega
  have hp1 : ∀ i, i < L.length → 0 ≤ part1 L i ∧ part1 L i ≤ 40 := fun i hi => by
    have := (hw _ (el_mem (t := W2) hi)).2
    unfold part1
    split <;> omega
  have hsb : ∀ m, 0 ≤ ssum (part1 L) L.length N m ∧ ssum (part1 L) L.length N m ≤ 40 * (m : Int) := by
    intro m
    induction m with
    | zero => exact ⟨Int.le_refl 0, Int.le_refl 0⟩
    | succ m ih =>
      have := hp1 ((N + m) % L.length) (Nat.mod_lt _ (by omega))
      rw [ssum]
      omega
  have htot : ∀ m, m ≤ L.length → 0 ≤ total (L.take m) ∧ total (L.take m) ≤ 40 * (m : Int) := by
    intro m
    induction m with
    | zero => intro _; exact ⟨Int.le_refl 0, Int.le_refl 0⟩
    | succ m ih =>
      intro hm
      have h1 := ih (by omega)
      have h2 := (hw _ (el_mem (t := W2) (xs := L) (i := m) (by omega))).2
      rw [total_next (by omega)]
      omega
  have third : ∀ x2, x2 = total L → Ok (laws_FnPlans.l3 k k (timeOf 1 L, x2, 0, 0, L, ())) (fun r => r = true) := fun x2 hx2 => by
    refine ok_loop (L := laws_FnPlans.l3 k) (I := fun d s => ∃ j : Nat, s = (timeOf 1 L, x2, total (L.take j), (j : Int), L, ()) ∧ j + d = L.length) ?_ k L.length _ (by omega) ⟨0, rfl, by omega⟩
    rintro d n s ⟨j, rfl, hd⟩ ih
    rw [laws_FnPlans.l3]
    refine ok_if (fun hc => ok_grd (by omega) (ok_grd hc ?_)) (fun hc => ?_)
    · have h5 : w64 ((j : Int) + 1) = ((j + 1 : Nat) : Int) := w64_id (by omega) (by omega)
      have hj : j < L.length := by omega
      have b1 := htot j (by omega)
      have b2 := (hw _ (el_mem (t := W2) hj)).2
      have e : w64 (total (L.take j) + (el W2 L j).2) = total (L.take j) + (el W2 L j).2 := w64_id (by omega) (by omega)
      rw [h5]
      simp only [Int.toNat_natCast]
      rw [e, ← total_next hj]
      exact ih (d - 1) _ (by omega) ⟨j + 1, rfl, by omega⟩
    · rw [List.take_of_length_le (by omega), planOk_i (by omega) hk, B_yes hPl, htm, window_neg hk hPl, show (0 : Int) = ((0 : Nat) : Int) from rfl, window_i hk hPl, hx2]
      simp only [Option.bind_some, ↓reduceIte, Nat.zero_mod]
      rw [if_pos (show ((0 : Nat) : Int) < (L.length : Int) by omega)]
      exact ok_some (by simp)
  have second : ∀ x1, x1 = timeOf 1 L → Ok (laws_FnPlans.l2 k k (x1, 0, 1, L, ())) (fun r => r = true) := fun x1 hx1 => by
    subst hx1
    have hpt := parts_total (L := L) (fun w hw' => by have := (hw w hw').1; omega)
    obtain ⟨m, rfl⟩ : ∃ m, k = m + 5 := ⟨k - 5, by omega⟩
    have t1 := htb 1
    have t2 := htb 2
    have t3 := htb 3
    have t4 := htb 4
    have w1 : w64 (0 + timeOf 1 L) = timeOf 1 L := by rw [w64_id (by omega) (by omega)]; omega
    have w2 : w64 (timeOf 1 L + timeOf 2 L) = timeOf 1 L + timeOf 2 L := w64_id (by omega) (by omega)
    have w3 : w64 (timeOf 1 L + timeOf 2 L + timeOf 3 L) = timeOf 1 L + timeOf 2 L + timeOf 3 L := w64_id (by omega) (by omega)
    have w4 : w64 (timeOf 1 L + timeOf 2 L + timeOf 3 L + timeOf 4 L) = timeOf 1 L + timeOf 2 L + timeOf 3 L + timeOf 4 L := w64_id (by omega) (by omega)
    have v1 : w64 ((1 : Int) + 1) = 2 := w64_id (by decide) (by decide)
    have v2 : w64 ((2 : Int) + 1) = 3 := w64_id (by decide) (by decide)
    have v3 : w64 ((3 : Int) + 1) = 4 := w64_id (by decide) (by decide)
    have v4 : w64 ((4 : Int) + 1) = 5 := w64_id (by decide) (by decide)
    have th := third _ hpt
    simp only [laws_FnPlans.l2, htm, Option.bind_some, Int.reduceLE, ↓reduceIte, w1, w2, w3, w4, v1, v2, v3, v4]
    exact th
  refine ok_loop (L := laws_FnPlans.l1 k) (I := fun d s => ∃ i : Nat, s = ((N : Int), ssum (part1 L) L.length N i, (i : Int), L, ()) ∧ i + d = L.length) ?_ k L.length _ (by omega) ⟨0, rfl, by omega⟩
  rintro d n s ⟨i, rfl, hd⟩ ih
  rw [laws_FnPlans.l1]
  refine ok_if (fun hc => ?_) (fun hc => ?_)
  · have h5 : w64 ((i : Int) + 1) = ((i + 1 : Nat) : Int) := w64_id (by omega) (by omega)
    have e1 : w64 ((N : Int) + (i : Int)) = ((N + i : Nat) : Int) := by rw [w64_id (by omega) (by omega)]; omega
    have e2 : w64 (((N + i : Nat) : Int) + (L.length : Int)) = ((N + i + L.length : Nat) : Int) := by rw [w64_id (by omega) (by omega)]; omega
    have hlt : (N + i) % L.length < L.length := Nat.mod_lt _ (by omega)
    have b1 := hsb i
    have b2 := hp1 _ hlt
    have b3 := (hw _ (el_mem (t := W2) hlt)).2
    rw [e1, e2, h5, window_i hk hPl, window_i hk hPl, Nat.add_mod_right]
    simp only [Option.bind_some, and_self, not_true_eq_false, ↓reduceIte]
    have go := ih (d - 1) _ (by omega) ⟨i + 1, rfl, by omega⟩
    rw [ssum] at go
    unfold part1 at go b2
    refine ok_if (fun h1 => ?_) (fun h1 => ?_)
    · have e3 : w64 (ssum (part1 L) L.length N i + (el W2 L ((N + i) % L.length)).2) = ssum (part1 L) L.length N i + (el W2 L ((N + i) % L.length)).2 := w64_id (by omega) (by omega)
      rw [if_pos h1] at go
      rw [e3]
      exact go
    · rw [if_neg h1, Int.add_zero] at go
      exact go
  · have hi : i = L.length := by omega
    subst hi
    refine second _ ?_
    rw [ssum_turn, ssum_time L _ (Nat.le_refl _), List.take_length]
end Go.Proofs.Ytcnaldcinkmpbaa.Pure
