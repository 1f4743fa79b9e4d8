/- The plain law of FnLoops. No condition. -/
import Derived.Test.YtcnaldcinkmpbaaTRun
import Derived.Test.YtcnaldcinkmpbaaTForward
import Derived.Test.YtcnaldcinkmpbaaTDrawCpu
import Derived.Test.YtcnaldcinkmpbaaTPlaces
import Derived.Test.YtcnaldcinkmpbaaQFnLoops
namespace Go.Proofs.Ytcnaldcinkmpbaa.Pure
open Go Go.Proofs.YtcnaldcinkmpbaaA Go.Proofs.YtcnaldcinkmpbaaU Go.Proofs.Ytcnaldcinkmpbaa.QA Go.Proofs.Ytcnaldcinkmpbaa.QFnLoops
set_option linter.unusedVariables false
/-- So often: the time, and down with it. -/
def lc : Nat → List (Int × Int)
  | 0 => []
  | n + 1 => lc n ++ [(17, 0), (12, 0)]
theorem lc_len : ∀ n, (lc n).length = 2 * n
  | 0 => rfl
  | n + 1 => by rw [lc, List.length_append, lc_len n]; rfl
theorem lc_at : ∀ (n i : Nat), i < n → (lc n)[2 * i]? = some (17, 0) ∧ (lc n)[2 * i + 1]? = some (12, 0)
  | 0, i, h => absurd h (by omega)
  | n + 1, i, h => by
    have hl := lc_len n
    rcases Nat.lt_or_ge i n with h' | h'
    · rw [lc, List.getElem?_append_left (by omega), List.getElem?_append_left (by omega)]
      exact lc_at n i h'
    · obtain rfl : i = n := by omega
      rw [lc, List.getElem?_append_right (by omega), List.getElem?_append_right (by omega), hl, show 2 * i - 2 * i = 0 by omega, show 2 * i + 1 - 2 * i = 1 by omega]
      exact ⟨rfl, rfl⟩
/-- .. and back. -/
def lcode (n : Nat) (g : Int) : List (Int × Int) := lc n ++ [(9, g)]
theorem lcode_len (n : Nat) (g : Int) : (lcode n g).length = 2 * n + 1 := by
  rw [lcode, List.length_append, lc_len]
  rfl
theorem lcode_even {n i : Nat} {g : Int} (h : i < n) : el C2 (lcode n g) (2 * i) = (17, 0) := el_at (by rw [lcode, List.getElem?_append_left (by rw [lc_len]; omega)]; exact (lc_at n i h).1)
theorem lcode_odd {n i : Nat} {g : Int} (h : i < n) : el C2 (lcode n g) (2 * i + 1) = (12, 0) := el_at (by rw [lcode, List.getElem?_append_left (by rw [lc_len]; omega)]; exact (lc_at n i h).2)
theorem lcode_last {n : Nat} {g : Int} : el C2 (lcode n g) (2 * n) = (9, g) := el_mid (t := C2) (lc_len n)
theorem lcode_ok {n : Nat} {g : Int} (hn : n ≤ 8) (hg : 0 ≤ g ∧ g ≤ 255) : CodeOk (lcode n g) := by
  refine ⟨fun i hi => ?_, by rw [lcode_len]; omega⟩
  rw [lcode_len] at hi
  rcases Nat.lt_or_ge i (2 * n) with h | h
  · rcases Nat.mod_two_eq_zero_or_one i with h2 | h2
    · obtain ⟨j, rfl⟩ : ∃ j, i = 2 * j := ⟨i / 2, by omega⟩
      rw [lcode_even (by omega)]
      exact ⟨by dsimp only; omega, by dsimp only; omega⟩
    · obtain ⟨j, rfl⟩ : ∃ j, i = 2 * j + 1 := ⟨i / 2, by omega⟩
      rw [lcode_odd (by omega)]
      exact ⟨by dsimp only; omega, by dsimp only; omega⟩
  · obtain rfl : i = 2 * n := by omega
    rw [lcode_last]
    exact ⟨by dsimp only; omega, hg⟩
theorem run_step {code : List (Int × Int)} {r : Int × Int} {most cost : Int} {f : Nat} {c : Int × List Int} {a : List Int} {x : Int × Int} (hx : el C2 code c.1.toNat = x) (ht : trapM c code a r = 0) (h0 : ¬ x.1 = 0) (hc : costM x.1 = 1) (ha : ansM x.1 = 0) (hm : cost + 1 ≤ most) :
    runM code r most (f + 1) cost c a = runM code r most f (cost + 1) (doX c.1 x c.2 a r 0).1 (doX c.1 x c.2 a r 0).2.1 := by
  have hp := (trap0 ht).2.2.1
  have hs : stepM c code a r 0 = doX c.1 x c.2 a r 0 := by
    unfold stepM
    rw [if_pos ht, hx]
  rw [runM, if_pos hp, hx, hc, if_neg (by omega), if_pos ht, if_neg h0, ha, hs]
  rfl
theorem trap_no {code : List (Int × Int)} {r : Int × Int} {c : Int × List Int} {a : List Int} {x : Int × Int} (h1 : CpuOk c) (h2 : CodeOk code) (h3 : c.1 < (code.length : Int)) (hx : el C2 code c.1.toNat = x) (ht : trapX x c.2 a r = 0) : trapM c code a r = 0 := by
  unfold trapM
  rw [B_yes ⟨h1, h2, h3⟩, if_pos rfl, hx, ht]
theorem lrun {n : Nat} {g : Int} {r : Int × Int} {most : Int} (hn : n ≤ 8) (hn1 : 1 ≤ n) (j : Nat) (hg : g = 2 * (j : Int)) (hj : j < n) :
    ∀ (f : Nat) (cost : Int) (i : Nat) (a : List Int), i ≤ n → cost ≤ most → most - cost < (f : Int) → runM (lcode n g) r most f cost (2 * (i : Int), []) a = (most, 0) ∧ ∀ x, Word x → i < n → runM (lcode n g) r most f cost (2 * (i : Int) + 1, [x]) a = (most, 0)
  | 0, cost, i, a, _, hc, hf => absurd hf (by omega)
  | f + 1, cost, i, a, hi, hc, hf => by
    have hco := lcode_ok (n := n) (g := g) hn (by omega)
    have hl := lcode_len n g
    have hpc : (2 * (i : Int)).toNat = 2 * i := by omega
    have hpc1 : (2 * (i : Int) + 1).toNat = 2 * i + 1 := by omega
    have endc : ∀ (c : Int × List Int) (x : Int × Int), el C2 (lcode n g) c.1.toNat = x → costM x.1 = 1 → c.1 < ((lcode n g).length : Int) → ¬ cost + 1 ≤ most → runM (lcode n g) r most (f + 1) cost c a = (most, 0) := fun c x hx h1 h2 h3 => by
      rw [runM, if_pos h2, hx, h1, if_pos (by omega)]
      congr 1
      omega
    constructor
    · have w0 : CpuOk (2 * (i : Int), []) := ⟨by dsimp only; omega, by simp, fun q hq => absurd hq (by simp)⟩
      rcases Nat.lt_or_ge i n with h | h
      · have hx : el C2 (lcode n g) (2 * (i : Int)).toNat = (17, 0) := by rw [hpc]; exact lcode_even h
        by_cases hm : cost + 1 ≤ most
        · rw [run_step (c := (2 * (i : Int), [])) hx (trap_no w0 hco (by dsimp only; omega) hx rfl) (by decide) rfl rfl hm]
          exact (lrun hn hn1 j hg hj f (cost + 1) i a hi hm (by omega)).2 0 (by unfold Word; omega) h
        · exact endc (2 * (i : Int), []) _ hx rfl (by dsimp only; omega) hm
      · obtain rfl : i = n := by omega
        have hx : el C2 (lcode i g) (2 * (i : Int)).toNat = (9, g) := by rw [hpc]; exact lcode_last
        by_cases hm : cost + 1 ≤ most
        · rw [run_step (c := (2 * (i : Int), [])) hx (trap_no w0 hco (by dsimp only; omega) hx rfl) (by simp) rfl rfl hm]
          have e : doX (2 * (i : Int)) (9, g) [] a r 0 = ((2 * (j : Int), []), a, 0, 0, 0, 0) := by
            have e2 : min g 60 = 2 * (j : Int) := by omega
            simp [doX, e2]
          rw [e]
          exact (lrun hn hn1 j hg hj f (cost + 1) j a (by omega) hm (by omega)).1
        · exact endc (2 * (i : Int), []) _ hx rfl (by dsimp only; omega) hm
    · intro x hw h
      have w0 : CpuOk (2 * (i : Int) + 1, [x]) := ⟨by dsimp only; omega, by simp, words_mem.2 fun y hy => by rw [List.mem_singleton.1 hy]; exact hw⟩
      have hx : el C2 (lcode n g) (2 * (i : Int) + 1).toNat = (12, 0) := by rw [hpc1]; exact lcode_odd h
      by_cases hm : cost + 1 ≤ most
      · rw [run_step (c := (2 * (i : Int) + 1, [x])) hx (trap_no w0 hco (by dsimp only; omega) hx rfl) (by decide) rfl rfl hm]
        have e : doX (2 * (i : Int) + 1) (12, 0) [x] a r 0 = ((2 * ((i + 1 : Nat) : Int), []), a, 0, 0, 0, 0) := by
          have e2 : 2 * (i : Int) + 1 + 1 = 2 * ((i + 1 : Nat) : Int) := by omega
          simp [doX, e2, low]
        rw [e]
        exact (lrun hn hn1 j hg hj f (cost + 1) (i + 1) a h hm (by omega)).1
      · exact endc (2 * (i : Int) + 1, [x]) _ hx rfl (by dsimp only; omega) hm
theorem drawForward_ok {k : Nat} {xs : List Int} (hl : xs.length ≤ 1048576) (hk : 1048576 < k) : Ok (spec_DrawForward.f k xs) (fun r => r.length ≤ 1048576) := by
  unfold spec_DrawForward.f
  refine ok_bind (new_ok hl hk) (fun r1 h1 => ok_bind (once_ok h1) (fun r2 h2 => ok_if (fun _ => ok_bind (l05Any_ok hk h2) (fun r3 h3 => ok_some ?_)) (fun _ => ok_bind (l07Code_ok hk h2) (fun r3 h3 => ok_some ?_))))
  · have := h3.1
    omega
  · have := h3.2.1
    omega
theorem FnLoops : ∀ (x0 : den (.sl 5 (.int .u8))), Wf (.sl 5 (.int .u8)) x0 → ∃ k, laws_FnLoops.f k x0 = some true := by
  intro xs _
  refine ⟨1048577, ?_⟩
  have hk : 1048576 < 1048577 := by omega
  generalize 1048577 = k at hk
  refine ok_eq ?_
  unfold laws_FnLoops.f
  refine big_ok (fun hl => ?_) (ok_some rfl)
  refine ok_bind (places_ok hl hk) (fun p hp => ?_)
  obtain ⟨a, ha, ha0, ha1⟩ := places_at hp (i := 0) (by omega)
  obtain ⟨b, hb, hb0, hb1⟩ := places_at hp (i := 1) (by omega)
  obtain ⟨c, hc, hc0, hc1⟩ := places_at hp (i := 2) (by omega)
  have hl12 : (p.length : Int) = 12 := by rw [hp.1]; rfl
  have hm := tmod_in (n := 8) ha0 (by omega)
  rw [if_pos (by omega), if_pos (by omega)]
  refine ok_let ?_
  simp only [ha]
  rw [w64_id (by omega) (by omega)]
  obtain ⟨N, hN⟩ : ∃ N : Nat, 1 + Int.tmod a 8 = (N : Int) := ⟨(1 + Int.tmod a 8).toNat, by omega⟩
  rw [hN]
  have hN1 : 1 ≤ N ∧ N ≤ 8 := by omega
  clear hN hm
  refine ok_loop (L := laws_FnLoops.l1 k) (I := fun d s => ∃ i : Nat, s = ((N : Int), (i : Int), xs, p, lc i, ()) ∧ i + d = N) ?_ k N _ (by omega) ⟨0, rfl, by omega⟩
  rintro d n s ⟨i, rfl, hd⟩ ih
  rw [laws_FnLoops.l1]
  have hli := lc_len i
  refine ok_if (fun hlt => ok_let ?_) (fun hge => ?_)
  · refine ok_grd (by simp only [List.length_cons, List.length_nil]; omega) (ok_let ?_)
    have h4 : w64 ((i : Int) + 1) = ((i + 1 : Nat) : Int) := w64_id (by omega) (by omega)
    rw [h4]
    exact ih (d - 1) _ (by omega) ⟨i + 1, rfl, by omega⟩
  · obtain rfl : i = N := by omega
    have hm := tmod_in (n := (i : Int)) hb0 (by omega)
    have hq := tmod_in (n := 300) hc0 (by omega)
    rw [if_pos (by omega), if_pos (by omega), if_pos (by omega)]
    simp only [hb, hc]
    rw [w64_id (by omega) (by omega)]
    obtain ⟨j, hj⟩ : ∃ j : Nat, Int.tmod b (i : Int) = (j : Int) := ⟨(Int.tmod b (i : Int)).toNat, by omega⟩
    rw [hj]
    refine ok_let (ok_grd (by simp only [List.length_cons, List.length_nil]; omega) (ok_let ?_))
    rw [if_pos (by omega), if_pos (by omega)]
    show Ok ((impl_ArenaNew.f k).bind _) _
    have hnew : impl_ArenaNew.f k = some (List.replicate 64 0) := by
      unfold impl_ArenaNew.f
      rfl
    have hcl : (lcode i (2 * (j : Int))).length ≤ 1048576 := by rw [lcode_len]; omega
    have hlast := lcode_last (n := i) (g := 2 * (j : Int))
    have hnf : ¬ Fwd (lcode i (2 * (j : Int))) := fun h => by
      have h2 := h.1 (2 * i) (by rw [lcode_len]; omega)
      unfold FwdAt FwdX at h2
      rw [hlast] at h2
      have := h2 (.inl rfl)
      dsimp only at this
      omega
    have hrun := (lrun (r := (0, 1)) (most := Int.tmod c 300) hN1.2 hN1.1 j rfl (by omega) 5001 0 0 (List.replicate 64 0) (by omega) (by omega) (by omega)).1
    have hrc : runCostM (lcode i (2 * (j : Int))) (List.replicate 64 0) (0, 1) (Int.tmod c 300) = (Int.tmod c 300, 0) := by
      unfold runCostM
      rw [Int.min_eq_left (by omega)]
      exact hrun
    have hw : impl_WorstCost.f k (lcode i (2 * (j : Int))) = some (0, false) := by
      unfold impl_WorstCost.f
      rw [forward_i hcl hk, B_no hnf]
      rfl
    have elc : lc i ++ [((9 : Int), 2 * (j : Int))] = lcode i (2 * (j : Int)) := rfl
    rw [elc, hnew]
    refine ok_let ?_
    rw [runCost_i hk hcl (by simp) (by dsimp only; omega), hrc, hw, forward_i hcl hk, B_no hnf]
    refine ok_let (ok_let (ok_bind (drawForward_ok hl hk) (fun x hx => ok_let ?_)))
    rw [forward_i hx hk, forward_s hx hk]
    exact (ok_grd (by simp) (ok_grd (by simp) (ok_grd rfl (ok_grd rfl (ok_let (ok_let (ok_some (by simp))))))))
end Go.Proofs.Ytcnaldcinkmpbaa.Pure
