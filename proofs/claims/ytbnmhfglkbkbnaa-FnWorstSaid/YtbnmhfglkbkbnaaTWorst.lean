/- What code without loops costs at most. No condition. -/
import Derived.Test.YtbnmhfglkbkbnaaTRun
import Derived.Test.YtbnmhfglkbkbnaaTForward
namespace Go.Proofs.Ytbnmhfglkbkbnaa.Pure
open Go Go.Proofs.YtbnmhfglkbkbnaaA Go.Proofs.YtbnmhfglkbkbnaaU Go.Proofs.Ytbnmhfglkbkbnaa.QA
set_option linter.unusedVariables false
set_option linter.unusedSimpArgs false
/-- What an instruction and what follows costs at most; w: what it costs from a place on. -/
def wOf (x : Int × Int) (next : Int) (w : Nat → Int) : Int := costM x.1 + (if x.1 = 0 then 0 else if x.1 = 9 then w x.2.toNat else if x.1 = 10 then max next (w x.2.toNat) else next)
def wM (L : List (Int × Int)) : Nat → Nat → Int
  | 0, _ => 0
  | d + 1, i => if i < L.length then wOf (el C2 L i) (wM L d (i + 1)) (wM L d) else 0
def worst (L : List (Int × Int)) (i : Nat) : Int := wM L L.length i
theorem fwd_gt {L : List (Int × Int)} (h : Fwd L) {i : Nat} (hi : i < L.length) (hg : (el C2 L i).1 = 9 ∨ (el C2 L i).1 = 10) : i < (el C2 L i).2.toNat := by
  have h1 := h.1 i hi hg
  have h2 : (i : Int) < (el C2 L i).2 := h1
  have h3 := (h.2.1 i hi).2
  omega
theorem wM_s (L : List (Int × Int)) (d i : Nat) : wM L (d + 1) i = if i < L.length then wOf (el C2 L i) (wM L d (i + 1)) (wM L d) else 0 := rfl
theorem wM_more {L : List (Int × Int)} (h : Fwd L) : ∀ (d : Nat) (i : Nat), L.length - i ≤ d → wM L (d + 1) i = wM L d i
  | 0, i, hd => by
    rw [wM_s, if_neg (by omega)]
    rfl
  | d + 1, i, hd => by
    rw [wM_s L (d + 1) i, wM_s L d i]
    by_cases hi : i < L.length
    · rw [if_pos hi, if_pos hi]
      unfold wOf
      rw [wM_more h d (i + 1) (by omega)]
      by_cases h0 : (el C2 L i).1 = 0
      · rw [if_pos h0, if_pos h0]
      · rw [if_neg h0, if_neg h0]
        by_cases h9 : (el C2 L i).1 = 9
        · rw [if_pos h9, if_pos h9, wM_more h d _ (by have := fwd_gt h hi (.inl h9); omega)]
        · rw [if_neg h9, if_neg h9]
          by_cases h10 : (el C2 L i).1 = 10
          · rw [if_pos h10, if_pos h10, wM_more h d _ (by have := fwd_gt h hi (.inr h10); omega)]
          · rw [if_neg h10, if_neg h10]
    · rw [if_neg hi, if_neg hi]
theorem worst_eq {L : List (Int × Int)} (h : Fwd L) {i : Nat} (hi : i < L.length) : worst L i = wOf (el C2 L i) (worst L (i + 1)) (worst L) := by
  unfold worst
  rw [← wM_more h L.length i (by omega), wM_s, if_pos hi]
theorem wM_end {L : List (Int × Int)} : ∀ {d i : Nat}, L.length ≤ i → wM L d i = 0
  | 0, i, h => rfl
  | d + 1, i, h => by rw [wM, if_neg (by omega)]
theorem worst_end {L : List (Int × Int)} {i : Nat} (h : L.length ≤ i) : worst L i = 0 := wM_end h
theorem wM_in {L : List (Int × Int)} (h : Fwd L) : ∀ (d i : Nat), 0 ≤ wM L d i ∧ wM L d i ≤ 4 * ((L.length - i : Nat) : Int)
  | 0, i => ⟨Int.le_refl 0, by show (0 : Int) ≤ _; omega⟩
  | d + 1, i => by
    rw [wM]
    by_cases hi : i < L.length
    · rw [if_pos hi]
      have hc := cost_in (el C2 L i).1
      have h1 := wM_in h d (i + 1)
      unfold wOf
      by_cases h0 : (el C2 L i).1 = 0
      · rw [if_pos h0]
        omega
      · rw [if_neg h0]
        by_cases h9 : (el C2 L i).1 = 9
        · have h2 := wM_in h d (el C2 L i).2.toNat
          have := fwd_gt h hi (.inl h9)
          rw [if_pos h9]
          omega
        · rw [if_neg h9]
          by_cases h10 : (el C2 L i).1 = 10
          · have h2 := wM_in h d (el C2 L i).2.toNat
            have := fwd_gt h hi (.inr h10)
            rw [if_pos h10]
            omega
          · rw [if_neg h10]
            omega
    · rw [if_neg hi]
      omega
theorem worst_in {L : List (Int × Int)} (h : Fwd L) (i : Nat) : 0 ≤ worst L i ∧ worst L i ≤ 240 := by
  have h1 := wM_in h L.length i
  have h2 := h.2.2
  unfold worst
  omega
/-! ### the tables -/
theorem table_set {L : List (Int × Int)} {T : List Int} {n i : Nat} (hT : T.length = n) (hi : i < n) (h : ∀ j, i < j → j < n → el I1 T j = worst L j) : ∀ j, i ≤ j → j < n → el I1 (T.set i (worst L i)) j = worst L j := fun j h1 h2 => by
  rcases Nat.lt_or_ge i j with h' | h'
  · have hlt : j < T.length := by omega
    have hne : i ≠ j := by omega
    have e : el I1 (T.set i (worst L i)) j = el I1 T j := el_at (t := I1) (by rw [List.getElem?_set_ne hne]; exact el_lt (t := I1) hlt)
    rw [e]
    exact h j h' h2
  · obtain rfl : i = j := by omega
    have hlt : i < T.length := by omega
    exact el_at (by rw [List.getElem?_set_self hlt])
theorem worst_i {k : Nat} {L : List (Int × Int)} (hk : 1048576 < k) (hl : L.length ≤ 1048576) (h : Fwd L) : impl_WorstCost.f k L = some (worst L 0, true) := by
  have h60 := h.2.2
  refine ok_eq ?_
  unfold impl_WorstCost.f
  rw [forward_i hl hk, B_yes h]
  refine ok_let ?_
  rw [if_neg (fun h => h rfl), if_pos rfl, if_pos (by omega), if_pos (by decide), w64_id (by omega) (by omega)]
  refine ok_let ?_
  refine ok_loop (L := impl_WorstCost.l1 k) (I := fun d s => ∃ T : List Int, s = ((d : Int) - 1, L, T, ()) ∧ T.length = 257 ∧ d ≤ L.length ∧ ∀ j, d ≤ j → j < 257 → el I1 T j = worst L j) ?_ k L.length _ (by omega) ⟨_, rfl, List.length_replicate .., Nat.le_refl _, fun j h1 h2 => ?_⟩
  · rintro d n s ⟨T, rfl, hT, hd, hq⟩ ih
    rw [impl_WorstCost.l1]
    cases d with
    | zero =>
      rw [if_neg (by omega), if_pos (by omega), if_pos (by omega)]
      exact ok_some (by rw [show el (.int .i64) T 0 = worst L 0 from hq 0 (by omega) (by omega)])
    | succ i =>
      have e : (((i + 1 : Nat) : Int) - 1) = (i : Int) := by omega
      have hi : i < L.length := by omega
      have c0 : (0 : Int) ≤ (i : Int) := by omega
      have c1 : (i : Int) < (L.length : Int) := by omega
      have c2 : w64 ((i : Int) + 1) = ((i + 1 : Nat) : Int) := w64_id (by omega) (by omega)
      have c3 : (0 : Int) ≤ ((i + 1 : Nat) : Int) := by omega
      have c4 : ((i + 1 : Nat) : Int) < (T.length : Int) := by omega
      rw [e]
      have hx := h.2.1 i hi
      have hgt := fwd_gt h hi
      have hw := worst_eq h hi
      have hn : el I1 T (i + 1) = worst L (i + 1) := hq (i + 1) (by omega) (by omega)
      have hw0 := worst_in h i
      obtain ⟨op, g, hxe⟩ : ∃ op g : Int, el C2 L i = (op, g) := ⟨_, _, rfl⟩
      rw [hxe] at hx hgt hw
      have hg := hx.2
      have ho := hx.1
      simp only at hg ho hgt
      have hge : el I1 T g.toNat = worst L g.toNat ∨ ¬ (op = 9 ∨ op = 10) := by
        by_cases h9 : op = 9 ∨ op = 10
        · exact .inl (hq g.toNat (by have := hgt h9; omega) (by omega))
        · exact .inr h9
      have hco := cost_in op
      have put : ∀ z : Int, costM op + z = worst L i → Ok (impl_WorstCost.j2 k (impl_WorstCost.l1 k n) ((i : Int), z, op, g, L, T, ())) (fun r => r = (worst L 0, true)) := fun z hz => by
        rw [impl_WorstCost.j2, cost_i]
        refine ok_let ?_
        rw [if_pos c0, if_pos (by omega), hz, w64_id (by omega) (by omega), w64_id (by omega) (by omega)]
        exact ok_let (ih i _ (by omega) ⟨_, rfl, by rw [List.length_set]; exact hT, by omega, table_set hT (by omega) (fun j h1 h2 => hq j h1 h2)⟩)
      simp only [c0, c1, c2, c3, c4, ↓reduceIte, Int.toNat_natCast, show el (.pair (.int .i64) (.int .i64)) L i = (op, g) from hxe]
      unfold wOf at hw
      simp only at hw
      have g0 : (0 : Int) ≤ g := hg.1
      have g1 : g < (T.length : Int) := by omega
      simp only [g0, g1, ↓reduceIte, show el (.int .i64) T (i + 1) = worst L (i + 1) from hn]
      refine ok_if (fun h0 => put _ ?_) (fun h0 => ok_if (fun h9 => put _ ?_) (fun h9 => ok_if (fun h10 => put _ ?_) (fun h10 => put _ ?_)))
      · rw [hw, if_pos h0]
      · rw [hw, if_neg h0, if_pos h9, show el (.int .i64) T g.toNat = worst L g.toNat from hge.resolve_right (fun h => h (.inl h9))]
      · rw [hw, if_neg h0, if_neg h9, if_pos h10, show el (.int .i64) T g.toNat = worst L g.toNat from hge.resolve_right (fun h => h (.inr h10))]
      · rw [hw, if_neg h0, if_neg h9, if_neg h10]
  · rw [worst_end h1]
    exact el_at (by rw [List.getElem?_replicate, if_pos h2])
theorem worst_s {k : Nat} {L : List (Int × Int)} (hk : 1048576 < k) (hl : L.length ≤ 1048576) (h : Fwd L) : spec_WorstCost.f k L = some (worst L 0, true) := by
  have h60 := h.2.2
  refine ok_eq ?_
  unfold spec_WorstCost.f
  rw [forward_s hl hk, B_yes h]
  refine ok_let ?_
  rw [if_neg (fun h => h rfl), if_pos rfl, w64_id (z := (L.length : Int) + 1) (by omega) (by omega), if_pos (by omega), if_pos (by omega), w64_id (by omega) (by omega)]
  refine ok_let ?_
  have en : ((L.length : Int) + 1).toNat = L.length + 1 := by omega
  rw [en]
  refine ok_loop (L := spec_WorstCost.l1 k) (I := fun d s => ∃ T : List Int, s = ((d : Int) - 1, L, T, ()) ∧ T.length = L.length + 1 ∧ d ≤ L.length ∧ ∀ j, d ≤ j → j < L.length + 1 → el I1 T j = worst L j) ?_ k L.length _ (by omega) ⟨_, rfl, List.length_replicate .., Nat.le_refl _, fun j h1 h2 => ?_⟩
  · rintro d n s ⟨T, rfl, hT, hd, hq⟩ ih
    rw [spec_WorstCost.l1]
    cases d with
    | zero =>
      rw [if_neg (by omega), if_pos (by omega), if_pos (by omega)]
      exact ok_some (by rw [show el (.int .i64) T 0 = worst L 0 from hq 0 (by omega) (by omega)])
    | succ i =>
      have e : (((i + 1 : Nat) : Int) - 1) = (i : Int) := by omega
      have hi : i < L.length := by omega
      have c0 : (0 : Int) ≤ (i : Int) := by omega
      have c1 : (i : Int) < (L.length : Int) := by omega
      have c2 : w64 ((i : Int) + 1) = ((i + 1 : Nat) : Int) := w64_id (by omega) (by omega)
      have c3 : (0 : Int) ≤ ((i + 1 : Nat) : Int) := by omega
      have c4 : ((i + 1 : Nat) : Int) < (T.length : Int) := by omega
      rw [e]
      have hx := h.2.1 i hi
      have hgt := fwd_gt h hi
      have hw := worst_eq h hi
      have hn : el I1 T (i + 1) = worst L (i + 1) := hq (i + 1) (by omega) (by omega)
      have hw0 := worst_in h i
      obtain ⟨op, g, hxe⟩ : ∃ op g : Int, el C2 L i = (op, g) := ⟨_, _, rfl⟩
      rw [hxe] at hx hgt hw
      have hg := hx.2
      have ho := hx.1
      simp only at hg ho hgt
      have hco := cost_in op
      have put4 : ∀ z : Int, costM op + z = worst L i → Ok (spec_WorstCost.j4 k (spec_WorstCost.l1 k n) ((i : Int), z, op, g, L, T, ())) (fun r => r = (worst L 0, true)) := fun z hz => by
        rw [spec_WorstCost.j4, cost_s]
        refine ok_let ?_
        rw [if_pos c0, if_pos (by omega), hz, w64_id (by omega) (by omega), w64_id (by omega) (by omega)]
        exact ok_let (ih i _ (by omega) ⟨_, rfl, by rw [List.length_set]; exact hT, by omega, table_set hT (by omega) (fun j h1 h2 => hq j h1 h2)⟩)
      unfold wOf at hw
      simp only at hw
      have put2 : ∀ z : Int, (¬ op = 0 → costM op + z = worst L i) → Ok (spec_WorstCost.j2 k (spec_WorstCost.l1 k n) ((i : Int), z, op, g, L, T, ())) (fun r => r = (worst L 0, true)) := fun z hz => by
        rw [spec_WorstCost.j2]
        exact ok_if (fun h0 => put4 _ (by rw [hw, if_pos h0])) (fun h0 => put4 _ (hz h0))
      have put3 : (op = 9 ∨ op = 10) → ∀ z : Int, z = worst L g.toNat → Ok (spec_WorstCost.j3 k (spec_WorstCost.l1 k n) ((i : Int), worst L (i + 1), z, op, g, L, T, ())) (fun r => r = (worst L 0, true)) := fun hgo z hz => by
        rw [spec_WorstCost.j3]
        refine ok_if (fun h9 => put2 _ (fun h0 => ?_)) (fun h9 => ok_if (fun hlt => put2 _ (fun h0 => ?_)) (fun hlt => put2 _ (fun h0 => ?_)))
        · rw [hw, if_neg h0, if_pos h9, hz]
        · rw [hw, if_neg h0, if_neg h9, if_pos (hgo.resolve_left h9), ← hz]
          omega
        · rw [hw, if_neg h0, if_neg h9, if_pos (hgo.resolve_left h9), ← hz]
          omega
      have hgs : spec_l07Goes.f k (op, g) = some (decide (op = 9 ∨ op = 10)) := by
        unfold spec_l07Goes.f
        by_cases h : op = 9 <;> simp [h]
      simp only [c0, c1, c2, c3, c4, ↓reduceIte, Int.toNat_natCast, show el (.pair (.int .i64) (.int .i64)) L i = (op, g) from hxe, hgs, Option.bind_some, decide_eq_true_eq, show el (.int .i64) T (i + 1) = worst L (i + 1) from hn]
      refine ok_if (fun hgo => ok_if (fun hlt => ok_grd hg.1 (ok_grd (show g < (T.length : Int) by have h' : g < (L.length : Int) := hlt; omega) (put3 hgo _ ?_))) (fun hge => put3 hgo _ ?_)) (fun hgo => put2 _ (fun h0 => ?_))
      · exact hq g.toNat (by have := hgt hgo; omega) (by have h' : g < (L.length : Int) := hlt; omega)
      · rw [worst_end (by have h' : ¬ g < (L.length : Int) := hge; omega)]
      · rw [hw, if_neg h0, if_neg (fun h => hgo (.inl h)), if_neg (fun h => hgo (.inr h))]
  · obtain rfl : j = L.length := by omega
    rw [worst_end (Nat.le_refl _)]
    exact el_at (by rw [List.getElem?_replicate, if_pos (by omega)])
/-! ### runs -/
theorem doX_pc {pc op g : Int} {S a : List Int} {r : Int × Int} {time : Int} : (doX pc (op, g) S a r time).1.1 = if op = 9 then min g 60 else if op = 10 then (if top S = 0 then min g 60 else pc + 1) else pc + 1 := by
  unfold doX
  dsimp only
  by_cases h9 : op = 9
  · subst h9
    simp
  · by_cases h10 : op = 10
    · subst h10
      simp
    · rw [if_neg h9, if_neg h10]
      repeat' split
      all_goals first | rfl | (exfalso; omega)
theorem worst_min {L : List (Int × Int)} (h : Fwd L) {g : Int} (hg : 0 ≤ g) : worst L (min g 60).toNat = worst L g.toNat := by
  by_cases h60 : g ≤ 60
  · rw [Int.min_eq_left h60]
  · have := h.2.2
    rw [worst_end (by omega), worst_end (by omega)]
theorem run_worst {L : List (Int × Int)} {r : Int × Int} {m m' : Int} (h : Fwd L) : ∀ (f : Nat) (cost : Int) (c : Int × List Int) (a : List Int), CpuOk c → cost + worst L c.1.toNat ≤ m → cost + worst L c.1.toNat ≤ m' → runM L r m f cost c a = runM L r m' f cost c a ∧ (runM L r m f cost c a).1 ≤ cost + worst L c.1.toNat
  | 0, cost, c, a, hc, h1, h2 => ⟨rfl, by have := worst_in h c.1.toNat; show cost ≤ _; omega⟩
  | f + 1, cost, c, a, hc, h1, h2 => by
    rw [runM, runM]
    have hw0 := worst_in h c.1.toNat
    by_cases hp : c.1 < (L.length : Int)
    · have hp0 := hc.1.1
      have hi : c.1.toNat < L.length := by omega
      have hw := worst_eq h hi
      have hx := h.2.1 _ hi
      rw [if_pos hp, if_pos hp]
      obtain ⟨op, g, hxe⟩ : ∃ op g : Int, el C2 L c.1.toNat = (op, g) := ⟨_, _, rfl⟩
      rw [hxe] at hw hx ⊢
      have hg := hx.2
      simp only at hg ⊢
      have hco := cost_in op
      have hwn := worst_in h (c.1.toNat + 1)
      have hwg := worst_in h g.toNat
      have hle : costM op ≤ worst L c.1.toNat := by
        rw [hw]
        unfold wOf
        simp only
        split
        · omega
        · split
          · omega
          · split
            · omega
            · omega
      have n1 : ¬ m < cost + costM op := by omega
      have n2 : ¬ m' < cost + costM op := by omega
      rw [if_neg n1, if_neg n2]
      by_cases ht : trapM c L a r = 0
      · rw [if_pos ht, if_pos ht]
        by_cases h0 : op = 0
        · rw [if_pos h0, if_pos h0]
          exact ⟨rfl, by dsimp only; omega⟩
        · rw [if_neg h0, if_neg h0]
          obtain ⟨so, -⟩ := step_ok (time := 0) ht
          have hs : stepM c L a r 0 = doX c.1 (op, g) c.2 a r 0 := by
            unfold stepM
            rw [if_pos ht, hxe]
          have hpc : (stepM c L a r 0).1.1 = if op = 9 then min g 60 else if op = 10 then (if top c.2 = 0 then min g 60 else c.1 + 1) else c.1 + 1 := by rw [hs]; exact doX_pc
          generalize stepM c L a r 0 = s at so hpc
          cases hz : zerosM (ansM op) s.1 with
          | none => exact ⟨rfl, by dsimp only; omega⟩
          | some c' =>
            obtain ⟨ho, he⟩ := zeros_ok _ so hz
            have hn : costM op + worst L c'.1.toNat ≤ worst L c.1.toNat := by
              rw [he, hpc, hw]
              unfold wOf
              simp only
              rw [if_neg h0]
              have e1 : (c.1 + 1).toNat = c.1.toNat + 1 := by omega
              by_cases h9 : op = 9
              · rw [if_pos h9, if_pos h9, worst_min h hg.1]
                exact Int.le_refl _
              · rw [if_neg h9, if_neg h9]
                by_cases h10 : op = 10
                · rw [if_pos h10, if_pos h10]
                  split
                  · rw [worst_min h hg.1]
                    omega
                  · rw [e1]
                    omega
                · rw [if_neg h10, if_neg h10, e1]
                  exact Int.le_refl _
            have ih := run_worst (r := r) (m := m) (m' := m') h f (cost + costM op) c' s.2.1 ho (by omega) (by omega)
            exact ⟨ih.1, by have := ih.2; dsimp only; omega⟩
      · rw [if_neg ht, if_neg ht]
        exact ⟨rfl, by dsimp only; omega⟩
    · rw [if_neg hp, if_neg hp]
      exact ⟨rfl, by dsimp only; omega⟩
end Go.Proofs.Ytbnmhfglkbkbnaa.Pure
