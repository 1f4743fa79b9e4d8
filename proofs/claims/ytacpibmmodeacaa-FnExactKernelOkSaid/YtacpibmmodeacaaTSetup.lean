/- Set-ups: their faults. No condition. -/
import Derived.Test.YtacpibmmodeacaaTPortO
import Derived.Test.YtacpibmmodeacaaTHealth
import Derived.Test.YtacpibmmodeacaaTPlan
namespace Go.Proofs.Ytacpibmmodeacaa.Pure
open Go Go.Proofs.YtacpibmmodeacaaA Go.Proofs.YtacpibmmodeacaaU Go.Proofs.Ytacpibmmodeacaa.QA
set_option linter.unusedVariables false
set_option linter.unusedSimpArgs false
abbrev P5 : Ty := .pair (.int .i64) (.pair (.int .i64) (.pair (.int .i64) (.pair (.int .i64) (.int .i64))))
abbrev Setup := List (Int × Int) × List (Int × Int) × List Port5 × List (Int × Int × Int) × List ByteArray
theorem allS {p : Nat → Prop} {j : Nat} (h : ∀ i, i < j → p i) (hj : p j) : ∀ i, i < j + 1 → p i := fun i hi => by
  rcases Nat.lt_or_ge i j with h' | h'
  · exact h i h'
  · obtain rfl : i = j := by omega
    exact hj
/-! ### regions -/
def RegIn (r : Int × Int) : Prop := 0 ≤ r.1 ∧ 1 ≤ r.2 ∧ r.2 ≤ 64 ∧ r.1 ≤ 64 - r.2
def Over (r o : Int × Int) : Prop := r.1 < o.1 + o.2 ∧ o.1 < r.1 + r.2
def RegAt (L : List (Int × Int)) (i : Nat) : Prop := RegIn (el W2 L i) ∧ ∀ j, j < i → ¬ Over (el W2 L i) (el W2 L j)
def RegionsOk (L : List (Int × Int)) : Prop := (∀ i, i < L.length → RegAt L i) ∧ 1 ≤ L.length ∧ L.length ≤ 4
theorem regionsOk_i {k : Nat} {L : List (Int × Int)} (hl : L.length ≤ 1048576) (hk : 1048576 < k) : impl_RegionsOk.f k L = some (B (RegionsOk L)) := by
  refine ok_eq ?_
  unfold impl_RegionsOk.f
  refine ok_loop (L := impl_RegionsOk.l1 k) (I := fun d s => ∃ j : Nat, s = ((L.length : Int), (j : Int), L, ()) ∧ j + d = L.length ∧ ∀ i, i < j → RegAt L i) ?_ k L.length _ (by omega) ⟨0, rfl, by omega, fun i hi => absurd hi (by omega)⟩
  rintro d n s ⟨j, rfl, hd, hq⟩ ih
  rw [impl_RegionsOk.l1]
  refine ok_if (fun hc => ?_) (fun hc => ?_)
  · have hj : j < L.length := by omega
    have c0 : (0 : Int) ≤ (j : Int) := by omega
    have c1 : (j : Int) ≤ (L.length : Int) := by omega
    have h4 : w64 ((j : Int) + 1) = ((j + 1 : Nat) : Int) := w64_id (by omega) (by omega)
    have bad : ¬ RegAt L j → Ok (some false) (fun r => r = B (RegionsOk L)) := fun h => ok_some (B_no (fun hr => h (hr.1 j hj))).symm
    have go : RegAt L j → Ok (impl_RegionsOk.l1 k n ((L.length : Int), ((j + 1 : Nat) : Int), L, ())) (fun r => r = B (RegionsOk L)) := fun h => ih (d - 1) _ (by omega) ⟨j + 1, rfl, by omega, allS hq h⟩
    obtain ⟨fr, z, hxe⟩ : ∃ fr z : Int, el W2 L j = (fr, z) := ⟨_, _, rfl⟩
    unfold RegAt at bad go
    rw [hxe] at bad go
    simp only [c0, c1, hc, ↓reduceIte, Int.toNat_natCast, show el (.pair (.int .i64) (.int .i64)) L j = (fr, z) from hxe]
    refine ok_if (fun (h1 : fr < (0 : Int)) => bad (fun h => ?_)) (fun (h1 : ¬ fr < (0 : Int)) => ok_if (fun (h2 : z < (1 : Int)) => bad (fun h => ?_)) (fun (h2 : ¬ z < (1 : Int)) => ok_if (fun (h3 : (64 : Int) < z) => bad (fun h => ?_)) (fun (h3 : ¬ (64 : Int) < z) => ?_)))
    · have := h.1.1; dsimp only at this; omega
    · have := h.1.2.1; dsimp only at this; omega
    · have := h.1.2.2.1; dsimp only at this; omega
    · rw [w64_id (z := 64 - z) (by omega) (by omega)]
      refine ok_if (fun (h5 : 64 - z < fr) => bad (fun h => ?_)) (fun (h5 : ¬ 64 - z < fr) => ?_)
      · have := h.1.2.2.2; dsimp only at this; omega
      · have hin : RegIn (fr, z) := ⟨by dsimp only; omega, by dsimp only; omega, by dsimp only; omega, by dsimp only; omega⟩
        have htl : (L.take j).length = j := by rw [List.length_take]; omega
        refine ok_loop (L := impl_RegionsOk.l2 k (impl_RegionsOk.l1 k n)) (I := fun e s => ∃ i : Nat, s = ((L.length : Int), (j : Int), ((j : Nat) : Int), (i : Int), fr, z, L, L.take j, ()) ∧ i + e = j ∧ ∀ i', i' < i → ¬ Over (fr, z) (el W2 L i')) ?_ k j _ (by omega) ⟨0, rfl, by omega, fun i hi => absurd hi (by omega)⟩
        rintro e n' s ⟨i, rfl, he, hi⟩ ih2
        rw [impl_RegionsOk.l2]
        refine ok_if (fun hc2 => ?_) (fun hc2 => ?_)
        · have hij : i < j := by omega
          have c2 : (0 : Int) ≤ (i : Int) := by omega
          have c3 : (i : Int) < ((L.take j).length : Int) := by omega
          have c4 : w64 ((i : Int) + 1) = ((i + 1 : Nat) : Int) := w64_id (by omega) (by omega)
          have et : el W2 (L.take j) i = el W2 L i := el_at (t := W2) (by rw [List.getElem?_take, if_pos hij]; exact el_lt (t := W2) (by omega))
          obtain ⟨f2, z2, hx2⟩ : ∃ f2 z2 : Int, el W2 L i = (f2, z2) := ⟨_, _, rfl⟩
          have hin2 := (hq i hij).1
          rw [hx2] at hin2
          obtain ⟨q1, q2, q3, q4⟩ := hin2
          obtain ⟨p1, p2, p3, p4⟩ := hin
          simp only at q1 q2 q3 q4 p1 p2 p3 p4
          simp only [c2, c3, c4, ↓reduceIte, Int.toNat_natCast, show el (.pair (.int .i64) (.int .i64)) (L.take j) i = (f2, z2) from et.trans hx2]
          rw [w64_id (z := f2 + z2) (by omega) (by omega), w64_id (z := fr + z) (by omega) (by omega)]
          have go2 : ¬ Over (fr, z) (f2, z2) → Ok (impl_RegionsOk.l2 k (impl_RegionsOk.l1 k n) n' ((L.length : Int), (j : Int), ((j : Nat) : Int), ((i + 1 : Nat) : Int), fr, z, L, L.take j, ())) (fun r => r = B (RegionsOk L)) := fun h => ih2 (e - 1) _ (by omega) ⟨i + 1, rfl, by omega, allS hi (by rw [hx2]; exact h)⟩
          refine ok_if (fun o1 => ok_if (fun o2 => bad (fun h => h.2 i hij (by rw [hx2]; exact ⟨o1, o2⟩))) (fun o2 => go2 (fun h => o2 h.2))) (fun o1 => go2 (fun h => o1 h.1))
        · rw [h4]
          exact go ⟨hin, fun i' hi' => hi i' (by omega)⟩
  · rw [in_i]
    refine ok_let (ok_some (B_of (decide_eq_true_iff.trans ⟨fun h => ⟨fun i hi => hq i (by omega), by omega, by omega⟩, fun h => ?_⟩)))
    have := h.2
    omega
theorem regionsOk_s {k : Nat} {L : List (Int × Int)} (hl : L.length ≤ 1048576) (hk : 1048576 < k) : spec_RegionsOk.f k L = some (B (RegionsOk L)) := by
  refine ok_eq ?_
  unfold spec_RegionsOk.f
  refine ok_loop (L := spec_RegionsOk.l1 k) (I := fun d s => ∃ j : Nat, s = ((j : Int), L, ()) ∧ j + d = L.length ∧ ∀ i, i < j → RegAt L i) ?_ k L.length _ (by omega) ⟨0, rfl, by omega, fun i hi => absurd hi (by omega)⟩
  rintro d n s ⟨j, rfl, hd, hq⟩ ih
  rw [spec_RegionsOk.l1]
  refine ok_if (fun hc => ?_) (fun hc => ?_)
  · have hj : j < L.length := by omega
    have c0 : (0 : Int) ≤ (j : Int) := by omega
    have h4 : w64 ((j : Int) + 1) = ((j + 1 : Nat) : Int) := w64_id (by omega) (by omega)
    have bad : ¬ RegAt L j → Ok (some false) (fun r => r = B (RegionsOk L)) := fun h => ok_some (B_no (fun hr => h (hr.1 j hj))).symm
    have go : RegAt L j → Ok (spec_RegionsOk.l1 k n (((j + 1 : Nat) : Int), L, ())) (fun r => r = B (RegionsOk L)) := fun h => ih (d - 1) _ (by omega) ⟨j + 1, rfl, by omega, allS hq h⟩
    obtain ⟨fr, z, hxe⟩ : ∃ fr z : Int, el W2 L j = (fr, z) := ⟨_, _, rfl⟩
    unfold RegAt at bad go
    rw [hxe] at bad go
    simp only [c0, hc, ↓reduceIte, Int.toNat_natCast, show el (.pair (.int .i64) (.int .i64)) L j = (fr, z) from hxe, in_s, Option.bind_some, decide_eq_true_eq]
    refine ok_if (fun h1 => bad (fun h => ?_)) (fun h1 => ?_)
    · obtain ⟨p1, p2, p3, p4⟩ := h.1
      simp only at p1 p2 p3 p4
      omega
    · have h1' := Classical.not_not.1 h1
      rw [w64_id (z := 64 - fr) (by omega) (by omega)]
      refine ok_if (fun h2 => bad (fun h => ?_)) (fun h2 => ?_)
      · obtain ⟨p1, p2, p3, p4⟩ := h.1
        simp only at p1 p2 p3 p4
        omega
      · have hin : RegIn (fr, z) := ⟨by dsimp only; omega, by dsimp only; omega, by dsimp only; omega, by dsimp only; omega⟩
        refine ok_loop (L := spec_RegionsOk.l2 k (spec_RegionsOk.l1 k n)) (I := fun e s => ∃ i : Nat, s = ((j : Int), (i : Int), fr, z, L, ()) ∧ i + e = j ∧ ∀ i', i' < i → ¬ Over (fr, z) (el W2 L i')) ?_ k j _ (by omega) ⟨0, rfl, by omega, fun i hi => absurd hi (by omega)⟩
        rintro e n' s ⟨i, rfl, he, hi⟩ ih2
        rw [spec_RegionsOk.l2]
        refine ok_if (fun hc2 => ?_) (fun hc2 => ?_)
        · have hij : i < j := by omega
          have c2 : (0 : Int) ≤ (i : Int) := by omega
          have c3 : (i : Int) < (L.length : Int) := by omega
          have c4 : w64 ((i : Int) + 1) = ((i + 1 : Nat) : Int) := w64_id (by omega) (by omega)
          obtain ⟨f2, z2, hx2⟩ : ∃ f2 z2 : Int, el W2 L i = (f2, z2) := ⟨_, _, rfl⟩
          have hin2 := (hq i hij).1
          rw [hx2] at hin2
          obtain ⟨q1, q2, q3, q4⟩ := hin2
          obtain ⟨p1, p2, p3, p4⟩ := hin
          simp only at q1 q2 q3 q4 p1 p2 p3 p4
          simp only [c2, c3, c4, ↓reduceIte, Int.toNat_natCast, show el (.pair (.int .i64) (.int .i64)) L i = (f2, z2) from hx2]
          rw [w64_id (z := f2 + z2) (by omega) (by omega), w64_id (z := fr + z) (by omega) (by omega)]
          have go2 : ¬ Over (fr, z) (f2, z2) → Ok (spec_RegionsOk.l2 k (spec_RegionsOk.l1 k n) n' ((j : Int), ((i + 1 : Nat) : Int), fr, z, L, ())) (fun r => r = B (RegionsOk L)) := fun h => ih2 (e - 1) _ (by omega) ⟨i + 1, rfl, by omega, allS hi (by rw [hx2]; exact h)⟩
          refine ok_if (fun o1 => ok_if (fun o2 => bad (fun h => h.2 i hij (by rw [hx2]; exact ⟨o1, o2⟩))) (fun o2 => go2 (fun h => o2 h.2))) (fun o1 => go2 (fun h => o1 h.1))
        · rw [h4]
          exact go ⟨hin, fun i' hi' => hi i' (by omega)⟩
  · rw [in_s]
    refine ok_let (ok_some (B_of (decide_eq_true_iff.trans ⟨fun h => ⟨fun i hi => hq i (by omega), by omega, by omega⟩, fun h => ?_⟩)))
    have := h.2
    omega
theorem planOk_s {k : Nat} {L : List (Int × Int)} (hl : L.length ≤ 1048576) (hk : 1048576 < k) : spec_PlanOk.f k L = some (B (PlanOk L)) := by
  refine ok_eq ?_
  unfold spec_PlanOk.f
  refine ok_loop (L := spec_PlanOk.l1 k) (I := fun d s => ∃ j : Nat, s = ((j : Int), L, ()) ∧ j + d = L.length ∧ ∀ i, i < j → WinOk (el W2 L i)) ?_ k L.length _ (by omega) ⟨0, rfl, by omega, fun i hi => absurd hi (by omega)⟩
  rintro d n s ⟨j, rfl, hd, hq⟩ ih
  rw [spec_PlanOk.l1]
  refine ok_if (fun hc => ?_) (fun hc => ?_)
  · have c0 : (0 : Int) ≤ (j : Int) := by omega
    have h4 : w64 ((j : Int) + 1) = ((j + 1 : Nat) : Int) := w64_id (by omega) (by omega)
    simp only [c0, hc, ↓reduceIte, Int.toNat_natCast, in_s, h4, Option.bind_some, decide_eq_true_eq]
    have bad : ¬ WinOk (el W2 L j) → Ok (some false) (fun r => r = B (PlanOk L)) := fun h => ok_some (B_no (fun hr => h (hr.1 j (by omega)))).symm
    refine ok_if (fun h => bad (fun g => h g.1)) (fun h1 => ok_if (fun h => bad (fun g => h g.2)) (fun h2 => ?_))
    exact ih (d - 1) _ (by omega) ⟨j + 1, rfl, by omega, allS hq ⟨Classical.not_not.1 h1, Classical.not_not.1 h2⟩⟩
  · rw [in_s]
    refine ok_let (ok_some (B_of (decide_eq_true_iff.trans ⟨fun h => ⟨fun i hi => hq i (by omega), by omega, by omega⟩, fun h => ?_⟩)))
    have := h.2
    omega
/-! ### codes -/
def CodeRead (s : ByteArray) : Prop := s.size % 2 = 0 ∧ s.size ≤ 120
/-- The instructions that stand in a text's bytes. -/
def insOf (s : ByteArray) (n : Nat) : List (Int × Int) := (List.range n).map fun i => (bt s ((2 * i : Nat) : Int), bt s ((2 * i + 1 : Nat) : Int))
theorem insOf_len (s : ByteArray) (n : Nat) : (insOf s n).length = n := by simp [insOf]
theorem insOf_next (s : ByteArray) (n : Nat) : insOf s (n + 1) = insOf s n ++ [(bt s ((2 * n : Nat) : Int), bt s ((2 * n + 1 : Nat) : Int))] := by simp [insOf, List.range_succ]
noncomputable def readM (s : ByteArray) : List (Int × Int) × Bool := if B (CodeRead s) = true then (insOf s (s.size / 2), true) else ([], false)
theorem bt_in (s : ByteArray) (i : Int) : 0 ≤ bt s i ∧ bt s i ≤ 255 := by
  unfold bt
  have := (s.toList.getD i.toNat 0).toNat_lt
  omega
theorem tmod2 (n : Nat) : (Int.tmod (n : Int) 2 = 0) ↔ n % 2 = 0 := by
  rw [Int.tmod_eq_emod_of_nonneg (by omega)]
  omega
theorem read_i {k : Nat} {s : ByteArray} (hk : 1048576 < k) : impl_ReadCode.f k s = some (readM s) := by
  refine ok_eq ?_
  unfold impl_ReadCode.f readM
  refine ok_if (fun h => ok_some ?_) (fun h1 => ok_if (fun h => ok_some ?_) (fun h2 => ok_let ?_))
  · rw [B_no (fun g => h ((tmod2 _).2 g.1))]
    rfl
  · rw [B_no (fun g => by have := g.2; omega)]
    rfl
  · have h0 : s.size % 2 = 0 := (tmod2 _).1 (Classical.not_not.1 h1)
    rw [B_yes ⟨h0, by omega⟩, if_pos rfl]
    refine ok_loop (L := impl_ReadCode.l1 k) (I := fun d t => ∃ j : Nat, t = (s, ((2 * j : Nat) : Int), insOf s j, ()) ∧ j + d = s.size / 2) ?_ k (s.size / 2) _ (by omega) ⟨0, rfl, by omega⟩
    rintro d n t ⟨j, rfl, hd⟩ ih
    rw [impl_ReadCode.l1]
    refine ok_if (fun hc => ?_) (fun hc => ok_some ?_)
    · have c0 : (0 : Int) ≤ ((2 * j : Nat) : Int) := by omega
      have c1 : w64 (((2 * j : Nat) : Int) + 1) = ((2 * j + 1 : Nat) : Int) := by rw [w64_id (by omega) (by omega)]; omega
      have c2 : (0 : Int) ≤ ((2 * j + 1 : Nat) : Int) := by omega
      have c3 : ((2 * j + 1 : Nat) : Int) < (s.size : Int) := by omega
      have c4 : w64 (((2 * j : Nat) : Int) + 2) = ((2 * (j + 1) : Nat) : Int) := by rw [w64_id (by omega) (by omega)]; omega
      have b1 := bt_in s ((2 * j : Nat) : Int)
      have b2 := bt_in s ((2 * j + 1 : Nat) : Int)
      have hl := insOf_len s j
      simp only [c0, hc, c1, c2, c3, c4, ↓reduceIte, Option.bind_some, List.length_cons, List.length_nil]
      rw [w64_id (z := bt s ((2 * j : Nat) : Int)) (by omega) (by omega), w64_id (z := bt s ((2 * j + 1 : Nat) : Int)) (by omega) (by omega), if_pos (by omega), ← insOf_next]
      exact ih (d - 1) _ (by omega) ⟨j + 1, rfl, by omega⟩
    · obtain rfl : j = s.size / 2 := by omega
      rfl
theorem read_s {k : Nat} {s : ByteArray} (hk : 1048576 < k) : spec_ReadCode.f k s = some (readM s) := by
  have hl : ∀ n t, spec_ReadCode.l1 k n t = impl_ReadCode.l1 k n t := by
    intro n
    induction n with
    | zero => intro t; rfl
    | succ n ih =>
      rintro ⟨a, b, c, u⟩
      simp only [spec_ReadCode.l1, impl_ReadCode.l1, ih]
  rw [← read_i (s := s) hk]
  unfold spec_ReadCode.f impl_ReadCode.f
  simp only [Option.bind_some, hl]
def CodesOk (L : List ByteArray) (n : Int) : Prop := (∀ i, i < L.length → CodeRead (el .str L i)) ∧ (L.length : Int) = n
theorem codesOk_i {k : Nat} {L : List ByteArray} {n : Int} (hl : L.length ≤ 1048576) (hk : 1048576 < k) : impl_codesOk.f k L n = some (B (CodesOk L n)) := by
  refine ok_eq ?_
  unfold impl_codesOk.f
  refine ok_loop (L := impl_codesOk.l1 k) (I := fun d s => ∃ j : Nat, s = (n, (L.length : Int), (j : Int), L, ()) ∧ j + d = L.length ∧ ∀ i, i < j → CodeRead (el .str L i)) ?_ k L.length _ (by omega) ⟨0, rfl, by omega, fun i hi => absurd hi (by omega)⟩
  rintro d m s ⟨j, rfl, hd, hq⟩ ih
  rw [impl_codesOk.l1]
  refine ok_if (fun hc => ok_grd (by omega) (ok_grd hc ?_)) (fun hc => ok_some (B_of (decide_eq_true_iff.trans ⟨fun h => ⟨fun i hi => hq i (by omega), h⟩, fun h => h.2⟩)))
  have h4 : w64 ((j : Int) + 1) = ((j + 1 : Nat) : Int) := w64_id (by omega) (by omega)
  rw [read_i hk, h4]
  simp only [Int.toNat_natCast, Option.bind_some]
  by_cases h : CodeRead (el .str L j)
  · have e : (readM (el .str L j)).2 = true := by
      unfold readM
      rw [B_yes h, if_pos rfl]
    rw [if_neg (fun g => g e)]
    exact ih (d - 1) _ (by omega) ⟨j + 1, rfl, by omega, allS hq h⟩
  · have e : (readM (el .str L j)).2 = false := by
      unfold readM
      rw [B_no h]
      rfl
    rw [if_pos (by rw [e]; simp)]
    exact ok_some (B_no (fun g => h (g.1 j (by omega)))).symm
/-! ### ports and parts -/
def PortsOk (L : List Port5) : Prop := (∀ i, i < L.length → PortOk (el P5 L i)) ∧ L.length ≤ 6
theorem portsOk_i {k : Nat} {L : List Port5} (hl : L.length ≤ 1048576) (hk : 1048576 < k) : impl_portsOk.f k L = some (B (PortsOk L)) := by
  refine ok_eq ?_
  unfold impl_portsOk.f
  refine ok_loop (L := impl_portsOk.l1 k) (I := fun d s => ∃ j : Nat, s = ((L.length : Int), (j : Int), L, ()) ∧ j + d = L.length ∧ ∀ i, i < j → PortOk (el P5 L i)) ?_ k L.length _ (by omega) ⟨0, rfl, by omega, fun i hi => absurd hi (by omega)⟩
  rintro d m s ⟨j, rfl, hd, hq⟩ ih
  rw [impl_portsOk.l1]
  refine ok_if (fun hc => ok_grd (by omega) (ok_grd hc ?_)) (fun hc => ok_some (B_of (decide_eq_true_iff.trans ⟨fun h => ⟨fun i hi => hq i (by omega), by omega⟩, fun h => by have := h.2; omega⟩)))
  have h4 : w64 ((j : Int) + 1) = ((j + 1 : Nat) : Int) := w64_id (by omega) (by omega)
  rw [portOk_i, h4]
  simp only [Int.toNat_natCast]
  refine ok_let (ok_if (fun h => ok_some (B_no (fun g => h (B_yes (g.1 j (by omega))))).symm) (fun h => ?_))
  exact ih (d - 1) _ (by omega) ⟨j + 1, rfl, by omega, allS hq (B_iff.1 (Classical.not_not.1 h))⟩
structure PartsOk (s : Setup) : Prop where
  wins : ∀ i, i < s.2.1.length → (el W2 s.2.1 i).1 ≤ (s.1.length : Int)
  pfr : ∀ i, i < s.2.2.1.length → (el P5 s.2.2.1 i).2.1 ≤ (s.1.length : Int)
  pto : ∀ i, i < s.2.2.1.length → (el P5 s.2.2.1 i).2.2.1 ≤ (s.1.length : Int)
  rls : ∀ i, i < s.2.2.2.1.length → (el R3 s.2.2.2.1 i).1 ≤ (s.1.length : Int)
theorem partsOk_i {k : Nat} {s : Setup} (h2 : s.2.1.length ≤ 1048576) (h3 : s.2.2.1.length ≤ 1048576) (h4 : s.2.2.2.1.length ≤ 1048576) (hk : 1048576 < k) : impl_partsOk.f k s = some (B (PartsOk s)) := by
  obtain ⟨R, W, P, U, C⟩ := s
  simp only at h2 h3 h4
  refine ok_eq ?_
  unfold impl_partsOk.f
  refine ok_loop (L := impl_partsOk.l1 k) (I := fun d t => ∃ (j : Nat) (x : Int), t = (x, (W.length : Int), (j : Int), R, W, P, U, C, ()) ∧ j + d = W.length ∧ (x ≤ (R.length : Int) ↔ ∀ i, i < j → (el W2 W i).1 ≤ (R.length : Int))) ?_ k W.length _ (by omega) ⟨0, 0, rfl, by omega, ⟨fun _ i hi => absurd hi (by omega), fun _ => by omega⟩⟩
  rintro d m t ⟨j, x, rfl, hd, hq⟩ ih
  rw [impl_partsOk.l1]
  refine ok_if (fun hc => ok_grd (by omega) (ok_grd hc ?_)) (fun hc => ?_)
  · have c4 : w64 ((j : Int) + 1) = ((j + 1 : Nat) : Int) := w64_id (by omega) (by omega)
    rw [c4]
    simp only [Int.toNat_natCast]
    refine ih (d - 1) _ (by omega) ⟨j + 1, _, rfl, by omega, Int.max_le.trans ⟨fun h => allS (hq.1 h.1) h.2, fun h => ⟨hq.2 (fun i hi => h i (by omega)), h j (by omega)⟩⟩⟩
  · have hq1 : x ≤ (R.length : Int) ↔ ∀ i, i < W.length → (el W2 W i).1 ≤ (R.length : Int) := by
      rw [hq, show j = W.length by omega]
    clear ih hq hc hd
    refine ok_loop (L := impl_partsOk.l2 k) (I := fun d t => ∃ (j : Nat) (y : Int), t = (y, (P.length : Int), (j : Int), R, W, P, U, C, ()) ∧ j + d = P.length ∧ (y ≤ (R.length : Int) ↔ x ≤ (R.length : Int) ∧ (∀ i, i < j → (el P5 P i).2.1 ≤ (R.length : Int)) ∧ ∀ i, i < j → (el P5 P i).2.2.1 ≤ (R.length : Int))) ?_ k P.length _ (by omega) ⟨0, x, rfl, by omega, ⟨fun h => ⟨h, fun i hi => absurd hi (by omega), fun i hi => absurd hi (by omega)⟩, fun h => h.1⟩⟩
    rintro d m' t ⟨j, y, rfl, hd, hq⟩ ih
    rw [impl_partsOk.l2]
    refine ok_if (fun hc => ok_grd (by omega) (ok_grd hc ?_)) (fun hc => ?_)
    · have c4 : w64 ((j : Int) + 1) = ((j + 1 : Nat) : Int) := w64_id (by omega) (by omega)
      rw [c4]
      simp only [Int.toNat_natCast]
      refine ih (d - 1) _ (by omega) ⟨j + 1, _, rfl, by omega, Int.max_le.trans ⟨fun h => ?_, fun h => ⟨Int.max_le.2 ⟨hq.2 ⟨h.1, fun i hi => h.2.1 i (by omega), fun i hi => h.2.2 i (by omega)⟩, h.2.1 j (by omega)⟩, h.2.2 j (by omega)⟩⟩⟩
      have h1 := Int.max_le.1 h.1
      have h2 := hq.1 h1.1
      exact ⟨h2.1, allS h2.2.1 h1.2, allS h2.2.2 h.2⟩
    · have hq2 : y ≤ (R.length : Int) ↔ x ≤ (R.length : Int) ∧ (∀ i, i < P.length → (el P5 P i).2.1 ≤ (R.length : Int)) ∧ ∀ i, i < P.length → (el P5 P i).2.2.1 ≤ (R.length : Int) := by
        rw [hq, show j = P.length by omega]
      clear ih hq hc hd
      refine ok_loop (L := impl_partsOk.l3 k) (I := fun d t => ∃ (j : Nat) (z : Int), t = (z, (U.length : Int), (j : Int), R, W, P, U, C, ()) ∧ j + d = U.length ∧ (z ≤ (R.length : Int) ↔ y ≤ (R.length : Int) ∧ ∀ i, i < j → (el R3 U i).1 ≤ (R.length : Int))) ?_ k U.length _ (by omega) ⟨0, y, rfl, by omega, ⟨fun h => ⟨h, fun i hi => absurd hi (by omega)⟩, fun h => h.1⟩⟩
      rintro d m'' t ⟨j, z, rfl, hd, hq⟩ ih
      rw [impl_partsOk.l3]
      refine ok_if (fun hc => ok_grd (by omega) (ok_grd hc ?_)) (fun hc => ok_some (B_of (decide_eq_true_iff.trans ?_)))
      · have c4 : w64 ((j : Int) + 1) = ((j + 1 : Nat) : Int) := w64_id (by omega) (by omega)
        rw [c4]
        simp only [Int.toNat_natCast]
        refine ih (d - 1) _ (by omega) ⟨j + 1, _, rfl, by omega, Int.max_le.trans ⟨fun h => ?_, fun h => ⟨hq.2 ⟨h.1, fun i hi => h.2 i (by omega)⟩, h.2 j (by omega)⟩⟩⟩
        have h2 := hq.1 h.1
        exact ⟨h2.1, allS h2.2 h.2⟩
      · rw [hq, show j = U.length by omega, hq2, hq1]
        exact ⟨fun h => ⟨h.1.1, h.1.2.1, h.1.2.2, h.2⟩, fun h => ⟨⟨h.wins, h.pfr, h.pto⟩, h.rls⟩⟩
theorem partsOk_s {k : Nat} {s : Setup} (h2 : s.2.1.length ≤ 1048576) (h3 : s.2.2.1.length ≤ 1048576) (h4 : s.2.2.2.1.length ≤ 1048576) (hk : 1048576 < k) : spec_l11Parts.f k s = some (if B (PartsOk s) = true then 0 else 6) := by
  obtain ⟨R, W, P, U, C⟩ := s
  simp only at h2 h3 h4
  refine ok_eq ?_
  unfold spec_l11Parts.f
  have no : ¬ PartsOk (R, W, P, U, C) → Ok (some (6 : Int)) (fun r => r = if B (PartsOk (R, W, P, U, C)) = true then 0 else 6) := fun h => ok_some (by rw [B_no h]; rfl)
  refine ok_loop (L := spec_l11Parts.l1 k) (I := fun d t => ∃ j : Nat, t = ((R.length : Int), (j : Int), R, W, P, U, C, ()) ∧ j + d = W.length ∧ ∀ i, i < j → (el W2 W i).1 ≤ (R.length : Int)) ?_ k W.length _ (by omega) ⟨0, rfl, by omega, fun i hi => absurd hi (by omega)⟩
  rintro d m t ⟨j, rfl, hd, hq⟩ ih
  rw [spec_l11Parts.l1]
  refine ok_if (fun hc => ok_grd (by omega) (ok_grd hc ?_)) (fun hc => ?_)
  · have c4 : w64 ((j : Int) + 1) = ((j + 1 : Nat) : Int) := w64_id (by omega) (by omega)
    rw [c4]
    simp only [Int.toNat_natCast]
    exact ok_if (fun h => no (fun g => Int.not_le.2 h (g.wins j (by dsimp only; omega)))) (fun h => ih (d - 1) _ (by omega) ⟨j + 1, rfl, by omega, allS hq (Int.not_lt.1 h)⟩)
  · have hq1 : ∀ i, i < W.length → (el W2 W i).1 ≤ (R.length : Int) := fun i hi => hq i (by omega)
    clear ih hq hc hd
    refine ok_loop (L := spec_l11Parts.l2 k) (I := fun d t => ∃ j : Nat, t = ((R.length : Int), (j : Int), R, W, P, U, C, ()) ∧ j + d = P.length ∧ (∀ i, i < j → (el P5 P i).2.1 ≤ (R.length : Int)) ∧ ∀ i, i < j → (el P5 P i).2.2.1 ≤ (R.length : Int)) ?_ k P.length _ (by omega) ⟨0, rfl, by omega, fun i hi => absurd hi (by omega), fun i hi => absurd hi (by omega)⟩
    rintro d m' t ⟨j, rfl, hd, hq, hq'⟩ ih
    rw [spec_l11Parts.l2]
    refine ok_if (fun hc => ok_grd (by omega) (ok_grd hc ?_)) (fun hc => ?_)
    · have c4 : w64 ((j : Int) + 1) = ((j + 1 : Nat) : Int) := w64_id (by omega) (by omega)
      rw [c4]
      simp only [Int.toNat_natCast]
      exact ok_if (fun h => no (fun g => Int.not_le.2 h (g.pfr j (by dsimp only; omega)))) (fun h => ok_grd (by omega) (ok_grd hc (ok_if (fun h' => no (fun g => Int.not_le.2 h' (g.pto j (by dsimp only; omega)))) (fun h' => ih (d - 1) _ (by omega) ⟨j + 1, rfl, by omega, allS hq (Int.not_lt.1 h), allS hq' (Int.not_lt.1 h')⟩))))
    · have hq2 : ∀ i, i < P.length → (el P5 P i).2.1 ≤ (R.length : Int) := fun i hi => hq i (by omega)
      have hq3 : ∀ i, i < P.length → (el P5 P i).2.2.1 ≤ (R.length : Int) := fun i hi => hq' i (by omega)
      clear ih hq hq' hc hd
      refine ok_loop (L := spec_l11Parts.l3 k) (I := fun d t => ∃ j : Nat, t = ((R.length : Int), (j : Int), R, W, P, U, C, ()) ∧ j + d = U.length ∧ ∀ i, i < j → (el R3 U i).1 ≤ (R.length : Int)) ?_ k U.length _ (by omega) ⟨0, rfl, by omega, fun i hi => absurd hi (by omega)⟩
      rintro d m'' t ⟨j, rfl, hd, hq⟩ ih
      rw [spec_l11Parts.l3]
      refine ok_if (fun hc => ok_grd (by omega) (ok_grd hc ?_)) (fun hc => ok_some ?_)
      · have c4 : w64 ((j : Int) + 1) = ((j + 1 : Nat) : Int) := w64_id (by omega) (by omega)
        rw [c4]
        simp only [Int.toNat_natCast]
        exact ok_if (fun h => no (fun g => Int.not_le.2 h (g.rls j (by dsimp only; omega)))) (fun h => ih (d - 1) _ (by omega) ⟨j + 1, rfl, by omega, allS hq (Int.not_lt.1 h)⟩)
      · rw [B_yes ⟨hq1, hq2, hq3, fun i hi => hq i (by dsimp only at hi; omega)⟩]
        rfl
/-! ### the fault -/
noncomputable def faultM (s : Setup) : Int :=
  if ¬ B (RegionsOk s.1) = true then 1 else if ¬ B (PlanOk s.2.1) = true then 2 else if ¬ B (PortsOk s.2.2.1) = true then 3 else if ¬ B (RulesOk s.2.2.2.1) = true then 4 else if ¬ B (CodesOk s.2.2.2.2 (s.1.length : Int)) = true then 5 else if ¬ B (PartsOk s) = true then 6 else 0
structure Small (s : Setup) : Prop where
  a : s.1.length ≤ 1048576
  b : s.2.1.length ≤ 1048576
  c : s.2.2.1.length ≤ 1048576
  d : s.2.2.2.1.length ≤ 1048576
  e : s.2.2.2.2.length ≤ 1048576
theorem fault_i {k : Nat} {s : Setup} (h : Small s) (hk : 1048576 < k) : impl_SetupFault.f k s = some (faultM s) := by
  unfold impl_SetupFault.f faultM
  rw [regionsOk_i h.a hk, planOk_i h.b hk, portsOk_i h.c hk, rulesOk_i h.d hk, codesOk_i h.e hk, partsOk_i h.b h.c h.d hk]
  simp only [Option.bind_some]
  repeat' split
  all_goals rfl
theorem fault_s {k : Nat} {s : Setup} (h : Small s) (hk : 1048576 < k) : spec_SetupFault.f k s = some (faultM s) := by
  obtain ⟨R, W, P, U, C⟩ := s
  obtain ⟨h1, h2, h3, h4, h5⟩ := h
  simp only at h1 h2 h3 h4 h5
  refine ok_eq ?_
  unfold spec_SetupFault.f faultM
  rw [regionsOk_s h1 hk, planOk_s h2 hk]
  simp only [Option.bind_some]
  refine ok_if (fun h => ok_some (by rw [if_pos h])) (fun g1 => ok_if (fun h => ok_some (by rw [if_neg g1, if_pos h])) (fun g2 => ?_))
  rw [if_neg g1, if_neg g2]
  have no : ¬ PortsOk P → Ok (some (3 : Int)) (fun r => r = if ¬ B (PortsOk P) = true then 3 else if ¬ B (RulesOk U) = true then 4 else if ¬ B (CodesOk C (R.length : Int)) = true then 5 else if ¬ B (PartsOk (R, W, P, U, C)) = true then 6 else 0) := fun h => ok_some (by rw [B_no h]; rfl)
  refine ok_loop (L := spec_SetupFault.l1 k) (I := fun d t => ∃ j : Nat, t = ((j : Int), R, W, P, U, C, ()) ∧ j + d = P.length ∧ (∀ i, i < j → PortOk (el P5 P i)) ∧ j ≤ 6) ?_ k P.length _ (by omega) ⟨0, rfl, by omega, fun i hi => absurd hi (by omega), by omega⟩
  rintro d m t ⟨j, rfl, hd, hq, hj6⟩ ih
  rw [spec_SetupFault.l1]
  refine ok_if (fun hc => ok_grd (by omega) (ok_grd hc ?_)) (fun hc => ?_)
  · have c4 : w64 ((j : Int) + 1) = ((j + 1 : Nat) : Int) := w64_id (by omega) (by omega)
    rw [portOk_s, c4]
    simp only [Int.toNat_natCast]
    refine ok_let (ok_if (fun h => no (fun g => h (B_yes (g.1 j (by omega))))) (fun h => ok_if (fun h6 => no (fun g => by have := g.2; omega)) (fun h6 => ?_)))
    exact ih (d - 1) _ (by omega) ⟨j + 1, rfl, by omega, allS hq (B_iff.1 (Classical.not_not.1 h)), by omega⟩
  · have hp : PortsOk P := ⟨fun i hi => hq i (by omega), by omega⟩
    rw [B_yes hp, if_neg (c := ¬ true = true) (fun h => h rfl), rulesOk_s h4 hk]
    clear ih hq hc hd
    refine ok_let (ok_if (fun h => ok_some (by rw [if_pos h])) (fun g4 => ?_))
    rw [if_neg g4]
    have no5 : ¬ CodesOk C (R.length : Int) → Ok (some (5 : Int)) (fun r => r = if ¬ B (CodesOk C (R.length : Int)) = true then 5 else if ¬ B (PartsOk (R, W, P, U, C)) = true then 6 else 0) := fun h => ok_some (by rw [B_no h]; rfl)
    refine ok_if (fun h => no5 (fun g => h g.2)) (fun g5 => ?_)
    refine ok_loop (L := spec_SetupFault.l2 k) (I := fun d t => ∃ j : Nat, t = ((j : Int), R, W, P, U, C, ()) ∧ j + d = C.length ∧ ∀ i, i < j → CodeRead (el .str C i)) ?_ k C.length _ (by omega) ⟨0, rfl, by omega, fun i hi => absurd hi (by omega)⟩
    rintro d m' t ⟨j, rfl, hd, hq⟩ ih
    rw [spec_SetupFault.l2]
    refine ok_if (fun hc => ok_grd (by omega) (ok_grd hc ?_)) (fun hc => ?_)
    · have c4 : w64 ((j : Int) + 1) = ((j + 1 : Nat) : Int) := w64_id (by omega) (by omega)
      rw [read_s hk, c4]
      simp only [Int.toNat_natCast, Option.bind_some]
      by_cases h : CodeRead (el .str C j)
      · have e : (readM (el .str C j)).2 = true := by
          unfold readM
          rw [B_yes h, if_pos rfl]
        rw [if_neg (fun g => g e)]
        exact ih (d - 1) _ (by omega) ⟨j + 1, rfl, by omega, allS hq h⟩
      · have e : (readM (el .str C j)).2 = false := by
          unfold readM
          rw [B_no h]
          rfl
        rw [if_pos (by rw [e]; simp)]
        exact no5 (fun g => h (g.1 j (by omega)))
    · have hcs : CodesOk C (R.length : Int) := ⟨fun i hi => hq i (by omega), Classical.not_not.1 g5⟩
      rw [B_yes hcs, if_neg (c := ¬ true = true) (fun h => h rfl), partsOk_s h2 h3 h4 hk]
      refine ok_let (ok_some ?_)
      by_cases hb : B (PartsOk (R, W, P, U, C)) = true
      · rw [if_pos hb, if_neg (fun h => h hb)]
      · rw [if_neg hb, if_pos hb]
end Go.Proofs.Ytacpibmmodeacaa.Pure
