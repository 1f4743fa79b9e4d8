/- The laws' own copies and comparisons of set-ups. No condition. -/
import Derived.Test.YtacpibmmodeacaaTSetup
namespace Go.Proofs.Ytacpibmmodeacaa.Pure
open Go Go.Proofs.YtacpibmmodeacaaA Go.Proofs.YtacpibmmodeacaaU Go.Proofs.Ytacpibmmodeacaa.QA
set_option linter.unusedVariables false
set_option linter.unusedSimpArgs false
theorem szStringS_f {k : Nat} {xs : List ByteArray} {left : Int} (hk : 1048576 < k) (hx : xs.length ≤ 9223372036854775807) (hs : ∀ s, s ∈ xs → s.size ≤ 9223372036854775807) (h0 : 0 ≤ left) (h1 : left ≤ 1048576) : Ok (laws_szStringS.f k xs left) (fun r => 0 ≤ r → r ≤ left ∧ xs.length ≤ 1048576 ∧ ∀ s, s ∈ xs → s.size ≤ 1048576) := by
  unfold laws_szStringS.f
  rw [w64_id (z := left - (xs.length : Int)) (by omega) (by omega)]
  refine ok_if (fun _ => ok_some (fun h => absurd h (by omega))) (fun hl => ?_)
  refine ok_loop (L := laws_szStringS.l1 k) (I := fun d t => ∃ (j : Nat) (y : Int), t = (y, (j : Int), xs, ()) ∧ j + d = xs.length ∧ 0 ≤ y ∧ y ≤ left ∧ ∀ i, i < j → (el .str xs i).size ≤ 1048576) ?_ k xs.length _ (by omega) ⟨0, _, rfl, by omega, by omega, by omega, fun i hi => absurd hi (by omega)⟩
  rintro d n t ⟨j, y, rfl, hd, hy0, hy1, hq⟩ ih
  rw [laws_szStringS.l1]
  refine ok_if (fun hc => ok_grd (by omega) (ok_grd hc ?_)) (fun hc => ok_some (fun _ => ⟨hy1, by omega, fun s hs' => ?_⟩))
  · have hj : j < xs.length := by omega
    have hz := hs _ (el_mem (t := .str) hj)
    have c4 : w64 ((j : Int) + 1) = ((j + 1 : Nat) : Int) := w64_id (by omega) (by omega)
    simp only [Int.toNat_natCast, c4]
    obtain ⟨z, hze⟩ : ∃ z : Nat, (el .str xs j).size = z := ⟨_, rfl⟩
    simp only [hze] at hz ⊢
    rw [w64_id (z := y - (z : Int)) (by omega) (by omega)]
    exact ok_if (fun _ => ok_some (fun h => absurd h (by omega))) (fun hz2 => ih (d - 1) _ (by omega) ⟨j + 1, _, rfl, by omega, by omega, by omega, allS hq (by omega)⟩)
  · obtain ⟨i, hi, rfl⟩ := List.mem_iff_getElem.1 hs'
    have := hq i (by omega)
    rw [el_at (t := .str) (List.getElem?_eq_getElem hi)] at this
    exact this
abbrev SetupTy (a b c d e : Nat) : Ty := .pair (.sl a W2) (.pair (.sl b W2) (.pair (.sl c P5) (.pair (.sl d R3) (.sl e .str))))
/-- A set-up of which nothing is too long. -/
structure Lim (s : Setup) : Prop extends Small s where
  f : ∀ x, x ∈ s.2.2.2.2 → x.size ≤ 1048576
theorem szSetup_f {k : Nat} {s : Setup} {left : Int} (hk : 1048576 < k) (hx : Wf (SetupTy 0 0 0 0 0) s) (h0 : 0 ≤ left) (h1 : left ≤ 1048576) : Ok (laws_szSetup.f k s left) (fun r => 0 ≤ r → r ≤ left ∧ Lim s) := by
  obtain ⟨R, W, P, U, C⟩ := s
  obtain ⟨w1, w2, w3, w4, w5⟩ := hx
  unfold laws_szSetup.f
  refine ok_bind (szRegionS_f (xs := R) w1.2 h0 h1) (fun r1 q1 => ok_if (fun _ => ok_some (fun h => absurd h (by omega))) (fun n1 => ?_))
  obtain ⟨a1, b1⟩ := q1 (by omega)
  refine ok_bind (szWindowS_f (xs := W) w2.2 (by omega) (by omega)) (fun r2 q2 => ok_if (fun _ => ok_some (fun h => absurd h (by omega))) (fun n2 => ?_))
  obtain ⟨a2, b2⟩ := q2 (by omega)
  refine ok_bind (szPortS_f (xs := P) w3.2 (by omega) (by omega)) (fun r3 q3 => ok_if (fun _ => ok_some (fun h => absurd h (by omega))) (fun n3 => ?_))
  obtain ⟨a3, b3⟩ := q3 (by omega)
  refine ok_bind (szRuleS_f (xs := U) w4.2 (by omega) (by omega)) (fun r4 q4 => ok_if (fun _ => ok_some (fun h => absurd h (by omega))) (fun n4 => ?_))
  obtain ⟨a4, b4⟩ := q4 (by omega)
  refine ok_bind (szStringS_f (xs := C) hk w5.2 (fun s hs => w5.1 s hs) (by omega) (by omega)) (fun r5 q5 => ok_if (fun _ => ok_some (fun h => absurd h (by omega))) (fun n5 => ok_some (fun h => ?_)))
  obtain ⟨a5, b5, c5⟩ := q5 (by omega)
  exact ⟨by omega, ⟨b1, b2, b3, b4, b5⟩, c5⟩
theorem toSetup_f {k : Nat} {s : Setup} (h : Lim s) (hk : 1048576 < k) : laws_toSetup.f k s = some s := by
  unfold laws_toSetup.f
  rw [toRegionS_f h.a hk, toWindowS_f h.b hk, toPortS_f h.c hk, toRuleS_f h.d hk, toStringS_f h.e hk]
  rfl
theorem eqSetup_f {k : Nat} {s : Setup} (h : Small s) (hk : 1048576 < k) : laws_eqSetup.f k s s = some true := by
  unfold laws_eqSetup.f
  rw [eqRegionS_f h.a hk, eqWindowS_f h.b hk, eqPortS_f h.c hk, eqRuleS_f h.d hk, eqStringS_f h.e hk]
  rfl
end Go.Proofs.Ytacpibmmodeacaa.Pure
