/- Code without loops. No condition. -/
import Derived.Test.YtcnaldcinkmpbaaTCpu
namespace Go.Proofs.Ytcnaldcinkmpbaa.Pure
open Go Go.Proofs.YtcnaldcinkmpbaaA Go.Proofs.YtcnaldcinkmpbaaU Go.Proofs.Ytcnaldcinkmpbaa.QA
set_option linter.unusedVariables false
theorem lt_no {a b : Int} (h1 : a < b) (h2 : b ≤ a) : False := by omega
def FwdX (i : Int) (x : Int × Int) : Prop := (x.1 = 9 ∨ x.1 = 10) → i < x.2
def FwdAt (L : List (Int × Int)) (i : Nat) : Prop := FwdX i (el C2 L i)
def Fwd (L : List (Int × Int)) : Prop := (∀ i, i < L.length → FwdAt L i) ∧ CodeOk L
theorem forward_i {k : Nat} {L : List (Int × Int)} (hl : L.length ≤ 1048576) (hk : 1048576 < k) : impl_Forward.f k L = some (B (Fwd L)) := by
  refine ok_eq ?_
  unfold impl_Forward.f
  refine ok_loop (L := impl_Forward.l1 k) (I := fun d s => ∃ j : Nat, s = ((L.length : Int), (j : Int), L, ()) ∧ j + d = L.length ∧ ∀ i, i < j → FwdAt L i) ?_ k L.length _ (by omega) ⟨0, rfl, by omega, fun i hi => absurd hi (by omega)⟩
  rintro d n s ⟨j, rfl, hd, hq⟩ ih
  rw [impl_Forward.l1]
  refine ok_if (fun hc => ok_grd (by omega) (ok_grd hc ?_)) (fun hc => ?_)
  · have h4 : w64 ((j : Int) + 1) = ((j + 1 : Nat) : Int) := w64_id (by omega) (by omega)
    simp only [h4, Int.toNat_natCast]
    have bad : ¬ FwdAt L j → Ok (some false) (fun r => r = B (Fwd L)) := fun h => ok_some (B_no (fun hr => h (hr.1 j (by omega)))).symm
    have go : FwdAt L j → Ok (impl_Forward.l1 k n ((L.length : Int), ((j + 1 : Nat) : Int), L, ())) (fun r => r = B (Fwd L)) := fun h => ih (d - 1) _ (by omega) ⟨j + 1, rfl, by omega, all_next hq h⟩
    obtain ⟨op, g, hxe⟩ : ∃ op g : Int, el C2 L j = (op, g) := ⟨_, _, rfl⟩
    unfold FwdAt at bad go
    rw [hxe] at bad go
    simp only [show el (.pair (.int .i64) (.int .i64)) L j = (op, g) from hxe]
    unfold FwdX at bad go
    simp only at bad go
    refine ok_if (fun h9 => ok_if (fun hle => bad (fun h => lt_no (h (.inl h9)) hle)) (fun hle => go (fun _ => Int.not_le.1 hle))) (fun h9 => ok_if (fun h10 => ok_if (fun hle => bad (fun h => lt_no (h (.inr h10)) hle)) (fun hle => go (fun _ => Int.not_le.1 hle))) (fun h10 => go (fun h => h.elim (fun h => absurd h h9) (fun h => absurd h h10))))
  · rw [codeOk_i hl hk]
    refine ok_let (ok_some (B_congr ⟨fun h => ⟨fun i hi => hq i (by omega), h⟩, fun h => h.2⟩))
theorem forward_s {k : Nat} {L : List (Int × Int)} (hl : L.length ≤ 1048576) (hk : 1048576 < k) : spec_Forward.f k L = some (B (Fwd L)) := by
  refine ok_eq ?_
  unfold spec_Forward.f
  refine ok_loop (L := spec_Forward.l1 k) (I := fun d s => ∃ j : Nat, s = ((j : Int), L, ()) ∧ j + d = L.length ∧ ∀ i, i < j → FwdAt L i) ?_ k L.length _ (by omega) ⟨0, rfl, by omega, fun i hi => absurd hi (by omega)⟩
  rintro d n s ⟨j, rfl, hd, hq⟩ ih
  rw [spec_Forward.l1]
  refine ok_if (fun hc => ok_grd (by omega) (ok_grd hc ?_)) (fun hc => ?_)
  · have h4 : w64 ((j : Int) + 1) = ((j + 1 : Nat) : Int) := w64_id (by omega) (by omega)
    have c0 : (0 : Int) ≤ (j : Int) := by omega
    simp only [h4, c0, hc, ↓reduceIte, Int.toNat_natCast]
    have bad : ¬ FwdAt L j → Ok (some false) (fun r => r = B (Fwd L)) := fun h => ok_some (B_no (fun hr => h (hr.1 j (by omega)))).symm
    have go : FwdAt L j → Ok (spec_Forward.l1 k n (((j + 1 : Nat) : Int), L, ())) (fun r => r = B (Fwd L)) := fun h => ih (d - 1) _ (by omega) ⟨j + 1, rfl, by omega, all_next hq h⟩
    obtain ⟨op, g, hxe⟩ : ∃ op g : Int, el C2 L j = (op, g) := ⟨_, _, rfl⟩
    unfold FwdAt at bad go
    rw [hxe] at bad go
    simp only [show el (.pair (.int .i64) (.int .i64)) L j = (op, g) from hxe]
    unfold FwdX at bad go
    simp only at bad go
    have hgo : spec_l07Goes.f k (op, g) = some (decide (op = 9 ∨ op = 10)) := by
      unfold spec_l07Goes.f
      by_cases h : op = 9 <;> simp [h]
    rw [hgo]
    refine ok_let (ok_if (fun h9 => ok_if (fun hle => bad (fun h => lt_no (h (of_decide_eq_true h9)) hle)) (fun hle => go (fun _ => Int.not_le.1 hle))) (fun h9 => go (fun h => absurd (decide_eq_true h) h9)))
  · rw [codeOk_s hl hk]
    refine ok_let (ok_some (B_congr ⟨fun h => ⟨fun i hi => hq i (by omega), h⟩, fun h => h.2⟩))
end Go.Proofs.Ytcnaldcinkmpbaa.Pure
