/- The plain words and the plain law of FnSenses. No condition. -/
import Derived.Test.YtkabaommohhbgaaUWords
import Derived.Test.YtkabaommohhbgaaBQA
import Derived.Test.YtkabaommohhbgaaQFnSenses
/- Numbers within bounds, as both programs ask it. No condition. -/
namespace Go.Proofs.Ytkabaommohhbgaa.Pure
open Go Go.Proofs.YtkabaommohhbgaaA Go.Proofs.YtkabaommohhbgaaU Go.Proofs.Ytkabaommohhbgaa.QA
set_option linter.unusedVariables false
theorem in_i {k : Nat} (x lo hi : Int) : impl_within.f k x lo hi = some (decide (lo ≤ x ∧ x ≤ hi)) := by
 unfold impl_within.f
 by_cases h : lo ≤ x <;> simp [h]
end Go.Proofs.Ytkabaommohhbgaa.Pure
/- What is felt, and its names: sixteen sets. No condition. -/
namespace Go.Proofs.Ytkabaommohhbgaa.Pure
open Go Go.Proofs.YtkabaommohhbgaaA Go.Proofs.YtkabaommohhbgaaU Go.Proofs.Ytkabaommohhbgaa.QA
set_option linter.unusedVariables false
set_option linter.unusedSimpArgs false
theorem all16 {p : Nat → Bool} (h : (List.range 16).all p = true) {b : Nat} (hb : b < 16) : p b = true := List.all_eq_true.1 h b (List.mem_range.2 hb)
/-- The names of a set. -/
def nm (b : Nat) : ByteArray := (spec_SenseNames.f 1048577 (b : Int)).getD ⟨#[]⟩
theorem names_s {b : Nat} (hb : b < 16) : spec_SenseNames.f 1048577 (b : Int) = some (nm b) :=
 of_decide_eq_true (all16 (p := fun b => decide (spec_SenseNames.f 1048577 (b : Int) = some (nm b))) (by kernel_rfl) hb)
theorem names_i {b : Nat} (hb : b < 16) : impl_SenseNames.f 1048577 (b : Int) = some (nm b) :=
 of_decide_eq_true (all16 (p := fun b => decide (impl_SenseNames.f 1048577 (b : Int) = some (nm b))) (by kernel_rfl) hb)
theorem nat16 {x : Int} (h : 0 ≤ x ∧ x ≤ 15) : ∃ b : Nat, b < 16 ∧ x = (b : Int) := ⟨x.toNat, by omega, by omega⟩
theorem senseOk_i {k : Nat} (x : Int) : impl_SenseOk.f k x = some (decide (0 ≤ x ∧ x ≤ 15)) := by
 unfold impl_SenseOk.f
 rw [in_i]
 rfl
/-- The first set, from j on, that has these names. -/
def rd (x : ByteArray) : Nat → Nat → Int × Bool
 | 0, _ => (0, false)
 | d + 1, j => if nm j = x then ((j : Int), true) else rd x d (j + 1)
theorem reads_s {x : ByteArray} : ∀ (d j n : Nat), j + d = 16 → d < n → spec_ReadSense.l1 1048577 n (x, (j : Int), ()) = some (rd x d j)
 | d, j, 0, _, h => absurd h (by omega)
 | 0, j, n + 1, hj, _ => by
  rw [spec_ReadSense.l1, if_neg (by omega)]
  rfl
 | d + 1, j, n + 1, hj, hn => by
  have ih := reads_s (x := x) d (j + 1) n (by omega) (by omega)
  have hw : w64 ((j : Int) + 1) = ((j + 1 : Nat) : Int) := w_id (by omega) (by omega)
  rw [spec_ReadSense.l1, if_pos (by omega), names_s (by omega), hw, ih, rd]
  simp only [Option.bind_some]
  split <;> rfl
theorem reads_i {x : ByteArray} : ∀ (d j n : Nat), j + d = 16 → d < n → impl_ReadSense.l1 1048577 n (x, (j : Int), ()) = some (rd x d j)
 | d, j, 0, _, h => absurd h (by omega)
 | 0, j, n + 1, hj, _ => by
  rw [impl_ReadSense.l1, if_neg (by omega)]
  rfl
 | d + 1, j, n + 1, hj, hn => by
  have ih := reads_i (x := x) d (j + 1) n (by omega) (by omega)
  have hw : w64 ((j : Int) + 1) = ((j + 1 : Nat) : Int) := w_id (by omega) (by omega)
  rw [impl_ReadSense.l1, if_pos (by omega), names_i (by omega), hw, ih, rd]
  simp only [Option.bind_some]
  split <;> rfl
theorem read_s (x : ByteArray) : spec_ReadSense.f 1048577 x = some (rd x 16 0) := reads_s 16 0 1048577 (by omega) (by omega)
theorem read_i (x : ByteArray) : impl_ReadSense.f 1048577 x = some (rd x 16 0) := reads_i 16 0 1048577 (by omega) (by omega)
theorem rd_nm {b : Nat} (hb : b < 16) : rd (nm b) 16 0 = ((b : Int), true) :=
 of_decide_eq_true (all16 (p := fun b => decide (rd (nm b) 16 0 = ((b : Int), true))) (by kernel_rfl) hb)
end Go.Proofs.Ytkabaommohhbgaa.Pure
/- What a draw's cursor tells. No condition. -/
namespace Go.Proofs.Ytkabaommohhbgaa.Pure
open Go Go.Proofs.YtkabaommohhbgaaA Go.Proofs.YtkabaommohhbgaaU Go.Proofs.Ytkabaommohhbgaa.QA
set_option linter.unusedVariables false
/-- A cursor that stands within its bytes. -/
def Cur (c : List Int × Int × Int) : Prop := c.1.length ≤ 1048576 ∧ 0 ≤ c.2.1 ∧ c.2.1 ≤ (c.1.length : Int)
theorem and255 (x : Int) : 0 ≤ bits .and .i64 x 255 ∧ bits .and .i64 x 255 ≤ 255 := by
 have h : (BitVec.ofInt IntKind.i64.bits x &&& BitVec.ofInt IntKind.i64.bits 255).toNat ≤ 255 := by
  rw [BitVec.toNat_and]
  exact Nat.and_le_right
 have e : bits .and .i64 x 255 = IntKind.i64.wrap (((BitVec.ofInt IntKind.i64.bits x &&& BitVec.ofInt IntKind.i64.bits 255).toNat : Nat) : Int) := rfl
 rw [e, w_id (by omega) (by omega)]
 omega
theorem byte_ok {k : Nat} {c : List Int × Int × Int} (h : Cur c) : Ok (spec_l01Byte.f k c) (fun r => 0 ≤ r.1 ∧ r.1 ≤ 255 ∧ Cur (c.1, r.2.2)) := by
 obtain ⟨h1, h2, h3⟩ := h
 unfold spec_l01Byte.f
 refine ok_if (fun hc => ?_) (fun hc => ?_)
 ·rw [if_pos h2, if_pos hc]
  refine ok_some ⟨(and255 _).1, (and255 _).2, h1, ?_, ?_⟩
  ·show (0 : Int) ≤ w64 (c.2.1 + 1)
   rw [w64_id (by omega) (by omega)]
   omega
  ·show w64 (c.2.1 + 1) ≤ (c.1.length : Int)
   rw [w64_id (by omega) (by omega)]
   omega
 ·exact ok_some ⟨(and255 _).1, (and255 _).2, h1, h2, h3⟩
theorem below_ok {k : Nat} {c : List Int × Int × Int} {n : Int} (h : Cur c) : Ok (spec_l01Below.f k c n) (fun r => 0 ≤ r.1 ∧ (0 < n → r.1 < n) ∧ (n ≤ 0 → r.1 = 0) ∧ Cur (c.1, r.2.2)) := by
 have hm : ∀ a : Int, 0 ≤ a → 0 < n → 0 ≤ Int.tmod a n ∧ Int.tmod a n < n := fun a h0 h1 => ⟨Int.tmod_nonneg _ h0, Int.tmod_lt_of_pos _ h1⟩
 unfold spec_l01Below.f
 refine ok_if (fun hc => ok_some ⟨Int.le_refl 0, fun h' => absurd h' (by omega), fun _ => rfl, h⟩) (fun hc => ?_)
 refine ok_if (fun hc2 => ?_) (fun hc2 => ?_)
 ·refine ok_bind (byte_ok h) (fun r hr => ?_)
  rw [if_pos (by omega)]
  exact ok_some ⟨(hm _ hr.1 (by omega)).1, fun _ => (hm _ hr.1 (by omega)).2, fun h' => absurd h' (by omega), hr.2.2⟩
 ·refine ok_bind (byte_ok h) (fun r1 hr1 => ok_bind (byte_ok hr1.2.2) (fun r2 hr2 => ok_bind (byte_ok hr2.2.2) (fun r3 hr3 => ok_bind (byte_ok hr3.2.2) (fun r4 hr4 => ?_))))
  obtain ⟨a1, b1, -⟩ := hr1
  obtain ⟨a2, b2, -⟩ := hr2
  obtain ⟨a3, b3, -⟩ := hr3
  obtain ⟨a4, b4, hc4⟩ := hr4
  rw [if_pos (by omega)]
  have e1 : w64 (r1.1 * 16777216) = r1.1 * 16777216 := w64_id (by omega) (by omega)
  have e2 : w64 (r2.1 * 65536) = r2.1 * 65536 := w64_id (by omega) (by omega)
  have e3 : w64 (r3.1 * 256) = r3.1 * 256 := w64_id (by omega) (by omega)
  have e4 : w64 (r1.1 * 16777216 + r2.1 * 65536) = r1.1 * 16777216 + r2.1 * 65536 := w64_id (by omega) (by omega)
  have e5 : w64 (r1.1 * 16777216 + r2.1 * 65536 + r3.1 * 256) = r1.1 * 16777216 + r2.1 * 65536 + r3.1 * 256 := w64_id (by omega) (by omega)
  have e6 : w64 (r1.1 * 16777216 + r2.1 * 65536 + r3.1 * 256 + r4.1) = r1.1 * 16777216 + r2.1 * 65536 + r3.1 * 256 + r4.1 := w64_id (by omega) (by omega)
  rw [e1, e2, e3, e4, e5, e6]
  exact ok_some ⟨(hm _ (by omega) (by omega)).1, fun _ => (hm _ (by omega) (by omega)).2, fun h' => absurd h' (by omega), hc4⟩
theorem below_lt {k : Nat} {c : List Int × Int × Int} {n : Int} (h : Cur c) (hn : 0 < n) : Ok (spec_l01Below.f k c n) (fun r => 0 ≤ r.1 ∧ r.1 < n ∧ Cur (c.1, r.2.2)) :=
 (below_ok h).mono fun r hr => ⟨hr.1, hr.2.1 hn, hr.2.2.2⟩
theorem new_ok {k : Nat} {xs : List Int} (hl : xs.length ≤ 1048576) (hk : 1048576 < k) : Ok (spec_l01New.f k xs) (fun r => Cur (xs, r.2)) := by
 unfold spec_l01New.f
 refine ok_loop (L := spec_l01New.l1 k) (I := fun d s => 0 ≤ s.2.1 ∧ s.2.2.1 = xs ∧ s.2.1 + (d : Int) = (xs.length : Int)) ?_ k xs.length _ (by omega) ⟨Int.le_refl 0, rfl, by simp⟩
 rintro d n ⟨x1, x2, x3, u⟩ ⟨h1, h2, h3⟩ ih
 simp only at h1 h2 h3
 subst h2
 rw [spec_l01New.l1]
 have he : Cur (x3, 0, x1) := ⟨hl, Int.le_refl 0, by dsimp only; omega⟩
 refine ok_if (fun hc => ?_) (fun _ => ok_some he)
 refine ok_if (fun hc2 => ?_) (fun _ => ok_some he)
 rw [if_pos h1, if_pos hc, w64_id (z := x2 + 1) (by omega) (by omega)]
 exact ih (d - 1) _ (by omega) ⟨by show 0 ≤ x2 + 1; omega, rfl, by show x2 + 1 + ((d - 1 : Nat) : Int) = _; omega⟩
end Go.Proofs.Ytkabaommohhbgaa.Pure
/- Twelve drawn numbers. No condition. -/
namespace Go.Proofs.Ytkabaommohhbgaa.Pure
open Go Go.Proofs.YtkabaommohhbgaaA Go.Proofs.YtkabaommohhbgaaU Go.Proofs.Ytkabaommohhbgaa.QA
set_option linter.unusedVariables false
/-- Twelve numbers of 0 .. 9999. -/
def Places (p : List Int) : Prop := p.length = 12 ∧ ∀ i, i < 12 → 0 ≤ (el (.int .i64) p i : Int) ∧ (el (.int .i64) p i : Int) ≤ 9999
theorem places_at {p : List Int} (h : Places p) {i : Nat} (hi : i < 12) : ∃ x : Int, el (.int .i64) p i = x ∧ 0 ≤ x ∧ x ≤ 9999 := ⟨_, rfl, h.2 i hi⟩
theorem places_ok {k : Nat} {xs : List Int} (hl : xs.length ≤ 1048576) (hk : 1048576 < k) : Ok (spec_DrawPlaces.f k xs) Places := by
 unfold spec_DrawPlaces.f
 refine ok_bind (new_ok hl hk) (fun r1 h1 => ok_bind (byte_ok h1) (fun r2 h2 => ok_let ?_))
 refine ok_loop (L := spec_DrawPlaces.l1 k) (I := fun d s => ∃ (j : Nat) (ci ch : Int) (p : List Int), s = ((j : Int), ci, ch, xs, p, ()) ∧ j + d = 12 ∧ Cur (xs, ci, ch) ∧ p.length = j ∧ ∀ x, x ∈ p → 0 ≤ x ∧ x ≤ 9999) ?_ k 12 _ (by omega) ⟨0, _, _, [], rfl, by omega, h2.2.2, rfl, fun x hx => by cases hx⟩
 rintro d n s ⟨j, ci, ch, p, rfl, hd, hc, hp, hx⟩ ih
 rw [spec_DrawPlaces.l1]
 refine ok_if (fun hlt => ok_bind (below_lt hc (by omega)) (fun r4 h4 => ok_let ?_)) (fun _ => ok_some ⟨by omega, fun i hi => hx _ (el_mem (t := .int .i64) (by omega))⟩)
 refine ok_grd (by simp only [List.length_cons, List.length_nil]; omega) (ok_let ?_)
 have h5 : w64 ((j : Int) + 1) = ((j + 1 : Nat) : Int) := w64_id (by omega) (by omega)
 rw [h5]
 refine ih (d - 1) _ (by omega) ⟨j + 1, _, _, _, rfl, by omega, h4.2.2, by simp [hp], fun x hx' => ?_⟩
 rcases List.mem_append.1 hx' with h | h
 ·exact hx x h
 ·rw [List.mem_singleton.1 h]
  omega
theorem tmod_in {x n : Int} (hx : 0 ≤ x) (hn : 0 < n) : 0 ≤ Int.tmod x n ∧ Int.tmod x n < n := ⟨Int.tmod_nonneg _ hx, Int.tmod_lt_of_pos _ hn⟩
/-- What a law over drawn bytes begins with. -/
theorem big_ok {k : Nat} {xs : List Int} {g : Bool → Option Bool} (h : xs.length ≤ 1048576 → Ok (g false) (fun r => r = true)) (h2 : Ok (g true) (fun r => r = true)) : Ok ((laws_big.f k xs).bind g) (fun r => r = true) := by
 unfold laws_big.f
 refine ok_let ?_
 by_cases hb : xs.length ≤ 1048576
 ·rw [decide_eq_false (by omega)]
  exact h hb
 ·rw [decide_eq_true (by omega)]
  exact h2
end Go.Proofs.Ytkabaommohhbgaa.Pure
/- The plain law of FnSenses: what is felt comes back from its names; of each one is told whether it is there. No condition. -/
namespace Go.Proofs.Ytkabaommohhbgaa.Pure
open Go Go.Proofs.YtkabaommohhbgaaA Go.Proofs.YtkabaommohhbgaaU Go.Proofs.Ytkabaommohhbgaa.QA Go.Proofs.Ytkabaommohhbgaa.QFnSenses
set_option linter.unusedVariables false
set_option linter.unusedSimpArgs false
theorem drawRead_ok {xs : List Int} (hl : xs.length ≤ 1048576) : Ok (spec_DrawReadSense.f 1048577 xs) (fun _ => True) := by
 unfold spec_DrawReadSense.f
 refine ok_bind (new_ok hl (by omega)) (fun r1 h1 => ?_)
 unfold spec_l01Once.f
 refine ok_bind (P := fun r : Bool × List Int × Int × Int => Cur (xs, r.2.2)) (ok_bind (below_lt h1 (by omega)) (fun r2 h2 => ok_some h2.2.2)) (fun r3 h3 => ?_)
 refine ok_if (fun _ => ?_) (fun _ => ?_)
 ·refine ok_let (ok_bind (P := fun _ => True) ?_ (fun r4 _ => ok_some trivial))
  unfold spec_l01Pick.f
  refine ok_bind (below_lt h3 (by simp only [List.length_cons, List.length_nil]; omega)) (fun r5 h5 => ok_grd h5.1 (ok_grd h5.2.1 (ok_some trivial)))
 ·refine ok_bind (below_lt h3 (by omega)) (fun r5 h5 => ?_)
  obtain ⟨a, b, -⟩ := h5
  obtain ⟨j, hj, e⟩ := nat16 (x := r5.1) ⟨a, by omega⟩
  rw [e, names_s hj]
  exact ok_let (ok_some trivial)
/-- The sum of those that are there is the set. -/
theorem sums {b : Nat} (hb : b < 16) (n : Nat) (x2 : Int) (x3 : Bool) (xs : List Int) : laws_FnSenses.l1 1048577 (n + 4) ((b : Int), x2, x3, 0, 0, xs, [1, 2, 4, 8], ()) = laws_FnSenses.l1 1048577 n ((b : Int), x2, x3, (b : Int), 4, xs, [1, 2, 4, 8], ()) := by
 have h : b = 0 ∨ b = 1 ∨ b = 2 ∨ b = 3 ∨ b = 4 ∨ b = 5 ∨ b = 6 ∨ b = 7 ∨ b = 8 ∨ b = 9 ∨ b = 10 ∨ b = 11 ∨ b = 12 ∨ b = 13 ∨ b = 14 ∨ b = 15 := by omega
 rcases h with rfl | rfl | rfl | rfl | rfl | rfl | rfl | rfl | rfl | rfl | rfl | rfl | rfl | rfl | rfl | rfl <;> (show _ = _; kernel_rfl)
theorem has3 {b : Nat} (hb : b < 16) : impl_Has.f 1048577 (b : Int) 3 = some false :=
 of_decide_eq_true (all16 (p := fun b => decide (impl_Has.f 1048577 (b : Int) 3 = some false)) (by kernel_rfl) hb)
theorem namesNeg : impl_SenseNames.f 1048577 (-1) = some ⟨#[]⟩ := by kernel_rfl
theorem FnSenses : ∀ (x0 : den (.sl 0 (.int .u8))), Wf (.sl 0 (.int .u8)) x0 → ∃ k, laws_FnSenses.f k x0 = some true := by
 intro xs _
 refine ⟨1048577, ?_⟩
 refine ok_eq ?_
 unfold laws_FnSenses.f
 refine big_ok (fun hl => ?_) (ok_some rfl)
 refine ok_els (fun h => by cases h) (ok_bind (places_ok hl (by omega)) (fun p hp => ok_grd (by omega) (ok_grd (by have := hp.1; omega) ?_)))
 obtain ⟨x, hx, h0, h9⟩ := places_at hp (show 0 < 12 by omega)
 rw [show el (.int .i64) p 0 = x from hx]
 obtain ⟨m0, m1⟩ := tmod_in (x := x) (n := 16) h0 (by omega)
 obtain ⟨b, hb, e⟩ := nat16 (x := Int.tmod x 16) ⟨m0, by omega⟩
 rw [e, names_i hb]
 refine ok_let ?_
 rw [read_i, rd_nm hb]
 refine ok_let (ok_let ?_)
 refine ok_of (r := true) ?_ rfl
 rw [show (1048577 : Nat) = 1048573 + 4 from rfl]
 show laws_FnSenses.l1 1048577 (1048573 + 4) ((b : Int), (b : Int), true, 0, 0, xs, [1, 2, 4, 8], ()) = some true
 rw [sums hb]
 refine ok_eq ?_
 rw [show (1048573 : Nat) = 1048572 + 1 from rfl, laws_FnSenses.l1]
 refine ok_els (by omega) (ok_bind (drawRead_ok hl) (fun u _ => ?_))
 rw [read_i, read_s, senseOk_i, senseOk_i, decide_eq_true (by omega), decide_eq_false (by omega), namesNeg, has3 hb]
 exact ok_let (ok_let (ok_grd rfl (ok_grd rfl (ok_grd rfl (ok_let (ok_grd rfl (ok_let (ok_grd (by decide) (ok_grd rfl (ok_grd rfl (ok_let (ok_grd rfl (ok_let (ok_some rfl))))))))))))))
end Go.Proofs.Ytkabaommohhbgaa.Pure
