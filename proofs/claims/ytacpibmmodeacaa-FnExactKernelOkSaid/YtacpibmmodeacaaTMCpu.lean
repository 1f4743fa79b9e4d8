/- The laws' own copies, comparisons and marks of machines and cells. No condition. -/
import Derived.Test.YtacpibmmodeacaaTStepS
namespace Go.Proofs.Ytacpibmmodeacaa.Pure
open Go Go.Proofs.YtacpibmmodeacaaA Go.Proofs.YtacpibmmodeacaaU Go.Proofs.Ytacpibmmodeacaa.QA
set_option linter.unusedVariables false
theorem toCpu_f {k : Nat} {c : Int × List Int} (hl : c.2.length ≤ 1048576) (hk : 1048576 < k) : laws_toCpu.f k c = some c := by
  unfold laws_toCpu.f
  rw [toIntS_f hl hk]
  rfl
theorem toArena_f {k : Nat} {c : List Int} (hl : c.length ≤ 1048576) (hk : 1048576 < k) : laws_toArena.f k c = some c := by
  unfold laws_toArena.f
  rw [toIntS_f hl hk]
  rfl
theorem toRegion_f {k : Nat} {c : Int × Int} : laws_toRegion.f k c = some c := rfl
theorem eqCpu_f {k : Nat} {c : Int × List Int} (hl : c.2.length ≤ 1048576) (hk : 1048576 < k) : laws_eqCpu.f k c c = some true := by
  unfold laws_eqCpu.f
  rw [if_neg (fun h => h rfl), eqIntS_f hl hk]
  rfl
theorem eqArena_f {k : Nat} {c : List Int} (hl : c.length ≤ 1048576) (hk : 1048576 < k) : laws_eqArena.f k c c = some true := by
  unfold laws_eqArena.f
  rw [eqIntS_f hl hk]
  rfl
theorem szCpu_f {k : Nat} {c : Int × List Int} {left : Int} (hx : c.2.length ≤ 9223372036854775807) (h0 : 0 ≤ left) (h1 : left ≤ 1048576) : Ok (laws_szCpu.f k c left) (fun r => 0 ≤ r → r ≤ left ∧ c.2.length ≤ 1048576) := by
  unfold laws_szCpu.f
  exact ok_bind (szIntS_f hx h0 h1) (fun r hr => ok_if (fun _ => ok_some (fun h => absurd h (by omega))) (fun _ => ok_some hr))
theorem szArena_f {k : Nat} {c : List Int} {left : Int} (hx : c.length ≤ 9223372036854775807) (h0 : 0 ≤ left) (h1 : left ≤ 1048576) : Ok (laws_szArena.f k c left) (fun r => 0 ≤ r → r ≤ left ∧ c.length ≤ 1048576) := by
  unfold laws_szArena.f
  exact ok_bind (szIntS_f hx h0 h1) (fun r hr => ok_if (fun _ => ok_some (fun h => absurd h (by omega))) (fun _ => ok_some hr))
theorem low_le (S : List Int) (t : Nat) (xs : List Int) : (low S t ++ xs).length ≤ S.length + xs.length := by
  have := low_len S t
  rw [List.length_append]
  omega
structure LenIs (S a : List Int) (s : Step) : Prop where
  st : s.1.2.length ≤ S.length + 2
  ar : s.2.1.length = a.length
theorem if_in {α : Type} {P : α → Prop} {c : Prop} [Decidable c] {x y : α} (hx : P x) (hy : P y) : P (if c then x else y) := by
  split
  · exact hx
  · exact hy
theorem doX_len {pc : Int} {x : Int × Int} {S a : List Int} {r : Int × Int} {time : Int} : LenIs S a (doX pc x S a r time) := by
  have h3 := low_le S 1 [el I1 a (cellAt a r (top S + x.2)).toNat % 65536]
  have h4 := low_le S 2 [reckon x.1 (sec S) (top S)]
  have h5 := low_le S 1 [top S, top S]
  simp only [List.length_cons, List.length_nil] at h3 h4 h5
  have q1 : ∀ pc e, LenIs S a ((pc, S), a, e) := fun pc e => ⟨by dsimp only; omega, rfl⟩
  have q2 : ∀ pc e t, LenIs S a ((pc, low S t), a, e) := fun pc e t => ⟨by have := low_len S t; dsimp only; omega, rfl⟩
  have q3 : ∀ pc e v, LenIs S a ((pc, S ++ [v]), a, e) := fun pc e v => ⟨by dsimp only; rw [List.length_append, List.length_cons, List.length_nil]; omega, rfl⟩
  unfold doX
  refine if_in (q3 _ _ _) (if_in ⟨by dsimp only; omega, rfl⟩ (if_in ⟨by have := low_len S 2; dsimp only; omega, List.length_set ..⟩ (if_in ⟨by dsimp only; omega, rfl⟩ (if_in (q1 _ _) (if_in (q2 _ _ _) (if_in ⟨by dsimp only; omega, rfl⟩ (if_in (q2 _ _ _) (if_in (q2 _ _ _) (if_in (q1 _ _) (if_in (q3 _ _ _) (q1 _ _)))))))))))
theorem step_len {c : Int × List Int} {code : List (Int × Int)} {a : List Int} {r : Int × Int} {time : Int} : (stepM c code a r time).1.2.length ≤ c.2.length + 2 ∧ (stepM c code a r time).2.1.length = a.length ∧ (trapM c code a r = 0 → c.2.length ≤ 8) ∧ (trapM c code a r ≠ 0 → (stepM c code a r time).1 = c) := by
  unfold stepM
  split
  · rename_i h
    exact ⟨doX_len.st, doX_len.ar, fun _ => (trap0 h).1.2.1, fun h' => absurd h h'⟩
  · rename_i h
    exact ⟨by dsimp only; omega, rfl, fun h' => absurd h' h, fun _ => rfl⟩
theorem step_len2 {c : Int × List Int} {code : List (Int × Int)} {a : List Int} {r : Int × Int} {time : Int} (h : c.2.length ≤ 1048576) : (stepM c code a r time).1.2.length ≤ 1048576 := by
  obtain ⟨h1, h2, h3, h4⟩ := step_len (c := c) (code := code) (a := a) (r := r) (time := time)
  by_cases h0 : trapM c code a r = 0
  · have := h3 h0
    omega
  · rw [h4 h0]
    exact h
end Go.Proofs.Ytacpibmmodeacaa.Pure
