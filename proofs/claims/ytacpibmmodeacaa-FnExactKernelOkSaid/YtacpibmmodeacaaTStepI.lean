/- One step of the program's machine. No condition. -/
import Derived.Test.YtacpibmmodeacaaTStep
namespace Go.Proofs.Ytacpibmmodeacaa.Pure
open Go Go.Proofs.YtacpibmmodeacaaA Go.Proofs.YtacpibmmodeacaaU Go.Proofs.Ytacpibmmodeacaa.QA
set_option linter.unusedVariables false
set_option linter.unusedSimpArgs false
/-- What is known where nothing traps. -/
structure NoTrap (pc op g : Int) (S : List Int) (a : List Int) (r : Int × Int) : Prop where
  pc0 : 0 ≤ pc
  pc1 : pc < 60
  words : WordsOk S
  len : S.length ≤ 8
  op0 : 0 ≤ op
  op1 : ¬ 17 < op
  g0 : 0 ≤ g ∧ g ≤ 255
  tk : takesM op ≤ (S.length : Int)
  ld : op = 2 → ¬ cellAt a r (top S + g) < 0
  st : op = 3 → ¬ cellAt a r (sec S + g) < 0
  dv : op = 7 → ¬ top S = 0
  ov : (S.length : Int) - takesM op + putsM op ≤ 8
theorem trap0 {c : Int × List Int} {code : List (Int × Int)} {a : List Int} {r : Int × Int} (h : trapM c code a r = 0) :
    CpuOk c ∧ CodeOk code ∧ c.1 < (code.length : Int) ∧ NoTrap c.1 (el C2 code c.1.toNat).1 (el C2 code c.1.toNat).2 c.2 a r := by
  unfold trapM at h
  split at h
  · rename_i hb
    obtain ⟨h1, h2, h3⟩ := B_iff.1 hb
    refine ⟨h1, h2, h3, ?_⟩
    have h60 := h2.2
    have hx := h2.1 c.1.toNat (by have := h1.1; omega)
    obtain ⟨op, g, hxe⟩ : ∃ op g : Int, el C2 code c.1.toNat = (op, g) := ⟨_, _, rfl⟩
    rw [hxe] at h hx ⊢
    unfold trapX at h
    simp only at h ⊢
    split at h
    · exact absurd h (by omega)
    split at h
    · exact absurd h (by omega)
    split at h
    · exact absurd h (by omega)
    split at h
    · exact absurd h (by omega)
    split at h
    · exact absurd h (by omega)
    split at h
    · exact absurd h (by omega)
    rename_i q1 q2 q3 q4 q5 q6
    exact ⟨h1.1.1, by omega, h1.2.2, h1.2.1, hx.1.1, q1, hx.2, by omega, fun o h => q3 ⟨o, h⟩, fun o h => q4 ⟨o, h⟩, fun o h => q5 ⟨o, h⟩, by omega⟩
  · exact absurd h (by omega)
theorem el_0 {x : Int} {xs : List Int} : el (.int .i64) (@List.cons Int x xs) 0 = x := rfl
theorem el_1 {x y : Int} {xs : List Int} : el (.int .i64) (@List.cons Int x (@List.cons Int y xs)) 1 = y := rfl
theorem drop1 {S : List Int} (h : 1 ≤ S.length) : S.drop (S.length - 1) = [top S] := by
  obtain ⟨T, u, rfl⟩ := snoc1 h
  have e : top (T ++ [u]) = u := el_mid (t := I1) (by simp)
  rw [e]
  simp
theorem drop2 {S : List Int} (h : 2 ≤ S.length) : S.drop (S.length - 2) = [sec S, top S] := by
  obtain ⟨T, u, v, rfl⟩ := snoc2 h
  have e : top (T ++ [u, v]) = v := by
    have e2 : T ++ [u, v] = (T ++ [u]) ++ [v] := by simp
    rw [e2]
    exact el_mid (t := I1) (by simp)
  have e3 : sec (T ++ [u, v]) = u := el_mid (t := I1) (by simp)
  rw [e, e3]
  simp
theorem mul_in {a b : Int} (ha : Word a) (hb : Word b) : 0 ≤ a * b ∧ a * b ≤ 65535 * 65535 := ⟨Int.mul_nonneg ha.1 hb.1, Int.mul_le_mul ha.2 hb.2 hb.1 (by omega)⟩
theorem low_len (S : List Int) (t : Nat) : (low S t).length ≤ S.length := by
  unfold low
  rw [List.length_take]
  omega
theorem top_w {S : List Int} (h : WordsOk S) (hl : 1 ≤ S.length) : Word (top S) := h (S.length - 1) (by omega)
theorem sec_w {S : List Int} (h : WordsOk S) (hl : 2 ≤ S.length) : Word (sec S) := h (S.length - 2) (by omega)
end Go.Proofs.Ytacpibmmodeacaa.Pure
