/- One step of the program's machine. No condition. -/
import Derived.Test.YtcnaldcinkmpbaaTStep
namespace Go.Proofs.Ytcnaldcinkmpbaa.Pure
open Go Go.Proofs.YtcnaldcinkmpbaaA Go.Proofs.YtcnaldcinkmpbaaU Go.Proofs.Ytcnaldcinkmpbaa.QA
set_option linter.unusedVariables false
set_option linter.unusedSimpArgs false
/-- What is known where nothing traps. -/
structure NoTrap (pc op g : Int) (S : List Int) (a : List Int) (r : Int × Int) : Prop where
  pc0 : 0 ≤ pc
  pc1 : pc < 60
  words : WordsOk S
  len : S.length ≤ 8
  op0 : 0 ≤ op
  op1 : ¬ 17 < op
  g0 : 0 ≤ g ∧ g ≤ 255
  tk : takesM op ≤ (S.length : Int)
  ld : op = 2 → ¬ cellAt a r (top S + g) < 0
  st : op = 3 → ¬ cellAt a r (sec S + g) < 0
  dv : op = 7 → ¬ top S = 0
  ov : (S.length : Int) - takesM op + putsM op ≤ 8
theorem trap0 {c : Int × List Int} {code : List (Int × Int)} {a : List Int} {r : Int × Int} (h : trapM c code a r = 0) :
    CpuOk c ∧ CodeOk code ∧ c.1 < (code.length : Int) ∧ NoTrap c.1 (el C2 code c.1.toNat).1 (el C2 code c.1.toNat).2 c.2 a r := by
  unfold trapM at h
  split at h
  · rename_i hb
    obtain ⟨h1, h2, h3⟩ := B_iff.1 hb
    refine ⟨h1, h2, h3, ?_⟩
    have h60 := h2.2
    have hx := h2.1 c.1.toNat (by have := h1.1; omega)
    obtain ⟨op, g, hxe⟩ : ∃ op g : Int, el C2 code c.1.toNat = (op, g) := ⟨_, _, rfl⟩
    rw [hxe] at h hx ⊢
    unfold trapX at h
    simp only at h ⊢
    split at h
    · exact absurd h (by omega)
    split at h
    · exact absurd h (by omega)
    split at h
    · exact absurd h (by omega)
    split at h
    · exact absurd h (by omega)
    split at h
    · exact absurd h (by omega)
    split at h
    · exact absurd h (by omega)
    rename_i q1 q2 q3 q4 q5 q6
    exact ⟨h1.1.1, by omega, h1.2.2, h1.2.1, hx.1.1, q1, hx.2, by omega, fun o h => q3 ⟨o, h⟩, fun o h => q4 ⟨o, h⟩, fun o h => q5 ⟨o, h⟩, by omega⟩
  · exact absurd h (by omega)
theorem el_0 {x : Int} {xs : List Int} : el (.int .i64) (@List.cons Int x xs) 0 = x := rfl
theorem el_1 {x y : Int} {xs : List Int} : el (.int .i64) (@List.cons Int x (@List.cons Int y xs)) 1 = y := rfl
theorem drop1 {S : List Int} (h : 1 ≤ S.length) : S.drop (S.length - 1) = [top S] := by
  obtain ⟨T, u, rfl⟩ := snoc1 h
  have e : top (T ++ [u]) = u := el_mid (t := I1) (by simp)
  rw [e]
  simp
theorem drop2 {S : List Int} (h : 2 ≤ S.length) : S.drop (S.length - 2) = [sec S, top S] := by
  obtain ⟨T, u, v, rfl⟩ := snoc2 h
  have e : top (T ++ [u, v]) = v := by
    have e2 : T ++ [u, v] = (T ++ [u]) ++ [v] := by simp
    rw [e2]
    exact el_mid (t := I1) (by simp)
  have e3 : sec (T ++ [u, v]) = u := el_mid (t := I1) (by simp)
  rw [e, e3]
  simp
theorem taken_i {k : Nat} {pc : Int} {S : List Int} {t : Nat} (hS : S.length ≤ 8) (ht : t ≤ S.length) : impl_Cpu_taken.f k (pc, S) (t : Int) = some (S.drop (S.length - t), pc, S.take (S.length - t)) := by
  unfold impl_Cpu_taken.f
  have e : w64 ((S.length : Int) - (t : Int)) = ((S.length - t : Nat) : Int) := by rw [w64_id (by omega) (by omega)]; omega
  have c1 : (0 : Int) ≤ ((S.length - t : Nat) : Int) := by omega
  have c2 : ((S.length - t : Nat) : Int) ≤ (S.length : Int) := by omega
  simp only [e, c1, c2, ↓reduceIte, Int.toNat_natCast]
  rw [ints_i (by rw [List.length_drop]; omega)]
  rfl
theorem put_i {k : Nat} {pc : Int} {S : List Int} {v : Int} (hS : S.length ≤ 1000) : impl_Cpu_put.f k (pc, S) v = some (pc, S ++ [v]) := by
  unfold impl_Cpu_put.f
  simp only [Option.bind_some, List.length_cons, List.length_nil]
  rw [if_pos (by omega)]
theorem mul_in {a b : Int} (ha : Word a) (hb : Word b) : 0 ≤ a * b ∧ a * b ≤ 65535 * 65535 := ⟨Int.mul_nonneg ha.1 hb.1, Int.mul_le_mul ha.2 hb.2 hb.1 (by omega)⟩
theorem computed_i {k : Nat} {op a b : Int} (ha : Word a) (hb : Word b) (h : op = 7 → ¬ b = 0) : impl_computed.f k op a b = some (reckon op a b) := by
  have hm := mul_in ha hb
  have ha' := ha
  have hb' := hb
  unfold Word at ha' hb'
  unfold impl_computed.f reckon
  rw [w64_id (z := a + b) (by omega) (by omega), w64_id (z := a - b) (by omega) (by omega), w64_id (z := a * b) (by omega) (by omega), mod_i, mod_i, mod_i]
  by_cases o4 : op = 4
  · rw [if_pos o4, if_pos o4]; rfl
  rw [if_neg o4, if_neg o4]
  by_cases o5 : op = 5
  · rw [if_pos o5, if_pos o5]; rfl
  rw [if_neg o5, if_neg o5]
  by_cases o6 : op = 6
  · rw [if_pos o6, if_pos o6]; rfl
  rw [if_neg o6, if_neg o6]
  by_cases o7 : op = 7
  · rw [if_pos o7, if_pos o7, if_pos (h o7)]
    have e : Int.tdiv a b = a / b := Int.tdiv_eq_ediv_of_nonneg ha'.1
    have h1 : 0 ≤ a / b := Int.ediv_nonneg ha'.1 hb'.1
    have h2 : a / b ≤ a := Int.ediv_le_self _ ha'.1
    rw [e, w64_id (by omega) (by omega)]
  rw [if_neg o7, if_neg o7]
  split <;> rfl
theorem low_len (S : List Int) (t : Nat) : (low S t).length ≤ S.length := by
  unfold low
  rw [List.length_take]
  omega
theorem top_w {S : List Int} (h : WordsOk S) (hl : 1 ≤ S.length) : Word (top S) := h (S.length - 1) (by omega)
theorem sec_w {S : List Int} (h : WordsOk S) (hl : 2 ≤ S.length) : Word (sec S) := h (S.length - 2) (by omega)
theorem step_i {k : Nat} {c : Int × List Int} {code : List (Int × Int)} {a : List Int} {r : Int × Int} {time : Int} (hk : 1048576 < k) (hc : code.length ≤ 1048576) (hs : c.2.length ≤ 1048576) (ha : a.length ≤ 1048576) (hr : r.1 < 9223372036854775808) :
    impl_StepCpu.f k c code a r time = some (stepM c code a r time) := by
  unfold impl_StepCpu.f stepM
  rw [cpu_i hs, arena_i ha, trap_i hk hc ha hr]
  simp only [Option.bind_some]
  by_cases h0 : trapM c code a r = 0
  · obtain ⟨-, -, hp, nt⟩ := trap0 h0
    rw [if_neg (fun h => h h0), if_pos h0, if_pos nt.pc0, if_pos hp, takes_i]
    clear h0 hp
    obtain ⟨pc, S⟩ := c
    simp only at nt hs ⊢
    obtain ⟨op, g, hxe⟩ : ∃ op g : Int, el C2 code pc.toNat = (op, g) := ⟨_, _, rfl⟩
    rw [hxe] at nt ⊢
    simp only [show el (.pair (.int .i64) (.int .i64)) code pc.toNat = (op, g) from hxe] at nt ⊢
    clear hxe
    have hpc : w64 (pc + 1) = pc + 1 := w64_id (by have := nt.pc0; omega) (by have := nt.pc1; omega)
    have hS := nt.len
    have hg := nt.g0
    have t0 : impl_Cpu_taken.f k (pc, S) 0 = some ([], pc, S) := by
      have := taken_i (k := k) (pc := pc) (t := 0) hS (by omega)
      simpa using this
    have t1 : 1 ≤ S.length → impl_Cpu_taken.f k (pc, S) 1 = some ([top S], pc, low S 1) := fun h => by
      have := taken_i (k := k) (pc := pc) (t := 1) hS h
      rw [drop1 h] at this
      exact this
    have t2 : 2 ≤ S.length → impl_Cpu_taken.f k (pc, S) 2 = some ([sec S, top S], pc, low S 2) := fun h => by
      have := taken_i (k := k) (pc := pc) (t := 2) hS h
      rw [drop2 h] at this
      exact this
    have l1 := low_len S 1
    have l2 := low_len S 2
    have p0 : ∀ v, impl_Cpu_put.f k (pc + 1, S) v = some (pc + 1, S ++ [v]) := fun v => put_i (by omega)
    have p1 : ∀ v, impl_Cpu_put.f k (pc + 1, low S 1) v = some (pc + 1, low S 1 ++ [v]) := fun v => put_i (by omega)
    have p2 : ∀ v, impl_Cpu_put.f k (pc + 1, low S 2) v = some (pc + 1, low S 2 ++ [v]) := fun v => put_i (by omega)
    have p3 : ∀ u v, impl_Cpu_put.f k (pc + 1, low S 1 ++ [u]) v = some (pc + 1, low S 1 ++ [u] ++ [v]) := fun u v => put_i (by rw [List.length_append, List.length_cons, List.length_nil]; omega)
    have i1 : (0 : Int) < (([top S] : List Int).length : Int) := by simp
    have i2 : (0 : Int) < (([sec S, top S] : List Int).length : Int) := by simp
    have i3 : (1 : Int) < (([sec S, top S] : List Int).length : Int) := by simp
    have i4 : (0 : Int) ≤ 0 := by omega
    have i5 : (0 : Int) ≤ 1 := by omega
    have i6 : (0 : Nat) ≤ 0 := by omega
    have hw := nt.words
    have htk := nt.tk
    rcases op_cases nt.op0 nt.op1 with h | h | h | h | h | h | h | h | h | h | h | h | h | h | h | h | h | h <;> subst h
    · simp only [show takesM 0 = 0 from rfl, t0, Option.bind_some, Int.reduceEq, ↓reduceIte, decide_false, decide_true, Bool.false_eq_true, hpc, impl_StepCpu.j1, impl_StepCpu.j2, impl_StepCpu.j3, doX, Int.reduceLE, false_and, and_false, or_self, and_self, or_false, false_or]
    · simp only [show takesM 1 = 0 from rfl, t0, p0, Option.bind_some, Int.reduceEq, ↓reduceIte, hpc, doX]
    · have hl : 1 ≤ S.length := by simp [takesM] at htk; omega
      have hu := top_w hw hl
      have hc' := cellAt_lt (nt.ld rfl)
      have e : w64 (top S + g) = top S + g := w64_id (by unfold Word at hu; omega) (by unfold Word at hu; omega)
      simp only [show takesM 2 = 1 from rfl, t1 hl, Option.bind_some, Int.reduceEq, ↓reduceIte, hpc, doX, i1, i4, i6, el_0, e, cellAt_i ha hr, hc'.1, hc'.2, mod_i, p1]
    · have hl : 2 ≤ S.length := by simp [takesM] at htk; omega
      have hu := sec_w hw hl
      have hc' := cellAt_lt (nt.st rfl)
      have e : w64 (sec S + g) = sec S + g := w64_id (by unfold Word at hu; omega) (by unfold Word at hu; omega)
      simp only [show takesM 3 = 2 from rfl, t2 hl, Option.bind_some, Int.reduceEq, ↓reduceIte, hpc, doX, i2, i3, i4, i5, i6, Nat.zero_le, el_0, el_1, e, cellAt_i ha hr, hc'.1, hc'.2]
    · have hl : 2 ≤ S.length := by simp [takesM] at htk; omega
      simp only [show takesM 4 = 2 from rfl, t2 hl, Option.bind_some, Int.reduceEq, Int.reduceLE, ↓reduceIte, hpc, impl_StepCpu.j1, doX, i2, i3, i4, i5, i6, Nat.zero_le, el_0, el_1, computed_i (sec_w hw hl) (top_w hw (by omega)) nt.dv, p2, and_self]
    · have hl : 2 ≤ S.length := by simp [takesM] at htk; omega
      simp only [show takesM 5 = 2 from rfl, t2 hl, Option.bind_some, Int.reduceEq, Int.reduceLE, ↓reduceIte, hpc, impl_StepCpu.j1, doX, i2, i3, i4, i5, i6, Nat.zero_le, el_0, el_1, computed_i (sec_w hw hl) (top_w hw (by omega)) nt.dv, p2, and_self]
    · have hl : 2 ≤ S.length := by simp [takesM] at htk; omega
      simp only [show takesM 6 = 2 from rfl, t2 hl, Option.bind_some, Int.reduceEq, Int.reduceLE, ↓reduceIte, hpc, impl_StepCpu.j1, doX, i2, i3, i4, i5, i6, Nat.zero_le, el_0, el_1, computed_i (sec_w hw hl) (top_w hw (by omega)) nt.dv, p2, and_self]
    · have hl : 2 ≤ S.length := by simp [takesM] at htk; omega
      simp only [show takesM 7 = 2 from rfl, t2 hl, Option.bind_some, Int.reduceEq, Int.reduceLE, ↓reduceIte, hpc, impl_StepCpu.j1, doX, i2, i3, i4, i5, i6, Nat.zero_le, el_0, el_1, computed_i (sec_w hw hl) (top_w hw (by omega)) nt.dv, p2, and_self]
    · have hl : 2 ≤ S.length := by simp [takesM] at htk; omega
      simp only [show takesM 8 = 2 from rfl, t2 hl, Option.bind_some, Int.reduceEq, Int.reduceLE, ↓reduceIte, decide_true, hpc, impl_StepCpu.j1, doX, i2, i3, i4, i5, i6, Nat.zero_le, el_0, el_1, computed_i (sec_w hw hl) (top_w hw (by omega)) nt.dv, p2, and_self]
    · simp only [show takesM 9 = 0 from rfl, t0, Option.bind_some, Int.reduceEq, Int.reduceLE, ↓reduceIte, decide_false, Bool.false_eq_true, hpc, impl_StepCpu.j1, doX, and_false]
    · have hl : 1 ≤ S.length := by simp [takesM] at htk; omega
      simp only [show takesM 10 = 1 from rfl, t1 hl, Option.bind_some, Int.reduceEq, Int.reduceLE, ↓reduceIte, decide_false, Bool.false_eq_true, hpc, impl_StepCpu.j1, doX, and_false, i1, i4, i6, el_0]
      split <;> rfl
    · have hl : 1 ≤ S.length := by simp [takesM] at htk; omega
      simp only [show takesM 11 = 1 from rfl, t1 hl, Option.bind_some, Int.reduceEq, Int.reduceLE, ↓reduceIte, decide_false, Bool.false_eq_true, hpc, impl_StepCpu.j1, doX, and_false, i1, i4, i6, el_0, p1, p3, List.append_assoc, List.singleton_append]
    · have hl : 1 ≤ S.length := by simp [takesM] at htk; omega
      simp only [show takesM 12 = 1 from rfl, t1 hl, Option.bind_some, Int.reduceEq, Int.reduceLE, ↓reduceIte, decide_false, Bool.false_eq_true, hpc, impl_StepCpu.j1, impl_StepCpu.j2, impl_StepCpu.j3, doX, and_false]
    · have hl : 1 ≤ S.length := by simp [takesM] at htk; omega
      simp only [show takesM 13 = 1 from rfl, t1 hl, Option.bind_some, Int.reduceEq, Int.reduceLE, ↓reduceIte, decide_false, Bool.false_eq_true, hpc, impl_StepCpu.j1, impl_StepCpu.j2, impl_StepCpu.j3, doX, and_false, i1, i4, i6, el_0, true_or]
    · simp only [show takesM 14 = 0 from rfl, t0, Option.bind_some, Int.reduceEq, Int.reduceLE, ↓reduceIte, decide_false, Bool.false_eq_true, hpc, impl_StepCpu.j1, impl_StepCpu.j2, impl_StepCpu.j3, doX, and_false, or_self, true_or]
    · simp only [show takesM 15 = 0 from rfl, t0, Option.bind_some, Int.reduceEq, Int.reduceLE, ↓reduceIte, decide_false, decide_true, Bool.false_eq_true, hpc, impl_StepCpu.j1, impl_StepCpu.j2, impl_StepCpu.j3, doX, and_false, or_self, or_true]
    · have hl : 1 ≤ S.length := by simp [takesM] at htk; omega
      simp only [show takesM 16 = 1 from rfl, t1 hl, Option.bind_some, Int.reduceEq, Int.reduceLE, ↓reduceIte, decide_false, decide_true, Bool.false_eq_true, hpc, impl_StepCpu.j1, impl_StepCpu.j2, impl_StepCpu.j3, doX, and_false, i1, i4, i6, el_0, or_true]
    · simp only [show takesM 17 = 0 from rfl, t0, Option.bind_some, Int.reduceEq, Int.reduceLE, ↓reduceIte, decide_false, Bool.false_eq_true, hpc, impl_StepCpu.j1, impl_StepCpu.j2, impl_StepCpu.j3, doX, and_false, or_self, mod_i, p0]
  · rw [if_pos h0, if_neg h0]
end Go.Proofs.Ytcnaldcinkmpbaa.Pure
