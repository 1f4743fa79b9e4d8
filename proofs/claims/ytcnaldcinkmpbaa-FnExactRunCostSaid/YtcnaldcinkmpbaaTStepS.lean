/- One step of the reference's machine. No condition. -/
import Derived.Test.YtcnaldcinkmpbaaTStepI
namespace Go.Proofs.Ytcnaldcinkmpbaa.Pure
open Go Go.Proofs.YtcnaldcinkmpbaaA Go.Proofs.YtcnaldcinkmpbaaU Go.Proofs.Ytcnaldcinkmpbaa.QA
set_option linter.unusedVariables false
set_option linter.unusedSimpArgs false
theorem load_s {k : Nat} {a : List Int} {r : Int × Int} {p : Int} (ha : a.length ≤ 1048576) : spec_LoadCell.f k a r p = some (if cellAt a r p < 0 then (0, false) else (el I1 a (cellAt a r p).toNat, true)) := by
  unfold spec_LoadCell.f
  rw [cellAt_s ha]
  simp only [Option.bind_some]
  by_cases h : cellAt a r p < 0
  · rw [if_pos h, if_pos h]
  · have hc := cellAt_lt h
    rw [if_neg h, if_neg h, if_pos hc.1, if_pos hc.2]
theorem store_s {k : Nat} {a : List Int} {r : Int × Int} {p v : Int} (ha : a.length ≤ 1048576) : spec_StoreCell.f k a r p v = some (if cellAt a r p < 0 then (a, false) else (a.set (cellAt a r p).toNat (v % 65536), true)) := by
  unfold spec_StoreCell.f
  rw [cellAt_s ha, arena_s ha]
  simp only [Option.bind_some, mod_s]
  by_cases h : cellAt a r p < 0
  · rw [if_pos h, if_pos h]
  · have hc := cellAt_lt h
    rw [if_neg h, if_neg h, if_pos hc.1, if_pos hc.2]
theorem sum_s {k : Nat} {op a b : Int} (ha : Word a) (hb : Word b) : spec_l06Sum.f k op a b = some (if op = 7 ∧ b = 0 then (0, false) else (reckon op a b, true)) := by
  have hm := mul_in ha hb
  have ha' := ha
  have hb' := hb
  unfold Word at ha' hb'
  unfold spec_l06Sum.f reckon
  rw [w64_id (z := a + b) (by omega) (by omega), w64_id (z := a - b) (by omega) (by omega), w64_id (z := a * b) (by omega) (by omega), mod_s, mod_s, mod_s]
  simp only [Option.bind_some]
  by_cases o7 : op = 7
  · subst o7
    simp only [Int.reduceEq, ↓reduceIte, true_and]
    by_cases h : b = 0
    · rw [if_pos h, if_pos h]
    · have e : Int.tdiv a b = a / b := Int.tdiv_eq_ediv_of_nonneg ha'.1
      have h1 : 0 ≤ a / b := Int.ediv_nonneg ha'.1 hb'.1
      have h2 : a / b ≤ a := Int.ediv_le_self _ ha'.1
      rw [if_neg h, if_neg h, if_pos h, e, w64_id (by omega) (by omega)]
  · rw [if_neg (c := op = 7 ∧ b = 0) (fun h => o7 h.1), if_neg (c := op = 7) o7]
    by_cases o4 : op = 4
    · rw [if_pos o4, if_pos o4]
    rw [if_neg o4, if_neg o4]
    by_cases o5 : op = 5
    · rw [if_pos o5, if_pos o5]
    rw [if_neg o5, if_neg o5]
    by_cases o6 : op = 6
    · rw [if_pos o6, if_pos o6]
    rw [if_neg o6, if_neg o6, if_neg o7]
    split <;> rfl
theorem j1_s {k : Nat} {z1 z2 z4 z5 z6 z7 z8 z9 z10 z11 z12 z13 z14 : Int} {z15 z16 z17 z18 z19 z20 S : List Int} (h1 : 0 ≤ z1 ∧ z1 ≤ 2) (h2 : 0 ≤ z2 ∧ z2 ≤ 2) (hS : S.length ≤ 8) (ha : z15.length ≤ 1048576) :
    spec_StepCpu.j1 k (z1, z2, (S.length : Int), z4, z5, z6, z7, z8, z9, z10, z11, z12, z13, z14, z15, z16, z17, z18, z19, z20, ()) = some (if 8 < (S.length : Int) - z1 + z2 then ((z9, z18), z15, 0, 0, 0, 4) else ((min z10 60, z19), z20, z11, z12, z13, z14)) := by
  rw [spec_StepCpu.j1, w64_id (z := (S.length : Int) - z1) (by omega) (by omega), w64_id (by omega) (by omega), arena_s ha]
  simp only [Option.bind_some]
  split
  · rfl
  · by_cases h : 60 < z10
    · rw [if_pos h, Int.min_eq_right (by omega)]
    · rw [if_neg h, Int.min_eq_left (by omega)]
theorem word_mod {z : Int} (h : Word z) : z % 65536 = z := by
  unfold Word at h
  omega
theorem step_s {k : Nat} {c : Int × List Int} {code : List (Int × Int)} {a : List Int} {r : Int × Int} {time : Int} (hk : 1048576 < k) (hc : code.length ≤ 1048576) (hs : c.2.length ≤ 1048576) (ha : a.length ≤ 1048576) :
    spec_StepCpu.f k c code a r time = some (stepM c code a r time) := by
  unfold spec_StepCpu.f
  rw [cpu_s hs, cpuOk_s hs hk, codeOk_s hc hk]
  simp only [Option.bind_some, arena_s ha]
  have bad : ¬ (CpuOk c ∧ CodeOk code ∧ c.1 < (code.length : Int)) → stepM c code a r time = (c, a, 0, 0, 0, 6) := fun h => by
    have e : trapM c code a r = 6 := by
      unfold trapM
      rw [B_no h]
      rfl
    unfold stepM
    rw [e]
    rfl
  by_cases g1 : ¬ CpuOk c
  · have h1 := g1
    rw [B_no h1, bad (fun h => h1 h.1)]
    simp
  have h1 := Classical.not_not.1 g1
  by_cases g2 : ¬ CodeOk code
  · have h2 := g2
    rw [B_no h2, B_yes h1, bad (fun h => h2 h.2.1)]
    simp
  have h2 := Classical.not_not.1 g2
  rw [B_yes h1, B_yes h2, if_neg (fun h => h rfl), if_neg (fun h => h rfl)]
  by_cases g3 : ¬ (c.1 < (code.length : Int))
  · have h3 := g3
    rw [if_pos (by omega), bad (fun h => h3 h.2.2)]
  have h3 := Classical.not_not.1 g3
  rw [if_neg (by omega), if_pos h1.1.1, if_pos h3]
  have e : trapM c code a r = trapX (el C2 code c.1.toNat) c.2 a r := by
    unfold trapM
    rw [B_yes ⟨h1, h2, h3⟩, if_pos rfl]
  unfold stepM
  rw [e]
  clear e bad
  have hin := h2.1 c.1.toNat (by have := h1.1.1; omega)
  have h60 := h2.2
  clear h2
  obtain ⟨pc, S⟩ := c
  obtain ⟨⟨hp0, hp1⟩, hS, hw⟩ := h1
  simp only at hp0 hp1 hS hw h3 hs hin ⊢
  obtain ⟨op, g, hxe⟩ : ∃ op g : Int, el C2 code pc.toNat = (op, g) := ⟨_, _, rfl⟩
  rw [hxe] at hin ⊢
  simp only [show el (.pair (.int .i64) (.int .i64)) code pc.toNat = (op, g) from hxe]
  clear hxe
  have hop := hin.1
  have hg := hin.2
  simp only at hop hg
  clear hin
  by_cases h4 : 17 < op
  · have e : trapX (op, g) S a r = 1 := by
      unfold trapX
      rw [if_pos h4]
    rw [if_pos h4, e]
    rfl
  rw [if_neg h4]
  have hpc : w64 (pc + 1) = pc + 1 := w64_id (by omega) (by omega)
  have hpm : min (pc + 1) 60 = pc + 1 := Int.min_eq_left (by omega)
  have w0 : w64 (S.length : Int) = (S.length : Int) := w64_id (by omega) (by omega)
  have w1 : 1 ≤ S.length → w64 ((S.length : Int) - 1) = ((S.length - 1 : Nat) : Int) := fun h => by rw [w64_id (by omega) (by omega)]; omega
  have w2 : 2 ≤ S.length → w64 ((S.length : Int) - 2) = ((S.length - 2 : Nat) : Int) := fun h => by rw [w64_id (by omega) (by omega)]; omega
  have b0 : (0 : Int) ≤ (S.length : Int) := by omega
  have b1 : (0 : Int) ≤ ((S.length - 1 : Nat) : Int) := by omega
  have b2 : (0 : Int) ≤ ((S.length - 2 : Nat) : Int) := by omega
  have d0 : ((S.length : Nat) : Int) ≤ (S.length : Int) := by omega
  have d1 : ((S.length - 1 : Nat) : Int) ≤ (S.length : Int) := by omega
  have d2 : ((S.length - 2 : Nat) : Int) ≤ (S.length : Int) := by omega
  have c1 : 1 ≤ S.length → ((S.length - 1 : Nat) : Int) < (S.length : Int) := fun h => by omega
  have c2 : 2 ≤ S.length → ((S.length - 2 : Nat) : Int) < (S.length : Int) := fun h => by omega
  have s0 : S.take S.length = S := List.take_length
  have s1 : S.take (S.length - 1) = low S 1 := rfl
  have s2 : S.take (S.length - 2) = low S 2 := rfl
  have l1 := low_len S 1
  have l2 := low_len S 2
  have q : ∀ T : List Int, T.length ≤ S.length → (0 + T.length) * 8 ≤ 140737488355328 := fun T h => by omega
  have q1 : ∀ T : List Int, T.length ≤ S.length → (T.length + (0 + 1)) * 8 ≤ 140737488355328 := fun T h => by omega
  have q2 : ∀ T : List Int, T.length ≤ S.length → (T.length + (0 + 1 + 1)) * 8 ≤ 140737488355328 := fun T h => by omega
  have eS := Nat.le_refl S.length
  have u1 : el (.int .i64) S (S.length - 1) = top S := rfl
  have u2 : el (.int .i64) S (S.length - 2) = sec S := rfl
  have n0 : ∀ x : Int, 0 ≤ x ∧ x ≤ 2 → (0 : Int) ≤ x ∧ x ≤ 2 := fun x h => h
  rcases op_cases hop.1 h4 with h | h | h | h | h | h | h | h | h | h | h | h | h | h | h | h | h | h <;> subst h
  · have hn : spec_l06Needs.f k 0 = some (0, 0) := rfl
    have j : ∀ {z4 z5 z6 z7 z8 z9 z10 z11 z12 z13 z14 : Int} {z15 z16 z17 z18 z19 z20 : List Int}, z15.length ≤ 1048576 → spec_StepCpu.j1 k (0, 0, (S.length : Int), z4, z5, z6, z7, z8, z9, z10, z11, z12, z13, z14, z15, z16, z17, z18, z19, z20, ()) = some (if 8 < (S.length : Int) - 0 + 0 then ((z9, z18), z15, 0, 0, 0, 4) else ((min z10 60, z19), z20, z11, z12, z13, z14)) := fun h => j1_s (by omega) (by omega) hS h
    rw [hn]
    simp only [Option.bind_some, trapX, show takesM 0 = 0 from rfl, show putsM 0 = 0 from rfl, Int.reduceEq, Int.reduceLT, Int.reduceLE, false_and, true_and, ↓reduceIte, List.length_nil, List.nil_append]
    have hneg : ¬ (S.length : Int) < 0 := by omega
    simp only [hneg, ↓reduceIte]
    have hov : ¬ 8 < (S.length : Int) + 0 := by omega
    simp only [Int.sub_zero, w0, b0, d0, ↓reduceIte, Int.toNat_natCast, s0, q _ eS, Option.bind_some, Int.reduceEq, hpc, hpm, j ha, doX, List.length_cons, List.length_nil, q1 _ eS, q2 _ eS, spec_StepCpu.j2, spec_StepCpu.j3, spec_StepCpu.j4, decide_false, decide_true, Bool.false_eq_true, Int.reduceLE, and_false, false_and, and_self, true_or, or_true, or_self, hov]
  · have hn : spec_l06Needs.f k 1 = some (0, 1) := rfl
    have j : ∀ {z4 z5 z6 z7 z8 z9 z10 z11 z12 z13 z14 : Int} {z15 z16 z17 z18 z19 z20 : List Int}, z15.length ≤ 1048576 → spec_StepCpu.j1 k (0, 1, (S.length : Int), z4, z5, z6, z7, z8, z9, z10, z11, z12, z13, z14, z15, z16, z17, z18, z19, z20, ()) = some (if 8 < (S.length : Int) - 0 + 1 then ((z9, z18), z15, 0, 0, 0, 4) else ((min z10 60, z19), z20, z11, z12, z13, z14)) := fun h => j1_s (by omega) (by omega) hS h
    rw [hn]
    simp only [Option.bind_some, trapX, show takesM 1 = 0 from rfl, show putsM 1 = 1 from rfl, Int.reduceEq, Int.reduceLT, Int.reduceLE, false_and, true_and, ↓reduceIte, List.length_nil, List.nil_append]
    have hneg : ¬ (S.length : Int) < 0 := by omega
    simp only [hneg, ↓reduceIte]
    simp only [Int.sub_zero, w0, b0, d0, ↓reduceIte, Int.toNat_natCast, s0, q _ eS, Option.bind_some, Int.reduceEq, hpc, hpm, j ha, doX, List.length_cons, List.length_nil, q1 _ eS, q2 _ eS, spec_StepCpu.j2, spec_StepCpu.j3, spec_StepCpu.j4, decide_false, decide_true, Bool.false_eq_true, Int.reduceLE, and_false, false_and, and_self, true_or, or_true, or_self, mod_s]
    by_cases hv : 8 < (S.length : Int) + 1
    · simp only [hv, ↓reduceIte, Int.reduceEq]
    · simp only [hv, ↓reduceIte]
  · have hn : spec_l06Needs.f k 2 = some (1, 1) := rfl
    have j : ∀ {z4 z5 z6 z7 z8 z9 z10 z11 z12 z13 z14 : Int} {z15 z16 z17 z18 z19 z20 : List Int}, z15.length ≤ 1048576 → spec_StepCpu.j1 k (1, 1, (S.length : Int), z4, z5, z6, z7, z8, z9, z10, z11, z12, z13, z14, z15, z16, z17, z18, z19, z20, ()) = some (if 8 < (S.length : Int) - 1 + 1 then ((z9, z18), z15, 0, 0, 0, 4) else ((min z10 60, z19), z20, z11, z12, z13, z14)) := fun h => j1_s (by omega) (by omega) hS h
    rw [hn]
    simp only [Option.bind_some, trapX, show takesM 2 = 1 from rfl, show putsM 2 = 1 from rfl, Int.reduceEq, Int.reduceLT, Int.reduceLE, false_and, true_and, ↓reduceIte, List.length_nil, List.nil_append]
    by_cases hl : (S.length : Int) < 1
    · rw [if_pos hl, if_pos hl]
      rfl
    rw [if_neg hl, if_neg hl]
    have hl1 : 1 ≤ S.length := by omega
    have ht := top_w hw hl1
    have e : w64 (top S + g) = top S + g := w64_id (by unfold Word at ht; omega) (by unfold Word at ht; omega)
    have hov : ¬ 8 < (S.length : Int) - 1 + 1 := by omega
    simp only [w1 hl1, b1, d1, ↓reduceIte, Int.toNat_natCast, s1, q _ l1, Option.bind_some, Int.reduceEq, hpc, hpm, j ha, doX, List.length_cons, List.length_nil, q1 _ l1, q2 _ l1, spec_StepCpu.j2, spec_StepCpu.j3, spec_StepCpu.j4, decide_false, decide_true, Bool.false_eq_true, Int.reduceLE, and_false, false_and, and_self, true_or, or_true, or_self, c1 hl1, u1, e, load_s ha, mod_s, hov]
    by_cases hz : cellAt a r (top S + g) < 0
    · simp only [hz, ↓reduceIte, Bool.false_eq_true, not_false_eq_true, Int.reduceEq]
    · simp only [hz, ↓reduceIte, not_true_eq_false]
  · have hn : spec_l06Needs.f k 3 = some (2, 0) := rfl
    have j : ∀ {z4 z5 z6 z7 z8 z9 z10 z11 z12 z13 z14 : Int} {z15 z16 z17 z18 z19 z20 : List Int}, z15.length ≤ 1048576 → spec_StepCpu.j1 k (2, 0, (S.length : Int), z4, z5, z6, z7, z8, z9, z10, z11, z12, z13, z14, z15, z16, z17, z18, z19, z20, ()) = some (if 8 < (S.length : Int) - 2 + 0 then ((z9, z18), z15, 0, 0, 0, 4) else ((min z10 60, z19), z20, z11, z12, z13, z14)) := fun h => j1_s (by omega) (by omega) hS h
    rw [hn]
    simp only [Option.bind_some, trapX, show takesM 3 = 2 from rfl, show putsM 3 = 0 from rfl, Int.reduceEq, Int.reduceLT, Int.reduceLE, false_and, true_and, ↓reduceIte, List.length_nil, List.nil_append]
    by_cases hl : (S.length : Int) < 2
    · rw [if_pos hl, if_pos hl]
      rfl
    rw [if_neg hl, if_neg hl]
    have hl2 : 2 ≤ S.length := by omega
    have hl1 : 1 ≤ S.length := by omega
    have ht := top_w hw hl1
    have hsx := sec_w hw hl2
    have e : w64 (sec S + g) = sec S + g := w64_id (by unfold Word at hsx; omega) (by unfold Word at hsx; omega)
    have hov : ¬ 8 < (S.length : Int) - 2 + 0 := by omega
    simp only [w2 hl2, b2, d2, ↓reduceIte, Int.toNat_natCast, s2, q _ l2, Option.bind_some, Int.reduceEq, hpc, hpm, j ha, doX, List.length_cons, List.length_nil, q1 _ l2, q2 _ l2, spec_StepCpu.j2, spec_StepCpu.j3, spec_StepCpu.j4, decide_false, decide_true, Bool.false_eq_true, Int.reduceLE, and_false, false_and, and_self, true_or, or_true, or_self, w1 hl1, b1, d1, c1 hl1, c2 hl2, u1, u2, e, store_s ha, word_mod ht, hov]
    by_cases hz : cellAt a r (sec S + g) < 0
    · simp only [hz, ↓reduceIte, Bool.false_eq_true, not_false_eq_true, Int.reduceEq]
    · simp only [hz, ↓reduceIte, not_true_eq_false]
  · have hn : spec_l06Needs.f k 4 = some (2, 1) := rfl
    have j : ∀ {z4 z5 z6 z7 z8 z9 z10 z11 z12 z13 z14 : Int} {z15 z16 z17 z18 z19 z20 : List Int}, z15.length ≤ 1048576 → spec_StepCpu.j1 k (2, 1, (S.length : Int), z4, z5, z6, z7, z8, z9, z10, z11, z12, z13, z14, z15, z16, z17, z18, z19, z20, ()) = some (if 8 < (S.length : Int) - 2 + 1 then ((z9, z18), z15, 0, 0, 0, 4) else ((min z10 60, z19), z20, z11, z12, z13, z14)) := fun h => j1_s (by omega) (by omega) hS h
    rw [hn]
    simp only [Option.bind_some, trapX, show takesM 4 = 2 from rfl, show putsM 4 = 1 from rfl, Int.reduceEq, Int.reduceLT, Int.reduceLE, false_and, true_and, ↓reduceIte, List.length_nil, List.nil_append]
    by_cases hl : (S.length : Int) < 2
    · rw [if_pos hl, if_pos hl]
      rfl
    rw [if_neg hl, if_neg hl]
    have hl2 : 2 ≤ S.length := by omega
    have hl1 : 1 ≤ S.length := by omega
    have ht := top_w hw hl1
    have hsx := sec_w hw hl2
    have hov : ¬ 8 < (S.length : Int) - 2 + 1 := by omega
    simp only [w2 hl2, b2, d2, ↓reduceIte, Int.toNat_natCast, s2, q _ l2, Option.bind_some, Int.reduceEq, hpc, hpm, j ha, doX, List.length_cons, List.length_nil, q1 _ l2, q2 _ l2, spec_StepCpu.j2, spec_StepCpu.j3, spec_StepCpu.j4, decide_false, decide_true, Bool.false_eq_true, Int.reduceLE, and_false, false_and, and_self, true_or, or_true, or_self, w1 hl1, b1, c1 hl1, c2 hl2, u1, u2, sum_s hsx ht, hov, not_true_eq_false]
  · have hn : spec_l06Needs.f k 5 = some (2, 1) := rfl
    have j : ∀ {z4 z5 z6 z7 z8 z9 z10 z11 z12 z13 z14 : Int} {z15 z16 z17 z18 z19 z20 : List Int}, z15.length ≤ 1048576 → spec_StepCpu.j1 k (2, 1, (S.length : Int), z4, z5, z6, z7, z8, z9, z10, z11, z12, z13, z14, z15, z16, z17, z18, z19, z20, ()) = some (if 8 < (S.length : Int) - 2 + 1 then ((z9, z18), z15, 0, 0, 0, 4) else ((min z10 60, z19), z20, z11, z12, z13, z14)) := fun h => j1_s (by omega) (by omega) hS h
    rw [hn]
    simp only [Option.bind_some, trapX, show takesM 5 = 2 from rfl, show putsM 5 = 1 from rfl, Int.reduceEq, Int.reduceLT, Int.reduceLE, false_and, true_and, ↓reduceIte, List.length_nil, List.nil_append]
    by_cases hl : (S.length : Int) < 2
    · rw [if_pos hl, if_pos hl]
      rfl
    rw [if_neg hl, if_neg hl]
    have hl2 : 2 ≤ S.length := by omega
    have hl1 : 1 ≤ S.length := by omega
    have ht := top_w hw hl1
    have hsx := sec_w hw hl2
    have hov : ¬ 8 < (S.length : Int) - 2 + 1 := by omega
    simp only [w2 hl2, b2, d2, ↓reduceIte, Int.toNat_natCast, s2, q _ l2, Option.bind_some, Int.reduceEq, hpc, hpm, j ha, doX, List.length_cons, List.length_nil, q1 _ l2, q2 _ l2, spec_StepCpu.j2, spec_StepCpu.j3, spec_StepCpu.j4, decide_false, decide_true, Bool.false_eq_true, Int.reduceLE, and_false, false_and, and_self, true_or, or_true, or_self, w1 hl1, b1, c1 hl1, c2 hl2, u1, u2, sum_s hsx ht, hov, not_true_eq_false]
  · have hn : spec_l06Needs.f k 6 = some (2, 1) := rfl
    have j : ∀ {z4 z5 z6 z7 z8 z9 z10 z11 z12 z13 z14 : Int} {z15 z16 z17 z18 z19 z20 : List Int}, z15.length ≤ 1048576 → spec_StepCpu.j1 k (2, 1, (S.length : Int), z4, z5, z6, z7, z8, z9, z10, z11, z12, z13, z14, z15, z16, z17, z18, z19, z20, ()) = some (if 8 < (S.length : Int) - 2 + 1 then ((z9, z18), z15, 0, 0, 0, 4) else ((min z10 60, z19), z20, z11, z12, z13, z14)) := fun h => j1_s (by omega) (by omega) hS h
    rw [hn]
    simp only [Option.bind_some, trapX, show takesM 6 = 2 from rfl, show putsM 6 = 1 from rfl, Int.reduceEq, Int.reduceLT, Int.reduceLE, false_and, true_and, ↓reduceIte, List.length_nil, List.nil_append]
    by_cases hl : (S.length : Int) < 2
    · rw [if_pos hl, if_pos hl]
      rfl
    rw [if_neg hl, if_neg hl]
    have hl2 : 2 ≤ S.length := by omega
    have hl1 : 1 ≤ S.length := by omega
    have ht := top_w hw hl1
    have hsx := sec_w hw hl2
    have hov : ¬ 8 < (S.length : Int) - 2 + 1 := by omega
    simp only [w2 hl2, b2, d2, ↓reduceIte, Int.toNat_natCast, s2, q _ l2, Option.bind_some, Int.reduceEq, hpc, hpm, j ha, doX, List.length_cons, List.length_nil, q1 _ l2, q2 _ l2, spec_StepCpu.j2, spec_StepCpu.j3, spec_StepCpu.j4, decide_false, decide_true, Bool.false_eq_true, Int.reduceLE, and_false, false_and, and_self, true_or, or_true, or_self, w1 hl1, b1, c1 hl1, c2 hl2, u1, u2, sum_s hsx ht, hov, not_true_eq_false]
  · have hn : spec_l06Needs.f k 7 = some (2, 1) := rfl
    have j : ∀ {z4 z5 z6 z7 z8 z9 z10 z11 z12 z13 z14 : Int} {z15 z16 z17 z18 z19 z20 : List Int}, z15.length ≤ 1048576 → spec_StepCpu.j1 k (2, 1, (S.length : Int), z4, z5, z6, z7, z8, z9, z10, z11, z12, z13, z14, z15, z16, z17, z18, z19, z20, ()) = some (if 8 < (S.length : Int) - 2 + 1 then ((z9, z18), z15, 0, 0, 0, 4) else ((min z10 60, z19), z20, z11, z12, z13, z14)) := fun h => j1_s (by omega) (by omega) hS h
    rw [hn]
    simp only [Option.bind_some, trapX, show takesM 7 = 2 from rfl, show putsM 7 = 1 from rfl, Int.reduceEq, Int.reduceLT, Int.reduceLE, false_and, true_and, ↓reduceIte, List.length_nil, List.nil_append]
    by_cases hl : (S.length : Int) < 2
    · rw [if_pos hl, if_pos hl]
      rfl
    rw [if_neg hl, if_neg hl]
    have hl2 : 2 ≤ S.length := by omega
    have hl1 : 1 ≤ S.length := by omega
    have ht := top_w hw hl1
    have hsx := sec_w hw hl2
    have hov : ¬ 8 < (S.length : Int) - 2 + 1 := by omega
    simp only [w2 hl2, b2, d2, ↓reduceIte, Int.toNat_natCast, s2, q _ l2, Option.bind_some, Int.reduceEq, hpc, hpm, j ha, doX, List.length_cons, List.length_nil, q1 _ l2, q2 _ l2, spec_StepCpu.j2, spec_StepCpu.j3, spec_StepCpu.j4, decide_false, decide_true, Bool.false_eq_true, Int.reduceLE, and_false, false_and, and_self, true_or, or_true, or_self, w1 hl1, b1, c1 hl1, c2 hl2, u1, u2, sum_s hsx ht, hov, not_true_eq_false]
    by_cases hz : top S = 0
    · simp only [hz, ↓reduceIte, arena_s ha, Option.bind_some, and_self, Bool.false_eq_true, not_false_eq_true, Int.reduceEq]
    · simp only [hz, ↓reduceIte, and_false, not_true_eq_false, Int.reduceEq]
  · have hn : spec_l06Needs.f k 8 = some (2, 1) := rfl
    have j : ∀ {z4 z5 z6 z7 z8 z9 z10 z11 z12 z13 z14 : Int} {z15 z16 z17 z18 z19 z20 : List Int}, z15.length ≤ 1048576 → spec_StepCpu.j1 k (2, 1, (S.length : Int), z4, z5, z6, z7, z8, z9, z10, z11, z12, z13, z14, z15, z16, z17, z18, z19, z20, ()) = some (if 8 < (S.length : Int) - 2 + 1 then ((z9, z18), z15, 0, 0, 0, 4) else ((min z10 60, z19), z20, z11, z12, z13, z14)) := fun h => j1_s (by omega) (by omega) hS h
    rw [hn]
    simp only [Option.bind_some, trapX, show takesM 8 = 2 from rfl, show putsM 8 = 1 from rfl, Int.reduceEq, Int.reduceLT, Int.reduceLE, false_and, true_and, ↓reduceIte, List.length_nil, List.nil_append]
    by_cases hl : (S.length : Int) < 2
    · rw [if_pos hl, if_pos hl]
      rfl
    rw [if_neg hl, if_neg hl]
    have hl2 : 2 ≤ S.length := by omega
    have hl1 : 1 ≤ S.length := by omega
    have ht := top_w hw hl1
    have hsx := sec_w hw hl2
    have hov : ¬ 8 < (S.length : Int) - 2 + 1 := by omega
    simp only [w2 hl2, b2, d2, ↓reduceIte, Int.toNat_natCast, s2, q _ l2, Option.bind_some, Int.reduceEq, hpc, hpm, j ha, doX, List.length_cons, List.length_nil, q1 _ l2, q2 _ l2, spec_StepCpu.j2, spec_StepCpu.j3, spec_StepCpu.j4, decide_false, decide_true, Bool.false_eq_true, Int.reduceLE, and_false, false_and, and_self, true_or, or_true, or_self, w1 hl1, b1, c1 hl1, c2 hl2, u1, u2, sum_s hsx ht, hov, not_true_eq_false]
  · have hn : spec_l06Needs.f k 9 = some (0, 0) := rfl
    have j : ∀ {z4 z5 z6 z7 z8 z9 z10 z11 z12 z13 z14 : Int} {z15 z16 z17 z18 z19 z20 : List Int}, z15.length ≤ 1048576 → spec_StepCpu.j1 k (0, 0, (S.length : Int), z4, z5, z6, z7, z8, z9, z10, z11, z12, z13, z14, z15, z16, z17, z18, z19, z20, ()) = some (if 8 < (S.length : Int) - 0 + 0 then ((z9, z18), z15, 0, 0, 0, 4) else ((min z10 60, z19), z20, z11, z12, z13, z14)) := fun h => j1_s (by omega) (by omega) hS h
    rw [hn]
    simp only [Option.bind_some, trapX, show takesM 9 = 0 from rfl, show putsM 9 = 0 from rfl, Int.reduceEq, Int.reduceLT, Int.reduceLE, false_and, true_and, ↓reduceIte, List.length_nil, List.nil_append]
    have hneg : ¬ (S.length : Int) < 0 := by omega
    simp only [hneg, ↓reduceIte]
    have hov : ¬ 8 < (S.length : Int) + 0 := by omega
    simp only [Int.sub_zero, w0, b0, d0, ↓reduceIte, Int.toNat_natCast, s0, q _ eS, Option.bind_some, Int.reduceEq, hpc, hpm, j ha, doX, List.length_cons, List.length_nil, q1 _ eS, q2 _ eS, spec_StepCpu.j2, spec_StepCpu.j3, spec_StepCpu.j4, decide_false, decide_true, Bool.false_eq_true, Int.reduceLE, and_false, false_and, and_self, true_or, or_true, or_self, hov]
  · have hn : spec_l06Needs.f k 10 = some (1, 0) := rfl
    have j : ∀ {z4 z5 z6 z7 z8 z9 z10 z11 z12 z13 z14 : Int} {z15 z16 z17 z18 z19 z20 : List Int}, z15.length ≤ 1048576 → spec_StepCpu.j1 k (1, 0, (S.length : Int), z4, z5, z6, z7, z8, z9, z10, z11, z12, z13, z14, z15, z16, z17, z18, z19, z20, ()) = some (if 8 < (S.length : Int) - 1 + 0 then ((z9, z18), z15, 0, 0, 0, 4) else ((min z10 60, z19), z20, z11, z12, z13, z14)) := fun h => j1_s (by omega) (by omega) hS h
    rw [hn]
    simp only [Option.bind_some, trapX, show takesM 10 = 1 from rfl, show putsM 10 = 0 from rfl, Int.reduceEq, Int.reduceLT, Int.reduceLE, false_and, true_and, ↓reduceIte, List.length_nil, List.nil_append]
    by_cases hl : (S.length : Int) < 1
    · rw [if_pos hl, if_pos hl]
      rfl
    rw [if_neg hl, if_neg hl]
    have hl1 : 1 ≤ S.length := by omega
    have ht := top_w hw hl1
    have hov : ¬ 8 < (S.length : Int) - 1 + 0 := by omega
    simp only [w1 hl1, b1, d1, ↓reduceIte, Int.toNat_natCast, s1, q _ l1, Option.bind_some, Int.reduceEq, hpc, hpm, j ha, doX, List.length_cons, List.length_nil, q1 _ l1, q2 _ l1, spec_StepCpu.j2, spec_StepCpu.j3, spec_StepCpu.j4, decide_false, decide_true, Bool.false_eq_true, Int.reduceLE, and_false, false_and, and_self, true_or, or_true, or_self, c1 hl1, u1, hov]
    split <;> rfl
  · have hn : spec_l06Needs.f k 11 = some (1, 2) := rfl
    have j : ∀ {z4 z5 z6 z7 z8 z9 z10 z11 z12 z13 z14 : Int} {z15 z16 z17 z18 z19 z20 : List Int}, z15.length ≤ 1048576 → spec_StepCpu.j1 k (1, 2, (S.length : Int), z4, z5, z6, z7, z8, z9, z10, z11, z12, z13, z14, z15, z16, z17, z18, z19, z20, ()) = some (if 8 < (S.length : Int) - 1 + 2 then ((z9, z18), z15, 0, 0, 0, 4) else ((min z10 60, z19), z20, z11, z12, z13, z14)) := fun h => j1_s (by omega) (by omega) hS h
    rw [hn]
    simp only [Option.bind_some, trapX, show takesM 11 = 1 from rfl, show putsM 11 = 2 from rfl, Int.reduceEq, Int.reduceLT, Int.reduceLE, false_and, true_and, ↓reduceIte, List.length_nil, List.nil_append]
    by_cases hl : (S.length : Int) < 1
    · rw [if_pos hl, if_pos hl]
      rfl
    rw [if_neg hl, if_neg hl]
    have hl1 : 1 ≤ S.length := by omega
    have ht := top_w hw hl1
    simp only [w1 hl1, b1, d1, ↓reduceIte, Int.toNat_natCast, s1, q _ l1, Option.bind_some, Int.reduceEq, hpc, hpm, j ha, doX, List.length_cons, List.length_nil, q1 _ l1, q2 _ l1, spec_StepCpu.j2, spec_StepCpu.j3, spec_StepCpu.j4, decide_false, decide_true, Bool.false_eq_true, Int.reduceLE, and_false, false_and, and_self, true_or, or_true, or_self, c1 hl1, u1]
    by_cases hv : 8 < (S.length : Int) - 1 + 2
    · simp only [hv, ↓reduceIte, Int.reduceEq]
    · simp only [hv, ↓reduceIte]
  · have hn : spec_l06Needs.f k 12 = some (1, 0) := rfl
    have j : ∀ {z4 z5 z6 z7 z8 z9 z10 z11 z12 z13 z14 : Int} {z15 z16 z17 z18 z19 z20 : List Int}, z15.length ≤ 1048576 → spec_StepCpu.j1 k (1, 0, (S.length : Int), z4, z5, z6, z7, z8, z9, z10, z11, z12, z13, z14, z15, z16, z17, z18, z19, z20, ()) = some (if 8 < (S.length : Int) - 1 + 0 then ((z9, z18), z15, 0, 0, 0, 4) else ((min z10 60, z19), z20, z11, z12, z13, z14)) := fun h => j1_s (by omega) (by omega) hS h
    rw [hn]
    simp only [Option.bind_some, trapX, show takesM 12 = 1 from rfl, show putsM 12 = 0 from rfl, Int.reduceEq, Int.reduceLT, Int.reduceLE, false_and, true_and, ↓reduceIte, List.length_nil, List.nil_append]
    by_cases hl : (S.length : Int) < 1
    · rw [if_pos hl, if_pos hl]
      rfl
    rw [if_neg hl, if_neg hl]
    have hl1 : 1 ≤ S.length := by omega
    have ht := top_w hw hl1
    have hov : ¬ 8 < (S.length : Int) - 1 + 0 := by omega
    simp only [w1 hl1, b1, d1, ↓reduceIte, Int.toNat_natCast, s1, q _ l1, Option.bind_some, Int.reduceEq, hpc, hpm, j ha, doX, List.length_cons, List.length_nil, q1 _ l1, q2 _ l1, spec_StepCpu.j2, spec_StepCpu.j3, spec_StepCpu.j4, decide_false, decide_true, Bool.false_eq_true, Int.reduceLE, and_false, false_and, and_self, true_or, or_true, or_self, hov]
  · have hn : spec_l06Needs.f k 13 = some (1, 0) := rfl
    have j : ∀ {z4 z5 z6 z7 z8 z9 z10 z11 z12 z13 z14 : Int} {z15 z16 z17 z18 z19 z20 : List Int}, z15.length ≤ 1048576 → spec_StepCpu.j1 k (1, 0, (S.length : Int), z4, z5, z6, z7, z8, z9, z10, z11, z12, z13, z14, z15, z16, z17, z18, z19, z20, ()) = some (if 8 < (S.length : Int) - 1 + 0 then ((z9, z18), z15, 0, 0, 0, 4) else ((min z10 60, z19), z20, z11, z12, z13, z14)) := fun h => j1_s (by omega) (by omega) hS h
    rw [hn]
    simp only [Option.bind_some, trapX, show takesM 13 = 1 from rfl, show putsM 13 = 0 from rfl, Int.reduceEq, Int.reduceLT, Int.reduceLE, false_and, true_and, ↓reduceIte, List.length_nil, List.nil_append]
    by_cases hl : (S.length : Int) < 1
    · rw [if_pos hl, if_pos hl]
      rfl
    rw [if_neg hl, if_neg hl]
    have hl1 : 1 ≤ S.length := by omega
    have ht := top_w hw hl1
    have hov : ¬ 8 < (S.length : Int) - 1 + 0 := by omega
    simp only [w1 hl1, b1, d1, ↓reduceIte, Int.toNat_natCast, s1, q _ l1, Option.bind_some, Int.reduceEq, hpc, hpm, j ha, doX, List.length_cons, List.length_nil, q1 _ l1, q2 _ l1, spec_StepCpu.j2, spec_StepCpu.j3, spec_StepCpu.j4, decide_false, decide_true, Bool.false_eq_true, Int.reduceLE, and_false, false_and, and_self, true_or, or_true, or_self, c1 hl1, u1, hov]
  · have hn : spec_l06Needs.f k 14 = some (0, 0) := rfl
    have j : ∀ {z4 z5 z6 z7 z8 z9 z10 z11 z12 z13 z14 : Int} {z15 z16 z17 z18 z19 z20 : List Int}, z15.length ≤ 1048576 → spec_StepCpu.j1 k (0, 0, (S.length : Int), z4, z5, z6, z7, z8, z9, z10, z11, z12, z13, z14, z15, z16, z17, z18, z19, z20, ()) = some (if 8 < (S.length : Int) - 0 + 0 then ((z9, z18), z15, 0, 0, 0, 4) else ((min z10 60, z19), z20, z11, z12, z13, z14)) := fun h => j1_s (by omega) (by omega) hS h
    rw [hn]
    simp only [Option.bind_some, trapX, show takesM 14 = 0 from rfl, show putsM 14 = 0 from rfl, Int.reduceEq, Int.reduceLT, Int.reduceLE, false_and, true_and, ↓reduceIte, List.length_nil, List.nil_append]
    have hneg : ¬ (S.length : Int) < 0 := by omega
    simp only [hneg, ↓reduceIte]
    have hov : ¬ 8 < (S.length : Int) + 0 := by omega
    simp only [Int.sub_zero, w0, b0, d0, ↓reduceIte, Int.toNat_natCast, s0, q _ eS, Option.bind_some, Int.reduceEq, hpc, hpm, j ha, doX, List.length_cons, List.length_nil, q1 _ eS, q2 _ eS, spec_StepCpu.j2, spec_StepCpu.j3, spec_StepCpu.j4, decide_false, decide_true, Bool.false_eq_true, Int.reduceLE, and_false, false_and, and_self, true_or, or_true, or_self, hov]
  · have hn : spec_l06Needs.f k 15 = some (0, 0) := rfl
    have j : ∀ {z4 z5 z6 z7 z8 z9 z10 z11 z12 z13 z14 : Int} {z15 z16 z17 z18 z19 z20 : List Int}, z15.length ≤ 1048576 → spec_StepCpu.j1 k (0, 0, (S.length : Int), z4, z5, z6, z7, z8, z9, z10, z11, z12, z13, z14, z15, z16, z17, z18, z19, z20, ()) = some (if 8 < (S.length : Int) - 0 + 0 then ((z9, z18), z15, 0, 0, 0, 4) else ((min z10 60, z19), z20, z11, z12, z13, z14)) := fun h => j1_s (by omega) (by omega) hS h
    rw [hn]
    simp only [Option.bind_some, trapX, show takesM 15 = 0 from rfl, show putsM 15 = 0 from rfl, Int.reduceEq, Int.reduceLT, Int.reduceLE, false_and, true_and, ↓reduceIte, List.length_nil, List.nil_append]
    have hneg : ¬ (S.length : Int) < 0 := by omega
    simp only [hneg, ↓reduceIte]
    have hov : ¬ 8 < (S.length : Int) + 0 := by omega
    simp only [Int.sub_zero, w0, b0, d0, ↓reduceIte, Int.toNat_natCast, s0, q _ eS, Option.bind_some, Int.reduceEq, hpc, hpm, j ha, doX, List.length_cons, List.length_nil, q1 _ eS, q2 _ eS, spec_StepCpu.j2, spec_StepCpu.j3, spec_StepCpu.j4, decide_false, decide_true, Bool.false_eq_true, Int.reduceLE, and_false, false_and, and_self, true_or, or_true, or_self, hov]
  · have hn : spec_l06Needs.f k 16 = some (1, 0) := rfl
    have j : ∀ {z4 z5 z6 z7 z8 z9 z10 z11 z12 z13 z14 : Int} {z15 z16 z17 z18 z19 z20 : List Int}, z15.length ≤ 1048576 → spec_StepCpu.j1 k (1, 0, (S.length : Int), z4, z5, z6, z7, z8, z9, z10, z11, z12, z13, z14, z15, z16, z17, z18, z19, z20, ()) = some (if 8 < (S.length : Int) - 1 + 0 then ((z9, z18), z15, 0, 0, 0, 4) else ((min z10 60, z19), z20, z11, z12, z13, z14)) := fun h => j1_s (by omega) (by omega) hS h
    rw [hn]
    simp only [Option.bind_some, trapX, show takesM 16 = 1 from rfl, show putsM 16 = 0 from rfl, Int.reduceEq, Int.reduceLT, Int.reduceLE, false_and, true_and, ↓reduceIte, List.length_nil, List.nil_append]
    by_cases hl : (S.length : Int) < 1
    · rw [if_pos hl, if_pos hl]
      rfl
    rw [if_neg hl, if_neg hl]
    have hl1 : 1 ≤ S.length := by omega
    have ht := top_w hw hl1
    have hov : ¬ 8 < (S.length : Int) - 1 + 0 := by omega
    simp only [w1 hl1, b1, d1, ↓reduceIte, Int.toNat_natCast, s1, q _ l1, Option.bind_some, Int.reduceEq, hpc, hpm, j ha, doX, List.length_cons, List.length_nil, q1 _ l1, q2 _ l1, spec_StepCpu.j2, spec_StepCpu.j3, spec_StepCpu.j4, decide_false, decide_true, Bool.false_eq_true, Int.reduceLE, and_false, false_and, and_self, true_or, or_true, or_self, c1 hl1, u1, hov]
  · have hn : spec_l06Needs.f k 17 = some (0, 1) := rfl
    have j : ∀ {z4 z5 z6 z7 z8 z9 z10 z11 z12 z13 z14 : Int} {z15 z16 z17 z18 z19 z20 : List Int}, z15.length ≤ 1048576 → spec_StepCpu.j1 k (0, 1, (S.length : Int), z4, z5, z6, z7, z8, z9, z10, z11, z12, z13, z14, z15, z16, z17, z18, z19, z20, ()) = some (if 8 < (S.length : Int) - 0 + 1 then ((z9, z18), z15, 0, 0, 0, 4) else ((min z10 60, z19), z20, z11, z12, z13, z14)) := fun h => j1_s (by omega) (by omega) hS h
    rw [hn]
    simp only [Option.bind_some, trapX, show takesM 17 = 0 from rfl, show putsM 17 = 1 from rfl, Int.reduceEq, Int.reduceLT, Int.reduceLE, false_and, true_and, ↓reduceIte, List.length_nil, List.nil_append]
    have hneg : ¬ (S.length : Int) < 0 := by omega
    simp only [hneg, ↓reduceIte]
    simp only [Int.sub_zero, w0, b0, d0, ↓reduceIte, Int.toNat_natCast, s0, q _ eS, Option.bind_some, Int.reduceEq, hpc, hpm, j ha, doX, List.length_cons, List.length_nil, q1 _ eS, q2 _ eS, spec_StepCpu.j2, spec_StepCpu.j3, spec_StepCpu.j4, decide_false, decide_true, Bool.false_eq_true, Int.reduceLE, and_false, false_and, and_self, true_or, or_true, or_self, mod_s]
    by_cases hv : 8 < (S.length : Int) + 1
    · simp only [hv, ↓reduceIte, Int.reduceEq]
    · simp only [hv, ↓reduceIte]
end Go.Proofs.Ytcnaldcinkmpbaa.Pure
