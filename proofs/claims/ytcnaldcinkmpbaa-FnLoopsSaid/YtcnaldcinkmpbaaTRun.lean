/- Runs of code, and what they cost. No condition. -/
import Derived.Test.YtcnaldcinkmpbaaTMCpu
namespace Go.Proofs.Ytcnaldcinkmpbaa.Pure
open Go Go.Proofs.YtcnaldcinkmpbaaA Go.Proofs.YtcnaldcinkmpbaaU Go.Proofs.Ytcnaldcinkmpbaa.QA
set_option linter.unusedVariables false
set_option linter.unusedSimpArgs false
/-! ### a machine stays right -/
theorem words_mem {S : List Int} : WordsOk S ↔ ∀ x, x ∈ S → Word x := ⟨fun h x hx => by
    obtain ⟨i, hi, rfl⟩ := List.mem_iff_getElem.1 hx
    have := h i hi
    rw [el_at (t := I1) (List.getElem?_eq_getElem hi)] at this
    exact this, fun h i hi => h _ (el_mem (t := I1) hi)⟩
theorem words_low {S : List Int} {t : Nat} (h : WordsOk S) : WordsOk (low S t) := words_mem.2 fun x hx => words_mem.1 h x (List.mem_of_mem_take hx)
theorem words_app {S : List Int} {x : Int} (h : WordsOk S) (hx : Word x) : WordsOk (S ++ [x]) := words_mem.2 fun y hy => by
  rcases List.mem_append.1 hy with hy | hy
  · exact words_mem.1 h y hy
  · rw [List.mem_singleton.1 hy]
    exact hx
theorem word_emod (z : Int) : Word (z % 65536) := by unfold Word; omega
theorem reckon_w {op a b : Int} (ha : Word a) (hb : Word b) : Word (reckon op a b) := by
  unfold reckon
  refine if_in (P := Word) (word_emod _) (if_in (P := Word) (word_emod _) (if_in (P := Word) (word_emod _) (if_in (P := Word) ?_ (if_in (P := Word) (by unfold Word; omega) (by unfold Word; omega)))))
  have h1 : 0 ≤ a / b := Int.ediv_nonneg ha.1 hb.1
  have h2 : a / b ≤ a := Int.ediv_le_self _ ha.1
  have h3 := ha.2
  unfold Word
  omega
theorem low_eq {S : List Int} {t : Nat} (h : t ≤ S.length) : (low S t).length = S.length - t := by
  unfold low
  rw [List.length_take]
  omega
def PcIn (pc g : Int) (s : Step) : Prop := s.1.1 = pc + 1 ∨ s.1.1 = min g 60
theorem doX_ok {pc op g : Int} {S a : List Int} {r : Int × Int} {time : Int} (nt : NoTrap pc op g S a r) : CpuOk (doX pc (op, g) S a r time).1 ∧ PcIn pc g (doX pc (op, g) S a r time) := by
  have hw := nt.words
  have hS := nt.len
  have htk := nt.tk
  have hov := nt.ov
  have hg := nt.g0
  have h0 := nt.pc0
  have h6 := nt.pc1
  have hgw : Word g := by unfold Word; omega
  have hm : 0 ≤ min g 60 ∧ min g 60 ≤ 60 := by omega
  have mkk : ∀ {T : List Int} {p : Int} (a' : List Int) (e : Int × Int × Int × Int), T.length ≤ 8 → WordsOk T → (p = pc + 1 ∨ p = min g 60) → CpuOk (p, T) ∧ PcIn pc g ((p, T), a', e) := fun {T p} a' e h1 h2 h3 => ⟨⟨by
    dsimp only
    rcases h3 with h3 | h3
    · omega
    · rw [h3]; exact hm, h1, h2⟩, h3⟩
  have l1 := low_len S 1
  have l2 := low_len S 2
  unfold doX
  dsimp only
  by_cases o1 : op = 1
  · subst o1
    simp only [takesM, putsM, Int.reduceEq, Int.reduceLE, or_self, or_false, false_or, true_or, and_false, false_and, and_self, ↓reduceIte] at hov
    rw [if_pos rfl]
    exact mkk _ _ (by rw [List.length_append, List.length_cons, List.length_nil]; omega) (words_app hw hgw) (.inl rfl)
  rw [if_neg o1]
  by_cases o2 : op = 2
  · subst o2
    simp only [takesM, Int.reduceEq, true_or, ↓reduceIte] at htk
    have := low_eq (S := S) (t := 1) (by omega)
    rw [if_pos rfl]
    exact mkk _ _ (by rw [List.length_append, List.length_cons, List.length_nil]; omega) (words_app (words_low hw) (word_emod _)) (.inl rfl)
  rw [if_neg o2]
  by_cases o3 : op = 3
  · rw [if_pos o3]
    exact mkk _ _ (by omega) (words_low hw) (.inl rfl)
  rw [if_neg o3]
  by_cases o4 : 4 ≤ op ∧ op ≤ 8
  · rw [if_pos o4]
    have ht : takesM op = 2 := by
      unfold takesM
      rw [if_neg (by omega), if_pos (by omega)]
    rw [ht] at htk
    have := low_eq (S := S) (t := 2) (by omega)
    exact mkk _ _ (by rw [List.length_append, List.length_cons, List.length_nil]; omega) (words_app (words_low hw) (reckon_w (sec_w hw (by omega)) (top_w hw (by omega)))) (.inl rfl)
  rw [if_neg o4]
  by_cases o9 : op = 9
  · rw [if_pos o9]
    exact mkk _ _ hS hw (.inr rfl)
  rw [if_neg o9]
  by_cases o10 : op = 10
  · rw [if_pos o10]
    refine mkk _ _ (by omega) (words_low hw) ?_
    split
    · exact .inr rfl
    · exact .inl rfl
  rw [if_neg o10]
  by_cases o11 : op = 11
  · subst o11
    simp only [takesM, putsM, Int.reduceEq, true_or, or_true, ↓reduceIte] at hov htk
    have := low_eq (S := S) (t := 1) (by omega)
    rw [if_pos rfl]
    have ht := top_w hw (by omega)
    have e : low S 1 ++ [top S, top S] = low S 1 ++ [top S] ++ [top S] := by simp
    exact mkk _ _ (by rw [List.length_append, List.length_cons, List.length_cons, List.length_nil]; omega) (by rw [e]; exact words_app (words_app (words_low hw) ht) ht) (.inl rfl)
  rw [if_neg o11]
  by_cases o12 : op = 12
  · rw [if_pos o12]
    exact mkk _ _ (by omega) (words_low hw) (.inl rfl)
  rw [if_neg o12]
  by_cases o13 : op = 13 ∨ op = 16
  · rw [if_pos o13]
    exact mkk _ _ (by omega) (words_low hw) (.inl rfl)
  rw [if_neg o13]
  by_cases o14 : op = 14 ∨ op = 15
  · rw [if_pos o14]
    exact mkk _ _ hS hw (.inl rfl)
  rw [if_neg o14]
  by_cases o17 : op = 17
  · subst o17
    simp only [takesM, putsM, Int.reduceEq, Int.reduceLE, or_self, or_true, or_false, false_or, true_or, and_false, false_and, and_self, ↓reduceIte] at hov
    rw [if_pos rfl]
    exact mkk _ _ (by rw [List.length_append, List.length_cons, List.length_nil]; omega) (words_app hw (word_emod _)) (.inl rfl)
  rw [if_neg o17]
  exact mkk _ _ hS hw (.inl rfl)
theorem step_ok {c : Int × List Int} {code : List (Int × Int)} {a : List Int} {r : Int × Int} {time : Int} (h : trapM c code a r = 0) : CpuOk (stepM c code a r time).1 ∧ PcIn c.1 (el C2 code c.1.toNat).2 (stepM c code a r time) := by
  have nt := (trap0 h).2.2.2
  unfold stepM
  rw [if_pos h]
  exact doX_ok nt
theorem doX_trap {pc : Int} {x : Int × Int} {S a : List Int} {r : Int × Int} {time : Int} : (doX pc x S a r time).2.2.2.2.2 = 0 := by
  unfold doX
  refine if_in (P := fun s : Step => s.2.2.2.2.2 = 0) rfl (if_in (P := fun s : Step => s.2.2.2.2.2 = 0) rfl (if_in (P := fun s : Step => s.2.2.2.2.2 = 0) rfl (if_in (P := fun s : Step => s.2.2.2.2.2 = 0) rfl (if_in (P := fun s : Step => s.2.2.2.2.2 = 0) rfl (if_in (P := fun s : Step => s.2.2.2.2.2 = 0) rfl (if_in (P := fun s : Step => s.2.2.2.2.2 = 0) rfl (if_in (P := fun s : Step => s.2.2.2.2.2 = 0) rfl (if_in (P := fun s : Step => s.2.2.2.2.2 = 0) rfl (if_in (P := fun s : Step => s.2.2.2.2.2 = 0) rfl (if_in (P := fun s : Step => s.2.2.2.2.2 = 0) rfl rfl))))))))))
theorem step_trap {c : Int × List Int} {code : List (Int × Int)} {a : List Int} {r : Int × Int} {time : Int} : (stepM c code a r time).2.2.2.2.2 = trapM c code a r := by
  unfold stepM
  split
  · rename_i h
    rw [h, doX_trap]
  · rfl
/-! ### answers -/
noncomputable def answerM (c : Int × List Int) (n : Int) : (Int × List Int) × Bool := if B (CpuOk c) = true ∧ ¬ (c.2.length : Int) = 8 then ((c.1, c.2 ++ [n % 65536]), true) else (c, false)
theorem answer_i {k : Nat} {c : Int × List Int} {n : Int} (hk : 1048576 < k) (hl : c.2.length ≤ 1048576) : impl_Answer.f k c n = some (answerM c n) := by
  unfold impl_Answer.f answerM
  rw [cpu_i hl, cpuOk_i hk]
  simp only [Option.bind_some]
  by_cases h : CpuOk c
  · rw [B_yes h]
    simp only [not_true_eq_false, ↓reduceIte, true_and, mod_i, Option.bind_some]
    rw [put_i (pc := c.1) (S := c.2) (by have := h.2.1; omega)]
    by_cases h8 : (c.2.length : Int) = 8
    · rw [if_pos h8, if_neg (fun h => h h8)]
    · rw [if_neg h8, if_pos h8]
      rfl
  · rw [B_no h]
    simp
theorem answer_ok {c : Int × List Int} {n : Int} (h : CpuOk c) : CpuOk (answerM c n).1 := by
  unfold answerM
  by_cases h8 : B (CpuOk c) = true ∧ ¬ (c.2.length : Int) = 8
  · rw [if_pos h8]
    have := h.2.1
    exact ⟨h.1, by dsimp only; rw [List.length_append, List.length_cons, List.length_nil]; omega, words_app h.2.2 (word_emod _)⟩
  · rw [if_neg h8]
    exact h
/-! ### runs -/
def costM (op : Int) : Int := if op = 2 ∨ op = 3 ∨ op = 15 ∨ op = 16 then 2 else if op = 6 ∨ op = 7 then 3 else if op = 13 ∨ op = 14 then 4 else 1
def ansM (op : Int) : Nat := if op = 13 ∨ op = 15 then 1 else if op = 14 then 2 else 0
theorem cost_in (op : Int) : 1 ≤ costM op ∧ costM op ≤ 4 := by
  unfold costM
  repeat' split
  all_goals omega
theorem cost_i {k : Nat} {op : Int} : impl_CostOf.f k op = some (costM op) := by
  unfold impl_CostOf.f impl_CostOf.j1 impl_CostOf.j2 costM
  simp only [decide_eq_true_eq, ↓reduceIte]
  repeat' split
  all_goals first | rfl | (exfalso; omega)
theorem ans_i {k : Nat} {op : Int} : impl_answersOf.f k op = some (ansM op : Int) := by
  unfold impl_answersOf.f ansM
  repeat' split
  all_goals first | rfl | (exfalso; omega)
theorem ans_le (op : Int) : ansM op ≤ 2 := by
  unfold ansM
  repeat' split
  all_goals omega
/-- So many answers of 0. -/
noncomputable def zerosM : Nat → Int × List Int → Option (Int × List Int)
  | 0, c => some c
  | m + 1, c => if (answerM c 0).2 = true then zerosM m (answerM c 0).1 else none
theorem zeros_ok : ∀ (m : Nat) {c c' : Int × List Int}, CpuOk c → zerosM m c = some c' → CpuOk c' ∧ c'.1 = c.1
  | 0, c, c', h, e => by
    cases e
    exact ⟨h, rfl⟩
  | m + 1, c, c', h, e => by
    rw [zerosM] at e
    split at e
    · have := zeros_ok m (answer_ok h) e
      refine ⟨this.1, this.2.trans ?_⟩
      unfold answerM
      split <;> rfl
    · cases e
noncomputable def runM (code : List (Int × Int)) (r : Int × Int) (most : Int) : Nat → Int → Int × List Int → List Int → Int × Int
  | 0, cost, _, _ => (cost, 0)
  | f + 1, cost, c, a =>
    if c.1 < (code.length : Int) then
      if most < cost + costM (el C2 code c.1.toNat).1 then (cost, 0) else
      if trapM c code a r = 0 then
        if (el C2 code c.1.toNat).1 = 0 then (cost + costM (el C2 code c.1.toNat).1, 0) else
        match zerosM (ansM (el C2 code c.1.toNat).1) (stepM c code a r 0).1 with
        | none => (cost + costM (el C2 code c.1.toNat).1, 4)
        | some c' => runM code r most f (cost + costM (el C2 code c.1.toNat).1) c' (stepM c code a r 0).2.1
      else (cost + costM (el C2 code c.1.toNat).1, trapM c code a r)
    else (cost, 0)
noncomputable def runCostM (code : List (Int × Int)) (a : List Int) (r : Int × Int) (most : Int) : Int × Int := runM code r (min most 5000) 5001 0 (0, []) a
theorem cpu0 : CpuOk (0, []) := ⟨⟨Int.le_refl 0, by dsimp only; omega⟩, by simp, fun i hi => absurd hi (by simp)⟩
theorem runLoop_i {k : Nat} {code : List (Int × Int)} {a : List Int} {r : Int × Int} {M : Int} (hk : 1048576 < k) (hc : code.length ≤ 1048576) (ha : a.length ≤ 1048576) (hr : r.1 < 9223372036854775808) (hM : M ≤ 5000) :
    impl_RunCost.l1 k k (M, 0, r.1, r.2, 0, code, [], a, ()) = some (runM code r M 5001 0 (0, []) a) := by
  refine ok_eq ?_
  generalize hT : runM code r M 5001 0 (0, []) a = T
  refine ok_loop (L := impl_RunCost.l1 k) (I := fun d s => ∃ (cost pc : Int) (S b : List Int), s = (M, cost, r.1, r.2, pc, code, S, b, ()) ∧ 0 ≤ cost ∧ 5001 ≤ cost + (d : Int) ∧ (cost ≤ M ∨ cost = 0) ∧ b.length = a.length ∧ CpuOk (pc, S) ∧ ∃ f : Nat, 5001 - cost ≤ (f : Int) ∧ runM code r M f cost (pc, S) b = T) ?_ k 5001 _ (by omega) ⟨0, 0, [], a, rfl, Int.le_refl 0, by omega, .inr rfl, rfl, cpu0, 5001, by omega, hT⟩
  rintro d n s ⟨cost, pc, S, b, rfl, hc0, hcd, hcM, hb, hcpu, f, hf, he⟩ ih
  obtain ⟨f, rfl⟩ : ∃ f', f = f' + 1 := ⟨f - 1, by omega⟩
  rw [impl_RunCost.l1]
  rw [runM] at he
  dsimp only at he
  by_cases hpc : ¬ pc < (code.length : Int)
  · rw [if_neg hpc]
    rw [if_neg hpc] at he
    exact ok_some he
  have hpc' := Classical.not_not.1 hpc
  have hp0 : 0 ≤ pc := hcpu.1.1
  have hS : S.length ≤ 8 := hcpu.2.1
  rw [if_pos hpc', if_pos hp0, if_pos hpc']
  rw [if_pos hpc'] at he
  obtain ⟨op, g, hxe⟩ : ∃ op g : Int, el C2 code pc.toNat = (op, g) := ⟨_, _, rfl⟩
  simp only [show el (.pair (.int .i64) (.int .i64)) code pc.toNat = (op, g) from hxe] at he
  simp only [show el (.pair (.int .i64) (.int .i64)) code pc.toNat = (op, g) from hxe, cost_i, ans_i, Option.bind_some]
  have hco := cost_in op
  rw [w64_id (z := cost + costM op) (by omega) (by omega)]
  by_cases hm : M < cost + costM op
  · rw [if_pos hm]
    rw [if_pos hm] at he
    exact ok_some he
  rw [if_neg hm, step_i hk hc (by dsimp only; omega) (by omega) hr]
  rw [if_neg hm] at he
  simp only [Option.bind_some, step_trap]
  by_cases ht : ¬ trapM (pc, S) code b r = 0
  · rw [if_pos ht]
    rw [if_neg ht] at he
    exact ok_some he
  have ht' := Classical.not_not.1 ht
  rw [if_neg ht]
  rw [if_pos ht'] at he
  by_cases h0 : op = 0
  · rw [if_pos h0]
    rw [if_pos h0] at he
    exact ok_some he
  rw [if_neg h0]
  rw [if_neg h0] at he
  obtain ⟨so, -⟩ := step_ok (time := 0) ht'
  have sl := (step_len (c := (pc, S)) (code := code) (a := b) (r := r) (time := 0)).2.1
  generalize stepM (pc, S) code b r 0 = s at so sl he ⊢
  obtain ⟨⟨pc1, S1⟩, b1, ef⟩ := s
  simp only at so sl he ⊢
  have hal := ans_le op
  refine ok_loop (L := impl_RunCost.l2 k (impl_RunCost.l1 k n)) (I := fun e t => ∃ (j : Nat) (pc2 : Int) (S2 : List Int), t = (M, cost + costM op, (ansM op : Int), (j : Int), r.1, r.2, pc, pc2, code, S, b, S2, b1, ()) ∧ j + e = ansM op ∧ CpuOk (pc2, S2) ∧ zerosM e (pc2, S2) = zerosM (ansM op) (pc1, S1)) ?_ k (ansM op) _ (by omega) ⟨0, pc1, S1, rfl, by omega, so, rfl⟩
  rintro e n' t ⟨j, pc2, S2, rfl, hj, ho, hz⟩ ih2
  rw [impl_RunCost.l2]
  by_cases hjl : (j : Int) < (ansM op : Int)
  · have hS2 : S2.length ≤ 8 := ho.2.1
    rw [if_pos hjl, answer_i hk (by dsimp only; omega)]
    obtain ⟨e, rfl⟩ : ∃ e', e = e' + 1 := ⟨e - 1, by omega⟩
    refine ok_let ?_
    rw [zerosM] at hz
    by_cases hb2 : (answerM (pc2, S2) 0).2 = true
    · rw [if_neg (fun h => h hb2)]
      rw [if_pos hb2] at hz
      have h4 : w64 ((j : Int) + 1) = ((j + 1 : Nat) : Int) := w64_id (by omega) (by omega)
      rw [h4]
      exact ih2 e _ (by omega) ⟨j + 1, _, _, rfl, by omega, answer_ok ho, hz⟩
    · rw [if_pos hb2]
      rw [if_neg hb2] at hz
      rw [← hz] at he
      exact ok_some he
  · rw [if_neg hjl]
    obtain rfl : e = 0 := by omega
    rw [zerosM] at hz
    rw [← hz] at he
    exact ih (d - 1) _ (by omega) ⟨cost + costM op, pc2, S2, b1, rfl, by omega, by omega, .inl (by omega), by omega, ho, f, by omega, he⟩
theorem runCost_i {k : Nat} {code : List (Int × Int)} {a : List Int} {r : Int × Int} {most : Int} (hk : 1048576 < k) (hc : code.length ≤ 1048576) (ha : a.length ≤ 1048576) (hr : r.1 < 9223372036854775808) : impl_RunCost.f k code a r most = some (runCostM code a r most) := by
  unfold impl_RunCost.f runCostM
  rw [arena_i ha]
  exact runLoop_i hk hc ha hr (by omega)
end Go.Proofs.Ytcnaldcinkmpbaa.Pure
