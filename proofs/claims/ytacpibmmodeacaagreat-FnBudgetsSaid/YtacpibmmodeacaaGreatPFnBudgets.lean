/- The plain words and the plain law of FnBudgets. No condition. -/
import Derived.Test.YtacpibmmodeacaaGreatQFnBudgets
import Derived.Test.YtacpibmmodeacaaGreatPTa
/- Drawn set-ups, right or not. No condition. -/
namespace Go.Proofs.YtacpibmmodeacaaGreat.Pure
open Go Go.Proofs.YtacpibmmodeacaaGreatA Go.Proofs.YtacpibmmodeacaaGreatU Go.Proofs.YtacpibmmodeacaaGreat.QA
set_option linter.unusedVariables false
set_option linter.unusedSimpArgs false
theorem l09Any_ok {k : Nat} {c : List Int × Int × Int} (hk : 1048576 < k) (h : Cur c) : Ok (spec_l09Any.f k c) (fun r => r.1.length ≤ 13 ∧ Cur (c.1, r.2.2)) := by
 obtain ⟨b, ci, ch⟩ := c
 unfold spec_l09Any.f
 refine ok_bind (l09Plan_ok hk h (by omega)) (fun r1 h1 => ?_)
 obtain ⟨p1, p2, p3, h1⟩ := h1
 refine ok_bind (below_lt h1 (by omega)) (fun r2 h2 => ?_)
 refine ok_if (fun _ => ?_) (fun _ => ok_if (fun _ => ?_) (fun _ => ok_if (fun _ => ok_let (ok_some ⟨by simp, h2.2.2⟩)) (fun _ => ok_if (fun _ => ?_) (fun _ => ok_some ⟨by dsimp only; omega, h2.2.2⟩))))
 ·refine ok_let (ok_bind (pickInt_ok h2.2.2 (by decide)) (fun r h => ok_grd (by omega) (ok_grd (by omega) (ok_let (ok_some ⟨by dsimp only; rw [List.length_set]; omega, h.2⟩)))))
 ·refine ok_let (ok_bind (pickInt_ok h2.2.2 (by decide)) (fun r h => ok_grd (by omega) (ok_grd (by omega) (ok_let (ok_some ⟨by dsimp only; rw [List.length_set]; omega, h.2⟩)))))
 ·refine ok_loop (L := spec_l09Any.l1 k) (I := fun d s => ∃ (ci ch : Int) (L : List (Int × Int)), s = (ci, ch, b, L, ()) ∧ L.length + d = 13 ∧ Cur (b, ci, ch)) ?_ k (13 - r1.1.length) _ (by omega) ⟨_, _, _, rfl, by omega, h2.2.2⟩
  rintro d n s ⟨ci, ch, L, rfl, hd, hc⟩ ih
  rw [spec_l09Any.l1]
  refine ok_bind (below_lt hc (by omega)) (fun r hr => ?_)
  have hr1 := hr.1
  have hr2 := hr.2.1
  rw [w64_id (z := 12 + r.1) (by omega) (by omega)]
  refine ok_if (fun hlt => ok_let (ok_grd (by simp only [List.length_cons, List.length_nil]; omega) (ok_let ?_))) (fun _ => ok_some ⟨by dsimp only; omega, hr.2.2⟩)
  exact ih (d - 1) _ (by omega) ⟨_, _, _, rfl, by rw [List.length_append, List.length_cons, List.length_nil]; omega, hr.2.2⟩
theorem l11Any_ok {k : Nat} {c : List Int × Int × Int} (hk : 1048576 < k) (h : Cur c) : Ok (spec_l11Any.f k c) (fun r => Small r.1 ∧ (∀ s, s ∈ r.1.2.2.2.2 → s.size ≤ 200) ∧ Cur (c.1, r.2.2)) := by
 obtain ⟨b, ci, ch⟩ := c
 unfold spec_l11Any.f
 refine ok_bind (l11Setup_ok hk h) ?_
 rintro ⟨⟨R, W, P, U, C⟩, bb⟩ ⟨hD, hcu⟩
 have l1 := hD.n4
 have l3 := hD.plan5
 have l5 := hD.ports3
 have l6 := hD.rules.2
 have l7 := hD.codesN
 have l8 := hD.n1
 have lc : ∀ s, s ∈ C → s.size ≤ 120 := fun s hs => by
  obtain ⟨L, _, h2, rfl⟩ := hD.codes s hs
  rw [chrs_size, codeB_len]
  omega
 simp only at l1 l3 l5 l6 l7 l8 hcu ⊢
 have lc2 : ∀ s, s ∈ C → s.size ≤ 200 := fun s hs => by have := lc s hs; omega
 refine ok_bind (below_lt hcu (by omega)) (fun r2 h2 => ?_)
 refine ok_if (fun _ => ?_) (fun _ => ok_if (fun _ => ?_) (fun _ => ok_if (fun _ => ?_) (fun _ => ok_if (fun _ => ?_) (fun _ => ok_if (fun _ => ?_) (fun _ => ok_if (fun _ => ?_) (fun _ => ok_if (fun _ => ?_) (fun _ => ?_)))))))
 ·exact ok_bind (l04Any_ok hk h2.2.2) (fun r h => ok_some ⟨⟨by have := h.2.1; dsimp only; omega, by dsimp only; omega, by dsimp only; omega, by dsimp only; omega, by dsimp only; omega⟩, lc2, h.2.2⟩)
 ·exact ok_bind (l09Any_ok hk h2.2.2) (fun r h => ok_some ⟨⟨by dsimp only; omega, by have := h.1; dsimp only; omega, by dsimp only; omega, by dsimp only; omega, by dsimp only; omega⟩, lc2, h.2⟩)
 ·exact ok_bind (l08Any_ok h2.2.2) (fun r h => ok_let (ok_grd (by simp only [List.length_cons, List.length_nil]; omega) (ok_let (ok_some ⟨⟨by dsimp only; omega, by dsimp only; omega, by dsimp only; rw [List.length_append, List.length_cons, List.length_nil]; omega, by dsimp only; omega, by dsimp only; omega⟩, lc2, h⟩))))
 ·exact ok_bind (l10Any_ok hk h2.2.2) (fun r h => ok_some ⟨⟨by dsimp only; omega, by dsimp only; omega, by dsimp only; omega, by have := h.1; dsimp only; omega, by dsimp only; omega⟩, lc2, h.2⟩)
 ·exact ok_let (ok_grd (by simp only [List.length_cons, List.length_nil]; omega) (ok_let (ok_some ⟨⟨by dsimp only; omega, by dsimp only; omega, by dsimp only; omega, by dsimp only; omega, by dsimp only; rw [List.length_append, List.length_cons, List.length_nil]; omega⟩, fun s hs => by
   rcases List.mem_append.1 hs with h' | h'
   ·exact lc2 s h'
   ·rw [List.mem_singleton.1 h']
    decide, h2.2.2⟩)))
 ·have hC0 : 0 < C.length := by omega
  have hsz := lc _ (el_mem (t := .str) hC0)
  have hx : (⟨#[120]⟩ : ByteArray).size = 1 := rfl
  refine ok_grd (by omega) (ok_grd (by omega) (ok_grd (by rw [hx]; omega) (ok_grd (by omega) (ok_grd (by omega) (ok_let (ok_some ⟨⟨by dsimp only; omega, by dsimp only; omega, by dsimp only; omega, by dsimp only; omega, by dsimp only; rw [List.length_set]; omega⟩, fun s hs => ?_, h2.2.2⟩))))))
  rcases List.mem_or_eq_of_mem_set hs with h' | h'
  ·exact lc2 s h'
  ·rw [h', ByteArray.size_append, hx]
   omega
 ·refine ok_loop (L := spec_l11Any.l1 k) (I := fun d s => ∃ (ci ch : Int) (L : List Port5), s = (ci, ch, b, [], [], [], [], [], R, W, L, U, C, ()) ∧ L.length + d = 7 ∧ Cur (b, ci, ch)) ?_ k (7 - P.length) _ (by omega) ⟨_, _, _, rfl, by omega, h2.2.2⟩
  rintro d n s ⟨ci, ch, L, rfl, hd, hc⟩ ih
  rw [spec_l11Any.l1]
  refine ok_bind (below_lt hc (by omega)) (fun r hr => ?_)
  have hr1 := hr.1
  have hr2 := hr.2.1
  rw [w64_id (z := 6 + r.1) (by omega) (by omega)]
  refine ok_if (fun hlt => ok_let (ok_grd (by simp only [List.length_cons, List.length_nil]; omega) (ok_let ?_))) (fun _ => ok_some ⟨⟨by dsimp only; omega, by dsimp only; omega, by dsimp only; omega, by dsimp only; omega, by dsimp only; omega⟩, lc2, hr.2.2⟩)
  exact ih (d - 1) _ (by omega) ⟨_, _, _, rfl, by rw [List.length_append, List.length_cons, List.length_nil]; omega, hr.2.2⟩
 ·exact ok_some ⟨⟨by dsimp only; omega, by dsimp only; omega, by dsimp only; omega, by dsimp only; omega, by dsimp only; omega⟩, lc2, h2.2.2⟩
end Go.Proofs.YtacpibmmodeacaaGreat.Pure
/- Drawn kernels, right or not. No condition. -/
namespace Go.Proofs.YtacpibmmodeacaaGreat.Pure
open Go Go.Proofs.YtacpibmmodeacaaGreatA Go.Proofs.YtacpibmmodeacaaGreatU Go.Proofs.YtacpibmmodeacaaGreat.QA
set_option linter.unusedVariables false
set_option linter.unusedSimpArgs false
theorem l06Cpu_k {k : Nat} {c : List Int × Int × Int} {n : Int} (hk : 1048576 < k) (h : Cur c) : Ok (spec_l06Cpu.f k c n) (fun r => r.1.2.length ≤ 20 ∧ Cur (c.1, r.2.2)) := by
 unfold spec_l06Cpu.f
 refine ok_bind (below_ok h) (fun r1 h1 => ?_)
 refine ok_loop (L := spec_l06Cpu.l1 k) (I := fun d s => ∃ (j : Nat) (ci ch x y : Int) (S : List Int), s = ((j : Int), ci, ch, x, y, c.1, [], S, ()) ∧ j + d = 9 ∧ Cur (c.1, ci, ch) ∧ S.length = j ∧ j ≤ 8) ?_ k 9 _ (by omega) ⟨0, _, _, _, _, [], rfl, by omega, h1.2.2.2, rfl, by omega⟩
 rintro d n s ⟨j, ci, ch, x, y, S, rfl, hd, hc, hS, hj⟩ ih
 rw [spec_l06Cpu.l1]
 refine ok_bind (below_lt hc (by omega)) (fun r2 h2 => ok_if (fun hlt => ?_) (fun hge => ?_))
 ·refine ok_let (ok_bind (pickInt_ok h2.2.2 (by decide)) (fun r4 h4 => ok_let (ok_grd (by simp only [List.length_cons, List.length_nil]; omega) (ok_let ?_))))
  have h5 : w64 ((j : Int) + 1) = ((j + 1 : Nat) : Int) := w64_id (by omega) (by omega)
  rw [h5]
  exact ih (d - 1) _ (by omega) ⟨j + 1, _, _, _, _, _, rfl, by omega, h4.2, by simp [hS], by omega⟩
 ·refine ok_bind (below_lt h2.2.2 (by omega)) (fun r7 h7 => ok_if (fun _ => ok_let (ok_bind (pickInt_ok h7.2.2 (by decide)) (fun r h => ok_some ⟨by dsimp only; omega, h.2⟩))) (fun _ => ok_if (fun _ => ?_) (fun _ => ok_some ⟨by dsimp only; omega, h7.2.2⟩)))
  refine ok_let (ok_bind (pickInt_ok h7.2.2 (by decide)) (fun r h => ok_let (ok_grd (by simp only [List.length_cons, List.length_nil]; omega) (ok_let (ok_some ⟨by dsimp only; simp only [List.length_append, List.length_cons, List.length_nil]; omega, h.2⟩)))))
theorem place_ok {k : Nat} {c : List Int × Int × Int} {n : Int} (h : Cur c) : Ok (spec_l01Place.f k c n) (fun r => Cur (c.1, r.2.2)) := by
 unfold spec_l01Place.f
 exact ok_bind (once_ok h) (fun r h => ok_if (fun _ => ok_let (ok_bind (pickInt_ok h (by simp)) (fun r h => ok_some h.2))) (fun _ => ok_bind (below_ok h) (fun r h => ok_some h.2.2.2)))
structure AnyK (K : Kernel) : Prop where
 small : SmallK K
 st : StampsK K
theorem anyK_part {K : Kernel} (h : AnyK K) {i : Nat} {p : PartT} (hp : p.2.1.2.length ≤ 1048576) : AnyK (K.1, K.2.1, K.2.2.1.set i p, K.2.2.2) := by
 obtain ⟨⟨s1, s2, s3, s4, s5, s6, s7, s8⟩, st⟩ := h
 refine ⟨⟨s1, s2, by dsimp only; rw [List.length_set]; exact s3, fun q hq => ?_, s5, s6, s7, s8⟩, st⟩
 rcases List.mem_or_eq_of_mem_set hq with h | h
 ·exact s4 q h
 ·rw [h]
  exact hp
theorem l12Any_ok {k : Nat} {c : List Int × Int × Int} (hk : 1048576 < k) (h : Cur c) : Ok (spec_l12Any.f k c) (fun r => AnyK r.1 ∧ Cur (c.1, r.2.2)) := by
 obtain ⟨b, ci, ch⟩ := c
 unfold spec_l12Any.f
 refine ok_bind (l12Kernel_ok hk h) ?_
 rintro ⟨K, bb⟩ ⟨hD, hcu⟩
 have hG : Good 12 K := hD.good
 have hA : AnyK K := ⟨hG.small, hG.st⟩
 obtain ⟨f1, -⟩ := fault_parts hG.ok.fault
 have hpl := hG.ok.parts
 have hp1 := f1.2.1
 have ho := hG.ok.outs
 have hln := hA.small.lines
 have hlN := hG.ok.lines
 have hstk : ∀ i : Nat, i < K.2.2.1.length → (el PT K.2.2.1 i).2.1.2.length ≤ 1048576 := fun i hi => hA.small.stacks _ (el_mem (t := PT) hi)
 refine ok_bind' (r := K) (copyKernel_s hA.small hk) ?_
 refine ok_bind (below_lt hcu (by omega)) (fun r3 h3 => ok_bind (below_lt h3.2.2 (by omega)) (fun r4 h4 => ?_))
 have q0 := h3.1
 have q1 := h3.2.1
 have hcu4 := h4.2.2
 refine ok_if (fun _ => ?_) (fun _ => ok_if (fun _ => ?_) (fun _ => ok_if (fun _ => ?_) (fun _ => ok_if (fun _ => ?_) (fun _ => ok_if (fun _ => ?_) (fun _ => ok_if (fun _ => ?_) (fun _ => ok_if (fun _ => ?_) (fun _ => ok_if (fun _ => ?_) (fun _ => ?_))))))))
 ·exact ok_bind (l11Any_ok hk hcu4) (fun r h => ok_some ⟨⟨⟨h.1, hA.small.cells, hA.small.parts, hA.small.stacks, hA.small.lines, hA.small.msgs, hA.small.outs, hA.small.log⟩, hA.st⟩, h.2.2⟩)
 ·exact ok_bind (l04Arena_ok hk hcu4) (fun r h => ok_some ⟨⟨⟨hA.small.st, by have := h.1; dsimp only; omega, hA.small.parts, hA.small.stacks, hA.small.lines, hA.small.msgs, hA.small.outs, hA.small.log⟩, hA.st⟩, h.2⟩)
 ·refine ok_bind (below_lt hcu4 (by omega)) (fun r h => ok_grd q0 (ok_grd q1 (ok_let (ok_some ⟨anyK_part hA ?_, h.2.2⟩))))
  exact hstk _ (by omega)
 ·refine ok_bind (l06Cpu_k hk hcu4) (fun r h => ok_grd q0 (ok_grd q1 (ok_let (ok_some ⟨anyK_part hA ?_, h.2⟩))))
  have := h.1
  dsimp only
  omega
 ·refine ok_bind (below_lt hcu4 (by omega)) (fun r5 h5 => ok_let (ok_bind (pickInt_ok h5.2.2 (by decide)) (fun r h => ok_grd h5.1 (ok_grd (by have := h5.2.1; rw [ho]; omega) (ok_let (ok_some ⟨⟨⟨hA.small.st, hA.small.cells, hA.small.parts, hA.small.stacks, hA.small.lines, hA.small.msgs, by dsimp only; rw [List.length_set]; exact hA.small.outs, hA.small.log⟩, hA.st⟩, h.2⟩))))))
 ·exact ok_let (ok_bind (pickInt_ok hcu4 (by decide)) (fun r h => ok_some ⟨⟨⟨hA.small.st, hA.small.cells, hA.small.parts, hA.small.stacks, hA.small.lines, hA.small.msgs, hA.small.outs, hA.small.log⟩, hA.st⟩, h.2⟩))
 ·have hP3 := hD.setup.ports3
  dsimp only at hP3
  refine ok_let (ok_grd (by simp only [List.length_cons, List.length_nil]; omega) (ok_let (ok_some ⟨⟨⟨hA.small.st, hA.small.cells, hA.small.parts, hA.small.stacks, by dsimp only; rw [List.length_append, List.length_cons, List.length_nil]; omega, fun l hl => ?_, hA.small.outs, hA.small.log⟩, fun l hl => ?_⟩, hcu4⟩)))
  ·rcases List.mem_append.1 hl with h | h
   ·exact hA.small.msgs l h
   ·rw [List.mem_singleton.1 h]
    simp
  ·rcases List.mem_append.1 hl with h | h
   ·exact hA.st l h
   ·rw [List.mem_singleton.1 h]
    intro x hx
    cases hx
 ·refine ok_let (ok_bind (pickInt_ok hcu4 (by decide)) (fun r h => ok_grd q0 (ok_grd q1 (ok_let (ok_some ⟨anyK_part hA ?_, h.2⟩)))))
  exact hstk _ (by omega)
 ·exact ok_some ⟨hA, hcu4⟩
end Go.Proofs.YtacpibmmodeacaaGreat.Pure
/- How a run of a part is over. No condition. -/
namespace Go.Proofs.YtacpibmmodeacaaGreat.Pure
open Go Go.Proofs.YtacpibmmodeacaaGreatA Go.Proofs.YtacpibmmodeacaaGreatU Go.Proofs.YtacpibmmodeacaaGreat.QA
set_option linter.unusedVariables false
set_option linter.unusedSimpArgs false
theorem runK_fine {w : World} : ∀ (f : Nat) (left : Int) (s : RS), (runK w f left s).2.1 = 0 → (runK w f left s).1.2.1 = (0, [])
 | 0, left, s, h => by
  have h' : (2 : Int) = 0 := h
  omega
 | f + 1, left, s, h => by
  rw [runK] at h ⊢
  split at h
  ·have h' : (2 : Int) = 0 := h
   omega
  rename_i h1
  rw [if_neg h1]
  split at h
  ·rename_i h2
   rw [if_pos h2]
   split at h
   ·rename_i h3
    rw [if_pos h3]
   ·rename_i h3
    rw [if_neg h3]
    split at h
    ·rename_i h4
     rw [if_pos h4]
     exact runK_fine f _ _ h
    ·have h' : (1 : Int) = 0 := h
     omega
  ·have h' : (1 : Int) = 0 := h
   omega
/-- A run is over by a trap, or there is none. -/
theorem runK_trap {w : World} : ∀ (f : Nat) (left : Int) (s : RS), ((runK w f left s).2.1 = 1 ∧ ¬ (runK w f left s).2.2 = 0) ∨ (¬ (runK w f left s).2.1 = 1 ∧ (runK w f left s).2.2 = 0)
 | 0, left, s => .inr ⟨show ¬ (2 : Int) = 1 by decide, rfl⟩
 | f + 1, left, s => by
  rw [runK]
  split
  ·exact .inr ⟨show ¬ (2 : Int) = 1 by decide, rfl⟩
  split
  ·split
   ·exact .inr ⟨show ¬ (0 : Int) = 1 by decide, rfl⟩
   split
   ·exact runK_trap f _ _
   ·rename_i h
    exact .inl ⟨rfl, h⟩
  ·rename_i h
   exact .inl ⟨rfl, h⟩
theorem afterRun_small {K : Kernel} {part budget : Int} {ins : List Int} (hs : SmallK K) (hok : KernelOk K) (hst : StampsK K) (hp : InPart K part) : SmallK (afterRun K part budget ins) := by
 have hr := runOf_ok (budget := budget) (ins := ins) hok hst hp
 have hw := worldOk_of (ins := ins) hok hp
 refine ⟨hs.st, by have := hr.cells; show (runOf K part budget ins).1.1.length ≤ _; omega, ?_, fun p hpm => ?_, by have := hr.nl; have := hw.ports.2; show (runOf K part budget ins).1.2.2.1.length ≤ _; omega, fun l hl => ?_, by have := hr.outs; show (runOf K part budget ins).1.2.2.2.length ≤ _; omega, hs.log⟩
 ·show (setP K.2.2.1 _ _ _).length ≤ _
  rw [setP_len]
  exact hs.parts
 ·rcases List.mem_or_eq_of_mem_set (show p ∈ K.2.2.1.set _ _ from hpm) with h | h
  ·exact hs.stacks p h
  ·rw [h]
   have := hr.cpu.2.1
   dsimp only
   omega
 ·obtain ⟨i, hi, rfl⟩ := List.mem_iff_getElem.1 (show l ∈ (runOf K part budget ins).1.2.2.1 from hl)
  have h8 := hr.line i hi
  have hpo := hw.ports.1 i (by have := hr.nl; omega)
  rw [el_at (t := LT) (List.getElem?_eq_getElem hi)] at h8
  have h9 := port6 hpo
  omega
theorem run_none {K : Kernel} {part : Int} {ins : List Int} (hp : InPart K part) : (runOf K part 0 ins).2 = (2, 0) ∧ afterRun K part 0 ins = K := by
 have h1 := hp.lo
 have h2 := hp.hi
 have e : runOf K part 0 ins = ((K.2.1, (el PT K.2.2.1 (part - 1).toNat).2.1, K.2.2.2.1, K.2.2.2.2.1), 2, 0) := by
  unfold runOf
  have hc := cost_in (opAt (worldOf K part ins).code (el PT K.2.2.1 (part - 1).toNat).2.1.1)
  rw [runK, if_pos (show min (0 : Int) 1000 < costM (opAt (worldOf K part ins).code (el PT K.2.2.1 (part - 1).toNat).2.1.1) by omega)]
 refine ⟨by rw [e], ?_⟩
 unfold afterRun endsOf
 rw [e]
 dsimp only
 rw [if_neg (by decide), setP_same (by omega)]
end Go.Proofs.YtacpibmmodeacaaGreat.Pure
/- Twelve drawn numbers. No condition. -/
namespace Go.Proofs.YtacpibmmodeacaaGreat.Pure
open Go Go.Proofs.YtacpibmmodeacaaGreatA Go.Proofs.YtacpibmmodeacaaGreatU Go.Proofs.YtacpibmmodeacaaGreat.QA
set_option linter.unusedVariables false
/-- What a law over drawn bytes begins with. -/
theorem big_ok {k : Nat} {xs : List Int} {g : Bool → Option Bool} (h : xs.length ≤ 1048576 → Ok (g false) (fun r => r = true)) (h2 : Ok (g true) (fun r => r = true)) : Ok ((laws_big.f k xs).bind g) (fun r => r = true) := by
 unfold laws_big.f
 refine ok_let ?_
 by_cases hb : xs.length ≤ 1048576
 ·rw [decide_eq_false (by omega)]
  exact h hb
 ·rw [decide_eq_true (by omega)]
  exact h2
end Go.Proofs.YtacpibmmodeacaaGreat.Pure
/- What is the same is told to be the same. No condition. -/
namespace Go.Proofs.YtacpibmmodeacaaGreat.Pure
open Go Go.Proofs.YtacpibmmodeacaaGreatA Go.Proofs.YtacpibmmodeacaaGreatU Go.Proofs.YtacpibmmodeacaaGreat.QA
set_option linter.unusedVariables false
theorem sameInts_f {k : Nat} {xs : List Int} (hl : xs.length ≤ 1048576) (hk : 1048576 < k) : laws_sameInts.f k xs xs = some true := by
 have l : ∀ (d j n : Nat), j + d = xs.length → d < n → laws_sameInts.l1 k n ((j : Int), xs, xs, ()) = some true := by
  intro d
  induction d with
  | zero =>
   intro j n hj hn
   obtain ⟨n, rfl⟩ : ∃ n', n = n' + 1 := ⟨n - 1, by omega⟩
   rw [laws_sameInts.l1, if_neg (by omega)]
  | succ d ih =>
   intro j n hj hn
   obtain ⟨n, rfl⟩ : ∃ n', n = n' + 1 := ⟨n - 1, by omega⟩
   have h0 : (0 : Int) ≤ (j : Int) := by omega
   have h1 : (j : Int) < (xs.length : Int) := by omega
   have h4 : w64 ((j : Int) + 1) = ((j + 1 : Nat) : Int) := w_id (z := (j : Int) + 1) (by omega) (by omega)
   simp only [laws_sameInts.l1, h0, h1, h4, ↓reduceIte, Int.toNat_natCast, not_true_eq_false]
   exact ih (j + 1) n (by omega) (by omega)
 have := l xs.length 0 k (by omega) (by omega)
 unfold laws_sameInts.f
 rw [if_neg (fun h => h rfl)]
 exact this
theorem sameCpu_f {k : Nat} {c : Int × List Int} (hl : c.2.length ≤ 1048576) (hk : 1048576 < k) : laws_sameCpu.f k c c = some true := by
 unfold laws_sameCpu.f
 rw [if_pos rfl, sameInts_f hl hk]
 rfl
end Go.Proofs.YtacpibmmodeacaaGreat.Pure
/- Kernels that are the same are told to be the same. No condition. -/
namespace Go.Proofs.YtacpibmmodeacaaGreat.Pure
open Go Go.Proofs.YtacpibmmodeacaaGreatA Go.Proofs.YtacpibmmodeacaaGreatU Go.Proofs.YtacpibmmodeacaaGreat.QA
set_option linter.unusedVariables false
set_option linter.unusedSimpArgs false
theorem sameKernel_f {k : Nat} {K : Kernel} (h : SmallK K) (hk : 1048576 < k) : laws_sameKernel.f k K K = some true := by
 obtain ⟨⟨R, W, P, U, C⟩, A, Ps, Ls, O, T, D, G⟩ := K
 obtain ⟨s1, s2, s3, s4, s5, s6, s7, s8⟩ := h
 simp only at s2 s3 s4 s5 s6 s7 s8
 refine ok_eq ?_
 unfold laws_sameKernel.f
 refine ok_bind' (sameInts_f s2 hk) (ok_els (fun h => h rfl) (ok_bind' (sameInts_f s7 hk) (ok_els (fun h => h rfl) (ok_els (fun h => h rfl) (ok_els (fun h => h rfl) (ok_els (fun h => h rfl) (ok_els (fun h => h rfl) (ok_els (fun h => h rfl) ?_))))))))
 refine ok_loop (L := laws_sameKernel.l1 k) (I := fun d s => ∃ j : Nat, s = ((j : Int), T, D, T, D, R, W, P, U, C, A, Ps, Ls, O, G, R, W, P, U, C, A, Ps, Ls, O, G, ()) ∧ j + d = Ps.length) ?_ k Ps.length _ (by omega) ⟨0, rfl, by omega⟩
 rintro d n s ⟨j, rfl, hd⟩ ih
 rw [laws_sameKernel.l1]
 refine ok_if (fun hlt => ok_grd (by omega) (ok_grd hlt (ok_grd (by omega) (ok_grd hlt (ok_els (fun h => h rfl) ?_))))) (fun _ => ?_)
 ·have hst := s4 _ (el_mem (t := PT) (xs := Ps) (i := j) (by omega))
  have h4 : w64 ((j : Int) + 1) = ((j + 1 : Nat) : Int) := w64_id (by omega) (by omega)
  refine ok_bind' (sameCpu_f (c := (el PT Ps ((j : Int)).toNat).2.1) (by rw [Int.toNat_natCast]; exact hst) hk) (ok_els (fun h => h rfl) (ok_els (fun h => h rfl) (ok_els (fun h => h rfl) (ok_els (fun h => h rfl) ?_))))
  rw [h4]
  exact ih (d - 1) _ (by omega) ⟨j + 1, rfl, by omega⟩
 clear ih
 refine ok_loop (L := laws_sameKernel.l2 k) (I := fun d s => ∃ j : Nat, s = ((j : Int), T, D, T, D, R, W, P, U, C, A, Ps, Ls, O, G, R, W, P, U, C, A, Ps, Ls, O, G, ()) ∧ j + d = G.length) ?_ k G.length _ (by omega) ⟨0, rfl, by omega⟩
 rintro d n s ⟨j, rfl, hd⟩ ih
 rw [laws_sameKernel.l2]
 refine ok_if (fun hlt => ok_grd (by omega) (ok_grd hlt (ok_grd (by omega) (ok_grd hlt (ok_els (fun h => h ⟨rfl, rfl, rfl, rfl, rfl⟩) ?_))))) (fun _ => ?_)
 ·have h4 : w64 ((j : Int) + 1) = ((j + 1 : Nat) : Int) := w64_id (by omega) (by omega)
  rw [h4]
  exact ih (d - 1) _ (by omega) ⟨j + 1, rfl, by omega⟩
 clear ih
 refine ok_loop (L := laws_sameKernel.l3 k) (I := fun d s => ∃ j : Nat, s = ((j : Int), T, D, T, D, R, W, P, U, C, A, Ps, Ls, O, G, R, W, P, U, C, A, Ps, Ls, O, G, ()) ∧ j + d = Ls.length) ?_ k Ls.length _ (by omega) ⟨0, rfl, by omega⟩
 rintro d n s ⟨j, rfl, hd⟩ ih
 rw [laws_sameKernel.l3]
 refine ok_if (fun hlt => ok_grd (by omega) (ok_grd hlt (ok_grd (by omega) (ok_grd hlt (ok_els (fun h => h rfl) ?_))))) (fun _ => ok_some rfl)
 have hml := s6 _ (el_mem (t := LT) (xs := Ls) (i := j) (by omega))
 have h4 : w64 ((j : Int) + 1) = ((j + 1 : Nat) : Int) := w64_id (by omega) (by omega)
 refine ok_loop (L := laws_sameKernel.l4 k (laws_sameKernel.l3 k n)) (I := fun e s => ∃ i : Nat, s = ((j : Int), (i : Int), T, D, T, D, R, W, P, U, C, A, Ps, Ls, O, G, R, W, P, U, C, A, Ps, Ls, O, G, ()) ∧ i + e = (el LT Ls j).length) ?_ k (el LT Ls j).length _ (by omega) ⟨0, rfl, by omega⟩
 rintro e q s ⟨i, rfl, he⟩ ih2
 rw [laws_sameKernel.l4]
 simp only [Int.toNat_natCast]
 have hj0 : (0 : Int) ≤ (j : Int) := by omega
 have hi0 : (0 : Int) ≤ (i : Int) := by omega
 have h5 : w64 ((i : Int) + 1) = ((i + 1 : Nat) : Int) := w64_id (by omega) (by omega)
 refine ok_grd hj0 (ok_grd hlt (ok_if (fun hi => ok_grd hj0 (ok_grd hlt (ok_grd hi0 (ok_grd hi (ok_grd hj0 (ok_grd hlt (ok_grd hi0 (ok_grd hi (ok_els (fun h => h ⟨trivial, trivial⟩) ?_))))))))) (fun _ => ?_)))
 ·rw [h5]
  exact ih2 (e - 1) _ (by have : (i : Int) < ((el LT Ls j).length : Int) := hi; omega) ⟨i + 1, rfl, by have : (i : Int) < ((el LT Ls j).length : Int) := hi; omega⟩
 ·rw [h4]
  exact ih (d - 1) _ (by omega) ⟨j + 1, rfl, by omega⟩
end Go.Proofs.YtacpibmmodeacaaGreat.Pure
/- The plain law of FnBudgets. No condition. -/
namespace Go.Proofs.YtacpibmmodeacaaGreat.Pure
open Go Go.Proofs.YtacpibmmodeacaaGreatA Go.Proofs.YtacpibmmodeacaaGreatU Go.Proofs.YtacpibmmodeacaaGreat.QA Go.Proofs.YtacpibmmodeacaaGreat.QFnBudgets
set_option linter.unusedVariables false
set_option linter.unusedSimpArgs false
theorem drawRunPart_ok {k : Nat} {xs : List Int} (hl : xs.length ≤ 1048576) (hk : 1048576 < k) : Ok (spec_DrawRunPart.f k xs) (fun r => AnyK r.1) := by
 unfold spec_DrawRunPart.f
 exact ok_bind (new_ok hl hk) (fun r1 h1 => ok_bind (l12Any_ok hk h1) (fun r2 h2 => ok_bind (place_ok h2.2) (fun r3 h3 => ok_let (ok_bind (pickInt_ok h3 (by decide)) (fun r5 h5 => ok_bind (ins_ok hk h5.2) (fun r6 h6 => ok_some h2.1))))))
theorem FnBudgets : ∀ (x0 : den (.sl 5 (.int .u8))), Wf (.sl 5 (.int .u8)) x0 → ∃ k, laws_FnBudgets.f k x0 = some true := by
 intro xs _
 refine ⟨1048577, ?_⟩
 have hk : 1048576 < 1048577 := by omega
 generalize 1048577 = k at hk
 refine ok_eq ?_
 unfold laws_FnBudgets.f
 refine big_ok (fun hl => ?_) (ok_some rfl)
 refine ok_bind (drawRunPart_ok hl hk) ?_
 rintro ⟨K, part, budget, ins⟩ hA
 have hs : SmallK K := hA.small
 have hst : StampsK K := hA.st
 refine ok_bind' (r := runPartM K part budget ins) (runPart_i hk hs (fun _ => hst)) (ok_bind' (r := runPartM K part budget ins) (runPart_s hk hs (fun _ => hst)) (ok_els (fun h => h rfl) (ok_els (fun h => h rfl) ?_)))
 by_cases hv : KernelOk K ∧ 1 ≤ part ∧ part ≤ (K.2.2.1.length : Int)
 ·obtain ⟨hok, hp⟩ := hv
  have hip : InPart K part := ⟨hp.1, hp.2⟩
  obtain ⟨f1, -⟩ := fault_parts hok.fault
  have h3 := hok.parts
  have h4 := f1.2.2
  have hi : (part - 1).toNat < K.2.2.1.length := by omega
  have hpo := hok.part _ hi
  have hen := hpo.ends
  have w0 : w64 (part - 1) = part - 1 := w64_id (by omega) (by omega)
  have hsm := afterRun_small (budget := budget) (ins := ins) hs hok hst hip
  obtain ⟨ap, ai⟩ := after_at (budget := budget) (ins := ins) hip
  have htr := runK_trap (w := worldOf K part ins) 1001 (min budget 1000) (K.2.1, (el PT K.2.2.1 (part - 1).toNat).2.1, K.2.2.2.1, K.2.2.2.2.1)
  have hfi := runK_fine (w := worldOf K part ins) 1001 (min budget 1000) (K.2.1, (el PT K.2.2.1 (part - 1).toNat).2.1, K.2.2.2.1, K.2.2.2.2.1)
  have hai := ai.hi
  rw [runPartM_yes hok hp]
  dsimp only
  change ((runOf K part budget ins).2.1 = 1 ∧ ¬ (runOf K part budget ins).2.2 = 0) ∨ (¬ (runOf K part budget ins).2.1 = 1 ∧ (runOf K part budget ins).2.2 = 0) at htr
  change (runOf K part budget ins).2.1 = 0 → (runOf K part budget ins).1.2.1 = (0, []) at hfi
  refine ok_bind' (sameKernel_f hsm hk) (ok_els (fun h => h rfl) ?_)
  refine ok_bind' (r := true) ((kernelOk_s hs hk).trans (by rw [B_yes hok])) (ok_els (fun h => h rfl) (ok_els (by omega) (ok_els (by omega) ?_)))
  obtain ⟨n1, n2⟩ := run_none (ins := ins) hip
  have hr0 : runPartM K part 0 ins = (K, 2, 0) := by
   rw [runPartM_yes hok hp, n2, n1]
  refine ok_bind' (r := (K, 2, 0)) ((runPart_i hk hs (fun _ => hst)).trans (by rw [hr0])) ?_
  refine ok_grd ?_ (ok_grd rfl (ok_bind' (sameKernel_f hs hk) (ok_grd rfl ?_)))
  ·rcases htr with ⟨t1, t2⟩ | ⟨t1, t2⟩
   ·rw [decide_eq_true t1, decide_eq_true t2]
   ·rw [decide_eq_false t1, decide_eq_false (fun h => h t2)]
  refine ok_if (fun _ => ok_some rfl) (fun h0 => ?_)
  have h0' := Classical.not_not.1 h0
  unfold Number at hen
  have ap' : el TyP (afterRun K part budget ins).2.2.1 (part - 1).toNat = _ := ap
  rw [w0, ap']
  refine ok_grd (by omega) (ok_grd (by omega) (ok_grd (by omega) (ok_grd (by omega) (ok_grd ?_ (ok_grd (by omega) (ok_grd (by omega) (ok_some ?_)))))))
  ·show endsOf K part (runOf K part budget ins).2.1 = _
   unfold endsOf
   rw [if_pos h0']
   exact (w64_id (by omega) (by omega)).symm
  ·refine decide_eq_true ?_
   show (runOf K part budget ins).1.2.1.1 = 0
   rw [hfi h0']
 ·rw [runPartM_no hv]
  dsimp only
  have hsame := sameKernel_f hs hk
  refine ok_bind' hsame (ok_els (fun h => h rfl) (ok_bind' (kernelOk_s hs hk) ?_))
  refine ok_if (fun _ => ok_grd rfl (ok_grd rfl (ok_bind' hsame (ok_some rfl)))) (fun hok => ?_)
  have hok' := B_iff.1 (Classical.not_not.1 hok)
  refine ok_if (fun _ => ok_grd rfl (ok_grd rfl (ok_bind' hsame (ok_some rfl)))) (fun hlo => ?_)
  refine ok_if (fun _ => ok_grd rfl (ok_grd rfl (ok_bind' hsame (ok_some rfl)))) (fun hhi => ?_)
  exact absurd ⟨hok', by omega, by omega⟩ hv
end Go.Proofs.YtacpibmmodeacaaGreat.Pure
