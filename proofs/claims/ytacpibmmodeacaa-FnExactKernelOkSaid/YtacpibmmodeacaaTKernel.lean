/- Kernels: when they are right. No condition. -/
import Derived.Test.YtacpibmmodeacaaTSetup
import Derived.Test.YtacpibmmodeacaaTCpu
namespace Go.Proofs.Ytacpibmmodeacaa.Pure
open Go Go.Proofs.YtacpibmmodeacaaA Go.Proofs.YtacpibmmodeacaaU Go.Proofs.Ytacpibmmodeacaa.QA
set_option linter.unusedVariables false
set_option linter.unusedSimpArgs false
abbrev PT : Ty := .pair (.int .i64) (.pair (.pair (.int .i64) (.sl 3 (.int .i64))) (.pair (.int .i64) (.pair (.int .i64) (.int .i64))))
abbrev LT : Ty := .sl 241 (.pair (.int .i64) (.int .i64))
abbrev PartT := Int × (Int × List Int) × Int × Int × Int
abbrev LineT := List (Int × Int)
abbrev Kernel := Setup × List Int × List PartT × List LineT × List Int × Int × Bool × List Port5
def Number (z : Int) : Prop := 0 ≤ z ∧ z ≤ 1000000000
structure PartOk (p : PartT) : Prop where
  st : 0 ≤ p.1 ∧ p.1 ≤ 1
  cpu : CpuOk p.2.1
  starts : Number p.2.2.1
  ends : Number p.2.2.2.1
  late : Number p.2.2.2.2
structure KernelOk (k : Kernel) : Prop where
  fault : faultM k.1 = 0
  cells : k.2.1.length = 64
  words : WordsOk k.2.1
  parts : k.2.2.1.length = k.1.1.length
  lines : k.2.2.2.1.length = k.1.2.2.1.length
  part : ∀ i, i < k.2.2.1.length → PartOk (el PT k.2.2.1 i)
  line : ∀ i, i < k.2.2.2.1.length → ((el LT k.2.2.2.1 i).length : Int) ≤ (el P5 k.1.2.2.1 i).2.2.2.1
  outs : k.2.2.2.2.1.length = 8
  outw : WordsOk k.2.2.2.2.1
  turn : Number k.2.2.2.2.2.1
/-- A kernel of which nothing is too long. -/
structure SmallK (k : Kernel) : Prop where
  st : Small k.1
  cells : k.2.1.length ≤ 1048576
  parts : k.2.2.1.length ≤ 1048576
  stacks : ∀ p, p ∈ k.2.2.1 → p.2.1.2.length ≤ 1048576
  lines : k.2.2.2.1.length ≤ 1048576
  msgs : ∀ l, l ∈ k.2.2.2.1 → l.length ≤ 1048576
  outs : k.2.2.2.2.1.length ≤ 1048576
  log : k.2.2.2.2.2.2.2.length ≤ 1048576
theorem words_s {k : Nat} {S : List Int} (hl : S.length ≤ 1048576) (hk : 1048576 < k) : spec_l12Words.f k S = some (B (WordsOk S)) := by
  refine ok_eq ?_
  unfold spec_l12Words.f
  refine ok_loop (L := spec_l12Words.l1 k) (I := fun d s => ∃ j : Nat, s = ((j : Int), S, ()) ∧ j + d = S.length ∧ ∀ i, i < j → Word (el I1 S i)) ?_ k S.length _ (by omega) ⟨0, rfl, by omega, fun i hi => absurd hi (by omega)⟩
  rintro d n s ⟨j, rfl, hd, hq⟩ ih
  rw [spec_l12Words.l1]
  have h4 : w64 ((j : Int) + 1) = ((j + 1 : Nat) : Int) := w64_id (by omega) (by omega)
  refine ok_if (fun hc => ?_) (fun hc => ok_some (B_yes fun i hi => hq i (by omega)).symm)
  rw [if_pos (by omega), if_pos hc, in_s, h4]
  simp only [Int.toNat_natCast, Option.bind_some, decide_eq_true_eq]
  refine ok_if (fun h => ok_some (B_no fun hr => h (hr j (by omega))).symm) (fun h => ?_)
  exact ih (d - 1) _ (by omega) ⟨j + 1, rfl, by omega, allS hq (Classical.not_not.1 h)⟩
theorem isNumber_i {k : Nat} {z : Int} : impl_isNumber.f k z = some (decide (0 ≤ z ∧ z ≤ 1000000000)) := by
  unfold impl_isNumber.f
  rw [in_i]
  rfl
theorem kernelOk_i {k : Nat} {K : Kernel} (hs : SmallK K) (hk : 1048576 < k) : impl_KernelOk.f k K = some (B (KernelOk K)) := by
  obtain ⟨⟨R, W, P, U, C⟩, A, Ps, Ls, O, T, D, G⟩ := K
  obtain ⟨s1, s2, s3, s4, s5, s6, s7, s8⟩ := hs
  simp only at s2 s3 s4 s5 s6 s7 s8
  refine ok_eq ?_
  have no : ∀ {q : Prop}, (KernelOk ((R, W, P, U, C), A, Ps, Ls, O, T, D, G) → q) → ¬ q → Ok (some false) (fun r => r = B (KernelOk ((R, W, P, U, C), A, Ps, Ls, O, T, D, G))) := fun h hq => ok_some (B_no fun g => hq (h g)).symm
  unfold impl_KernelOk.f
  rw [fault_i s1 hk, words_i s2 hk]
  refine ok_let (ok_if (fun h => no (fun g => g.fault) h) (fun h1 => ?_))
  refine ok_if (fun h => no (fun g => g.cells) (fun e => h (by dsimp only at e ⊢; omega))) (fun h2 => ?_)
  refine ok_let (ok_if (fun h => no (fun g => g.words) (fun e => h (B_yes e))) (fun h3 => ?_))
  refine ok_if (fun h => no (fun g => g.parts) (fun e => h (by dsimp only at e ⊢; omega))) (fun h4 => ?_)
  refine ok_if (fun h => no (fun g => g.lines) (fun e => h (by dsimp only at e ⊢; omega))) (fun h5 => ?_)
  simp only at h1 h2 h3 h4 h5 ⊢
  refine ok_loop (L := impl_KernelOk.l1 k) (I := fun d t => ∃ j : Nat, t = ((Ps.length : Int), (j : Int), T, D, R, W, P, U, C, A, Ps, Ls, O, G, ()) ∧ j + d = Ps.length ∧ ∀ i, i < j → PartOk (el PT Ps i)) ?_ k Ps.length _ (by omega) ⟨0, rfl, by omega, fun i hi => absurd hi (by omega)⟩
  rintro d n t ⟨j, rfl, hd, hq⟩ ih
  rw [impl_KernelOk.l1]
  refine ok_if (fun hc => ok_grd (by omega) (ok_grd hc ?_)) (fun hc => ?_)
  · have hj : j < Ps.length := by omega
    have c4 : w64 ((j : Int) + 1) = ((j + 1 : Nat) : Int) := w64_id (by omega) (by omega)
    obtain ⟨a, c, b, e, f, hxe⟩ : ∃ (a : Int) (c : Int × List Int) (b e f : Int), el PT Ps j = (a, c, b, e, f) := ⟨_, _, _, _, _, rfl⟩
    have bad : ∀ {q : Prop}, (PartOk (a, c, b, e, f) → q) → ¬ q → Ok (some false) (fun r => r = B (KernelOk ((R, W, P, U, C), A, Ps, Ls, O, T, D, G))) := fun h hq => no (fun g => h (by have := g.part j hj; dsimp only at this; rw [hxe] at this; exact this)) hq
    simp only [Int.toNat_natCast, c4, show el (.pair (.int .i64) (.pair (.pair (.int .i64) (.sl 3 (.int .i64))) (.pair (.int .i64) (.pair (.int .i64) (.int .i64))))) Ps j = (a, c, b, e, f) from hxe, in_i, isNumber_i, cpuOk_i hk, Option.bind_some, decide_eq_true_eq]
    refine ok_if (fun h => bad (fun g => g.st) h) (fun q1 => ok_if (fun h => bad (fun g => g.cpu) (fun e => h (B_yes e))) (fun q2 => ok_if (fun h => bad (fun g => g.starts) h) (fun q3 => ok_if (fun h => bad (fun g => g.ends) h) (fun q4 => ok_if (fun h => bad (fun g => g.late) h) (fun q5 => ?_)))))
    exact ih (d - 1) _ (by omega) ⟨j + 1, rfl, by omega, allS hq (by rw [hxe]; exact ⟨Classical.not_not.1 q1, B_iff.1 (Classical.not_not.1 q2), Classical.not_not.1 q3, Classical.not_not.1 q4, Classical.not_not.1 q5⟩)⟩
  · have hp : ∀ i, i < Ps.length → PartOk (el PT Ps i) := fun i hi => hq i (by omega)
    clear ih hq hc hd
    refine ok_loop (L := impl_KernelOk.l2 k) (I := fun d t => ∃ j : Nat, t = ((Ls.length : Int), (j : Int), T, D, R, W, P, U, C, A, Ps, Ls, O, G, ()) ∧ j + d = Ls.length ∧ ∀ i, i < j → ((el LT Ls i).length : Int) ≤ (el P5 P i).2.2.2.1) ?_ k Ls.length _ (by omega) ⟨0, rfl, by omega, fun i hi => absurd hi (by omega)⟩
    rintro d n t ⟨j, rfl, hd, hq⟩ ih
    rw [impl_KernelOk.l2]
    refine ok_if (fun hc => ok_grd (by omega) (ok_grd hc (ok_grd (by omega) (ok_grd (by omega) ?_)))) (fun hc => ?_)
    · have c4 : w64 ((j : Int) + 1) = ((j + 1 : Nat) : Int) := w64_id (by omega) (by omega)
      simp only [Int.toNat_natCast, c4]
      exact ok_if (fun h => no (fun g => g.line j (by dsimp only; omega)) (Int.not_le.2 h)) (fun h => ih (d - 1) _ (by omega) ⟨j + 1, rfl, by omega, allS hq (Int.not_lt.1 h)⟩)
    · have hln : ∀ i, i < Ls.length → ((el LT Ls i).length : Int) ≤ (el P5 P i).2.2.2.1 := fun i hi => hq i (by omega)
      refine ok_if (fun h8 => ?_) (fun h => no (fun g => g.outs) (fun e => h (by dsimp only at e; omega)))
      rw [words_i s7 hk, isNumber_i]
      refine ok_let (ok_if (fun hw => ok_let (ok_some (B_of (decide_eq_true_iff.trans ⟨fun ht => ?_, fun g => g.turn⟩)))) (fun h => no (fun g => g.outw) (fun e => h (B_yes e))))
      exact ⟨Classical.not_not.1 h1, by dsimp only; omega, B_iff.1 (Classical.not_not.1 h3), by dsimp only; omega, by dsimp only; omega, hp, hln, by dsimp only; omega, B_iff.1 hw, ht⟩
theorem kernelOk_s {k : Nat} {K : Kernel} (hs : SmallK K) (hk : 1048576 < k) : spec_KernelOk.f k K = some (B (KernelOk K)) := by
  obtain ⟨⟨R, W, P, U, C⟩, A, Ps, Ls, O, T, D, G⟩ := K
  obtain ⟨s1, s2, s3, s4, s5, s6, s7, s8⟩ := hs
  simp only at s2 s3 s4 s5 s6 s7 s8
  refine ok_eq ?_
  have no : ∀ {q : Prop}, (KernelOk ((R, W, P, U, C), A, Ps, Ls, O, T, D, G) → q) → ¬ q → Ok (some false) (fun r => r = B (KernelOk ((R, W, P, U, C), A, Ps, Ls, O, T, D, G))) := fun h hq => ok_some (B_no fun g => hq (h g)).symm
  unfold spec_KernelOk.f
  rw [fault_s s1 hk, words_s s2 hk, words_s s7 hk, in_s]
  refine ok_let (ok_if (fun h => no (fun g => g.fault) h) (fun h1 => ?_))
  refine ok_if (fun h => no (fun g => g.cells) (fun e => h (by dsimp only at e ⊢; omega))) (fun h2 => ?_)
  refine ok_let (ok_if (fun h => no (fun g => g.words) (fun e => h (B_yes e))) (fun h3 => ?_))
  refine ok_if (fun h => no (fun g => g.parts) (fun e => h (by dsimp only at e ⊢; omega))) (fun h4 => ?_)
  refine ok_if (fun h => no (fun g => g.lines) (fun e => h (by dsimp only at e ⊢; omega))) (fun h5 => ?_)
  refine ok_if (fun h => no (fun g => g.outs) (fun e => h (by dsimp only at e ⊢; omega))) (fun h6 => ?_)
  refine ok_let (ok_if (fun h => no (fun g => g.outw) (fun e => h (B_yes e))) (fun h7 => ?_))
  refine ok_let (ok_if (fun h => no (fun g => g.turn) (fun e => h (decide_eq_true e))) (fun h8 => ?_))
  have h8' := of_decide_eq_true (Classical.not_not.1 h8)
  simp only at h1 h2 h3 h4 h5 h6 h7 h8' ⊢
  refine ok_loop (L := spec_KernelOk.l1 k) (I := fun d t => ∃ j : Nat, t = ((j : Int), T, D, R, W, P, U, C, A, Ps, Ls, O, G, ()) ∧ j + d = Ps.length ∧ ∀ i, i < j → PartOk (el PT Ps i)) ?_ k Ps.length _ (by omega) ⟨0, rfl, by omega, fun i hi => absurd hi (by omega)⟩
  rintro d n t ⟨j, rfl, hd, hq⟩ ih
  rw [spec_KernelOk.l1]
  refine ok_if (fun hc => ok_grd (by omega) (ok_grd hc ?_)) (fun hc => ?_)
  · have hj : j < Ps.length := by omega
    have c4 : w64 ((j : Int) + 1) = ((j + 1 : Nat) : Int) := w64_id (by omega) (by omega)
    have hst := s4 _ (el_mem (t := PT) hj)
    obtain ⟨a, c, b, e, f, hxe⟩ : ∃ (a : Int) (c : Int × List Int) (b e f : Int), el PT Ps j = (a, c, b, e, f) := ⟨_, _, _, _, _, rfl⟩
    rw [hxe] at hst
    simp only at hst
    have bad : ∀ {q : Prop}, (PartOk (a, c, b, e, f) → q) → ¬ q → Ok (some false) (fun r => r = B (KernelOk ((R, W, P, U, C), A, Ps, Ls, O, T, D, G))) := fun h hq => no (fun g => h (by have := g.part j hj; dsimp only at this; rw [hxe] at this; exact this)) hq
    simp only [Int.toNat_natCast, c4, show el (.pair (.int .i64) (.pair (.pair (.int .i64) (.sl 3 (.int .i64))) (.pair (.int .i64) (.pair (.int .i64) (.int .i64))))) Ps j = (a, c, b, e, f) from hxe, in_s, cpuOk_s hst hk, Option.bind_some, decide_eq_true_eq]
    refine ok_if (fun h => bad (fun g => g.st) h) (fun q1 => ok_if (fun h => bad (fun g => g.cpu) (fun e => h (B_yes e))) (fun q2 => ok_if (fun h => bad (fun g => g.starts) h) (fun q3 => ok_if (fun h => bad (fun g => g.ends) h) (fun q4 => ok_if (fun h => bad (fun g => g.late) h) (fun q5 => ?_)))))
    exact ih (d - 1) _ (by omega) ⟨j + 1, rfl, by omega, allS hq (by rw [hxe]; exact ⟨Classical.not_not.1 q1, B_iff.1 (Classical.not_not.1 q2), Classical.not_not.1 q3, Classical.not_not.1 q4, Classical.not_not.1 q5⟩)⟩
  · have hp : ∀ i, i < Ps.length → PartOk (el PT Ps i) := fun i hi => hq i (by omega)
    clear ih hq hc hd
    refine ok_loop (L := spec_KernelOk.l2 k) (I := fun d t => ∃ j : Nat, t = ((j : Int), T, D, R, W, P, U, C, A, Ps, Ls, O, G, ()) ∧ j + d = Ls.length ∧ ∀ i, i < j → ((el LT Ls i).length : Int) ≤ (el P5 P i).2.2.2.1) ?_ k Ls.length _ (by omega) ⟨0, rfl, by omega, fun i hi => absurd hi (by omega)⟩
    rintro d n t ⟨j, rfl, hd, hq⟩ ih
    rw [spec_KernelOk.l2]
    refine ok_if (fun hc => ok_grd (by omega) (ok_grd hc (ok_grd (by omega) (ok_grd (by omega) ?_)))) (fun hc => ok_some (B_yes ?_).symm)
    · have c4 : w64 ((j : Int) + 1) = ((j + 1 : Nat) : Int) := w64_id (by omega) (by omega)
      simp only [Int.toNat_natCast, c4]
      exact ok_if (fun h => no (fun g => g.line j (by dsimp only; omega)) (Int.not_le.2 h)) (fun h => ih (d - 1) _ (by omega) ⟨j + 1, rfl, by omega, allS hq (Int.not_lt.1 h)⟩)
    · exact ⟨Classical.not_not.1 h1, by dsimp only; omega, B_iff.1 (Classical.not_not.1 h3), by dsimp only; omega, by dsimp only; omega, hp, fun i hi => hq i (by dsimp only at hi; omega), by dsimp only; omega, B_iff.1 (Classical.not_not.1 h7), h8'⟩
end Go.Proofs.Ytacpibmmodeacaa.Pure
