/- The plain words and the plain law of FnAlone. No condition. -/
import Derived.Test.YtacpibmmodeacaaGreatQFnAlone
import Derived.Test.YtacpibmmodeacaaGreatPTa
/- Set-ups that are drawn: they are right. No condition. -/
namespace Go.Proofs.YtacpibmmodeacaaGreat.Pure
open Go Go.Proofs.YtacpibmmodeacaaGreatA Go.Proofs.YtacpibmmodeacaaGreatU Go.Proofs.YtacpibmmodeacaaGreat.QA
set_option linter.unusedVariables false
theorem rows_head {L : List (Int × Int)} {lo : Int} (h : Rows lo L) : ∀ j i, j < i → i < L.length → (el W2 L j).1 + (el W2 L j).2 ≤ (el W2 L i).1 := by
 induction L generalizing lo with
 | nil => intro j i h1 h2; exact absurd h2 (by simp)
 | cons r L ih =>
  obtain ⟨a, b, c, d, e⟩ := h
  intro j i h1 h2
  cases i with
  | zero => exact absurd h1 (by omega)
  | succ i =>
   have hi : i < L.length := by simpa using h2
   cases j with
   | zero =>
    have := rows_in e _ (el_mem (t := W2) hi)
    exact this.1
   | succ j => exact ih e j i (by omega) hi
theorem regions_of {L : List (Int × Int)} (h : Rows 0 L) (h1 : 1 ≤ L.length) (h4 : L.length ≤ 4) : RegionsOk L := by
 refine ⟨fun i hi => ⟨?_, fun j hj ho => ?_⟩, h1, h4⟩
 ·have := rows_in h _ (el_mem (t := W2) hi)
  exact ⟨this.1, this.2.1, by omega, by omega⟩
 ·exact absurd ho.1 (Int.not_lt.2 (rows_head h j i hj hi))
/-- A drawn text of code. -/
def CodeDrawn (s : ByteArray) : Prop := ∃ L, AllIns L ∧ L.length ≤ 46 ∧ s = chrs (codeB L)
structure Drawn (s : Setup) : Prop where
 rows : Rows 0 s.1
 n1 : 1 ≤ s.1.length
 n4 : s.1.length ≤ 4
 plan1 : 1 ≤ s.2.1.length
 plan5 : s.2.1.length ≤ 5
 plan : ∀ w, w ∈ s.2.1 → (1 ≤ w.1 ∧ w.1 ≤ (s.1.length : Int)) ∧ (1 ≤ w.2 ∧ w.2 ≤ 40)
 ports3 : s.2.2.1.length ≤ 3
 ports : ∀ p, p ∈ s.2.2.1 → PortOk p ∧ p.2.1 ≤ (s.1.length : Int) ∧ p.2.2.1 ≤ (s.1.length : Int)
 rules : RulesOk s.2.2.2.1
 rulesN : ∀ r, r ∈ s.2.2.2.1 → 1 ≤ r.1 ∧ r.1 ≤ (s.1.length : Int)
 codesN : s.2.2.2.2.length = s.1.length
 codes : ∀ c, c ∈ s.2.2.2.2 → CodeDrawn c
theorem l09Plan_ok {k : Nat} {c : List Int × Int × Int} {parts : Int} (hk : 1048576 < k) (h : Cur c) (hp : 1 ≤ parts ∧ parts ≤ 4) :
  Ok (spec_l09Plan.f k c parts) (fun r => 1 ≤ r.1.length ∧ r.1.length ≤ 5 ∧ (∀ w, w ∈ r.1 → (1 ≤ w.1 ∧ w.1 ≤ parts) ∧ (1 ≤ w.2 ∧ w.2 ≤ 40)) ∧ Cur (c.1, r.2.2)) := by
 unfold spec_l09Plan.f
 refine ok_let ?_
 refine ok_loop (L := spec_l09Plan.l1 k) (I := fun d s => ∃ (j : Nat) (ci ch : Int) (L : List (Int × Int)), s = (parts, (j : Int), ci, ch, c.1, L, ()) ∧ j + d = 5 ∧ Cur (c.1, ci, ch) ∧ L.length = j ∧ ∀ w, w ∈ L → (1 ≤ w.1 ∧ w.1 ≤ parts) ∧ (1 ≤ w.2 ∧ w.2 ≤ 40)) ?_ k 5 _ (by omega) ⟨0, _, _, [], rfl, by omega, h, rfl, fun w hw => by cases hw⟩
 rintro d n s ⟨j, ci, ch, L, rfl, hd, hc, hL, hw⟩ ih
 rw [spec_l09Plan.l1]
 refine ok_bind (below_lt hc (by omega)) (fun r2 h2 => ?_)
 rw [w64_id (z := 1 + r2.1) (by omega) (by omega)]
 refine ok_if (fun hlt => ?_) (fun hge => ok_some ⟨by dsimp only; omega, by dsimp only; omega, hw, h2.2.2⟩)
 refine ok_bind (below_lt h2.2.2 (by omega)) (fun r3 h3 => ok_bind (below_lt h3.2.2 (by omega)) (fun r4 h4 => ok_let ?_))
 rw [w64_id (z := 1 + r3.1) (by omega) (by omega), w64_id (z := 1 + r4.1) (by omega) (by omega)]
 refine ok_grd (by simp only [List.length_cons, List.length_nil]; omega) (ok_let ?_)
 have h5 : w64 ((j : Int) + 1) = ((j + 1 : Nat) : Int) := w64_id (by omega) (by omega)
 rw [h5]
 refine ih (d - 1) _ (by omega) ⟨j + 1, _, _, _, rfl, by omega, h4.2.2, by simp [hL], fun w hw' => ?_⟩
 rcases List.mem_append.1 hw' with h' | h'
 ·exact hw w h'
 ·rw [List.mem_singleton.1 h']
  dsimp only
  omega
theorem l11Setup_ok {k : Nat} {c : List Int × Int × Int} (hk : 1048576 < k) (h : Cur c) : Ok (spec_l11Setup.f k c) (fun r => Drawn r.1 ∧ Cur (c.1, r.2.2)) := by
 unfold spec_l11Setup.f
 refine ok_bind (l04Regions_ok hk h) (fun r1 h1 => ok_bind (l09Plan_ok hk h1.2.2.2 (by have := h1.2; omega)) (fun r2 h2 => ok_bind (l10Rules_ok hk h2.2.2.2 (by have := h1.2; omega)) (fun r3 h3 => ?_)))
 obtain ⟨hR, hn1, hn4, -⟩ := h1
 obtain ⟨hp1, hp5, hpl, -⟩ := h2
 obtain ⟨hru, hrn, hc3⟩ := h3
 generalize r1.1 = R at hR hn1 hn4 hpl hrn
 generalize r2.1 = W at hp1 hp5 hpl
 generalize r3.1 = U at hru hrn
 refine ok_loop (L := spec_l11Setup.l1 k) (I := fun d s => ∃ (j : Nat) (ci ch : Int) (P : List Port5), s = ((R.length : Int), (j : Int), ci, ch, c.1, [], [], [], [], [], R, W, P, U, [], ()) ∧ j + d = 4 ∧ Cur (c.1, ci, ch) ∧ P.length ≤ j ∧ j ≤ 3 ∧ ∀ p, p ∈ P → PortOk p ∧ p.2.1 ≤ (R.length : Int) ∧ p.2.2.1 ≤ (R.length : Int)) ?_ k 4 _ (by omega) ⟨0, _, _, [], rfl, by omega, hc3, Nat.le_refl 0, by omega, fun p hp => by cases hp⟩
 rintro d n s ⟨j, ci, ch, P, rfl, hd, hc, hP, hj, hpp⟩ ih
 rw [spec_l11Setup.l1]
 refine ok_bind (below_lt hc (by omega)) (fun r4 h4 => ok_if (fun hlt => ?_) (fun hge => ?_))
 ·have h5 : w64 ((j : Int) + 1) = ((j + 1 : Nat) : Int) := w64_id (by omega) (by omega)
  refine ok_bind (l08Port_ok h4.2.2) (fun r5 h6 => ?_)
  rw [h5]
  have skip := ih (d - 1) ((R.length : Int), ((j + 1 : Nat) : Int), r5.2.2.1, r5.2.2.2, c.1, [], [], [], [], [], R, W, P, U, [], ()) (by omega) ⟨j + 1, _, _, P, rfl, by omega, h6.2, by omega, by omega, hpp⟩
  refine ok_if (fun q1 => ok_if (fun q2 => ok_let (ok_grd (by simp only [List.length_cons, List.length_nil]; omega) (ok_let ?_))) (fun _ => skip)) (fun _ => skip)
  refine ih (d - 1) _ (by omega) ⟨j + 1, _, _, _, rfl, by omega, h6.2, by simp only [List.length_append, List.length_cons, List.length_nil]; omega, by omega, fun p hp => ?_⟩
  rcases List.mem_append.1 hp with h' | h'
  ·exact hpp p h'
  ·rw [List.mem_singleton.1 h']
   exact ⟨h6.1, q1, q2⟩
 ·clear ih hc hd
  refine ok_loop (L := spec_l11Setup.l2 k) (I := fun d s => ∃ (j : Nat) (ci ch : Int) (C : List ByteArray), s = ((R.length : Int), (j : Int), ci, ch, c.1, [], [], [], [], [], R, W, P, U, C, ()) ∧ j + d = R.length ∧ Cur (c.1, ci, ch) ∧ C.length = j ∧ ∀ c, c ∈ C → CodeDrawn c) ?_ k R.length _ (by omega) ⟨0, _, _, [], rfl, by omega, h4.2.2, rfl, fun p hp => by cases hp⟩
  rintro d m s ⟨i, ci, ch, C, rfl, hd, hc, hC, hcd⟩ ih
  rw [spec_l11Setup.l2]
  refine ok_if (fun hlt => ?_) (fun hge => ok_some ⟨⟨hR, hn1, hn4, hp1, hp5, hpl, by dsimp only; omega, hpp, hru, hrn, by dsimp only; omega, hcd⟩, hc⟩)
  refine ok_bind (l05Code_ok hk hc) (fun r8 h8 => ?_)
  have hl8 := h8.2.1
  have h5 : w64 ((i : Int) + 1) = ((i + 1 : Nat) : Int) := w64_id (by omega) (by omega)
  have ect : codeTextM r8.1 = (chrs (codeB r8.1), true) := by
   unfold codeTextM
   rw [B_yes (codeOk_of h8.1 (by omega)), if_pos rfl]
  rw [codeText_s (by omega) hk, ect, h5]
  refine ok_let (ok_let (ok_grd (by simp only [List.length_cons, List.length_nil]; omega) (ok_let ?_)))
  refine ih (d - 1) _ (by omega) ⟨i + 1, _, _, _, rfl, by omega, h8.2.2, by simp [hC], fun x hx => ?_⟩
  rcases List.mem_append.1 hx with h' | h'
  ·exact hcd x h'
  ·rw [List.mem_singleton.1 h']
   exact ⟨r8.1, h8.1, hl8, rfl⟩
theorem codeRead_of {s : ByteArray} (h : CodeDrawn s) : CodeRead s := by
 obtain ⟨L, h1, h2, rfl⟩ := h
 have := codeB_len L
 exact ⟨by rw [chrs_size, this]; omega, by rw [chrs_size, this]; omega⟩
theorem drawn_plan {s : Setup} (h : Drawn s) : PlanOk s.2.1 := ⟨fun i hi => by
  have := h.plan _ (el_mem (t := W2) hi)
  have h4 := h.n4
  exact ⟨by omega, by omega⟩, h.plan1, by have := h.plan5; omega⟩
theorem drawn_ports {s : Setup} (h : Drawn s) : PortsOk s.2.2.1 := ⟨fun i hi => (h.ports _ (el_mem (t := P5) hi)).1, by have := h.ports3; omega⟩
theorem drawn_codes {s : Setup} (h : Drawn s) : CodesOk s.2.2.2.2 (s.1.length : Int) := ⟨fun i hi => codeRead_of (h.codes _ (el_mem (t := .str) hi)), by rw [h.codesN]⟩
theorem drawn_parts {s : Setup} (h : Drawn s) : PartsOk s := ⟨fun i hi => (h.plan _ (el_mem (t := W2) hi)).1.2, fun i hi => (h.ports _ (el_mem (t := P5) hi)).2.1, fun i hi => (h.ports _ (el_mem (t := P5) hi)).2.2, fun i hi => (h.rulesN _ (el_mem (t := R3) hi)).2⟩
theorem drawn_small {s : Setup} (h : Drawn s) : Small s := ⟨by have := h.n4; omega, by have := h.plan5; omega, by have := h.ports3; omega, by have := h.rules.2; omega, by have := h.codesN; have := h.n4; omega⟩
theorem fault0 {s : Setup} (h1 : RegionsOk s.1) (h2 : PlanOk s.2.1) (h3 : PortsOk s.2.2.1) (h4 : RulesOk s.2.2.2.1) (h5 : CodesOk s.2.2.2.2 (s.1.length : Int)) (h6 : PartsOk s) : faultM s = 0 := by
 unfold faultM
 rw [B_yes h1, B_yes h2, B_yes h3, B_yes h4, B_yes h5, B_yes h6]
 rfl
theorem drawn_right {s : Setup} (h : Drawn s) : faultM s = 0 := fault0 (regions_of h.rows h.n1 h.n4) (drawn_plan h) (drawn_ports h) h.rules (drawn_codes h) (drawn_parts h)
end Go.Proofs.YtacpibmmodeacaaGreat.Pure
/- Drawn kernels. No condition. -/
namespace Go.Proofs.YtacpibmmodeacaaGreat.Pure
open Go Go.Proofs.YtacpibmmodeacaaGreatA Go.Proofs.YtacpibmmodeacaaGreatU Go.Proofs.YtacpibmmodeacaaGreat.QA
set_option linter.unusedVariables false
set_option linter.unusedSimpArgs false
/-- When all is stopped no register tells anything. -/
def StopZ (K : Kernel) : Prop := K.2.2.2.2.2.2.1 = true → K.2.2.2.2.1 = List.replicate 8 0
theorem stop_turn {K : Kernel} {ins : List Int} (h : StopZ K) : StopZ (turnK K ins) := by
 unfold turnK
 by_cases hc : B (KernelOk K) = true ∧ ¬ K.2.2.2.2.2.1 = 1000000000
 ·rw [if_pos hc]
  by_cases hs : K.2.2.2.2.2.2.1 = true ∨ (el PT K.2.2.1 ((winOf K).1 - 1).toNat).1 = 1
  ·rw [if_pos hs]
   exact h
  ·rw [if_neg hs]
   have hD : ¬ K.2.2.2.2.2.2.1 = true := fun g => hs (.inl g)
   unfold runTurn
   split
   ·exact fun g => absurd g hD
   ·unfold failK
    have es : ∀ (K' : Kernel) (p w : Int), (lateK K' p w).2.2.2.2.2.2.1 = K'.2.2.2.2.2.2.1 := fun K' p w => by unfold lateK; split <;> rfl
    have ea : ∀ (K' : Kernel) (p a : Int), ¬ K'.2.2.2.2.2.2.1 = true → StopZ (actK K' p a) := fun K' p a hn => by
     unfold actK
     split
     ·exact fun g => absurd g hn
     split
     ·exact fun g => absurd g hn
     split
     ·exact fun g => absurd g hn
     split
     ·exact fun _ => rfl
     ·exact fun g => absurd g hn
    refine ea _ _ _ ?_
    show ¬ (lateK _ _ _).2.2.2.2.2.2.1 = true
    rw [es]
    exact hD
 ·rw [if_neg hc]
  exact h
structure DrawnK (K : Kernel) : Prop where
 good : Good 12 K
 time : 0 ≤ K.2.2.2.2.2.1 ∧ K.2.2.2.2.2.1 ≤ 12
 setup : Drawn K.1
 stop : StopZ K
theorem ins_ok {k : Nat} {c : List Int × Int × Int} (hk : 1048576 < k) (h : Cur c) : Ok (spec_l12Ins.f k c) (fun r => Cur (c.1, r.2.2) ∧ r.1.length ≤ 4) := by
 obtain ⟨b, ci, ch⟩ := c
 unfold spec_l12Ins.f
 refine ok_let ?_
 refine ok_loop (L := spec_l12Ins.l1 k) (I := fun d s => ∃ (j : Nat) (ci ch : Int) (L : List Int), s = ((j : Int), ci, ch, b, L, ()) ∧ j + d = 4 ∧ Cur (b, ci, ch) ∧ L.length = j) ?_ k 4 _ (by omega) ⟨0, ci, ch, [], rfl, by omega, h, rfl⟩
 rintro d n s ⟨j, ci, ch, L, rfl, hd, hc, hL⟩ ih
 rw [spec_l12Ins.l1]
 refine ok_bind (below_lt hc (by omega)) (fun r hr => ?_)
 have h4 : w64 ((j : Int) + 1) = ((j + 1 : Nat) : Int) := w64_id (by omega) (by omega)
 refine ok_if (fun hlt => ?_) (fun hge => ok_some ⟨hr.2.2, by dsimp only; omega⟩)
 refine ok_bind (below_lt hr.2.2 (by omega)) (fun q hq => ?_)
 refine ok_let (ok_grd (by simp only [List.length_cons, List.length_nil]; omega) (ok_let ?_))
 rw [h4]
 exact ih (d - 1) _ (by have := hr.2.1; omega) ⟨j + 1, _, _, _, rfl, by have := hr.2.1; omega, hq.2.2, by rw [List.length_append, List.length_cons, List.length_nil]; omega⟩
theorem arenaNew_k {k : Nat} : spec_ArenaNew.f k = some (List.replicate 64 0) := by
 unfold spec_ArenaNew.f
 simp
theorem kernelNew_s {k : Nat} {S : Setup} (h : Small S) (hk : 1048576 < k) : spec_KernelNew.f k S = some (if faultM S = 0 then (newK S, 0) else ((([], [], [], [], []), [], [], [], [], 0, false, []), faultM S)) := by
 have h1 := h.a
 have h3 := h.c
 unfold spec_KernelNew.f
 rw [fault_s h hk]
 simp only [Option.bind_some]
 by_cases h0 : faultM S = 0
 ·rw [if_neg (fun g => g h0), if_pos h0, copySetup_s h, arenaNew_k]
  simp only [Option.bind_some, ↓reduceIte, Int.reduceMul, Int.reduceLE]
  rw [if_pos (by omega), if_pos (by omega)]
  simp only [Int.toNat_natCast, Option.bind_some]
  rw [if_pos (by omega), if_pos (by omega)]
  rw [if_pos (by omega), if_pos (by omega)]
  rfl
 ·rw [if_pos h0, if_neg h0]
theorem l12Kernel_ok {k : Nat} {c : List Int × Int × Int} (hk : 1048576 < k) (h : Cur c) : Ok (spec_l12Kernel.f k c) (fun r => DrawnK r.1 ∧ Cur (c.1, r.2.2)) := by
 obtain ⟨b, ci, ch⟩ := c
 unfold spec_l12Kernel.f
 refine ok_bind (l11Setup_ok hk h) (fun r1 h1 => ?_)
 obtain ⟨S, hS⟩ : ∃ S, S = r1.1 := ⟨_, rfl⟩
 have hD : Drawn S := by rw [hS]; exact h1.1
 have hf := drawn_right hD
 rw [← hS]
 refine ok_bind' (r := (newK S, 0)) ((kernelNew_s (drawn_small hD) hk).trans (by rw [if_pos hf])) ?_
 refine ok_loop (L := spec_l12Kernel.l1 k) (I := fun d s => ∃ (j : Nat) (ci ch : Int) (K : Kernel), s = ((j : Int), ci, ch, 0, false, K.2.2.2.2.2.1, K.2.2.2.2.2.2.1, b, [], [], [], [], [], [], [], [], [], [], K.1.1, K.1.2.1, K.1.2.2.1, K.1.2.2.2.1, K.1.2.2.2.2, K.2.1, K.2.2.1, K.2.2.2.1, K.2.2.2.2.1, K.2.2.2.2.2.2.2, ()) ∧ j + d = 12 ∧ Cur (b, ci, ch) ∧ Good (j : Int) K ∧ K.2.2.2.2.2.1 = (j : Int) ∧ K.1 = S ∧ StopZ K) ?_ k 12 _ (by omega) ⟨0, _, _, newK S, rfl, by omega, h1.2, new_good hf, rfl, rfl, fun g => by cases g⟩
 rintro d n s ⟨j, ci, ch, K, rfl, hd, hc, hG, hT, hKS, hZ⟩ ih
 rw [spec_l12Kernel.l1]
 refine ok_bind (below_lt hc (by omega)) (fun r hr => ?_)
 have h4 : w64 ((j : Int) + 1) = ((j + 1 : Nat) : Int) := w64_id (by omega) (by omega)
 refine ok_if (fun hlt => ?_) (fun hge => ok_some ⟨⟨hG.up (by omega), by rw [show ((K.1.1, K.1.2.1, K.1.2.2.1, K.1.2.2.2.1, K.1.2.2.2.2), K.2.1, K.2.2.1, K.2.2.2.1, K.2.2.2.2.1, K.2.2.2.2.2.1, K.2.2.2.2.2.2.1, K.2.2.2.2.2.2.2) = K from rfl, hT]; omega, by rw [show ((K.1.1, K.1.2.1, K.1.2.2.1, K.1.2.2.2.1, K.1.2.2.2.2), K.2.1, K.2.2.1, K.2.2.2.1, K.2.2.2.2.1, K.2.2.2.2.2.1, K.2.2.2.2.2.2.1, K.2.2.2.2.2.2.2) = K from rfl, hKS]; exact hD, hZ⟩, hr.2.2⟩)
 refine ok_bind (ins_ok hk hr.2.2) (fun q hq => ?_)
 have ht : spec_TurnOf.f k ((K.1.1, K.1.2.1, K.1.2.2.1, K.1.2.2.2.1, K.1.2.2.2.2), K.2.1, K.2.2.1, K.2.2.2.1, K.2.2.2.2.1, K.2.2.2.2.2.1, K.2.2.2.2.2.2.1, K.2.2.2.2.2.2.2) q.1 = some (turnK K q.1) := turn_s hG.small hG.st hG.log hk
 refine ok_bind' ht ?_
 rw [h4]
 have hr2 := hr.2.1
 exact ih (d - 1) _ (by omega) ⟨j + 1, _, _, turnK K q.1, rfl, by omega, hq.1, (turn_good hG (by omega)).up (by omega), by rw [turn_turn hG (by omega), hT]; omega, by rw [turn_setup]; exact hKS, stop_turn hZ⟩
theorem drawKernel_ok {k : Nat} {xs : List Int} (hl : xs.length ≤ 1048576) (hk : 1048576 < k) : Ok (spec_DrawKernel.f k xs) (fun r => DrawnK r.1) := by
 unfold spec_DrawKernel.f
 exact ok_bind (new_ok hl hk) (fun r1 h1 => ok_bind (l12Kernel_ok hk h1) (fun r2 h2 => ok_bind (ins_ok hk h2.2) (fun r3 h3 => ok_some h2.1)))
end Go.Proofs.YtacpibmmodeacaaGreat.Pure
/- Parts of a kernel do not disturb one another. No condition. -/
namespace Go.Proofs.YtacpibmmodeacaaGreat.Pure
open Go Go.Proofs.YtacpibmmodeacaaGreatA Go.Proofs.YtacpibmmodeacaaGreatU Go.Proofs.YtacpibmmodeacaaGreat.QA
set_option linter.unusedVariables false
set_option linter.unusedSimpArgs false
def InReg (r : Int × Int) (j : Nat) : Prop := r.1 ≤ (j : Int) ∧ (j : Int) < r.1 + r.2
/-- The same cells within a region. -/
def Same (r : Int × Int) (A B : List Int) : Prop := ∀ j, InReg r j → el I1 A j = el I1 B j
/-- The same cells outside a region. -/
def Frame (r : Int × Int) (A B : List Int) : Prop := ∀ j, ¬ InReg r j → el I1 B j = el I1 A j
theorem cellAt_reg {a : List Int} {r : Int × Int} {p : Int} (h : ¬ cellAt a r p < 0) : InReg r (cellAt a r p).toNat := by
 unfold cellAt at h ⊢
 unfold InReg
 split at h
 ·rename_i hc
  rw [if_pos hc]
  omega
 ·omega
theorem frame_set {r : Int × Int} {A : List Int} {i : Nat} {x : Int} (h : InReg r i) : Frame r A (A.set i x) := fun j hj => by
 have hij : i ≠ j := fun e => hj (by rw [← e]; exact h)
 rw [el_set_ne (t := I1) hij]
theorem Frame.trans {r : Int × Int} {A B C : List Int} (h : Frame r A B) (h' : Frame r B C) : Frame r A C := fun j hj => (h' j hj).trans (h j hj)
theorem frame_rfl {r : Int × Int} {A : List Int} : Frame r A A := fun j hj => rfl
theorem doX_frame {pc op g : Int} {S A : List Int} {r : Int × Int} {time : Int} (nt : NoTrap pc op g S A r) : Frame r A (doX pc (op, g) S A r time).2.1 := by
 unfold doX
 have q : ∀ {c : Prop} [Decidable c] {x y : Step}, Frame r A x.2.1 → Frame r A y.2.1 → Frame r A (if c then x else y).2.1 := fun {c} _ {x y} hx hy => if_in (P := fun s : Step => Frame r A s.2.1) hx hy
 refine q frame_rfl (q frame_rfl ?_)
 by_cases o3 : op = 3
 ·rw [if_pos o3]
  exact frame_set (cellAt_reg (nt.st o3))
 rw [if_neg o3]
 exact q frame_rfl (q frame_rfl (q frame_rfl (q frame_rfl (q frame_rfl (q frame_rfl (q frame_rfl (q frame_rfl frame_rfl)))))))
theorem step_frame {c : Int × List Int} {code : List (Int × Int)} {A : List Int} {r : Int × Int} {time : Int} : Frame r A (stepM c code A r time).2.1 := by
 unfold stepM
 by_cases h : trapM c code A r = 0
 ·rw [if_pos h]
  exact doX_frame (trap0 h).2.2.2
 ·rw [if_neg h]
  exact frame_rfl
/-! ### registers -/
def Own (part : Int) (j : Nat) : Prop := (j : Int) = 2 * part - 2 ∨ (j : Int) = 2 * part - 1
def SameO (part : Int) (O Q : List Int) : Prop := ∀ j, Own part j → el I1 O j = el I1 Q j
def FrameO (part : Int) (O Q : List Int) : Prop := ∀ j, ¬ Own part j → el I1 Q j = el I1 O j
theorem FrameO.trans {p : Int} {A B C : List Int} (h : FrameO p A B) (h' : FrameO p B C) : FrameO p A C := fun j hj => (h' j hj).trans (h j hj)
theorem frameO_set {part : Int} {O : List Int} {i : Nat} {x : Int} (h : Own part i) : FrameO part O (O.set i x) := fun j hj => by
 have hij : i ≠ j := fun e => hj (by rw [← e]; exact h)
 rw [el_set_ne (t := I1) hij]
theorem eff_frame {w : World} {kind port num : Int} {c : Int × List Int} {Ls : List LineT} {O : List Int} (hp : 1 ≤ w.part) (h0 : 0 ≤ port) : FrameO w.part O (effM w kind port num c Ls O).2.2.2 := by
 unfold effM
 have q : ∀ {c : Prop} [Decidable c] {x y : Eff}, FrameO w.part O x.2.2.2 → FrameO w.part O y.2.2.2 → FrameO w.part O (if c then x else y).2.2.2 := fun {c} _ {x y} hx hy => if_in (P := fun s : Eff => FrameO w.part O s.2.2.2) hx hy
 have r : FrameO w.part O O := fun j hj => rfl
 exact q r (q (q r r) (q (q r r) (q r (q (frameO_set (by unfold Own; omega)) r))))
/-! ### runs -/
theorem runK_frame {w : World} (hw : WorldOk w) : ∀ (f : Nat) (left : Int) (s : RS), Frame w.R s.1 (runK w f left s).1.1 ∧ FrameO w.part s.2.2.2 (runK w f left s).1.2.2.2
 | 0, left, s => ⟨frame_rfl, fun j hj => rfl⟩
 | f + 1, left, s => by
  have r0 : FrameO w.part s.2.2.2 s.2.2.2 := fun j hj => rfl
  rw [runK]
  split
  ·exact ⟨frame_rfl, r0⟩
  split
  ·rename_i g2
   split
   ·exact ⟨frame_rfl, r0⟩
   split
   ·obtain ⟨q1, q2⟩ := runK_frame hw f (left - costM (opAt w.code s.2.1.1)) ((stepM s.2.1 w.code s.1 w.R w.time).2.1, (effM w (stepM s.2.1 w.code s.1 w.R w.time).2.2.1 (stepM s.2.1 w.code s.1 w.R w.time).2.2.2.1 (stepM s.2.1 w.code s.1 w.R w.time).2.2.2.2.1 (stepM s.2.1 w.code s.1 w.R w.time).1 s.2.2.1 s.2.2.2).2)
    have hse := step_eff (time := w.time) g2
    exact ⟨step_frame.trans q1, (eff_frame hw.part.1 hse.port.1).trans q2⟩
   ·exact ⟨frame_rfl, r0⟩
  ·exact ⟨frame_rfl, r0⟩
end Go.Proofs.YtacpibmmodeacaaGreat.Pure
/- Turns: what is kept of a part whose turn it is not, and two kernels that a part cannot tell apart. No condition. -/
namespace Go.Proofs.YtacpibmmodeacaaGreat.Pure
open Go Go.Proofs.YtacpibmmodeacaaGreatA Go.Proofs.YtacpibmmodeacaaGreatU Go.Proofs.YtacpibmmodeacaaGreat.QA
set_option linter.unusedVariables false
set_option linter.unusedSimpArgs false
theorem apart_reg {L : List (Int × Int)} (h : RegionsOk L) {i j x : Nat} (hi : i < L.length) (hj : j < L.length) (hij : i ≠ j) (hx : InReg (el W2 L i) x) : ¬ InReg (el W2 L j) x := by
 intro hy
 unfold InReg at hx hy
 have ho : ∀ a b : Nat, a < L.length → b < a → ¬ Over (el W2 L a) (el W2 L b) := fun a b ha hb => (h.1 a ha).2 b hb
 rcases Nat.lt_or_gt_of_ne hij with hc | hc
 ·exact ho j i hj hc ⟨by omega, by omega⟩
 ·exact ho i j hi hc ⟨by omega, by omega⟩
structure Kept (p : Int) (K K' : Kernel) : Prop where
 setup : K'.1 = K.1
 part : el PT K'.2.2.1 (p - 1).toNat = el PT K.2.2.1 (p - 1).toNat
 cells : Same (el W2 K.1.1 (p - 1).toNat) K.2.1 K'.2.1
 outs : SameO p K.2.2.2.2.1 K'.2.2.2.2.1
theorem Kept.trans {p : Int} {A B C : Kernel} (h : Kept p A B) (g : Kept p B C) : Kept p A C := ⟨g.setup.trans h.setup, g.part.trans h.part, fun j hj => (h.cells j hj).trans (g.cells j (by rw [h.setup]; exact hj)), fun j hj => (h.outs j hj).trans (g.outs j hj)⟩
theorem kept_rfl {p : Int} {K : Kernel} : Kept p K K := ⟨rfl, rfl, fun _ _ => rfl, fun _ _ => rfl⟩
theorem own_ne {p q : Int} {j : Nat} (h : p ≠ q) (hj : Own p j) : ¬ Own q j := by
 unfold Own at *
 omega
theorem kept_tick {p : Int} {K : Kernel} : Kept p K (tick K) := ⟨rfl, rfl, fun _ _ => rfl, fun _ _ => rfl⟩
theorem kept_log {p : Int} {K : Kernel} {e : Port5} : Kept p K (logK K e) := ⟨rfl, rfl, fun _ _ => rfl, fun _ _ => rfl⟩
theorem ix_ne {p q : Int} (h : p ≠ q) (hp : 1 ≤ p) (hq : 1 ≤ q) : (q - 1).toNat ≠ (p - 1).toNat := by omega
theorem kept_late {p q how : Int} {K : Kernel} (h : p ≠ q) (hp : 1 ≤ p) (hq : 1 ≤ q) : Kept p K (lateK K q how) := by
 unfold lateK
 split
 ·exact ⟨rfl, el_set_ne (t := PT) (ix_ne h hp hq), fun _ _ => rfl, fun _ _ => rfl⟩
 ·exact kept_rfl
theorem clr_frame {r : Int × Int} {A : List Int} (h0 : 0 ≤ r.1) : ∀ j : Nat, (j : Int) ≤ r.2 → Frame r A (clr r j A)
 | 0, _ => frame_rfl
 | j + 1, hj => by
  rw [clr]
  exact (clr_frame h0 j (by omega)).trans (frame_set (by unfold InReg; omega))
theorem clear_frame {r : Int × Int} {A : List Int} (h : RegIn r) : Frame r A (clearM A r) := by
 obtain ⟨a, b, c, d⟩ := h
 exact clr_frame a _ (by omega)
theorem kept_act {p q act : Int} {K : Kernel} (hR : RegionsOk K.1.1) (h : p ≠ q) (hp : 1 ≤ p) (hq : 1 ≤ q) (hp2 : p ≤ (K.1.1.length : Int)) (hq2 : q ≤ (K.1.1.length : Int)) (ha : act ≠ 4) : Kept p K (actK K q act) := by
 have hne := ix_ne h hp hq
 unfold actK
 split
 ·exact ⟨rfl, el_set_ne (t := PT) hne, fun j hj => (clear_frame (hR.1 _ (by omega)).1 j (apart_reg hR (by omega) (by omega) (Ne.symm hne) hj)).symm, fun _ _ => rfl⟩
 split
 ·exact ⟨rfl, el_set_ne (t := PT) hne, fun _ _ => rfl, fun _ _ => rfl⟩
 split
 ·exact ⟨rfl, el_set_ne (t := PT) hne, fun _ _ => rfl, fun j hj => ((frameO_set (part := q) (x := 0) (i := (2 * q - 2).toNat) (by unfold Own; omega)).trans (frameO_set (i := (2 * q - 1).toNat) (by unfold Own; omega)) j (own_ne h hj)).symm⟩
 exact kept_rfl
theorem kept_after {p q budget : Int} {ins : List Int} {K : Kernel} (hK : KernelOk K) (hq : InPart K q) (h : p ≠ q) (hp : 1 ≤ p) (hp2 : p ≤ (K.2.2.1.length : Int)) : Kept p K (afterRun K q budget ins) := by
 obtain ⟨f1, -⟩ := fault_parts hK.fault
 have h3 := hK.parts
 have h4 := hq.hi
 have hne := ix_ne h hp hq.lo
 have h1 := hq.lo
 obtain ⟨r1, r2⟩ := runK_frame (worldOk_of (ins := ins) hK hq) 1001 (min budget 1000) (K.2.1, (el PT K.2.2.1 (q - 1).toNat).2.1, K.2.2.2.1, K.2.2.2.2.1)
 exact ⟨rfl, el_set_ne (t := PT) hne, fun j hj => (r1 j (apart_reg f1 (by omega) (by omega) (Ne.symm hne) hj)).symm, fun j hj => (r2 j (own_ne h hj)).symm⟩
/-- A turn that is not the part's. -/
theorem turn_kept {n p : Int} {ins : List Int} {K : Kernel} (hK : Good n K) (h : p ≠ (winOf K).1) (hp : 1 ≤ p) (hp2 : p ≤ (K.2.2.1.length : Int)) :
  Kept p K (turnK K ins) ∧ (turnK K ins).2.2.2.2.2.2.1 = K.2.2.2.2.2.2.1 ∨ (∃ q how st, actM K.1.2.2.2.1 q how st = 4) ∧ (turnK K ins).2.2.2.2.2.2.1 = true ∧ (turnK K ins).2.2.2.2.1 = List.replicate 8 0 ∧ el PT (turnK K ins).2.2.1 (p - 1).toNat = el PT K.2.2.1 (p - 1).toNat ∧ Same (el W2 K.1.1 (p - 1).toNat) K.2.1 (turnK K ins).2.1 := by
 obtain ⟨f1, -⟩ := fault_parts hK.ok.fault
 have h3 := hK.ok.parts
 obtain ⟨hw, -, -⟩ := win_in hK.ok
 have h1 := hw.lo
 have h2 := hw.hi
 unfold turnK
 by_cases hc : B (KernelOk K) = true ∧ ¬ K.2.2.2.2.2.1 = 1000000000
 ·rw [if_pos hc]
  split
  ·exact .inl ⟨kept_tick, rfl⟩
  unfold runTurn
  have ka := (kept_after (budget := (winOf K).2) (ins := ins) hK.ok hw h hp hp2).trans kept_tick
  split
  ·exact .inl ⟨ka, rfl⟩
  have kl := (ka.trans (kept_late (how := (runOf K (winOf K).1 (winOf K).2 ins).2.1) h hp h1)).trans (kept_log (e := (K.2.2.2.2.2.1, (winOf K).1, (runOf K (winOf K).1 (winOf K).2 ins).2.1, (runOf K (winOf K).1 (winOf K).2 ins).2.2, actOf (lateK (tick (afterRun K (winOf K).1 (winOf K).2 ins)) (winOf K).1 (runOf K (winOf K).1 (winOf K).2 ins).2.1) (winOf K).1 (runOf K (winOf K).1 (winOf K).2 ins).2.1)))
  have es : ∀ (K' : Kernel) (p w : Int), (lateK K' p w).2.2.2.2.2.2.1 = K'.2.2.2.2.2.2.1 ∧ (lateK K' p w).1 = K'.1 := fun K' p w => by unfold lateK; split <;> exact ⟨rfl, rfl⟩
  unfold failK
  by_cases h4 : actOf (lateK (tick (afterRun K (winOf K).1 (winOf K).2 ins)) (winOf K).1 (runOf K (winOf K).1 (winOf K).2 ins).2.1) (winOf K).1 (runOf K (winOf K).1 (winOf K).2 ins).2.1 = 4
  ·right
   have ha : actM K.1.2.2.2.1 (winOf K).1 (runOf K (winOf K).1 (winOf K).2 ins).2.1 (el PT (lateK (tick (afterRun K (winOf K).1 (winOf K).2 ins)) (winOf K).1 (runOf K (winOf K).1 (winOf K).2 ins).2.1).2.2.1 ((winOf K).1 - 1).toNat).2.2.1 = 4 := by
    unfold actOf at h4
    rw [(es _ _ _).2] at h4
    exact h4
   rw [h4] at kl ⊢
   exact ⟨⟨_, _, _, ha⟩, rfl, rfl, kl.part, kl.cells⟩
  ·left
   have e1 := kl.setup
   refine ⟨kl.trans (kept_act (by rw [e1]; exact f1) h hp h1 (by rw [e1]; omega) (by rw [e1]; omega) h4), ?_⟩
   have ea : ∀ (K' : Kernel) (q a : Int), a ≠ 4 → (actK K' q a).2.2.2.2.2.2.1 = K'.2.2.2.2.2.2.1 := fun K' q a ha => by
    unfold actK
    split
    ·rfl
    split
    ·rfl
    split
    ·rfl
    rfl
   rw [ea _ _ _ h4]
   exact (es _ _ _).1
 ·rw [if_neg hc]
  exact .inl ⟨kept_rfl, rfl⟩
/-! ### two kernels -/
end Go.Proofs.YtacpibmmodeacaaGreat.Pure
/- Twelve drawn numbers. No condition. -/
namespace Go.Proofs.YtacpibmmodeacaaGreat.Pure
open Go Go.Proofs.YtacpibmmodeacaaGreatA Go.Proofs.YtacpibmmodeacaaGreatU Go.Proofs.YtacpibmmodeacaaGreat.QA
set_option linter.unusedVariables false
/-- What a law over drawn bytes begins with. -/
theorem big_ok {k : Nat} {xs : List Int} {g : Bool → Option Bool} (h : xs.length ≤ 1048576 → Ok (g false) (fun r => r = true)) (h2 : Ok (g true) (fun r => r = true)) : Ok ((laws_big.f k xs).bind g) (fun r => r = true) := by
 unfold laws_big.f
 refine ok_let ?_
 by_cases hb : xs.length ≤ 1048576
 ·rw [decide_eq_false (by omega)]
  exact h hb
 ·rw [decide_eq_true (by omega)]
  exact h2
end Go.Proofs.YtacpibmmodeacaaGreat.Pure
/- What is the same is told to be the same. No condition. -/
namespace Go.Proofs.YtacpibmmodeacaaGreat.Pure
open Go Go.Proofs.YtacpibmmodeacaaGreatA Go.Proofs.YtacpibmmodeacaaGreatU Go.Proofs.YtacpibmmodeacaaGreat.QA
set_option linter.unusedVariables false
theorem sameInts_f {k : Nat} {xs : List Int} (hl : xs.length ≤ 1048576) (hk : 1048576 < k) : laws_sameInts.f k xs xs = some true := by
 have l : ∀ (d j n : Nat), j + d = xs.length → d < n → laws_sameInts.l1 k n ((j : Int), xs, xs, ()) = some true := by
  intro d
  induction d with
  | zero =>
   intro j n hj hn
   obtain ⟨n, rfl⟩ : ∃ n', n = n' + 1 := ⟨n - 1, by omega⟩
   rw [laws_sameInts.l1, if_neg (by omega)]
  | succ d ih =>
   intro j n hj hn
   obtain ⟨n, rfl⟩ : ∃ n', n = n' + 1 := ⟨n - 1, by omega⟩
   have h0 : (0 : Int) ≤ (j : Int) := by omega
   have h1 : (j : Int) < (xs.length : Int) := by omega
   have h4 : w64 ((j : Int) + 1) = ((j + 1 : Nat) : Int) := w_id (z := (j : Int) + 1) (by omega) (by omega)
   simp only [laws_sameInts.l1, h0, h1, h4, ↓reduceIte, Int.toNat_natCast, not_true_eq_false]
   exact ih (j + 1) n (by omega) (by omega)
 have := l xs.length 0 k (by omega) (by omega)
 unfold laws_sameInts.f
 rw [if_neg (fun h => h rfl)]
 exact this
theorem sameCpu_f {k : Nat} {c : Int × List Int} (hl : c.2.length ≤ 1048576) (hk : 1048576 < k) : laws_sameCpu.f k c c = some true := by
 unfold laws_sameCpu.f
 rw [if_pos rfl, sameInts_f hl hk]
 rfl
end Go.Proofs.YtacpibmmodeacaaGreat.Pure
/- The plain law of FnAlone. No condition. -/
namespace Go.Proofs.YtacpibmmodeacaaGreat.Pure
open Go Go.Proofs.YtacpibmmodeacaaGreatA Go.Proofs.YtacpibmmodeacaaGreatU Go.Proofs.YtacpibmmodeacaaGreat.QA Go.Proofs.YtacpibmmodeacaaGreat.QFnAlone
set_option linter.unusedVariables false
set_option linter.unusedSimpArgs false
theorem kept_cells {p : Int} {K K' : Kernel} (hK : KernelOk K) (hp : InPart K p) (hs : K'.1 = K.1) (hc : Same (el W2 K.1.1 (p - 1).toNat) K.2.1 K'.2.1) (hl : K'.2.1.length = 64) :
  (K'.2.1.drop (el W2 K'.1.1 (p - 1).toNat).1.toNat).take (el W2 K'.1.1 (p - 1).toNat).2.toNat = (K.2.1.drop (el W2 K.1.1 (p - 1).toNat).1.toNat).take (el W2 K.1.1 (p - 1).toNat).2.toNat := by
 have h1 := hp.lo
 have h2 := hp.hi
 obtain ⟨f1, -⟩ := fault_parts hK.fault
 have h3 := hK.parts
 obtain ⟨r0, r1, r2, r3⟩ := (f1.1 (p - 1).toNat (by omega)).1
 have hcl := hK.cells
 rw [hs]
 unfold Same InReg at hc
 generalize el W2 K.1.1 (p - 1).toNat = r at r0 r1 r2 r3 hc ⊢
 obtain ⟨fr, z⟩ := r
 simp only at r0 r1 r2 r3 hc ⊢
 refine List.ext_getElem? fun j => ?_
 rw [List.getElem?_take, List.getElem?_take, List.getElem?_drop, List.getElem?_drop]
 split
 ·rw [el_lt (t := I1) (xs := K'.2.1) (i := fr.toNat + j) (by omega), el_lt (t := I1) (xs := K.2.1) (i := fr.toNat + j) (by omega), hc (fr.toNat + j) (by omega)]
 ·rfl
theorem FnAlone : ∀ (x0 : den (.sl 5 (.int .u8))), Wf (.sl 5 (.int .u8)) x0 → ∃ k, laws_FnAlone.f k x0 = some true := by
 intro xs _
 refine ⟨1048577, ?_⟩
 have hk : 1048576 < 1048577 := by omega
 generalize 1048577 = k at hk
 refine ok_eq ?_
 unfold laws_FnAlone.f
 refine big_ok (fun hl => ?_) (ok_some rfl)
 refine ok_bind (drawKernel_ok hl hk) ?_
 rintro ⟨K, ins⟩ hD
 have hG : Good 12 K := hD.good
 have hT : 0 ≤ K.2.2.2.2.2.1 ∧ K.2.2.2.2.2.1 ≤ 12 := hD.time
 obtain ⟨f1, f2, -⟩ := fault_parts hG.ok.fault
 have hprt := hG.ok.parts
 have hp4 := f1.2.2
 have hG2 := turn_good (ins := ins) hG (by omega)
 have hT2 := turn_turn (ins := ins) hG (by omega)
 have hS2 : (turnK K ins).1 = K.1 := turn_setup
 have hl2 : (turnK K ins).2.2.1.length = K.2.2.1.length := turn_len
 have hc2 := (turn_cells (ins := ins) hG).1
 have ho2 := (turn_cells (ins := ins) hG).2
 have hZ2 := stop_turn (ins := ins) hD.stop
 refine ok_bind' (r := turnK K ins) (turn_i hG.small hG.st hk) ?_
 have eT : ((K.2.2.2.2.2.1.toNat : Nat) : Int) = K.2.2.2.2.2.1 := by omega
 have hwi := window_s (k := k) (L := K.1.2.1) (n := K.2.2.2.2.2.1.toNat) hk f2
 rw [eT] at hwi
 refine ok_bind' (r := winOf K) hwi ?_
 have hkept := fun (p : Int) h1 h2 h3 => turn_kept (p := p) (ins := ins) hG h1 h2 h3
 dsimp only
 generalize turnK K ins = K' at hG2 hT2 hS2 hl2 hc2 ho2 hZ2 hkept ⊢
 refine ok_loop (L := laws_FnAlone.l1 k) (I := fun d s => ∃ j : Nat, s = (((j + 1 : Nat) : Int), K.2.2.2.2.2.1, K.2.2.2.2.2.2.1, K'.2.2.2.2.2.1, K'.2.2.2.2.2.2.1, (winOf K).1, (winOf K).2, K.1.1, K.1.2.1, K.1.2.2.1, K.1.2.2.2.1, K.1.2.2.2.2, K.2.1, K.2.2.1, K.2.2.2.1, K.2.2.2.2.1, K.2.2.2.2.2.2.2, K'.1.1, K'.1.2.1, K'.1.2.2.1, K'.1.2.2.2.1, K'.1.2.2.2.2, K'.2.1, K'.2.2.1, K'.2.2.2.1, K'.2.2.2.2.1, K'.2.2.2.2.2.2.2, ()) ∧ j + d = K.2.2.1.length) ?_ k K.2.2.1.length _ (by omega) ⟨0, rfl, by omega⟩
 rintro d n s ⟨j, rfl, hd⟩ ih
 rw [laws_FnAlone.l1]
 have h4 : w64 (((j + 1 : Nat) : Int) + 1) = ((j + 1 + 1 : Nat) : Int) := w64_id (by omega) (by omega)
 refine ok_if (fun hle => ?_) (fun hgt => ?_)
 ·have next : Ok (laws_FnAlone.l1 k n (w64 (((j + 1 : Nat) : Int) + 1), K.2.2.2.2.2.1, K.2.2.2.2.2.2.1, K'.2.2.2.2.2.1, K'.2.2.2.2.2.2.1, (winOf K).1, (winOf K).2, K.1.1, K.1.2.1, K.1.2.2.1, K.1.2.2.2.1, K.1.2.2.2.2, K.2.1, K.2.2.1, K.2.2.2.1, K.2.2.2.2.1, K.2.2.2.2.2.2.2, K'.1.1, K'.1.2.1, K'.1.2.2.1, K'.1.2.2.2.1, K'.1.2.2.2.2, K'.2.1, K'.2.2.1, K'.2.2.2.1, K'.2.2.2.2.1, K'.2.2.2.2.2.2.2, ())) (fun r => r = true) := by
   rw [h4]
   exact ih (d - 1) _ (by omega) ⟨j + 1, rfl, by omega⟩
  refine ok_if (fun _ => next) (fun hne => ?_)
  obtain ⟨p, hp⟩ : ∃ p : Int, p = ((j + 1 : Nat) : Int) := ⟨_, rfl⟩
  rw [← hp] at hle hne next ⊢
  have hip : InPart K p := ⟨by omega, hle⟩
  have hip2 : InPart K' p := ⟨by omega, by rw [hl2]; exact hle⟩
  have ev1 : viewOf K p = (el PT K.2.2.1 (p - 1).toNat, (K.2.1.drop (el W2 K.1.1 (p - 1).toNat).1.toNat).take (el W2 K.1.1 (p - 1).toNat).2.toNat, [el I1 K.2.2.2.2.1 (2 * p - 2).toNat, el I1 K.2.2.2.2.1 (2 * p - 1).toNat]) := if_pos ⟨hip.lo, hip.hi⟩
  have ev2 : viewOf K' p = (el PT K'.2.2.1 (p - 1).toNat, (K'.2.1.drop (el W2 K'.1.1 (p - 1).toNat).1.toNat).take (el W2 K'.1.1 (p - 1).toNat).2.toNat, [el I1 K'.2.2.2.2.1 (2 * p - 2).toNat, el I1 K'.2.2.2.2.1 (2 * p - 1).toNat]) := if_pos ⟨hip2.lo, hip2.hi⟩
  have hvi : impl_PartView.f k ((K.1.1, K.1.2.1, K.1.2.2.1, K.1.2.2.2.1, K.1.2.2.2.2), K.2.1, K.2.2.1, K.2.2.2.1, K.2.2.2.2.1, K.2.2.2.2.2.1, K.2.2.2.2.2.2.1, K.2.2.2.2.2.2.2) p = some (viewOf K p) := view_i hk hG.ok (by omega)
  have hvi2 : impl_PartView.f k ((K'.1.1, K'.1.2.1, K'.1.2.2.1, K'.1.2.2.2.1, K'.1.2.2.2.2), K'.2.1, K'.2.2.1, K'.2.2.2.1, K'.2.2.2.2.1, K'.2.2.2.2.2.1, K'.2.2.2.2.2.2.1, K'.2.2.2.2.2.2.2) p = some (viewOf K' p) := view_i hk hG2.ok (by omega)
  refine ok_bind' hvi (ok_bind' hvi2 ?_)
  rw [ev1, ev2]
  have hcp := (hG.ok.part (p - 1).toNat (by have := hip.hi; omega)).cpu.2.1
  have facts : el PT K'.2.2.1 (p - 1).toNat = el PT K.2.2.1 (p - 1).toNat ∧ Same (el W2 K.1.1 (p - 1).toNat) K.2.1 K'.2.1 ∧ (¬ K'.2.2.2.2.2.2.1 = true → el I1 K'.2.2.2.2.1 (2 * p - 2).toNat = el I1 K.2.2.2.2.1 (2 * p - 2).toNat ∧ el I1 K'.2.2.2.2.1 (2 * p - 1).toNat = el I1 K.2.2.2.2.1 (2 * p - 1).toNat) := by
   rcases hkept p hne hip.lo hip.hi with ⟨ke, hst⟩ | ⟨_, hst, hO, hpt, hcl⟩
   ·exact ⟨ke.part, ke.cells, fun _ => ⟨(ke.outs _ (by unfold Own; omega)).symm, (ke.outs _ (by unfold Own; omega)).symm⟩⟩
   ·exact ⟨hpt, hcl, fun h => absurd hst h⟩
  obtain ⟨e1, e2, e3⟩ := facts
  rw [e1, kept_cells hG.ok hip hS2 e2 hc2]
  have hcl : ((K.2.1.drop (el W2 K.1.1 (p - 1).toNat).1.toNat).take (el W2 K.1.1 (p - 1).toNat).2.toNat).length ≤ 1048576 := by
   have := hG.ok.cells
   rw [List.length_take, List.length_drop]
   omega
  refine ok_bind' (sameCpu_f (by dsimp only; omega) hk) (ok_els (fun h => h rfl) (ok_els (fun h => h rfl) (ok_els (fun h => h rfl) (ok_els (fun h => h rfl) (ok_els (fun h => h rfl) (ok_bind' (sameInts_f hcl hk) (ok_els (fun h => h rfl) ?_)))))))
  refine ok_if (fun hns => ?_) (fun hs => ?_)
  ·obtain ⟨o1, o2⟩ := e3 hns
   rw [o1, o2]
   exact ok_bind' (sameInts_f (by simp) hk) (ok_els (fun h => h rfl) (ok_els hns next))
  ·have hs' := Classical.not_not.1 hs
   have hO := hZ2 hs'
   have z1 : el I1 K'.2.2.2.2.1 (2 * p - 2).toNat = 0 := by rw [hO]; exact el_rep (t := I1) (by omega)
   have z2 : el I1 K'.2.2.2.2.1 (2 * p - 1).toNat = 0 := by rw [hO]; exact el_rep (t := I1) (by omega)
   rw [z1, z2]
   exact ok_grd hs' (ok_grd (by omega) (ok_grd (by simp) (ok_els (fun h => h rfl) (ok_grd (by omega) (ok_grd (by simp) (ok_els (fun h => h rfl) next))))))
 ·have hvi : impl_PartView.f k ((K.1.1, K.1.2.1, K.1.2.2.1, K.1.2.2.2.1, K.1.2.2.2.2), K.2.1, K.2.2.1, K.2.2.2.1, K.2.2.2.2.1, K.2.2.2.2.2.1, K.2.2.2.2.2.2.1, K.2.2.2.2.2.2.2) 9 = some (viewOf K 9) := view_i hk hG.ok (by omega)
  have ev : viewOf K 9 = ((0, (0, []), 0, 0, 0), [], []) := if_neg (by rintro ⟨_, h⟩; omega)
  refine ok_bind' hvi ?_
  rw [ev, hT2, w64_id (z := K.2.2.2.2.2.1 + 1) (by omega) (by omega)]
  refine ok_grd rfl (ok_grd rfl (ok_grd rfl (ok_some (decide_eq_true rfl))))
end Go.Proofs.YtacpibmmodeacaaGreat.Pure
