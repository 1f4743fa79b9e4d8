/- The plain words and the plain law of FnKernels. No condition. -/
import Derived.Test.YtacpibmmodeacaaGreatQFnKernels
import Derived.Test.YtacpibmmodeacaaGreatPTa
/- Set-ups that are drawn: they are right. No condition. -/
namespace Go.Proofs.YtacpibmmodeacaaGreat.Pure
open Go Go.Proofs.YtacpibmmodeacaaGreatA Go.Proofs.YtacpibmmodeacaaGreatU Go.Proofs.YtacpibmmodeacaaGreat.QA
set_option linter.unusedVariables false
theorem rows_head {L : List (Int × Int)} {lo : Int} (h : Rows lo L) : ∀ j i, j < i → i < L.length → (el W2 L j).1 + (el W2 L j).2 ≤ (el W2 L i).1 := by
 induction L generalizing lo with
 | nil => intro j i h1 h2; exact absurd h2 (by simp)
 | cons r L ih =>
  obtain ⟨a, b, c, d, e⟩ := h
  intro j i h1 h2
  cases i with
  | zero => exact absurd h1 (by omega)
  | succ i =>
   have hi : i < L.length := by simpa using h2
   cases j with
   | zero =>
    have := rows_in e _ (el_mem (t := W2) hi)
    exact this.1
   | succ j => exact ih e j i (by omega) hi
theorem regions_of {L : List (Int × Int)} (h : Rows 0 L) (h1 : 1 ≤ L.length) (h4 : L.length ≤ 4) : RegionsOk L := by
 refine ⟨fun i hi => ⟨?_, fun j hj ho => ?_⟩, h1, h4⟩
 ·have := rows_in h _ (el_mem (t := W2) hi)
  exact ⟨this.1, this.2.1, by omega, by omega⟩
 ·exact absurd ho.1 (Int.not_lt.2 (rows_head h j i hj hi))
/-- A drawn text of code. -/
def CodeDrawn (s : ByteArray) : Prop := ∃ L, AllIns L ∧ L.length ≤ 46 ∧ s = chrs (codeB L)
structure Drawn (s : Setup) : Prop where
 rows : Rows 0 s.1
 n1 : 1 ≤ s.1.length
 n4 : s.1.length ≤ 4
 plan1 : 1 ≤ s.2.1.length
 plan5 : s.2.1.length ≤ 5
 plan : ∀ w, w ∈ s.2.1 → (1 ≤ w.1 ∧ w.1 ≤ (s.1.length : Int)) ∧ (1 ≤ w.2 ∧ w.2 ≤ 40)
 ports3 : s.2.2.1.length ≤ 3
 ports : ∀ p, p ∈ s.2.2.1 → PortOk p ∧ p.2.1 ≤ (s.1.length : Int) ∧ p.2.2.1 ≤ (s.1.length : Int)
 rules : RulesOk s.2.2.2.1
 rulesN : ∀ r, r ∈ s.2.2.2.1 → 1 ≤ r.1 ∧ r.1 ≤ (s.1.length : Int)
 codesN : s.2.2.2.2.length = s.1.length
 codes : ∀ c, c ∈ s.2.2.2.2 → CodeDrawn c
theorem l09Plan_ok {k : Nat} {c : List Int × Int × Int} {parts : Int} (hk : 1048576 < k) (h : Cur c) (hp : 1 ≤ parts ∧ parts ≤ 4) :
  Ok (spec_l09Plan.f k c parts) (fun r => 1 ≤ r.1.length ∧ r.1.length ≤ 5 ∧ (∀ w, w ∈ r.1 → (1 ≤ w.1 ∧ w.1 ≤ parts) ∧ (1 ≤ w.2 ∧ w.2 ≤ 40)) ∧ Cur (c.1, r.2.2)) := by
 unfold spec_l09Plan.f
 refine ok_let ?_
 refine ok_loop (L := spec_l09Plan.l1 k) (I := fun d s => ∃ (j : Nat) (ci ch : Int) (L : List (Int × Int)), s = (parts, (j : Int), ci, ch, c.1, L, ()) ∧ j + d = 5 ∧ Cur (c.1, ci, ch) ∧ L.length = j ∧ ∀ w, w ∈ L → (1 ≤ w.1 ∧ w.1 ≤ parts) ∧ (1 ≤ w.2 ∧ w.2 ≤ 40)) ?_ k 5 _ (by omega) ⟨0, _, _, [], rfl, by omega, h, rfl, fun w hw => by cases hw⟩
 rintro d n s ⟨j, ci, ch, L, rfl, hd, hc, hL, hw⟩ ih
 rw [spec_l09Plan.l1]
 refine ok_bind (below_lt hc (by omega)) (fun r2 h2 => ?_)
 rw [w64_id (z := 1 + r2.1) (by omega) (by omega)]
 refine ok_if (fun hlt => ?_) (fun hge => ok_some ⟨by dsimp only; omega, by dsimp only; omega, hw, h2.2.2⟩)
 refine ok_bind (below_lt h2.2.2 (by omega)) (fun r3 h3 => ok_bind (below_lt h3.2.2 (by omega)) (fun r4 h4 => ok_let ?_))
 rw [w64_id (z := 1 + r3.1) (by omega) (by omega), w64_id (z := 1 + r4.1) (by omega) (by omega)]
 refine ok_grd (by simp only [List.length_cons, List.length_nil]; omega) (ok_let ?_)
 have h5 : w64 ((j : Int) + 1) = ((j + 1 : Nat) : Int) := w64_id (by omega) (by omega)
 rw [h5]
 refine ih (d - 1) _ (by omega) ⟨j + 1, _, _, _, rfl, by omega, h4.2.2, by simp [hL], fun w hw' => ?_⟩
 rcases List.mem_append.1 hw' with h' | h'
 ·exact hw w h'
 ·rw [List.mem_singleton.1 h']
  dsimp only
  omega
theorem l11Setup_ok {k : Nat} {c : List Int × Int × Int} (hk : 1048576 < k) (h : Cur c) : Ok (spec_l11Setup.f k c) (fun r => Drawn r.1 ∧ Cur (c.1, r.2.2)) := by
 unfold spec_l11Setup.f
 refine ok_bind (l04Regions_ok hk h) (fun r1 h1 => ok_bind (l09Plan_ok hk h1.2.2.2 (by have := h1.2; omega)) (fun r2 h2 => ok_bind (l10Rules_ok hk h2.2.2.2 (by have := h1.2; omega)) (fun r3 h3 => ?_)))
 obtain ⟨hR, hn1, hn4, -⟩ := h1
 obtain ⟨hp1, hp5, hpl, -⟩ := h2
 obtain ⟨hru, hrn, hc3⟩ := h3
 generalize r1.1 = R at hR hn1 hn4 hpl hrn
 generalize r2.1 = W at hp1 hp5 hpl
 generalize r3.1 = U at hru hrn
 refine ok_loop (L := spec_l11Setup.l1 k) (I := fun d s => ∃ (j : Nat) (ci ch : Int) (P : List Port5), s = ((R.length : Int), (j : Int), ci, ch, c.1, [], [], [], [], [], R, W, P, U, [], ()) ∧ j + d = 4 ∧ Cur (c.1, ci, ch) ∧ P.length ≤ j ∧ j ≤ 3 ∧ ∀ p, p ∈ P → PortOk p ∧ p.2.1 ≤ (R.length : Int) ∧ p.2.2.1 ≤ (R.length : Int)) ?_ k 4 _ (by omega) ⟨0, _, _, [], rfl, by omega, hc3, Nat.le_refl 0, by omega, fun p hp => by cases hp⟩
 rintro d n s ⟨j, ci, ch, P, rfl, hd, hc, hP, hj, hpp⟩ ih
 rw [spec_l11Setup.l1]
 refine ok_bind (below_lt hc (by omega)) (fun r4 h4 => ok_if (fun hlt => ?_) (fun hge => ?_))
 ·have h5 : w64 ((j : Int) + 1) = ((j + 1 : Nat) : Int) := w64_id (by omega) (by omega)
  refine ok_bind (l08Port_ok h4.2.2) (fun r5 h6 => ?_)
  rw [h5]
  have skip := ih (d - 1) ((R.length : Int), ((j + 1 : Nat) : Int), r5.2.2.1, r5.2.2.2, c.1, [], [], [], [], [], R, W, P, U, [], ()) (by omega) ⟨j + 1, _, _, P, rfl, by omega, h6.2, by omega, by omega, hpp⟩
  refine ok_if (fun q1 => ok_if (fun q2 => ok_let (ok_grd (by simp only [List.length_cons, List.length_nil]; omega) (ok_let ?_))) (fun _ => skip)) (fun _ => skip)
  refine ih (d - 1) _ (by omega) ⟨j + 1, _, _, _, rfl, by omega, h6.2, by simp only [List.length_append, List.length_cons, List.length_nil]; omega, by omega, fun p hp => ?_⟩
  rcases List.mem_append.1 hp with h' | h'
  ·exact hpp p h'
  ·rw [List.mem_singleton.1 h']
   exact ⟨h6.1, q1, q2⟩
 ·clear ih hc hd
  refine ok_loop (L := spec_l11Setup.l2 k) (I := fun d s => ∃ (j : Nat) (ci ch : Int) (C : List ByteArray), s = ((R.length : Int), (j : Int), ci, ch, c.1, [], [], [], [], [], R, W, P, U, C, ()) ∧ j + d = R.length ∧ Cur (c.1, ci, ch) ∧ C.length = j ∧ ∀ c, c ∈ C → CodeDrawn c) ?_ k R.length _ (by omega) ⟨0, _, _, [], rfl, by omega, h4.2.2, rfl, fun p hp => by cases hp⟩
  rintro d m s ⟨i, ci, ch, C, rfl, hd, hc, hC, hcd⟩ ih
  rw [spec_l11Setup.l2]
  refine ok_if (fun hlt => ?_) (fun hge => ok_some ⟨⟨hR, hn1, hn4, hp1, hp5, hpl, by dsimp only; omega, hpp, hru, hrn, by dsimp only; omega, hcd⟩, hc⟩)
  refine ok_bind (l05Code_ok hk hc) (fun r8 h8 => ?_)
  have hl8 := h8.2.1
  have h5 : w64 ((i : Int) + 1) = ((i + 1 : Nat) : Int) := w64_id (by omega) (by omega)
  have ect : codeTextM r8.1 = (chrs (codeB r8.1), true) := by
   unfold codeTextM
   rw [B_yes (codeOk_of h8.1 (by omega)), if_pos rfl]
  rw [codeText_s (by omega) hk, ect, h5]
  refine ok_let (ok_let (ok_grd (by simp only [List.length_cons, List.length_nil]; omega) (ok_let ?_)))
  refine ih (d - 1) _ (by omega) ⟨i + 1, _, _, _, rfl, by omega, h8.2.2, by simp [hC], fun x hx => ?_⟩
  rcases List.mem_append.1 hx with h' | h'
  ·exact hcd x h'
  ·rw [List.mem_singleton.1 h']
   exact ⟨r8.1, h8.1, hl8, rfl⟩
theorem codeRead_of {s : ByteArray} (h : CodeDrawn s) : CodeRead s := by
 obtain ⟨L, h1, h2, rfl⟩ := h
 have := codeB_len L
 exact ⟨by rw [chrs_size, this]; omega, by rw [chrs_size, this]; omega⟩
theorem drawn_plan {s : Setup} (h : Drawn s) : PlanOk s.2.1 := ⟨fun i hi => by
  have := h.plan _ (el_mem (t := W2) hi)
  have h4 := h.n4
  exact ⟨by omega, by omega⟩, h.plan1, by have := h.plan5; omega⟩
theorem drawn_ports {s : Setup} (h : Drawn s) : PortsOk s.2.2.1 := ⟨fun i hi => (h.ports _ (el_mem (t := P5) hi)).1, by have := h.ports3; omega⟩
theorem drawn_codes {s : Setup} (h : Drawn s) : CodesOk s.2.2.2.2 (s.1.length : Int) := ⟨fun i hi => codeRead_of (h.codes _ (el_mem (t := .str) hi)), by rw [h.codesN]⟩
theorem drawn_parts {s : Setup} (h : Drawn s) : PartsOk s := ⟨fun i hi => (h.plan _ (el_mem (t := W2) hi)).1.2, fun i hi => (h.ports _ (el_mem (t := P5) hi)).2.1, fun i hi => (h.ports _ (el_mem (t := P5) hi)).2.2, fun i hi => (h.rulesN _ (el_mem (t := R3) hi)).2⟩
theorem drawn_small {s : Setup} (h : Drawn s) : Small s := ⟨by have := h.n4; omega, by have := h.plan5; omega, by have := h.ports3; omega, by have := h.rules.2; omega, by have := h.codesN; have := h.n4; omega⟩
theorem fault0 {s : Setup} (h1 : RegionsOk s.1) (h2 : PlanOk s.2.1) (h3 : PortsOk s.2.2.1) (h4 : RulesOk s.2.2.2.1) (h5 : CodesOk s.2.2.2.2 (s.1.length : Int)) (h6 : PartsOk s) : faultM s = 0 := by
 unfold faultM
 rw [B_yes h1, B_yes h2, B_yes h3, B_yes h4, B_yes h5, B_yes h6]
 rfl
theorem drawn_right {s : Setup} (h : Drawn s) : faultM s = 0 := fault0 (regions_of h.rows h.n1 h.n4) (drawn_plan h) (drawn_ports h) h.rules (drawn_codes h) (drawn_parts h)
end Go.Proofs.YtacpibmmodeacaaGreat.Pure
/- Drawn kernels. No condition. -/
namespace Go.Proofs.YtacpibmmodeacaaGreat.Pure
open Go Go.Proofs.YtacpibmmodeacaaGreatA Go.Proofs.YtacpibmmodeacaaGreatU Go.Proofs.YtacpibmmodeacaaGreat.QA
set_option linter.unusedVariables false
set_option linter.unusedSimpArgs false
/-- When all is stopped no register tells anything. -/
def StopZ (K : Kernel) : Prop := K.2.2.2.2.2.2.1 = true → K.2.2.2.2.1 = List.replicate 8 0
theorem stop_turn {K : Kernel} {ins : List Int} (h : StopZ K) : StopZ (turnK K ins) := by
 unfold turnK
 by_cases hc : B (KernelOk K) = true ∧ ¬ K.2.2.2.2.2.1 = 1000000000
 ·rw [if_pos hc]
  by_cases hs : K.2.2.2.2.2.2.1 = true ∨ (el PT K.2.2.1 ((winOf K).1 - 1).toNat).1 = 1
  ·rw [if_pos hs]
   exact h
  ·rw [if_neg hs]
   have hD : ¬ K.2.2.2.2.2.2.1 = true := fun g => hs (.inl g)
   unfold runTurn
   split
   ·exact fun g => absurd g hD
   ·unfold failK
    have es : ∀ (K' : Kernel) (p w : Int), (lateK K' p w).2.2.2.2.2.2.1 = K'.2.2.2.2.2.2.1 := fun K' p w => by unfold lateK; split <;> rfl
    have ea : ∀ (K' : Kernel) (p a : Int), ¬ K'.2.2.2.2.2.2.1 = true → StopZ (actK K' p a) := fun K' p a hn => by
     unfold actK
     split
     ·exact fun g => absurd g hn
     split
     ·exact fun g => absurd g hn
     split
     ·exact fun g => absurd g hn
     split
     ·exact fun _ => rfl
     ·exact fun g => absurd g hn
    refine ea _ _ _ ?_
    show ¬ (lateK _ _ _).2.2.2.2.2.2.1 = true
    rw [es]
    exact hD
 ·rw [if_neg hc]
  exact h
structure DrawnK (K : Kernel) : Prop where
 good : Good 12 K
 time : 0 ≤ K.2.2.2.2.2.1 ∧ K.2.2.2.2.2.1 ≤ 12
 setup : Drawn K.1
 stop : StopZ K
theorem ins_ok {k : Nat} {c : List Int × Int × Int} (hk : 1048576 < k) (h : Cur c) : Ok (spec_l12Ins.f k c) (fun r => Cur (c.1, r.2.2) ∧ r.1.length ≤ 4) := by
 obtain ⟨b, ci, ch⟩ := c
 unfold spec_l12Ins.f
 refine ok_let ?_
 refine ok_loop (L := spec_l12Ins.l1 k) (I := fun d s => ∃ (j : Nat) (ci ch : Int) (L : List Int), s = ((j : Int), ci, ch, b, L, ()) ∧ j + d = 4 ∧ Cur (b, ci, ch) ∧ L.length = j) ?_ k 4 _ (by omega) ⟨0, ci, ch, [], rfl, by omega, h, rfl⟩
 rintro d n s ⟨j, ci, ch, L, rfl, hd, hc, hL⟩ ih
 rw [spec_l12Ins.l1]
 refine ok_bind (below_lt hc (by omega)) (fun r hr => ?_)
 have h4 : w64 ((j : Int) + 1) = ((j + 1 : Nat) : Int) := w64_id (by omega) (by omega)
 refine ok_if (fun hlt => ?_) (fun hge => ok_some ⟨hr.2.2, by dsimp only; omega⟩)
 refine ok_bind (below_lt hr.2.2 (by omega)) (fun q hq => ?_)
 refine ok_let (ok_grd (by simp only [List.length_cons, List.length_nil]; omega) (ok_let ?_))
 rw [h4]
 exact ih (d - 1) _ (by have := hr.2.1; omega) ⟨j + 1, _, _, _, rfl, by have := hr.2.1; omega, hq.2.2, by rw [List.length_append, List.length_cons, List.length_nil]; omega⟩
theorem l12Kernel_ok {k : Nat} {c : List Int × Int × Int} (hk : 1048576 < k) (h : Cur c) : Ok (spec_l12Kernel.f k c) (fun r => DrawnK r.1 ∧ Cur (c.1, r.2.2)) := by
 obtain ⟨b, ci, ch⟩ := c
 unfold spec_l12Kernel.f
 refine ok_bind (l11Setup_ok hk h) (fun r1 h1 => ?_)
 obtain ⟨S, hS⟩ : ∃ S, S = r1.1 := ⟨_, rfl⟩
 have hD : Drawn S := by rw [hS]; exact h1.1
 have hf := drawn_right hD
 rw [← hS]
 refine ok_bind' (r := (newK S, 0)) ((kernelNew_s (drawn_small hD) hk).trans (by rw [if_pos hf])) ?_
 refine ok_loop (L := spec_l12Kernel.l1 k) (I := fun d s => ∃ (j : Nat) (ci ch : Int) (K : Kernel), s = ((j : Int), ci, ch, 0, false, K.2.2.2.2.2.1, K.2.2.2.2.2.2.1, b, [], [], [], [], [], [], [], [], [], [], K.1.1, K.1.2.1, K.1.2.2.1, K.1.2.2.2.1, K.1.2.2.2.2, K.2.1, K.2.2.1, K.2.2.2.1, K.2.2.2.2.1, K.2.2.2.2.2.2.2, ()) ∧ j + d = 12 ∧ Cur (b, ci, ch) ∧ Good (j : Int) K ∧ K.2.2.2.2.2.1 = (j : Int) ∧ K.1 = S ∧ StopZ K) ?_ k 12 _ (by omega) ⟨0, _, _, newK S, rfl, by omega, h1.2, new_good hf, rfl, rfl, fun g => by cases g⟩
 rintro d n s ⟨j, ci, ch, K, rfl, hd, hc, hG, hT, hKS, hZ⟩ ih
 rw [spec_l12Kernel.l1]
 refine ok_bind (below_lt hc (by omega)) (fun r hr => ?_)
 have h4 : w64 ((j : Int) + 1) = ((j + 1 : Nat) : Int) := w64_id (by omega) (by omega)
 refine ok_if (fun hlt => ?_) (fun hge => ok_some ⟨⟨hG.up (by omega), by rw [show ((K.1.1, K.1.2.1, K.1.2.2.1, K.1.2.2.2.1, K.1.2.2.2.2), K.2.1, K.2.2.1, K.2.2.2.1, K.2.2.2.2.1, K.2.2.2.2.2.1, K.2.2.2.2.2.2.1, K.2.2.2.2.2.2.2) = K from rfl, hT]; omega, by rw [show ((K.1.1, K.1.2.1, K.1.2.2.1, K.1.2.2.2.1, K.1.2.2.2.2), K.2.1, K.2.2.1, K.2.2.2.1, K.2.2.2.2.1, K.2.2.2.2.2.1, K.2.2.2.2.2.2.1, K.2.2.2.2.2.2.2) = K from rfl, hKS]; exact hD, hZ⟩, hr.2.2⟩)
 refine ok_bind (ins_ok hk hr.2.2) (fun q hq => ?_)
 have ht : spec_TurnOf.f k ((K.1.1, K.1.2.1, K.1.2.2.1, K.1.2.2.2.1, K.1.2.2.2.2), K.2.1, K.2.2.1, K.2.2.2.1, K.2.2.2.2.1, K.2.2.2.2.2.1, K.2.2.2.2.2.2.1, K.2.2.2.2.2.2.2) q.1 = some (turnK K q.1) := turn_s hG.small hG.st hG.log hk
 refine ok_bind' ht ?_
 rw [h4]
 have hr2 := hr.2.1
 exact ih (d - 1) _ (by omega) ⟨j + 1, _, _, turnK K q.1, rfl, by omega, hq.1, (turn_good hG (by omega)).up (by omega), by rw [turn_turn hG (by omega), hT]; omega, by rw [turn_setup]; exact hKS, stop_turn hZ⟩
theorem drawKernel_ok {k : Nat} {xs : List Int} (hl : xs.length ≤ 1048576) (hk : 1048576 < k) : Ok (spec_DrawKernel.f k xs) (fun r => DrawnK r.1) := by
 unfold spec_DrawKernel.f
 exact ok_bind (new_ok hl hk) (fun r1 h1 => ok_bind (l12Kernel_ok hk h1) (fun r2 h2 => ok_bind (ins_ok hk h2.2) (fun r3 h3 => ok_some h2.1)))
end Go.Proofs.YtacpibmmodeacaaGreat.Pure
/- Steps of a run with known code, and turns with known runs. No condition. -/
namespace Go.Proofs.YtacpibmmodeacaaGreat.Pure
open Go Go.Proofs.YtacpibmmodeacaaGreatA Go.Proofs.YtacpibmmodeacaaGreatU Go.Proofs.YtacpibmmodeacaaGreat.QA
set_option linter.unusedVariables false
set_option linter.unusedSimpArgs false
structure At (w : World) (pc op g : Int) : Prop where
 lo : 0 ≤ pc
 hi : pc < (w.code.length : Int)
 eq : el C2 w.code pc.toNat = (op, g)
theorem At.op {w : World} {pc op g : Int} (h : At w pc op g) : opAt w.code pc = op := by
 unfold opAt
 rw [if_pos h.hi, h.eq]
/-! ### turns with known runs -/
noncomputable def turnsN (K : Kernel) : Nat → Kernel
 | 0 => K
 | j + 1 => turnK (turnsN K j) []
theorem turnsN_good {K : Kernel} {m : Int} (h : Good m K) : ∀ j : Nat, m + (j : Int) < 999999999 → Good (m + (j : Int)) (turnsN K j)
 | 0, _ => h.up (by omega)
 | j + 1, hj => by
  have := turn_good (ins := []) (turnsN_good h j (by omega)) (by omega)
  exact this.up (by omega)
end Go.Proofs.YtacpibmmodeacaaGreat.Pure
/- Many turns, by the program. No condition. -/
namespace Go.Proofs.YtacpibmmodeacaaGreat.Pure
open Go Go.Proofs.YtacpibmmodeacaaGreatA Go.Proofs.YtacpibmmodeacaaGreatU Go.Proofs.YtacpibmmodeacaaGreat.QA
set_option linter.unusedVariables false
set_option linter.unusedSimpArgs false
theorem turns_i {k : Nat} {K : Kernel} {m n : Int} (h : Good m K) (hm : m < 999990000) (hk : 1048576 < k) : impl_RunTurns.f k K n [] = some (turnsN K (min n 200).toNat) := by
 refine ok_eq ?_
 unfold impl_RunTurns.f
 refine ok_bind' (r := K) (copyKernel_i h.small hk) ?_
 refine ok_loop (L := impl_RunTurns.l1 k) (I := fun d s => ∃ j : Nat, s = (min n 200, (j : Int), 0, false, (turnsN K j).2.2.2.2.2.1, (turnsN K j).2.2.2.2.2.2.1, [], [], [], [], [], [], [], [], [], [], [], (turnsN K j).1.1, (turnsN K j).1.2.1, (turnsN K j).1.2.2.1, (turnsN K j).1.2.2.2.1, (turnsN K j).1.2.2.2.2, (turnsN K j).2.1, (turnsN K j).2.2.1, (turnsN K j).2.2.2.1, (turnsN K j).2.2.2.2.1, (turnsN K j).2.2.2.2.2.2.2, ()) ∧ j + d = (min n 200).toNat) ?_ k (min n 200).toNat _ (by omega) ⟨0, rfl, by omega⟩
 rintro d q s ⟨j, rfl, hd⟩ ih
 rw [impl_RunTurns.l1]
 have h4 : w64 ((j : Int) + 1) = ((j + 1 : Nat) : Int) := w64_id (by omega) (by omega)
 have g := turnsN_good h j (by omega)
 refine ok_if (fun hlt => ok_let (ok_els (by simp only [List.length_nil]; omega) (ok_bind' (r := turnsN K (j + 1)) ?_ ?_))) (fun hge => ok_some ?_)
 ·exact turn_i g.small g.st hk
 ·rw [h4]
  exact ih (d - 1) _ (by omega) ⟨j + 1, rfl, by omega⟩
 ·rw [show (min n 200).toNat = j by omega]
theorem new_i {k : Nat} {S : Setup} (hs : Small S) (hf : faultM S = 0) (hk : 1048576 < k) : impl_KernelNew.f k S = some (newK S, 0) := by
 rw [kernelNew_i hs hk, if_pos hf]
end Go.Proofs.YtacpibmmodeacaaGreat.Pure
/- Twelve drawn numbers. No condition. -/
namespace Go.Proofs.YtacpibmmodeacaaGreat.Pure
open Go Go.Proofs.YtacpibmmodeacaaGreatA Go.Proofs.YtacpibmmodeacaaGreatU Go.Proofs.YtacpibmmodeacaaGreat.QA
set_option linter.unusedVariables false
/-- Twelve numbers of 0 .. 9999. -/
def Places (p : List Int) : Prop := p.length = 12 ∧ ∀ i, i < 12 → 0 ≤ (el (.int .i64) p i : Int) ∧ (el (.int .i64) p i : Int) ≤ 9999
theorem places_at {p : List Int} (h : Places p) {i : Nat} (hi : i < 12) : ∃ x : Int, el (.int .i64) p i = x ∧ 0 ≤ x ∧ x ≤ 9999 := ⟨_, rfl, h.2 i hi⟩
theorem places_ok {k : Nat} {xs : List Int} (hl : xs.length ≤ 1048576) (hk : 1048576 < k) : Ok (spec_DrawPlaces.f k xs) Places := by
 unfold spec_DrawPlaces.f
 refine ok_bind (new_ok hl hk) (fun r1 h1 => ok_bind (byte_ok h1) (fun r2 h2 => ok_let ?_))
 refine ok_loop (L := spec_DrawPlaces.l1 k) (I := fun d s => ∃ (j : Nat) (ci ch : Int) (p : List Int), s = ((j : Int), ci, ch, xs, p, ()) ∧ j + d = 12 ∧ Cur (xs, ci, ch) ∧ p.length = j ∧ ∀ x, x ∈ p → 0 ≤ x ∧ x ≤ 9999) ?_ k 12 _ (by omega) ⟨0, _, _, [], rfl, by omega, h2.2.2, rfl, fun x hx => by cases hx⟩
 rintro d n s ⟨j, ci, ch, p, rfl, hd, hc, hp, hx⟩ ih
 rw [spec_DrawPlaces.l1]
 refine ok_if (fun hlt => ok_bind (below_lt hc (by omega)) (fun r4 h4 => ok_let ?_)) (fun _ => ok_some ⟨by omega, fun i hi => hx _ (el_mem (t := .int .i64) (by omega))⟩)
 refine ok_grd (by simp only [List.length_cons, List.length_nil]; omega) (ok_let ?_)
 have h5 : w64 ((j : Int) + 1) = ((j + 1 : Nat) : Int) := w64_id (by omega) (by omega)
 rw [h5]
 refine ih (d - 1) _ (by omega) ⟨j + 1, _, _, _, rfl, by omega, h4.2.2, by simp [hp], fun x hx' => ?_⟩
 rcases List.mem_append.1 hx' with h | h
 ·exact hx x h
 ·rw [List.mem_singleton.1 h]
  omega
theorem tmod_in {x n : Int} (hx : 0 ≤ x) (hn : 0 < n) : 0 ≤ Int.tmod x n ∧ Int.tmod x n < n := ⟨Int.tmod_nonneg _ hx, Int.tmod_lt_of_pos _ hn⟩
/-- What a law over drawn bytes begins with. -/
theorem big_ok {k : Nat} {xs : List Int} {g : Bool → Option Bool} (h : xs.length ≤ 1048576 → Ok (g false) (fun r => r = true)) (h2 : Ok (g true) (fun r => r = true)) : Ok ((laws_big.f k xs).bind g) (fun r => r = true) := by
 unfold laws_big.f
 refine ok_let ?_
 by_cases hb : xs.length ≤ 1048576
 ·rw [decide_eq_false (by omega)]
  exact h hb
 ·rw [decide_eq_true (by omega)]
  exact h2
end Go.Proofs.YtacpibmmodeacaaGreat.Pure
/- What is the same is told to be the same. No condition. -/
namespace Go.Proofs.YtacpibmmodeacaaGreat.Pure
open Go Go.Proofs.YtacpibmmodeacaaGreatA Go.Proofs.YtacpibmmodeacaaGreatU Go.Proofs.YtacpibmmodeacaaGreat.QA
set_option linter.unusedVariables false
theorem sameInts_f {k : Nat} {xs : List Int} (hl : xs.length ≤ 1048576) (hk : 1048576 < k) : laws_sameInts.f k xs xs = some true := by
 have l : ∀ (d j n : Nat), j + d = xs.length → d < n → laws_sameInts.l1 k n ((j : Int), xs, xs, ()) = some true := by
  intro d
  induction d with
  | zero =>
   intro j n hj hn
   obtain ⟨n, rfl⟩ : ∃ n', n = n' + 1 := ⟨n - 1, by omega⟩
   rw [laws_sameInts.l1, if_neg (by omega)]
  | succ d ih =>
   intro j n hj hn
   obtain ⟨n, rfl⟩ : ∃ n', n = n' + 1 := ⟨n - 1, by omega⟩
   have h0 : (0 : Int) ≤ (j : Int) := by omega
   have h1 : (j : Int) < (xs.length : Int) := by omega
   have h4 : w64 ((j : Int) + 1) = ((j + 1 : Nat) : Int) := w_id (z := (j : Int) + 1) (by omega) (by omega)
   simp only [laws_sameInts.l1, h0, h1, h4, ↓reduceIte, Int.toNat_natCast, not_true_eq_false]
   exact ih (j + 1) n (by omega) (by omega)
 have := l xs.length 0 k (by omega) (by omega)
 unfold laws_sameInts.f
 rw [if_neg (fun h => h rfl)]
 exact this
theorem sameCpu_f {k : Nat} {c : Int × List Int} (hl : c.2.length ≤ 1048576) (hk : 1048576 < k) : laws_sameCpu.f k c c = some true := by
 unfold laws_sameCpu.f
 rw [if_pos rfl, sameInts_f hl hk]
 rfl
end Go.Proofs.YtacpibmmodeacaaGreat.Pure
/- Kernels that are the same are told to be the same. No condition. -/
namespace Go.Proofs.YtacpibmmodeacaaGreat.Pure
open Go Go.Proofs.YtacpibmmodeacaaGreatA Go.Proofs.YtacpibmmodeacaaGreatU Go.Proofs.YtacpibmmodeacaaGreat.QA
set_option linter.unusedVariables false
set_option linter.unusedSimpArgs false
theorem sameKernel_f {k : Nat} {K : Kernel} (h : SmallK K) (hk : 1048576 < k) : laws_sameKernel.f k K K = some true := by
 obtain ⟨⟨R, W, P, U, C⟩, A, Ps, Ls, O, T, D, G⟩ := K
 obtain ⟨s1, s2, s3, s4, s5, s6, s7, s8⟩ := h
 simp only at s2 s3 s4 s5 s6 s7 s8
 refine ok_eq ?_
 unfold laws_sameKernel.f
 refine ok_bind' (sameInts_f s2 hk) (ok_els (fun h => h rfl) (ok_bind' (sameInts_f s7 hk) (ok_els (fun h => h rfl) (ok_els (fun h => h rfl) (ok_els (fun h => h rfl) (ok_els (fun h => h rfl) (ok_els (fun h => h rfl) (ok_els (fun h => h rfl) ?_))))))))
 refine ok_loop (L := laws_sameKernel.l1 k) (I := fun d s => ∃ j : Nat, s = ((j : Int), T, D, T, D, R, W, P, U, C, A, Ps, Ls, O, G, R, W, P, U, C, A, Ps, Ls, O, G, ()) ∧ j + d = Ps.length) ?_ k Ps.length _ (by omega) ⟨0, rfl, by omega⟩
 rintro d n s ⟨j, rfl, hd⟩ ih
 rw [laws_sameKernel.l1]
 refine ok_if (fun hlt => ok_grd (by omega) (ok_grd hlt (ok_grd (by omega) (ok_grd hlt (ok_els (fun h => h rfl) ?_))))) (fun _ => ?_)
 ·have hst := s4 _ (el_mem (t := PT) (xs := Ps) (i := j) (by omega))
  have h4 : w64 ((j : Int) + 1) = ((j + 1 : Nat) : Int) := w64_id (by omega) (by omega)
  refine ok_bind' (sameCpu_f (c := (el PT Ps ((j : Int)).toNat).2.1) (by rw [Int.toNat_natCast]; exact hst) hk) (ok_els (fun h => h rfl) (ok_els (fun h => h rfl) (ok_els (fun h => h rfl) (ok_els (fun h => h rfl) ?_))))
  rw [h4]
  exact ih (d - 1) _ (by omega) ⟨j + 1, rfl, by omega⟩
 clear ih
 refine ok_loop (L := laws_sameKernel.l2 k) (I := fun d s => ∃ j : Nat, s = ((j : Int), T, D, T, D, R, W, P, U, C, A, Ps, Ls, O, G, R, W, P, U, C, A, Ps, Ls, O, G, ()) ∧ j + d = G.length) ?_ k G.length _ (by omega) ⟨0, rfl, by omega⟩
 rintro d n s ⟨j, rfl, hd⟩ ih
 rw [laws_sameKernel.l2]
 refine ok_if (fun hlt => ok_grd (by omega) (ok_grd hlt (ok_grd (by omega) (ok_grd hlt (ok_els (fun h => h ⟨rfl, rfl, rfl, rfl, rfl⟩) ?_))))) (fun _ => ?_)
 ·have h4 : w64 ((j : Int) + 1) = ((j + 1 : Nat) : Int) := w64_id (by omega) (by omega)
  rw [h4]
  exact ih (d - 1) _ (by omega) ⟨j + 1, rfl, by omega⟩
 clear ih
 refine ok_loop (L := laws_sameKernel.l3 k) (I := fun d s => ∃ j : Nat, s = ((j : Int), T, D, T, D, R, W, P, U, C, A, Ps, Ls, O, G, R, W, P, U, C, A, Ps, Ls, O, G, ()) ∧ j + d = Ls.length) ?_ k Ls.length _ (by omega) ⟨0, rfl, by omega⟩
 rintro d n s ⟨j, rfl, hd⟩ ih
 rw [laws_sameKernel.l3]
 refine ok_if (fun hlt => ok_grd (by omega) (ok_grd hlt (ok_grd (by omega) (ok_grd hlt (ok_els (fun h => h rfl) ?_))))) (fun _ => ok_some rfl)
 have hml := s6 _ (el_mem (t := LT) (xs := Ls) (i := j) (by omega))
 have h4 : w64 ((j : Int) + 1) = ((j + 1 : Nat) : Int) := w64_id (by omega) (by omega)
 refine ok_loop (L := laws_sameKernel.l4 k (laws_sameKernel.l3 k n)) (I := fun e s => ∃ i : Nat, s = ((j : Int), (i : Int), T, D, T, D, R, W, P, U, C, A, Ps, Ls, O, G, R, W, P, U, C, A, Ps, Ls, O, G, ()) ∧ i + e = (el LT Ls j).length) ?_ k (el LT Ls j).length _ (by omega) ⟨0, rfl, by omega⟩
 rintro e q s ⟨i, rfl, he⟩ ih2
 rw [laws_sameKernel.l4]
 simp only [Int.toNat_natCast]
 have hj0 : (0 : Int) ≤ (j : Int) := by omega
 have hi0 : (0 : Int) ≤ (i : Int) := by omega
 have h5 : w64 ((i : Int) + 1) = ((i + 1 : Nat) : Int) := w64_id (by omega) (by omega)
 refine ok_grd hj0 (ok_grd hlt (ok_if (fun hi => ok_grd hj0 (ok_grd hlt (ok_grd hi0 (ok_grd hi (ok_grd hj0 (ok_grd hlt (ok_grd hi0 (ok_grd hi (ok_els (fun h => h ⟨trivial, trivial⟩) ?_))))))))) (fun _ => ?_)))
 ·rw [h5]
  exact ih2 (e - 1) _ (by have : (i : Int) < ((el LT Ls j).length : Int) := hi; omega) ⟨i + 1, rfl, by have : (i : Int) < ((el LT Ls j).length : Int) := hi; omega⟩
 ·rw [h4]
  exact ih (d - 1) _ (by omega) ⟨j + 1, rfl, by omega⟩
end Go.Proofs.YtacpibmmodeacaaGreat.Pure
/- The plain law of FnKernels. No condition. -/
namespace Go.Proofs.YtacpibmmodeacaaGreat.Pure
open Go Go.Proofs.YtacpibmmodeacaaGreatA Go.Proofs.YtacpibmmodeacaaGreatU Go.Proofs.YtacpibmmodeacaaGreat.QA Go.Proofs.YtacpibmmodeacaaGreat.QFnKernels
set_option linter.unusedVariables false
set_option linter.unusedSimpArgs false
theorem turnsN_add (K : Kernel) (n : Nat) : ∀ m : Nat, turnsN (turnsN K n) m = turnsN K (n + m)
 | 0 => rfl
 | m + 1 => by
  show turnK (turnsN (turnsN K n) m) [] = turnK (turnsN K (n + m)) []
  rw [turnsN_add K n m]
theorem FnKernels : ∀ (x0 : den (.sl 5 (.int .u8))), Wf (.sl 5 (.int .u8)) x0 → ∃ k, laws_FnKernels.f k x0 = some true := by
 intro xs _
 refine ⟨1048577, ?_⟩
 have hk : 1048576 < 1048577 := by omega
 generalize 1048577 = k at hk
 refine ok_eq ?_
 unfold laws_FnKernels.f
 refine big_ok (fun hl => ?_) (ok_some rfl)
 refine ok_bind (drawKernel_ok hl hk) ?_
 rintro ⟨K, ins⟩ hD
 have hG : Good 12 K := hD.good
 have hT : 0 ≤ K.2.2.2.2.2.1 ∧ K.2.2.2.2.2.1 ≤ 12 := hD.time
 have hDr : Drawn K.1 := hD.setup
 have hG2 := turn_good (ins := ins) hG (by omega)
 have hT2 := turn_turn (ins := ins) hG (by omega)
 have hf := drawn_right hDr
 have hN := new_good hf
 refine ok_bind' (r := turnK K ins) (turn_i hG.small hG.st hk) (ok_bind' (r := turnK K ins) (turn_s hG.small hG.st hG.log hk) (ok_bind' (sameKernel_f hG2.small hk) (ok_els (fun h => h rfl) ?_)))
 refine ok_bind' (r := true) ((kernelOk_i hG.small hk).trans (by rw [B_yes hG.ok])) (ok_els (fun h => h rfl) ?_)
 refine ok_bind' (r := true) ((kernelOk_i hG2.small hk).trans (by rw [B_yes hG2.ok])) (ok_els (fun h => h rfl) ?_)
 refine ok_els (fun h => h (hT2.trans (w64_id (by omega) (by omega)).symm)) ?_
 refine ok_bind (places_ok hl hk) (fun p hp => ?_)
 have hpl := hp.1
 obtain ⟨p0, e0, b0, c0⟩ := places_at hp (i := 0) (by omega)
 obtain ⟨p1, e1, b1, c1⟩ := places_at hp (i := 1) (by omega)
 have t0 := tmod_in b0 (n := 9) (by omega)
 have t1 := tmod_in b1 (n := 9) (by omega)
 have e0' : el TyI p 0 = p0 := e0
 have e1' : el TyI p 1 = p1 := e1
 rw [e0', e1']
 generalize Int.tmod p0 9 = n at t0 ⊢
 generalize Int.tmod p1 9 = m at t1 ⊢
 obtain ⟨a, rfl⟩ : ∃ a : Nat, n = (a : Int) := ⟨n.toNat, by omega⟩
 obtain ⟨b, rfl⟩ : ∃ b : Nat, m = (b : Int) := ⟨m.toNat, by omega⟩
 rw [w64_id (z := (a : Int) + (b : Int)) (by omega) (by omega)]
 have hGa := turnsN_good hG a (by omega)
 have hGb := turnsN_good hG (a + b) (by omega)
 refine ok_grd (by omega) (ok_grd (by omega) (ok_grd (by omega) (ok_grd (by omega) (ok_let ?_))))
 refine ok_bind' (r := turnsN K a) ((turns_i hG (by omega) hk).trans (by rw [show (min (a : Int) 200).toNat = a by omega])) (ok_let ?_)
 refine ok_bind' (r := turnsN K (a + b)) ((turns_i hGa (by omega) hk).trans (by rw [show (min (b : Int) 200).toNat = b by omega, turnsN_add])) (ok_let ?_)
 refine ok_bind' (r := turnsN K (a + b)) ((turns_i hG (by omega) hk).trans (by rw [show (min ((a : Int) + (b : Int)) 200).toNat = a + b by omega])) ?_
 refine ok_bind' (r := (newK K.1, 0)) (new_i (drawn_small hDr) hf hk) (ok_bind' (sameKernel_f hGb.small hk) (ok_grd rfl (ok_grd rfl ?_)))
 exact ok_bind' (r := true) ((kernelOk_i hN.small hk).trans (by rw [B_yes hN.ok])) (ok_grd rfl (ok_some (decide_eq_true rfl)))
end Go.Proofs.YtacpibmmodeacaaGreat.Pure
