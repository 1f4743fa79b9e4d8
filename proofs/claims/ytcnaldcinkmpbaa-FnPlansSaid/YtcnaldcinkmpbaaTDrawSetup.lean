/- Set-ups that are drawn: they are right. No condition. -/
import Derived.Test.YtcnaldcinkmpbaaTSetup
import Derived.Test.YtcnaldcinkmpbaaTDrawCpu
import Derived.Test.YtcnaldcinkmpbaaTDrawPort
import Derived.Test.YtcnaldcinkmpbaaTDrawRules
import Derived.Test.YtcnaldcinkmpbaaTCodeText
namespace Go.Proofs.Ytcnaldcinkmpbaa.Pure
open Go Go.Proofs.YtcnaldcinkmpbaaA Go.Proofs.YtcnaldcinkmpbaaU Go.Proofs.Ytcnaldcinkmpbaa.QA
set_option linter.unusedVariables false
theorem rows_head {L : List (Int × Int)} {lo : Int} (h : Rows lo L) : ∀ j i, j < i → i < L.length → (el W2 L j).1 + (el W2 L j).2 ≤ (el W2 L i).1 := by
  induction L generalizing lo with
  | nil => intro j i h1 h2; exact absurd h2 (by simp)
  | cons r L ih =>
    obtain ⟨a, b, c, d, e⟩ := h
    intro j i h1 h2
    cases i with
    | zero => exact absurd h1 (by omega)
    | succ i =>
      have hi : i < L.length := by simpa using h2
      cases j with
      | zero =>
        have := rows_in e _ (el_mem (t := W2) hi)
        exact this.1
      | succ j => exact ih e j i (by omega) hi
theorem regions_of {L : List (Int × Int)} (h : Rows 0 L) (h1 : 1 ≤ L.length) (h4 : L.length ≤ 4) : RegionsOk L := by
  refine ⟨fun i hi => ⟨?_, fun j hj ho => ?_⟩, h1, h4⟩
  · have := rows_in h _ (el_mem (t := W2) hi)
    exact ⟨this.1, this.2.1, by omega, by omega⟩
  · exact absurd ho.1 (Int.not_lt.2 (rows_head h j i hj hi))
/-- A drawn text of code. -/
def CodeDrawn (s : ByteArray) : Prop := ∃ L, AllIns L ∧ L.length ≤ 46 ∧ s = chrs (codeB L)
structure Drawn (s : Setup) : Prop where
  rows : Rows 0 s.1
  n1 : 1 ≤ s.1.length
  n4 : s.1.length ≤ 4
  plan1 : 1 ≤ s.2.1.length
  plan5 : s.2.1.length ≤ 5
  plan : ∀ w, w ∈ s.2.1 → (1 ≤ w.1 ∧ w.1 ≤ (s.1.length : Int)) ∧ (1 ≤ w.2 ∧ w.2 ≤ 40)
  ports3 : s.2.2.1.length ≤ 3
  ports : ∀ p, p ∈ s.2.2.1 → PortOk p ∧ p.2.1 ≤ (s.1.length : Int) ∧ p.2.2.1 ≤ (s.1.length : Int)
  rules : RulesOk s.2.2.2.1
  rulesN : ∀ r, r ∈ s.2.2.2.1 → 1 ≤ r.1 ∧ r.1 ≤ (s.1.length : Int)
  codesN : s.2.2.2.2.length = s.1.length
  codes : ∀ c, c ∈ s.2.2.2.2 → CodeDrawn c
theorem l09Plan_ok {k : Nat} {c : List Int × Int × Int} {parts : Int} (hk : 1048576 < k) (h : Cur c) (hp : 1 ≤ parts ∧ parts ≤ 4) :
    Ok (spec_l09Plan.f k c parts) (fun r => 1 ≤ r.1.length ∧ r.1.length ≤ 5 ∧ (∀ w, w ∈ r.1 → (1 ≤ w.1 ∧ w.1 ≤ parts) ∧ (1 ≤ w.2 ∧ w.2 ≤ 40)) ∧ Cur (c.1, r.2.2)) := by
  unfold spec_l09Plan.f
  refine ok_let ?_
  refine ok_loop (L := spec_l09Plan.l1 k) (I := fun d s => ∃ (j : Nat) (ci ch : Int) (L : List (Int × Int)), s = (parts, (j : Int), ci, ch, c.1, L, ()) ∧ j + d = 5 ∧ Cur (c.1, ci, ch) ∧ L.length = j ∧ ∀ w, w ∈ L → (1 ≤ w.1 ∧ w.1 ≤ parts) ∧ (1 ≤ w.2 ∧ w.2 ≤ 40)) ?_ k 5 _ (by omega) ⟨0, _, _, [], rfl, by omega, h, rfl, fun w hw => by cases hw⟩
  rintro d n s ⟨j, ci, ch, L, rfl, hd, hc, hL, hw⟩ ih
  rw [spec_l09Plan.l1]
  refine ok_bind (below_lt hc (by omega)) (fun r2 h2 => ?_)
  rw [w64_id (z := 1 + r2.1) (by omega) (by omega)]
  refine ok_if (fun hlt => ?_) (fun hge => ok_some ⟨by dsimp only; omega, by dsimp only; omega, hw, h2.2.2⟩)
  refine ok_bind (below_lt h2.2.2 (by omega)) (fun r3 h3 => ok_bind (below_lt h3.2.2 (by omega)) (fun r4 h4 => ok_let ?_))
  rw [w64_id (z := 1 + r3.1) (by omega) (by omega), w64_id (z := 1 + r4.1) (by omega) (by omega)]
  refine ok_grd (by simp only [List.length_cons, List.length_nil]; omega) (ok_let ?_)
  have h5 : w64 ((j : Int) + 1) = ((j + 1 : Nat) : Int) := w64_id (by omega) (by omega)
  rw [h5]
  refine ih (d - 1) _ (by omega) ⟨j + 1, _, _, _, rfl, by omega, h4.2.2, by simp [hL], fun w hw' => ?_⟩
  rcases List.mem_append.1 hw' with h' | h'
  · exact hw w h'
  · rw [List.mem_singleton.1 h']
    dsimp only
    omega
theorem l11Setup_ok {k : Nat} {c : List Int × Int × Int} (hk : 1048576 < k) (h : Cur c) : Ok (spec_l11Setup.f k c) (fun r => Drawn r.1 ∧ Cur (c.1, r.2.2)) := by
  unfold spec_l11Setup.f
  refine ok_bind (l04Regions_ok hk h) (fun r1 h1 => ok_bind (l09Plan_ok hk h1.2.2.2 (by have := h1.2; omega)) (fun r2 h2 => ok_bind (l10Rules_ok hk h2.2.2.2 (by have := h1.2; omega)) (fun r3 h3 => ?_)))
  obtain ⟨hR, hn1, hn4, -⟩ := h1
  obtain ⟨hp1, hp5, hpl, -⟩ := h2
  obtain ⟨hru, hrn, hc3⟩ := h3
  generalize r1.1 = R at hR hn1 hn4 hpl hrn
  generalize r2.1 = W at hp1 hp5 hpl
  generalize r3.1 = U at hru hrn
  refine ok_loop (L := spec_l11Setup.l1 k) (I := fun d s => ∃ (j : Nat) (ci ch : Int) (P : List Port5), s = ((R.length : Int), (j : Int), ci, ch, c.1, [], [], [], [], [], R, W, P, U, [], ()) ∧ j + d = 4 ∧ Cur (c.1, ci, ch) ∧ P.length ≤ j ∧ j ≤ 3 ∧ ∀ p, p ∈ P → PortOk p ∧ p.2.1 ≤ (R.length : Int) ∧ p.2.2.1 ≤ (R.length : Int)) ?_ k 4 _ (by omega) ⟨0, _, _, [], rfl, by omega, hc3, Nat.le_refl 0, by omega, fun p hp => by cases hp⟩
  rintro d n s ⟨j, ci, ch, P, rfl, hd, hc, hP, hj, hpp⟩ ih
  rw [spec_l11Setup.l1]
  refine ok_bind (below_lt hc (by omega)) (fun r4 h4 => ok_if (fun hlt => ?_) (fun hge => ?_))
  · have h5 : w64 ((j : Int) + 1) = ((j + 1 : Nat) : Int) := w64_id (by omega) (by omega)
    refine ok_bind (l08Port_ok h4.2.2) (fun r5 h6 => ?_)
    rw [h5]
    have skip := ih (d - 1) ((R.length : Int), ((j + 1 : Nat) : Int), r5.2.2.1, r5.2.2.2, c.1, [], [], [], [], [], R, W, P, U, [], ()) (by omega) ⟨j + 1, _, _, P, rfl, by omega, h6.2, by omega, by omega, hpp⟩
    refine ok_if (fun q1 => ok_if (fun q2 => ok_let (ok_grd (by simp only [List.length_cons, List.length_nil]; omega) (ok_let ?_))) (fun _ => skip)) (fun _ => skip)
    refine ih (d - 1) _ (by omega) ⟨j + 1, _, _, _, rfl, by omega, h6.2, by simp only [List.length_append, List.length_cons, List.length_nil]; omega, by omega, fun p hp => ?_⟩
    rcases List.mem_append.1 hp with h' | h'
    · exact hpp p h'
    · rw [List.mem_singleton.1 h']
      exact ⟨h6.1, q1, q2⟩
  · clear ih hc hd
    refine ok_loop (L := spec_l11Setup.l2 k) (I := fun d s => ∃ (j : Nat) (ci ch : Int) (C : List ByteArray), s = ((R.length : Int), (j : Int), ci, ch, c.1, [], [], [], [], [], R, W, P, U, C, ()) ∧ j + d = R.length ∧ Cur (c.1, ci, ch) ∧ C.length = j ∧ ∀ c, c ∈ C → CodeDrawn c) ?_ k R.length _ (by omega) ⟨0, _, _, [], rfl, by omega, h4.2.2, rfl, fun p hp => by cases hp⟩
    rintro d m s ⟨i, ci, ch, C, rfl, hd, hc, hC, hcd⟩ ih
    rw [spec_l11Setup.l2]
    refine ok_if (fun hlt => ?_) (fun hge => ok_some ⟨⟨hR, hn1, hn4, hp1, hp5, hpl, by dsimp only; omega, hpp, hru, hrn, by dsimp only; omega, hcd⟩, hc⟩)
    refine ok_bind (l05Code_ok hk hc) (fun r8 h8 => ?_)
    have hl8 := h8.2.1
    have h5 : w64 ((i : Int) + 1) = ((i + 1 : Nat) : Int) := w64_id (by omega) (by omega)
    have ect : codeTextM r8.1 = (chrs (codeB r8.1), true) := by
      unfold codeTextM
      rw [B_yes (codeOk_of h8.1 (by omega)), if_pos rfl]
    rw [codeText_s (by omega) hk, ect, h5]
    refine ok_let (ok_let (ok_grd (by simp only [List.length_cons, List.length_nil]; omega) (ok_let ?_)))
    refine ih (d - 1) _ (by omega) ⟨i + 1, _, _, _, rfl, by omega, h8.2.2, by simp [hC], fun x hx => ?_⟩
    rcases List.mem_append.1 hx with h' | h'
    · exact hcd x h'
    · rw [List.mem_singleton.1 h']
      exact ⟨r8.1, h8.1, hl8, rfl⟩
theorem drawSetup_ok {k : Nat} {xs : List Int} (hl : xs.length ≤ 1048576) (hk : 1048576 < k) : Ok (spec_DrawSetup.f k xs) Drawn := by
  unfold spec_DrawSetup.f
  exact ok_bind (new_ok hl hk) (fun r1 h1 => ok_bind (l11Setup_ok hk h1) (fun r2 h2 => ok_some h2.1))
theorem codeRead_of {s : ByteArray} (h : CodeDrawn s) : CodeRead s := by
  obtain ⟨L, h1, h2, rfl⟩ := h
  have := codeB_len L
  exact ⟨by rw [chrs_size, this]; omega, by rw [chrs_size, this]; omega⟩
theorem drawn_plan {s : Setup} (h : Drawn s) : PlanOk s.2.1 := ⟨fun i hi => by
    have := h.plan _ (el_mem (t := W2) hi)
    have h4 := h.n4
    exact ⟨by omega, by omega⟩, h.plan1, by have := h.plan5; omega⟩
theorem drawn_ports {s : Setup} (h : Drawn s) : PortsOk s.2.2.1 := ⟨fun i hi => (h.ports _ (el_mem (t := P5) hi)).1, by have := h.ports3; omega⟩
theorem drawn_codes {s : Setup} (h : Drawn s) : CodesOk s.2.2.2.2 (s.1.length : Int) := ⟨fun i hi => codeRead_of (h.codes _ (el_mem (t := .str) hi)), by rw [h.codesN]⟩
theorem drawn_parts {s : Setup} (h : Drawn s) : PartsOk s := ⟨fun i hi => (h.plan _ (el_mem (t := W2) hi)).1.2, fun i hi => (h.ports _ (el_mem (t := P5) hi)).2.1, fun i hi => (h.ports _ (el_mem (t := P5) hi)).2.2, fun i hi => (h.rulesN _ (el_mem (t := R3) hi)).2⟩
theorem drawn_small {s : Setup} (h : Drawn s) : Small s := ⟨by have := h.n4; omega, by have := h.plan5; omega, by have := h.ports3; omega, by have := h.rules.2; omega, by have := h.codesN; have := h.n4; omega⟩
theorem fault0 {s : Setup} (h1 : RegionsOk s.1) (h2 : PlanOk s.2.1) (h3 : PortsOk s.2.2.1) (h4 : RulesOk s.2.2.2.1) (h5 : CodesOk s.2.2.2.2 (s.1.length : Int)) (h6 : PartsOk s) : faultM s = 0 := by
  unfold faultM
  rw [B_yes h1, B_yes h2, B_yes h3, B_yes h4, B_yes h5, B_yes h6]
  rfl
theorem drawn_right {s : Setup} (h : Drawn s) : faultM s = 0 := fault0 (regions_of h.rows h.n1 h.n4) (drawn_plan h) (drawn_ports h) h.rules (drawn_codes h) (drawn_parts h)
end Go.Proofs.Ytcnaldcinkmpbaa.Pure
