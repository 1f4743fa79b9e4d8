/- The pure statement of FnExactWorstCost: both tell the same of every code. No condition. -/
import Derived.Test.YtgihjaonapngdaaPFnExactWorstCostx5
namespace Go.Proofs.Ytgihjaonapngdaa.Pure
open Go.RowKit Go.Proofs.Ytgihjaonapngdaa.PFnExactWorstCost Go.Proofs.YtgihjaonapngdaaW.PrintWords Go.Proofs.YtgihjaonapngdaaW.PrintLast
set_option linter.unusedVariables false
set_option linter.unusedSimpArgs false
theorem wrap_id {n : Int} (h0 : -9223372036854775808 ≤ n) (h1 : n ≤ 9223372036854775807) : wrap64 n = n := by unfold wrap64; omega
theorem wrap_succ {i n : Nat} (h : i < n) (hn : n ≤ 1048576) : wrap64 ((i : Int) + 1) = ((i + 1 : Nat) : Int) := by rw [wrap_id (by omega) (by omega)]; omega
theorem ev_now {α : Type} {g : Nat → Option α} {r : α} (h : ∀ k, g k = some r) : Ev g r := ⟨0, fun k _ => h k⟩
theorem ev_all {α : Type} {g : Nat → Option α} {r : α} (h : Ev g r) : ∃ K, ∀ k, K ≤ k → g k = some r := h
theorem sz_big (l : List S117) (h : l.length ≤ maxLen) : laws_szInstrS.f l 1048576 = some (if l.length ≤ 1048576 then 1048576 - (l.length : Int) else -1) := by
  unfold laws_szInstrS.f
  simp only [maxLen] at h
  rw [wrap_id (by omega) (by omega)]
  by_cases hl : l.length ≤ 1048576
  · rw [if_neg (by omega), if_pos hl]
  · rw [if_pos (by omega), if_neg hl]
theorem to_list (l : List S117) (h : l.length ≤ 1048576) : ∃ L : List S113, L.length = l.length ∧ Ev (fun k => laws_toInstrS.f k l) L := by
  have key : ∀ d i (acc : List S113), acc.length = l.length → i + d = l.length → ∃ L : List S113, L.length = l.length ∧ Ev (fun k => laws_toInstrS.l0 k l acc (i : Nat)) L := by
    intro d
    induction d with
    | zero =>
      intro i acc ha hi
      refine ⟨acc, ha, Ev.step (f := fun k => some acc) (fun k => ?_) (Ev.now _)⟩
      simp only [laws_toInstrS.l0, if_neg (show ¬ ((i : Int) < (l.length : Int)) by omega)]
    | succ d ih =>
      intro i acc ha hi
      obtain ⟨L, hL, hE⟩ := ih (i + 1) (acc.set i ⟨(rd_T117 l (i : Nat)).f0, (rd_T117 l (i : Nat)).f1⟩) (by simp [ha]) (by omega)
      refine ⟨L, hL, Ev.step (fun k => ?_) hE⟩
      simp only [laws_toInstrS.l0, if_pos (show (i : Int) < (l.length : Int) by omega), if_pos (show (0 : Int) ≤ (i : Int) by omega), if_pos (show (i : Int) < (acc.length : Int) by omega), laws_toInstr.f, Option.bind_some, wrap_succ (show i < l.length by omega) h, Int.toNat_natCast]
  obtain ⟨L, hL, hE⟩ := key l.length 0 (List.replicate l.length z113) (by simp) (by omega)
  refine ⟨L, hL, Ev.congr (fun k => ?_) hE⟩
  simp only [laws_toInstrS.f, if_pos (show (0 : Int) ≤ (l.length : Int) by omega), Int.toNat_natCast, if_pos (show l.length ≤ 17592186044416 by omega)]
  rfl
theorem eq_list (L : List S113) (h : L.length ≤ 1048576) : Ev (fun k => laws_eqInstrS.f k L L) true := by
  have key : ∀ d i, i + d = L.length → Ev (fun k => laws_eqInstrS.l0 k L L (i : Nat)) true := by
    intro d
    induction d with
    | zero =>
      intro i hi
      refine Ev.step (f := fun k => some true) (fun k => ?_) (Ev.now _)
      simp only [laws_eqInstrS.l0, if_neg (show ¬ ((i : Int) < (L.length : Int)) by omega)]
    | succ d ih =>
      intro i hi
      refine Ev.step (fun k => ?_) (ih (i + 1) (by omega))
      simp only [laws_eqInstrS.l0, if_pos (show (i : Int) < (L.length : Int) by omega), if_pos (show (0 : Int) ≤ (i : Int) by omega), laws_eqInstr.f, if_true, Option.bind_some, wrap_succ (show i < L.length by omega) h]
  refine Ev.congr (fun k => ?_) (key L.length 0 (by omega))
  simp only [laws_eqInstrS.f, if_true]
  rfl

theorem ok_in (a b c : Int) : ∃ t, spec_l01In.f a b c = some t ∧ (t = true → b ≤ a ∧ a ≤ c) := by
  unfold spec_l01In.f
  split
  · refine ⟨_, rfl, fun h => ?_⟩
    have := of_decide_eq_true h
    omega
  · exact ⟨_, rfl, fun h => by cases h⟩
theorem code_ends (L : List S113) (h : L.length ≤ 1048576) : ∃ r, Ev (fun k => spec_CodeOk.f k L) r ∧ (r = true → L.length ≤ 60 ∧ ∀ j : Nat, j < L.length → 0 ≤ (rd_T113 L j).f1 ∧ (rd_T113 L j).f1 ≤ 255) := by
  have key : ∀ d i, i + d = L.length → ∃ r, Ev (fun k => spec_CodeOk.l0 k L (i : Nat)) r ∧ (r = true → L.length ≤ 60 ∧ ∀ j : Nat, i ≤ j → j < L.length → 0 ≤ (rd_T113 L j).f1 ∧ (rd_T113 L j).f1 ≤ 255) := by
    intro d
    induction d with
    | zero =>
      intro i hi
      refine ⟨_, Ev.step (f := fun k => some (decide ((L.length : Int) ≤ 60))) (fun k => ?_) (Ev.now _), fun hr => ⟨by have := of_decide_eq_true hr; omega, fun j h1 h2 => by omega⟩⟩
      simp only [spec_CodeOk.l0, if_neg (show ¬ ((i : Int) < (L.length : Int)) by omega)]
    | succ d ih =>
      intro i hi
      obtain ⟨r, hr, hq⟩ := ih (i + 1) (by omega)
      obtain ⟨t, ht, _⟩ := ok_in (rd_T113 L (i : Nat)).f0 0 255
      obtain ⟨u, hu, gu⟩ := ok_in (rd_T113 L (i : Nat)).f1 0 255
      cases t with
      | false =>
        refine ⟨false, Ev.step (f := fun k => some false) (fun k => ?_) (Ev.now _), fun h => by cases h⟩
        simp only [spec_CodeOk.l0, if_pos (show (i : Int) < (L.length : Int) by omega), if_pos (show (0 : Int) ≤ (i : Int) by omega), ht, Option.bind_some, Bool.false_eq_true, if_false]
      | true =>
        cases u with
        | false =>
          refine ⟨false, Ev.step (f := fun k => some false) (fun k => ?_) (Ev.now _), fun h => by cases h⟩
          simp only [spec_CodeOk.l0, if_pos (show (i : Int) < (L.length : Int) by omega), if_pos (show (0 : Int) ≤ (i : Int) by omega), ht, hu, Option.bind_some, if_true, Bool.false_eq_true, if_false]
        | true =>
          refine ⟨r, Ev.step (fun k => ?_) hr, fun h => ⟨(hq h).1, fun j h1 h2 => ?_⟩⟩
          · simp only [spec_CodeOk.l0, if_pos (show (i : Int) < (L.length : Int) by omega), if_pos (show (0 : Int) ≤ (i : Int) by omega), ht, hu, Option.bind_some, if_true, wrap_succ (show i < L.length by omega) ‹_›]
          · by_cases he : j = i
            · subst he; exact gu rfl
            · exact (hq h).2 j (by omega) h2
  obtain ⟨r, h1, h2⟩ := key L.length 0 (by omega)
  exact ⟨r, h1, fun h => ⟨(h2 h).1, fun j hj => (h2 h).2 j (by omega) hj⟩⟩
theorem within_same (a b c : Int) : impl_within.f a b c = spec_l01In.f a b c := rfl
theorem bind_id {α : Type} (o : Option α) : (o.bind fun t => some t) = o := by cases o <;> rfl
theorem same_code (L : List S113) : ∀ k (i : Int), impl_CodeOk.l0 k L L (L.length : Int) i = spec_CodeOk.l0 k L i := by
  intro k
  induction k with
  | zero => intro i; rfl
  | succ k ih =>
    intro i
    simp only [impl_CodeOk.l0, spec_CodeOk.l0, ih, within_same]
    by_cases h1 : i < (L.length : Int)
    · simp only [if_pos h1]
    · simp only [if_neg h1]
theorem code_same (L : List S113) (k : Nat) : impl_CodeOk.f k L = spec_CodeOk.f k L := by simp only [impl_CodeOk.f, spec_CodeOk.f, same_code]
def goes (L : List S113) (j : Nat) : Prop := (rd_T113 L j).f0 = 9 ∨ (rd_T113 L j).f0 = 10
theorem goes_in (L : List S113) (j : Nat) : ∃ t, spec_l07Goes.f (rd_T113 L j).f0 (rd_T113 L j).f1 = some t ∧ (t = true ↔ goes L j) := by
  unfold spec_l07Goes.f goes
  split
  · exact ⟨_, rfl, by simp [*]⟩
  · exact ⟨_, rfl, by simp [*]⟩
def Good (L : List S113) : Prop := L.length ≤ 60 ∧ (∀ j : Nat, j < L.length → 0 ≤ (rd_T113 L j).f1 ∧ (rd_T113 L j).f1 ≤ 255) ∧ ∀ j : Nat, j < L.length → goes L j → (j : Int) < (rd_T113 L j).f1
theorem fwd_ends (L : List S113) (h : L.length ≤ 1048576) : ∃ r, Ev (fun k => spec_Forward.f k L) r ∧ (r = true → Good L) := by
  have key : ∀ d i, i + d = L.length → ∃ r, Ev (fun k => spec_Forward.l0 k L (i : Nat)) r ∧ (r = true → (L.length ≤ 60 ∧ (∀ j : Nat, j < L.length → 0 ≤ (rd_T113 L j).f1 ∧ (rd_T113 L j).f1 ≤ 255)) ∧ ∀ j : Nat, i ≤ j → j < L.length → goes L j → (j : Int) < (rd_T113 L j).f1) := by
    intro d
    induction d with
    | zero =>
      intro i hi
      obtain ⟨r, hr, hq⟩ := code_ends L h
      refine ⟨r, Ev.step (f := fun k => spec_CodeOk.f k L) (fun k => ?_) hr, fun h => ⟨hq h, fun j h1 h2 => by omega⟩⟩
      simp only [spec_Forward.l0, if_neg (show ¬ ((i : Int) < (L.length : Int)) by omega), bind_id]
    | succ d ih =>
      intro i hi
      obtain ⟨r, hr, hq⟩ := ih (i + 1) (by omega)
      obtain ⟨t, ht, gt⟩ := goes_in L i
      cases t with
      | false =>
        refine ⟨r, Ev.step (fun k => ?_) hr, fun h => ⟨(hq h).1, fun j h1 h2 h3 => ?_⟩⟩
        · simp only [spec_Forward.l0, if_pos (show (i : Int) < (L.length : Int) by omega), if_pos (show (0 : Int) ≤ (i : Int) by omega), ht, Option.bind_some, Bool.false_eq_true, if_false, wrap_succ (show i < L.length by omega) ‹_›]
        · by_cases he : j = i
          · subst he; have := gt.2 h3; cases this
          · exact (hq h).2 j (by omega) h2 h3
      | true =>
        by_cases hc : (rd_T113 L (i : Nat)).f1 ≤ (i : Int)
        · refine ⟨false, Ev.step (f := fun k => some false) (fun k => ?_) (Ev.now _), fun h => by cases h⟩
          simp only [spec_Forward.l0, if_pos (show (i : Int) < (L.length : Int) by omega), if_pos (show (0 : Int) ≤ (i : Int) by omega), ht, Option.bind_some, if_true, if_pos hc]
        · refine ⟨r, Ev.step (fun k => ?_) hr, fun h => ⟨(hq h).1, fun j h1 h2 h3 => ?_⟩⟩
          · simp only [spec_Forward.l0, if_pos (show (i : Int) < (L.length : Int) by omega), if_pos (show (0 : Int) ≤ (i : Int) by omega), ht, Option.bind_some, if_true, if_neg hc, wrap_succ (show i < L.length by omega) ‹_›]
          · by_cases he : j = i
            · subst he; omega
            · exact (hq h).2 j (by omega) h2 h3
  obtain ⟨r, h1, h2⟩ := key L.length 0 (by omega)
  exact ⟨r, h1, fun h => ⟨(h2 h).1.1, (h2 h).1.2, fun j hj => (h2 h).2 j (by omega) hj⟩⟩
theorem same (L : List S113) : ∀ k (i : Int), impl_Forward.l0 k L L (L.length : Int) i = spec_Forward.l0 k L i := by
  intro k
  induction k with
  | zero => intro i; rfl
  | succ k ih =>
    intro i
    simp only [impl_Forward.l0, spec_Forward.l0, ih, code_same]
    by_cases h1 : i < (L.length : Int)
    · simp only [if_pos h1, spec_l07Goes.f]
      by_cases h9 : (rd_T113 L i).f0 = 9
      · simp [h9]
      · by_cases h10 : (rd_T113 L i).f0 = 10
        · simp [h10]
        · simp [h9, h10]
    · simp only [if_neg h1]
theorem fwd_same (L : List S113) (k : Nat) : impl_Forward.f k L = spec_Forward.f k L := by simp only [impl_Forward.f, spec_Forward.f, same]
theorem cost_same (k : Nat) (a : Int) : impl_CostOf.f k a = spec_CostOf.f k a := by
  have h1 : ∀ k x y, impl_CostOf.j1 k x y = spec_CostOf.j1 k x y := by intro k; cases k <;> intros <;> rfl
  have h0 : ∀ k x y, impl_CostOf.j0 k x y = spec_CostOf.j0 k x y := by intro k; cases k <;> intros <;> simp [impl_CostOf.j0, spec_CostOf.j0, h1]
  simp [impl_CostOf.f, spec_CostOf.f, h0]
theorem cost_ends (a : Int) : ∃ c, Ev (fun k => spec_CostOf.f k a) c := by
  have h1 : ∀ x y, ∃ c, Ev (fun k => spec_CostOf.j1 k x y) c := by
    intro x y
    have : ∃ c, ∀ k, spec_CostOf.j1 (k + 1) x y = some c := by
      by_cases h0 : y = true
      · exact ⟨3, fun k => by simp only [spec_CostOf.j1, if_pos h0]⟩
      · by_cases h2 : x = 13
        · exact ⟨4, fun k => by simp only [spec_CostOf.j1, if_neg h0, if_pos h2]⟩
        · by_cases h3 : x = 14
          · exact ⟨4, fun k => by simp only [spec_CostOf.j1, if_neg h0, if_neg h2, if_pos h3]⟩
          · exact ⟨1, fun k => by simp only [spec_CostOf.j1, if_neg h0, if_neg h2, if_neg h3]⟩
    obtain ⟨c, hc⟩ := this
    exact ⟨c, Ev.step (f := fun _ => some c) hc (Ev.now _)⟩
  have h0 : ∀ x y, ∃ c, Ev (fun k => spec_CostOf.j0 k x y) c := by
    intro x y
    by_cases h0 : y = true
    · exact ⟨2, Ev.step (f := fun _ => some 2) (fun k => by simp only [spec_CostOf.j0, if_pos h0]) (Ev.now _)⟩
    · by_cases h2 : x = 6
      · obtain ⟨c, hc⟩ := h1 x (x == 6)
        exact ⟨c, Ev.step (fun k => by simp only [spec_CostOf.j0, if_neg h0, if_pos h2]) hc⟩
      · obtain ⟨c, hc⟩ := h1 x (x == 7)
        exact ⟨c, Ev.step (fun k => by simp only [spec_CostOf.j0, if_neg h0, if_neg h2]) hc⟩
  by_cases e2 : a = 2
  · obtain ⟨c, hc⟩ := h0 a (a == 2)
    exact ⟨c, Ev.congr (fun k => by simp only [spec_CostOf.f, if_pos e2]) hc⟩
  · by_cases e3 : a = 3
    · obtain ⟨c, hc⟩ := h0 a (a == 3)
      exact ⟨c, Ev.congr (fun k => by simp only [spec_CostOf.f, if_neg e2, if_pos e3]) hc⟩
    · by_cases e5 : a = 15
      · obtain ⟨c, hc⟩ := h0 a (a == 15)
        exact ⟨c, Ev.congr (fun k => by simp only [spec_CostOf.f, if_neg e2, if_neg e3, if_pos e5]) hc⟩
      · obtain ⟨c, hc⟩ := h0 a (a == 16)
        exact ⟨c, Ev.congr (fun k => by simp only [spec_CostOf.f, if_neg e2, if_neg e3, if_neg e5]) hc⟩
theorem rd_set (X : List Int) (i j : Nat) (v : Int) (hi : i < X.length) : rd (X.set i v) (j : Nat) = if i = j then v else rd X (j : Nat) := by
  unfold rd
  rw [Int.toNat_natCast]
  simp only [List.getD_eq_getElem?_getD, List.getElem?_set]
  by_cases h : i = j
  · subst h; simp [hi]
  · simp [h]
structure Agree (L : List S113) (X Y : List Int) : Prop where
  lx : X.length = L.length + 1
  ly : Y.length = 257
  eq : ∀ j : Nat, j ≤ L.length → rd X (j : Nat) = rd Y (j : Nat)
  zero : ∀ j : Nat, L.length ≤ j → rd Y (j : Nat) = 0
theorem Agree.set {L : List S113} {X Y : List Int} (h : Agree L X Y) (hl : L.length ≤ 60) (i : Nat) (hi : i < L.length) (v : Int) : Agree L (X.set i v) (Y.set i v) := by
  refine ⟨by simp [h.lx], by simp [h.ly], fun j hj => ?_, fun j hj => ?_⟩
  · rw [rd_set _ _ _ _ (by rw [h.lx]; omega), rd_set _ _ _ _ (by rw [h.ly]; omega), h.eq j hj]
  · rw [rd_set _ _ _ _ (by rw [h.ly]; omega), if_neg (by omega), h.zero j hj]
theorem both (L : List S113) (hg : Good L) : ∀ i : Nat, i ≤ L.length → ∀ X Y, Agree L X Y → ∃ r, Ev (fun k => spec_WorstCost.l0 k L X ((i : Int) - 1)) r ∧ Ev (fun k => impl_WorstCost.l0 k L Y ((i : Int) - 1)) r := by
  obtain ⟨h60, hcode, hfwd⟩ := hg
  intro i
  induction i with
  | zero =>
    intro _ X Y hA
    have h0 : rd X 0 = rd Y 0 := hA.eq 0 (by omega)
    refine ⟨(rd X 0, true), Ev.step (f := fun _ => some (rd X 0, true)) (fun k => ?_) (Ev.now _), Ev.step (f := fun _ => some (rd X 0, true)) (fun k => ?_) (Ev.now _)⟩
    · simp only [spec_WorstCost.l0, if_neg (show ¬ (((0 : Nat) : Int) - 1 ≥ 0) by omega), if_pos (show (0 : Int) < (X.length : Int) by rw [hA.lx]; omega)]
    · simp only [impl_WorstCost.l0, if_neg (show ¬ (((0 : Nat) : Int) - 1 ≥ 0) by omega), if_pos (show (0 : Int) < (Y.length : Int) by rw [hA.ly]; omega), h0]
  | succ i ih =>
    intro hi X Y hA
    have e1 : (((i + 1 : Nat) : Int) - 1) = (i : Int) := by omega
    have e2 : wrap64 ((i : Int) - 1) = (i : Int) - 1 := wrap_id (by omega) (by omega)
    have e3 : wrap64 ((i : Int) + 1) = ((i + 1 : Nat) : Int) := wrap_succ (show i < L.length by omega) (by omega)
    obtain ⟨c, hc⟩ := cost_ends (rd_T113 L (i : Nat)).f0
    have hci : Ev (fun k => impl_CostOf.f k (rd_T113 L (i : Nat)).f0) c := Ev.congr (fun k => cost_same k _) hc
    have hX := hA.lx
    have hY := hA.ly
    have hn := hA.eq (i + 1) (by omega)
    obtain ⟨t, ht, gt⟩ := goes_in L i
    have go : ∀ v, ∃ r, Ev (fun k => spec_WorstCost.l0 k L (X.set i v) ((i : Int) - 1)) r ∧ Ev (fun k => impl_WorstCost.l0 k L (Y.set i v) ((i : Int) - 1)) r := fun v => ih (by omega) _ _ (hA.set h60 i (by omega) v)
    rw [e1]
    have p1 : (i : Int) ≥ 0 := by omega
    have p2 : (0 : Int) ≤ (i : Int) := by omega
    have p3 : (i : Int) < (L.length : Int) := by omega
    have p4 : (0 : Int) ≤ ((i + 1 : Nat) : Int) := by omega
    have p5 : ((i + 1 : Nat) : Int) < (X.length : Int) := by omega
    have p6 : ((i + 1 : Nat) : Int) < (Y.length : Int) := by omega
    have p7 : (i : Int) < (X.length : Int) := by omega
    have p8 : (i : Int) < (Y.length : Int) := by omega
    by_cases hgo : goes L i
    · have ht1 : t = true := gt.2 hgo
      subst ht1
      obtain ⟨m, hm⟩ : ∃ m : Nat, (rd_T113 L (i : Nat)).f1 = (m : Int) := ⟨(rd_T113 L (i : Nat)).f1.toNat, by have := hcode i (by omega); omega⟩
      have hm1 := hcode i (by omega)
      have hm2 := hfwd i (by omega) hgo
      rw [hm] at hm1 hm2
      have p9 : (0 : Int) ≤ (m : Int) := by omega
      have p10 : (m : Int) < (Y.length : Int) := by omega
      -- what the target holds
      obtain ⟨y, hy, hs⟩ : ∃ y, rd Y (m : Nat) = y ∧ ∀ k, spec_WorstCost.l0 (k + 1) L X (i : Nat) = spec_WorstCost.j1 k L X (i : Nat) (rd X ((i + 1 : Nat) : Int)) y (rd_T113 L (i : Nat)).f0 (m : Int) := by
        by_cases hin : (m : Int) < (L.length : Int)
        · refine ⟨_, rfl, fun k => ?_⟩
          simp only [spec_WorstCost.l0, if_pos p1, if_pos p2, if_pos p3, e3, if_pos p4, if_pos p5, hm ▸ ht, hm, Option.bind_some, if_true, if_pos hin, if_pos p9, if_pos (show (m : Int) < (X.length : Int) by omega), hA.eq m (by omega)]
        · refine ⟨_, rfl, fun k => ?_⟩
          simp only [spec_WorstCost.l0, if_pos p1, if_pos p2, if_pos p3, e3, if_pos p4, if_pos p5, hm ▸ ht, hm, Option.bind_some, if_true, if_neg hin, hA.zero m (by omega)]
      rcases hgo with h9 | h10
      · obtain ⟨r, h1, h2⟩ := go (wrap64 (c + y))
        refine ⟨r, Ev.step hs (Ev.step (f := fun k => spec_WorstCost.j2 k L X (i : Nat) (rd X ((i + 1 : Nat) : Int)) y true (rd_T113 L (i : Nat)).f0 (m : Int)) (fun k => ?_) (Ev.step (fun k => ?_) (Ev.bind (f := fun k t122 => spec_WorstCost.l0 k L (X.set i (wrap64 (t122 + y))) ((i : Int) - 1)) hc h1))), Ev.step (fun k => ?_) (Ev.bind (f := fun k t160 => impl_WorstCost.l0 k L (Y.set i (wrap64 (t160 + y))) ((i : Int) - 1)) hci h2)⟩
        · simp only [spec_WorstCost.j1, if_pos h9]
        · simp only [spec_WorstCost.j2, if_true, if_neg (show ¬ (rd_T113 L (i : Nat)).f0 = 0 by omega), if_pos p2, if_pos p7, e2, Int.toNat_natCast]
        · simp only [impl_WorstCost.l0, if_pos p1, if_pos p2, if_pos p3, e3, e2, if_pos p4, if_pos p6, if_neg (show ¬ (rd_T113 L (i : Nat)).f0 = 0 by omega), if_pos h9, hm, if_pos p9, if_pos p10, if_pos p8, hy, Int.toNat_natCast]
      · by_cases hlt : rd X ((i + 1 : Nat) : Int) < y
        · obtain ⟨r, h1, h2⟩ := go (wrap64 (c + y))
          refine ⟨r, Ev.step hs (Ev.step (f := fun k => spec_WorstCost.j2 k L X (i : Nat) (rd X ((i + 1 : Nat) : Int)) y true (rd_T113 L (i : Nat)).f0 (m : Int)) (fun k => ?_) (Ev.step (fun k => ?_) (Ev.bind (f := fun k t122 => spec_WorstCost.l0 k L (X.set i (wrap64 (t122 + y))) ((i : Int) - 1)) hc h1))), Ev.step (fun k => ?_) (Ev.bind (f := fun k t160 => impl_WorstCost.l0 k L (Y.set i (wrap64 (t160 + y))) ((i : Int) - 1)) hci h2)⟩
          · simp only [spec_WorstCost.j1, if_neg (show ¬ (rd_T113 L (i : Nat)).f0 = 9 by omega), show decide (y > rd X ((i + 1 : Nat) : Int)) = true from decide_eq_true hlt]
          · simp only [spec_WorstCost.j2, if_true, if_neg (show ¬ (rd_T113 L (i : Nat)).f0 = 0 by omega), if_pos p2, if_pos p7, e2, Int.toNat_natCast]
          · simp only [impl_WorstCost.l0, if_pos p1, if_pos p2, if_pos p3, e3, e2, if_pos p4, if_pos p6, if_neg (show ¬ (rd_T113 L (i : Nat)).f0 = 0 by omega), if_neg (show ¬ (rd_T113 L (i : Nat)).f0 = 9 by omega), if_pos h10, hm, if_pos p9, if_pos p10, if_pos p8, hy, mx, ← hn, if_pos hlt, Int.toNat_natCast]
        · obtain ⟨r, h1, h2⟩ := go (wrap64 (c + rd X ((i + 1 : Nat) : Int)))
          refine ⟨r, Ev.step hs (Ev.step (f := fun k => spec_WorstCost.j2 k L X (i : Nat) (rd X ((i + 1 : Nat) : Int)) y false (rd_T113 L (i : Nat)).f0 (m : Int)) (fun k => ?_) (Ev.step (fun k => ?_) (Ev.bind (f := fun k t122 => spec_WorstCost.l0 k L (X.set i (wrap64 (t122 + rd X ((i + 1 : Nat) : Int)))) ((i : Int) - 1)) hc h1))), Ev.step (fun k => ?_) (Ev.bind (f := fun k t160 => impl_WorstCost.l0 k L (Y.set i (wrap64 (t160 + rd X ((i + 1 : Nat) : Int)))) ((i : Int) - 1)) hci h2)⟩
          · simp only [spec_WorstCost.j1, if_neg (show ¬ (rd_T113 L (i : Nat)).f0 = 9 by omega), show decide (y > rd X ((i + 1 : Nat) : Int)) = false from decide_eq_false hlt]
          · simp only [spec_WorstCost.j2, Bool.false_eq_true, if_false, if_neg (show ¬ (rd_T113 L (i : Nat)).f0 = 0 by omega), if_pos p2, if_pos p7, e2, Int.toNat_natCast]
          · simp only [impl_WorstCost.l0, if_pos p1, if_pos p2, if_pos p3, e3, e2, if_pos p4, if_pos p6, if_neg (show ¬ (rd_T113 L (i : Nat)).f0 = 0 by omega), if_neg (show ¬ (rd_T113 L (i : Nat)).f0 = 9 by omega), if_pos h10, hm, if_pos p9, if_pos p10, if_pos p8, hy, mx, ← hn, if_neg hlt, Int.toNat_natCast]
    · have ht1 : t = false := by cases t with | true => exact absurd (gt.1 rfl) hgo | false => rfl
      subst ht1
      have n9 : ¬ (rd_T113 L (i : Nat)).f0 = 9 := fun h => hgo (Or.inl h)
      have n10 : ¬ (rd_T113 L (i : Nat)).f0 = 10 := fun h => hgo (Or.inr h)
      by_cases h0 : (rd_T113 L (i : Nat)).f0 = 0
      · obtain ⟨r, h1, h2⟩ := go (wrap64 (c + 0))
        refine ⟨r, Ev.step (fun k => ?_) (Ev.bind (f := fun k t => spec_WorstCost.l0 k L (X.set i (wrap64 (t + 0))) ((i : Int) - 1)) hc h1), Ev.step (fun k => ?_) (Ev.bind (f := fun k t => impl_WorstCost.l0 k L (Y.set i (wrap64 (t + 0))) ((i : Int) - 1)) hci h2)⟩
        · simp only [spec_WorstCost.l0, if_pos p1, if_pos p2, if_pos p3, e3, e2, if_pos p4, if_pos p5, ht, Option.bind_some, Bool.false_eq_true, if_false, if_pos h0, if_pos p7, Int.toNat_natCast]
        · simp only [impl_WorstCost.l0, if_pos p1, if_pos p2, if_pos p3, e3, e2, if_pos p4, if_pos p6, if_pos h0, if_pos p8, Int.toNat_natCast]
      · obtain ⟨r, h1, h2⟩ := go (wrap64 (c + rd X ((i + 1 : Nat) : Int)))
        refine ⟨r, Ev.step (fun k => ?_) (Ev.bind (f := fun k t => spec_WorstCost.l0 k L (X.set i (wrap64 (t + rd X ((i + 1 : Nat) : Int)))) ((i : Int) - 1)) hc h1), Ev.step (fun k => ?_) (Ev.bind (f := fun k t => impl_WorstCost.l0 k L (Y.set i (wrap64 (t + rd X ((i + 1 : Nat) : Int)))) ((i : Int) - 1)) hci h2)⟩
        · simp only [spec_WorstCost.l0, if_pos p1, if_pos p2, if_pos p3, e3, e2, if_pos p4, if_pos p5, ht, Option.bind_some, Bool.false_eq_true, if_false, if_neg h0, if_pos p7, Int.toNat_natCast]
        · simp only [impl_WorstCost.l0, if_pos p1, if_pos p2, if_pos p3, e3, e2, if_pos p4, if_pos p6, if_neg h0, if_neg n9, if_neg n10, if_pos p8, ← hn, Int.toNat_natCast]
theorem rd_zeros (n j : Nat) : rd (List.replicate n 0) (j : Nat) = 0 := by
  unfold rd
  simp only [Int.toNat_natCast, List.getD_eq_getElem?_getD, List.getElem?_replicate]
  split <;> rfl
theorem ends (L : List S113) (h : L.length ≤ 1048576) : ∃ r, Ev (fun k => spec_WorstCost.f k L) r ∧ Ev (fun k => impl_WorstCost.f k L) r := by
  obtain ⟨t, ht, gt⟩ := fwd_ends L h
  have hti : Ev (fun k => impl_Forward.f k L) t := Ev.congr (fun k => fwd_same L k) ht
  cases t with
  | false =>
    refine ⟨(0, false), Ev.congr (g := fun k => spec_WorstCost.f k L) (fun k => rfl) (Ev.bind ht ?_), Ev.congr (g := fun k => impl_WorstCost.f k L) (fun k => rfl) (Ev.bind hti ?_)⟩
    · exact Ev.now _
    · exact Ev.now _
  | true =>
    have hg := gt rfl
    have h60 := hg.1
    have e1 : wrap64 ((L.length : Int) + 1) = ((L.length + 1 : Nat) : Int) := by rw [wrap_id (by omega) (by omega)]; omega
    have e2 : wrap64 ((L.length : Int) - 1) = (L.length : Int) - 1 := wrap_id (by omega) (by omega)
    obtain ⟨r, h1, h2⟩ := both L hg L.length (by omega) (List.replicate (L.length + 1) 0) (List.replicate 257 0) ⟨List.length_replicate .., List.length_replicate .., fun j hj => by rw [rd_zeros, rd_zeros], fun j hj => rd_zeros _ _⟩
    refine ⟨r, Ev.congr (g := fun k => spec_WorstCost.f k L) (fun k => rfl) (Ev.bind ht (Ev.congr (fun k => ?_) h1)), Ev.congr (g := fun k => impl_WorstCost.f k L) (fun k => rfl) (Ev.bind hti (Ev.congr (fun k => ?_) h2))⟩
    · simp only [if_true, e1, e2, if_pos (show (0 : Int) ≤ ((L.length + 1 : Nat) : Int) by omega), Int.toNat_natCast, if_pos (show L.length + 1 ≤ 35184372088832 by omega)]
    · simp only [if_true, e2, if_pos (show 257 ≤ 35184372088832 by omega)]
theorem FnExactWorstCost : ∀ (x0 : (List S117)), ((∀ y, y ∈ x0 → ((Lit.int .i64 y.f0).wf = true) ∧ ((Lit.int .i64 y.f1).wf = true)) ∧ x0.length ≤ maxLen) → ∃ k, laws_FnExactWorstCost.f k x0 = some true := by
  intro x0 G0
  obtain ⟨_, hl⟩ := G0
  by_cases h : x0.length ≤ 1048576
  · obtain ⟨L, hL, hto⟩ := to_list x0 h
    have heq := eq_list L (by omega)
    obtain ⟨r, hs, hi⟩ := ends L (by omega)
    obtain ⟨K1, h1⟩ := hto
    obtain ⟨K2, h2⟩ := heq
    obtain ⟨K3, h3⟩ := hs
    obtain ⟨K4, h4⟩ := hi
    obtain ⟨K, hK⟩ : ∃ K, K = max (max K1 K2) (max K3 K4) := ⟨_, rfl⟩
    refine ⟨K + 1, ?_⟩
    simp only [laws_FnExactWorstCost.f, sz_big x0 hl, if_pos h, Option.bind_some, if_neg (show ¬ ((1048576 : Int) - (x0.length : Int) < 0) by omega), h1 _ (show K1 ≤ K + 1 by omega), h3 _ (show K3 ≤ K + 1 by omega), h4 _ (show K4 ≤ K + 1 by omega), if_true, laws_FnExactWorstCost.j0, bne_self_eq_false, Bool.false_eq_true, if_false, h1 _ (show K1 ≤ K by omega), h2 _ (show K2 ≤ K by omega)]
  · refine ⟨0, ?_⟩
    simp only [laws_FnExactWorstCost.f, sz_big x0 hl, if_neg h, Option.bind_some]
    rfl

end Go.Proofs.Ytgihjaonapngdaa.Pure
