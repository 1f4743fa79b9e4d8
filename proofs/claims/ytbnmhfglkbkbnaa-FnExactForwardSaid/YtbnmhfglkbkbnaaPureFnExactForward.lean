/- The pure statement of FnExactForward: both tell the same of every code. No condition. -/
import Derived.Test.YtbnmhfglkbkbnaaPFnExactForwardx2
namespace Go.Proofs.Ytbnmhfglkbkbnaa.Pure
open Go.RowKit Go.Proofs.Ytbnmhfglkbkbnaa.PFnExactForward Go.Proofs.YtbnmhfglkbkbnaaW.PrintWords Go.Proofs.YtbnmhfglkbkbnaaW.PrintLast
set_option linter.unusedVariables false
set_option linter.unusedSimpArgs false
theorem wrap_id {n : Int} (h0 : -9223372036854775808 ≤ n) (h1 : n ≤ 9223372036854775807) : wrap64 n = n := by unfold wrap64; omega
theorem wrap_succ {i n : Nat} (h : i < n) (hn : n ≤ 1048576) : wrap64 ((i : Int) + 1) = ((i + 1 : Nat) : Int) := by rw [wrap_id (by omega) (by omega)]; omega
theorem ev_now {α : Type} {g : Nat → Option α} {r : α} (h : ∀ k, g k = some r) : Ev g r := ⟨0, fun k _ => h k⟩
theorem ev_all {α : Type} {g : Nat → Option α} {r : α} (h : Ev g r) : ∃ K, ∀ k, K ≤ k → g k = some r := h
theorem sz_big (l : List S109) (h : l.length ≤ maxLen) : laws_szInstrS.f l 1048576 = some (if l.length ≤ 1048576 then 1048576 - (l.length : Int) else -1) := by
  unfold laws_szInstrS.f
  simp only [maxLen] at h
  rw [wrap_id (by omega) (by omega)]
  by_cases hl : l.length ≤ 1048576
  · rw [if_neg (by omega), if_pos hl]
  · rw [if_pos (by omega), if_neg hl]
theorem to_list (l : List S109) (h : l.length ≤ 1048576) : ∃ L : List S93, L.length = l.length ∧ Ev (fun k => laws_toInstrS.f k l) L := by
  have key : ∀ d i (acc : List S93), acc.length = l.length → i + d = l.length → ∃ L : List S93, L.length = l.length ∧ Ev (fun k => laws_toInstrS.l0 k l acc (i : Nat)) L := by
    intro d
    induction d with
    | zero =>
      intro i acc ha hi
      refine ⟨acc, ha, Ev.step (f := fun k => some acc) (fun k => ?_) (Ev.now _)⟩
      simp only [laws_toInstrS.l0, if_neg (show ¬ ((i : Int) < (l.length : Int)) by omega)]
    | succ d ih =>
      intro i acc ha hi
      obtain ⟨L, hL, hE⟩ := ih (i + 1) (acc.set i ⟨(rd_T109 l (i : Nat)).f0, (rd_T109 l (i : Nat)).f1⟩) (by simp [ha]) (by omega)
      refine ⟨L, hL, Ev.step (fun k => ?_) hE⟩
      simp only [laws_toInstrS.l0, if_pos (show (i : Int) < (l.length : Int) by omega), if_pos (show (0 : Int) ≤ (i : Int) by omega), if_pos (show (i : Int) < (acc.length : Int) by omega), laws_toInstr.f, Option.bind_some, wrap_succ (show i < l.length by omega) h, Int.toNat_natCast]
  obtain ⟨L, hL, hE⟩ := key l.length 0 (List.replicate l.length z93) (by simp) (by omega)
  refine ⟨L, hL, Ev.congr (fun k => ?_) hE⟩
  simp only [laws_toInstrS.f, if_pos (show (0 : Int) ≤ (l.length : Int) by omega), Int.toNat_natCast, if_pos (show l.length ≤ 17592186044416 by omega)]
  rfl
theorem eq_list (L : List S93) (h : L.length ≤ 1048576) : Ev (fun k => laws_eqInstrS.f k L L) true := by
  have key : ∀ d i, i + d = L.length → Ev (fun k => laws_eqInstrS.l0 k L L (i : Nat)) true := by
    intro d
    induction d with
    | zero =>
      intro i hi
      refine Ev.step (f := fun k => some true) (fun k => ?_) (Ev.now _)
      simp only [laws_eqInstrS.l0, if_neg (show ¬ ((i : Int) < (L.length : Int)) by omega)]
    | succ d ih =>
      intro i hi
      refine Ev.step (fun k => ?_) (ih (i + 1) (by omega))
      simp only [laws_eqInstrS.l0, if_pos (show (i : Int) < (L.length : Int) by omega), if_pos (show (0 : Int) ≤ (i : Int) by omega), laws_eqInstr.f, if_true, Option.bind_some, wrap_succ (show i < L.length by omega) h]
  refine Ev.congr (fun k => ?_) (key L.length 0 (by omega))
  simp only [laws_eqInstrS.f, if_true]
  rfl

theorem ok_some (a b c : Int) : ∃ t, spec_l01In.f a b c = some t := by unfold spec_l01In.f; split <;> exact ⟨_, rfl⟩
theorem goes_some (a b : Int) : ∃ t, spec_l07Goes.f a b = some t := by unfold spec_l07Goes.f; split <;> exact ⟨_, rfl⟩
theorem code_ends (L : List S93) (h : L.length ≤ 1048576) : ∃ r, Ev (fun k => spec_CodeOk.f k L) r := by
  have key : ∀ d i, i + d = L.length → ∃ r, Ev (fun k => spec_CodeOk.l0 k L (i : Nat)) r := by
    intro d
    induction d with
    | zero =>
      intro i hi
      refine ⟨_, Ev.step (f := fun k => some (decide ((L.length : Int) ≤ 60))) (fun k => ?_) (Ev.now _)⟩
      simp only [spec_CodeOk.l0, if_neg (show ¬ ((i : Int) < (L.length : Int)) by omega)]
    | succ d ih =>
      intro i hi
      obtain ⟨r, hr⟩ := ih (i + 1) (by omega)
      obtain ⟨t, ht⟩ := ok_some (rd_T93 L (i : Nat)).f0 0 255
      obtain ⟨u, hu⟩ := ok_some (rd_T93 L (i : Nat)).f1 0 255
      cases t with
      | false =>
        refine ⟨false, Ev.step (f := fun k => some false) (fun k => ?_) (Ev.now _)⟩
        simp only [spec_CodeOk.l0, if_pos (show (i : Int) < (L.length : Int) by omega), if_pos (show (0 : Int) ≤ (i : Int) by omega), ht, Option.bind_some, Bool.false_eq_true, if_false]
      | true =>
        cases u with
        | false =>
          refine ⟨false, Ev.step (f := fun k => some false) (fun k => ?_) (Ev.now _)⟩
          simp only [spec_CodeOk.l0, if_pos (show (i : Int) < (L.length : Int) by omega), if_pos (show (0 : Int) ≤ (i : Int) by omega), ht, hu, Option.bind_some, if_true, Bool.false_eq_true, if_false]
        | true =>
          refine ⟨r, Ev.step (fun k => ?_) hr⟩
          simp only [spec_CodeOk.l0, if_pos (show (i : Int) < (L.length : Int) by omega), if_pos (show (0 : Int) ≤ (i : Int) by omega), ht, hu, Option.bind_some, if_true, wrap_succ (show i < L.length by omega) h]
  exact key L.length 0 (by omega)
theorem within_same (a b c : Int) : impl_within.f a b c = spec_l01In.f a b c := rfl
theorem bind_id {α : Type} (o : Option α) : (o.bind fun t => some t) = o := by cases o <;> rfl

theorem same_code (L : List S93) : ∀ k (i : Int), impl_CodeOk.l0 k L L (L.length : Int) i = spec_CodeOk.l0 k L i := by
  intro k
  induction k with
  | zero => intro i; rfl
  | succ k ih =>
    intro i
    simp only [impl_CodeOk.l0, spec_CodeOk.l0, ih, within_same]
    by_cases h1 : i < (L.length : Int)
    · simp only [if_pos h1]
    · simp only [if_neg h1]

theorem code_same (L : List S93) (k : Nat) : impl_CodeOk.f k L = spec_CodeOk.f k L := by simp only [impl_CodeOk.f, spec_CodeOk.f, same_code]
theorem spec_ends (L : List S93) (h : L.length ≤ 1048576) : ∃ r, Ev (fun k => spec_Forward.f k L) r := by
  have key : ∀ d i, i + d = L.length → ∃ r, Ev (fun k => spec_Forward.l0 k L (i : Nat)) r := by
    intro d
    induction d with
    | zero =>
      intro i hi
      obtain ⟨r, hr⟩ := code_ends L h
      refine ⟨r, Ev.step (f := fun k => spec_CodeOk.f k L) (fun k => ?_) hr⟩
      simp only [spec_Forward.l0, if_neg (show ¬ ((i : Int) < (L.length : Int)) by omega), bind_id]
    | succ d ih =>
      intro i hi
      obtain ⟨r, hr⟩ := ih (i + 1) (by omega)
      obtain ⟨t, ht⟩ := goes_some (rd_T93 L (i : Nat)).f0 (rd_T93 L (i : Nat)).f1
      cases t with
      | false =>
        refine ⟨r, Ev.step (fun k => ?_) hr⟩
        simp only [spec_Forward.l0, if_pos (show (i : Int) < (L.length : Int) by omega), if_pos (show (0 : Int) ≤ (i : Int) by omega), ht, Option.bind_some, Bool.false_eq_true, if_false, wrap_succ (show i < L.length by omega) h]
      | true =>
        by_cases hc : (rd_T93 L (i : Nat)).f1 ≤ (i : Int)
        · refine ⟨false, Ev.step (f := fun k => some false) (fun k => ?_) (Ev.now _)⟩
          simp only [spec_Forward.l0, if_pos (show (i : Int) < (L.length : Int) by omega), if_pos (show (0 : Int) ≤ (i : Int) by omega), ht, Option.bind_some, if_true, if_pos hc]
        · refine ⟨r, Ev.step (fun k => ?_) hr⟩
          simp only [spec_Forward.l0, if_pos (show (i : Int) < (L.length : Int) by omega), if_pos (show (0 : Int) ≤ (i : Int) by omega), ht, Option.bind_some, if_true, if_neg hc, wrap_succ (show i < L.length by omega) h]
  exact key L.length 0 (by omega)
theorem same (L : List S93) : ∀ k (i : Int), impl_Forward.l0 k L L (L.length : Int) i = spec_Forward.l0 k L i := by
  intro k
  induction k with
  | zero => intro i; rfl
  | succ k ih =>
    intro i
    simp only [impl_Forward.l0, spec_Forward.l0, ih, code_same]
    by_cases h1 : i < (L.length : Int)
    · simp only [if_pos h1, spec_l07Goes.f]
      by_cases h9 : (rd_T93 L i).f0 = 9
      · simp [h9]
      · by_cases h10 : (rd_T93 L i).f0 = 10
        · simp [h10]
        · simp [h9, h10]
    · simp only [if_neg h1]
theorem impl_ev (L : List S93) (h : L.length ≤ 1048576) {r : Bool} (hs : Ev (fun k => spec_Forward.f k L) r) : Ev (fun k => impl_Forward.f k L) r :=
  Ev.congr (fun k => by simp only [impl_Forward.f, spec_Forward.f, same]) hs

theorem FnExactForward : ∀ (x0 : (List S109)), ((∀ y, y ∈ x0 → ((Lit.int .i64 y.f0).wf = true) ∧ ((Lit.int .i64 y.f1).wf = true)) ∧ x0.length ≤ maxLen) → ∃ k, laws_FnExactForward.f k x0 = some true := by
  intro x0 G0
  obtain ⟨_, hl⟩ := G0
  by_cases h : x0.length ≤ 1048576
  · obtain ⟨L, hL, hto⟩ := to_list x0 h
    have heq := eq_list L (by omega)
    obtain ⟨r, hs⟩ := spec_ends L (by omega)
    have hi := impl_ev L (by omega) hs
    obtain ⟨K1, h1⟩ := hto
    obtain ⟨K2, h2⟩ := heq
    obtain ⟨K3, h3⟩ := hs
    obtain ⟨K4, h4⟩ := hi
    refine ⟨max (max K1 K2) (max K3 K4), ?_⟩
    simp only [laws_FnExactForward.f, sz_big x0 hl, if_pos h, Option.bind_some, if_neg (show ¬ ((1048576 : Int) - (x0.length : Int) < 0) by omega), h1 _ (show K1 ≤ max (max K1 K2) (max K3 K4) by omega), h2 _ (show K2 ≤ max (max K1 K2) (max K3 K4) by omega), h3 _ (show K3 ≤ max (max K1 K2) (max K3 K4) by omega), h4 _ (show K4 ≤ max (max K1 K2) (max K3 K4) by omega)]
    simp
  · refine ⟨0, ?_⟩
    simp only [laws_FnExactForward.f, sz_big x0 hl, if_neg h, Option.bind_some]
    rfl
end Go.Proofs.Ytbnmhfglkbkbnaa.Pure
