/- The abstract machine's state and the frame's; regions of one order. Plain lemmas; no condition. -/
import Derived.Test.YthncjcfnpfajaaaAbE
import Derived.Orders
import Derived.LoopN
namespace Go.Proofs.YthncjcfnpfajaaaA
open Go Go.RowKit Go.Proofs.YthncjcfnpfajaaaW.PrintWords
set_option linter.unusedVariables false
set_option linter.unusedSimpArgs false

theorem put_getD {a : Act} {d t : Tmp} {v : Value} : (a.put (some d) v).tmps.getD t undef = if t = d ∧ d < a.tmps.size then v else a.tmps.getD t undef := by
 simp only [Act.put]
 by_cases h : t = d
 ·subst h
  by_cases hs : t < a.tmps.size <;> simp [Array.getD, hs]
 ·have h' : ¬ d = t := fun x => h x.symm
  simp [Array.getD_eq_getD_getElem?, Array.getElem?_setIfInBounds, h, h']
theorem put_size {a : Act} {d : Option Tmp} {v : Value} : (a.put d v).tmps.size = a.tmps.size := by cases d <;> simp [Act.put]
theorem put_defers {a : Act} {d : Option Tmp} {v : Value} : (a.put d v).defers = a.defers := by cases d <;> rfl
def dstB (l : List Oper) (i : Nat) : Option Tmp := l[i]?.bind (·.dst)
theorem yielded_of {l : List Oper} {tmps : Array Value} {j d : Nat} {b : Bool} (hd : dstB l j = some d) (h : tmps.getD d undef = .bool b) : yielded l.toArray tmps j = some b := by
 have hd' : (l.toArray[j]?).bind (·.dst) = some d := by simpa [dstB] using hd
 unfold yielded
 rw [hd']
 have : tmps[d]? = some (.bool b) := by
  rw [Array.getD_eq_getD_getElem?] at h
  cases ht : tmps[d]? with
  | none => rw [ht] at h; cases h
  | some v => rw [ht] at h; exact congrArg some h
 simp [this]
theorem wanted_eq {l : List Oper} {tmps : Array Value} {o : Oper} {j d : Nat} {b c : Bool} (hg : o.guard = some (j, b)) (hd : dstB l j = some d) (h : tmps.getD d undef = .bool c) : Region.wanted o (yielded l.toArray tmps) = (c == b) := by
 simp [Region.wanted, hg, yielded_of hd h]
theorem wanted_undef {l : List Oper} {tmps : Array Value} {o : Oper} {j d : Nat} {b : Bool} (hg : o.guard = some (j, b)) (hd : dstB l j = some d) (h : tmps.getD d undef = undef) : Region.wanted o (yielded l.toArray tmps) = false := by
 have hd' : (l.toArray[j]?).bind (·.dst) = some d := by simpa [dstB] using hd
 have hy : yielded l.toArray tmps j = none := by
  unfold yielded
  rw [hd', Option.bind_some]
  rw [Array.getD_eq_getD_getElem?] at h
  cases ht : tmps[d]? with
  | none => rfl
  | some v =>
   rw [ht] at h
   obtain rfl : v = undef := h
   rfl
 simp [Region.wanted, hg, hy]
/-- The slots that are known. -/
def SlOk (s : Sl) (a : Act) (ρ : Nat → Hd) (live : Nat → Prop) : Prop := ∀ q v, get s q = some v → a.tmps.getD q undef = v.val ρ ∧ v.In live ρ
section
variable {P : Program} {w w1 : World} {ok live live' : Nat → Prop} {b : Nat} {o : Oper} {a : Act} {ρ ρ' : Nat → Hd} {s : Sl} {C : Ctx}
theorem SlOk.mono (h : SlOk s a ρ live) (hl : ∀ i, live i → live' i) (hρ : ∀ i, live i → ρ' i = ρ i) : SlOk s a ρ' live' := fun q v hv => by
 obtain ⟨h1, h2⟩ := h q v hv
 exact ⟨by rw [SV.val_eq hρ h2]; exact h1, h2.mono hl hρ⟩
theorem SlOk.lit {q : Nat} {t : Bool} (h : SlOk s a ρ live) (hq : a.tmps.getD q undef = .bool t) : SlOk ((q, lf (.lit t)) :: s) a ρ live := fun q' v hv => by
 rw [get_cons] at hv
 by_cases hi : q' = q
 ·rw [if_pos hi] at hv
  injection hv with hv
  subst hv; subst hi
  exact ⟨hq, lf_in (in_none rfl)⟩
 ·rw [if_neg hi] at hv
  exact h q' v hv
theorem SlOk.put {d : Option Nat} {v : SV} (h : SlOk s a ρ live) (hd : ∀ q, d = some q → q < a.tmps.size) (hv : v.In live ρ) : SlOk (putS s d v) (a.put d (v.val ρ)) ρ live := by
 cases d with
 | none => exact h
 | some q =>
  intro q' v' hv'
  rw [put_getD]
  unfold putS at hv'
  rw [get_cons] at hv'
  by_cases hi : q' = q
  ·rw [if_pos hi] at hv'
   injection hv' with hv'
   subst hv'
   rw [if_pos ⟨hi, hd q rfl⟩]
   exact ⟨rfl, hv⟩
  ·rw [if_neg hi] at hv'
   rw [if_neg (fun e => hi e.1)]
   exact h q' v' hv'
theorem SlOk.evs (h : SlOk s a ρ live) (o : Oper) : EvsOk s o a ρ live := by
 intro x _ v hv
 cases x with
 | tmp t => exact h t v hv
 | const c =>
  simp only [ev] at hv
  obtain ⟨c', hc, rfl⟩ := Option.map_eq_some_iff.1 hv
  have key : ∀ (xs : List Value) (ls : List Leaf), constLs xs = some ls → vals ρ ls = xs ∧ LsIn live ρ ls := by
   intro xs
   induction xs with
   | nil => intro ls h; injection h with h; subst h; exact ⟨rfl, (fun _ h => by cases h)⟩
   | cons x xs ih =>
    intro ls h
    have one : ∀ l : Leaf, l.ref = none → l.val ρ = x → (constLs xs).map (l :: ·) = some ls → vals ρ ls = x :: xs ∧ LsIn live ρ ls := by
     intro l hr hv h
     obtain ⟨ls', h1, rfl⟩ := Option.map_eq_some_iff.1 h
     obtain ⟨i1, i2⟩ := ih ls' h1
     refine ⟨by rw [vals_cons, i1, hv], fun l' hl => ?_⟩
     rcases List.mem_cons.1 hl with rfl | hl
     ·exact in_none hr
     ·exact i2 l' hl
    cases x with
    | int k z => exact one (.int k z) rfl rfl h
    | bool b => exact one (.lit b) rfl rfl h
    | string t => exact one (.str t) rfl rfl h
    | slice A n c => cases A <;> cases n <;> cases c <;> first | exact one .nil rfl rfl h | cases h
    | _ => cases h
  unfold constV at hc
  split at hc <;> first
   | (injection hc with hc; subst hc; exact ⟨rfl, lf_in (in_none rfl)⟩)
   | (obtain ⟨ls, h1, rfl⟩ := Option.map_eq_some_iff.1 hc; obtain ⟨i1, i2⟩ := key _ _ h1; exact ⟨by show Value.agg _ = Value.agg _; rw [i1], i2⟩)
   | cases hc
 | _ => cases hv
/-- A guard. -/
theorem wantA_ok {R : Type} {l : List Oper} {yes no : Sl → Option R} {r : R} (hs : SlOk s a ρ live) (h : wantA l s o yes no = some r) :
  (∃ s', yes s' = some r ∧ SlOk s' a ρ live ∧ Region.wanted o (yielded l.toArray a.tmps) = true) ∨ (∃ s', no s' = some r ∧ SlOk s' a ρ live ∧ Region.wanted o (yielded l.toArray a.tmps) = false) := by
 unfold wantA at h
 split at h
 ·rename_i hg
  exact .inl ⟨s, h, hs, by simp [Region.wanted, hg]⟩
 ·rename_i j gb hg
  rw [nth_get] at h
  split at h
  ·rename_i oj hoj
   split at h
   ·rename_i q hq
    have hd : dstB l j = some q := by simp [dstB, hoj, hq]
    have dec : ∀ (c : Bool), a.tmps.getD q undef = .bool c → (bif c then (bif gb then yes ((q, lf (.lit true)) :: s) else no ((q, lf (.lit true)) :: s)) else (bif gb then no ((q, lf (.lit false)) :: s) else yes ((q, lf (.lit false)) :: s))) = some r →
      (∃ s', yes s' = some r ∧ SlOk s' a ρ live ∧ Region.wanted o (yielded l.toArray a.tmps) = true) ∨ (∃ s', no s' = some r ∧ SlOk s' a ρ live ∧ Region.wanted o (yielded l.toArray a.tmps) = false) := by
     intro c hc h
     have hw := wanted_eq (tmps := a.tmps) hg hd hc
     cases c <;> cases gb
     ·exact .inl ⟨_, h, hs.lit hc, by rw [hw]; rfl⟩
     ·exact .inr ⟨_, h, hs.lit hc, by rw [hw]; rfl⟩
     ·exact .inr ⟨_, h, hs.lit hc, by rw [hw]; rfl⟩
     ·exact .inl ⟨_, h, hs.lit hc, by rw [hw]; rfl⟩
    split at h
    ·rename_i c hc
     refine dec c (hs q _ hc).1 ?_
     cases c
     ·rw [if_neg (by decide)] at h; exact h
     ·rw [if_pos rfl] at h; exact h
    ·rename_i c hc
     have hv := (hs q _ hc).1
     have hw := wanted_eq (tmps := a.tmps) hg hd hv
     cases c <;> cases gb
     ·exact .inl ⟨_, h, hs, by rw [hw]; rfl⟩
     ·exact .inr ⟨_, h, hs, by rw [hw]; rfl⟩
     ·exact .inr ⟨_, h, hs, by rw [hw]; rfl⟩
     ·exact .inl ⟨_, h, hs, by rw [hw]; rfl⟩
    ·rename_i p d hc
     have hv := (hs q _ hc).1
     by_cases hp : p
     ·rw [if_pos hp] at h
      exact dec true (by rw [hv]; show Value.bool _ = _; simp [hp]) h
     ·rw [if_neg hp] at h
      exact dec false (by rw [hv]; show Value.bool _ = _; simp [hp]) h
    ·rename_i hc
     exact .inr ⟨s, h, hs, wanted_undef hg hd (hs q _ hc).1⟩
    ·cases h
   ·cases h
  ·cases h
end
/-- A STATE of the abstract machine, and the frame's. -/
def Rel (C : Ctx) (w : World) (ok : Nat → Prop) (np : Nat) (ρ0 : Nat → Hd) (s : Sl) (m : Me) (b : Nat) (a : Act) (w1 : World) : Prop :=
 ∃ ρ fp, Mem w ok (fun i => i < b) w1 ρ fp (getm m) ∧ np ≤ b ∧ (∀ i, i < np → ρ i = ρ0 i) ∧ SlOk s a ρ (fun i => i < b) ∧ a.tmps.size = C.N ∧ a.defers = []
theorem grow_lt (b : Nat) : grow (fun i => i < b) b = fun i => i < b + step := by
 funext i
 exact propext ⟨fun h => h.elim (fun h => by unfold step; omega) (fun h => h.2), fun h => by
  rcases Nat.lt_or_ge i b with h1 | h1
  ·exact .inl h1
  ·exact .inr ⟨h1, h⟩⟩
theorem getm_app (us m : Me) : getm (us ++ m) = upd us (getm m) := by
 funext i
 unfold getm upd
 rw [get_append]
 cases h : get us i with
 | none => rfl
 | some p => cases p <;> rfl
theorem dst_lt {N : Nat} {d : Option Nat} (h : dstOk N d = true) : ∀ q, d = some q → q < N := fun q hq => by
 subst hq
 simpa [dstOk, Nat.blt_eq] using h
section
variable {P : Program} {w w1 : World} {ok : Nat → Prop} {b np : Nat} {a : Act} {ρ0 : Nat → Hd} {s : Sl} {m : Me} {C : Ctx} {R : Type} {r : R}
/-- REGIONS OF ONE ORDER. -/
theorem runOps_ok (hC : TdsOk P C.Δ) (hE : EntsOk P C.fuel C.Γ) {l : List Oper} {K : Sl → Me → Nat → Option R} {Q : Exit → Act → World → Prop} (hK : ∀ s m b a w1, K s m b = some r → Rel C w ok np ρ0 s m b a w1 → Q .normal a w1) :
  ∀ (os : List Oper) (s : Sl) (m : Me) (b : Nat) (a : Act) (w1 : World), runOps C l K os s m b = some r → Rel C w ok np ρ0 s m b a w1 → wpList P l.toArray Q os a w1
 | [], s, m, b, a, w1, h, hR => hK s m b a w1 h hR
 | o :: os, s, m, b, a, w1, h, ⟨ρ, fp, H, hnp, hρ, hs, hN, hdf⟩ => by
  unfold runOps at h
  cases hd : dstOk C.N o.dst with
  | false => rw [hd] at h; cases h
  | true =>
   rw [hd] at h
   simp only [cond_true] at h
   have hdl := dst_lt hd
   unfold wpList
   rcases wantA_ok hs h with ⟨s', h, hs', hw⟩ | ⟨s', h, hs', hw⟩
   ·rw [if_pos hw]
    refine .inl ?_
    rw [run_res] at h
    cases hg : res (getm m) (opA C b s' o) [] with
    | none => rw [hg] at h; cases h
    | some x =>
     obtain ⟨⟨v, us⟩, rd⟩ := x
     rw [hg] at h
     have h0 : runOps C l K os (putS s' o.dst v) (us ++ m) (b + step) = some r := h
     have hO := (res_at hg (fun _ _ => rfl)).2.2
     refine op_ok hC hE H (fun i h1 h2 h3 => by omega) (hs'.evs o) hO _ _ ?_
     intro w2 ρ' fp' H' hρ' hv
     rw [grow_lt] at H' hv
     refine runOps_ok hC hE hK os _ _ _ _ _ h0 ⟨ρ', fp', by rw [getm_app]; exact H', by omega, fun i hi => (hρ' i (by omega)).trans (hρ i hi), ?_, by rw [put_size]; exact hN, by rw [put_defers]; exact hdf⟩
     exact (hs'.mono (fun i hi => by unfold step; omega) hρ').put (fun q hq => by rw [hN]; exact hdl q hq) hv
   ·rw [if_neg (by rw [hw]; decide)]
    refine runOps_ok hC hE hK os _ _ _ _ _ h ⟨ρ, fp, ?_, by omega, hρ, ?_, by rw [put_size]; exact hN, by rw [put_defers]; exact hdf⟩
    ·have := H.grow (b := b)
     rw [grow_lt] at this
     exact this
    ·exact (hs'.mono (fun i hi => by unfold step; omega) (fun _ _ => rfl)).put (v := undefS) (fun q hq => by rw [hN]; exact hdl q hq) (lf_in (in_none rfl))
end
end Go.Proofs.YthncjcfnpfajaaaA
