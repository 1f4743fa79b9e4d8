/- Regions whose order is drawn: the abstract machine runs one order; who may come first does not matter. Plain lemmas; no condition. -/
import Derived.Test.YthncjcfnpfajaaaAbF
namespace Go.Proofs.YthncjcfnpfajaaaA
open Go Go.RowKit Go.Proofs.YthncjcfnpfajaaaW.PrintWords
set_option linter.unusedVariables false
set_option linter.unusedSimpArgs false

/-- As good as known. -/
def Eqv (v v0 : SV) : Prop := ∀ (ρ : Nat → Hd) (live : Nat → Prop), v0.In live ρ → v.val ρ = v0.val ρ ∧ v.In live ρ
theorem Eqv.rfl' (v : SV) : Eqv v v := fun _ _ h => ⟨rfl, h⟩
theorem Eqv.trans {u v z : SV} (h : Eqv u v) (h' : Eqv v z) : Eqv u z := fun ρ live hz => by
 obtain ⟨h1, h2⟩ := h' ρ live hz
 obtain ⟨h3, h4⟩ := h ρ live h2
 exact ⟨h3.trans h1, h4⟩
def Know (s' s : Sl) : Prop := ∀ q v, get s' q = some v → ∃ v0, get s q = some v0 ∧ Eqv v v0
theorem Know.refl (s : Sl) : Know s s := fun q v h => ⟨v, h, Eqv.rfl' v⟩
theorem Know.lit {s : Sl} {q : Nat} {t : Bool} {v0 : SV} (h : get s q = some v0) (hv : ∀ ρ : Nat → Hd, v0.val ρ = .bool t) : Know ((q, lf (.lit t)) :: s) s := fun q' v hq => by
 rw [get_cons] at hq
 by_cases hi : q' = q
 ·rw [if_pos hi] at hq
  injection hq with hq
  subst hq; subst hi
  exact ⟨v0, h, fun ρ live _ => ⟨(hv ρ).symm, lf_in (in_none rfl)⟩⟩
 ·rw [if_neg hi] at hq
  exact ⟨v, hq, Eqv.rfl' v⟩
/-- What decides whether an operation is wanted. -/
def GuardOk (l : List Oper) (s : Nat → Option SV) (o : Oper) (flag : Bool) : Prop := (o.guard = none ∧ flag = true) ∨ ∃ j gb q v0, o.guard = some (j, gb) ∧ dstB l j = some q ∧ s q = some v0 ∧ ((∃ c, (∀ ρ : Nat → Hd, v0.val ρ = .bool c) ∧ flag = (c == gb)) ∨ ((∀ ρ : Nat → Hd, v0.val ρ = undef) ∧ flag = false))
theorem wantA_pure {R : Type} {l : List Oper} {s : Sl} {o : Oper} {yes no : Sl → Option R} {r : R} (h : wantA l s o yes no = some r) :
  (∃ s', yes s' = some r ∧ Know s' s ∧ GuardOk l (get s) o true) ∨ (∃ s', no s' = some r ∧ Know s' s ∧ GuardOk l (get s) o false) := by
 unfold wantA at h
 split at h
 ·rename_i hg
  exact .inl ⟨s, h, Know.refl s, .inl ⟨hg, rfl⟩⟩
 ·rename_i j gb hg
  rw [nth_get] at h
  split at h
  ·rename_i oj hoj
   split at h
   ·rename_i q hq
    have hd : dstB l j = some q := by simp [dstB, hoj, hq]
    have dec : ∀ (c : Bool) (v0 : SV), get s q = some v0 → (∀ ρ : Nat → Hd, v0.val ρ = .bool c) → (bif c then (bif gb then yes ((q, lf (.lit true)) :: s) else no ((q, lf (.lit true)) :: s)) else (bif gb then no ((q, lf (.lit false)) :: s) else yes ((q, lf (.lit false)) :: s))) = some r →
      (∃ s', yes s' = some r ∧ Know s' s ∧ GuardOk l (get s) o true) ∨ (∃ s', no s' = some r ∧ Know s' s ∧ GuardOk l (get s) o false) := by
     intro c v0 hs hc h
     have G : ∀ flag, flag = (c == gb) → GuardOk l (get s) o flag := fun flag hf => .inr ⟨j, gb, q, v0, hg, hd, hs, .inl ⟨c, hc, hf⟩⟩
     cases c <;> cases gb
     ·exact .inl ⟨_, h, Know.lit hs hc, G _ rfl⟩
     ·exact .inr ⟨_, h, Know.lit hs hc, G _ rfl⟩
     ·exact .inr ⟨_, h, Know.lit hs hc, G _ rfl⟩
     ·exact .inl ⟨_, h, Know.lit hs hc, G _ rfl⟩
    split at h
    ·rename_i c hc
     refine dec c _ hc (fun _ => rfl) ?_
     cases c
     ·rw [if_neg (by decide)] at h; exact h
     ·rw [if_pos rfl] at h; exact h
    ·rename_i c hc
     have G : ∀ flag, flag = (c == gb) → GuardOk l (get s) o flag := fun flag hf => .inr ⟨j, gb, q, _, hg, hd, hc, .inl ⟨c, fun _ => rfl, hf⟩⟩
     cases c <;> cases gb
     ·exact .inl ⟨_, h, Know.refl s, G _ rfl⟩
     ·exact .inr ⟨_, h, Know.refl s, G _ rfl⟩
     ·exact .inr ⟨_, h, Know.refl s, G _ rfl⟩
     ·exact .inl ⟨_, h, Know.refl s, G _ rfl⟩
    ·rename_i p d hc
     by_cases hp : p
     ·rw [if_pos hp] at h
      exact dec true _ hc (fun ρ => by show Value.bool _ = _; simp [hp]) h
     ·rw [if_neg hp] at h
      exact dec false _ hc (fun ρ => by show Value.bool _ = _; simp [hp]) h
    ·rename_i hc
     exact .inr ⟨s, h, Know.refl s, .inr ⟨j, gb, q, _, hg, hd, hc, .inr ⟨fun _ => rfl, rfl⟩⟩⟩
    ·cases h
   ·cases h
  ·cases h
structure Rec where
 s' : Sl
 flag : Bool
 v : SV
 us : Me
 rd : List Nat
 lg : Log
/-- One order, told step by step. -/
def Chain (C : Ctx) (l : List Oper) : List Oper → List Log → Sl → Me → Nat → List Rec → Sl → Me → Prop
 | [], _, s, m, _, [], sN, mN => sN = s ∧ mN = m
 | o :: os, gs, s, m, b, x :: xs, sN, mN => dstOk C.N o.dst = true ∧ Know x.s' s ∧ GuardOk l (get s) o x.flag ∧ (x.flag = true → res (getm m) (opA C b x.s' o) [] = some ((x.v, x.us), x.rd)) ∧ (x.flag = false → x.v = undefS ∧ x.us = [] ∧ x.rd = []) ∧
   x.lg = ⟨o.dst, usesOf l o, x.rd, keys x.us, ancOf gs (onsOf o)⟩ ∧ apartAll x.lg gs 0 = true ∧ below gs.length x.lg.anc = true ∧ Chain C l os (gs ++ [x.lg]) (putS x.s' o.dst x.v) (x.us ++ m) (b + step) xs sN mN
 | _, _, _, _, _, _, _, _ => False
theorem addLog_some {R : Type} {gs : List Log} {g : Log} {k : List Log → Option R} {r : R} (h : addLog gs g k = some r) : apartAll g gs 0 = true ∧ below gs.length g.anc = true ∧ k (gs ++ [g]) = some r := by
 unfold addLog at h
 cases hb : (apartAll g gs 0 && below gs.length g.anc) with
 | false => rw [hb] at h; cases h
 | true =>
  rw [hb] at h
  simp only [Bool.and_eq_true] at hb
  exact ⟨hb.1, hb.2, h⟩
theorem drawn_chain {C : Ctx} {R : Type} {r : R} {l : List Oper} {K : Sl → Me → Nat → Option R} : ∀ (os : List Oper) (gs : List Log) (s : Sl) (m : Me) (b : Nat), runDrawn C l K os gs s m b = some r →
  ∃ xs sN mN, Chain C l os gs s m b xs sN mN ∧ K sN mN (b + step * os.length) = some r
 | [], gs, s, m, b, h => ⟨[], s, m, ⟨rfl, rfl⟩, h⟩
 | o :: os, gs, s, m, b, h => by
  unfold runDrawn at h
  cases hd : dstOk C.N o.dst with
  | false => rw [hd] at h; cases h
  | true =>
   rw [hd] at h
   simp only [cond_true] at h
   have e : b + step + step * os.length = b + step * (o :: os).length := by rw [List.length_cons, Nat.mul_succ]; omega
   rcases wantA_pure h with ⟨s', h, hk, hg⟩ | ⟨s', h, hk, hg⟩
   ·rw [run_res] at h
    cases hr : res (getm m) (opA C b s' o) [] with
    | none => rw [hr] at h; cases h
    | some x =>
     obtain ⟨⟨v, us⟩, rd⟩ := x
     rw [hr] at h
     have h' : addLog gs ⟨o.dst, usesOf l o, rd, keys us, ancOf gs (onsOf o)⟩ (fun gs => runDrawn C l K os gs (putS s' o.dst v) (us ++ m) (b + step)) = some r := h
     obtain ⟨h1, h2, h3⟩ := addLog_some h'
     obtain ⟨xs, sN, mN, h4, h5⟩ := drawn_chain os _ _ _ _ h3
     rw [e] at h5
     exact ⟨⟨s', true, v, us, rd, _⟩ :: xs, sN, mN, ⟨hd, hk, hg, fun _ => hr, (fun h => by cases h), rfl, h1, h2, h4⟩, h5⟩
   ·obtain ⟨h1, h2, h3⟩ := addLog_some h
    obtain ⟨xs, sN, mN, h4, h5⟩ := drawn_chain os _ _ _ _ h3
    rw [e] at h5
    exact ⟨⟨s', false, undefS, [], [], _⟩ :: xs, sN, mN, ⟨hd, hk, hg, (fun h => by cases h), fun _ => ⟨rfl, rfl, rfl⟩, rfl, h1, h2, h4⟩, h5⟩

/-! ### overlays -/
open Classical in
noncomputable def ov (X : Nat → Rec) (D : Nat → Prop) (me0 : Nat → Option Part) : Nat → Nat → Option Part
 | 0 => me0
 | i + 1 => if D i then upd (X i).us (ov X D me0 i) else ov X D me0 i
open Classical in
noncomputable def osl (X : Nat → Rec) (D : Nat → Prop) (s0 : Nat → Option SV) : Nat → Nat → Option SV
 | 0, q => s0 q
 | i + 1, q => if D i ∧ (X i).lg.dst = some q then some (X i).v else osl X D s0 i q
def All : Nat → Prop := fun _ => True
section
variable {X : Nat → Rec} {D : Nat → Prop} {me0 : Nat → Option Part} {s0 : Nat → Option SV}
theorem upd_out {us : Me} {me : Nat → Option Part} {k : Nat} (h : k ∉ keys us) : upd us me k = me k := by
 unfold upd
 cases hg : get us k with
 | none => rfl
 | some p => exact absurd (key_get hg) h
theorem upd_in {us : Me} {me me' : Nat → Option Part} {k : Nat} (h : me k = me' k) : upd us me k = upd us me' k := by
 unfold upd
 rw [h]
theorem ov_stay {i k : Nat} : ∀ (d : Nat), (∀ j, i ≤ j → j < i + d → D j → k ∉ keys (X j).us) → ov X D me0 (i + d) k = ov X D me0 i k
 | 0, _ => rfl
 | d + 1, h => by
  have ih := ov_stay d (fun j h1 h2 => h j h1 (by omega))
  rw [show i + (d + 1) = (i + d) + 1 by omega, ov]
  split
  ·rename_i hD
   rw [upd_out (h (i + d) (by omega) (by omega) hD)]
   exact ih
  ·exact ih
theorem ov_all {k : Nat} : ∀ (i : Nat), (∀ j, j < i → k ∈ keys (X j).us → D j) → ov X D me0 i k = ov X All me0 i k
 | 0, _ => rfl
 | i + 1, h => by
  have ih := ov_all i (fun j h1 => h j (by omega))
  rw [ov, ov, if_pos (show All i from trivial)]
  split
  ·exact upd_in ih
  ·rename_i hD
   rw [upd_out (fun hk => hD (h i (by omega) hk))]
   exact ih
theorem osl_stay {i q : Nat} : ∀ (d : Nat), (∀ j, i ≤ j → j < i + d → D j → (X j).lg.dst ≠ some q) → osl X D s0 (i + d) q = osl X D s0 i q
 | 0, _ => rfl
 | d + 1, h => by
  have ih := osl_stay d (fun j h1 h2 => h j h1 (by omega))
  rw [show i + (d + 1) = (i + d) + 1 by omega, osl, if_neg (fun e => h (i + d) (by omega) (by omega) e.1 e.2)]
  exact ih
theorem osl_all {q : Nat} : ∀ (i : Nat), (∀ j, j < i → (X j).lg.dst = some q → D j) → osl X D s0 i q = osl X All s0 i q
 | 0, _ => rfl
 | i + 1, h => by
  have ih := osl_all i (fun j h1 => h j (by omega))
  rw [osl, osl]
  by_cases hd : (X i).lg.dst = some q
  ·rw [if_pos ⟨h i (by omega) hd, hd⟩, if_pos ⟨trivial, hd⟩]
  ·rw [if_neg (fun e => hd e.2), if_neg (fun e => hd e.2)]
   exact ih
/-- One more. -/
theorem ov_add {i n : Nat} (hi : i < n) (hD : ¬ D i) (h : ∀ j, i < j → j < n → D j → ∀ k ∈ keys (X i).us, k ∉ keys (X j).us) : ov X (fun j => D j ∨ j = i) me0 n = upd (X i).us (ov X D me0 n) := by
 have lo : ∀ j, j ≤ i → ov X (fun j => D j ∨ j = i) me0 j = ov X D me0 j := by
  intro j
  induction j with
  | zero => intro _; rfl
  | succ j ih =>
   intro hj
   rw [ov, ov, ih (by omega)]
   have : (D j ∨ j = i) ↔ D j := ⟨fun h => h.resolve_right (by omega), .inl⟩
   by_cases hd : D j
   ·rw [if_pos (.inl hd), if_pos hd]
   ·rw [if_neg (fun h => hd (this.1 h)), if_neg hd]
 have hi' : ∀ d, i + 1 + d ≤ n → ov X (fun j => D j ∨ j = i) me0 (i + 1 + d) = upd (X i).us (ov X D me0 (i + 1 + d)) := by
  intro d
  induction d with
  | zero =>
   intro _
   rw [Nat.add_zero, ov, ov, if_pos (.inr rfl), if_neg hD, lo i (Nat.le_refl _)]
  | succ d ih =>
   intro hle
   have ih := ih (by omega)
   rw [show i + 1 + (d + 1) = (i + 1 + d) + 1 by omega, ov, ov, ih]
   by_cases hd : D (i + 1 + d)
   ·rw [if_pos (.inl hd), if_pos hd]
    funext k
    by_cases hk : k ∈ keys (X i).us
    ·have hk' := h (i + 1 + d) (by omega) (by omega) hd k hk
     rw [upd_out hk']
     unfold upd
     cases hg : get (X i).us k with
     | some p => rfl
     | none =>
      simp only
      have := upd_out (me := ov X D me0 (i + 1 + d)) hk'
      unfold upd at this
      exact this.symm
    ·rw [upd_out (us := (X i).us) hk]
     exact upd_in (upd_out hk)
   ·rw [if_neg (fun e => e.elim hd (by omega)), if_neg hd]
 have := hi' (n - (i + 1)) (by omega)
 rw [show i + 1 + (n - (i + 1)) = n by omega] at this
 exact this
theorem osl_add {i n q : Nat} (hi : i < n) (hD : ¬ D i) (h : ∀ j, i < j → j < n → D j → (X i).lg.dst = some q → (X j).lg.dst ≠ some q) : osl X (fun j => D j ∨ j = i) s0 n q = if (X i).lg.dst = some q then some (X i).v else osl X D s0 n q := by
 have lo : ∀ j, j ≤ i → osl X (fun j => D j ∨ j = i) s0 j q = osl X D s0 j q := by
  intro j
  induction j with
  | zero => intro _; rfl
  | succ j ih =>
   intro hj
   rw [osl, osl, ih (by omega)]
   by_cases hd : D j ∧ (X j).lg.dst = some q
   ·rw [if_pos ⟨.inl hd.1, hd.2⟩, if_pos hd]
   ·rw [if_neg (fun e => hd ⟨e.1.resolve_right (by omega), e.2⟩), if_neg hd]
 have hi' : ∀ d, i + 1 + d ≤ n → osl X (fun j => D j ∨ j = i) s0 (i + 1 + d) q = if (X i).lg.dst = some q then some (X i).v else osl X D s0 (i + 1 + d) q := by
  intro d
  induction d with
  | zero =>
   intro _
   rw [Nat.add_zero, osl, osl, lo i (Nat.le_refl _), if_neg (c := D i ∧ _) (fun e => hD e.1)]
   by_cases hd : (X i).lg.dst = some q
   ·rw [if_pos ⟨.inr rfl, hd⟩, if_pos hd]
   ·rw [if_neg (fun e => hd e.2), if_neg hd]
  | succ d ih =>
   intro hle
   have ih := ih (by omega)
   rw [show i + 1 + (d + 1) = (i + 1 + d) + 1 by omega, osl, osl, ih]
   by_cases hd : D (i + 1 + d) ∧ (X (i + 1 + d)).lg.dst = some q
   ·rw [if_pos ⟨.inl hd.1, hd.2⟩, if_pos hd, if_neg (fun e => h _ (by omega) (by omega) hd.1 e hd.2)]
   ·rw [if_neg (fun e => hd ⟨e.1.resolve_right (by omega), e.2⟩), if_neg hd]
 have := hi' (n - (i + 1)) (by omega)
 rw [show i + 1 + (n - (i + 1)) = n by omega] at this
 exact this
end
end Go.Proofs.YthncjcfnpfajaaaA
