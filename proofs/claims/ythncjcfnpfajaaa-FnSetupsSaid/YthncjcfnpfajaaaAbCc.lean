/- Calls of the abstract machine: what they leave. Plain lemmas; no condition. -/
import Derived.Test.YthncjcfnpfajaaaAbCb
namespace Go.Proofs.YthncjcfnpfajaaaA
open Go Go.RowKit Go.Proofs.YthncjcfnpfajaaaW.PrintWords
set_option linter.unusedVariables false
set_option linter.unusedSimpArgs false
section
variable {R : Type _}
def leaveLsF : List LD → List (Option Nat) → Nat → List Leaf × Me × Nat
 | [], _, b => ([], [], b)
 | .lf l :: r, ms, b => (l :: (leaveLsF r ms b).1, (leaveLsF r ms b).2.1, (leaveLsF r ms b).2.2)
 | .sl _ e t xs :: r, ms, b => match ms with
  | some q :: ms => (.own q :: (leaveLsF r ms b).1, (leaveLsF r ms b).2.1, (leaveLsF r ms b).2.2)
  | ms => (.own b :: (leaveLsF r ms.tail (b + 1)).1, (b, some (.row 0 e t xs)) :: (leaveLsF r ms.tail (b + 1)).2.1, (leaveLsF r ms.tail (b + 1)).2.2)
theorem leaveLs_eq : ∀ (ds : List LD) (ms : List (Option Nat)) (b : Nat) (K : List Leaf → Me → Nat → R), leaveLs ds ms b K = K (leaveLsF ds ms b).1 (leaveLsF ds ms b).2.1 (leaveLsF ds ms b).2.2
 | [], _, b, K => rfl
 | .lf l :: r, ms, b, K => leaveLs_eq r _ _ _
 | .sl pa e t xs :: r, [], b, K => leaveLs_eq r _ _ _
 | .sl pa e t xs :: r, none :: ms, b, K => leaveLs_eq r _ _ _
 | .sl pa e t xs :: r, some q :: ms, b, K => leaveLs_eq r _ _ _
def leaveRsF : (rs : List RM) → (os : List Type) → Tup (resTs rs os) → Nat → List CV × Tup os × Me × Nat
 | [], _, x, b => ([], x, [], b)
 | .val st t ms :: rs, os, x, b =>
  let E := leaveLsF (descs t (hd _ x) []) ms b
  let F := leaveRsF rs os (tl _ x) E.2.2
  (CV.of st E.1 :: F.1, F.2.1, E.2.1 ++ F.2.2.1, F.2.2.2)
 | .ptr T t ms :: rs, os, x, b =>
  let E := leaveLsF (descs t (hd _ x) []) ms (b + 1)
  let F := leaveRsF rs os (tl _ x) E.2.2
  (.lf (.ptr b 0) :: F.1, F.2.1, (b, some (.blk T E.1)) :: (E.2.1 ++ F.2.2.1), F.2.2.2)
theorem leaveRs_eq : ∀ (rs : List RM) (os : List Type) (x : Tup (resTs rs os)) (b : Nat) (K : List CV → Tup os → Me → Nat → R), leaveRs rs os x b K = K (leaveRsF rs os x b).1 (leaveRsF rs os x b).2.1 (leaveRsF rs os x b).2.2.1 (leaveRsF rs os x b).2.2.2
 | [], _, x, b, K => rfl
 | .val st t ms :: rs, os, x, b, K => by simp only [leaveRs, leaveLs_eq, leaveRsF]; exact leaveRs_eq rs os _ _ _
 | .ptr T t ms :: rs, os, x, b, K => by simp only [leaveRs, leaveLs_eq, leaveRsF]; exact leaveRs_eq rs os _ _ _
def backLsF : List LD → List Nat → Nat → Nat → List Leaf × Me × Nat
 | [], _, _, b => ([], [], b)
 | .lf l :: r, ms, q, b => (l :: (backLsF r ms q b).1, (backLsF r ms q b).2.1, (backLsF r ms q b).2.2)
 | .sl _ e t xs :: r, ms, q, b => match ms with
  | 0 :: ms => (.own q :: (backLsF r ms (q + 1) b).1, (backLsF r ms (q + 1) b).2.1, (backLsF r ms (q + 1) b).2.2)
  | 1 :: ms => (.own q :: (backLsF r ms (q + 1) b).1, (q, some (.row 0 e t xs)) :: (backLsF r ms (q + 1) b).2.1, (backLsF r ms (q + 1) b).2.2)
  | ms => (.own b :: (backLsF r ms.tail (q + 1) (b + 1)).1, (b, some (.row 0 e t xs)) :: (backLsF r ms.tail (q + 1) (b + 1)).2.1, (backLsF r ms.tail (q + 1) (b + 1)).2.2)
theorem backLs_eq : ∀ (ds : List LD) (ms : List Nat) (q b : Nat) (K : List Leaf → Me → Nat → R), backLs ds ms q b K = K (backLsF ds ms q b).1 (backLsF ds ms q b).2.1 (backLsF ds ms q b).2.2
 | [], _, _, b, K => rfl
 | .lf l :: r, ms, q, b, K => backLs_eq r _ _ _ _
 | .sl pa e t xs :: r, [], q, b, K => backLs_eq r _ _ _ _
 | .sl pa e t xs :: r, 0 :: ms, q, b, K => backLs_eq r _ _ _ _
 | .sl pa e t xs :: r, 1 :: ms, q, b, K => backLs_eq r _ _ _ _
 | .sl pa e t xs :: r, (m + 2) :: ms, q, b, K => backLs_eq r _ _ _ _
def backRowsF : (q : List (Nat × Ty)) → (os : List Type) → List Nat → Tup (rowTs q os) → Tup os × Me
 | [], _, _, x => (x, [])
 | (e, t) :: q, os, ids, x => ((backRowsF q os ids.tail (tl _ x)).1, (ids.headD 0, some (.row 0 e t (hd _ x))) :: (backRowsF q os ids.tail (tl _ x)).2)
theorem backRows_eq : ∀ (q : List (Nat × Ty)) (os : List Type) (ids : List Nat) (x : Tup (rowTs q os)) (K : Tup os → Me → R), backRows q os ids x K = K (backRowsF q os ids x).1 (backRowsF q os ids x).2
 | [], _, _, x, K => rfl
 | (e, t) :: q, os, ids, x, K => by simp only [backRows, backRowsF]; exact backRows_eq q os _ _ _
def leaveOsF : (ps : List PM) → Tup (outTs ps) → Nat → Nat → Me × Nat
 | [], _, _, b => ([], b)
 | .val _ t ms :: ps, x, q, b =>
  let E := backRowsF (heldRows (rows t) ms) (outTs ps) (heldIds q (rows t) ms) x
  let F := leaveOsF ps E.1 (q + nsl t) b
  (E.2 ++ F.1, F.2)
 | .ptr T t ms :: ps, x, q, b =>
  let E := backLsF (descs t (hd _ x) []) ms (q + 1) b
  let F := leaveOsF ps (tl _ x) (q + 1 + nsl t) E.2.2
  ((q, some (.blk T E.1)) :: (E.2.1 ++ F.1), F.2)
theorem leaveOs_eq : ∀ (ps : List PM) (x : Tup (outTs ps)) (q b : Nat) (K : Me → Nat → R), leaveOs ps x q b K = K (leaveOsF ps x q b).1 (leaveOsF ps x q b).2
 | [], _, _, b, K => rfl
 | .val _ t ms :: ps, x, q, b, K => by simp only [leaveOs, backRows_eq, leaveOsF]; exact leaveOs_eq ps _ _ _ _
 | .ptr T t ms :: ps, x, q, b, K => by simp only [leaveOs, backLs_eq, leaveOsF]; exact leaveOs_eq ps _ _ _ _
def leaveF (sig : Sig) (x : Res sig) : List CV × Me × Nat :=
 let A := leaveRsF sig.rs (outTs sig.ps) x (nps sig.ps)
 let B := leaveOsF sig.ps A.2.1 0 A.2.2.2
 (A.1, A.2.2.1 ++ B.1, B.2)
theorem leave_eq (sig : Sig) (x : Res sig) (K : List CV → Me → Nat → R) : leave sig x K = K (leaveF sig x).1 (leaveF sig x).2.1 (leaveF sig x).2.2 := by
 simp only [leave, leaveRs_eq, leaveOs_eq, leaveF]
end
/-- What is known when a call has come back. -/
def Left (sig : Sig) (r : Res sig) (w : World) (ok : Nat → Prop) (ρ : Nat → Hd) (e : Ending) (w' : World) : Prop := match e with
 | .returned v => ∃ ρ' fp', (∀ i, i < nps sig.ps → ρ' i = ρ i) ∧ Mem w ok (fun i => i < (leaveF sig r).2.2) w' ρ' fp' (getm (leaveF sig r).2.1) ∧ v = (svOf (leaveF sig r).1).val ρ' ∧ (svOf (leaveF sig r).1).In (fun i => i < (leaveF sig r).2.2) ρ'
 | _ => False
/-- A FUNCTION DOES WHAT ITS PLAIN FUNCTION SAYS. -/
def EntOk (P : Program) (k : Nat) (e : Ent) : Prop := (∀ args w, (callFunc e.id args).run P w = .ok (.enter e.id args) w) ∧ ∀ x r, e.F k x = some r → ∀ (w : World) (ok : Nat → Prop) (ρ : Nat → Hd) (fp : Nat → Nat → Prop) (args : Array Value), args.size = e.sig.ps.length →
 Mem w ok (fun i => i < nps e.sig.ps) w ρ fp (getm (enterF e.sig.ps x 0 0).2.1) → (∀ i v, get (enterF e.sig.ps x 0 0).1 i = some v → args[i]? = some (v.val ρ) ∧ v.In (fun i => i < nps e.sig.ps) ρ) → Calls P e.id args w (Left e.sig r w ok ρ)
def EntsOk (P : Program) (k : Nat) (Γ : List Ent) : Prop := ∀ e ∈ Γ, EntOk P k e
theorem ent_of : ∀ {Γ : List Ent} {f : Nat} {e : Ent}, entOf Γ f = some e → e ∈ Γ ∧ e.id = f
 | d :: Γ, f, e, h => by
  simp only [entOf] at h
  cases hb : Nat.beq d.id f with
  | true =>
   rw [hb] at h
   injection h with h
   subst h
   exact ⟨by simp, Nat.eq_of_beq_eq_true hb⟩
  | false =>
   rw [hb] at h
   obtain ⟨h1, h2⟩ := ent_of (Γ := Γ) h
   exact ⟨by simp [h1], h2⟩

/-! ### in the caller's numbers -/
section
variable {me : Nat → Option Part} {r : SV × Me} {ac : List Acc} {np b nx : Nat} {live : Nat → Prop} {ρc ρ' : Nat → Hd}
/-- Leaves of a call's, in the caller's numbers. -/
structure ThOk (ac : List Acc) (np b nx : Nat) (live : Nat → Prop) (ρc ρ' : Nat → Hd) : Prop where
 th : ∀ q l, q < nx → thC ac np b q = some l → l.val ρ' = (ρc q).sl ∧ l.In live ρ'
 new : ∀ q, np ≤ q → q < nx → live (b + (q - np)) ∧ ρ' (b + (q - np)) = ρc q
theorem renLs_out (T : ThOk ac np b nx live ρc ρ') : ∀ {ls : List Leaf} {K : List Leaf → OP}, LsIn (fun i => i < nx) ρc ls → Out me (renLs ac np b ls K) r → ∃ ls', Out me (K ls') r ∧ vals ρ' ls' = vals ρc ls ∧ LsIn live ρ' ls' ∧ ls'.length = ls.length
 | [], K, _, h => ⟨[], h, rfl, (fun _ h => by cases h), rfl⟩
 | l :: ls, K, hl, h => by
  have hl0 := hl l (by simp)
  have hls : LsIn (fun i => i < nx) ρc ls := fun l hm => hl l (List.mem_cons_of_mem _ hm)
  have plain : l.ref = none → Out me (renLs ac np b ls fun ls' => K (l :: ls')) r → ∃ ls', Out me (K ls') r ∧ vals ρ' ls' = vals ρc (l :: ls) ∧ LsIn live ρ' ls' ∧ ls'.length = (l :: ls).length := by
   intro hr h
   obtain ⟨ls', h, h1, h2, h3⟩ := renLs_out T hls h
   refine ⟨l :: ls', h, by rw [vals_cons, vals_cons, h1, leaf_none hr], fun l' hl' => ?_, by simp [h3]⟩
   rcases List.mem_cons.1 hl' with rfl | hl'
   ·exact in_none hr
   ·exact h2 l' hl'
  cases l with
  | own q =>
   simp only [renLs] at h
   split at h
   ·rename_i l hth
    obtain ⟨ls', h, h1, h2, h3⟩ := renLs_out T hls h
    obtain ⟨g1, g2⟩ := T.th q l (hl0.ref q rfl) hth
    refine ⟨l :: ls', h, by rw [vals_cons, vals_cons, h1, g1]; rfl, fun l' hl' => ?_, by simp [h3]⟩
    rcases List.mem_cons.1 hl' with rfl | hl'
    ·exact g2
    ·exact h2 l' hl'
   ·exact h.elim
  | cut => exact h.elim
  | ptr => exact h.elim
  | pel => exact h.elim
  | _ => exact plain rfl h
theorem renV_out (T : ThOk ac np b nx live ρc ρ') {v : CV} {K : CV → OP} (hv : v.In (fun i => i < nx) ρc) (h : Out me (renV ac np b v K) r) : ∃ v', Out me (K v') r ∧ v'.val ρ' = v.val ρc ∧ v'.In live ρ' := by
 cases v with
 | ag cs =>
  obtain ⟨ls', h, h1, h2, _⟩ := renLs_out T hv h
  exact ⟨.ag ls', h, by simp only [CV.val, h1, CV.leaves], h2⟩
 | lf l =>
  have plain : Out me (renLs ac np b [l] fun | [l] => K (.lf l) | _ => .fail) r → ∃ v', Out me (K v') r ∧ v'.val ρ' = (CV.lf l).val ρc ∧ v'.In live ρ' := by
   intro h
   obtain ⟨ls', h, h1, h2, h3⟩ := renLs_out T hv h
   match ls', h, h1, h2, h3 with
   | [l'], h, h1, h2, _ =>
    have : [l'.val ρ'] = [l.val ρc] := h1
    injection this with this
    exact ⟨.lf l', h, this, h2⟩
  cases l with
  | ptr q j =>
   rcases bif_out h with ⟨_, h⟩ | ⟨hq, h⟩
   ·exact h.elim
   ·have hq' : np ≤ q := by
     rcases Nat.lt_or_ge q np with h1 | h1
     ·have : Nat.blt q np = true := by simpa [Nat.blt_eq] using h1
      rw [this] at hq
      cases hq
     ·exact h1
    obtain ⟨g1, g2⟩ := T.new q hq' ((lf_of (l := .ptr q j) hv).ref q rfl)
    refine ⟨_, h, ?_, lf_in ⟨fun i hi => by (injection hi with hi; subst hi; exact g1), trivial⟩⟩
    show Value.pointer (some ⟨(ρ' _).g, j, none⟩) = Value.pointer (some ⟨(ρc q).g, j, none⟩)
    rw [g2]
  | _ => exact plain h
theorem renVs_out (T : ThOk ac np b nx live ρc ρ') : ∀ {vs : List CV} {K : List CV → OP}, (∀ v ∈ vs, CV.In (fun i => i < nx) ρc v) → Out me (renVs ac np b vs K) r → ∃ vs', Out me (K vs') r ∧ vs'.map (CV.val ρ') = vs.map (CV.val ρc) ∧ ∀ v ∈ vs', CV.In live ρ' v
 | [], K, _, h => ⟨[], h, rfl, fun _ h => by cases h⟩
 | v :: vs, K, hv, h => by
  obtain ⟨v', h, h1, h2⟩ := renV_out T (hv v (by simp)) h
  obtain ⟨vs', h, h3, h4⟩ := renVs_out T (fun v hm => hv v (List.mem_cons_of_mem _ hm)) h
  refine ⟨v' :: vs', h, by simp [h1, h3], fun u hu => ?_⟩
  rcases List.mem_cons.1 hu with rfl | hu
  ·exact h2
  ·exact h4 u hu
def svV : List Value → Value
 | [v] => v
 | vs => .tuple vs.toArray
theorem svOf_svV (ρ : Nat → Hd) : ∀ vs : List CV, (svOf vs).val ρ = svV (vs.map (CV.val ρ))
 | [] => rfl
 | [_] => rfl
 | _ :: _ :: _ => rfl
theorem svOf_val {vs vs' : List CV} {ρ ρ' : Nat → Hd} (h : vs'.map (CV.val ρ') = vs.map (CV.val ρ)) : (svOf vs').val ρ' = (svOf vs).val ρ := by
 rw [svOf_svV, svOf_svV, h]
theorem svOf_in {vs : List CV} {live : Nat → Prop} {ρ : Nat → Hd} : (svOf vs).In live ρ ↔ ∀ v ∈ vs, CV.In live ρ v := by
 match vs with
 | [] => exact ⟨fun h => h, fun h => h⟩
 | [v] => exact ⟨fun h u hu => by rw [List.mem_singleton.1 hu]; exact h, fun h => h v (by simp)⟩
 | v :: u :: vs => exact ⟨fun h => h, fun h => h⟩
theorem key_get {α : Type _} : ∀ {m : List (Nat × α)} {i : Nat} {p : α}, get m i = some p → i ∈ keys m
 | (k, v) :: m, i, p, h => by
  rw [get_cons] at h
  by_cases hi : i = k
  ·simp [keys, hi]
  ·rw [if_neg hi] at h
   exact List.mem_cons_of_mem _ (key_get h)
/-- Where a part of the call's stands with the caller. -/
def RenI (me : Nat → Option Part) (ac : List Acc) (np b id i : Nat) : Prop := (id < np ∧ ∃ c z, ac[id]? = some c ∧ c.l = .own i ∧ c.us = some z) ∨ (np ≤ id ∧ i = b + (id - np))
inductive RenP (me : Nat → Option Part) (live : Nat → Prop) (ρc ρ' : Nat → Hd) (np id i : Nat) : Part → Part → Prop
 | row {v v' e t xs} (h : id < np → ∃ ver e0 t0 ys, me i = some (.row ver e0 t0 ys) ∧ v' = ver + 1) : RenP me live ρc ρ' np id i (.row v e t xs) (.row v' e t xs)
 | blk {T ls ls'} (h : vals ρ' ls' = vals ρc ls) (h2 : LsIn live ρ' ls') : RenP me live ρc ρ' np id i (.blk T ls) (.blk T ls')
theorem nth_np {id : Nat} (h : Nat.blt id np = true) : id < np := by simpa [Nat.blt_eq] using h
theorem nth_le {id : Nat} (h : Nat.blt id np = false) : np ≤ id := by
 rcases Nat.lt_or_ge id np with h1 | h1
 ·have : Nat.blt id np = true := by simpa [Nat.blt_eq] using h1
  rw [this] at h
  cases h
 ·exact h1
theorem renM_out (T : ThOk ac np b nx live ρc ρ') : ∀ {m : Me} {K : Me → OP}, (∀ T ls, ∀ i, get m i = some (some (.blk T ls)) → LsIn (fun i => i < nx) ρc ls) → Out me (renM ac np b m K) r → ∃ m', Out me (K m') r ∧ ∀ i p, get m' i = some p → ∃ id q q', get m id = some (some q) ∧ p = some q' ∧ RenI me ac np b id i ∧ RenP me live ρc ρ' np id i q q'
 | [], K, _, h => ⟨[], h, fun i p h => by cases h⟩
 | (id, p) :: m, K, hb, h => by
  simp only [renM] at h
  rcases bif_out h with ⟨_, h⟩ | ⟨hk, h⟩
  ·exact h.elim
  have hk : id ∉ keys m := fun hi => by rw [memb_iff.2 hi] at hk; cases hk
  have up : ∀ {i q}, get m i = some q → get ((id, p) :: m) i = some q := fun {i q} h => by
   rw [get_cons, if_neg]
   ·exact h
   ·intro e
    exact hk (e ▸ key_get h)
  have hb' : ∀ T ls, ∀ i, get m i = some (some (.blk T ls)) → LsIn (fun i => i < nx) ρc ls := fun T ls i h => hb T ls i (up h)
  have more : ∀ {K' : Me → OP}, Out me (renM ac np b m K') r → ∃ m', Out me (K' m') r ∧ ∀ i p', get m' i = some p' → ∃ id' q q', get ((id, p) :: m) id' = some (some q) ∧ p' = some q' ∧ RenI me ac np b id' i ∧ RenP me live ρc ρ' np id' i q q' := by
   intro K' h
   obtain ⟨m', h, hm⟩ := renM_out T hb' h
   refine ⟨m', h, fun i p' hp => ?_⟩
   obtain ⟨id', q, q', h1, h2, h3, h4⟩ := hm i p' hp
   exact ⟨id', q, q', up h1, h2, h3, h4⟩
  have one : ∀ {q0 q0' : Part} {i0 : Nat}, p = some q0 → RenI me ac np b id i0 → RenP me live ρc ρ' np id i0 q0 q0' → Out me (renM ac np b m fun m' => K ((i0, some q0') :: m')) r → ∃ m', Out me (K m') r ∧ ∀ i p', get m' i = some p' → ∃ id' q q', get ((id, p) :: m) id' = some (some q) ∧ p' = some q' ∧ RenI me ac np b id' i ∧ RenP me live ρc ρ' np id' i q q' := by
   intro q0 q0' i0 hp h1 h2 h
   obtain ⟨m', h, hm⟩ := more h
   refine ⟨_, h, fun i p' hp' => ?_⟩
   rw [get_cons] at hp'
   by_cases hi : i = i0
   ·rw [if_pos hi] at hp'
    injection hp' with hp'
    subst hi
    exact ⟨id, q0, q0', by rw [get_cons, if_pos rfl, hp], hp'.symm, h1, h2⟩
   ·rw [if_neg hi] at hp'
    exact hm i p' hp'
  cases p with
  | none => exact h.elim
  | some p =>
   cases p with
   | view => exact h.elim
   | sub => exact h.elim
   | row v e t xs =>
    rcases bif_out h with ⟨hlt, h⟩ | ⟨hge, h⟩
    ·split at h
     ·rename_i q z vs hc
      rw [nth_get] at hc
      obtain ⟨p2, hp2, h⟩ := h
      cases p2 <;> first | exact h.elim | skip
      exact one rfl (.inl ⟨nth_np hlt, _, _, hc, rfl, rfl⟩) (.row (fun _ => ⟨_, _, _, _, hp2, rfl⟩)) h
     ·exact more h
     ·exact h.elim
    ·exact one rfl (.inr ⟨nth_le hge, rfl⟩) (.row (fun h => absurd h (Nat.not_lt.2 (nth_le hge)))) h
   | blk T0 ls =>
    obtain ⟨ls', h, h1, h2, _⟩ := renLs_out T (hb T0 ls id (by rw [get_cons, if_pos rfl])) h
    rcases bif_out h with ⟨hlt, h⟩ | ⟨hge, h⟩
    ·split at h
     ·rename_i q z vs hc
      rw [nth_get] at hc
      exact one rfl (.inl ⟨nth_np hlt, _, _, hc, rfl, rfl⟩) (.blk h1 h2) h
     ·exact h.elim
    ·exact one rfl (.inr ⟨nth_le hge, rfl⟩) (.blk h1 h2) h
end
end Go.Proofs.YthncjcfnpfajaaaA
