/- Calls of the abstract machine: what is handed in. Plain lemmas; no condition. -/
import Derived.Test.YthncjcfnpfajaaaAbZ
namespace Go.Proofs.YthncjcfnpfajaaaA
open Go Go.RowKit Go.Proofs.YthncjcfnpfajaaaW.PrintWords
set_option linter.unusedVariables false
set_option linter.unusedSimpArgs false

/-- A row that is read, all of it in S. -/
def RdV (w1 : World) (S : Nat → Prop) (h : Hd) (t : Ty) (xs : List (den t)) : Prop := h.z = sz t ∧ h.n = xs.length ∧ xs.length ≤ h.c ∧ VC w1 S t h.A xs
section
variable {α : Type} {me : Nat → Option Part} {r : α} {w w1 : World} {ok live : Nat → Prop} {ρ : Nat → Hd} {fp : Nat → Nat → Prop} {S : Nat → Prop}
theorem VRow.take {α : Type} {V : α → List Value → Prop} {size : Nat} {A : Option Addr} {xs : List α} (h : VRow V size w1 S A xs) (m : Nat) : VRow V size w1 S A (xs.take m) := by
 refine ⟨by rw [List.length_take]; have := h.1; omega, fun hp => ?_⟩
 rw [List.length_take] at hp
 obtain ⟨ad, hA, hs, hc⟩ := h.2 (by omega)
 refine ⟨ad, hA, hs, fun j x hj => hc j x ?_⟩
 rw [List.getElem?_take] at hj
 split at hj
 ·exact hj
 ·cases hj
theorem VRow.drop {α : Type} {V : α → List Value → Prop} {size c : Nat} {A : Option Addr} {xs : List α} (h : VRow V size w1 S A xs) (m : Nat) (hc : xs.length ≤ c) : VRow V size w1 S (cutA A c m size) (xs.drop m) := by
 refine ⟨by rw [List.length_drop]; have := h.1; omega, fun hp => ?_⟩
 rw [List.length_drop] at hp
 obtain ⟨ad, rfl, hs, hcell⟩ := h.2 (by omega)
 refine ⟨ad.add (m * size), by unfold cutA; rw [if_neg (by omega)]; rfl, by rw [addb]; exact hs, fun j x hj => ?_⟩
 rw [List.getElem?_drop] at hj
 obtain ⟨c', h1, h2, h3⟩ := hcell (m + j) x hj
 refine ⟨c', h1, h2, fun i u hu => ?_⟩
 rw [add_add, show m * size + (j * size + i) = (m + j) * size + i by rw [Nat.add_mul]; omega]
 exact h3 i u hu
theorem Mem.rowV (H : Mem w ok live w1 ρ fp me) {i ver e : Nat} {t : Ty} {xs : List (den t)} (hi : me i = some (.row ver e t xs)) : RdV w1 (Seen w ok (fp i)) (ρ i) t xs := by
 obtain ⟨hz, hr⟩ := H.on i _ hi
 obtain ⟨h1, h2, h3⟩ := VC_of_R (S := Seen w ok (fp i)) hr (fun k hk => .inl hk)
 exact ⟨hz, h1, by omega, h3⟩
theorem Mem.viewV (H : Mem w ok live w1 ρ fp me) {i : Nat} {q : Bool} {e : Nat} {t : Ty} {xs : List (den t)} (hi : me i = some (.view q e t xs)) : RdV w1 (Seen w ok (fp i)) (ρ i) t xs := by
 obtain ⟨hz, h1, h2, _, h5⟩ := H.on i _ hi
 exact ⟨hz, h1, h2, h5⟩
theorem sel_V : ∀ {t : Ty} {path : List Bool} {x : den t} {k : (e : Nat) → (t' : Ty) → List (den t') → Prg α}, Out me (sel t path x k) r →
  ∃ e t' ys off, Out me (k e t' ys) r ∧ pathOff t path = some off ∧ pathZ t path = sz t' ∧ off < sz t ∧ ∀ w S c, V w S t x c → ∃ A' c', c[off]? = some (.slice A' ys.length c') ∧ ys.length ≤ c' ∧ VC w S t' A' ys := by
 intro t
 induction t with
 | int k => intro path x k h; exact h.elim
 | bool => intro path x k h; exact h.elim
 | str => intro path x k h; exact h.elim
 | sl e t ih =>
  intro path x k h
  cases path with
  | cons => exact h.elim
  | nil =>
   refine ⟨e, t, x, 0, h, rfl, rfl, Nat.one_pos, ?_⟩
   rintro w S c ⟨A, c', rfl, hl, hc⟩
   exact ⟨A, c', rfl, hl, hc⟩
 | pair a b iha ihb =>
  intro path x k h
  cases path with
  | nil => exact h.elim
  | cons q path =>
   cases q with
   | false =>
    obtain ⟨e, t', ys, off, h1, h2, hz, h3, h4⟩ := iha (x := x.1) h
    refine ⟨e, t', ys, off, h1, h2, hz, by simp only [sz]; omega, ?_⟩
    rintro w S c ⟨c0, c1, rfl, k0, k1⟩
    obtain ⟨A', c', h5, h6, h7⟩ := h4 w S c0 k0
    refine ⟨A', c', ?_, h6, h7⟩
    rw [List.getElem?_append_left (List.getElem?_eq_some_iff.1 h5).1]
    exact h5
   | true =>
    obtain ⟨e, t', ys, off, h1, h2, hz, h3, h4⟩ := ihb (x := x.2) h
    refine ⟨e, t', ys, sz a + off, h1, by simp [pathOff, h2], hz, by simp only [sz]; omega, ?_⟩
    rintro w S c ⟨c0, c1, rfl, k0, k1⟩
    obtain ⟨A', c', h5, h6, h7⟩ := h4 w S c1 k1
    refine ⟨A', c', ?_, h6, h7⟩
    have hl : c0.length = sz a := by rw [(kd a).K_len (K_of_V a k0), kd_sz]
    rw [List.getElem?_append_right (by omega), hl, Nat.add_sub_cancel_left]
    exact h5
theorem sub_seen {h h' : Hd} {t : Ty} {i : Nat} {xs : List (den t)} {path : List Bool} {k : (e : Nat) → (t' : Ty) → List (den t') → Prg α} (hr : RdV w1 S h t xs) (hs : SubAt w1 h h' t i xs path) (ho : Out me (sel t path (el t xs i) k) r) : ∃ e t' ys, Out me (k e t' ys) r ∧ RdV w1 S h' t' ys := by
 obtain ⟨e, t', ys, off, h1, h2, hz, h3, h4⟩ := sel_V ho
 obtain ⟨qz, off', q1, q2, q3⟩ := hs
 rw [h2] at q1
 injection q1 with q1
 subst q1
 obtain ⟨ad, hA, hS, hcs⟩ := hr.2.2.2.2 (by omega)
 obtain ⟨c, hl, hK, hc⟩ := hcs i _ (List.getElem?_eq_getElem q2)
 have hel : el t xs i = xs[i] := by unfold el; rw [List.getD_eq_getElem?_getD, List.getElem?_eq_getElem q2]; rfl
 rw [← hel] at hK
 obtain ⟨A', c', h5, h6, h7⟩ := h4 w1 S c hK
 have hcell := hc off _ h5
 rw [adr_some hA] at q3
 rw [hcell] at q3
 injection q3 with q3
 injection q3 with e1 e2 e3
 refine ⟨e, t', ys, h1, qz.trans hz, e2.symm, ?_, ?_⟩
 ·rw [← e3]; exact h6
 ·rw [← e1]; exact h7
/-- The part that a row lies in. -/
def rootOf (me : Nat → Option Part) (q : Nat) : Nat := match me q with
 | some (.sub r0 _ _ _) => r0
 | _ => q
theorem getRow_V (H : Mem w ok live w1 ρ fp me) {i : Nat} {k : (e : Nat) → (t : Ty) → List (den t) → Prg α} (h : Out me (getRow i k) r) : ∃ e t xs, Out me (k e t xs) r ∧ RdV w1 (Seen w ok (fp (rootOf me i))) (ρ i) t xs := by
 obtain ⟨p, hp, h⟩ := h
 unfold rootOf
 rw [hp]
 cases p with
 | blk T cs => exact h.elim
 | row ver e t xs => exact ⟨e, t, xs, h, H.rowV hp⟩
 | view q e t xs => exact ⟨e, t, xs, h, H.viewV hp⟩
 | sub r0 ver j path =>
  obtain ⟨p, hq, h⟩ := h
  have hon := H.on i _ hp
  cases p with
  | blk => exact h.elim
  | sub => exact h.elim
  | row v e t xs =>
   obtain ⟨hv, h⟩ := bif_fail h
   have hv := Nat.eq_of_beq_eq_true hv
   exact sub_seen (H.rowV hq) ((hon.1 v e t xs hq).2 hv) h
  | view o e t xs => exact sub_seen (H.viewV hq) (hon.2 o e t xs hq) h
/-- The parts of which memory is held: rows, blocks. -/
def HB (me : Nat → Option Part) (r : Nat) : Prop := (∃ v e t xs, me r = some (.row v e t xs)) ∨ ∃ T cs, me r = some (.blk T cs)
/-- A slice that is read: where it lies. -/
theorem rdRow_V (H : Mem w ok live w1 ρ fp me) {l : Leaf} {e : Nat} {t : Ty} {k : List (den t) → Prg α} (hok : l.Ok ρ) (h : Out me (rdRow l e t k) r) :
  ∃ xs h, Out me (k xs) r ∧ l.val ρ = h.sl ∧ h.z = sz t ∧ h.n = xs.length ∧ xs.length ≤ h.c ∧ (∀ q, l = .own q → h = ρ q) ∧ (xs = [] ∧ l = .nil ∨ ∃ q, (l = .own q ∨ ∃ lo hi n s, l = .cut q lo hi n s) ∧ VC w1 (Seen w ok (fp (rootOf me q))) t h.A xs) := by
 cases l with
 | own i =>
  obtain ⟨e', t', xs, h, h0, h1, h2, h3⟩ := getRow_V H h
  obtain ⟨_, h⟩ := bif_fail h
  obtain ⟨he, h⟩ := castL_out h
  subst he
  exact ⟨xs, ρ i, h, rfl, h0, h1, h2, fun q hq => by injection hq with hq; rw [hq], .inr ⟨i, .inl rfl, h3⟩⟩
 | cut i lo hi n size =>
  obtain ⟨e', t', xs, h', hz, h1, h2, h3⟩ := getRow_V H h
  clear h
  obtain ⟨_, h'⟩ := bif_fail h'
  obtain ⟨he, h'⟩ := castL_out h'
  subst he
  obtain ⟨hlh, hh, hn, hs⟩ := hok
  rw [h1] at hn hh hlh
  subst hs
  have hlen : n = (cutOf xs lo hi).length := by rw [cutOf_len, hn]; omega
  have hxs : (xs.take (hi.getD xs.length)).drop (lo.getD 0) = cutOf xs lo hi := by
   cases lo <;> cases hi <;> simp [cutOf]
  have hl : (xs.take (hi.getD xs.length)).length = hi.getD xs.length := by rw [List.length_take]; omega
  refine ⟨cutOf xs lo hi, ⟨0, cutA (ρ i).A (ρ i).c (lo.getD 0) (sz t'), n, cutC (ρ i).c (lo.getD 0), sz t'⟩, h', ?_, rfl, hlen, ?_, (fun q hq => by cases hq), .inr ⟨i, .inr ⟨_, _, _, _, rfl⟩, ?_⟩⟩
  ·simp only [Leaf.val, Hd.sl, hz]
  ·rw [← hlen, hn]; simp only [cutC]; omega
  ·have hD := (VRow.take h3 (hi.getD xs.length)).drop (c := (ρ i).c) (lo.getD 0) (by omega)
   rw [hxs] at hD
   exact hD
 | nil => exact ⟨[], ⟨0, none, 0, 0, sz t⟩, h, rfl, rfl, rfl, Nat.le_refl _, (fun q hq => by cases hq), .inl ⟨rfl, rfl⟩⟩
 | _ => exact h.elim
def rootL (l : Leaf) (us : List Nat) : List Nat := match rootH l with
 | some q => q :: us
 | none => us
/-- .. that is handed on. -/
theorem tkRow_H (H : Mem w ok live w1 ρ fp me) {l : Leaf} {e : Nat} {t : Ty} {us : List Nat} {k : List (den t) → List Nat → Prg α} (hok : l.Ok ρ) (h : Out me (tkRow l e t us k) r) :
  ∃ xs us' h, Out me (k xs us') r ∧ l.val ρ = h.sl ∧ h.z = sz t ∧ (∀ q, l = .own q → h = ρ q) ∧ (∀ q, rootH l = some q → q ∉ us ∧ ∃ v e t xs, me q = some (.row v e t xs)) ∧ R w1 e t (fun k => ∃ r, rootH l = some r ∧ fp r k) h.sl xs ∧ us' = rootL l us := by
 cases l with
 | own i =>
  rcases bif_out h with ⟨_, h⟩ | ⟨hm, h⟩
  ·exact h.elim
  obtain ⟨p, hp, h⟩ := h
  cases p <;> first | exact h.elim | skip
  rename_i ver e' t' xs
  obtain ⟨he', h1⟩ := bif_fail h
  obtain ⟨he, h2⟩ := castL_out h1
  clear h h1
  subst he
  have he' := Nat.eq_of_beq_eq_true he'
  subst he'
  have hni : i ∉ us := fun hi => by rw [memb_iff.2 hi] at hm; cases hm
  exact ⟨xs, _, ρ i, h2, rfl, (H.on i _ hp).1, fun q hq => by (injection hq with hq; rw [hq]), fun q hq => by (injection hq with hq; subst hq; exact ⟨hni, _, _, _, _, hp⟩), R_imp (H.on i _ hp).2 (fun k hk => ⟨i, rfl, hk⟩) (fun _ _ => rfl), rfl⟩
 | cut i lo hi n size =>
  rcases bif_out h with ⟨_, h'⟩ | ⟨hm, h'⟩
  ·exact h'.elim
  clear h
  obtain ⟨p, hp, h'⟩ := h'
  cases p <;> first | exact h'.elim | skip
  rename_i ver e' t' xs
  obtain ⟨he', h1⟩ := bif_fail h'
  obtain ⟨he, h2⟩ := castL_out h1
  clear h' h1
  subst he
  have he' := Nat.eq_of_beq_eq_true he'
  subst he'
  have hni : i ∉ us := fun hi => by rw [memb_iff.2 hi] at hm; cases hm
  obtain ⟨hz, hR⟩ := H.on i _ hp
  obtain ⟨hlh, hh, hn, hs⟩ := hok
  have h1 : (ρ i).n = xs.length := (C_of_R hR).1
  subst hs
  have hxs : (xs.take (hi.getD (ρ i).n)).drop (lo.getD 0) = cutOf xs lo hi := by
   cases lo <;> cases hi <;> simp [cutOf, h1]
  refine ⟨cutOf xs lo hi, _, ⟨0, cutA (ρ i).A (ρ i).c (lo.getD 0) (sz t'), n, cutC (ρ i).c (lo.getD 0), sz t'⟩, h2, ?_, rfl, (fun q hq => by cases hq), fun q hq => by (injection hq with hq; subst hq; exact ⟨hni, _, _, _, _, hp⟩), ?_, rfl⟩
  ·simp only [Leaf.val, Hd.sl, hz]
  ·have hT := R_take (m := hi.getD (ρ i).n) hR (by omega)
   have hD := R_drop (m := lo.getD 0) hT (by rw [List.length_take]; omega)
   rw [hxs, ← hn] at hD
   exact R_imp hD (fun k hk => ⟨i, rfl, hk⟩) (fun _ _ => rfl)
 | nil => exact ⟨[], us, ⟨0, none, 0, 0, sz t⟩, h, rfl, rfl, (fun q hq => by cases hq), (fun q hq => by cases hq), R_nil _ _ _ _, rfl⟩
 | _ => exact h.elim
end

/-! ### a function's begin -/
def enterP (m e : Nat) (t : Ty) (xs : List (den t)) : Part := match m with
 | 0 => .view false e t xs
 | _ => .row 0 e t xs
def enterLsF : List LD → List Nat → Nat → List Leaf × Me × Nat
 | [], _, b => ([], [], b)
 | .lf l :: r, ms, b => (l :: (enterLsF r ms b).1, (enterLsF r ms b).2.1, (enterLsF r ms b).2.2)
 | .sl _ e t xs :: r, ms, b => (.own b :: (enterLsF r ms.tail (b + 1)).1, (b, some (enterP (ms.headD 1) e t xs)) :: (enterLsF r ms.tail (b + 1)).2.1, (enterLsF r ms.tail (b + 1)).2.2)
theorem enterLs_eq {R : Type _} : ∀ (ds : List LD) (ms : List Nat) (b : Nat) (K : List Leaf → Me → Nat → R), enterLs ds ms b K = K (enterLsF ds ms b).1 (enterLsF ds ms b).2.1 (enterLsF ds ms b).2.2
 | [], _, b, K => rfl
 | .lf l :: r, ms, b, K => enterLs_eq r ms b _
 | .sl pa e t xs :: r, [], b, K => enterLs_eq r _ (b + 1) _
 | .sl pa e t xs :: r, 0 :: ms, b, K => enterLs_eq r _ (b + 1) _
 | .sl pa e t xs :: r, (m + 1) :: ms, b, K => enterLs_eq r _ (b + 1) _
def cnt : List LD → Nat
 | [] => 0
 | .lf _ :: r => cnt r
 | .sl _ _ _ _ :: r => cnt r + 1
theorem cnt_append : ∀ (a b : List LD), cnt (a ++ b) = cnt a + cnt b
 | [], b => by simp [cnt]
 | .lf _ :: a, b => cnt_append a b
 | .sl _ _ _ _ :: a, b => by rw [List.cons_append, cnt, cnt, cnt_append a b]; omega
theorem cnt_descs : ∀ (t : Ty) (x : den t) (pa : List Bool), cnt (descs t x pa) = nsl t
 | .int _, _, _ => rfl
 | .bool, _, _ => rfl
 | .str, _, _ => rfl
 | .sl _ _, _, _ => rfl
 | .pair a b, x, pa => by rw [descs, cnt_append, cnt_descs a, cnt_descs b]; rfl
theorem enterLs_nx : ∀ (ds : List LD) (ms : List Nat) (b : Nat), (enterLsF ds ms b).2.2 = b + cnt ds
 | [], _, b => rfl
 | .lf _ :: r, ms, b => enterLs_nx r ms b
 | .sl _ _ _ _ :: r, ms, b => by simp only [enterLsF, enterLs_nx r, cnt]; omega
theorem drop_tail {α : Type} (l : List α) (m : Nat) : l.tail.drop m = l.drop (m + 1) := by cases l <;> simp
theorem enterLs_append : ∀ (ds es : List LD) (ms : List Nat) (b : Nat), enterLsF (ds ++ es) ms b = ((enterLsF ds ms b).1 ++ (enterLsF es (ms.drop (cnt ds)) (b + cnt ds)).1, (enterLsF ds ms b).2.1 ++ (enterLsF es (ms.drop (cnt ds)) (b + cnt ds)).2.1, b + cnt ds + cnt es)
 | [], es, ms, b => by
  have := enterLs_nx es ms b
  simp [enterLsF, cnt, ← this]
 | .lf _ :: r, es, ms, b => by simp only [List.cons_append, enterLsF, enterLs_append r es ms b, cnt]
 | .sl _ _ _ _ :: r, es, ms, b => by
  simp only [List.cons_append, enterLsF, enterLs_append r es ms.tail (b + 1), cnt, drop_tail]
  rw [show b + 1 + cnt r = b + (cnt r + 1) by omega]
def enterF : (ps : List PM) → Args ps → Nat → Nat → Sl × Me × Nat
 | [], _, _, b => ([], [], b)
 | .val st t ms :: ps, x, i, b =>
  let E := enterLsF (descs t x.1 []) ms b
  let F := enterF ps x.2 (i + 1) E.2.2
  ((i, .c (CV.of st E.1)) :: F.1, E.2.1 ++ F.2.1, F.2.2)
 | .ptr T t ms :: ps, x, i, b =>
  let E := enterLsF (descs t x.1 []) ms (b + 1)
  let F := enterF ps x.2 (i + 1) E.2.2
  ((i, lf (.ptr b 0)) :: F.1, (b, some (.blk T E.1)) :: (E.2.1 ++ F.2.1), F.2.2)
theorem enter_eq {R : Type _} : ∀ (ps : List PM) (x : Args ps) (i b : Nat) (K : Sl → Me → Nat → R), enter ps x i b K = K (enterF ps x i b).1 (enterF ps x i b).2.1 (enterF ps x i b).2.2
 | [], _, _, b, K => rfl
 | .val st t ms :: ps, x, i, b, K => by simp only [enter, enterLs_eq, enterF]; exact enter_eq ps _ _ _ _
 | .ptr T t ms :: ps, x, i, b, K => by simp only [enter, enterLs_eq, enterF]; exact enter_eq ps _ _ _ _

/-! ### what is handed to it -/
/-- The blocks that a call may write: those handed on, and new ones. -/
def okC (w1 : World) (fp : Nat → Nat → Prop) (U : List Nat) (k : Nat) : Prop := fpOf fp U k ∨ w1.heap.size ≤ k
def fpA (fp : Nat → Nat → Prop) (c : Acc) (k : Nat) : Prop := ∃ r, c.us = some r ∧ fp r k
structure AccOk (live : Nat → Prop) (ρ : Nat → Hd) (me : Nat → Option Part) (c : Acc) (h : Hd) : Prop where
 lin : c.l.In live ρ
 sl : c.l.val ρ = h.sl
 own : ∀ q, c.l = .own q → h = ρ q
 us : ∀ r, c.us = some r → HB me r
 hz : ∀ q z, c.l = .own q → c.us = some z → z = q
theorem heldOf_append : ∀ (a b : List Acc), heldOf (a ++ b) = heldOf a ++ heldOf b
 | [], b => rfl
 | ⟨_, none, _⟩ :: a, b => by simp [heldOf, heldOf_append a b]
 | ⟨_, some _, _⟩ :: a, b => by simp [heldOf, heldOf_append a b]
theorem readOf_append : ∀ (a b : List Acc), readOf (a ++ b) = readOf a ++ readOf b
 | [], b => rfl
 | ⟨_, _, none⟩ :: a, b => by simp [readOf, readOf_append a b]
 | ⟨_, _, some _⟩ :: a, b => by simp [readOf, readOf_append a b]
theorem held_mem : ∀ {a : List Acc} {c : Acc} {r : Nat}, c ∈ a → c.us = some r → r ∈ heldOf a
 | d :: a, c, r, h, hr => by
  rcases List.mem_cons.1 h with rfl | h
  ·simp [heldOf, hr]
  ·simp only [heldOf]
   split
   ·exact List.mem_cons_of_mem _ (held_mem h hr)
   ·exact held_mem h hr
theorem read_mem : ∀ {a : List Acc} {c : Acc} {r : Nat}, c ∈ a → c.vs = some r → r ∈ readOf a
 | d :: a, c, r, h, hr => by
  rcases List.mem_cons.1 h with rfl | h
  ·simp [readOf, hr]
  ·simp only [readOf]
   split
   ·exact List.mem_cons_of_mem _ (read_mem h hr)
   ·exact read_mem h hr
theorem held_of : ∀ {a : List Acc} {r : Nat}, r ∈ heldOf a → ∃ c ∈ a, c.us = some r
 | d :: a, r, h => by
  simp only [heldOf] at h
  split at h
  ·rename_i q hq
   rcases List.mem_cons.1 h with rfl | h
   ·exact ⟨d, by simp, hq⟩
   ·obtain ⟨c, hc, he⟩ := held_of h
    exact ⟨c, by simp [hc], he⟩
  ·obtain ⟨c, hc, he⟩ := held_of h
   exact ⟨c, by simp [hc], he⟩
/-- What is handed on is handed on once. -/
theorem held_one : ∀ {a : List Acc} {i j : Nat} {c d : Acc} {r : Nat}, (heldOf a).Nodup → a[i]? = some c → a[j]? = some d → c.us = some r → d.us = some r → i = j
 | [], i, _, _, _, _, _, h, _, _, _ => by simp at h
 | e :: a, 0, 0, _, _, _, _, _, _, _, _ => rfl
 | e :: a, 0, j + 1, c, d, r, hn, hi, hj, hc, hd => by
  obtain rfl : e = c := by simpa using hi
  simp only [heldOf, hc] at hn
  exact absurd (held_mem (List.mem_of_getElem? (by simpa using hj)) hd) (List.nodup_cons.1 hn).1
 | e :: a, i + 1, 0, c, d, r, hn, hi, hj, hc, hd => by
  obtain rfl : e = d := by simpa using hj
  simp only [heldOf, hd] at hn
  exact absurd (held_mem (List.mem_of_getElem? (by simpa using hi)) hc) (List.nodup_cons.1 hn).1
 | e :: a, i + 1, j + 1, c, d, r, hn, hi, hj, hc, hd => by
  have hn' : (heldOf a).Nodup := by
   simp only [heldOf] at hn
   split at hn
   ·exact (List.nodup_cons.1 hn).2
   ·exact hn
  have := held_one hn' (show a[i]? = some c by simpa using hi) (show a[j]? = some d by simpa using hj) hc hd
  omega
section
variable {me : Nat → Option Part} {r : SV × Me} {w w1 : World} {ok live : Nat → Prop} {ρ : Nat → Hd} {fp : Nat → Nat → Prop}
/-- What is read is not written. -/
theorem seen_out (H : Mem w ok live w1 ρ fp me) {U : List Nat} {q k : Nat} (hq : q ∉ U) (h : Seen w ok (fp q) k) (hk : k < w1.heap.size) : ¬ okC w1 fp U k := by
 rintro (⟨i, hi, hik⟩ | h2)
 ·rcases h with h | ⟨_, h⟩
  ·exact hq (H.dis _ _ k h hik ▸ hi)
  ·exact h (H.fpk i k hik).1
 ·omega
theorem seen_lt (H : Mem w ok live w1 ρ fp me) {q k : Nat} (h : Seen w ok (fp q) k) : k < w1.heap.size := h.elim (fun h => (H.fpk q k h).2) (fun h => Nat.lt_of_lt_of_le h.1 H.size)
theorem rootA_out {l : Leaf} {k : Option Nat → OP} (h : Out me (rootA l k) r) : ∃ v, Out me (k v) r ∧ (∀ q, (l = .own q ∨ ∃ lo hi n s, l = .cut q lo hi n s) → v = some (rootOf me q)) := by
 cases l with
 | own q =>
  obtain ⟨p, hp, h⟩ := h
  cases p <;> refine ⟨_, h, fun q' hq' => ?_⟩ <;> (rcases hq' with hq' | ⟨_, _, _, _, hq'⟩) <;> first | (injection hq' with hq'; subst hq'; simp [rootOf, hp]) | cases hq'
 | cut q lo hi n s =>
  obtain ⟨p, hp, h'⟩ := h
  cases p <;> refine ⟨_, h', fun q' hq' => ?_⟩ <;> (rcases hq' with hq' | ⟨_, _, _, _, hq'⟩) <;> first | (injection hq' with hq' _ _ _ _; subst hq'; simp [rootOf, hp]) | cases hq'
 | _ => exact ⟨none, h, fun q hq => by rcases hq with hq | ⟨_, _, _, _, hq⟩ <;> cases hq⟩
end
end Go.Proofs.YthncjcfnpfajaaaA
