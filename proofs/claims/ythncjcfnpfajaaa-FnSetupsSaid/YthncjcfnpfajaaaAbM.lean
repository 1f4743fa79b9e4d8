/- What the abstract machine's parts say of memory: rows of one's own with the rows inside them, each apart from all others. Plain lemmas; no condition. -/
import Derived.Test.YthncjcfnpfajaaaWWords
import Derived.Test.YthncjcfnpfajaaaAb
namespace Go.Proofs.YthncjcfnpfajaaaA
open Go Go.RowKit Go.Proofs.YthncjcfnpfajaaaW.PrintWords
set_option linter.unusedVariables false
set_option linter.unusedSimpArgs false

/-- The kind of what is read. -/
def kd : (t : Ty) → Kd (den t)
 | .int k => Kd.int k
 | .bool => Kd.bool
 | .str => Kd.string
 | .sl e t => Kd.slice e (kd t)
 | .pair a b => Kd.pair (kd a) (kd b)
theorem kd_sz : ∀ t, (kd t).sz = sz t
 | .int _ => rfl
 | .bool => rfl
 | .str => rfl
 | .sl _ _ => rfl
 | .pair a b => by
  show (kd a).sz + (kd b).sz = sz a + sz b
  rw [kd_sz a, kd_sz b]
theorem sz_pos : ∀ t, 0 < sz t
 | .int _ => Nat.one_pos
 | .bool => Nat.one_pos
 | .str => Nat.one_pos
 | .sl _ _ => Nat.one_pos
 | .pair a b => Nat.add_pos_left (sz_pos a) _

/-- Two sets apart in a third. -/
def Sub2 (p q r : Nat → Prop) : Prop := (∀ k, p k → r k) ∧ (∀ k, q k → r k) ∧ ∀ k, p k → ¬ q k
theorem Sub2.mono {p q r r' : Nat → Prop} (h : Sub2 p q r) (hr : ∀ k, r k → r' k) : Sub2 p q r' := ⟨fun k hk => hr k (h.1 k hk), fun k hk => hr k (h.2.1 k hk), h.2.2⟩
/-- Elements one behind the other. -/
def Els {α : Type} (R : (Nat → Prop) → α → List Value → Prop) (size : Nat) : (Nat → Prop) → List α → List Value → Prop
 | _, [], cs => cs = []
 | p, x :: xs, cs => ∃ c r p0 p1, cs = c ++ r ∧ c.length = size ∧ Sub2 p0 p1 p ∧ R p0 x c ∧ Els R size p1 xs r
/-- A row of one's own. -/
def RowR {α : Type} (R : (Nat → Prop) → α → List Value → Prop) (size : Nat) (w : World) (e : Nat) (p : Nat → Prop) (v : Value) (xs : List α) : Prop :=
 ∃ inner, QRow w 0 e size v xs.length inner ∧ (∀ k, v.ownBlock = some k → p k) ∧ Els R size (fun k => p k ∧ v.ownBlock ≠ some k) xs inner
/-- Cells that were made, with the rows inside. -/
def M (w : World) : (t : Ty) → (Nat → Prop) → den t → List Value → Prop
 | .int k, _, x, cs => cs = [.int k x]
 | .bool, _, x, cs => cs = [.bool x]
 | .str, _, x, cs => cs = [.string x]
 | .sl e t, p, x, cs => ∃ v, cs = [v] ∧ RowR (M w t) (sz t) w e p v x
 | .pair a b, p, x, cs => ∃ c0 c1 p0 p1, cs = c0 ++ c1 ∧ Sub2 p0 p1 p ∧ M w a p0 x.1 c0 ∧ M w b p1 x.2 c1
abbrev R (w : World) (e : Nat) (t : Ty) : (Nat → Prop) → Value → List (den t) → Prop := RowR (M w t) (sz t) w e

section
variable {α : Type} {R R' : (Nat → Prop) → α → List Value → Prop} {size : Nat}
theorem Els.imp : ∀ {p p' : Nat → Prop} {xs : List α} {cs : List Value}, Els R size p xs cs → (∀ k, p k → p' k) → (∀ q x c, (∀ k, q k → p k) → R q x c → R' q x c) → Els R' size p' xs cs
 | _, _, [], _, h, _, _ => h
 | p, p', x :: xs, cs, ⟨c, r, p0, p1, e, hl, hs, hx, hr⟩, hp, hR => ⟨c, r, p0, p1, e, hl, hs.mono hp, hR _ _ _ hs.1 hx, hr.imp (fun _ h => h) (fun q x c hq => hR q x c (fun k hk => hs.2.1 k (hq k hk)))⟩
theorem Els.mono {p p' : Nat → Prop} {xs : List α} {cs : List Value} (h : Els R size p xs cs) (hp : ∀ k, p k → p' k) : Els R size p' xs cs := h.imp hp (fun _ _ _ _ h => h)
theorem Els.len : ∀ {p : Nat → Prop} {xs : List α} {cs : List Value}, Els R size p xs cs → cs.length = xs.length * size
 | _, [], _, h => by rw [h]; simp
 | _, x :: xs, _, ⟨c, r, _, _, e, hl, _, _, hr⟩ => by rw [e, List.length_append, hl, hr.len, List.length_cons, Nat.succ_mul, Nat.add_comm]
theorem Els.append : ∀ {p q r : Nat → Prop} {xs ys : List α} {cs ds : List Value}, Els R size p xs cs → Els R size q ys ds → Sub2 p q r → Els R size r (xs ++ ys) (cs ++ ds)
 | p, q, r, [], ys, cs, ds, h, h', hs => by
  rw [show cs = [] from h, List.nil_append, List.nil_append]
  exact h'.mono hs.2.1
 | p, q, r, x :: xs, ys, cs, ds, ⟨c, rr, p0, p1, e, hl, hs, hx, hr⟩, h', hs' => by
  subst e
  refine ⟨c, rr ++ ds, p0, fun k => p1 k ∨ q k, by rw [List.append_assoc], hl, ⟨fun k hk => hs'.1 k (hs.1 k hk), fun k hk => hk.elim (fun h => hs'.1 k (hs.2.1 k h)) (hs'.2.1 k), fun k hk h => h.elim (hs.2.2 k hk) (hs'.2.2 k (hs.1 k hk))⟩, hx, ?_⟩
  exact hr.append h' ⟨fun k hk => .inl hk, fun k hk => .inr hk, fun k hk => hs'.2.2 k (hs.2.1 k hk)⟩
/-- One element, and what it may become. -/
theorem Els.at : ∀ {p : Nat → Prop} {xs : List α} {cs : List Value} (i : Nat) {x : α}, Els R size p xs cs → xs[i]? = some x →
  ∃ c pi pr, cs = cs.take (i * size) ++ c ++ cs.drop (i * size + size) ∧ (cs.drop (i * size)).take size = c ∧ c.length = size ∧ Sub2 pi pr p ∧ R pi x c ∧
   ∀ {R' : (Nat → Prop) → α → List Value → Prop} {q p' : Nat → Prop} {x' : α} {c' : List Value}, (∀ q x c, (∀ k, q k → pr k) → R q x c → R' q x c) → R' q x' c' → c'.length = size → Sub2 q pr p' →
    Els R' size p' (xs.set i x') (cs.take (i * size) ++ c' ++ cs.drop (i * size + size))
 | _, [], _, i, _, _, h => by simp at h
 | p, x0 :: xs, cs, 0, x, ⟨c, r, p0, p1, e, hl, hs, hx, hr⟩, h => by
  obtain rfl : x0 = x := by simpa using h
  subst e
  refine ⟨c, p0, p1, by simp [← hl], by simp [← hl], hl, hs, hx, ?_⟩
  intro R' q p' x' c' hR hx' hl' hs'
  refine ⟨c', r, q, p1, by simp [← hl], hl', hs', hx', hr.imp (fun _ h => h) (fun q x c hq => hR q x c hq)⟩
 | p, x0 :: xs, cs, i + 1, x, ⟨c, r, p0, p1, e, hl, hs, hx, hr⟩, h => by
  obtain ⟨c1, pi, pr, e1, e2, hl1, hs1, hx1, hc1⟩ := Els.at i hr (by simpa using h)
  subst e
  have e3 : (i + 1) * size = c.length + i * size := by rw [Nat.succ_mul, hl]; omega
  have t1 : (c ++ r).take ((i + 1) * size) = c ++ r.take (i * size) := by rw [e3, List.take_length_add_append]
  have d1 : (c ++ r).drop ((i + 1) * size + size) = r.drop (i * size + size) := by rw [e3, Nat.add_assoc, List.drop_length_add_append]
  have d2 : (c ++ r).drop ((i + 1) * size) = r.drop (i * size) := by rw [e3, List.drop_length_add_append]
  refine ⟨c1, pi, fun k => p0 k ∨ pr k, ?_, by rw [d2, e2], hl1, ⟨fun k hk => hs.2.1 k (hs1.1 k hk), fun k hk => hk.elim (hs.1 k) (fun h => hs.2.1 k (hs1.2.1 k h)), fun k hk h => h.elim (fun h0 => hs.2.2 k h0 (hs1.1 k hk)) (hs1.2.2 k hk)⟩, hx1, ?_⟩
  ·rw [t1, d1, List.append_assoc, List.append_assoc, ← List.append_assoc (r.take _), ← e1]
  ·intro R' q p' x' c' hR hx' hl' hs'
   rw [t1, d1, List.set_cons_succ]
   refine ⟨c, r.take (i * size) ++ c' ++ r.drop (i * size + size), p0, fun k => q k ∨ pr k, by simp [List.append_assoc], hl, ⟨fun k hk => hs'.2.1 k (.inl hk), fun k hk => hk.elim (hs'.1 k) (fun h => hs'.2.1 k (.inr h)), fun k hk h => h.elim (fun h0 => hs'.2.2 k h0 (.inl hk)) (fun h0 => hs.2.2 k hk (hs1.2.1 k h0))⟩, hR _ _ _ (fun k hk => .inl hk) hx, ?_⟩
   exact hc1 (R' := R') (fun q x c hq => hR q x c (fun k hk => .inr (hq k hk))) hx' hl' ⟨fun k hk => .inl hk, fun k hk => .inr hk, fun k hk hr => hs'.2.2 k hk (.inr hr)⟩
theorem Els.take : ∀ {p : Nat → Prop} {xs : List α} {cs : List Value} (m : Nat), Els R size p xs cs → Els R size p (xs.take m) (cs.take (m * size))
 | p, [], cs, m, h => by rw [show cs = [] from h]; simp [Els]
 | p, x :: xs, cs, 0, h => by simp [Els]
 | p, x :: xs, cs, m + 1, ⟨c, r, p0, p1, e, hl, hs, hx, hr⟩ => by
  subst e
  rw [List.take_succ_cons, show (m + 1) * size = c.length + m * size by rw [Nat.succ_mul, hl]; omega, List.take_length_add_append]
  exact ⟨c, _, p0, p1, rfl, hl, hs, hx, hr.take m⟩
theorem Els.drop : ∀ {p : Nat → Prop} {xs : List α} {cs : List Value} (m : Nat), Els R size p xs cs → Els R size p (xs.drop m) (cs.drop (m * size))
 | p, [], cs, m, h => by rw [show cs = [] from h]; simp [Els]
 | p, x :: xs, cs, 0, h => by simpa using h
 | p, x :: xs, cs, m + 1, ⟨c, r, p0, p1, e, hl, hs, hx, hr⟩ => by
  subst e
  rw [List.drop_succ_cons, show (m + 1) * size = c.length + m * size by rw [Nat.succ_mul, hl]; omega, List.drop_length_add_append]
  exact (hr.drop m).mono hs.2.1
theorem Els.get {p : Nat → Prop} {xs : List α} {cs : List Value} (h : Els R size p xs cs) (j : Nat) {x : α} (hj : xs[j]? = some x) : ∃ q, (∀ k, q k → p k) ∧ R q x ((cs.drop (j * size)).take size) := by
 obtain ⟨c, pi, pr, _, e2, _, hs, hx, _⟩ := Els.at j h hj
 exact ⟨pi, hs.1, e2 ▸ hx⟩
end

/-! ### what is made moves -/
section
variable {α : Type} {w w1 : World} {size e : Nat} {v : Value} {xs : List α} {p p' : Nat → Prop}
theorem RowR.imp {R R' : (Nat → Prop) → α → List Value → Prop} (h : RowR R size w e p v xs) (hp : ∀ k, p k → p' k) (hm : ∀ k, p k → w1.heap[k]? = w.heap[k]?) (hR : ∀ q x c, (∀ k, q k → p k) → R q x c → R' q x c) : RowR R' size w1 e p' v xs := by
 obtain ⟨inner, hq, ho, hs⟩ := h
 exact ⟨inner, q_move hq (fun k hk => hm k (ho k hk)), fun k hk => hp k (ho k hk), hs.imp (fun k hk => ⟨hp k hk.1, hk.2⟩) (fun q x c hq => hR q x c (fun k hk => (hq k hk).1))⟩
end
theorem M_imp {w w1 : World} : ∀ (t : Ty) {p p' : Nat → Prop} {x : den t} {cs : List Value}, M w t p x cs → (∀ k, p k → p' k) → (∀ k, p k → w1.heap[k]? = w.heap[k]?) → M w1 t p' x cs
 | .int _, _, _, _, _, h, _, _ => h
 | .bool, _, _, _, _, h, _, _ => h
 | .str, _, _, _, _, h, _, _ => h
 | .sl e t, p, p', x, cs, ⟨v, hv, h⟩, hp, hm => ⟨v, hv, RowR.imp h hp hm (fun q x c hq h => M_imp t h (fun _ h => h) (fun k hk => hm k (hq k hk)))⟩
 | .pair a b, p, p', x, cs, ⟨c0, c1, p0, p1, e, hs, h0, h1⟩, hp, hm => ⟨c0, c1, p0, p1, e, hs.mono hp, M_imp a h0 (fun _ h => h) (fun k hk => hm k (hs.1 k hk)), M_imp b h1 (fun _ h => h) (fun k hk => hm k (hs.2.1 k hk))⟩
theorem M_mono {w : World} {t : Ty} {p p' : Nat → Prop} {x : den t} {cs : List Value} (h : M w t p x cs) (hp : ∀ k, p k → p' k) : M w t p' x cs := M_imp t h hp (fun _ _ => rfl)
theorem M_move {w w1 : World} {t : Ty} {p : Nat → Prop} {x : den t} {cs : List Value} (h : M w t p x cs) (hm : ∀ k, p k → w1.heap[k]? = w.heap[k]?) : M w1 t p x cs := M_imp t h (fun _ h => h) hm
theorem R_imp {w w1 : World} {e : Nat} {t : Ty} {p p' : Nat → Prop} {v : Value} {xs : List (den t)} (h : R w e t p v xs) (hp : ∀ k, p k → p' k) (hm : ∀ k, p k → w1.heap[k]? = w.heap[k]?) : R w1 e t p' v xs :=
 RowR.imp h hp hm (fun q x c hq h => M_imp t h (fun _ h => h) (fun k hk => hm k (hq k hk)))
theorem M_len {w : World} : ∀ (t : Ty) {p : Nat → Prop} {x : den t} {cs : List Value}, M w t p x cs → cs.length = sz t
 | .int _, _, _, _, h => by rw [show _ = [_] from h]; rfl
 | .bool, _, _, _, h => by rw [show _ = [_] from h]; rfl
 | .str, _, _, _, h => by rw [show _ = [_] from h]; rfl
 | .sl _ _, _, _, _, ⟨_, h, _⟩ => by rw [h]; rfl
 | .pair a b, _, _, _, ⟨_, _, _, _, e, _, h0, h1⟩ => by rw [e, List.length_append, M_len a h0, M_len b h1]; rfl
theorem q_one {w : World} {e size n : Nat} {v : Value} {xs : List Value} (h : QRow w 0 e size v n xs) : v.oneCell' = true := by
 obtain ⟨A, c, rfl, _⟩ := q_slice h
 rfl
theorem M_one {w : World} : ∀ (t : Ty) {p : Nat → Prop} {x : den t} {cs : List Value}, M w t p x cs → ∀ u ∈ cs, u.oneCell' = true
 | .int _, _, _, _, h => by rw [show _ = [_] from h]; intro u hu; rw [List.mem_singleton.1 hu]; rfl
 | .bool, _, _, _, h => by rw [show _ = [_] from h]; intro u hu; rw [List.mem_singleton.1 hu]; rfl
 | .str, _, _, _, h => by rw [show _ = [_] from h]; intro u hu; rw [List.mem_singleton.1 hu]; rfl
 | .sl _ _, _, _, _, ⟨v, h, _, hq, _⟩ => by rw [h]; intro u hu; rw [List.mem_singleton.1 hu]; exact q_one hq
 | .pair a b, _, _, _, ⟨_, _, _, _, e, _, h0, h1⟩ => by
  rw [e]; intro u hu
  exact (List.mem_append.1 hu).elim (M_one a h0 u) (M_one b h1 u)
/-- What was made is read. -/
theorem C_of_els {α : Type} {d : Kd α} {R : (Nat → Prop) → α → List Value → Prop} {w : World} {e c n : Nat} {A : Option Addr} {p : Nat → Prop} {xs : List α} {inner : List Value} (hq : QRow w 0 e d.sz (.slice A n c) xs.length inner) (hs : Els R d.sz p xs inner) (hR : ∀ q x c, R q x c → d.K w x c) : n = xs.length ∧ n ≤ c ∧ d.C w A xs.length xs := by
 obtain ⟨A', c', he, hl⟩ := q_slice hq
 injection he with h1 h2 h3
 subst h1; subst h2; subst h3
 refine ⟨rfl, hl, rfl, q_max hq, fun hp => ?_⟩
 obtain ⟨ad, ha, hc⟩ := q_cells hq hp
 refine ⟨ad, ha, fun j x hj => ⟨(inner.drop (j * d.sz)).take d.sz, ?_, ?_, fun i u hu => ?_⟩⟩
 ·have hjl := (List.getElem?_eq_some_iff.1 hj).1
  have h1 : j * d.sz + d.sz ≤ inner.length := by rw [hs.len, ← Nat.succ_mul]; exact Nat.mul_le_mul_right _ hjl
  rw [List.length_take, List.length_drop]
  omega
 ·obtain ⟨q, _, h⟩ := hs.get j hj
  exact hR _ _ _ h
 ·refine hc _ u ?_
  rw [List.getElem?_take] at hu
  split at hu
  ·rw [List.getElem?_drop] at hu
   exact hu
  ·cases hu
theorem K_of_M {w : World} : ∀ (t : Ty) {p : Nat → Prop} {x : den t} {cs : List Value}, M w t p x cs → (kd t).K w x cs
 | .int _, _, _, _, h => h
 | .bool, _, _, _, h => h
 | .str, _, _, _, h => h
 | .sl e t, _, x, _, ⟨v, h, inner, hq, _, hs⟩ => by
  obtain ⟨A, c, rfl, hl⟩ := q_slice hq
  rw [← kd_sz t] at hq hs
  obtain ⟨_, h2, h3⟩ := C_of_els (d := kd t) hq hs (fun _ _ _ h => K_of_M t h)
  exact ⟨A, c, h, h2, h3⟩
 | .pair a b, _, _, _, ⟨c0, c1, _, _, e, _, h0, h1⟩ => ⟨c0, c1, e, K_of_M a h0, K_of_M b h1⟩
theorem C_of_R {w : World} {e : Nat} {t : Ty} {p : Nat → Prop} {A : Option Addr} {n c : Nat} {xs : List (den t)} (h : R w e t p (.slice A n c) xs) : n = xs.length ∧ n ≤ c ∧ (kd t).C w A xs.length xs := by
 obtain ⟨inner, hq, _, hs⟩ := h
 rw [← kd_sz t] at hq hs
 exact C_of_els (d := kd t) hq hs (fun _ _ _ h => K_of_M t h)
theorem R_slice {w : World} {e : Nat} {t : Ty} {p : Nat → Prop} {v : Value} {xs : List (den t)} (h : R w e t p v xs) : ∃ A c, v = .slice A xs.length c := by
 obtain ⟨inner, hq, _, _⟩ := h
 obtain ⟨A, c, hv, _⟩ := q_slice hq
 exact ⟨A, c, hv⟩
theorem R_nil (w : World) (e : Nat) (t : Ty) (p : Nat → Prop) : R w e t p (.slice none 0 0) [] :=
 ⟨[], ⟨by simp, .inl ⟨rfl, none, rfl, fun a h => by cases h⟩⟩, fun k hk => by simp [Value.ownBlock] at hk, rfl⟩
theorem R_lt {w : World} {e : Nat} {t : Ty} {p : Nat → Prop} {v : Value} {xs : List (den t)} (h : R w e t p v xs) (k : Nat) (hk : v.ownBlock = some k) : k < w.heap.size := by
 obtain ⟨inner, hq, _, _⟩ := h
 exact q_lt hq k hk
/-- Only blocks of the world. -/
theorem M_bound {w : World} : ∀ (t : Ty) {p : Nat → Prop} {x : den t} {cs : List Value}, M w t p x cs → M w t (fun k => p k ∧ k < w.heap.size) x cs
 | .int _, _, _, _, h => h
 | .bool, _, _, _, h => h
 | .str, _, _, _, h => h
 | .sl e t, p, x, cs, ⟨v, hv, inner, hq, ho, hs⟩ => by
  refine ⟨v, hv, inner, hq, fun k hk => ⟨ho k hk, q_lt hq k hk⟩, ?_⟩
  have key : ∀ {q : Nat → Prop} {xs : List (den t)} {cs : List Value}, Els (M w t) (sz t) q xs cs → Els (M w t) (sz t) (fun k => q k ∧ k < w.heap.size) xs cs := by
   intro q xs
   induction xs generalizing q with
   | nil => intro cs h; exact h
   | cons x xs ih =>
    rintro cs ⟨c, r, p0, p1, e, hl, hs, hx, hr⟩
    exact ⟨c, r, fun k => p0 k ∧ k < w.heap.size, fun k => p1 k ∧ k < w.heap.size, e, hl, ⟨fun k hk => ⟨hs.1 k hk.1, hk.2⟩, fun k hk => ⟨hs.2.1 k hk.1, hk.2⟩, fun k hk h => hs.2.2 k hk.1 h.1⟩, M_bound t hx, ih hr⟩
  exact (key hs).mono (fun k hk => ⟨⟨hk.1.1, hk.2⟩, hk.1.2⟩)
 | .pair a b, p, x, cs, ⟨c0, c1, p0, p1, e, hs, h0, h1⟩ =>
  ⟨c0, c1, fun k => p0 k ∧ k < w.heap.size, fun k => p1 k ∧ k < w.heap.size, e, ⟨fun k hk => ⟨hs.1 k hk.1, hk.2⟩, fun k hk => ⟨hs.2.1 k hk.1, hk.2⟩, fun k hk h => hs.2.2 k hk.1 h.1⟩, M_bound a h0, M_bound b h1⟩
theorem R_bound {w : World} {e : Nat} {t : Ty} {p : Nat → Prop} {v : Value} {xs : List (den t)} (h : R w e t p v xs) : R w e t (fun k => p k ∧ k < w.heap.size) v xs := by
 obtain ⟨v', hv, h'⟩ := M_bound (.sl e t) (x := xs) ⟨v, rfl, h⟩
 injection hv with hv
 subst hv
 exact h'
/-- A plain kind has no rows inside: what is read was as good as made. -/
theorem M_of_K {w : World} : ∀ (t : Ty) {p : Nat → Prop} {x : den t} {cs : List Value}, flat t = true → (kd t).K w x cs → M w t p x cs
 | .int _, _, _, _, _, h => h
 | .bool, _, _, _, _, h => h
 | .str, _, _, _, _, h => h
 | .sl _ _, _, _, _, h, _ => by cases h
 | .pair a b, p, _, _, hf, ⟨c0, c1, e, h0, h1⟩ => by
  have hf' : flat a = true ∧ flat b = true := by simpa [flat] using hf
  exact ⟨c0, c1, fun _ => False, fun _ => False, e, ⟨fun _ h => h.elim, fun _ h => h.elim, fun _ h _ => h⟩, M_of_K a hf'.1 h0, M_of_K b hf'.2 h1⟩
/-- Rows of one's own, cut. -/
theorem R_take {w : World} {e : Nat} {t : Ty} {p : Nat → Prop} {A : Option Addr} {n m c : Nat} {xs : List (den t)} (h : R w e t p (.slice A n c) xs) (hm : m ≤ xs.length) : R w e t p (.slice A m c) (xs.take m) := by
 obtain ⟨inner, hq, ho, hs⟩ := h
 obtain ⟨A', c', he, _⟩ := q_slice hq
 injection he with h1 h2 h3
 subst h1; subst h2; subst h3
 have hb : ∀ x y : Nat, (Value.slice A x c).ownBlock = (Value.slice A y c).ownBlock := by
  intro x y
  cases A <;> rfl
 refine ⟨inner.take (m * sz t), ?_, fun k hk => ho k (by rw [hb _ m]; exact hk), ?_⟩
 ·rw [List.length_take, Nat.min_eq_left hm]
  exact q_take hq hm
 ·rw [hb m xs.length]
  exact hs.take m
def cutA (A : Option Addr) (c m size : Nat) : Option Addr := if c = m then A else A.map (·.add (m * size))
def cutC (c m : Nat) : Nat := c - m
theorem cut_own (A : Option Addr) (n c m k c' size : Nat) : (Value.slice (cutA A c m size) n c').ownBlock = (Value.slice A k c).ownBlock := by
 unfold cutA
 split
 ·cases A <;> rfl
 ·cases A with
  | none => rfl
  | some a => simp [Value.ownBlock]; unfold Addr.add; split <;> rfl
theorem R_drop {w : World} {e : Nat} {t : Ty} {p : Nat → Prop} {A : Option Addr} {n m c : Nat} {xs : List (den t)} (h : R w e t p (.slice A n c) xs) (hm : m ≤ xs.length) : R w e t p (.slice (cutA A c m (sz t)) (n - m) (cutC c m)) (xs.drop m) := by
 obtain ⟨inner, hq, ho, hs⟩ := h
 obtain ⟨A', c', he, _⟩ := q_slice hq
 injection he with h1 h2 h3
 subst h1; subst h2; subst h3
 refine ⟨inner.drop (m * sz t), ?_, fun k hk => ho k (by rw [← cut_own A _ c m xs.length (cutC c m) (sz t)]; exact hk), ?_⟩
 ·rw [List.length_drop]
  exact q_drop hq hm
 ·rw [cut_own A _ c m xs.length (cutC c m) (sz t)]
  exact hs.drop m
/-! ### what is read: all of it in blocks of S -/
def VRow {α : Type} (V : α → List Value → Prop) (size : Nat) (w : World) (S : Nat → Prop) (A : Option Addr) (xs : List α) : Prop :=
 xs.length ≤ 9223372036854775807 ∧ (0 < xs.length → ∃ ad, A = some ad ∧ S ad.block ∧ ∀ (j : Nat) x, xs[j]? = some x → ∃ c : List Value, c.length = size ∧ V x c ∧ ∀ (i : Nat) u, c[i]? = some u → w.cell? (ad.add (j * size + i)) = some u)
def V (w : World) (S : Nat → Prop) : (t : Ty) → den t → List Value → Prop
 | .int k, x, cs => cs = [.int k x]
 | .bool, x, cs => cs = [.bool x]
 | .str, x, cs => cs = [.string x]
 | .sl _ t, x, cs => ∃ A c, cs = [.slice A x.length c] ∧ x.length ≤ c ∧ VRow (V w S t) (sz t) w S A x
 | .pair a b, x, cs => ∃ c0 c1, cs = c0 ++ c1 ∧ V w S a x.1 c0 ∧ V w S b x.2 c1
abbrev VC (w : World) (S : Nat → Prop) (t : Ty) : Option Addr → List (den t) → Prop := VRow (V w S t) (sz t) w S
theorem cell_eq {w w1 : World} {a : Addr} (h : w1.heap[a.block]? = w.heap[a.block]?) : w1.cell? a = w.cell? a := by simp [World.cell?, h]
theorem cell_lt {w : World} {a : Addr} {u : Value} (h : w.cell? a = some u) : a.block < w.heap.size := by
 rcases Nat.lt_or_ge a.block w.heap.size with h1 | h1
 ·exact h1
 ·simp [World.cell?, h1] at h
theorem addb (a : Addr) (m : Nat) : (a.add m).block = a.block := by unfold Addr.add; split <;> rfl
theorem VRow.imp {α : Type} {V V' : α → List Value → Prop} {size : Nat} {w w1 : World} {S S' : Nat → Prop} {A : Option Addr} {xs : List α} (h : VRow V size w S A xs) (hS : ∀ k, S k → S' k) (hm : ∀ k, S k → w1.heap[k]? = w.heap[k]?) (hV : ∀ x c, V x c → V' x c) : VRow V' size w1 S' A xs := by
 refine ⟨h.1, fun h0 => ?_⟩
 obtain ⟨ad, hA, hs, hc⟩ := h.2 h0
 refine ⟨ad, hA, hS _ hs, fun j x hj => ?_⟩
 obtain ⟨c, hl, hv, hu⟩ := hc j x hj
 exact ⟨c, hl, hV _ _ hv, fun i u hi => (cell_eq (by rw [addb]; exact hm _ hs)).trans (hu i u hi)⟩
theorem V_imp {w w1 : World} {S S' : Nat → Prop} (hS : ∀ k, S k → S' k) (hm : ∀ k, S k → w1.heap[k]? = w.heap[k]?) : ∀ (t : Ty) {x : den t} {cs : List Value}, V w S t x cs → V w1 S' t x cs
 | .int _, _, _, h => h
 | .bool, _, _, h => h
 | .str, _, _, h => h
 | .sl _ t, _, _, ⟨A, c, h, hl, hv⟩ => ⟨A, c, h, hl, hv.imp hS hm (fun _ _ h => V_imp hS hm t h)⟩
 | .pair a b, _, _, ⟨c0, c1, e, h0, h1⟩ => ⟨c0, c1, e, V_imp hS hm a h0, V_imp hS hm b h1⟩
theorem VC_imp {w w1 : World} {S S' : Nat → Prop} {t : Ty} {A : Option Addr} {xs : List (den t)} (h : VC w S t A xs) (hS : ∀ k, S k → S' k) (hm : ∀ k, S k → w1.heap[k]? = w.heap[k]?) : VC w1 S' t A xs := h.imp hS hm (fun _ _ h => V_imp hS hm t h)
theorem VRow.reads {α : Type} {d : Kd α} {V : α → List Value → Prop} {w : World} {S : Nat → Prop} {A : Option Addr} {xs : List α} (h : VRow V d.sz w S A xs) (hK : ∀ x c, V x c → d.K w x c) : d.C w A xs.length xs := by
 refine ⟨rfl, h.1, fun h0 => ?_⟩
 obtain ⟨ad, hA, _, hc⟩ := h.2 h0
 refine ⟨ad, hA, fun j x hj => ?_⟩
 obtain ⟨c, hl, hv, hu⟩ := hc j x hj
 exact ⟨c, hl, hK _ _ hv, hu⟩
theorem K_of_V {w : World} {S : Nat → Prop} : ∀ (t : Ty) {x : den t} {cs : List Value}, V w S t x cs → (kd t).K w x cs
 | .int _, _, _, h => h
 | .bool, _, _, h => h
 | .str, _, _, h => h
 | .sl _ t, _, _, ⟨A, c, h, hl, hv⟩ => ⟨A, c, h, hl, by
  rw [← kd_sz t] at hv
  exact hv.reads (d := kd t) (fun _ _ h => K_of_V t h)⟩
 | .pair a b, _, _, ⟨c0, c1, e, h0, h1⟩ => ⟨c0, c1, e, K_of_V a h0, K_of_V b h1⟩
theorem C_of_VC {w : World} {S : Nat → Prop} {t : Ty} {A : Option Addr} {xs : List (den t)} (h : VC w S t A xs) : (kd t).C w A xs.length xs := by
 have h' : VRow (V w S t) (kd t).sz w S A xs := by rw [kd_sz]; exact h
 exact h'.reads (d := kd t) (fun _ _ h => K_of_V t h)
theorem VRow.of_els {α : Type} {R V : α → List Value → Prop} {w : World} {e c n size : Nat} {A : Option Addr} {S p : Nat → Prop} {xs : List α} {inner : List Value} (hq : QRow w 0 e size (.slice A n c) xs.length inner) (ho : ∀ k, (Value.slice A n c).ownBlock = some k → S k) (hs : Els (fun _ => R) size p xs inner) (hR : ∀ x c, R x c → V x c) : VRow V size w S A xs := by
 refine ⟨q_max hq, fun hp => ?_⟩
 obtain ⟨A', c', he, hl⟩ := q_slice hq
 injection he with h1 h2 h3
 subst h1; subst h2; subst h3
 obtain ⟨ad, ha, hc⟩ := q_cells hq hp
 subst ha
 refine ⟨ad, rfl, ho _ rfl, fun j x hj => ⟨(inner.drop (j * size)).take size, ?_, ?_, fun i u hu => ?_⟩⟩
 ·have hjl := (List.getElem?_eq_some_iff.1 hj).1
  have h1 : j * size + size ≤ inner.length := by rw [hs.len, ← Nat.succ_mul]; exact Nat.mul_le_mul_right _ hjl
  rw [List.length_take, List.length_drop]
  omega
 ·obtain ⟨q, _, h⟩ := hs.get j hj
  exact hR _ _ h
 ·refine hc _ u ?_
  rw [List.getElem?_take] at hu
  split at hu
  ·rw [List.getElem?_drop] at hu
   exact hu
  ·cases hu
theorem V_of_M {w : World} : ∀ (t : Ty) {S p : Nat → Prop} {x : den t} {cs : List Value}, M w t p x cs → (∀ k, p k → S k) → V w S t x cs
 | .int _, _, _, _, _, h, _ => h
 | .bool, _, _, _, _, h, _ => h
 | .str, _, _, _, _, h, _ => h
 | .sl e t, S, p, x, _, ⟨v, h, inner, hq, ho, hs⟩, hS => by
  obtain ⟨A, c, rfl, hl⟩ := q_slice hq
  refine ⟨A, c, h, hl, ?_⟩
  refine VRow.of_els (R := V w S t) hq (fun k hk => hS k (ho k hk)) (hs.imp (fun _ h => h) (fun q x c hq' h => V_of_M t h (fun k hk => hS k (hq' k hk).1))) (fun _ _ h => h)
 | .pair a b, S, _, _, _, ⟨c0, c1, _, _, e, hs, h0, h1⟩, hS => ⟨c0, c1, e, V_of_M a h0 (fun k hk => hS k (hs.1 k hk)), V_of_M b h1 (fun k hk => hS k (hs.2.1 k hk))⟩
theorem VC_of_R {w : World} {e : Nat} {t : Ty} {S p : Nat → Prop} {A : Option Addr} {n c : Nat} {xs : List (den t)} (h : R w e t p (.slice A n c) xs) (hS : ∀ k, p k → S k) : n = xs.length ∧ n ≤ c ∧ VC w S t A xs := by
 obtain ⟨h1, h2, _⟩ := C_of_R h
 obtain ⟨inner, hq, ho, hs⟩ := h
 exact ⟨h1, h2, VRow.of_els (R := V w S t) hq (fun k hk => hS k (ho k hk)) (hs.imp (fun _ h => h) (fun q x c hq' h => V_of_M t h (fun k hk => hS k (hq' k hk).1))) (fun _ _ h => h)⟩
/-- What is read from a world of which all stands. -/
theorem VRow.of_reads {α : Type} {d : Kd α} {V : α → List Value → Prop} {w : World} {S : Nat → Prop} {A : Option Addr} {xs : List α} (h0 : 0 < d.sz) (h : d.C w A xs.length xs) (hS : ∀ k, k < w.heap.size → S k) (hV : ∀ x c, d.K w x c → V x c) : VRow V d.sz w S A xs := by
 refine ⟨h.2.1, fun hp => ?_⟩
 obtain ⟨ad, hA, hc⟩ := h.2.2 hp
 refine ⟨ad, hA, hS _ ?_, fun j x hj => ?_⟩
 ·obtain ⟨c, hl, _, hu⟩ := hc 0 _ (List.getElem?_eq_getElem hp)
  have := cell_lt (hu 0 _ (List.getElem?_eq_getElem (by omega)))
  rw [addb] at this
  exact this
 ·obtain ⟨c, hl, hk, hu⟩ := hc j x hj
  exact ⟨c, hl, hV _ _ hk, hu⟩
theorem V_of_K {w : World} {S : Nat → Prop} (hS : ∀ k, k < w.heap.size → S k) : ∀ (t : Ty) {x : den t} {cs : List Value}, (kd t).K w x cs → V w S t x cs
 | .int _, _, _, h => h
 | .bool, _, _, h => h
 | .str, _, _, h => h
 | .sl _ t, _, _, ⟨A, c, h, hl, hv⟩ => ⟨A, c, h, hl, by
  have := VRow.of_reads (V := V w S t) (by rw [kd_sz]; exact sz_pos t) hv hS (fun _ _ h => V_of_K hS t h)
  rw [kd_sz t] at this
  exact this⟩
 | .pair a b, _, _, ⟨c0, c1, e, h0, h1⟩ => ⟨c0, c1, e, V_of_K hS a h0, V_of_K hS b h1⟩
theorem VC_of_C {w : World} {S : Nat → Prop} {t : Ty} {A : Option Addr} {xs : List (den t)} (hS : ∀ k, k < w.heap.size → S k) (h : (kd t).C w A xs.length xs) : VC w S t A xs := by
 have := VRow.of_reads (V := V w S t) (by rw [kd_sz]; exact sz_pos t) h hS (fun _ _ h => V_of_K hS t h)
 rw [kd_sz t] at this
 exact this
end Go.Proofs.YthncjcfnpfajaaaA
