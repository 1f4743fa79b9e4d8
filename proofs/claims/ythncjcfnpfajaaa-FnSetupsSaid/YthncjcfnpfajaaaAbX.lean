/- What each operation of the abstract machine says of the world: loads. Plain lemmas; no condition. -/
import Derived.Test.YthncjcfnpfajaaaAbV
namespace Go.Proofs.YthncjcfnpfajaaaA
open Go Go.RowKit Go.Proofs.YthncjcfnpfajaaaW.PrintWords
set_option linter.unusedVariables false
set_option linter.unusedSimpArgs false

def leavesF (mk : List Bool → (e : Nat) → (t : Ty) → List (den t) → Part) : List LD → Nat → List Leaf × Me × Nat
 | [], b => ([], [], b)
 | .lf l :: r, b => (l :: (leavesF mk r b).1, (leavesF mk r b).2.1, (leavesF mk r b).2.2)
 | .sl pa e t xs :: r, b => (.own b :: (leavesF mk r (b + 1)).1, (b, some (mk pa e t xs)) :: (leavesF mk r (b + 1)).2.1, (leavesF mk r (b + 1)).2.2)
theorem leaves_eq {R : Type _} {mk : List Bool → (e : Nat) → (t : Ty) → List (den t) → Part} : ∀ (ds : List LD) (b : Nat) (K : List Leaf → Me → Nat → R), leaves mk ds b K = K (leavesF mk ds b).1 (leavesF mk ds b).2.1 (leavesF mk ds b).2.2
 | [], b, K => rfl
 | .lf l :: r, b, K => leaves_eq r b _
 | .sl pa e t xs :: r, b, K => leaves_eq r (b + 1) _
/-- A cell, told by its description. -/
def Fits (d : LD) (c : Value) : Prop := match d with
 | .lf l => l.ref = none ∧ ∀ ρ : Nat → Hd, l.val ρ = c
 | .sl _ _ _ ys => ∃ A c', c = .slice A ys.length c'
/-- The leaves of new parts. -/
theorem leaves_new {mk : List Bool → (e : Nat) → (t : Ty) → List (den t) → Part} : ∀ (ds : List LD) (cs : List Value) (b : Nat) (ρ : Nat → Hd), ds.length = cs.length → (∀ (i : Nat) d c, ds[i]? = some d → cs[i]? = some c → Fits d c) →
  b ≤ (leavesF mk ds b).2.2 ∧ ∃ ρ' : Nat → Hd, (∀ i, i < b ∨ (leavesF mk ds b).2.2 ≤ i → ρ' i = ρ i) ∧ vals ρ' (leavesF mk ds b).1 = cs ∧ (∀ l ∈ (leavesF mk ds b).1, l.Ok ρ' ∧ ∀ i, l.ref = some i → b ≤ i ∧ i < (leavesF mk ds b).2.2) ∧
   (∀ i, b ≤ i → i < (leavesF mk ds b).2.2 → ∃ (j : Nat) (pa : List Bool) (e : Nat) (t : Ty) (ys : List (den t)), ds[j]? = some (.sl pa e t ys) ∧ get (leavesF mk ds b).2.1 i = some (some (mk pa e t ys)) ∧ cs[j]? = some (ρ' i).sl ∧ (ρ' i).z = sz t ∧ (ρ' i).n = ys.length) ∧
   (∀ i, ¬ (b ≤ i ∧ i < (leavesF mk ds b).2.2) → get (leavesF mk ds b).2.1 i = none)
 | [], cs, b, ρ, hl, hf => by
  refine ⟨Nat.le_refl _, ρ, fun _ _ => rfl, ?_, (fun _ h => by cases h), fun i h1 h2 => ?_, fun _ _ => rfl⟩
  ·cases cs with
   | nil => rfl
   | cons => cases hl
  ·simp only [leavesF] at h2; omega
 | .lf l :: r, [], b, ρ, hl, hf => by cases hl
 | .sl _ _ _ _ :: r, [], b, ρ, hl, hf => by cases hl
 | .lf l :: r, c :: cs, b, ρ, hl, hf => by
  obtain ⟨h0, ρ', h1, h2, h3, h4, h5⟩ := leaves_new (mk := mk) r cs b ρ (by simpa using hl) (fun i d c hd hc => hf (i + 1) d c (by simpa using hd) (by simpa using hc))
  obtain ⟨f1, f2⟩ := hf 0 _ _ rfl rfl
  refine ⟨h0, ρ', h1, ?_, ?_, ?_, h5⟩
  ·simp only [leavesF, vals_cons, h2, f2]
  ·intro l' hl'
   simp only [leavesF, List.mem_cons] at hl'
   rcases hl' with rfl | hl'
   ·refine ⟨?_, fun i hi => by rw [f1] at hi; cases hi⟩
    cases l' <;> first | trivial | cases f1
   ·exact h3 l' hl'
  ·intro i hi1 hi2
   obtain ⟨j, pa, e, t, ys, q1, q2, q3, q4, q5⟩ := h4 i hi1 hi2
   exact ⟨j + 1, pa, e, t, ys, by simpa using q1, q2, by simpa using q3, q4, q5⟩
 | .sl pa e t xs :: r, c :: cs, b, ρ, hl, hf => by
  obtain ⟨A, c', hc⟩ := hf 0 _ _ rfl rfl
  obtain ⟨h0, ρ', h1, h2, h3, h4, h5⟩ := leaves_new (mk := mk) r cs (b + 1) (fun i => if i = b then ⟨0, A, xs.length, c', sz t⟩ else ρ i) (by simpa using hl) (fun i d c hd hc => hf (i + 1) d c (by simpa using hd) (by simpa using hc))
  have hb : ρ' b = ⟨0, A, xs.length, c', sz t⟩ := by rw [h1 b (.inl (by omega)), if_pos rfl]
  refine ⟨by simp only [leavesF]; omega, ρ', fun i hi => ?_, ?_, ?_, ?_, ?_⟩
  ·simp only [leavesF] at hi
   rw [h1 i (by omega), if_neg (by omega)]
  ·simp only [leavesF, vals_cons, h2, Leaf.val, hb, Hd.sl, hc]
  ·intro l' hl'
   simp only [leavesF, List.mem_cons] at hl' ⊢
   rcases hl' with rfl | hl'
   ·refine ⟨trivial, fun i hi => ?_⟩
    injection hi with hi
    omega
   ·obtain ⟨q1, q2⟩ := h3 l' hl'
    exact ⟨q1, fun i hi => by have := q2 i hi; omega⟩
  ·intro i hi1 hi2
   simp only [leavesF] at hi2 ⊢
   by_cases hib : i = b
   ·subst hib
    refine ⟨0, pa, e, t, xs, rfl, by rw [get_cons, if_pos rfl], ?_, by rw [hb], by rw [hb]⟩
    rw [hb, Hd.sl, ← hc]
    rfl
   ·obtain ⟨j, pa', e', t', ys, q1, q2, q3, q4, q5⟩ := h4 i (by omega) hi2
    exact ⟨j + 1, pa', e', t', ys, by simpa using q1, by rw [get_cons, if_neg hib]; exact q2, by simpa using q3, q4, q5⟩
  ·intro i hi
   simp only [leavesF] at hi ⊢
   rw [get_cons, if_neg (by omega)]
   exact h5 i (by omega)
theorem descs_len : ∀ (t : Ty) (x : den t) (pa : List Bool), (descs t x pa).length = sz t
 | .int _, _, _ => rfl
 | .bool, _, _ => rfl
 | .str, _, _ => rfl
 | .sl _ _, _, _ => rfl
 | .pair a b, x, pa => by rw [descs, List.length_append, descs_len a, descs_len b]; rfl
theorem descs_path : ∀ (t : Ty) (x : den t) (pa : List Bool) (j : Nat) {p : List Bool} {e : Nat} {t' : Ty} {ys : List (den t')}, (descs t x pa)[j]? = some (.sl p e t' ys) → ∃ p2, p = pa.reverse ++ p2 ∧ pathOff t p2 = some j ∧ pathZ t p2 = sz t'
 | .int _, _, _, j, p, e, t', ys, h => by cases j <;> simp [descs] at h
 | .bool, _, _, j, p, e, t', ys, h => by cases j <;> simp [descs] at h
 | .str, _, _, j, p, e, t', ys, h => by cases j <;> simp [descs] at h
 | .sl e0 t0, x, pa, j, p, e, t', ys, h => by
  cases j with
  | succ j => simp [descs] at h
  | zero =>
   simp only [descs, List.getElem?_cons_zero, Option.some.injEq, LD.sl.injEq] at h
   obtain ⟨h1, h2, h3, _⟩ := h
   subst h3
   exact ⟨[], by rw [h1, List.append_nil], rfl, rfl⟩
 | .pair a b, x, pa, j, p, e, t', ys, h => by
  rw [descs] at h
  by_cases hj : j < sz a
  ·rw [List.getElem?_append_left (by rw [descs_len]; exact hj)] at h
   obtain ⟨p2, h1, h2, h3⟩ := descs_path a x.1 (false :: pa) j h
   exact ⟨false :: p2, by rw [h1]; simp, h2, h3⟩
  ·rw [List.getElem?_append_right (by rw [descs_len]; omega), descs_len] at h
   obtain ⟨p2, h1, h2, h3⟩ := descs_path b x.2 (true :: pa) (j - sz a) h
   refine ⟨true :: p2, by rw [h1]; simp, ?_, h3⟩
   show (pathOff b p2).map _ = _
   rw [h2]
   simp
   omega
theorem descs_K {w1 : World} : ∀ (t : Ty) (x : den t) (pa : List Bool) {c : List Value}, (kd t).K w1 x c → ∀ (j : Nat) d u, (descs t x pa)[j]? = some d → c[j]? = some u → Fits d u
 | .int k, x, pa, c, h, j, d, u, hd, hu => by
  rw [show c = [.int k x] from h] at hu
  cases j with
  | succ j => simp at hu
  | zero => simp [descs] at hd hu; subst hd; subst hu; exact ⟨rfl, fun _ => rfl⟩
 | .bool, x, pa, c, h, j, d, u, hd, hu => by
  rw [show c = [.bool x] from h] at hu
  cases j with
  | succ j => simp at hu
  | zero => simp [descs] at hd hu; subst hd; subst hu; exact ⟨rfl, fun _ => rfl⟩
 | .str, x, pa, c, h, j, d, u, hd, hu => by
  rw [show c = [.string x] from h] at hu
  cases j with
  | succ j => simp at hu
  | zero => simp [descs] at hd hu; subst hd; subst hu; exact ⟨rfl, fun _ => rfl⟩
 | .sl e t, x, pa, c, ⟨A, c', h, _, _⟩, j, d, u, hd, hu => by
  rw [h] at hu
  cases j with
  | succ j => simp at hu
  | zero => simp [descs] at hd hu; subst hd; subst hu; exact ⟨A, c', rfl⟩
 | .pair a b, x, pa, c, ⟨c0, c1, h, h0, h1⟩, j, d, u, hd, hu => by
  have hl : c0.length = sz a := by rw [(kd a).K_len h0, kd_sz]
  rw [h] at hu
  rw [descs] at hd
  by_cases hj : j < sz a
  ·rw [List.getElem?_append_left (by rw [descs_len]; exact hj)] at hd
   rw [List.getElem?_append_left (by omega)] at hu
   exact descs_K a x.1 _ h0 j d u hd hu
  ·rw [List.getElem?_append_right (by rw [descs_len]; omega), descs_len] at hd
   rw [List.getElem?_append_right (by omega), hl] at hu
   exact descs_K b x.2 _ h1 _ d u hd hu
section
variable {P : Program} {w w1 : World} {ok live : Nat → Prop} {b : Nat} {o : Oper} {a : Act} {ρ : Nat → Hd} {fp : Nat → Nat → Prop} {me : Nat → Option Part} {v : SV} {us : Me} {s : Sl} {C : Ctx}
theorem run_load_td {T : Nat} {td : TD} (hT : TdOk P C.Δ T td) {p : Addr} {ls : List Leaf} {cs : List Value} (hv : vals ρ ls = cs) (hl : ls.length = td.size) (hc : ∀ (i : Nat) v, cs[i]? = some v → w1.cell? (p.add i) = some v) : (Instr.loadAt T (.pointer (some p))).run P w1 = .ok ((CV.of td.st ls).val ρ) w1 := by
 have hcl : cs.length = td.size := by rw [← hv]; simp [vals, hl]
 cases hst : td.st with
 | true =>
  have hr := run_loadCells_list (P := P) w1 p cs hc
  rw [hcl] at hr
  simp [Instr.loadAt, Instr.sureAddr, loadVar, Sem.run_bind, run_isAgg hT w1, hst, run_sizeTd hT w1, hr, of_true, CV.val, hv]
 | false =>
  have h1 := hT.one hst
  rw [h1] at hl
  obtain ⟨l, rfl⟩ := List.length_eq_one_iff.1 hl
  have h0 := hc 0 (l.val ρ) (by rw [← hv]; rfl)
  simp only [Addr.add, if_true] at h0
  have h0' : w1.cell? p = some (l.val ρ) := by simpa [Addr.add] using h0
  simp [Instr.loadAt, Instr.sureAddr, loadVar, Sem.run_bind, run_isAgg hT w1, hst, h0', of_one, CV.val]
theorem blk_cells {g j T : Nat} {cs : List Value} (h : w1.heap[g]? = some (.cells cs.toArray T (0, 0))) {m : Nat} : ∀ (i : Nat) v, ((cs.drop j).take m)[i]? = some v → w1.cell? ((⟨g, j, none⟩ : Addr).add i) = some v := by
 intro i v hv
 rw [add_at]
 rw [List.getElem?_take] at hv
 split at hv
 ·rw [List.getElem?_drop] at hv
  simp [World.cell?, h, hv]
 ·cases hv
theorem go_loadP {T : TypeId} {td : TD} {x : Operand} {r j T' : Nat} {cs : List Leaf} (hT : TdOk P C.Δ T td) (H : Mem w ok live w1 ρ fp me) (ho : o.op = .load T x) (hx : a.eval x = .pointer (some ⟨(ρ r).g, j, none⟩)) (hr : me r = some (.blk T' cs)) (hl : j + td.size ≤ cs.length) (hv : v = .c (CV.of td.st ((cs.drop j).take td.size))) (hus : us = []) : Goes P w ok live b o a w1 ρ me v us := by
 subst hv; subst hus
 obtain ⟨hfp, hb⟩ := H.on r _ hr
 have hin : LsIn live ρ cs := (H.lin r _ hr).2
 refine goes_pure H (fun l hl' => ?_) ?_
 ·rw [of_leaves] at hl'
  exact hin l (List.mem_of_mem_drop (List.mem_of_mem_take hl'))
 ·have hrun := run_load_td (P := P) (C := C) (w1 := w1) (ρ := ρ) hT (p := ⟨(ρ r).g, j, none⟩) (ls := (cs.drop j).take td.size) rfl (by rw [List.length_take, List.length_drop]; omega) (by
   have := blk_cells (w1 := w1) (j := j) (m := td.size) hb
   simpa [vals, List.map_take, List.map_drop] using this)
  unfold execOp
  simp only [ho, hx, Sem.run_bind, hrun]
  rfl
theorem list_at {α : Type _} {l : List α} {j m i : Nat} {x : α} (h : ((l.drop j).take m)[i]? = some x) : i < m ∧ l[j + i]? = some x := by
 rw [List.getElem?_take] at h
 split at h
 ·rw [List.getElem?_drop] at h
  exact ⟨by assumption, h⟩
 ·cases h
/-- A part of an element, loaded; rows inside it become parts. -/
theorem go_loadE {T : TypeId} {td : TD} {x : Operand} {r i j ver z : Nat} {t : Ty} {xs : List (den t)} (hT : TdOk P C.Δ T td) (H : Mem w ok live w1 ρ fp me) (hb : ∀ i, b ≤ i → i < b + step → ¬ live i) (ho : o.op = .load T x) (hx : a.eval x = .pointer (some (fieldp ((adr (ρ r).A).add (i * z)) j))) (hz : z = (ρ r).z) (hi : i < (ρ r).n) (hr : live r) (hR : RdH w1 (ρ r) t xs) (hj : j + td.size ≤ sz t)
  (hsub : ∀ v' e' t' xs', me r = some (.row v' e' t' xs') → v' = ver ∧ (∃ ht : t' = t, ht ▸ xs' = xs)) (hvw : ∀ q e' t' xs', me r = some (.view q e' t' xs') → (∃ ht : t' = t, ht ▸ xs' = xs))
  (hb' : (leavesF (mkSub r ver i) (((descs t (el t xs i) []).drop j).take td.size) b).2.2 ≤ b + step) (hv : v = .c (CV.of td.st (leavesF (mkSub r ver i) (((descs t (el t xs i) []).drop j).take td.size) b).1)) (hus : us = (leavesF (mkSub r ver i) (((descs t (el t xs i) []).drop j).take td.size) b).2.1) : Goes P w ok live b o a w1 ρ me v us := by
 obtain ⟨hzz, hn, hnc, hC⟩ := hR
 obtain ⟨ad, c, hA, hcl, hK, hcc⟩ := Kd.C_get hC (zero t) (i : Int) (Int.natCast_nonneg i) (by omega)
 simp only [Int.toNat_natCast, kd_sz] at hK hcc hcl
 have hdl : (descs t (el t xs i) []).length = c.length := by rw [descs_len, hcl]
 obtain ⟨h0, ρ', h1, h2, h3, h4, h5⟩ := leaves_new (mk := mkSub r ver i) (((descs t (el t xs i) []).drop j).take td.size) ((c.drop j).take td.size) b ρ (by simp [hdl]) (fun q d u hd hu => by
  obtain ⟨_, hd⟩ := list_at hd
  obtain ⟨_, hu⟩ := list_at hu
  exact descs_K t (el t xs i) [] hK _ d u hd hu)
 rw [← hus] at h4 h5
 generalize hB : (leavesF (mkSub r ver i) (((descs t (el t xs i) []).drop j).take td.size) b).2.2 = B at *
 generalize hL : (leavesF (mkSub r ver i) (((descs t (el t xs i) []).drop j).take td.size) b).1 = L at *
 subst hv
 have hlive : ∀ q, live q → ρ' q = ρ q := fun q hq => h1 q (by
  by_cases h : b ≤ q ∧ q < B
  ·exact absurd hq (hb q h.1 (by omega))
  ·omega)
 have hrT : ¬ (b ≤ r ∧ r < B) := fun h => hb r h.1 (by omega) hr
 have hupd : ∀ q, ¬ (b ≤ q ∧ q < B) → upd us me q = me q := fun q hq => by unfold upd; rw [h5 q hq]
 have hA' : adr (ρ r).A = ad := adr_some hA
 have H' : Mem w ok (grow live b) w1 ρ' (fun q k => if b ≤ q ∧ q < B then False else fp q k) (upd us me) := by
  refine H.step (fun q => b ≤ q ∧ q < B) rfl rfl rfl (Nat.le_refl _) (fun _ _ _ => rfl) (fun _ h => .inl h) hlive hupd (fun q hq => by funext k; rw [if_neg hq]) ?_ ?_ ?_ ?_ ?_
  ·intro q p hq hp
   obtain ⟨j', pa, e, t', ys, q1, q2, q3, q4, q5⟩ := h4 q hq.1 hq.2
   unfold upd at hp
   rw [q2] at hp
   injection hp with hp
   subst hp
   exact ⟨.inr ⟨hq.1, by omega⟩, .inl hr⟩
  ·intro q k hq hk
   simp only [if_pos hq] at hk
  ·intro q q' k hq _ hk _
   simp only [if_pos hq] at hk
  ·intro q hq hlq
   exact absurd hlq (hb q hq.1 (by omega))
  ·intro q p hq hp
   obtain ⟨j', pa, e, t', ys, q1, q2, q3, q4, q5⟩ := h4 q hq.1 hq.2
   unfold upd at hp
   rw [q2] at hp
   injection hp with hp
   subst hp
   obtain ⟨hj'1, hj'2⟩ := list_at q1
   obtain ⟨_, hc3⟩ := list_at q3
   obtain ⟨p2, e1, e2, e3⟩ := descs_path t (el t xs i) [] _ hj'2
   simp only [List.reverse_nil, List.nil_append] at e1
   subst e1
   have hs : SubAt w1 (ρ' r) (ρ' q) t i xs pa := by
    refine ⟨by rw [q4, e3], j + j', e2, by omega, ?_⟩
    rw [hlive r hr, hA']
    exact hcc _ _ hc3
   constructor
   ·intro v' e' t'' xs' hm
    rw [hupd r hrT] at hm
    obtain ⟨hv', ht, hxs⟩ := hsub _ _ _ _ hm
    subst ht
    simp only at hxs
    subst hxs
    exact ⟨by omega, fun _ => hs⟩
   ·intro q' e' t'' xs' hm
    rw [hupd r hrT] at hm
    obtain ⟨ht, hxs⟩ := hvw _ _ _ _ hm
    subst ht
    simp only at hxs
    subst hxs
    exact hs
 intro K Q h
 have hLl : L.length = td.size := by
  have : (vals ρ' L).length = td.size := by rw [h2]; simp; omega
  simpa [vals] using this
 have hrun := run_load_td (P := P) (C := C) (w1 := w1) (ρ := ρ') hT (p := fieldp ((adr (ρ r).A).add (i * z)) j) (ls := L) h2 hLl (fun q u hu => by
  obtain ⟨_, hu⟩ := list_at hu
  rw [fieldp_add, add_field', hA', hz, hzz]
  have := hcc _ _ hu
  rwa [← Nat.add_assoc] at this)
 refine wp_val (u := (CV.of td.st L).val ρ') ?_ (h w1 ρ' _ H' hlive ?_)
 ·unfold execOp
  simp only [ho, hx, Sem.run_bind, hrun]
  rfl
 ·intro l hl
  rw [of_leaves] at hl
  obtain ⟨q1, q2⟩ := h3 l hl
  exact ⟨fun q hq => .inr (by have := q2 q hq; omega), q1⟩
theorem descs_flat : ∀ (t : Ty) (x : den t) (pa : List Bool), flat t = true → ∀ d ∈ descs t x pa, ∃ l, d = .lf l
 | .int _, _, _, _, d, h => ⟨_, List.mem_singleton.1 h⟩
 | .bool, _, _, _, d, h => ⟨_, List.mem_singleton.1 h⟩
 | .str, _, _, _, d, h => ⟨_, List.mem_singleton.1 h⟩
 | .sl _ _, _, _, hf, _, _ => by cases hf
 | .pair a b, x, pa, hf, d, h => by
  have hf' : flat a = true ∧ flat b = true := by simpa [flat] using hf
  exact (List.mem_append.1 h).elim (descs_flat a _ _ hf'.1 d) (descs_flat b _ _ hf'.2 d)
theorem leavesF_flat {mk : List Bool → (e : Nat) → (t : Ty) → List (den t) → Part} : ∀ (ds : List LD) (cs : List Value) (b : Nat), (∀ d ∈ ds, ∃ l, d = .lf l) → ds.length = cs.length → (∀ (i : Nat) d c, ds[i]? = some d → cs[i]? = some c → Fits d c) → (leavesF mk ds b).2.1 = [] ∧ (∀ l ∈ (leavesF mk ds b).1, l.ref = none) ∧ ∀ ρ : Nat → Hd, vals ρ (leavesF mk ds b).1 = cs
 | [], cs, b, _, hl, _ => by
  cases cs with
  | nil => exact ⟨rfl, (fun _ h => by cases h), fun _ => rfl⟩
  | cons => cases hl
 | d :: ds, [], b, _, hl, _ => by cases hl
 | d :: ds, c :: cs, b, hd, hl, hf => by
  obtain ⟨l, rfl⟩ := hd d List.mem_cons_self
  obtain ⟨f1, f2⟩ := hf 0 _ _ rfl rfl
  obtain ⟨h1, h2, h3⟩ := leavesF_flat (mk := mk) ds cs b (fun d h => hd d (List.mem_cons_of_mem _ h)) (by simpa using hl) (fun i d c hd hc => hf (i + 1) d c (by simpa using hd) (by simpa using hc))
  refine ⟨h1, fun l' hl' => ?_, fun ρ => ?_⟩
  ·simp only [leavesF, List.mem_cons] at hl'
   rcases hl' with rfl | hl'
   ·exact f1
   ·exact h2 l' hl'
  ·simp only [leavesF, vals_cons, f2, h3]
/-- .. of a row inside a row. -/
theorem go_loadS {T : TypeId} {td : TD} {x : Operand} {r i j z : Nat} {t : Ty} {xs : List (den t)} (hT : TdOk P C.Δ T td) (H : Mem w ok live w1 ρ fp me) (ho : o.op = .load T x) (hx : a.eval x = .pointer (some (fieldp ((adr (ρ r).A).add (i * z)) j))) (hz : z = (ρ r).z) (hi : i < (ρ r).n) (hR : RdH w1 (ρ r) t xs)
  (h : Out me (bif flat t && Nat.ble (j + td.size) (sz t) then leaves mkRow (((descs t (el t xs i) []).drop j).take td.size) b fun ls us _ => (.out (.c (CV.of td.st ls)) us : OP) else .fail) (v, us)) : Goes P w ok live b o a w1 ρ me v us := by
 obtain ⟨hle, h⟩ := bif_fail h
 simp only [Bool.and_eq_true] at hle
 obtain ⟨hf, hle⟩ := hle
 have hj := Nat.le_of_ble_eq_true hle
 rw [leaves_eq] at h
 injection out_out h with h1 h2
 obtain ⟨hzz, hn, hnc, hC⟩ := hR
 obtain ⟨ad, c, hA, hcl, hK, hcc⟩ := Kd.C_get hC (zero t) (i : Int) (Int.natCast_nonneg i) (by omega)
 simp only [Int.toNat_natCast, kd_sz] at hK hcc hcl
 have hdl : (descs t (el t xs i) []).length = c.length := by rw [descs_len, hcl]
 have hA' : adr (ρ r).A = ad := adr_some hA
 obtain ⟨q1, q2, q3⟩ := leavesF_flat (mk := mkRow) (((descs t (el t xs i) []).drop j).take td.size) ((c.drop j).take td.size) b (fun d hd => descs_flat t _ _ hf d (List.mem_of_mem_drop (List.mem_of_mem_take hd))) (by simp [hdl]) (fun q d u hd hu => by
  obtain ⟨_, hd⟩ := list_at hd
  obtain ⟨_, hu⟩ := list_at hu
  exact descs_K t (el t xs i) [] hK _ d u hd hu)
 rw [q1] at h2
 subst h1; subst h2
 generalize (leavesF mkRow (((descs t (el t xs i) []).drop j).take td.size) b).1 = L at *
 have hLl : L.length = td.size := by
  have : (vals ρ L).length = td.size := by rw [q3]; simp; omega
  simpa [vals] using this
 refine goes_pure H (fun l hl => ?_) ?_
 ·rw [of_leaves] at hl
  exact in_none (q2 l hl)
 ·have hrun := run_load_td (P := P) (C := C) (w1 := w1) (ρ := ρ) hT (p := fieldp ((adr (ρ r).A).add (i * z)) j) (ls := L) (q3 ρ) hLl (fun q u hu => by
   obtain ⟨_, hu⟩ := list_at hu
   rw [fieldp_add, add_field', hA', hz, hzz]
   have := hcc _ _ hu
   rwa [← Nat.add_assoc] at this)
  unfold execOp
  simp only [ho, hx, Sem.run_bind, hrun]
  rfl
theorem go_load {T : TypeId} {x : Operand} (hC : TdsOk P C.Δ) (H : Mem w ok live w1 ρ fp me) (hb : ∀ i, b ≤ i → i < b + step → ¬ live i) (ho : o.op = .load T x) (E : ∀ v, ev s x = some v → a.eval x = v.val ρ ∧ v.In live ρ) (h : Out me (loadA C b T (ev s x)) (v, us)) : Goes P w ok live b o a w1 ρ me v us := by
 unfold loadA at h
 split at h
 ·rename_i td htd
  have hT := hC T td htd
  obtain ⟨l, hx, h⟩ := lfOf_out h
  obtain ⟨e1, e2⟩ := E _ hx
  have hin := lf_of e2
  cases l <;> first | exact h.elim | skip
  ·rename_i r j
   obtain ⟨p, hp, h⟩ := h
   cases p <;> first | exact h.elim | skip
   rename_i T' cs
   obtain ⟨hle, h⟩ := bif_fail h
   injection out_out h with h1 h2
   exact go_loadP hT H ho e1 hp (Nat.le_of_ble_eq_true hle) h1 h2
  ·rename_i r i j z
   obtain ⟨hi, hz⟩ := hin.ok
   have hr := hin.ref r rfl
   obtain ⟨p, hp, h⟩ := h
   cases p <;> first | exact h.elim | skip
   ·rename_i ver e t xs
    obtain ⟨hle, h⟩ := bif_fail h
    rw [leaves_eq] at h
    obtain ⟨hle2, h⟩ := bif_fail h
    injection out_out h with h1 h2
    refine go_loadE hT H hb ho e1 hz hi hr (H.row hp) (Nat.le_of_ble_eq_true hle) (fun v' e' t' xs' hm => ?_) (fun q e' t' xs' hm => ?_) (Nat.le_of_ble_eq_true hle2) h1 h2
    ·rw [hp] at hm
     injection hm with hm
     injection hm with m1 m2 m3 m4
     subst m3
     exact ⟨m1.symm, rfl, (eq_of_heq m4).symm⟩
    ·rw [hp] at hm
     injection hm with hm
     cases hm
   ·rename_i q0 e t xs
    obtain ⟨hle, h⟩ := bif_fail h
    rw [leaves_eq] at h
    obtain ⟨hle2, h⟩ := bif_fail h
    injection out_out h with h1 h2
    refine go_loadE hT H hb ho e1 hz hi hr (H.view hp) (Nat.le_of_ble_eq_true hle) (fun v' e' t' xs' hm => ?_) (fun q e' t' xs' hm => ?_) (Nat.le_of_ble_eq_true hle2) h1 h2
    ·rw [hp] at hm
     injection hm with hm
     cases hm
    ·rw [hp] at hm
     injection hm with hm
     injection hm with m1 m2 m3 m4
     subst m3
     exact ⟨rfl, (eq_of_heq m4).symm⟩
   ·rename_i r0 ver i0 path
    have hon := H.on r _ hp
    obtain ⟨p, hq, h⟩ := h
    cases p <;> first | exact h.elim | skip
    ·rename_i v0 e t xs
     obtain ⟨hv, h⟩ := bif_fail h
     have hv := Nat.eq_of_beq_eq_true hv
     obtain ⟨e', t', ys, h, hR⟩ := sub_read (H.row hq) ((hon.1 _ _ _ _ hq).2 hv) h
     exact go_loadS hT H ho e1 hz hi hR h
    ·rename_i q0 e t xs
     obtain ⟨e', t', ys, h, hR⟩ := sub_read (H.view hq) (hon.2 _ _ _ _ hq) h
     exact go_loadS hT H ho e1 hz hi hR h
 ·exact h.elim
end
end Go.Proofs.YthncjcfnpfajaaaA
