/- What each operation of the abstract machine says of the world: appends, loads. Plain lemmas; no condition. -/
import Derived.Test.YthncjcfnpfajaaaAbU
namespace Go.Proofs.YthncjcfnpfajaaaA
open Go Go.RowKit Go.Proofs.YthncjcfnpfajaaaW.PrintWords
set_option linter.unusedVariables false
set_option linter.unusedSimpArgs false
section
variable {P : Program} {w w1 : World} {ok live : Nat → Prop} {b : Nat} {o : Oper} {a : Act} {ρ : Nat → Hd} {fp : Nat → Nat → Prop} {me : Nat → Option Part} {v : SV} {us : Me} {s : Sl} {C : Ctx}
/-- What is read, as cells one behind the other. -/
theorem els_of_C {t : Ty} {A : Option Addr} {xs : List (den t)} (hf : flat t = true) (h : (kd t).C w1 A xs.length xs) (hn : 0 < xs.length) (p : Nat → Prop) : ∃ ad inner, A = some ad ∧ Els (M w1 t) (sz t) p xs inner ∧ ∀ j u, inner[j]? = some u → w1.cell? (ad.add j) = some u := by
 obtain ⟨ad, hA, _⟩ := h.2.2 hn
 subst hA
 obtain ⟨inner, hr, hc⟩ := ReadsRow.inner_ h
 rw [kd_sz] at hr
 exact ⟨ad, inner, rfl, els_of_reps (fun x c h => M_of_K t hf h) hr, hc⟩
theorem cells_of_R {e : Nat} {t : Ty} {p : Nat → Prop} {A : Option Addr} {n c : Nat} {xs : List (den t)} (h : R w1 e t p (.slice A n c) xs) (hn : 0 < xs.length) : ∃ ad inner, A = some ad ∧ Els (M w1 t) (sz t) p xs inner ∧ ∀ j u, inner[j]? = some u → w1.cell? (ad.add j) = some u := by
 obtain ⟨inner, hq, ho, hs⟩ := h
 obtain ⟨A', c', he, _⟩ := q_slice hq
 injection he with h1 h2 h3
 rw [h2] at hq
 obtain ⟨ad, hA, hc⟩ := q_cells hq hn
 exact ⟨ad, inner, hA, hs.mono (fun k hk => hk.1), hc⟩
theorem els_one {t : Ty} {p : Nat → Prop} : ∀ {xs : List (den t)} {inner : List Value} {q : Nat → Prop}, Els (M w1 t) (sz t) q xs inner → ∀ u ∈ inner, u.oneCell' = true
 | [], inner, q, h, u, hu => by rw [show inner = [] from h] at hu; cases hu
 | x :: xs, inner, q, ⟨c, r, _, _, e, _, _, hx, hr⟩, u, hu => by
  rw [e] at hu
  rcases List.mem_append.1 hu with hu | hu
  ·exact M_one t hx u hu
  ·exact els_one (p := p) hr u hu
/-- 'append(x, ys...)', the cells of ys told. -/
theorem goes_append {T e : Nat} {td te : TD} {c : Call} {X Y : Operand} {A B : Option Addr} {n m k cB : Nat} {xs ys : List (den te.ty)} {p q : Nat → Prop} {new : List Nat} (hT : TdOk P C.Δ T td) (hk : td.kind = .slice e) (hte : TdOk P C.Δ e te) (H : Mem w ok live w1 ρ fp me) (hb : ∀ i, b ≤ i → i < b + step → ¬ live i) (hus : ∀ i ∈ new, ∃ v e t xs, me i = some (.row v e t xs))
  (hr0 : ∀ v1 w2, (Builtin.append_ #[T, T] o.type #[.slice A n k, .slice B m cB]).run P w1 = .ok v1 w2 → (execOp a.eval o).run P w1 = .ok (.value v1) w2)
  (hR : R w1 e te.ty p (.slice A n k) xs) (hm : m = ys.length) (hcells : 0 < ys.length → ∃ ad inner, B = some ad ∧ Els (M w1 te.ty) (sz te.ty) q ys inner ∧ ∀ j u, inner[j]? = some u → w1.cell? (ad.add j) = some u)
  (hB0 : ys.length = 0 → ∀ v : Value, v = .slice A n k → (Builtin.append_ #[T, T] o.type #[.slice A n k, .slice B m cB]).run P w1 = .ok (.slice A n k) w1)
  (hpq : Sub2 p q (fpOf fp new)) (hl : (xs.length + ys.length) * te.bytes ≤ 140737488355328) :
  Goes P w ok live b o a w1 ρ me (lf (.own b)) ((b, some (.row 0 e te.ty (xs ++ ys))) :: gone new) := by
 have hu := hT.slice hk
 by_cases hy : ys.length = 0
 ·have hyn : ys = [] := List.length_eq_zero_iff.1 hy
  subst hyn
  rw [List.append_nil]
  exact goes_row (q := fpOf fp new) H hb hus (hr0 _ _ (hB0 hy _ rfl)) rfl rfl rfl (Nat.le_refl _) (fun _ _ _ => rfl) (fun k hk => .inl hk) (R_imp hR hpq.1 (fun _ _ => rfl))
 ·obtain ⟨ad, news, rfl, hEl, hc⟩ := hcells (by omega)
  obtain ⟨inner, hq, ho, hs⟩ := hR
  obtain ⟨i, hi, hsz, hby, hz⟩ := hte.info
  have hzs : (zeroV te).cells.size = sz te.ty := by
   have := of_cells (fun _ => ⟨0, none, 0, 0, 0⟩) te.st (zl te.ty)
   rw [← Array.length_toList]
   show ((CV.of te.st (zl te.ty)).val _).cells.toList.length = _
   rw [this]
   simp [vals, zl_len]
  subst hm
  have hlen : xs.length + ys.length ≤ 140737488355328 := Nat.le_trans (Nat.le_mul_of_pos_right _ hte.bytes) hl
  obtain ⟨v1, w2, hrun, hq1, hg, hat⟩ := q_append (P := P) w1 0 T o.type e i (zeroV te) (sz te.ty) te.bytes hu hi hz (by rw [hsz, hte.size]) hby hzs (sz_pos _) (.slice A n k) xs.length inner hq ad ys.length cB news hEl.len hc (els_one (p := q) hEl) (by omega) (by unfold maxLen; omega) hl (Nat.zero_le _)
  have hown : ∀ j, (Value.slice A n k).ownBlock = some j → j < w1.heap.size := fun j hj => q_lt hq j hj
  have hfpk : ∀ j, fpOf fp new j → j < w1.heap.size := fun j ⟨i, _, h⟩ => (H.fpk i j h).2
  have hmove : ∀ j, j < w1.heap.size → (Value.slice A n k).ownBlock ≠ some j → w2.heap[j]? = w1.heap[j]? := fun j hj hn => hg.block j hj (fun e => hn e.symm)
  refine goes_row (q := fun j => fpOf fp new j ∨ (w1.heap.size ≤ j ∧ j < w2.heap.size)) H hb hus (hr0 _ _ hrun) hg.os hg.tape hg.output hg.size (fun j hj hn => hmove j hj (fun h => ?_)) (fun j hj => hj) ?_
  ·obtain ⟨i, hi, hij⟩ := hpq.1 j (ho j h)
   exact hn i hi hij
  ·refine ⟨inner ++ news, by rw [List.length_append]; exact hq1, fun j hj => ?_, ?_⟩
   ·rcases hat with h | ⟨b', h, hle⟩
    ·rw [h] at hj
     exact .inl (hpq.1 j (ho j hj))
    ·have := q_lt hq1 j hj
     rw [h] at hj
     injection hj with hj
     subst hj
     exact .inr ⟨hle, this⟩
   ·have nb : ∀ j, fpOf fp new j → (Value.slice A n k).ownBlock ≠ some j → v1.ownBlock ≠ some j := by
     intro j hj hn h
     rcases hat with h' | ⟨b', h', hle⟩
     ·exact hn (h' ▸ h)
     ·rw [h'] at h
      injection h with h
      have := hfpk j hj
      omega
    have hs' : Els (M w2 te.ty) (sz te.ty) (fun j => p j ∧ (Value.slice A n k).ownBlock ≠ some j) xs inner := hs.imp (fun _ h => h) (fun r x c hr h => M_move h (fun j hj => hmove j (hfpk j (hpq.1 j (hr j hj).1)) (hr j hj).2))
    have hE' : Els (M w2 te.ty) (sz te.ty) q ys news := hEl.imp (fun _ h => h) (fun r x c hr h => M_move h (fun j hj => hmove j (hfpk j (hpq.2.1 j (hr j hj))) (fun h => hpq.2.2 j (ho j h) (hr j hj))))
    refine Els.append hs' hE' ⟨fun j hj => ⟨.inl (hpq.1 j hj.1), nb j (hpq.1 j hj.1) hj.2⟩, fun j hj => ⟨.inl (hpq.2.1 j hj), nb j (hpq.2.1 j hj) (fun h => hpq.2.2 j (ho j h) hj)⟩, fun j hj hj' => hpq.2.2 j hj.1 hj'⟩
theorem run_append0 {T e : Nat} {te : TD} (hu : P.underlying T = some (.slice e)) (hte : TdOk P C.Δ e te) (ty : TypeId) (A B : Option Addr) (n k cB : Nat) (hnk : n ≤ k) : (Builtin.append_ #[T, T] ty #[.slice A n k, .slice B 0 cB]).run P w1 = .ok (.slice A n k) w1 := by
 have hz := run_sizeTd (C := C) hte w1
 have h1 : (Builtin.lenOf (.slice B 0 cB)).run P w1 = .ok 0 w1 := by simp [Builtin.lenOf]
 have h2 : (Builtin.firstCells te.size 0 (.slice B 0 cB)).run P w1 = .ok #[] w1 := by
  cases B with
  | none => simp [Builtin.firstCells]
  | some ad =>
   simp only [Builtin.firstCells, Nat.zero_mul]
   exact run_loadCells_list w1 ad [] (fun j v h => by simp at h)
 have h3 : ∀ ad : Addr, (storeCells ad ([] : List Value)).run P w1 = .ok () w1 := fun ad => by simp [storeCells]
 unfold Builtin.append_
 cases A <;> simp [Sem.run_bind, run_underlying hu, hz, h1, h2, h3, hnk]
theorem goes_append1 {T e : Nat} {td te : TD} {X Y : Operand} {l : Leaf} {xs ys : List (den te.ty)} {p q : Nat → Prop} {new : List Nat} {B : Option Addr} {cB : Nat} (hT : TdOk P C.Δ T td) (hk : td.kind = .slice e) (hte : TdOk P C.Δ e te) (H : Mem w ok live w1 ρ fp me) (hb : ∀ i, b ≤ i → i < b + step → ¬ live i) (hus : ∀ i ∈ new, ∃ v e t xs, me i = some (.row v e t xs))
  (ho : o.op = .call { callee := .builtin .append, args := #[X, Y], argTypes := #[T, T] }) (hx : a.eval X = l.val ρ) (hy : a.eval Y = .slice B ys.length cB)
  (hR : R w1 e te.ty p (l.val ρ) xs) (hcells : 0 < ys.length → ∃ ad inner, B = some ad ∧ Els (M w1 te.ty) (sz te.ty) q ys inner ∧ ∀ j u, inner[j]? = some u → w1.cell? (ad.add j) = some u)
  (hpq : Sub2 p q (fpOf fp new)) (hl : (xs.length + ys.length) * te.bytes ≤ 140737488355328) :
  Goes P w ok live b o a w1 ρ me (lf (.own b)) ((b, some (.row 0 e te.ty (xs ++ ys))) :: gone new) := by
 obtain ⟨A, k, hA⟩ := R_slice hR
 rw [hA] at hR hx
 obtain ⟨h1, h2, _⟩ := C_of_R hR
 refine goes_append (c := { callee := .builtin .append, args := #[X, Y], argTypes := #[T, T] }) (X := X) (Y := Y) (cB := cB) hT hk hte H hb hus ?_ hR rfl hcells (fun h0 v hv => by rw [h0]; exact run_append0 (hT.slice hk) hte _ _ _ _ _ _ h2) hpq hl
 intro v1 w2 hr
 unfold execOp
 simp [ho, resolve, Sem.run_bind, hx, hy, invoke, builtin]
 simp [hr]
theorem go_append {T U : Nat} {X Y : Operand} (hC : TdsOk P C.Δ) (H : Mem w ok live w1 ρ fp me) (hb : ∀ i, b ≤ i → i < b + step → ¬ live i) (ho : o.op = .call { callee := .builtin .append, args := #[X, Y], argTypes := #[T, U] }) (E : ∀ z, z = X ∨ z = Y → ∀ v, ev s z = some v → a.eval z = v.val ρ ∧ v.In live ρ) (h : Out me (appendA C b T U (ev s X) (ev s Y)) (v, us)) : Goes P w ok live b o a w1 ρ me v us := by
 unfold appendA at h
 split at h
 ·rename_i td htd
  split at h
  ·rename_i e hk
   split at h
   ·rename_i te hte
    obtain ⟨hU, hh⟩ := bif_fail h
    clear h
    have hU := Nat.eq_of_beq_eq_true hU
    subst hU
    obtain ⟨x, hx, h⟩ := lfOf_out hh
    clear hh
    obtain ⟨x1, x2⟩ := E X (.inl rfl) _ hx
    obtain ⟨xs, us1, n1, h, ht1, hR⟩ := tkRow_out H (lf_of x2).ok h
    obtain ⟨y, hy, h⟩ := lfOf_out h
    obtain ⟨y1, y2⟩ := E Y (.inr rfl) _ hy
    have hu1 : us1 = n1 := by rw [ht1.1, List.append_nil]
    subst hu1
    rcases bif_out h with ⟨hf, h⟩ | ⟨hf, h⟩
    ·obtain ⟨ys, B, cB, h, hv, hl, hc⟩ := rdRow_out H (lf_of y2).ok h
     obtain ⟨hlen, zs, hz, h⟩ := h
     injection hz with hz
     subst hz
     injection out_out h with h1 h2
     subst h1; subst h2
     exact goes_append1 (q := fun _ => False) (hC U td htd) hk (hC e te hte) H hb (fun i hi => (ht1.2.2 i hi).2) ho x1 (by rw [y1]; exact hv) hR (fun hn => els_of_C hf hc hn _) ⟨fun _ h => h, fun _ h => h.elim, fun _ _ h => h⟩ hlen
    ·obtain ⟨ys, us2, n2, h, ht2, hR2⟩ := tkRow_out H (lf_of y2).ok h
     obtain ⟨hlen, zs, hz, h⟩ := h
     injection hz with hz
     subst hz
     injection out_out h with h1 h2
     subst h1; subst h2
     have hap : ∀ j ∈ n2, j ∉ us1 := fun j hj h1 => (ht2.2.2 j hj).1 h1
     obtain ⟨B, cB, hB⟩ := R_slice hR2
     have hR2' := hR2
     rw [hB] at hR2'
     rw [ht2.1]
     exact goes_append1 (p := fpOf fp us1) (q := fpOf fp n2) (hC U td htd) hk (hC e te hte) H hb (fun i hi => (List.mem_append.1 hi).elim (fun h => (ht2.2.2 i h).2) (fun h => (ht1.2.2 i h).2)) ho x1 (by rw [y1]; exact hB) hR (fun hn => cells_of_R hR2' hn) (fp_apart H hap) hlen
   ·exact h.elim
  ·exact h.elim
 ·exact h.elim
end
end Go.Proofs.YthncjcfnpfajaaaA
