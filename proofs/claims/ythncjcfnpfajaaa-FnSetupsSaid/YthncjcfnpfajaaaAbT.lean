/- What each operation of the abstract machine says of the world: what is made anew, operation by operation. Plain lemmas; no condition. -/
import Derived.Test.YthncjcfnpfajaaaAbS
namespace Go.Proofs.YthncjcfnpfajaaaA
open Go Go.RowKit Go.Proofs.YthncjcfnpfajaaaW.PrintWords
set_option linter.unusedVariables false
set_option linter.unusedSimpArgs false

theorem zl_len : ∀ t : Ty, (zl t).length = sz t
 | .int _ => rfl
 | .bool => rfl
 | .str => rfl
 | .sl _ _ => rfl
 | .pair a b => by rw [zl, List.length_append, zl_len a, zl_len b]; rfl
theorem zl_ref : ∀ (t : Ty), ∀ l ∈ zl t, l.ref = none
 | .int _, l, h => by rw [List.mem_singleton.1 h]; rfl
 | .bool, l, h => by rw [List.mem_singleton.1 h]; rfl
 | .str, l, h => by rw [List.mem_singleton.1 h]; rfl
 | .sl _ _, l, h => by rw [List.mem_singleton.1 h]; rfl
 | .pair a b, l, h => (List.mem_append.1 h).elim (zl_ref a l) (zl_ref b l)
theorem M_zero (w : World) (ρ : Nat → Hd) : ∀ (t : Ty) (p : Nat → Prop), M w t p (zero t) (vals ρ (zl t))
 | .int _, _ => rfl
 | .bool, _ => rfl
 | .str, _ => rfl
 | .sl e t, p => ⟨_, rfl, R_nil _ _ _ _⟩
 | .pair a b, p => ⟨vals ρ (zl a), vals ρ (zl b), fun _ => False, fun _ => False, vals_append _ _, ⟨fun _ h => h.elim, fun _ h => h.elim, fun _ h _ => h⟩, M_zero w ρ a _, M_zero w ρ b _⟩
theorem leaf_none {ρ ρ' : Nat → Hd} {l : Leaf} (h : l.ref = none) : l.val ρ' = l.val ρ := by cases l <;> first | rfl | cases h
theorem vals_none {ρ ρ' : Nat → Hd} {ls : List Leaf} (h : ∀ l ∈ ls, l.ref = none) : vals ρ' ls = vals ρ ls := List.map_congr_left (fun l hl => leaf_none (h l hl))
theorem leaf_cells (ρ : Nat → Hd) (l : Leaf) : (l.val ρ).cells = #[l.val ρ] := by cases l <;> rfl
theorem leaf_one (ρ : Nat → Hd) (l : Leaf) (h : l ≠ .undef) : (l.val ρ).oneCell' = true := by cases l <;> first | rfl | exact absurd rfl h
theorem cv_cells (ρ : Nat → Hd) (v : CV) : (v.val ρ).cells.toList = vals ρ v.leaves := by
 cases v with
 | lf l => simp [CV.val, leaf_cells, CV.leaves, vals]
 | ag cs => simp [CV.val, CV.leaves, vals, Value.cells]
theorem of_cells (ρ : Nat → Hd) (st : Bool) (ls : List Leaf) : ((CV.of st ls).val ρ).cells.toList = vals ρ ls := by rw [cv_cells, of_leaves]
theorem set_block (w : World) (o : Obj) : (w.alloc o).heap[w.heap.size]? = some o := heap_alloc_new w o
section
variable {P : Program} {w w1 : World} {ok live : Nat → Prop} {b : Nat} {o : Oper} {a : Act} {ρ : Nat → Hd} {fp : Nat → Nat → Prop} {me : Nat → Option Part} {v : SV} {us : Me} {s : Sl} {C : Ctx}
theorem step_lt : b < b + step := by unfold step; omega
/-- A new block. -/
theorem goes_blk {T : Nat} {cs : List Leaf} (H : Mem w ok live w1 ρ fp me) (hb : ∀ i, b ≤ i → i < b + step → ¬ live i) (hcs : LsIn live ρ cs) (hr : (execOp a.eval o).run P w1 = .ok (.value (.pointer (some ⟨w1.heap.size, 0, none⟩))) (w1.alloc (.cells (vals ρ cs).toArray T (0, 0)))) :
  Goes P w ok live b o a w1 ρ me (lf (.ptr b 0)) [(b, some (.blk T cs))] := by
 intro K Q h
 obtain ⟨ρ', fp', H', hρ, hh⟩ := mem_give (w2 := w1.alloc (.cells (vals ρ cs).toArray T (0, 0))) H hb [] (fun _ h => by cases h) (.blk T cs) ⟨w1.heap.size, none, 0, 0, 0⟩ (fun k => k = w1.heap.size) rfl rfl rfl (by simp) (fun k hk _ => Below.heap_alloc _ _ _ hk) (fun k hk => .inr (by subst hk; simp)) hcs (fun _ _ _ _ h => by cases h) (fun ρ' me' hh hρ => by
  show _ ∧ _
  rw [hh, vals_eq hρ hcs]
  exact ⟨rfl, set_block _ _⟩)
 refine wp_val hr ?_
 have := h _ ρ' fp' H' hρ (lf_in ⟨fun r hr => by injection hr with hr; subst hr; exact .inr ⟨Nat.le_refl _, step_lt⟩, trivial⟩)
 simp only [SV.val, lf, CV.val, Leaf.val, hh] at this
 exact this
theorem go_alloc {T : TypeId} (hC : TdsOk P C.Δ) (H : Mem w ok live w1 ρ fp me) (hb : ∀ i, b ≤ i → i < b + step → ¬ live i) (ho : o.op = .alloc T) (h : Out me (match get C.Δ T with | some td => .out (lf (.ptr b 0)) [(b, some (.blk T (zl td.ty)))] | none => (.fail : OP)) (v, us)) : Goes P w ok live b o a w1 ρ me v us := by
 split at h
 ·rename_i td htd
  injection out_out h with h1 h2
  subst h1; subst h2
  obtain ⟨i, hi, _, _, hz⟩ := (hC T td htd).info
  refine goes_blk H hb (fun l hl => in_none (zl_ref _ l hl)) ?_
  have hc : (zeroV td).cells = (vals ρ (zl td.ty)).toArray := by
   have := of_cells (fun _ => ⟨0, none, 0, 0, 0⟩) td.st (zl td.ty)
   rw [vals_none (ρ := ρ) (zl_ref td.ty)] at this
   rw [← this]
   simp [zeroV]
  unfold execOp
  simp [ho, Instr.alloc, Sem.run_bind, zeroValue, typeInfo, hi, hz, newVar, newRow, hc]
 ·exact h.elim
theorem go_box {T : TypeId} {x : Operand} (H : Mem w ok live w1 ρ fp me) (hb : ∀ i, b ≤ i → i < b + step → ¬ live i) (ho : o.op = .box T x) (E : ∀ v, ev s x = some v → a.eval x = v.val ρ ∧ v.In live ρ) (h : Out me (cvOf (ev s x) fun v => .out (lf (.ptr b 0)) [(b, some (.blk T v.leaves))]) (v, us)) : Goes P w ok live b o a w1 ρ me v us := by
 obtain ⟨c, hc, h⟩ := cvOf_out h
 obtain ⟨e1, e2⟩ := E _ hc
 injection out_out h with h1 h2
 subst h1; subst h2
 refine goes_blk H hb e2 ?_
 have hcs : (c.val ρ).cells = (vals ρ c.leaves).toArray := by rw [← cv_cells]
 have e1' : a.eval x = c.val ρ := e1
 unfold execOp
 simp [ho, Instr.box, Sem.run_bind, newVar, newRow, e1', hcs]
/-- A new row, of rows that are given away or of nothing. -/
theorem goes_row {e : Nat} {t : Ty} {xs : List (den t)} {new : List Nat} {u : Value} {w2 : World} {q : Nat → Prop} (H : Mem w ok live w1 ρ fp me) (hb : ∀ i, b ≤ i → i < b + step → ¬ live i) (hus : ∀ i ∈ new, ∃ v e t xs, me i = some (.row v e t xs)) (hr : (execOp a.eval o).run P w1 = .ok (.value u) w2)
  (hos : w2.os = w1.os) (htape : w2.tape = w1.tape) (hout : w2.output = w1.output) (hsz : w1.heap.size ≤ w2.heap.size)
  (hblk : ∀ k, k < w1.heap.size → (∀ i ∈ new, ¬ fp i k) → w2.heap[k]? = w1.heap[k]?) (hq : ∀ k, q k → fpOf fp new k ∨ (w1.heap.size ≤ k ∧ k < w2.heap.size)) (hR : R w2 e t q u xs) :
  Goes P w ok live b o a w1 ρ me (lf (.own b)) ((b, some (.row 0 e t xs)) :: gone new) := by
 intro K Q h
 obtain ⟨A, c, hu⟩ := R_slice hR
 subst hu
 obtain ⟨ρ', fp', H', hρ, hh⟩ := mem_give (w2 := w2) H hb new hus (.row 0 e t xs) ⟨0, A, xs.length, c, sz t⟩ q hos htape hout hsz hblk hq trivial (fun _ _ _ _ h => by cases h) (fun ρ' me' hh hρ => by
  show _ ∧ _
  rw [hh]
  exact ⟨rfl, hR⟩)
 refine wp_val hr ?_
 have := h _ ρ' fp' H' hρ (lf_in ⟨fun r hr => by injection hr with hr; subst hr; exact .inr ⟨Nat.le_refl _, step_lt⟩, trivial⟩)
 simp only [SV.val, lf, CV.val, Leaf.val, hh, Hd.sl] at this
 exact this
theorem R_new {e : Nat} {t : Ty} {xs : List (den t)} {inner : List Value} {p : Nat → Prop} (hl : inner.length = xs.length * sz t) (hs : Els (M w1 t) (sz t) p xs inner) (hn : xs.length ≤ maxLen) (hp : ∀ k, p k → k < w1.heap.size) : R (w1.alloc (.cells inner.toArray e (0, 0))) e t (fun k => p k ∨ k = w1.heap.size) (.slice (some ⟨w1.heap.size, 0, none⟩) xs.length xs.length) xs := by
 refine ⟨inner, ⟨hl, .inr ⟨w1.heap.size, 0, xs.length, inner.toArray, by rw [Nat.zero_mul], Nat.zero_le _, set_block _ _, Nat.le_refl _, by omega, by simp [hl], by rw [Nat.zero_mul, List.drop_zero, ← hl]; simp⟩⟩, fun k hk => ?_, ?_⟩
 ·simp [Value.ownBlock] at hk
  exact .inr hk.symm
 ·refine hs.imp (fun k hk => ⟨.inl hk, ?_⟩) (fun q x c hq h => M_move h (fun k hk => Below.heap_alloc _ _ _ (hp k (hq k hk))))
  simp [Value.ownBlock]
  have := hp k hk
  omega
theorem els_of_reps {α : Type} {R' : α → List Value → Prop} {R : (Nat → Prop) → α → List Value → Prop} {size : Nat} {p : Nat → Prop} (hR : ∀ x c, R' x c → R (fun _ => False) x c) : ∀ {ps : List α} {cs : List Value}, Reps R' size ps cs → Els R size p ps cs
 | [], cs, h => by
  have := h.1
  simpa [Els] using this
 | x :: ps, cs, ⟨hl, h⟩ => by
  have hl' : cs.length = ps.length * size + size := by rw [hl, List.length_cons, Nat.succ_mul]
  refine ⟨cs.take size, cs.drop size, fun _ => False, p, (List.take_append_drop _ _).symm, by rw [List.length_take]; omega, ⟨fun _ h => h.elim, fun _ h => h, fun _ h _ => h⟩, hR _ _ (by simpa using h 0 x rfl), els_of_reps hR ⟨by rw [List.length_drop]; omega, fun j y hj => ?_⟩⟩
  have := h (j + 1) y (by simpa using hj)
  rw [List.drop_drop]
  rwa [show (j + 1) * size = size + j * size by rw [Nat.succ_mul]; omega] at this
theorem go_make {T : TypeId} {x y : Operand} (hC : TdsOk P C.Δ) (H : Mem w ok live w1 ρ fp me) (hb : ∀ i, b ≤ i → i < b + step → ¬ live i) (ho : o.op = .makeSlice T x y) (E : ∀ z, z = x ∨ z = y → ∀ v, ev s z = some v → a.eval z = v.val ρ ∧ v.In live ρ) (h : Out me (opA C b s o) (v, us)) : Goes P w ok live b o a w1 ρ me v us := by
 unfold opA at h
 simp only [ho] at h
 split at h
 ·rename_i td htd
  split at h
  ·rename_i e hk
   have hu := (hC T td htd).slice hk
   split at h
   ·rename_i te hte
    have hte' := hC e te hte
    obtain ⟨k, z, hx, h⟩ := intOf_out h
    obtain ⟨k', z', hy, h⟩ := intOf_out h
    obtain ⟨hz, h0, hl, h⟩ := h
    subst hz
    obtain ⟨xs, hxs, h⟩ := h
    injection hxs with hxs
    subst hxs
    injection out_out h with h1 h2
    subst h1; subst h2
    have x1 : a.eval x = .int k z' := (E x (.inl rfl) _ hx).1
    have y1 : a.eval y = .int k' z' := (E y (.inr rfl) _ hy).1
    obtain ⟨m, rfl⟩ := Int.eq_ofNat_of_zero_le h0
    simp only [Int.toNat_natCast] at hl ⊢
    obtain ⟨i, hi, hs, hby, hzz⟩ := hte'.info
    have hm : m ≤ 281474976710656 := Nat.le_trans (Nat.le_mul_of_pos_right _ hte'.bytes) hl
    have hr := run_make (P := P) w1 T e i _ hu hi hzz k k' (m : Int) (m : Int) h0 (Int.le_refl _)
     (by
      have h3 : ((i.bytes * m : Nat) : Int) ≤ 281474976710656 := by rw [hby, Nat.mul_comm]; omega
      rwa [Int.natCast_mul] at h3) (by omega)
    simp only [Int.toNat_natCast] at hr
    rw [hs, hte'.size] at hr
    have hzc : (zeroV te).cells.toList = vals ρ (zl te.ty) := by
     have := of_cells (fun _ => ⟨0, none, 0, 0, 0⟩) te.st (zl te.ty)
     rw [vals_none (ρ := ρ) (zl_ref te.ty)] at this
     exact this
    have hzs : (zeroV te).cells.size = sz te.ty := by
     rw [← Array.length_toList, hzc]
     simp [vals, zl_len]
    have hrep := Kd.reps_made (R := fun x c => M w1 te.ty (fun _ => False) x c) hzs (sz_pos te.ty) (by rw [hzc]; exact M_zero w1 ρ te.ty _) m
    have hE : Els (M w1 te.ty) (sz te.ty) (fun _ => False) (List.replicate m (zero te.ty)) (madeCells (zeroV te).cells (m * sz te.ty)).toList := els_of_reps (fun x c h => h) hrep
    have hR := R_new (w1 := w1) (e := e) (by rw [hE.len]) hE (by simp; unfold maxLen; omega) (fun _ h => h.elim)
    simp only [List.length_replicate] at hR
    refine goes_row (new := []) (q := fun k => False ∨ k = w1.heap.size) H hb (fun _ h => by cases h) (u := .slice (some ⟨w1.heap.size, 0, none⟩) m m) (w2 := w1.alloc (.cells (madeCells (zeroV te).cells (m * sz te.ty)) e)) ?_ rfl rfl rfl (by simp) (fun k hk _ => Below.heap_alloc _ _ _ hk) (fun k hk => .inr (by rcases hk with h | h; exact h.elim; subst h; simp)) (by simpa using hR)
    unfold execOp
    simp [ho, x1, y1, Sem.run_bind, hr]
   ·exact h.elim
  ·exact h.elim
 ·exact h.elim
/-- Cells laid over cells, as a literal is built. -/
theorem fold_set : ∀ (vs : List Value) (off j : Nat) (cs : Array Value), off + j + vs.length ≤ cs.size → ((vs.zipIdx j).foldl (fun cs x => cs.setIfInBounds (off + x.2) x.1) cs).toList = cs.toList.take (off + j) ++ vs ++ cs.toList.drop (off + j + vs.length)
 | [], off, j, cs, h => by simp
 | v :: vs, off, j, cs, h => by
  have hl : off + j < cs.size := by simp at h; omega
  rw [List.zipIdx_cons, List.foldl_cons, fold_set vs off (j + 1) _ (by simp at h ⊢; omega)]
  have e1 : ((cs.setIfInBounds (off + j) v).toList.take (off + (j + 1))) = cs.toList.take (off + j) ++ [v] := by
   rw [Array.toList_setIfInBounds, ← Nat.add_assoc, List.take_succ_eq_append_getElem (by simpa using hl), List.take_set_of_le (Nat.le_refl _)]
   simp
  have e2 : ((cs.setIfInBounds (off + j) v).toList.drop (off + (j + 1) + vs.length)) = cs.toList.drop (off + j + (v :: vs).length) := by
   rw [Array.toList_setIfInBounds, List.drop_set_of_lt (by omega)]
   congr 1
   simp; omega
  simp only [e1, e2, List.append_assoc, List.singleton_append, List.cons_append, List.nil_append]
theorem fill_one {place : Nat → Option (Nat × Nat)} {cells : Array Value} {i off size : Nat} {u : Value} {rest : List (Nat × Value)} (hp : place i = some (off, size)) (hu : u.cells.size = size) (hl : off + size ≤ cells.size) :
  ∃ cells' : Array Value, Instr.fill place cells ((i, u) :: rest) = Instr.fill place cells' rest ∧ cells'.toList = cells.toList.take off ++ u.cells.toList ++ cells.toList.drop (off + size) := by
 refine ⟨u.cells.zipIdx.foldl (fun cs (x : Value × Nat) => cs.setIfInBounds (off + x.2) x.1) cells, ?_, ?_⟩
 ·rw [Instr.fill, hp]
  simp only
  rw [if_neg (by simp [hu]; omega)]
 ·rw [← Array.foldl_toList, Array.toList_zipIdx]
  have := fold_set u.cells.toList off 0 cells (by simp [hu]; omega)
  simpa [hu] using this
/-- A literal's elements. -/
theorem rowsL_out {st : Bool} {t : Ty} {size : Nat} (hsz : size = sz t) (H : Mem w ok live w1 ρ fp me) : ∀ (ps : List (Nat × Operand)) (q : Nat) (us' : List Nat) {K : List (den t) → List Nat → OP} {r : SV × Me}, (∀ x ∈ ps, ∀ v, ev s x.2 = some v → a.eval x.2 = v.val ρ ∧ v.In live ρ) → Out me (rowsL s st t ps q us' K) r →
  ∃ xs us'' new inner, Out me (K xs us'') r ∧ Took me us' us'' new ∧ Els (M w1 t) (sz t) (fpOf fp new) xs inner ∧ xs.length = ps.length ∧
   ∀ cells : Array Value, (q + ps.length) * size ≤ cells.size → ∃ cells', Instr.fill (fun i => some (i * size, size)) cells (ps.map fun x => (x.1, a.eval x.2)) = some cells' ∧ cells'.toList = cells.toList.take (q * size) ++ inner ++ cells.toList.drop ((q + ps.length) * size) := by
 subst hsz
 intro ps
 induction ps with
 | nil =>
  intro q us' K r hE h
  refine ⟨[], us', [], [], h, Took.nil _, rfl, rfl, fun cells hc => ⟨cells, rfl, ?_⟩⟩
  simp
 | cons x ps ih =>
  intro q us' K r hE h
  obtain ⟨i, x⟩ := x
  obtain ⟨hi, h⟩ := bif_fail h
  have hi := Nat.eq_of_beq_eq_true hi
  subst hi
  obtain ⟨c, hc, h⟩ := cvOf_out h
  obtain ⟨e1, e2⟩ := hE (i, x) (by simp) _ hc
  obtain ⟨y, pre, rest, us1, n1, h, hp, hl, ht, hM⟩ := tak_out H e2 h
  cases rest with
  | cons => exact h.elim
  | nil =>
   obtain ⟨xs, us2, n2, inner, h, ht2, hEl, hxl, hf⟩ := ih (i + 1) us1 (fun x hx => hE x (List.mem_cons_of_mem _ hx)) h
   rw [List.append_nil] at hp
   have hcv : (a.eval x).cells.toList = vals ρ pre := by rw [e1]; show (c.val ρ).cells.toList = _; rw [cv_cells, hp]
   have hcs : (a.eval x).cells.size = sz t := by rw [← Array.length_toList, hcv]; simp [vals, hl]
   have hap : ∀ j ∈ n2, j ∉ n1 := fun j hj h1 => (ht2.2.2 j hj).1 (by rw [ht.1]; exact List.mem_append_left _ h1)
   refine ⟨y :: xs, us2, n2 ++ n1, vals ρ pre ++ inner, h, ht.trans ht2, ?_, by simp [hxl], fun cells hcl => ?_⟩
   ·exact ⟨vals ρ pre, inner, fpOf fp n1, fpOf fp n2, rfl, by simp [vals, hl], fp_apart H hap, hM, hEl⟩
   ·have e3 : (i + (ps.length + 1)) * sz t = i * sz t + sz t + ps.length * sz t := by rw [Nat.add_mul, Nat.add_mul]; omega
    have e4 : (i + 1) * sz t = i * sz t + sz t := by rw [Nat.succ_mul]
    have e5 : (i + 1 + ps.length) * sz t = (i + (ps.length + 1)) * sz t := by congr 1; omega
    simp only [List.length_cons] at hcl
    obtain ⟨c1, f1, t1⟩ := fill_one (place := fun i => some (i * sz t, sz t)) (cells := cells) (i := i) (u := a.eval x) (rest := ps.map fun x => (x.1, a.eval x.2)) rfl hcs (by omega)
    have hs1 : c1.size = cells.size := by
     rw [← Array.length_toList, t1]
     simp [hcs]
     omega
    obtain ⟨c2, f2, t2⟩ := hf c1 (by rw [hs1, e5]; exact hcl)
    refine ⟨c2, by rw [List.map_cons, f1, f2], ?_⟩
    rw [t2, t1, hcv]
    have hlen : (cells.toList.take (i * sz t) ++ vals ρ pre).length = (i + 1) * sz t := by
     simp [vals, hl]
     omega
    have hpl : (vals ρ pre).length = sz t := by simp [vals, hl]
    rw [List.take_append_of_le_length (by rw [hlen]; exact Nat.le_refl _), List.take_of_length_le (by rw [hlen]; exact Nat.le_refl _)]
    rw [show ((i + 1 + ps.length) * sz t) = (cells.toList.take (i * sz t) ++ vals ρ pre).length + ps.length * sz t by rw [hlen, Nat.add_mul (i + 1)], List.drop_length_add_append, List.drop_drop]
    simp only [List.append_assoc, List.length_cons]
    rw [e3]
theorem go_literal {T : TypeId} {len : Nat} {ps : Array (Nat × Operand)} (hC : TdsOk P C.Δ) (H : Mem w ok live w1 ρ fp me) (hb : ∀ i, b ≤ i → i < b + step → ¬ live i) (ho : o.op = .buildSlice T len ps) (E : ∀ x ∈ ps.toList, ∀ v, ev s x.2 = some v → a.eval x.2 = v.val ρ ∧ v.In live ρ) (h : Out me (opA C b s o) (v, us)) : Goes P w ok live b o a w1 ρ me v us := by
 unfold opA at h
 simp only [ho] at h
 split at h
 ·rename_i td htd
  split at h
  ·rename_i e hk
   have hu := (hC T td htd).slice hk
   split at h
   ·rename_i te hte
    have hte' := hC e te hte
    obtain ⟨hle, h⟩ := bif_fail h
    simp only [Bool.and_eq_true] at hle
    have hlen := Nat.eq_of_beq_eq_true hle.1
    have hsm := Nat.le_of_ble_eq_true hle.2
    obtain ⟨xs, us', new, inner, h, ht, hEl, hxl, hf⟩ := rowsL_out (a := a) hte'.size H ps.toList 0 [] E h
    obtain ⟨ys, hys, h⟩ := h
    injection hys with hys
    subst hys
    injection out_out h with h1 h2
    subst h1; subst h2
    have hus : us' = new := by rw [ht.1, List.append_nil]
    subst hus
    obtain ⟨i, hi, hs, _, hz⟩ := hte'.info
    have hpm : (ps.map fun x => (x.1, a.eval x.2)).toList = ps.toList.map fun x => (x.1, a.eval x.2) := by simp
    have hrun : (Instr.buildSlice T len (ps.map fun x => (x.1, a.eval x.2))).run P w1 = .ok (.slice (some ⟨w1.heap.size, 0, none⟩) len len) (w1.alloc (.cells inner.toArray e)) := by
     have hsp := sz_pos te.ty
     rw [← hte'.size] at hsp
     by_cases h0 : len = 0
     ·have hp0 : ps.toList = [] := List.length_eq_zero_iff.1 (by omega)
      have hx0 : xs = [] := List.length_eq_zero_iff.1 (by omega)
      have hi0 : inner = [] := by
       have := hEl.len
       rw [hx0] at this
       simpa using this
      have hps : ps = #[] := by cases ps; simp_all
      subst h0; subst hi0; subst hps
      simp [Instr.buildSlice, run_underlying hu, Sem.run_bind, run_sizeTd (C := C) hte' w1, Instr.fill, newRow, Array.range_zero']
     ·obtain ⟨cells', hf1, hf2⟩ := hf ((Array.range (len * te.size)).map ((zeroV te).cells[· % (zeroV te).cells.size]!)) (by simp [hlen])
      have hsz0 : ¬ len * i.size > 2 ^ 24 := by rw [hs]; omega
      have hpos : ¬ len * i.size = 0 := by
       rw [hs]
       intro hm
       rcases Nat.mul_eq_zero.1 hm with h | h <;> omega
      have hci : cells' = inner.toArray := by
       have : cells'.toList = inner := by
        rw [hf2]
        simp only [Nat.zero_mul, List.take_zero, List.nil_append, Nat.zero_add, hlen]
        rw [List.drop_of_length_le (by simp), List.append_nil]
       rw [← this]
      subst hci
      have := run_buildSlice (P := P) w1 T e len (ps.map fun x => (x.1, a.eval x.2)) inner.toArray i (zeroV te) hu hi hz hsz0 hpos (by rw [hpm, hs]; exact hf1)
      exact this
    have hR := R_new (w1 := w1) (e := e) (by rw [hEl.len]) hEl (by rw [hxl, hlen]; unfold maxLen; have : len ≤ len * te.size := Nat.le_mul_of_pos_right _ (by rw [hte'.size]; exact sz_pos _); omega) (fun k ⟨i, _, hk⟩ => (H.fpk i k hk).2)
    rw [hxl, hlen] at hR
    refine goes_row (new := us') (q := fun k => fpOf fp us' k ∨ k = w1.heap.size) H hb (fun i hi => (ht.2.2 i hi).2) (u := .slice (some ⟨w1.heap.size, 0, none⟩) len len) (w2 := w1.alloc (.cells inner.toArray e)) ?_ rfl rfl rfl (by simp) (fun k hk _ => Below.heap_alloc _ _ _ hk) (fun k hk => by rcases hk with h | h; exact .inl h; subst h; exact .inr ⟨Nat.le_refl _, by simp⟩) hR
    unfold execOp
    simp only [ho, Sem.run_bind]
    rw [hrun]
    rfl
   ·exact h.elim
  ·exact h.elim
 ·exact h.elim
end
end Go.Proofs.YthncjcfnpfajaaaA
