/- What each operation of the abstract machine says of the world: stores. Plain lemmas; no condition. -/
import Derived.Test.YthncjcfnpfajaaaAbX
import Derived.Laws.CopyRow
namespace Go.Proofs.YthncjcfnpfajaaaA
open Go Go.RowKit Go.Proofs.YthncjcfnpfajaaaW.PrintWords
set_option linter.unusedVariables false
set_option linter.unusedSimpArgs false
theorem noU_one (ρ : Nat → Hd) : ∀ {ls : List Leaf}, noU ls = true → ∀ u ∈ vals ρ ls, u.oneCell' = true
 | [], _, u, hu => by cases hu
 | l :: r, h, u, hu => by
  have h' : l ≠ .undef ∧ noU r = true := by
   cases l <;> first | exact ⟨fun e => (by cases e), h⟩ | cases h
  rcases List.mem_cons.1 hu with rfl | hu
  ·exact leaf_one ρ l h'.1
  ·exact noU_one ρ h'.2 u hu
section
variable {P : Program} {w w1 : World} {ok live : Nat → Prop} {b : Nat} {o : Oper} {a : Act} {ρ : Nat → Hd} {fp : Nat → Nat → Prop} {me : Nat → Option Part} {v : SV} {us : Me} {s : Sl} {C : Ctx}
theorem run_store_td {T : Nat} {td : TD} (hT : TdOk P C.Δ T td) {g j t : Nat} {cur : Array Value} {u : Value} (h : w1.heap[g]? = some (.cells cur t (0, 0))) (hu : u.cells.size = td.size) (hj : j + td.size ≤ cur.size) (h1 : ∀ q ∈ u.cells.toList, q.oneCell' = true) :
  (Instr.storeAt T (.pointer (some ⟨g, j, none⟩)) u).run P w1 = .ok () (w1.setRow g (cur.toList.take j ++ u.cells.toList ++ cur.toList.drop (j + td.size)).toArray) := by
 have hs := run_storeCells_at (P := P) g j t u.cells.toList 0 cur w1 h (by simpa [hu] using hj) h1
 simp only [Nat.add_zero, Array.length_toList, hu] at hs
 simp only [Instr.storeAt, Instr.sureAddr, storeVar, Sem.run_bind, Sem.run_pure, Result.andThen_ok, run_sizeTd hT w1]
 simp [hu, hs]
theorem wp_skip' {w2 : World} {K : Act → World → Prop} {Q : Exit → Act → World → Prop} (hr : (execOp a.eval o).run P w1 = .ok .skip w2) (h : K (a.put o.dst Go.undef) w2) : o.wp P a w1 K Q := by
 unfold Oper.wp
 rw [hr]
 exact h
theorem go_storeP {T : TypeId} {td : TD} {x y : Operand} {r j T' : Nat} {cs : List Leaf} {c : CV} (hT : TdOk P C.Δ T td) (H : Mem w ok live w1 ρ fp me) (ho : o.op = .store T x y) (hx : a.eval x = .pointer (some ⟨(ρ r).g, j, none⟩)) (hy : a.eval y = c.val ρ) (hc : c.In live ρ) (hr : me r = some (.blk T' cs)) (hcl : c.leaves.length = td.size) (hl : j + td.size ≤ cs.length) (hn : noU c.leaves = true) :
  Goes P w ok live b o a w1 ρ me undefS [(r, some (.blk T' (over cs j c.leaves)))] := by
 intro K Q h
 obtain ⟨hfp, hb⟩ := H.on r _ hr
 obtain ⟨hlr, hin⟩ := H.lin r _ hr
 have hcv : (c.val ρ).cells.toList = vals ρ c.leaves := cv_cells ρ c
 have hcs : (c.val ρ).cells.size = td.size := by rw [← Array.length_toList, hcv]; simpa [vals] using hcl
 have hrun := run_store_td (P := P) (C := C) (w1 := w1) hT (j := j) (u := c.val ρ) hb hcs (by simpa [vals] using hl) (by rw [hcv]; exact noU_one ρ hn)
 have hov : vals ρ (over cs j c.leaves) = (vals ρ cs).take j ++ vals ρ c.leaves ++ (vals ρ cs).drop (j + td.size) := by
  simp [over, vals, List.map_take, List.map_drop, hcl]
 rw [hcv, show (vals ρ cs).toArray.toList = vals ρ cs from rfl, ← hov] at hrun
 have hupd : ∀ i, upd [(r, some (.blk T' (over cs j c.leaves)))] me i = if i = r then some (.blk T' (over cs j c.leaves)) else me i := fun i => by rw [upd_cons]; rfl
 have H' : Mem w ok (grow live b) (w1.setRow (ρ r).g (vals ρ (over cs j c.leaves)).toArray) ρ fp (upd [(r, some (.blk T' (over cs j c.leaves)))] me) := by
  refine H.step (fun i => i = r) rfl rfl rfl (by simp [World.setRow]) (fun k hk hn => setRow_other _ _ _ _ (fun e => hn r rfl (e ▸ hfp))) (fun _ h => .inl h) (fun _ _ => rfl) (fun i hi => by rw [hupd, if_neg hi]) (fun _ _ => rfl) ?_ ?_ ?_ ?_ ?_
  ·intro i p hi hp
   subst hi
   rw [hupd, if_pos rfl] at hp
   injection hp with hp
   subst hp
   refine ⟨.inl hlr, fun l hl => ?_⟩
   have : l.In live ρ := by
    unfold over at hl
    rcases List.mem_append.1 hl with hl | hl
    ·rcases List.mem_append.1 hl with hl | hl
     ·exact hin l (List.mem_of_mem_take hl)
     ·exact hc l hl
    ·exact hin l (List.mem_of_mem_drop hl)
   exact this.mono (fun _ h => .inl h) (fun _ _ => rfl)
  ·intro i k hi hk
   exact .inl ⟨i, hi, hk⟩
  ·intro i j' k hi hj _ _
   rw [hi, hj]
  ·intro r' hr' _
   subst hr'
   rw [hupd, if_pos rfl]
   exact ⟨fun _ _ _ _ h => by (injection h with h; cases h), fun _ _ _ _ h => by (injection h with h; cases h)⟩
  ·intro i p hi hp
   subst hi
   rw [hupd, if_pos rfl] at hp
   injection hp with hp
   subst hp
   exact ⟨hfp, setRow_heap _ _ _ _ _ _ hb⟩
 refine wp_skip' (w2 := w1.setRow (ρ r).g (vals ρ (over cs j c.leaves)).toArray) ?_ (h _ ρ fp H' (fun _ _ => rfl) (lf_in (in_none rfl)))
 unfold execOp
 simp only [ho, hx, hy, Sem.run_bind, hrun]
 rfl
theorem cut_seg {α : Type _} (L S : List α) (O p N : Nat) {m : Nat} (h1 : O + N ≤ L.length) (h2 : S.length = m) (h3 : p + m ≤ N) : ((L.take (O + p) ++ S ++ L.drop (O + p + m)).drop O).take N = ((L.drop O).take N).take p ++ S ++ ((L.drop O).take N).drop (p + m) := by
 have e1 : L.take (O + p) = L.take O ++ (L.drop O).take p := by rw [List.take_add]
 have e2 : (L.take O).length = O := by rw [List.length_take]; omega
 have e3 : L.drop (O + p + m) = (L.drop O).drop (p + m) := by rw [List.drop_drop]; congr 1; omega
 have hM : N ≤ (L.drop O).length := by rw [List.length_drop]; omega
 rw [e1, e3, List.append_assoc, List.append_assoc, List.drop_append_of_le_length (by omega), List.drop_of_length_le (by omega), List.nil_append]
 generalize L.drop O = K at *
 have l1 : (K.take p).length = p := by rw [List.length_take]; omega
 rw [List.take_take, Nat.min_eq_left (by omega), List.drop_take, ← List.append_assoc, List.take_append, List.length_append, l1, h2]
 rw [List.take_of_length_le (by rw [List.length_append, l1, h2]; omega)]
/-- A store into a row's block. -/
theorem row_store {T : Nat} {td : TD} (hT : TdOk P C.Δ T td) {e size n c i j : Nat} {A : Option Addr} {inner : List Value} {u : Value} (hq : QRow w1 0 e size (.slice A n c) n inner) (hi : i < n) (hu : u.cells.size = td.size) (hj : j + td.size ≤ size) (h1 : ∀ q ∈ u.cells.toList, q.oneCell' = true) :
  ∃ w2, (Instr.storeAt T (.pointer (some (fieldp ((adr A).add (i * size)) j))) u).run P w1 = .ok () w2 ∧ QRow w2 0 e size (.slice A n c) n (inner.take (i * size + j) ++ u.cells.toList ++ inner.drop (i * size + j + td.size)) ∧ w2.os = w1.os ∧ w2.tape = w1.tape ∧ w2.output = w1.output ∧ w2.heap.size = w1.heap.size ∧ ∀ k, (Value.slice A n c).ownBlock ≠ some k → w2.heap[k]? = w1.heap[k]? := by
 obtain ⟨hl, h⟩ := hq
 rcases h with ⟨h0, _⟩ | ⟨g, off, cap, cur, he, _, hb, hnc, hmx, hcs, ht⟩
 ·omega
 injection he with e1 e2 e3
 subst e1; subst e3
 have hle : (i * size + j) + td.size ≤ n * size := by
  have := Nat.mul_le_mul_right size (show i + 1 ≤ n from hi)
  rw [Nat.succ_mul] at this
  omega
 have hcap : n * size ≤ c * size := Nat.mul_le_mul_right _ hnc
 rw [Nat.add_mul] at hcs
 have hp : fieldp ((adr (some ⟨g, off * size, none⟩)).add (i * size)) j = ⟨g, off * size + (i * size + j), none⟩ := by
  rw [fieldp_add]
  show (⟨g, off * size, none⟩ : Addr).add _ = _
  rw [add_at]
 have hrun := run_store_td (P := P) (C := C) (w1 := w1) hT (j := off * size + (i * size + j)) (u := u) hb hu (by omega) h1
 refine ⟨_, by rw [hp]; exact hrun, ⟨?_, .inr ⟨g, off, c, _, rfl, Nat.zero_le _, setRow_heap _ _ _ _ _ _ hb, hnc, hmx, ?_, ?_⟩⟩, rfl, rfl, rfl, by simp [World.setRow], fun k hk => setRow_other _ _ _ _ (fun e => hk (by subst e; rfl))⟩
 ·simp [hu]
  omega
 ·simp [hu]
  rw [Nat.add_mul]
  omega
 ·have hcl : cur.toList.length = off * size + c * size := by simpa using hcs
  have L1 : (cur.toList.take (off * size + (i * size + j))).length = off * size + (i * size + j) := by rw [List.length_take]; omega
  have hul : u.cells.toList.length = td.size := by simpa using hu
  rw [← ht]
  exact cut_seg cur.toList u.cells.toList (off * size) (i * size + j) (n * size) (by omega) hul hle
/-- Where a part of a type stands in it. -/
def subTy : Ty → List Bool → Option (Nat × Ty)
 | t, [] => some (0, t)
 | .pair a _, false :: p => subTy a p
 | .pair a b, true :: p => (subTy b p).map fun x => (sz a + x.1, x.2)
 | _, _ => none
theorem subTy_snoc : ∀ (T : Ty) (p : List Bool) {off : Nat} {a b : Ty}, subTy T p = some (off, .pair a b) → subTy T (p ++ [false]) = some (off, a) ∧ subTy T (p ++ [true]) = some (off + sz a, b)
 | T, [], off, a, b, h => by
  have h' : some ((0 : Nat), T) = some (off, .pair a b) := by cases T <;> exact h
  injection h' with h'
  injection h' with h1 h2
  subst h1; subst h2
  exact ⟨by simp [subTy], by simp [subTy]⟩
 | .pair x y, false :: p, off, a, b, h => subTy_snoc x p h
 | .pair x y, true :: p, off, a, b, h => by
  obtain ⟨q, hq, he⟩ := Option.map_eq_some_iff.1 (show (subTy y p).map _ = _ from h)
  obtain ⟨q1, q2⟩ := q
  injection he with e1 e2
  simp only at e1 e2
  subst e2
  obtain ⟨h1, h2⟩ := subTy_snoc y p hq
  constructor
  ·show (subTy y (p ++ [false])).map _ = _
   rw [h1]; simp [e1]
  ·show (subTy y (p ++ [true])).map _ = _
   rw [h2]; simp; omega
 | .int _, _ :: _, _, _, _, h => by simp [subTy] at h
 | .bool, _ :: _, _, _, _, h => by simp [subTy] at h
 | .str, _ :: _, _, _, _, h => by simp [subTy] at h
 | .sl _ _, _ :: _, _, _, _, h => by simp [subTy] at h
theorem subTy_sl : ∀ (T : Ty) (p : List Bool) {off e : Nat} {t : Ty}, subTy T p = some (off, .sl e t) → pathOff T p = some off
 | T, [], off, e, t, h => by
  have h' : some ((0 : Nat), T) = some (off, .sl e t) := by cases T <;> exact h
  injection h' with h'
  injection h' with h1 h2
  subst h1; subst h2
  rfl
 | .pair x y, false :: p, off, e, t, h => subTy_sl x p h
 | .pair x y, true :: p, off, e, t, h => by
  obtain ⟨q, hq, he⟩ := Option.map_eq_some_iff.1 (show (subTy y p).map _ = _ from h)
  obtain ⟨q1, q2⟩ := q
  injection he with e1 e2
  simp only at e1 e2
  subst e2
  show (pathOff y p).map _ = _
  rw [subTy_sl y p hq]
  simp [e1]
 | .int _, _ :: _, _, _, _, h => by simp [subTy] at h
 | .bool, _ :: _, _, _, _, h => by simp [subTy] at h
 | .str, _ :: _, _, _, _, h => by simp [subTy] at h
 | .sl _ _, _ :: _, _, _, _, h => by simp [subTy] at h
/-- What is laid over an element. -/
theorem put_out (H : Mem w ok live w1 ρ fp me) {r0 v0 i0 : Nat} {T0 : Ty} {C0 : List Value} (hs : ∀ q pa off, me q = some (.sub r0 v0 i0 pa) → pathOff T0 pa = some off → C0[off]? = some (ρ q).sl) :
  ∀ (t : Ty) {x : den t} {j : Nat} {pa : List Bool} {ls : List Leaf} {us : List Nat} {K : den t → List Leaf → List Nat → OP} {r : SV × Me} {off : Nat} {p : Nat → Prop}, subTy T0 pa.reverse = some (off, t) → M w1 t p x ((C0.drop off).take (sz t)) → LsIn live ρ ls → 0 < ls.length → j < sz t → (∀ k, p k → fp r0 k) → r0 ∈ us → Out me (put r0 v0 i0 t x j pa ls us K) r →
   ∃ x' used rest us' new, Out me (K x' rest us') r ∧ ls = used ++ rest ∧ 0 < used.length ∧ j + used.length ≤ sz t ∧ (rest = [] ∨ j + used.length = sz t) ∧ Took me us us' new ∧
    M w1 t (fun k => p k ∨ fpOf fp new k) x' (((C0.drop off).take (sz t)).take j ++ vals ρ used ++ ((C0.drop off).take (sz t)).drop (j + used.length)) := by
 intro t
 have scalar : ∀ (t : Ty), flat t = true → sz t = 1 → (∀ a b, t ≠ .pair a b) → (∀ e t', t ≠ .sl e t') → ∀ {x : den t} {j : Nat} {ls : List Leaf} {us : List Nat} {K : den t → List Leaf → List Nat → OP} {r : SV × Me} {c : List Value} {p : Nat → Prop}, M w1 t p x c → j < sz t → Out me (tak t ls us K) r →
   ∃ x' used rest us' new, Out me (K x' rest us') r ∧ ls = used ++ rest ∧ 0 < used.length ∧ j + used.length ≤ sz t ∧ (rest = [] ∨ j + used.length = sz t) ∧ Took me us us' new ∧ M w1 t (fun k => p k ∨ fpOf fp new k) x' (c.take j ++ vals ρ used ++ c.drop (j + used.length)) := by
  intro t hf hz hp hsl x j ls us K r c p hM hj h
  obtain ⟨x', used, rest, h, e, hl, hM'⟩ := gat_scalar hf (tak_gat hsl hp h)
  have hj0 : j = 0 := by omega
  subst hj0
  have hcl := M_len t hM
  refine ⟨x', used, rest, us, [], h, e, by omega, by omega, .inr (by omega), Took.nil _, ?_⟩
  rw [List.take_zero, List.nil_append, List.drop_of_length_le (by omega), List.append_nil]
  exact hM' _ _ _
 induction t with
 | int k => intro x j pa ls us K r off p _ hM hl h0 hj hp hu h; exact scalar (.int k) rfl rfl (fun _ _ h => by cases h) (fun _ _ h => by cases h) hM hj h
 | bool => intro x j pa ls us K r off p _ hM hl h0 hj hp hu h; exact scalar .bool rfl rfl (fun _ _ h => by cases h) (fun _ _ h => by cases h) hM hj h
 | str => intro x j pa ls us K r off p _ hM hl h0 hj hp hu h; exact scalar .str rfl rfl (fun _ _ h => by cases h) (fun _ _ h => by cases h) hM hj h
 | sl e t ih =>
  intro x j pa ls us K r off p hsub hM hl h0 hj hp hu h
  have hj0 : j = 0 := by
   have : sz (.sl e t) = 1 := rfl
   omega
  subst hj0
  have hcl := M_len _ hM
  have h1 : sz (.sl e t) = 1 := rfl
  rw [h1] at hM hcl ⊢
  obtain ⟨u, hu1⟩ : ∃ u, (C0.drop off).take 1 = [u] := List.length_eq_one_iff.1 hcl
  rw [hu1] at hM ⊢
  have took : ∀ {l : Leaf} {rest : List Leaf}, ls = l :: rest → Out me (tkRow l e t us fun xs us => K xs rest us) r → ∃ x' used rest us' new, Out me (K x' rest us') r ∧ ls = used ++ rest ∧ 0 < used.length ∧ 0 + used.length ≤ 1 ∧ (rest = [] ∨ 0 + used.length = 1) ∧ Took me us us' new ∧ M w1 (.sl e t) (fun k => p k ∨ fpOf fp new k) x' ([u].take 0 ++ vals ρ used ++ [u].drop (0 + used.length)) := by
   intro l rest hls h
   obtain ⟨xs, us', new, h, ht, hR⟩ := tkRow_out H (hl l (by rw [hls]; simp)).ok h
   exact ⟨xs, [l], rest, us', new, h, hls, Nat.one_pos, Nat.le_refl _, .inr rfl, ht, _, rfl, R_imp hR (fun _ h => .inr h) (fun _ _ => rfl)⟩
  cases ls with
  | nil => cases h0
  | cons l rest =>
   cases l with
   | own q =>
    obtain ⟨pt, hq, h⟩ := h
    cases pt with
    | sub r' v' i' path =>
     obtain ⟨hb, g1⟩ := bif_fail h
     clear h
     simp only [Bool.and_eq_true, decide_eq_true_eq] at hb
     obtain ⟨⟨hb1, hb2⟩, hb3⟩ := hb
     have hb1 := Nat.eq_of_beq_eq_true hb1
     have hb2 := Nat.eq_of_beq_eq_true hb2
     obtain ⟨hi, g2⟩ := g1
     subst hb1; subst hb2; subst hb3; subst hi
     have hc := hs q _ off hq (subTy_sl _ _ hsub)
     have hu2 : u = (ρ q).sl := by
      have h3 : ((C0.drop off).take 1)[0]? = some u := by rw [hu1]; rfl
      rw [List.getElem?_take, if_pos Nat.one_pos, List.getElem?_drop, Nat.add_zero, hc] at h3
      injection h3 with h3
      exact h3.symm
     refine ⟨x, [.own q], rest, us, [], g2, rfl, Nat.one_pos, Nat.le_refl _, .inr rfl, Took.nil _, ?_⟩
     rw [hu2] at hM
     exact M_mono hM (fun _ h => .inl h)
    | blk => exact took rfl h
    | row => exact took rfl h
    | view => exact took rfl h
   | _ => exact took rfl h
 | pair a b iha ihb =>
  intro x j pa ls us K r off p hsub hM hl h0 hj hp hu h
  obtain ⟨s1, s2⟩ := subTy_snoc _ _ hsub
  have hcl := M_len _ hM
  have hz : sz (.pair a b) = sz a + sz b := rfl
  obtain ⟨c0, c1, p0, p1, hc, hsp, m0, m1⟩ := hM
  have l0 := M_len a m0
  have l1 := M_len b m1
  have e0 : (C0.drop off).take (sz a) = c0 := by
   have : ((C0.drop off).take (sz (.pair a b))).take (sz a) = c0 := by rw [hc, ← l0]; simp
   rwa [List.take_take, Nat.min_eq_left (by omega)] at this
  have e1 : (C0.drop (off + sz a)).take (sz b) = c1 := by
   have : ((C0.drop off).take (sz (.pair a b))).drop (sz a) = c1 := by rw [hc, ← l0]; simp
   rw [List.drop_take, List.drop_drop] at this
   rwa [show sz (.pair a b) - sz a = sz b by omega] at this
  rw [hc]
  have two : ∀ {y : den a} {used rest : List Leaf} {us1 n1 : List Nat} {q : Nat → Prop} {d0 : List Value}, (∀ k, q k → p0 k ∨ fpOf fp n1 k) → M w1 a q y d0 → Took me us us1 n1 → LsIn live ρ rest → 0 < rest.length → ∀ jb, jb < sz b → Out me (put r0 v0 i0 b x.2 jb (true :: pa) rest us1 fun z ls us => K (y, z) ls us) r →
    ∃ x' used' rest' us' new, Out me (K x' rest' us') r ∧ rest = used' ++ rest' ∧ 0 < used'.length ∧ jb + used'.length ≤ sz b ∧ (rest' = [] ∨ jb + used'.length = sz b) ∧ Took me us us' new ∧ M w1 (.pair a b) (fun k => p k ∨ fpOf fp new k) x' (d0 ++ (c1.take jb ++ vals ρ used' ++ c1.drop (jb + used'.length))) := by
   intro y used rest us1 n1 q d0 hq hy ht hl' h0' jb hjb h
   obtain ⟨z, u2, r2, us2, n2, h, g1, g2, g3, g4, g5, g6⟩ := ihb (p := p1) (pa := true :: pa) (off := off + sz a) (by rw [List.reverse_cons]; exact s2) (by rw [e1]; exact m1) hl' h0' hjb (fun k hk => hp k (hsp.2.1 k hk)) (by rw [ht.1]; exact List.mem_append_right _ hu) h
   rw [e1] at g6
   refine ⟨(y, z), u2, r2, us2, n2 ++ n1, h, g1, g2, g3, g4, ht.trans g5, d0, _, _, _, rfl, ?_, M_mono hy hq, g6⟩
   have fr : ∀ i ∈ n1 ++ n2, i ≠ r0 := by
    intro i hi e
    subst e
    rcases List.mem_append.1 hi with hi | hi
    ·exact (ht.2.2 i hi).1 hu
    ·exact (g5.2.2 i hi).1 (by rw [ht.1]; exact List.mem_append_right _ hu)
   refine ⟨fun k hk => ?_, fun k hk => ?_, fun k hk hk' => ?_⟩
   ·rcases hk with hk | ⟨i, hi, hk⟩
    ·exact .inl (hsp.1 k hk)
    ·exact .inr ⟨i, List.mem_append_right _ hi, hk⟩
   ·rcases hk with hk | ⟨i, hi, hk⟩
    ·exact .inl (hsp.2.1 k hk)
    ·exact .inr ⟨i, List.mem_append_left _ hi, hk⟩
   ·rcases hk with hk | ⟨i, hi, hk⟩
    ·rcases hk' with hk' | ⟨i', hi', hk'⟩
     ·exact hsp.2.2 k hk hk'
     ·exact fr i' (List.mem_append_right _ hi') (H.dis _ _ k hk' (hp k (hsp.1 k hk)))
    ·rcases hk' with hk' | ⟨i', hi', hk'⟩
     ·exact fr i (List.mem_append_left _ hi) (H.dis _ _ k hk (hp k (hsp.2.1 k hk')))
     ·have := H.dis _ _ k hk hk'
      subst this
      exact (g5.2.2 i hi').1 (by rw [ht.1]; exact List.mem_append_left _ hi)
  simp only [put] at h
  rcases bif_out h with ⟨hja, h⟩ | ⟨hja, h⟩
  ·have hja : j < sz a := by simpa using hja
   obtain ⟨y, u1, r1, us1, n1, h, g1, g2, g3, g4, g5, g6⟩ := iha (p := p0) (pa := false :: pa) (off := off) (by rw [List.reverse_cons]; exact s1) (by rw [e0]; exact m0) hl h0 hja (fun k hk => hp k (hsp.1 k hk)) hu h
   rw [e0] at g6
   cases r1 with
   | nil =>
    refine ⟨(y, x.2), u1, [], us1, n1, h, g1, g2, by omega, .inl rfl, g5, _, c1, _, p1, ?_, ?_, g6, m1⟩
    ·rw [List.take_append_of_le_length (by omega), List.drop_append_of_le_length (by omega), List.append_assoc, List.append_assoc, List.append_assoc]
    ·have fr : ∀ i ∈ n1, i ≠ r0 := fun i hi e => by
      subst e
      exact (g5.2.2 i hi).1 hu
     refine ⟨fun k hk => ?_, fun k hk => .inl (hsp.2.1 k hk), fun k hk hk' => ?_⟩
     ·rcases hk with hk | hk
      ·exact .inl (hsp.1 k hk)
      ·exact .inr hk
     ·rcases hk with hk | ⟨i, hi, hk⟩
      ·exact hsp.2.2 k hk hk'
      ·exact fr i hi (H.dis _ _ k hk (hp k (hsp.2.1 k hk')))
   | cons l r1 =>
    have hju : j + u1.length = sz a := by
     rcases g4 with h | h
     ·cases h
     ·exact h
    obtain ⟨x', u2, r2, us2, new, h, k1, k2, k3, k4, k5, k6⟩ := two (y := y) (used := u1) (fun _ h => h) g6 g5 (fun z hz => hl z (by rw [g1]; exact List.mem_append_right _ hz)) (by simp) 0 (sz_pos b) h
    refine ⟨x', u1 ++ u2, r2, us2, new, h, by rw [g1, k1, List.append_assoc], by simp; omega, by simp; omega, ?_, k5, ?_⟩
    ·rcases k4 with h | h
     ·exact .inl h
     ·exact .inr (by simp; omega)
    ·rw [vals_append, List.take_append_of_le_length (by omega)]
     have d1 : c0.drop (j + u1.length) = [] := List.drop_of_length_le (by omega)
     rw [d1, List.append_nil, List.take_zero, List.nil_append, Nat.zero_add] at k6
     rw [show j + (u1 ++ u2).length = c0.length + u2.length by simp; omega, List.drop_length_add_append]
     simpa [List.append_assoc] using k6
  ·have hja : sz a ≤ j := by
    by_cases h2 : j < sz a
    ·have h3 : Nat.blt j (sz a) = true := by simpa using h2
     rw [h3] at hja
     cases hja
    ·omega
   obtain ⟨x', u2, r2, us2, new, h, k1, k2, k3, k4, k5, k6⟩ := two (y := x.1) (used := []) (q := p0) (d0 := c0) (fun _ h => .inl h) m0 (Took.nil us) hl h0 (j - sz a) (by omega) h
   refine ⟨x', u2, r2, us2, new, h, k1, k2, by omega, ?_, k5, ?_⟩
   ·rcases k4 with h | h
    ·exact .inl h
    ·exact .inr (by omega)
   ·have q1 : (c0 ++ c1).take j = c0 ++ c1.take (j - sz a) := by
     rw [List.take_append, List.take_of_length_le (by omega), l0]
    have q2 : (c0 ++ c1).drop (j + u2.length) = c1.drop (j - sz a + u2.length) := by
     rw [List.drop_append, List.drop_of_length_le (by omega), List.nil_append, l0]
     congr 1
     omega
    rw [q1, q2]
    simpa [List.append_assoc] using k6
theorem seg_in {α : Type _} (L S c : List α) (p z j : Nat) {m : Nat} (hc : (L.drop p).take z = c) (h1 : p + z ≤ L.length) (h2 : S.length = m) (h3 : j + m ≤ z) : L.take (p + j) ++ S ++ L.drop (p + j + m) = L.take p ++ (c.take j ++ S ++ c.drop (j + m)) ++ L.drop (p + z) := by
 subst hc
 rw [List.take_add, List.take_take, Nat.min_eq_left (by omega), List.drop_take, List.drop_drop]
 have e : L.drop (p + j + m) = (L.drop (p + (j + m))).take (z - (j + m)) ++ L.drop (p + z) := by
  have h := (List.take_append_drop (z - (j + m)) (L.drop (p + (j + m)))).symm
  rw [List.drop_drop] at h
  rw [show p + j + m = p + (j + m) by omega]
  rw [show p + (j + m) + (z - (j + m)) = p + z by omega] at h
  exact h
 rw [e]
 simp only [List.append_assoc]
theorem go_storeE {T : TypeId} {td : TD} {x y : Operand} {r i j z ver e : Nat} {t : Ty} {xs : List (den t)} {c : CV} (hT : TdOk P C.Δ T td) (H : Mem w ok live w1 ρ fp me) (ho : o.op = .store T x y) (hx : a.eval x = .pointer (some (fieldp ((adr (ρ r).A).add (i * z)) j))) (hz : z = (ρ r).z) (hi : i < (ρ r).n) (hy : a.eval y = c.val ρ) (hc : c.In live ρ) (hr : me r = some (.row ver e t xs)) (hcl : c.leaves.length = td.size) (hj : j + td.size ≤ sz t)
  (h : Out me (put r ver i t (el t xs i) j [] c.leaves [r] fun x' rest us => match rest with
    | [] => (.bindO (some (xs.set i x')) fun ys => .out undefS ((r, some (.row (ver + 1) e t ys)) :: gone us) : OP)
    | _ => .fail) (v, us)) : Goes P w ok live b o a w1 ρ me v us := by
 obtain ⟨hzr, hR⟩ := H.on r _ hr
 obtain ⟨hlr, _⟩ := H.lin r _ hr
 obtain ⟨hn, hnc, _⟩ := C_of_R hR
 obtain ⟨inner, hq, hown, hEl⟩ := hR
 have hix : i < xs.length := by omega
 have hxi : xs[i]? = some (el t xs i) := by
  unfold el
  rw [List.getD_eq_getElem?_getD, List.getElem?_eq_getElem hix]
  rfl
 obtain ⟨c0, pi, pr, hin, hc0, hl0, hsp, hM, hclos⟩ := Els.at i hEl hxi
 have hq' : QRow w1 0 e (sz t) (.slice (ρ r).A xs.length (ρ r).c) xs.length inner := by
  have : QRow w1 0 e (sz t) (.slice (ρ r).A (ρ r).n (ρ r).c) xs.length inner := hq
  rw [hn] at this
  exact this
 obtain ⟨ad, hA, hcell⟩ := q_cells hq' (by omega)
 have hA' : adr (ρ r).A = ad := adr_some hA
 have hs : ∀ q pa off, me q = some (.sub r ver i pa) → pathOff t pa = some off → c0[off]? = some (ρ q).sl := by
  intro q pa off hmq hpa
  obtain ⟨hon, _⟩ := H.on q _ hmq
  obtain ⟨_, off', h1, _, h2⟩ := (hon _ _ _ _ hr).2 rfl
  rw [hpa] at h1
  injection h1 with h1
  subst h1
  have ho' : off < sz t := by
   have : ∀ (t : Ty) (pa : List Bool) {off : Nat}, pathOff t pa = some off → off < sz t := by
    intro t
    induction t with
    | int k => intro pa off h; cases h
    | bool => intro pa off h; cases h
    | str => intro pa off h; cases h
    | sl e t ih =>
     intro pa off h
     cases pa with
     | nil => injection h with h; subst h; exact Nat.one_pos
     | cons => cases h
    | pair a b iha ihb =>
     intro pa off h
     cases pa with
     | nil => cases h
     | cons q pa =>
      cases q with
      | false =>
       have := iha pa (show pathOff a pa = some off from h)
       simp only [sz]
       omega
      | true =>
       obtain ⟨q', hq', he⟩ := Option.map_eq_some_iff.1 (show (pathOff b pa).map _ = some off from h)
       have := ihb pa hq'
       simp only [sz]
       omega
   exact this t pa hpa
  obtain ⟨u, hu⟩ : ∃ u, c0[off]? = some u := ⟨_, List.getElem?_eq_getElem (by omega)⟩
  have hu' : inner[i * sz t + off]? = some u := by
   rw [← hc0, List.getElem?_take, if_pos ho', List.getElem?_drop] at hu
   exact hu
  have := hcell _ _ hu'
  rw [hA'] at h2
  rw [this] at h2
  injection h2 with h2
  rw [hu, h2]
 have hl0' : c0.length = sz t := hl0
 obtain ⟨x', used, rest, us', new, h, g1, g2, g3, g4, g5, g6⟩ := put_out H hs t (pa := []) (off := 0) (p := pi) (by cases t <;> rfl) (by rw [List.drop_zero, List.take_of_length_le (by omega)]; exact hM) hc (by rw [hcl]; rw [hT.size]; exact sz_pos _) (by have := sz_pos td.ty; rw [← hT.size] at this; omega) (fun k hk => (hsp.1 k hk).1) (by simp) h
 cases rest with
 | cons => exact h.elim
 | nil =>
  obtain ⟨ys, hys, h⟩ := h
  injection hys with hys
  subst hys
  injection out_out h with h1 h2
  subst h1; subst h2
  rw [List.append_nil] at g1
  subst g1
  rw [List.drop_zero, List.take_of_length_le (l := c0) (i := sz t) (by omega)] at g6
  have hcv : (c.val ρ).cells.toList = vals ρ c.leaves := cv_cells ρ c
  have hcs : (c.val ρ).cells.size = td.size := by rw [← Array.length_toList, hcv]; simpa [vals] using hcl
  have hone : ∀ u ∈ (c.val ρ).cells.toList, u.oneCell' = true := by
   rw [hcv]
   intro u hu
   exact M_one t g6 u (List.mem_append_left _ (List.mem_append_right _ hu))
  obtain ⟨w2, hrun, hq2, hos, htape, hout, hsz2, hblk⟩ := row_store (P := P) (C := C) hT hq' hix hcs hj hone
  have hil := hEl.len
  have hle : i * sz t + sz t ≤ inner.length := by rw [hil, ← Nat.succ_mul]; exact Nat.mul_le_mul_right _ hix
  rw [hcv, seg_in inner (vals ρ c.leaves) c0 (i * sz t) (sz t) j hc0 hle (by simpa [vals] using hcl) hj] at hq2
  rw [hcl] at g6
  have hob : ∀ k, (Value.slice (ρ r).A xs.length (ρ r).c).ownBlock = some k ↔ (ρ r).sl.ownBlock = some k := by
   intro k
   unfold Hd.sl
   rw [hn]
  have hnr : ∀ q ∈ new, q ≠ r := fun q hq e => (g5.2.2 q hq).1 (by rw [e]; simp)
  have hnb : ∀ k, fpOf fp new k → (ρ r).sl.ownBlock ≠ some k := fun k ⟨q, hq, hk⟩ h => hnr q hq (H.dis _ _ k hk (hown k h))
  have hmv : ∀ k, (ρ r).sl.ownBlock ≠ some k → w2.heap[k]? = w1.heap[k]? := fun k hk => hblk k (fun h => hk ((hob k).1 h))
  have hE2 := hclos (R' := M w2 t) (q := fun k => pi k ∨ fpOf fp new k) (p' := fun k => (fp r k ∨ fpOf fp new k) ∧ (ρ r).sl.ownBlock ≠ some k) (x' := x') (c' := c0.take j ++ vals ρ c.leaves ++ c0.drop (j + td.size))
   (fun q x c hq h => M_move h (fun k hk => hmv k (hsp.2.1 k (hq k hk)).2))
   (M_move g6 (fun k hk => hmv k (hk.elim (fun h => (hsp.1 k h).2) (hnb k))))
   (by
    have := M_len t g6
    exact this)
   ⟨fun k hk => hk.elim (fun h => ⟨.inl (hsp.1 k h).1, (hsp.1 k h).2⟩) (fun h => ⟨.inr h, hnb k h⟩), fun k hk => ⟨.inl (hsp.2.1 k hk).1, (hsp.2.1 k hk).2⟩, fun k hk hk' => hk.elim (fun h => hsp.2.2 k h hk') (fun ⟨q, hq, hqk⟩ => hnr q hq (H.dis _ _ k hqk (hsp.2.1 k hk').1))⟩
  have hR2 : R w2 e t (fun k => fp r k ∨ fpOf fp new k) (ρ r).sl (xs.set i x') := by
   refine ⟨_, ?_, fun k hk => .inl (hown k hk), hE2⟩
   rw [List.length_set]
   show QRow w2 0 e (sz t) (.slice (ρ r).A (ρ r).n (ρ r).c) xs.length _
   rw [hn]
   exact hq2
  have hul : us' = new ++ [r] := g5.1
  have hupd : ∀ q, upd ((r, some (.row (ver + 1) e t (xs.set i x'))) :: gone us') me q = if q = r then some (.row (ver + 1) e t (xs.set i x')) else if q ∈ new then none else me q := by
   intro q
   rw [upd_cons, upd_gone, hul]
   by_cases h : q = r
   ·rw [if_pos h, if_pos h]
   ·rw [if_neg h, if_neg h]
    simp [h]
  intro K Q hK
  have H' : Mem w ok (grow live b) w2 ρ (fun q k => if q = r then fp r k ∨ fpOf fp new k else if q ∈ new then False else fp q k) (upd ((r, some (.row (ver + 1) e t (xs.set i x'))) :: gone us') me) := by
   refine H.step (fun q => q = r ∨ q ∈ new) hos htape hout (by rw [hsz2]; exact Nat.le_refl _) (fun k hk hn' => hmv k (fun h => hn' r (.inl rfl) (hown k h))) (fun _ h => .inl h) (fun _ _ => rfl) (fun q hq => by rw [hupd, if_neg (fun e => hq (.inl e)), if_neg (fun e => hq (.inr e))]) (fun q hq => by funext k; rw [if_neg (fun e => hq (.inl e)), if_neg (fun e => hq (.inr e))]) ?_ ?_ ?_ ?_ ?_
   ·intro q p hq hp
    rw [hupd] at hp
    by_cases h : q = r
    ·rw [if_pos h] at hp
     injection hp with hp
     subst hp
     exact ⟨.inl (h ▸ hlr), trivial⟩
    ·rw [if_neg h, if_pos (hq.resolve_left h)] at hp
     cases hp
   ·intro q k hq hk
    by_cases h : q = r
    ·simp only [if_pos h] at hk
     rcases hk with hk | ⟨q', hq', hk⟩
     ·exact .inl ⟨r, .inl rfl, hk⟩
     ·exact .inl ⟨q', .inr hq', hk⟩
    ·simp only [if_neg h, if_pos (hq.resolve_left h)] at hk
   ·intro q q' k hq hq' hk hk'
    by_cases h : q = r
    ·by_cases h' : q' = r
     ·rw [h, h']
     ·simp only [if_neg h', if_pos (hq'.resolve_left h')] at hk'
    ·simp only [if_neg h, if_pos (hq.resolve_left h)] at hk
   ·intro q hq hlq
    by_cases h : q = r
    ·subst h
     rw [hupd, if_pos rfl]
     refine ⟨fun v' e' t' xs' h => ?_, fun _ _ _ _ h => by (injection h with h; cases h)⟩
     injection h with h
     injection h with h3
     exact ⟨ver, e, t, xs, hr, by omega⟩
    ·rw [hupd, if_neg h, if_pos (hq.resolve_left h)]
     exact ⟨(fun _ _ _ _ h => by cases h), (fun _ _ _ _ h => by cases h)⟩
   ·intro q p hq hp
    rw [hupd] at hp
    by_cases h : q = r
    ·rw [if_pos h] at hp
     injection hp with hp
     subst hp
     subst h
     refine ⟨hzr, ?_⟩
     have hf : (fun k => if q = q then fp q k ∨ fpOf fp new k else if q ∈ new then False else fp q k) = fun k => fp q k ∨ fpOf fp new k := by funext k; rw [if_pos rfl]
     rw [hf]
     exact hR2
    ·rw [if_neg h, if_pos (hq.resolve_left h)] at hp
     cases hp
  refine wp_skip' (w2 := w2) ?_ (hK _ ρ _ H' (fun _ _ => rfl) (lf_in (in_none rfl)))
  have hx' : a.eval x = .pointer (some (fieldp ((adr (ρ r).A).add (i * sz t)) j)) := by rw [hx, hz, hzr]
  unfold execOp
  simp only [ho, hx', hy, Sem.run_bind, hrun]
  rfl
theorem go_store {T : TypeId} {x y : Operand} (hC : TdsOk P C.Δ) (H : Mem w ok live w1 ρ fp me) (ho : o.op = .store T x y) (E : ∀ z, z = x ∨ z = y → ∀ v, ev s z = some v → a.eval z = v.val ρ ∧ v.In live ρ) (h : Out me (storeA C T (ev s x) (ev s y)) (v, us)) : Goes P w ok live b o a w1 ρ me v us := by
 unfold storeA at h
 split at h
 ·rename_i td htd
  have hT := hC T td htd
  obtain ⟨l, hx, h⟩ := lfOf_out h
  obtain ⟨x1, x2⟩ := E x (.inl rfl) _ hx
  have hin := lf_of x2
  cases l <;> first | exact h.elim | skip
  ·rename_i r j
   obtain ⟨c, hy, h⟩ := cvOf_out h
   obtain ⟨y1, y2⟩ := E y (.inr rfl) _ hy
   obtain ⟨p, hp, h⟩ := h
   cases p <;> first | exact h.elim | skip
   rename_i T' cs
   obtain ⟨hb, h⟩ := bif_fail h
   simp only [Bool.and_eq_true] at hb
   injection out_out h with h1 h2
   subst h1; subst h2
   exact go_storeP hT H ho x1 y1 y2 hp (Nat.eq_of_beq_eq_true hb.1.1) (Nat.le_of_ble_eq_true hb.1.2) hb.2
  ·rename_i r i j z
   obtain ⟨hi, hz⟩ := hin.ok
   obtain ⟨c, hy, h⟩ := cvOf_out h
   obtain ⟨y1, y2⟩ := E y (.inr rfl) _ hy
   obtain ⟨p, hp, h⟩ := h
   cases p <;> first | exact h.elim | skip
   rename_i ver e t xs
   obtain ⟨hb, h⟩ := bif_fail h
   simp only [Bool.and_eq_true] at hb
   exact go_storeE hT H ho x1 hz hi y1 y2 hp (Nat.eq_of_beq_eq_true hb.1) (Nat.le_of_ble_eq_true hb.2) h
 ·exact h.elim
end
end Go.Proofs.YthncjcfnpfajaaaA
