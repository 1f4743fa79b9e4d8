/- Calls of the abstract machine. Plain lemmas; no condition. -/
import Derived.Test.YthncjcfnpfajaaaAbCc
namespace Go.Proofs.YthncjcfnpfajaaaA
open Go Go.RowKit Go.Proofs.YthncjcfnpfajaaaW.PrintWords
set_option linter.unusedVariables false
set_option linter.unusedSimpArgs false
section
variable {P : Program} {w w1 : World} {ok live : Nat → Prop} {b : Nat} {o : Oper} {a : Act} {ρ : Nat → Hd} {fp : Nat → Nat → Prop} {me : Nat → Option Part} {v : SV} {us : Me} {s : Sl} {C : Ctx}
theorem meet_no : ∀ {l m : List Nat}, meet l m = false → ∀ i ∈ m, i ∉ l
 | [], _, _, _, _, h => by cases h
 | k :: l, m, h, i, hi, hk => by
  simp only [meet, Bool.or_eq_false_iff] at h
  rcases List.mem_cons.1 hk with rfl | hk
  ·rw [memb_iff.2 hi] at h
   cases h.1
  ·exact meet_no h.2 i hi hk
theorem getm_get {m : Me} {i : Nat} {p : Part} (h : getm m i = some p) : get m i = some (some p) := by
 unfold getm at h
 split at h
 ·rename_i q hq
  injection h with h
  rw [hq, h]
 ·cases h
theorem get_getm {m : Me} {i : Nat} {p : Part} (h : get m i = some (some p)) : getm m i = some p := by
 unfold getm
 rw [h]
def noHd : Hd := ⟨0, none, 0, 0, 0⟩
theorem getD_at {α : Type _} {l : List α} {i : Nat} {x d : α} (h : l[i]? = some x) : l.getD i d = x := by rw [List.getD_eq_getElem?_getD, h]; rfl
/-- The callee's memory. -/
theorem mem_enter (H : Mem w ok live w1 ρ fp me) {ps : List PM} {x : Args ps} {new : List Acc} {hs : List Hd} (hn : new.length = nps ps) (hh : hs.length = nps ps) (hd : (heldOf new).Nodup) (hr : ∀ i ∈ readOf new, i ∉ heldOf new)
  (hH : Handed w1 fp new 0 (fun i => hs.getD i noHd) (enterF ps x 0 0).2.1) : Mem w1 (okC w1 fp (heldOf new)) (fun i => i < nps ps) w1 (fun i => hs.getD i noHd) (fun i k => ∃ c, new[i]? = some c ∧ fpA fp c k) (getm (enterF ps x 0 0).2.1) := by
 refine ⟨rfl, rfl, rfl, Nat.le_refl _, fun _ _ _ => rfl, fun k hk => .inr hk, fun i p hp => ?_, fun i k ⟨c, hc, q, hq, hk⟩ => ?_, fun i j k ⟨c, hc, q, hq, hk⟩ ⟨c', hc', q', hq', hk'⟩ => ?_, fun i p hp => ?_⟩
 ·obtain ⟨j, c, q, h1, h2, h3, h4, _⟩ := hH i _ (getm_get hp)
  injection h3 with h3
  subst h3
  have := (List.getElem?_eq_some_iff.1 h2).1
  exact ⟨show i < nps ps by omega, h4.mono' (fun i hi => by have := hi.2; omega)⟩
 ·exact ⟨.inl ⟨q, held_mem (List.mem_of_getElem? hc) hq, hk⟩, (H.fpk q k hk).2⟩
 ·have := H.dis _ _ k hk hk'
  subst this
  exact held_one hd hc hc' hq hq'
 ·obtain ⟨j, c, q, h1, h2, h3, _, h5⟩ := hH i _ (getm_get hp)
  injection h3 with h3
  subst h3
  rw [Nat.zero_add] at h1
  subst h1
  have := h5 (heldOf new) (fun v hv => hr v (read_mem (List.mem_of_getElem? h2) hv)) (getm (enterF ps x 0 0).2.1)
  have hf : (fun k => ∃ c, new[i]? = some c ∧ fpA fp c k) = fpA fp c := by
   funext k
   exact propext ⟨fun ⟨c', hc', hk⟩ => by rw [h2] at hc'; injection hc' with hc'; rw [hc']; exact hk, fun hk => ⟨c, h2, hk⟩⟩
  rw [hf]
  exact this
/-- What an operation does; and what it leaves. -/
def GoesX (P : Program) (w : World) (ok live : Nat → Prop) (b : Nat) (o : Oper) (a : Act) (w1 : World) (ρ : Nat → Hd) (fp : Nat → Nat → Prop) (me : Nat → Option Part) (v : SV) (us : Me) : Prop :=
 ∀ (K : Act → World → Prop) (Q : Exit → Act → World → Prop), (∀ w2 ρ' fp' (U : List Nat), Mem w ok (grow live b) w2 ρ' fp' (upd us me) → (∀ i, live i → ρ' i = ρ i) → v.In (grow live b) ρ' → (∀ i ∈ U, HB me i) → (∀ k, k < w1.heap.size → (∀ i ∈ U, ¬ fp i k) → w2.heap[k]? = w1.heap[k]?) → (∀ i, live i → i ∉ U → fp' i = fp i) → K (a.put o.dst (v.val ρ')) w2) → o.wp P a w1 K Q
theorem go_callX {f : FuncId} {xs : Array Operand} {ats : Array TypeId} (hE : EntsOk P C.fuel C.Γ) (H : Mem w ok live w1 ρ fp me) (hb : ∀ i, b ≤ i → i < b + step → ¬ live i) (ho : o.op = .call { callee := .value (.func f), args := xs, argTypes := ats }) (E : ∀ x ∈ xs.toList, ∀ v, ev s x = some v → a.eval x = v.val ρ ∧ v.In live ρ) (h : Out me (callA C s b f xs.toList) (v, us)) : GoesX P w ok live b o a w1 ρ fp me v us := by
 unfold callA at h
 split at h
 ·rename_i e he
  obtain ⟨heΓ, hid⟩ := ent_of he
  obtain ⟨hcf, hcall⟩ := hE e heΓ
  obtain ⟨x, new, hs, h, hlen, hn, hh, hd, hacc, hin⟩ := argsA_out H e.sig.ps E h
  rw [List.nil_append] at h hd
  rcases bif_out h with ⟨_, h⟩ | ⟨hm, h⟩
  ·exact h.elim
  obtain ⟨rr, hF, h⟩ := h
  change Out me (leave e.sig rr _) _ at h
  rw [leave_eq] at h
  obtain ⟨hnx, h⟩ := bif_fail h
  have hnx := Nat.le_of_ble_eq_true hnx
  have hdn : (heldOf new).Nodup := hd (by simp [heldOf])
  have hrd : ∀ i ∈ readOf new, i ∉ heldOf new := meet_no hm
  obtain ⟨n1, n2, n3⟩ := hin 0 0 (fun i => hs.getD i noHd) (fun j h hj => by rw [Nat.zero_add]; exact getD_at hj)
  rw [Nat.zero_add] at n1
  have hus : ∀ r ∈ heldOf new, HB me r := fun r hr => by
   obtain ⟨c, hc, hcr⟩ := held_of hr
   obtain ⟨j, hj⟩ := List.mem_iff_getElem?.1 hc
   have hjl := (List.getElem?_eq_some_iff.1 hj).1
   exact (hacc j c _ hj (List.getElem?_eq_getElem (by omega))).us r hcr
  have Hc := mem_enter H (x := x) hn hh hdn hrd n3
  have hC := hcall x rr hF w1 _ _ _ (xs.map a.eval) (by rw [Array.size_map, ← hlen]; simp) Hc (fun i u hu => by
   obtain ⟨n, o', g1, g2, g3, g4⟩ := n2 i u hu
   rw [Nat.zero_add] at g1
   subst g1
   refine ⟨?_, g4.mono (fun i hi => by have := hi.2; show i < _; omega) (fun _ _ => rfl)⟩
   have : xs[i]? = some o' := by simpa using g2
   simp [this, g3])
  intro K Q hK
  have hrun : (execOp a.eval o).run P w1 = .ok (.enter e.id (xs.map a.eval)) w1 := by
   have h1 : execOp a.eval o = callFunc f (#[] ++ xs.map a.eval ++ #[]) := by
    unfold execOp
    rw [ho]
    rfl
   rw [h1, ← hid, show (#[] ++ xs.map a.eval ++ #[] : Array Value) = xs.map a.eval by simp]
   exact hcf _ _
  unfold Oper.wp
  rw [hrun]
  refine Calls.mono hC ?_
  intro en w2 hL
  cases en with
  | panicked ch => exact hL.elim
  | outgrown => exact hL.elim
  | returned rv =>
   obtain ⟨ρ1, fp1, hρ1, H1, hv1, hv2⟩ := hL
   have hnb : ∀ i, live i → ¬ (b ≤ i ∧ i < b + step) := fun i hi h => hb i h.1 h.2 hi
   generalize hnp : nps e.sig.ps = np at hn hh hρ1 h hnx
   obtain ⟨ρ2, hρ2⟩ : ∃ ρ2 : Nat → Hd, ∀ i, ρ2 i = if b ≤ i ∧ i < b + step then ρ1 (np + (i - b)) else ρ i := ⟨_, fun _ => rfl⟩
   have hst : ∀ i, live i → ρ2 i = ρ i := fun i hi => by rw [hρ2, if_neg (hnb i hi)]
   have hT : ThOk new np b (leaveF e.sig rr).2.2 (grow live b) ρ1 ρ2 := by
    constructor
    ·intro q l hq hl
     unfold thC at hl
     cases hlt : Nat.blt q np with
     | true =>
      rw [hlt] at hl
      have hql : q < np := nth_np hlt
      simp only [cond_true, nth_get] at hl
      have hj : new[q]? = some new[q] := List.getElem?_eq_getElem (by omega)
      have hhj : hs[q]? = some hs[q] := List.getElem?_eq_getElem (by omega)
      rw [hj] at hl
      injection hl with hl
      have A := hacc q _ _ hj hhj
      subst hl
      refine ⟨?_, A.lin.mono (fun _ h => .inl h) hst⟩
      rw [Leaf.val_eq hst A.lin, A.sl, hρ1 q hql]
      show _ = (hs.getD q noHd).sl
      rw [getD_at hhj]
     | false =>
      rw [hlt] at hl
      have hqg : np ≤ q := nth_le hlt
      injection hl with hl
      subst hl
      have : ρ2 (b + (q - np)) = ρ1 q := by rw [hρ2, if_pos ⟨by omega, by omega⟩]; congr 1; omega
      exact ⟨by show (ρ2 _).sl = _; rw [this], fun i hi => by (injection hi with hi; subst hi; exact .inr ⟨by omega, by omega⟩), trivial⟩
    ·intro q h1 h2
     exact ⟨.inr ⟨by omega, by omega⟩, by rw [hρ2, if_pos ⟨by omega, by omega⟩]; congr 1; omega⟩
   obtain ⟨m', h, hm'⟩ := renM_out hT (fun T ls i hi => (H1.lin i _ (get_getm hi)).2) h
   obtain ⟨vs', h, hv3, hv4⟩ := renVs_out hT (svOf_in.1 hv2) h
   injection out_out h with e1 e2
   subst e1; subst e2
   have hokU : ∀ id k, fp1 id k → okC w1 fp (heldOf new) k ∧ k < w2.heap.size := H1.fpk
   have hkeep : ∀ k, k < w1.heap.size → ¬ okC w1 fp (heldOf new) k → w2.heap[k]? = w1.heap[k]? := H1.keep
   obtain ⟨U, hU⟩ : ∃ U, U = heldOf new := ⟨_, rfl⟩
   rw [← hU] at hus hokU hkeep hK
   have hul : ∀ i ∈ U, live i := fun i hi => by
    rcases hus i hi with ⟨_, _, _, _, h⟩ | ⟨_, _, h⟩ <;> exact (H.lin i _ h).1
   have hbu : ∀ i, b ≤ i ∧ i < b + step → i ∉ U := fun i hi h => hnb i (hul i h) hi
   have hren : ∀ i p, get m' i = some p → i ∈ U ∨ (b ≤ i ∧ i < b + step) := fun i p hp => by
    obtain ⟨id, q, q', g1, _, g3, _⟩ := hm' i p hp
    rcases g3 with ⟨_, c, z, hc, hl, hz⟩ | ⟨h1, h2⟩
    ·have hj := (List.getElem?_eq_some_iff.1 hc).1
     have A := hacc id c _ hc (List.getElem?_eq_getElem (by omega))
     rw [hU, ← A.hz i z hl hz]
     exact .inl (held_mem (List.mem_of_getElem? hc) hz)
    ·have := (H1.lin id _ (get_getm g1)).1
     exact .inr ⟨by omega, by omega⟩
   have hlook : ∀ i, upd (m' ++ gone U) me i = match get m' i with | some p => p | none => if i ∈ U then none else me i := fun i => by
    rw [upd_append]
    unfold upd
    cases get m' i with
    | some p => rfl
    | none =>
     simp only [get_gone]
     by_cases h : i ∈ U <;> simp [h]
   have hpart : ∀ i p, (i ∈ U ∨ (b ≤ i ∧ i < b + step)) → upd (m' ++ gone U) me i = some p → get m' i = some (some p) := fun i p hi hp => by
    rw [hlook] at hp
    cases hg : get m' i with
    | some q => rw [hg] at hp; exact congrArg some hp
    | none =>
     rw [hg] at hp
     simp only at hp
     rcases hi with hi | hi
     ·rw [if_pos hi] at hp; cases hp
     ·rw [if_neg (hbu i hi)] at hp
      exact absurd hi (hnb i (H.lin i _ hp).1)
   obtain ⟨fp2, hfp2⟩ : ∃ fp2 : Nat → Nat → Prop, ∀ i, fp2 i = if b ≤ i ∧ i < b + step then fp1 (np + (i - b)) else if i ∈ U then (fun k => ∃ id c, id < np ∧ new[id]? = some c ∧ c.us = some i ∧ fp1 id k) else fp i := ⟨_, fun _ => rfl⟩
   have fnew : ∀ i, (b ≤ i ∧ i < b + step) → fp2 i = fp1 (np + (i - b)) := fun i hi => by rw [hfp2, if_pos hi]
   have fus : ∀ i, i ∈ U → fp2 i = fun k => ∃ id c, id < np ∧ new[id]? = some c ∧ c.us = some i ∧ fp1 id k := fun i hi => by rw [hfp2, if_neg (fun h => hbu i h hi), if_pos hi]
   have hfid : ∀ i k, (i ∈ U ∨ (b ≤ i ∧ i < b + step)) → fp2 i k → ∃ id, fp1 id k ∧ ((np ≤ id ∧ i = b + (id - np)) ∨ (id < np ∧ ∃ c, new[id]? = some c ∧ c.us = some i)) := fun i k hi hk => by
    by_cases hib : b ≤ i ∧ i < b + step
    ·rw [fnew i hib] at hk
     exact ⟨_, hk, .inl ⟨by omega, by omega⟩⟩
    ·have hiU := hi.resolve_right hib
     rw [fus i hiU] at hk
     obtain ⟨id, c, h1, h2, h3, h4⟩ := hk
     exact ⟨id, h4, .inr ⟨h1, c, h2, h3⟩⟩
   have hpl : ∀ id i q, get (leaveF e.sig rr).2.1 id = some (some q) → RenI me new np b id i → ρ2 i = ρ1 id ∧ ∀ k, fp1 id k → fp2 i k := fun id i q hg hI => by
    rcases hI with ⟨h0, c, z, hc, hl, hz⟩ | ⟨h1, h2⟩
    ·have A := hacc id c _ hc (List.getElem?_eq_getElem (by omega))
     have hzi := A.hz i z hl hz
     subst hzi
     have hiU : z ∈ U := by rw [hU]; exact held_mem (List.mem_of_getElem? hc) hz
     refine ⟨?_, fun k hk => ?_⟩
     ·rw [hst z (hul z hiU), ← A.own z hl, hρ1 id h0]
      exact (getD_at (List.getElem?_eq_getElem (by omega))).symm
     ·rw [fus z hiU]
      exact ⟨id, c, h0, hc, hz, hk⟩
    ·have := (H1.lin id _ (get_getm hg)).1
     have hib : b ≤ i ∧ i < b + step := ⟨by omega, by omega⟩
     have hid : np + (i - b) = id := by omega
     refine ⟨?_, fun k hk => ?_⟩
     ·rw [hρ2, if_pos hib, hid]
     ·rw [fnew i hib, hid]; exact hk
   have H2 : Mem w ok (grow live b) w2 ρ2 fp2 (upd (m' ++ gone U) me) := by
    refine H.step (fun i => i ∈ U ∨ (b ≤ i ∧ i < b + step)) H1.os H1.tape H1.output H1.size (fun k hk hn => ?_) (fun _ h => .inl h) hst (fun i hi => ?_) (fun i hi => ?_) ?_ ?_ ?_ ?_ ?_
    ·refine hkeep k hk ?_
     rintro (⟨i, hi, hik⟩ | h)
     ·exact hn i (.inl hi) hik
     ·omega
    ·rw [hlook]
     cases hg : get m' i with
     | some p => exact absurd (hren i p hg) hi
     | none => simp only; rw [if_neg (fun h => hi (.inl h))]
    ·rw [hfp2, if_neg (fun h => hi (.inr h)), if_neg (fun h => hi (.inl h))]
    ·intro i p hi hp
     obtain ⟨id, q, q', g1, g2, g3, g4⟩ := hm' i _ (hpart i p hi hp)
     injection g2 with g2
     subst g2
     refine ⟨hi.elim (fun h => .inl (hul i h)) (fun h => .inr h), ?_⟩
     cases g4 with
     | row => trivial
     | blk h1 h2 => exact h2
    ·intro i k hi hk
     obtain ⟨id, h1, _⟩ := hfid i k hi hk
     obtain ⟨h2, h3⟩ := hokU id k h1
     rcases h2 with ⟨r, hr, hrk⟩ | h2
     ·exact .inl ⟨r, .inl hr, hrk⟩
     ·exact .inr ⟨h2, h3⟩
    ·intro i j k hi hj hik hjk
     obtain ⟨id, h1, h2⟩ := hfid i k hi hik
     obtain ⟨id', h1', h2'⟩ := hfid j k hj hjk
     have := H1.dis _ _ k h1 h1'
     subst this
     rcases h2 with ⟨h2, h3⟩ | ⟨h2, c, hc, h3⟩
     ·rcases h2' with ⟨h2', h3'⟩ | ⟨h2', _⟩ <;> omega
     ·rcases h2' with ⟨h2', h3'⟩ | ⟨h2', c', hc', h3'⟩
      ·omega
      ·rw [hc] at hc'
       injection hc' with hc'
       rw [hc', h3'] at h3
       injection h3 with h3
       exact h3.symm
    ·intro r hr hlr
     have hrU : r ∈ U := hr.resolve_right (hnb r hlr)
     refine ⟨fun v' e' t' xs' hv' => ?_, fun q e' t' xs' hv' => ?_⟩
     ·obtain ⟨id, q, q', g1, g2, g3, g4⟩ := hm' r _ (hpart r _ hr hv')
      injection g2 with g2
      subst g2
      cases g4 with
      | row hrow =>
       have hlt : id < np := by
        rcases g3 with ⟨h, _⟩ | ⟨h1, h2⟩
        ·exact h
        ·have := (H1.lin id _ (get_getm g1)).1
         exact absurd ⟨by omega, by omega⟩ (hnb r hlr)
       obtain ⟨ver, e0, t0, ys, h5, h6⟩ := hrow hlt
       exact ⟨ver, e0, t0, ys, h5, by omega⟩
     ·obtain ⟨id, q, q', g1, g2, g3, g4⟩ := hm' r _ (hpart r _ hr hv')
      injection g2 with g2
      subst g2
      cases g4
    ·intro i p hi hp
     obtain ⟨id, q, q', g1, g2, g3, g4⟩ := hm' i _ (hpart i p hi hp)
     injection g2 with g2
     subst g2
     obtain ⟨k1, k2⟩ := hpl id i q g1 g3
     have hon := H1.on id _ (get_getm g1)
     cases g4 with
     | row =>
      show (ρ2 i).z = _ ∧ R w2 _ _ (fp2 i) (ρ2 i).sl _
      rw [k1]
      exact ⟨hon.1, R_imp hon.2 k2 (fun _ _ => rfl)⟩
     | blk h1 h2 =>
      show fp2 i (ρ2 i).g ∧ w2.heap[(ρ2 i).g]? = _
      rw [k1, h1]
      exact ⟨k2 _ hon.1, hon.2⟩
   have := hK w2 ρ2 fp2 U H2 hst (svOf_in.2 hv4) hus (fun k hk hn => hkeep k hk (fun h => h.elim (fun ⟨i, hi, hik⟩ => hn i (hU ▸ hi) hik) (fun h => absurd hk (Nat.not_lt.2 h)))) (fun i hi hn => by rw [hfp2, if_neg (hnb i hi), if_neg hn])
   rw [svOf_val hv3, ← hv1] at this
   exact this
 ·exact h.elim
theorem go_callF {f : FuncId} {xs : Array Operand} {ats : Array TypeId} (hE : EntsOk P C.fuel C.Γ) (H : Mem w ok live w1 ρ fp me) (hb : ∀ i, b ≤ i → i < b + step → ¬ live i) (ho : o.op = .call { callee := .value (.func f), args := xs, argTypes := ats }) (E : ∀ x ∈ xs.toList, ∀ v, ev s x = some v → a.eval x = v.val ρ ∧ v.In live ρ) (h : Out me (callA C s b f xs.toList) (v, us)) : Goes P w ok live b o a w1 ρ me v us := fun K Q hK => go_callX hE H hb ho E h K Q (fun w2 ρ2 fp2 _ h1 h2 h3 _ _ _ => hK w2 ρ2 fp2 h1 h2 h3)
end
end Go.Proofs.YthncjcfnpfajaaaA
