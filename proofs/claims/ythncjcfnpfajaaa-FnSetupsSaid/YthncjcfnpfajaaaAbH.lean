/- Regions whose order is drawn, shown. Plain lemmas; no condition. -/
import Derived.Test.YthncjcfnpfajaaaAbG
namespace Go.Proofs.YthncjcfnpfajaaaA
open Go Go.RowKit Go.Proofs.YthncjcfnpfajaaaW.PrintWords
set_option linter.unusedVariables false
set_option linter.unusedSimpArgs false
section
variable {P : Program} {l : List Oper}
theorem mem_ready {listed : Array Bool} {i : Nat} (hs : listed.size = l.length) : i ∈ Region.ready .any l.toArray listed ↔ ∃ o, l[i]? = some o ∧ listed.getD i false = false ∧ ∀ j ∈ onsOf o, listed.getD j false = true := by
 have hg : ∀ i, i < l.length → listed.getD i true = listed.getD i false := fun i hi => by simp [Array.getD, hs, hi]
 simp only [Region.ready, List.mem_filter, List.mem_range, Bool.and_eq_true, List.size_toArray, List.getElem?_toArray]
 constructor
 ·rintro ⟨h1, h2, h3⟩
  obtain ⟨o, ho⟩ : ∃ o, l[i]? = some o := ⟨_, List.getElem?_eq_getElem h1⟩
  refine ⟨o, ho, ?_, fun j hj => ?_⟩
  ·rw [← hg i h1]; simpa using h2
  ·simp only [ho, Option.map_some, Option.getD_some] at h3
   obtain ⟨e, he, rfl⟩ := List.mem_map.1 hj
   obtain ⟨he, hb⟩ := List.mem_filter.1 he
   have := Array.all_eq_true_iff_forall_mem.1 h3 e (by simpa using he)
   simpa [hb] using this
 ·rintro ⟨o, ho, h2, h3⟩
  have h1 : i < l.length := (List.getElem?_eq_some_iff.1 ho).1
  refine ⟨h1, ?_, ?_⟩
  ·rw [hg i h1]; simpa using h2
  ·simp only [ho, Option.map_some, Option.getD_some]
   refine Array.all_eq_true_iff_forall_mem.2 (fun e he => ?_)
   by_cases hb : Region.binds .any e = true
   ·simp only [hb, Bool.not_true, Bool.false_or]
    exact h3 e.on (List.mem_map.2 ⟨e, List.mem_filter.2 ⟨by simpa using he, hb⟩, rfl⟩)
   ·simp [hb]
theorem getD_set {listed : Array Bool} {i j : Nat} (hi : i < listed.size) : (listed.setIfInBounds i true).getD j false = if j = i then true else listed.getD j false := by
 by_cases h : j = i
 ·subst h; simp [Array.getD, hi]
 ·have h' : ¬ i = j := fun x => h x.symm
  simp [Array.getD_eq_getD_getElem?, Array.getElem?_setIfInBounds, h, h']
theorem exists_least : ∀ {U : List Nat}, U ≠ [] → ∃ u ∈ U, ∀ v ∈ U, u ≤ v
 | [], h => absurd rfl h
 | [u], _ => ⟨u, by simp, by simp⟩
 | u :: v :: U, _ => by
  obtain ⟨x, hx, hm⟩ := exists_least (U := v :: U) (by simp)
  by_cases h : u ≤ x
  ·exact ⟨u, by simp, fun y hy => (List.mem_cons.1 hy).elim (fun e => e ▸ Nat.le_refl _) (fun hy => Nat.le_trans h (hm y hy))⟩
  ·exact ⟨x, List.mem_cons_of_mem _ hx, fun y hy => (List.mem_cons.1 hy).elim (fun e => by omega) (hm y)⟩
end
theorem tmps_mem : ∀ {os : List Operand} {t : Nat}, Operand.tmp t ∈ os → t ∈ tmpsOf os
 | o :: os, t, h => by
  rcases List.mem_cons.1 h with h | h
  ·subst h; simp [tmpsOf]
  ·have := tmps_mem h
   cases o <;> simp [tmpsOf, this]
section
variable {P : Program} {w w1 : World} {ok live live' : Nat → Prop} {b : Nat} {o : Oper} {a : Act} {ρ ρ' : Nat → Hd} {s : Sl} {C : Ctx} {fp : Nat → Nat → Prop} {me : Nat → Option Part}
theorem evs_of (h : ∀ t ∈ tmpsOf o.op.operands.toList, ∀ v, get s t = some v → a.tmps.getD t undef = v.val ρ ∧ v.In live ρ) : EvsOk s o a ρ live := by
 intro x hx v hv
 have h0 : SlOk [] a ρ live := fun q v hv => by cases hv
 cases x with
 | tmp t => exact h t (tmps_mem hx) v hv
 | const c =>
  have hv' : ev [] (.const c) = some v := hv
  exact h0.evs { dst := none, op := .move (.const c), type := 0, pos := "", after := #[], guard := none } (.const c) (by simp [Op.operands]) v hv'
 | _ => cases hv
theorem Mem.live_mono (H : Mem w ok live w1 ρ fp me) (h : ∀ i, live i → live' i) : Mem w ok live' w1 ρ fp me := ⟨H.os, H.tape, H.output, H.size, H.keep, H.up, fun i p hp => ⟨h i (H.lin i p hp).1, (H.lin i p hp).2.mono h (fun _ _ => rfl)⟩, H.fpk, H.dis, H.on⟩
theorem Mem.drawn (H : Mem w ok live w1 ρ fp me) : Mem w ok live { w1 with drawn := w1.drawn + 1 } ρ fp me :=
 H.step (fun _ => False) rfl rfl rfl (Nat.le_refl _) (fun _ _ _ => rfl) (fun _ h => h) (fun _ _ => rfl) (fun _ _ => rfl) (fun _ _ => rfl) (fun _ _ h => h.elim) (fun _ _ h => h.elim) (fun _ _ _ h => h.elim) (fun _ h => h.elim) (fun _ _ h => h.elim)
end
/-- What is known of one operation. -/
structure Fact (C : Ctx) (l : List Oper) (X : Nat → Rec) (me0 : Nat → Option Part) (s0 : Nat → Option SV) (b0 i : Nat) (o : Oper) : Prop where
 dst : dstOk C.N o.dst = true
 ldst : (X i).lg.dst = o.dst
 uses : (X i).lg.uses = usesOf l o
 reads : (X i).lg.reads = (X i).rd
 writes : (X i).lg.writes = keys (X i).us
 know : ∃ s, (∀ q v, get s q = some v → ∃ v0, osl X All s0 i q = some v0 ∧ Eqv v v0) ∧ Know (X i).s' s ∧ GuardOk l (get s) o (X i).flag
 run : (X i).flag = true → res (ov X All me0 i) (opA C (b0 + step * i) (X i).s' o) [] = some (((X i).v, (X i).us), (X i).rd)
 skip : (X i).flag = false → (X i).v = undefS ∧ (X i).us = [] ∧ (X i).rd = []
 ons : ∀ j ∈ onsOf o, j ∈ (X i).lg.anc
 anc : ∀ k ∈ (X i).lg.anc, k ∈ onsOf o ∨ ∃ j ∈ onsOf o, k ∈ (X j).lg.anc
 below : ∀ j ∈ (X i).lg.anc, j < i
 apart : ∀ j, j < i → j ∈ (X i).lg.anc ∨ apart (X j).lg (X i).lg = true
theorem below_mem : ∀ {l : List Nat} {i : Nat}, below i l = true → ∀ j ∈ l, j < i
 | [], _, _, _, h => by cases h
 | k :: l, i, h, j, hj => by
  simp only [below, Bool.and_eq_true] at h
  rcases List.mem_cons.1 hj with rfl | hj
  ·simpa [Nat.blt_eq] using h.1
  ·exact below_mem h.2 j hj
theorem apartAll_at {h : Log} : ∀ {gs : List Log} {i : Nat}, apartAll h gs i = true → ∀ (j : Nat) g, gs[j]? = some g → (i + j) ∈ h.anc ∨ apart g h = true
 | [], _, _, _, _, hg => by simp at hg
 | g :: gs, i, ha, j, g', hg => by
  simp only [apartAll, Bool.and_eq_true, Bool.or_eq_true] at ha
  cases j with
  | zero =>
   obtain rfl : g = g' := by simpa using hg
   exact ha.1.imp (fun h => by rw [Nat.add_zero]; exact memb_iff.1 h) id
  | succ j =>
   have := apartAll_at ha.2 j g' (by simpa using hg)
   rw [show i + 1 + j = i + (j + 1) by omega] at this
   exact this
theorem nthL_at : ∀ {gs : List Log} {j : Nat}, nthL gs j = (gs[j]?.map (·.anc)).getD []
 | [], j => by simp [nthL]
 | g :: gs, 0 => rfl
 | g :: gs, j + 1 => by simp [nthL, nthL_at (gs := gs)]
theorem addN_mem {l : List Nat} {j k : Nat} : k ∈ addN l j ↔ k = j ∨ k ∈ l := by
 unfold addN
 cases h : memb l j with
 | true =>
  have := memb_iff.1 h
  simp only [cond_true]
  exact ⟨.inr, fun h' => h'.elim (fun e => e ▸ this) id⟩
 | false => simp
theorem uniN_mem : ∀ {a l : List Nat} {k : Nat}, k ∈ uniN a l ↔ k ∈ a ∨ k ∈ l
 | [], l, k => by simp [uniN]
 | j :: a, l, k => by
  simp only [uniN, uniN_mem (a := a), addN_mem, List.mem_cons]
  grind
theorem ancU_mem {a : List Nat} {j k : Nat} : ∀ {acc : List Nat}, k ∈ ancU a j acc → k = j ∨ k ∈ a ∨ k ∈ acc
 | [], h => by
  rcases List.mem_cons.1 h with h | h
  ·exact .inl h
  ·exact .inr (.inl h)
 | x :: r, h => by
  simp only [ancU] at h
  cases hm : memb (x :: r) j with
  | true => rw [hm] at h; exact .inr (.inr h)
  | false =>
   rw [hm] at h
   rcases addN_mem.1 h with h | h
   ·exact .inl h
   ·rcases uniN_mem.1 h with h | h
    ·exact .inr (.inl h)
    ·exact .inr (.inr h)
theorem ancU_up {a : List Nat} {j : Nat} : ∀ {acc : List Nat}, j ∈ ancU a j acc ∧ ∀ k, k ∈ acc → k ∈ ancU a j acc
 | [] => ⟨by simp [ancU], fun k h => by cases h⟩
 | x :: r => by
  simp only [ancU]
  cases hm : memb (x :: r) j with
  | true => exact ⟨memb_iff.1 hm, fun k h => h⟩
  | false => exact ⟨addN_mem.2 (.inl rfl), fun k h => addN_mem.2 (.inr (uniN_mem.2 (.inr h)))⟩
theorem ancOf_on {gs : List Log} : ∀ {l : List Nat} {k : Nat}, k ∈ l → k ∈ ancOf gs l
 | j :: l, k, h => by
  rcases List.mem_cons.1 h with rfl | h
  ·exact ancU_up.1
  ·exact ancU_up.2 k (ancOf_on h)
theorem ancOf_mem {gs : List Log} : ∀ {l : List Nat} {k : Nat}, k ∈ ancOf gs l → k ∈ l ∨ ∃ j ∈ l, k ∈ nthL gs j
 | [], k, h => by cases h
 | j :: l, k, h => by
  rcases ancU_mem h with h | h | h
  ·exact .inl (by simp [h])
  ·exact .inr ⟨j, by simp, h⟩
  ·rcases ancOf_mem h with h | ⟨i, hi, h⟩
   ·exact .inl (by simp [h])
   ·exact .inr ⟨i, by simp [hi], h⟩
theorem chain_facts {C : Ctx} {l : List Oper} {me0 : Nat → Option Part} {s0 : Nat → Option SV} {b0 : Nat} {x0 : Rec} : ∀ (os lp : List Oper) (pre xs XS : List Rec) (s : Sl) (m : Me) (b : Nat) (sN : Sl) (mN : Me), l = lp ++ os → XS = pre ++ xs → lp.length = pre.length →
  (∀ q v, get s q = some v → ∃ v0, osl (fun i => XS.getD i x0) All s0 pre.length q = some v0 ∧ Eqv v v0) → getm m = ov (fun i => XS.getD i x0) All me0 pre.length → b = b0 + step * pre.length → Chain C l os (pre.map (·.lg)) s m b xs sN mN →
  (∀ i o, pre.length ≤ i → l[i]? = some o → Fact C l (fun i => XS.getD i x0) me0 s0 b0 i o) ∧ (∀ q v, get sN q = some v → ∃ v0, osl (fun i => XS.getD i x0) All s0 l.length q = some v0 ∧ Eqv v v0) ∧ getm mN = ov (fun i => XS.getD i x0) All me0 l.length
 | [], lp, pre, xs, XS, s, m, b, sN, mN, hl, hX, hp, hs, hm, hb, h => by
  cases xs with
  | cons => exact h.elim
  | nil =>
   obtain ⟨rfl, rfl⟩ := h
   rw [List.append_nil] at hl
   rw [hl, hp]
   refine ⟨fun i o hi ho => ?_, hs, hm⟩
   have := (List.getElem?_eq_some_iff.1 ho).1
   omega
 | o :: os, lp, pre, xs, XS, s, m, b, sN, mN, hl, hX, hp, hs, hm, hb, h => by
  cases xs with
  | nil => exact h.elim
  | cons x xs =>
   obtain ⟨h1, h2, h3, h4, h5, h6, h7, h8, h9⟩ := h
   obtain ⟨X, hXd⟩ : ∃ X : Nat → Rec, X = fun i => XS.getD i x0 := ⟨_, rfl⟩
   rw [← hXd] at hs hm ⊢
   have hx : X pre.length = x := by rw [hXd, hX]; simp [List.getD_eq_getElem?_getD]
   have hpre : ∀ (j : Nat) y, pre[j]? = some y → X j = y := fun j y hy => by
    rw [hXd, hX]
    have := (List.getElem?_eq_some_iff.1 hy).1
    simp [List.getD_eq_getElem?_getD, List.getElem?_append_left this, hy]
   have hF : Fact C l X me0 s0 b0 pre.length o := by
    refine ⟨h1, by rw [hx, h6], by rw [hx, h6], by rw [hx, h6], by rw [hx, h6], ⟨s, hs, by rw [hx]; exact h2, by rw [hx]; exact h3⟩, fun hf => ?_, fun hf => ?_, fun j hj => ?_, fun k hk => ?_, fun j hj => ?_, fun j hj => ?_⟩
    ·rw [hx] at hf ⊢
     rw [← hm, ← hb]
     exact h4 hf
    ·rw [hx] at hf ⊢
     exact h5 hf
    ·rw [hx, h6]
     exact ancOf_on hj
    ·rw [hx, h6] at hk
     rcases ancOf_mem hk with hk | ⟨j, hj, hk⟩
     ·exact .inl hk
     ·refine .inr ⟨j, hj, ?_⟩
      rw [nthL_at, List.getElem?_map] at hk
      cases hpj : pre[j]? with
      | none => rw [hpj] at hk; cases hk
      | some y =>
       rw [hpj] at hk
       rw [hpre j y hpj]
       exact hk
    ·rw [hx] at hj
     have := below_mem h8 j hj
     simpa using this
    ·rw [hx]
     have hpj : pre[j]? = some pre[j] := List.getElem?_eq_getElem hj
     have := apartAll_at h7 j _ (by rw [List.getElem?_map, hpj]; rfl)
     rw [Nat.zero_add] at this
     rw [hpre j _ hpj]
     exact this
   have hln : (pre ++ [x]).length = pre.length + 1 := by simp
   obtain ⟨k1, k2, k3⟩ := chain_facts (C := C) (l := l) (me0 := me0) (s0 := s0) (b0 := b0) (x0 := x0) os (lp ++ [o]) (pre ++ [x]) xs XS (putS x.s' o.dst x.v) (x.us ++ m) (b + step) sN mN (by rw [hl]; simp) (by rw [hX]; simp) (by simp [hp]) (by
     rw [← hXd, hln]
     intro q v hq
     rw [osl, hx, h6]
     cases hd : o.dst with
     | none =>
      rw [hd] at hq
      rw [if_neg (fun e => by cases e.2)]
      obtain ⟨v0, g1, g2⟩ := h2 q v hq
      obtain ⟨v1, g3, g4⟩ := hs q v0 g1
      exact ⟨v1, g3, g2.trans g4⟩
     | some d =>
      rw [hd] at hq
      unfold putS at hq
      rw [get_cons] at hq
      by_cases hi : q = d
      ·rw [if_pos hi] at hq
       injection hq with hq
       subst hq
       rw [if_pos ⟨trivial, by rw [hi]⟩]
       exact ⟨_, rfl, Eqv.rfl' _⟩
      ·rw [if_neg hi] at hq
       rw [if_neg (fun e => hi (by injection e.2 with e; exact e.symm))]
       obtain ⟨v0, g1, g2⟩ := h2 q v hq
       obtain ⟨v1, g3, g4⟩ := hs q v0 g1
       exact ⟨v1, g3, g2.trans g4⟩) (by rw [← hXd, hln, getm_app, ov, if_pos (show All _ from trivial), hx, hm]) (by rw [hln, Nat.mul_succ]; omega) (by rw [List.map_append]; exact h9)
   rw [← hXd] at k1 k2 k3
   refine ⟨fun i o' hi ho' => ?_, k2, k3⟩
   by_cases hip : i = pre.length
   ·subst hip
    have : l[pre.length]? = some o := by rw [hl, ← hp]; simp
    rw [this] at ho'
    injection ho' with ho'
    subst ho'
    exact hF
   ·exact k1 i o' (by rw [hln]; omega) ho'
end Go.Proofs.YthncjcfnpfajaaaA
