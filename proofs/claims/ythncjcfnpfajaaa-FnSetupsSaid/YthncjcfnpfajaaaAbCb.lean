/- Calls of the abstract machine: what is handed in, argument by argument. Plain lemmas; no condition. -/
import Derived.Test.YthncjcfnpfajaaaAbCa
namespace Go.Proofs.YthncjcfnpfajaaaA
open Go Go.RowKit Go.Proofs.YthncjcfnpfajaaaW.PrintWords
set_option linter.unusedVariables false
set_option linter.unusedSimpArgs false
section
variable {me : Nat → Option Part} {r : SV × Me} {w w1 : World} {ok live : Nat → Prop} {ρ : Nat → Hd} {fp : Nat → Nat → Prop}
/-- What a list of parts (from b on) is, of what was handed in. -/
def Handed (w1 : World) (fp : Nat → Nat → Prop) (new : List Acc) (b : Nat) (ρc : Nat → Hd) (m : Me) : Prop :=
 ∀ i p, get m i = some p → ∃ j c q, i = b + j ∧ new[j]? = some c ∧ p = some q ∧ q.In (fun i => b ≤ i ∧ i < b + new.length) ρc ∧ ∀ U : List Nat, (∀ v, c.vs = some v → v ∉ U) → ∀ mec, On w1 (okC w1 fp U) w1 ρc mec i (fpA fp c) q
theorem get_append_or {α : Type} {l m : List (Nat × α)} {i : Nat} {p : α} (h : get (l ++ m) i = some p) : get l i = some p ∨ get m i = some p := by
 rw [get_append] at h
 cases hl : get l i with
 | none => rw [hl] at h; exact .inr h
 | some v => rw [hl] at h; exact .inl h
theorem Part.In.mono' {l l' : Nat → Prop} {ρ : Nat → Hd} {p : Part} (h : p.In l ρ) (hm : ∀ i, l i → l' i) : p.In l' ρ := h.mono hm (fun _ _ => rfl)
theorem Handed.append {a c : List Acc} {b : Nat} {ρc : Nat → Hd} {m m' : Me} (h : Handed w1 fp a b ρc m) (h' : Handed w1 fp c (b + a.length) ρc m') : Handed w1 fp (a ++ c) b ρc (m ++ m') := by
 intro i p hp
 rcases get_append_or hp with hp | hp
 ·obtain ⟨j, d, q, h1, h2, h3, h4, h5⟩ := h i p hp
  have hj := (List.getElem?_eq_some_iff.1 h2).1
  exact ⟨j, d, q, h1, by rw [List.getElem?_append_left hj]; exact h2, h3, h4.mono' (fun i hi => ⟨hi.1, by simp; omega⟩), h5⟩
 ·obtain ⟨j, d, q, h1, h2, h3, h4, h5⟩ := h' i p hp
  exact ⟨a.length + j, d, q, by omega, by rw [List.getElem?_append_right (by omega), Nat.add_sub_cancel_left]; exact h2, h3, h4.mono' (fun i hi => ⟨by omega, by simp; omega⟩), h5⟩
theorem gatM_out (H : Mem w ok live w1 ρ fp me) : ∀ (t : Ty) {ls : List Leaf} {ms : List Nat} {ac : List Acc} {K : den t → List Leaf → List Nat → List Acc → OP}, LsIn live ρ ls → Out me (gatM t ls ms ac K) r →
  ∃ x pre rest new, ∃ hs : List Hd, Out me (K x rest (ms.drop (nsl t)) (ac ++ new)) r ∧ ls = pre ++ rest ∧ pre.length = sz t ∧ new.length = nsl t ∧ hs.length = nsl t ∧ ((heldOf ac).Nodup → (heldOf (ac ++ new)).Nodup) ∧
   (∀ (j : Nat) c h, new[j]? = some c → hs[j]? = some h → AccOk live ρ me c h) ∧
   ∀ (pa : List Bool) (b : Nat) (ρc : Nat → Hd), (∀ (j : Nat) h, hs[j]? = some h → ρc (b + j) = h) →
    vals ρc (enterLsF (descs t x pa) ms b).1 = vals ρ pre ∧ (∀ l ∈ (enterLsF (descs t x pa) ms b).1, l.In (fun i => b ≤ i ∧ i < b + nsl t) ρc) ∧ Handed w1 fp new b ρc (enterLsF (descs t x pa) ms b).2.1 := by
 intro t
 induction t with
 | sl e t ih =>
  intro ls ms ac K hl h
  cases ls with
  | nil => exact h.elim
  | cons l rest =>
   cases ms with
   | nil => exact h.elim
   | cons m ms =>
    have hli := hl l (by simp)
    cases m with
    | zero =>
     obtain ⟨xs, hd, h, e1, e2, e3, e4, e5, e6⟩ := rdRow_V H hli.ok h
     obtain ⟨v, h, hv⟩ := rootA_out h
     refine ⟨xs, [l], rest, [⟨l, none, v⟩], [hd], h, rfl, rfl, rfl, rfl, fun hn => by rw [heldOf_append]; simpa [heldOf] using hn, ?_, ?_⟩
     ·intro j c h' hc hh
      cases j with
      | succ j => simp at hc
      | zero =>
       obtain rfl : Acc.mk l none v = c := by simpa using hc
       obtain rfl : hd = h' := by simpa using hh
       refine ⟨hli, e1, e5, (fun r hr => by cases hr), (fun q z hq hz => by cases hz)⟩
     ·intro pa b ρc hρ
      have hb : ρc b = hd := hρ 0 hd rfl
      refine ⟨?_, ?_, ?_⟩
      ·show [(ρc b).sl] = [l.val ρ]
       rw [hb, e1]
      ·intro l' hl'
       simp only [descs, enterLsF, List.mem_singleton] at hl'
       subst hl'
       exact ⟨fun i hi => by (injection hi with hi; subst hi; exact ⟨Nat.le_refl _, Nat.lt_succ_self _⟩), trivial⟩
      ·intro i p hp
       simp only [descs, enterLsF, List.headD_cons, enterP] at hp
       rw [get_cons] at hp
       by_cases hi : i = b
       ·rw [if_pos hi] at hp
        injection hp with hp
        subst hp; subst hi
        refine ⟨0, _, _, rfl, rfl, rfl, trivial, fun U hU mec => ?_⟩
        refine ⟨by rw [hb]; exact e2, by rw [hb]; exact e3, by rw [hb]; exact e4, fun _ k hk => ?_, ?_⟩
        ·obtain ⟨_, hk, _⟩ := hk
         cases hk
        ·rw [hb]
         rcases e6 with ⟨hx, _⟩ | ⟨q, hq, hvc⟩
         ·subst hx
          exact ⟨Nat.zero_le _, fun h => absurd h (Nat.lt_irrefl _)⟩
         ·have hvq := hU _ (hv q hq)
          exact VC_imp hvc (fun k hk => .inr ⟨seen_lt H hk, seen_out H hvq hk (seen_lt H hk)⟩) (fun _ _ => rfl)
       ·rw [if_neg hi] at hp
        cases hp
    | succ m =>
     have h0 : Out me (tkRow l e t (heldOf ac) fun xs _ => K xs rest ms (ac ++ [⟨l, rootH l, none⟩])) r := h
     clear h
     obtain ⟨xs, us', hd, h, e1, e2, e3, e4, e5, _⟩ := tkRow_H H hli.ok h0
     refine ⟨xs, [l], rest, [⟨l, rootH l, none⟩], [hd], h, rfl, rfl, rfl, rfl, fun hn => ?_, ?_, ?_⟩
     ·rw [heldOf_append]
      cases hr : rootH l with
      | none => simpa [heldOf] using hn
      | some q =>
       have := (e4 q hr).1
       simp only [heldOf]
       exact List.nodup_append.2 ⟨hn, by simp, fun a ha b hb hab => by
        obtain rfl := List.mem_singleton.1 hb
        exact this (hab ▸ ha)⟩
     ·intro j c h' hc hh
      cases j with
      | succ j => simp at hc
      | zero =>
       obtain rfl : Acc.mk l (rootH l) none = c := by simpa using hc
       obtain rfl : hd = h' := by simpa using hh
       refine ⟨hli, e1, e3, fun r hr => .inl (e4 r hr).2, fun q z hq hz => by (simp only at hq; subst hq; injection hz with hz; exact hz.symm)⟩
     ·intro pa b ρc hρ
      have hb : ρc b = hd := hρ 0 hd rfl
      refine ⟨?_, ?_, ?_⟩
      ·show [(ρc b).sl] = [l.val ρ]
       rw [hb, e1]
      ·intro l' hl'
       simp only [descs, enterLsF, List.mem_singleton] at hl'
       subst hl'
       exact ⟨fun i hi => by (injection hi with hi; subst hi; exact ⟨Nat.le_refl _, Nat.lt_succ_self _⟩), trivial⟩
      ·intro i p hp
       simp only [descs, enterLsF, List.headD_cons, enterP] at hp
       rw [get_cons] at hp
       by_cases hi : i = b
       ·rw [if_pos hi] at hp
        injection hp with hp
        subst hp; subst hi
        refine ⟨0, _, _, rfl, rfl, rfl, trivial, fun U hU mec => ?_⟩
        show (ρc i).z = _ ∧ _
        rw [hb]
        exact ⟨e2, e5⟩
       ·rw [if_neg hi] at hp
        cases hp
 | pair a c iha ihc =>
  intro ls ms ac K hl h
  obtain ⟨x, p1, r1, n1, h1, h, e1, l1, k1, k2, k3, k4, k5⟩ := iha hl h
  obtain ⟨y, p2, r2, n2, h2, h, e2, l2, q1, q2, q3, q4, q5⟩ := ihc (fun l hm => hl l (by rw [e1]; exact List.mem_append_right _ hm)) h
  rw [List.append_assoc, List.drop_drop] at h
  refine ⟨(x, y), p1 ++ p2, r2, n1 ++ n2, h1 ++ h2, h, by rw [e1, e2, List.append_assoc], by rw [List.length_append, l1, l2]; rfl, by rw [List.length_append, k1, q1]; rfl, by rw [List.length_append, k2, q2]; rfl, fun hn => by rw [← List.append_assoc]; exact q3 (k3 hn), ?_, ?_⟩
  ·intro j c' h' hc hh
   by_cases hj : j < n1.length
   ·rw [List.getElem?_append_left hj] at hc
    rw [List.getElem?_append_left (by omega)] at hh
    exact k4 j c' h' hc hh
   ·rw [List.getElem?_append_right (by omega)] at hc hh
    rw [show h1.length = n1.length by omega] at hh
    exact q4 _ c' h' hc hh
  ·intro pa b ρc hρ
   have hρ1 : ∀ (j : Nat) h, h1[j]? = some h → ρc (b + j) = h := fun j h hj => hρ j h (by rw [List.getElem?_append_left (List.getElem?_eq_some_iff.1 hj).1]; exact hj)
   have hρ2 : ∀ (j : Nat) h, h2[j]? = some h → ρc (b + nsl a + j) = h := fun j h hj => by
    rw [Nat.add_assoc]
    exact hρ _ h (by rw [List.getElem?_append_right (by omega), k2, Nat.add_sub_cancel_left]; exact hj)
   obtain ⟨a1, a2, a3⟩ := k5 (false :: pa) b ρc hρ1
   obtain ⟨b1, b2, b3⟩ := q5 (true :: pa) (b + nsl a) ρc hρ2
   simp only [descs, enterLs_append, cnt_descs]
   refine ⟨by rw [vals_append, vals_append, a1, b1], ?_, a3.append (by rw [k1]; exact b3)⟩
   intro l hl
   rcases List.mem_append.1 hl with hl | hl
   ·exact (a2 l hl).mono (fun i hi => ⟨hi.1, by have := hi.2; simp only [nsl]; omega⟩) (fun _ _ => rfl)
   ·exact (b2 l hl).mono (fun i hi => ⟨by have := hi.1; omega, by have := hi.2; simp only [nsl]; omega⟩) (fun _ _ => rfl)
 | _ =>
  intro ls ms ac K hl h
  obtain ⟨x, pre, rest, h, e1, l1, m1⟩ := gat_scalar rfl h
  refine ⟨x, pre, rest, [], [], ?_, e1, l1, rfl, rfl, fun hn => by rw [List.append_nil]; exact hn, (fun j c h hc => by simp at hc), fun pa b ρc _ => ⟨?_, ?_, ?_⟩⟩
  ·rw [List.append_nil]; exact h
  ·have := m1 w1 (fun _ => True) ρ
   rw [show vals ρ pre = [_] from this]
   rfl
  ·intro l hl
   simp only [descs, enterLsF, List.mem_singleton] at hl
   subst hl
   exact in_none rfl
  ·intro i p hp
   cases hp
theorem of_val {ρc : Nat → Hd} {v : CV} {st : Bool} {ls : List Leaf} (h : v.isSt st = true) (hv : vals ρc ls = vals ρ v.leaves) : (CV.of st ls).val ρc = v.val ρ := by
 cases v with
 | lf l =>
  cases st with
  | true => cases h
  | false =>
   have hl : ls.length = 1 := by
    have := congrArg List.length hv
    simpa [vals, CV.leaves] using this
   match ls, hl with
   | [l'], _ =>
    have : [l'.val ρc] = [l.val ρ] := hv
    injection this
 | ag cs =>
  cases st with
  | false => cases h
  | true =>
   show Value.agg (vals ρc ls).toArray = Value.agg (vals ρ cs).toArray
   rw [hv]
   rfl
theorem hs_left {α : Type} {a b : List α} {j : Nat} {x : α} (h : a[j]? = some x) : (a ++ b)[j]? = some x := by rw [List.getElem?_append_left (List.getElem?_eq_some_iff.1 h).1]; exact h
theorem hs_right {α : Type} {a b : List α} {j : Nat} {x : α} (h : b[j]? = some x) : (a ++ b)[a.length + j]? = some x := by rw [List.getElem?_append_right (by omega), Nat.add_sub_cancel_left]; exact h
theorem all2_append {α β : Type} {p : α → β → Prop} {a c : List α} {b d : List β} (hl : a.length = b.length) (h : ∀ (j : Nat) x y, a[j]? = some x → b[j]? = some y → p x y) (h' : ∀ (j : Nat) x y, c[j]? = some x → d[j]? = some y → p x y) : ∀ (j : Nat) x y, (a ++ c)[j]? = some x → (b ++ d)[j]? = some y → p x y := by
 intro j x y hx hy
 by_cases hj : j < a.length
 ·rw [List.getElem?_append_left hj] at hx
  rw [List.getElem?_append_left (by omega)] at hy
  exact h j x y hx hy
 ·rw [List.getElem?_append_right (by omega)] at hx hy
  rw [show b.length = a.length by omega] at hy
  exact h' _ x y hx hy
/-- Arguments. -/
theorem argsA_out {s : Sl} {a : Act} (H : Mem w ok live w1 ρ fp me) : ∀ (ps : List PM) {os : List Operand} {ac : List Acc} {K : Args ps → List Acc → OP}, (∀ x ∈ os, ∀ v, ev s x = some v → a.eval x = v.val ρ ∧ v.In live ρ) → Out me (argsA s ps os ac K) r →
  ∃ x new, ∃ hs : List Hd, Out me (K x (ac ++ new)) r ∧ os.length = ps.length ∧ new.length = nps ps ∧ hs.length = nps ps ∧ ((heldOf ac).Nodup → (heldOf (ac ++ new)).Nodup) ∧
   (∀ (j : Nat) c h, new[j]? = some c → hs[j]? = some h → AccOk live ρ me c h) ∧
   ∀ (i b : Nat) (ρc : Nat → Hd), (∀ (j : Nat) h, hs[j]? = some h → ρc (b + j) = h) →
    (enterF ps x i b).2.2 = b + nps ps ∧ (∀ q v, get (enterF ps x i b).1 q = some v → ∃ n o, q = i + n ∧ os[n]? = some o ∧ a.eval o = v.val ρc ∧ v.In (fun q => b ≤ q ∧ q < b + nps ps) ρc) ∧ Handed w1 fp new b ρc (enterF ps x i b).2.1 := by
 intro ps
 induction ps with
 | nil =>
  intro os ac K E h
  cases os with
  | cons => exact h.elim
  | nil => exact ⟨(), [], [], by rw [List.append_nil]; exact h, rfl, rfl, rfl, fun hn => by rw [List.append_nil]; exact hn, (fun j c h hc => by simp at hc), fun i b ρc _ => ⟨rfl, (fun q v hv => by cases hv), (fun i p hp => by cases hp)⟩⟩
 | cons p ps ih =>
  intro os ac K E h
  cases os with
  | nil => cases p <;> exact h.elim
  | cons o os =>
   have E' : ∀ x ∈ os, ∀ v, ev s x = some v → a.eval x = v.val ρ ∧ v.In live ρ := fun x hx => E x (List.mem_cons_of_mem _ hx)
   cases p with
   | val st t ms =>
    obtain ⟨v, hv, h⟩ := cvOf_out h
    obtain ⟨v1, v2⟩ := E o (by simp) _ hv
    obtain ⟨hst, h⟩ := bif_fail h
    obtain ⟨x, pre, rest, n1, h1, h, e1, l1, k1, k2, k3, k4, k5⟩ := gatM_out H t v2 h
    cases rest with
    | cons => exact h.elim
    | nil =>
     rw [List.append_nil] at e1
     obtain ⟨y, n2, h2, h, q0, q1, q2, q3, q4, q5⟩ := ih E' h
     rw [List.append_assoc] at h
     refine ⟨(x, y), n1 ++ n2, h1 ++ h2, h, by simp [q0], by simp [k1, q1, nps], by simp [k2, q2, nps], fun hn => by rw [← List.append_assoc]; exact q3 (k3 hn), all2_append (by omega) k4 q4, ?_⟩
     intro i b ρc hρ
     obtain ⟨a1, a2, a3⟩ := k5 [] b ρc (fun j h hj => hρ j h (hs_left hj))
     have hnx : (enterLsF (descs t x []) ms b).2.2 = b + nsl t := by rw [enterLs_nx, cnt_descs]
     obtain ⟨b0, b1, b2⟩ := q5 (i + 1) (b + nsl t) ρc (fun j h hj => by rw [← k2, Nat.add_assoc]; exact hρ _ h (hs_right hj))
     simp only [enterF, hnx]
     refine ⟨by rw [b0]; simp [nps]; omega, ?_, a3.append (by rw [k1]; exact b2)⟩
     intro q u hu
     rw [get_cons] at hu
     by_cases hq : q = i
     ·rw [if_pos hq] at hu
      injection hu with hu
      subst hu
      refine ⟨0, o, by omega, rfl, ?_, ?_⟩
      ·rw [v1]
       exact (of_val hst (by rw [a1, ← e1])).symm
      ·show LsIn _ _ (CV.of st _).leaves
       rw [of_leaves]
       exact fun l hl => (a2 l hl).mono (fun i hi => ⟨hi.1, by have := hi.2; simp only [nps]; omega⟩) (fun _ _ => rfl)
     ·rw [if_neg hq] at hu
      obtain ⟨n, o', g1, g2, g3, g4⟩ := b1 q u hu
      exact ⟨n + 1, o', by omega, by simpa using g2, g3, g4.mono (fun i hi => ⟨by have := hi.1; omega, by have := hi.2; simp only [nps]; omega⟩) (fun _ _ => rfl)⟩
   | ptr T t ms =>
    obtain ⟨l, hv, h⟩ := lfOf_out h
    obtain ⟨v1, v2⟩ := E o (by simp) _ hv
    cases l with
    | ptr r0 j0 =>
     cases j0 with
     | succ j0 => exact h.elim
     | zero =>
      rcases bif_out h with ⟨_, h⟩ | ⟨hm, h⟩
      ·exact h.elim
      obtain ⟨p, hp, h⟩ := h
      cases p <;> first | exact h.elim | skip
      rename_i T' cs
      obtain ⟨hT, h⟩ := bif_fail h
      have hT := Nat.eq_of_beq_eq_true hT
      subst hT
      have hni : r0 ∉ heldOf ac := fun hi => by rw [memb_iff.2 hi] at hm; cases hm
      obtain ⟨hlr, hcs⟩ := H.lin r0 _ hp
      obtain ⟨hg, hblk⟩ := H.on r0 _ hp
      obtain ⟨x, pre, rest, n1, h1, h, e1, l1, k1, k2, k3, k4, k5⟩ := gatM_out H t hcs h
      cases rest with
      | cons => exact h.elim
      | nil =>
       rw [List.append_nil] at e1
       obtain ⟨y, n2, h2, h, q0, q1, q2, q3, q4, q5⟩ := ih E' h
       rw [List.append_assoc, List.append_assoc] at h
       refine ⟨(x, y), [⟨.own r0, some r0, none⟩] ++ (n1 ++ n2), [ρ r0] ++ (h1 ++ h2), h, by simp [q0], by simp [k1, q1, nps]; omega, by simp [k2, q2, nps]; omega, fun hn => ?_, all2_append rfl ?_ (all2_append (by omega) k4 q4), ?_⟩
       ·rw [← List.append_assoc, ← List.append_assoc]
        refine q3 (k3 ?_)
        rw [heldOf_append]
        exact List.nodup_append.2 ⟨hn, by simp [heldOf], fun a ha b hb hab => by
         obtain rfl : b = r0 := by simpa [heldOf] using hb
         exact hni (hab ▸ ha)⟩
       ·intro j c h hc hh
        cases j with
        | succ j => simp at hc
        | zero =>
         obtain rfl : Acc.mk (.own r0) (some r0) none = c := by simpa using hc
         obtain rfl : ρ r0 = h := by simpa using hh
         exact ⟨⟨fun i hi => by (injection hi with hi; subst hi; exact hlr), trivial⟩, rfl, fun q hq => by (injection hq with hq; rw [hq]), fun r hr => by (injection hr with hr; subst hr; exact .inr ⟨_, _, hp⟩), fun q z hq hz => by (injection hq with hq; injection hz with hz; omega)⟩
       ·intro i b ρc hρ
        have hb : ρc b = ρ r0 := hρ 0 _ rfl
        obtain ⟨a1, a2, a3⟩ := k5 [] (b + 1) ρc (fun j h hj => by
         have := hρ (1 + j) h (hs_right (a := [ρ r0]) (hs_left hj))
         rw [← this]; congr 1; omega)
        have hnx : (enterLsF (descs t x []) ms (b + 1)).2.2 = b + 1 + nsl t := by rw [enterLs_nx, cnt_descs]
        obtain ⟨b0, b1, b2⟩ := q5 (i + 1) (b + 1 + nsl t) ρc (fun j h hj => by
         have := hρ (1 + (h1.length + j)) h (hs_right (a := [ρ r0]) (hs_right hj))
         rw [← this, k2]; congr 1; omega)
        simp only [enterF, hnx]
        refine ⟨by rw [b0]; simp [nps]; omega, ?_, ?_⟩
        ·intro q u hu
         rw [get_cons] at hu
         by_cases hq : q = i
         ·rw [if_pos hq] at hu
          injection hu with hu
          subst hu
          refine ⟨0, o, by omega, rfl, ?_, ?_⟩
          ·rw [v1]
           show Value.pointer (some ⟨(ρ r0).g, 0, none⟩) = Value.pointer (some ⟨(ρc b).g, 0, none⟩)
           rw [hb]
          ·exact lf_in ⟨fun i hi => by (injection hi with hi; subst hi; exact ⟨Nat.le_refl _, by simp only [nps]; omega⟩), trivial⟩
         ·rw [if_neg hq] at hu
          obtain ⟨n, o', g1, g2, g3, g4⟩ := b1 q u hu
          exact ⟨n + 1, o', by omega, by simpa using g2, g3, g4.mono (fun i hi => ⟨by have := hi.1; omega, by have := hi.2; simp only [nps]; omega⟩) (fun _ _ => rfl)⟩
        ·intro i' p' hp'
         rw [get_cons] at hp'
         by_cases hi' : i' = b
         ·rw [if_pos hi'] at hp'
          injection hp' with hp'
          subst hp'; subst hi'
          refine ⟨0, _, _, rfl, rfl, rfl, ?_, fun U hU mec => ?_⟩
          ·exact fun l hl => (a2 l hl).mono (fun i hi => ⟨by have := hi.1; omega, by have := hi.2; simp [k1]; omega⟩) (fun _ _ => rfl)
          ·show fpA fp _ (ρc i').g ∧ _
           rw [hb, a1, ← e1]
           exact ⟨⟨r0, rfl, hg⟩, hblk⟩
         ·rw [if_neg hi'] at hp'
          obtain ⟨j, d, q, g1, g2, g3, g4, g5⟩ := (a3.append (by rw [k1]; exact b2)) i' p' hp'
          exact ⟨j + 1, d, q, by omega, by simpa using g2, g3, g4.mono' (fun i hi => ⟨by have := hi.1; omega, by have := hi.2; simp at this ⊢; omega⟩), g5⟩
    | _ => exact h.elim
end
end Go.Proofs.YthncjcfnpfajaaaA
