/- Calls that are handed a row inside a row. Plain lemmas; no condition. -/
import Derived.Test.YthncjcfnpfajaaaAbCd
namespace Go.Proofs.YthncjcfnpfajaaaA
open Go Go.RowKit Go.Proofs.YthncjcfnpfajaaaW.PrintWords
set_option linter.unusedVariables false
set_option linter.unusedSimpArgs false
section
variable {P : Program} {w w1 : World} {ok live : Nat → Prop} {b : Nat} {o : Oper} {a : Act} {ρ : Nat → Hd} {fp : Nat → Nat → Prop} {me : Nat → Option Part} {v : SV} {us : Me} {s : Sl} {C : Ctx}
/-- The parts as they are lent. -/
def lentM (d : Me) (i : Nat) (me : Nat → Option Part) (q : Nat) : Option Part := match get d q with
 | some p => p
 | none => match me q with
  | some p => bif subOf i p then none else some p
  | none => none
theorem under_out {α β : Type} {d : Me} {i : Nat} {r : β} : ∀ {g : Prg α} {K : α → Prg β}, Out me (under d i g K) r → ∃ x, Out (lentM d i me) g x ∧ Out me (K x) r
 | .ret x, K, h => ⟨x, rfl, h⟩
 | .fail, K, h => h.elim
 | .getM id k, K, h => by
  simp only [under] at h
  cases hd : get d id with
  | some p0 =>
   rw [hd] at h
   cases p0 with
   | none => exact h.elim
   | some p =>
    obtain ⟨x, h1, h2⟩ := under_out h
    exact ⟨x, ⟨p, by unfold lentM; rw [hd], h1⟩, h2⟩
  | none =>
   rw [hd] at h
   obtain ⟨p, hp, h⟩ := h
   rcases bif_out h with ⟨_, h⟩ | ⟨hs, h⟩
   ·exact h.elim
   obtain ⟨x, h1, h2⟩ := under_out h
   exact ⟨x, ⟨p, by unfold lentM; rw [hd, hp]; simp only [hs, cond_false], h1⟩, h2⟩
 | .ite p _ k, K, ⟨hp, h⟩ => by
  obtain ⟨x, h1, h2⟩ := under_out h
  exact ⟨x, ⟨hp, h1⟩, h2⟩
 | .br p _ k1 k2, K, h => by
  rcases h with ⟨hp, h⟩ | ⟨hp, h⟩
  ·obtain ⟨x, h1, h2⟩ := under_out h
   exact ⟨x, .inl ⟨hp, h1⟩, h2⟩
  ·obtain ⟨x, h1, h2⟩ := under_out h
   exact ⟨x, .inr ⟨hp, h1⟩, h2⟩
 | .bindO y k, K, ⟨z, hz, h⟩ => by
  obtain ⟨x, h1, h2⟩ := under_out h
  exact ⟨x, ⟨z, hz, h1⟩, h2⟩
/-- A row inside an element, and the element with another in its place. -/
theorem sel_M {α : Type} {r : α} : ∀ {t : Ty} {path : List Bool} {x : den t} {k : (e : Nat) → (t' : Ty) → List (den t') → Prg α}, Out me (sel t path x k) r →
  ∃ e t' ys off, Out me (k e t' ys) r ∧ pathOff t path = some off ∧ pathZ t path = sz t' ∧ ∀ (w : World) (p : Nat → Prop) (c : List Value), M w t p x c → ∃ val q rest, c[off]? = some val ∧ Sub2 q rest p ∧ R w e t' q val ys ∧
   ∀ {β : Type} (w2 : World) (q' p' : Nat → Prop) (zs : List (den t')) (k' : den t → Prg β) (r' : β) (me' : Nat → Option Part), Out me' (selSet t path x t' zs k') r' → (∀ k, rest k → w2.heap[k]? = w.heap[k]?) → R w2 e t' q' val zs → Sub2 q' rest p' → ∃ x', Out me' (k' x') r' ∧ M w2 t p' x' c := by
 intro t
 induction t with
 | int k => intro path x k h; exact h.elim
 | bool => intro path x k h; exact h.elim
 | str => intro path x k h; exact h.elim
 | sl e t ih =>
  intro path x k h
  cases path with
  | cons => exact h.elim
  | nil =>
   refine ⟨e, t, x, 0, h, rfl, rfl, ?_⟩
   rintro w p c ⟨val, rfl, hr⟩
   refine ⟨val, p, fun _ => False, rfl, ⟨fun _ h => h, fun _ h => h.elim, fun _ _ h => h⟩, hr, ?_⟩
   intro β w2 q' p' zs k' r' me' ho _ hr' hs
   obtain ⟨he, ho⟩ := castL_out (show Out me' (castL t t zs k') r' from ho)
   exact ⟨zs, ho, val, rfl, R_imp hr' hs.1 (fun _ _ => rfl)⟩
 | pair a b iha ihb =>
  intro path x k h
  cases path with
  | nil => exact h.elim
  | cons q0 path =>
   cases q0 with
   | false =>
    obtain ⟨e, t', ys, off, h1, h2, hz, h4⟩ := iha (x := x.1) h
    refine ⟨e, t', ys, off, h1, h2, hz, ?_⟩
    rintro w p c ⟨c0, c1, p0, p1, rfl, hs, m0, m1⟩
    obtain ⟨val, q, rest, g1, g2, g3, g4⟩ := h4 w p0 c0 m0
    refine ⟨val, q, fun k => rest k ∨ p1 k, ?_, ⟨fun k hk => hs.1 k (g2.1 k hk), fun k hk => hk.elim (fun h => hs.1 k (g2.2.1 k h)) (hs.2.1 k), fun k hk h => h.elim (g2.2.2 k hk) (hs.2.2 k (g2.1 k hk))⟩, g3, ?_⟩
    ·rw [List.getElem?_append_left (List.getElem?_eq_some_iff.1 g1).1]
     exact g1
    ·intro β w2 q' p' zs k' r' me' ho hk hr' hs'
     obtain ⟨x', o1, o2⟩ := g4 w2 q' (fun k => q' k ∨ rest k) zs (fun y => k' (y, x.2)) r' me' ho (fun k h => hk k (.inl h)) hr' ⟨fun k h => .inl h, fun k h => .inr h, fun k h h' => hs'.2.2 k h (.inl h')⟩
     refine ⟨(x', x.2), o1, c0, c1, fun k => q' k ∨ rest k, p1, rfl, ⟨fun k h => h.elim (hs'.1 k) (fun h => hs'.2.1 k (.inl h)), fun k h => hs'.2.1 k (.inr h), fun k h h' => h.elim (fun h => hs'.2.2 k h (.inr h')) (fun h => hs.2.2 k (g2.2.1 k h) h')⟩, o2, M_move m1 (fun k h => hk k (.inr h))⟩
   | true =>
    obtain ⟨e, t', ys, off, h1, h2, hz, h4⟩ := ihb (x := x.2) h
    refine ⟨e, t', ys, sz a + off, h1, by simp [pathOff, h2], hz, ?_⟩
    rintro w p c ⟨c0, c1, p0, p1, rfl, hs, m0, m1⟩
    obtain ⟨val, q, rest, g1, g2, g3, g4⟩ := h4 w p1 c1 m1
    refine ⟨val, q, fun k => rest k ∨ p0 k, ?_, ⟨fun k hk => hs.2.1 k (g2.1 k hk), fun k hk => hk.elim (fun h => hs.2.1 k (g2.2.1 k h)) (hs.1 k), fun k hk h => h.elim (g2.2.2 k hk) (fun h => hs.2.2 k h (g2.1 k hk))⟩, g3, ?_⟩
    ·have hl := M_len a m0
     rw [List.getElem?_append_right (by omega), hl, Nat.add_sub_cancel_left]
     exact g1
    ·intro β w2 q' p' zs k' r' me' ho hk hr' hs'
     obtain ⟨x', o1, o2⟩ := g4 w2 q' (fun k => q' k ∨ rest k) zs (fun y => k' (x.1, y)) r' me' ho (fun k h => hk k (.inl h)) hr' ⟨fun k h => .inl h, fun k h => .inr h, fun k h h' => hs'.2.2 k h (.inl h')⟩
     refine ⟨(x.1, x'), o1, c0, c1, p0, fun k => q' k ∨ rest k, rfl, ⟨fun k h => hs'.2.1 k (.inr h), fun k h => h.elim (hs'.1 k) (fun h => hs'.2.1 k (.inl h)), fun k h h' => h'.elim (fun h' => hs'.2.2 k h' (.inr h)) (fun h' => hs.2.2 k h (g2.2.1 k h'))⟩, M_move m0 (fun k h => hk k (.inr h)), o2⟩
theorem noSubs_get : ∀ {m : Me} {i r ver j : Nat} {pa : List Bool}, noSubs m = true → get m i = some (some (.sub r ver j pa)) → False
 | [], _, _, _, _, _, _, h => by cases h
 | (k, p) :: m, i, r, ver, j, pa, hn, h => by
  rw [get_cons] at h
  by_cases hi : i = k
  ·rw [if_pos hi] at h
   injection h with h
   subst h
   simp [noSubs] at hn
  ·rw [if_neg hi] at h
   refine noSubs_get (m := m) ?_ h
   cases p with
   | none => exact hn
   | some p => cases p <;> first | exact hn | (simp [noSubs] at hn)
theorem subOf_iff {i : Nat} {p : Part} (h : subOf i p = true) : ∃ ver j pa, p = .sub i ver j pa := by
 cases p with
 | sub r ver j pa =>
  have := Nat.eq_of_beq_eq_true (show Nat.beq r i = true from h)
  subst this
  exact ⟨ver, j, pa, rfl⟩
 | _ => cases h
theorem go_lent {f : FuncId} {xs : Array Operand} {ats : Array TypeId} {i r ver e0 j : Nat} {t : Ty} {zs : List (den t)} {path : List Bool} (hE : EntsOk P C.fuel C.Γ) (H : Mem w ok live w1 ρ fp me) (hb : ∀ i, b ≤ i → i < b + step → ¬ live i) (ho : o.op = .call { callee := .value (.func f), args := xs, argTypes := ats }) (E : ∀ x ∈ xs.toList, ∀ v, ev s x = some v → a.eval x = v.val ρ ∧ v.In live ρ)
  (hi : me i = some (.sub r ver j path)) (hr : me r = some (.row ver e0 t zs))
  (h : Out me (sel t path (el t zs j) fun e' t' ys => under [(i, some (.row 0 e' t' ys)), (r, none)] i (callA C s b f xs.toList) (lentA i r ver e0 t zs j path e' t')) (v, us)) : Goes P w ok live b o a w1 ρ me v us := by
 have hir : i ≠ r := fun e => by rw [e, hr] at hi; cases hi
 obtain ⟨e', t', ys, off, h, hoff, hpz, hsel⟩ := sel_M h
 obtain ⟨⟨v0, us0⟩, hcall, h⟩ := under_out h
 unfold lentA at h
 simp only at h
 obtain ⟨hns, h⟩ := bif_fail h
 simp only [Bool.and_eq_true, Bool.not_eq_true'] at hns
 obtain ⟨hns, hnr⟩ := hns
 have hnr' : get us0 r = none := by
  cases hg : get us0 r with
  | none => rfl
  | some p =>
   have := key_get hg
   rw [memb_iff.2 this] at hnr
   cases hnr
 split at h
 ·rename_i vi e'' t'' qs hgi
  obtain ⟨he', h1⟩ := bif_fail h
  obtain ⟨he, h2⟩ := castL_out h1
  clear h h1
  subst he
  have he' := Nat.eq_of_beq_eq_true he'
  subst he'
  -- where the row inside lies
  obtain ⟨hzr, inner, hq, hown, hels⟩ := H.on r _ hr
  obtain ⟨hsz, off', ho1, hj, hcell⟩ := ((H.on i _ hi).1 ver e0 t zs hr).2 rfl
  rw [hoff] at ho1
  injection ho1 with ho1
  subst ho1
  have hel : zs[j]? = some (el t zs j) := by
   unfold el
   rw [List.getD_eq_getElem?_getD, List.getElem?_eq_getElem hj]
   rfl
  obtain ⟨c, pi, pr, hc1, hc2, hc3, hc4, hM, hback⟩ := Els.at j hels hel
  obtain ⟨val, q, rest, g1, g2, g3, g4⟩ := hsel w1 pi c hM
  have hq' : QRow w1 0 e0 (sz t) (.slice (ρ r).A zs.length (ρ r).c) zs.length inner := by
   obtain ⟨A', c', he, _⟩ := q_slice hq
   injection he with h1 h2 h3
   have hq2 : QRow w1 0 e0 (sz t) (.slice (ρ r).A (ρ r).n (ρ r).c) zs.length inner := hq
   rw [h2] at hq2
   exact hq2
  obtain ⟨ad, hA, hcs⟩ := q_cells hq' (by omega)
  have hval : val = (ρ i).sl := by
   have h1 := hcs (j * sz t + off) val (by
    have : c[off]? = some val := g1
    rw [← hc2] at this
    rw [List.getElem?_take] at this
    split at this
    ·rw [List.getElem?_drop] at this
     exact this
    ·cases this)
   rw [hA] at hcell
   rw [show adr (some ad) = ad from rfl, h1] at hcell
   injection hcell with hcell
  subst hval
  have hin : ∀ k, q k → fp r k := fun k hk => (hc4.1 k (g2.1 k hk)).1
  have hqo : ∀ k, q k → (ρ r).sl.ownBlock ≠ some k := fun k hk => (hc4.1 k (g2.1 k hk)).2
  obtain ⟨fp1, hfp1⟩ : ∃ fp1 : Nat → Nat → Prop, ∀ n, fp1 n = if n = i then q else if n = r then (fun k => fp r k ∧ ¬ q k) else fp n := ⟨_, fun _ => rfl⟩
  have f1i : fp1 i = q := by rw [hfp1, if_pos rfl]
  have f1r : fp1 r = fun k => fp r k ∧ ¬ q k := by rw [hfp1, if_neg (Ne.symm hir), if_pos rfl]
  have f1n : ∀ n, n ≠ i → n ≠ r → fp1 n = fp n := fun n h1 h2 => by rw [hfp1, if_neg h1, if_neg h2]
  obtain ⟨me1, hme1⟩ : ∃ me1, me1 = lentM [(i, some (.row 0 e'' t'' ys)), (r, none)] i me := ⟨_, rfl⟩
  rw [← hme1] at hcall
  have m1i : me1 i = some (.row 0 e'' t'' ys) := by rw [hme1]; unfold lentM; rw [get_cons, if_pos rfl]
  have m1r : me1 r = none := by rw [hme1]; unfold lentM; rw [get_cons, if_neg (Ne.symm hir), get_cons, if_pos rfl]
  have m1n : ∀ n, n ≠ i → n ≠ r → me1 n = match me n with | some p => bif subOf i p then none else some p | none => none := fun n h1 h2 => by rw [hme1]; unfold lentM; rw [get_cons, if_neg h1, get_cons, if_neg h2]; rfl
  have m1s : ∀ n p, n ≠ i → me1 n = some p → n ≠ r ∧ me n = some p ∧ subOf i p = false := fun n p h1 hp => by
   by_cases h2 : n = r
   ·rw [h2, m1r] at hp; cases hp
   ·rw [m1n n h1 h2] at hp
    cases hm : me n with
    | none => rw [hm] at hp; cases hp
    | some p' =>
     rw [hm] at hp
     simp only at hp
     cases hs : subOf i p' with
     | true => rw [hs] at hp; cases hp
     | false => rw [hs] at hp; injection hp with hp; subst hp; exact ⟨h2, rfl, hs⟩
  obtain ⟨hli, _⟩ := H.lin i _ hi
  obtain ⟨hlr, _⟩ := H.lin r _ hr
  have H1 : Mem w ok live w1 ρ fp1 me1 := by
   refine ⟨H.os, H.tape, H.output, H.size, H.keep, H.up, fun n p hp => ?_, fun n k hk => ?_, fun n m k hn hm => ?_, fun n p hp => ?_⟩
   ·by_cases h1 : n = i
    ·subst h1
     rw [m1i] at hp
     injection hp with hp
     subst hp
     exact ⟨hli, trivial⟩
    ·obtain ⟨_, h2, _⟩ := m1s n p h1 hp
     exact H.lin n p h2
   ·rw [hfp1] at hk
    split at hk
    ·exact H.fpk r k (hin k hk)
    ·split at hk
     ·exact H.fpk r k hk.1
     ·exact H.fpk n k hk
   ·rw [hfp1] at hn hm
    have key : ∀ n, n ≠ i → n ≠ r → fp n k → fp r k → False := fun n h1 h2 h3 h4 => h2 (H.dis n r k h3 h4)
    by_cases n1 : n = i
    ·rw [if_pos n1] at hn
     by_cases m1 : m = i
     ·rw [n1, m1]
     ·rw [if_neg m1] at hm
      by_cases m2 : m = r
      ·rw [if_pos m2] at hm
       exact absurd hn hm.2
      ·rw [if_neg m2] at hm
       exact (key m m1 m2 hm (hin k hn)).elim
    ·rw [if_neg n1] at hn
     by_cases n2 : n = r
     ·rw [if_pos n2] at hn
      by_cases m1 : m = i
      ·rw [if_pos m1] at hm
       exact absurd hm hn.2
      ·rw [if_neg m1] at hm
       by_cases m2 : m = r
       ·rw [n2, m2]
       ·rw [if_neg m2] at hm
        exact (key m m1 m2 hm hn.1).elim
     ·rw [if_neg n2] at hn
      by_cases m1 : m = i
      ·rw [if_pos m1] at hm
       exact (key n n1 n2 hn (hin k hm)).elim
      ·rw [if_neg m1] at hm
       by_cases m2 : m = r
       ·rw [if_pos m2] at hm
        exact (key n n1 n2 hn hm.1).elim
       ·rw [if_neg m2] at hm
        exact H.dis n m k hn hm
   ·by_cases h1 : n = i
    ·subst h1
     rw [m1i] at hp
     injection hp with hp
     subst hp
     show (ρ n).z = sz t'' ∧ R w1 e'' t'' (fp1 n) (ρ n).sl ys
     rw [f1i]
     exact ⟨hsz.trans hpz, g3⟩
    ·obtain ⟨h2, hp', hs⟩ := m1s n p h1 hp
     have h0 := H.on n p hp'
     rw [f1n n h1 h2]
     cases p with
     | blk T cs => exact h0
     | row v e t xs => exact h0
     | view o e t xs => exact h0
     | sub r' ver' j' pa' =>
      have hri : r' ≠ i := fun e => by
       have : Nat.beq r' i = true := by rw [e]; exact Nat.beq_refl i
       rw [show subOf i (.sub r' ver' j' pa') = Nat.beq r' i from rfl, this] at hs
       cases hs
      refine ⟨fun v e t xs hv => ?_, fun o e t xs hv => ?_⟩
      ·exact h0.1 v e t xs (m1s r' _ hri hv).2.1
      ·exact h0.2 o e t xs (m1s r' _ hri hv).2.1
  intro K Q hK
  refine go_callX hE H1 hb ho E hcall K Q ?_
  intro w2 ρ2 fp2 U H2 hst hv hU hfr hff
  have hrU : r ∉ U := fun h => by
   rcases hU r h with ⟨_, _, _, _, h⟩ | ⟨_, _, h⟩ <;> (rw [m1r] at h; cases h)
  have f2r : fp2 r = fun k => fp r k ∧ ¬ q k := (hff r hlr hrU).trans f1r
  have hsame : ∀ k, fp r k → ¬ q k → w2.heap[k]? = w1.heap[k]? := fun k h1 h2 => hfr k (H.fpk r k h1).2 (fun n hn hk => hrU (H1.dis r n k (by rw [f1r]; exact ⟨h1, h2⟩) hk ▸ hn))
  have u2i : upd us0 me1 i = some (.row vi e'' t'' qs) := by unfold upd; rw [hgi]
  have hρi := hst i hli
  have hρr := hst r hlr
  obtain ⟨hz2, hR2⟩ := H2.on i _ u2i
  rw [hρi] at hR2
  have hdr : ∀ k, fp2 i k → fp r k → q k := fun k h1 h2 => Classical.byContradiction fun h3 => hir (H2.dis i r k h1 (by rw [f2r]; exact ⟨h2, h3⟩))
  have hrq : ∀ k, rest k → fp r k ∧ ¬ q k := fun k hk => ⟨(hc4.1 k (g2.2.1 k hk)).1, fun h => g2.2.2 k h hk⟩
  have hpq : ∀ k, pr k → fp r k ∧ ¬ q k := fun k hk => ⟨(hc4.2.1 k hk).1, fun h => hc4.2.2 k (g2.1 k h) hk⟩
  obtain ⟨x', o1, o2⟩ := g4 w2 (fp2 i) (fun k => fp2 i k ∨ rest k) qs _ _ _ h2 (fun k hk => hsame k (hrq k hk).1 (hrq k hk).2) hR2 ⟨fun k h => .inl h, fun k h => .inr h, fun k h1 h2 => (hrq k h2).2 (hdr k h1 (hrq k h2).1)⟩
  obtain ⟨ns, hns', o1⟩ := o1
  injection hns' with hns'
  subst hns'
  injection out_out o1 with e1 e2
  subst e1; subst e2
  obtain ⟨fp3, hfp3⟩ : ∃ fp3 : Nat → Nat → Prop, ∀ n, fp3 n = if n = i then (fun _ => False) else if n = r then (fun k => (fp r k ∧ ¬ q k) ∨ fp2 i k) else fp2 n := ⟨_, fun _ => rfl⟩
  have f3i : fp3 i = fun _ => False := by rw [hfp3, if_pos rfl]
  have f3r : fp3 r = fun k => (fp r k ∧ ¬ q k) ∨ fp2 i k := by rw [hfp3, if_neg (Ne.symm hir), if_pos rfl]
  have f3n : ∀ n, n ≠ i → n ≠ r → fp3 n = fp2 n := fun n h1 h2 => by rw [hfp3, if_neg h1, if_neg h2]
  obtain ⟨me3, hme3⟩ : ∃ me3, me3 = upd ((r, some (Part.row (ver + 1) e0 t (zs.set j x'))) :: (i, none) :: us0) me := ⟨_, rfl⟩
  have m3r : me3 r = some (.row (ver + 1) e0 t (zs.set j x')) := by rw [hme3]; unfold upd; rw [get_cons, if_pos rfl]
  have m3i : me3 i = none := by rw [hme3]; unfold upd; rw [get_cons, if_neg hir, get_cons, if_pos rfl]
  have m3n : ∀ n, n ≠ i → n ≠ r → me3 n = upd us0 me n := fun n h1 h2 => by rw [hme3]; unfold upd; rw [get_cons, if_neg h2, get_cons, if_neg h1]
  -- where a part behind the call comes from
  have m3s : ∀ n p, n ≠ i → n ≠ r → me3 n = some p → (get us0 n = some (some p) ∧ upd us0 me1 n = some p) ∨ (get us0 n = none ∧ me n = some p ∧ (subOf i p = true ∨ upd us0 me1 n = some p)) := fun n p h1 h2 hp => by
   rw [m3n n h1 h2] at hp
   unfold upd at hp
   cases hg : get us0 n with
   | some p' =>
    rw [hg] at hp
    simp only at hp
    subst hp
    exact .inl ⟨rfl, by unfold upd; rw [hg]⟩
   | none =>
    rw [hg] at hp
    simp only at hp
    refine .inr ⟨rfl, hp, ?_⟩
    cases hs : subOf i p with
    | true => exact .inl rfl
    | false =>
     refine .inr ?_
     unfold upd
     rw [hg]
     simp only
     rw [m1n n h1 h2, hp]
     simp only [hs, cond_false]
  have H3 : Mem w ok (grow live b) w2 ρ2 fp3 me3 := by
   refine ⟨H2.os, H2.tape, H2.output, H2.size, H2.keep, H2.up, fun n p hp => ?_, fun n k hk => ?_, fun n m k hn hm => ?_, fun n p hp => ?_⟩
   ·by_cases h1 : n = i
    ·rw [h1, m3i] at hp; cases hp
    by_cases h2 : n = r
    ·rw [h2, m3r] at hp
     injection hp with hp
     subst hp
     exact ⟨by rw [h2]; exact .inl hlr, trivial⟩
    rcases m3s n p h1 h2 hp with ⟨_, h3⟩ | ⟨_, h3, _⟩
    ·exact H2.lin n p h3
    ·obtain ⟨q1, q2⟩ := H.lin n p h3
     exact ⟨.inl q1, q2.mono (fun _ h => .inl h) hst⟩
   ·rw [hfp3] at hk
    split at hk
    ·exact hk.elim
    ·split at hk
     ·rcases hk with hk | hk
      ·exact H2.fpk r k (by rw [f2r]; exact hk)
      ·exact H2.fpk i k hk
     ·exact H2.fpk n k hk
   ·rw [hfp3] at hn hm
    have key : ∀ n, n ≠ i → n ≠ r → fp2 n k → ((fp r k ∧ ¬ q k) ∨ fp2 i k) → False := fun n h1 h2 h3 h4 => by
     rcases h4 with h4 | h4
     ·exact h2 (H2.dis n r k h3 (by rw [f2r]; exact h4))
     ·exact h1 (H2.dis n i k h3 h4)
    by_cases n1 : n = i
    ·rw [if_pos n1] at hn
     exact hn.elim
    ·rw [if_neg n1] at hn
     by_cases m1 : m = i
     ·rw [if_pos m1] at hm
      exact hm.elim
     ·rw [if_neg m1] at hm
      by_cases n2 : n = r
      ·rw [if_pos n2] at hn
       by_cases m2 : m = r
       ·rw [n2, m2]
       ·rw [if_neg m2] at hm
        exact (key m m1 m2 hm hn).elim
      ·rw [if_neg n2] at hn
       by_cases m2 : m = r
       ·rw [if_pos m2] at hm
        exact (key n n1 n2 hn hm).elim
       ·rw [if_neg m2] at hm
        exact H2.dis n m k hn hm
   ·by_cases h1 : n = i
    ·rw [h1, m3i] at hp; cases hp
    by_cases h2 : n = r
    ·subst h2
     rw [m3r] at hp
     injection hp with hp
     subst hp
     show (ρ2 n).z = sz t ∧ R w2 e0 t (fp3 n) (ρ2 n).sl (zs.set j x')
     rw [hρr, f3r]
     refine ⟨hzr, inner, ?_, fun k hk => .inl ⟨hown k hk, fun h => hqo k h hk⟩, ?_⟩
     ·rw [List.length_set]
      exact q_move hq (fun k hk => hsame k (hown k hk) (fun h => hqo k h hk))
     ·have := hback (R' := M w2 t) (q := fun k => fp2 i k ∨ rest k) (p' := fun k => ((fp n k ∧ ¬ q k) ∨ fp2 i k) ∧ (ρ n).sl.ownBlock ≠ some k) (x' := x') (c' := c) (fun q0 x0 c0 hq0 hM0 => M_move hM0 (fun k hk => hsame k (hpq k (hq0 k hk)).1 (hpq k (hq0 k hk)).2)) o2 hc3 ⟨fun k hk => ?_, fun k hk => ?_, fun k hk hk' => ?_⟩
      ·rw [← hc1] at this
       exact this
      ·rcases hk with hk | hk
       ·refine ⟨.inr hk, fun h => hqo k (hdr k hk (hown k h)) h⟩
       ·exact ⟨.inl (hrq k hk), (hc4.1 k (g2.2.1 k hk)).2⟩
      ·exact ⟨.inl (hpq k hk), (hc4.2.1 k hk).2⟩
      ·rcases hk with hk | hk
       ·exact (hpq k hk').2 (hdr k hk (hpq k hk').1)
       ·exact hc4.2.2 k (g2.2.1 k hk) hk'
    rw [f3n n h1 h2]
    have plain : upd us0 me1 n = some p → (∀ r' ver' j' pa', p ≠ .sub r' ver' j' pa') → On w ok w2 ρ2 me3 n (fp2 n) p := fun hp' hno => by
     have h0 := H2.on n p hp'
     cases p with
     | blk T cs => exact h0
     | row v e t xs => exact h0
     | view o e t xs => exact h0
     | sub r' ver' j' pa' => exact absurd rfl (hno r' ver' j' pa')
    rcases m3s n p h1 h2 hp with ⟨hg, h3⟩ | ⟨hg, h3, h4⟩
    ·exact plain h3 (fun r' ver' j' pa' e => noSubs_get hns (by rw [hg, e]))
    ·cases p with
     | blk T cs => exact plain (h4.resolve_left (by intro h; cases h)) (by intros; intro h; cases h)
     | row v e t xs => exact plain (h4.resolve_left (by intro h; cases h)) (by intros; intro h; cases h)
     | view o e t xs => exact plain (h4.resolve_left (by intro h; cases h)) (by intros; intro h; cases h)
     | sub r' ver' j' pa' =>
      by_cases hr' : r' = r
      ·subst hr'
       have h0 := (H.on n _ h3).1 ver e0 t zs hr
       refine ⟨fun v e t xs hv => ?_, fun o e t xs hv => ?_⟩
       ·rw [m3r] at hv
        injection hv with hv
        injection hv with v1
        subst v1
        exact ⟨Nat.le_succ_of_le h0.1, fun e => absurd h0.1 (by omega)⟩
       ·rw [m3r] at hv
        injection hv with hv
        cases hv
      by_cases hi' : r' = i
      ·subst hi'
       refine ⟨fun v e t xs hv => ?_, fun o e t xs hv => ?_⟩
       ·rw [m3i] at hv; cases hv
       ·rw [m3i] at hv; cases hv
      have h5 : upd us0 me1 n = some (.sub r' ver' j' pa') := h4.resolve_left (fun h => by
       obtain ⟨_, _, _, e⟩ := subOf_iff h
       injection e with e
       exact hi' e)
      have h0 := H2.on n _ h5
      have back : ∀ p', (∀ r' ver' j' pa', p' ≠ .sub r' ver' j' pa') → me3 r' = some p' → upd us0 me1 r' = some p' := fun p' hno hp' => by
       rcases m3s r' p' hi' hr' hp' with ⟨_, h6⟩ | ⟨_, _, h6⟩
       ·exact h6
       ·exact h6.resolve_left (fun h => by
         obtain ⟨_, _, _, e⟩ := subOf_iff h
         exact hno _ _ _ _ e)
      refine ⟨fun v e t xs hv => h0.1 v e t xs (back _ (by intros; intro h; cases h) hv), fun o e t xs hv => h0.2 o e t xs (back _ (by intros; intro h; cases h) hv)⟩
  rw [hme3] at H3
  exact hK w2 ρ2 fp3 H3 hst hv
 ·exact h.elim
theorem go_callB {f : FuncId} {xs : Array Operand} {ats : Array TypeId} (hE : EntsOk P C.fuel C.Γ) (H : Mem w ok live w1 ρ fp me) (hb : ∀ i, b ≤ i → i < b + step → ¬ live i) (ho : o.op = .call { callee := .value (.func f), args := xs, argTypes := ats }) (E : ∀ x ∈ xs.toList, ∀ v, ev s x = some v → a.eval x = v.val ρ ∧ v.In live ρ) (h : Out me (callB C s b f xs.toList) (v, us)) : Goes P w ok live b o a w1 ρ me v us := by
 unfold callB at h
 split at h
 ·split at h
  ·rename_i i hl
   obtain ⟨p, hp, h⟩ := h
   cases p with
   | sub r ver j path =>
    obtain ⟨p, hr, h⟩ := h
    cases p with
    | row v' e0 t zs =>
     obtain ⟨hv, h⟩ := bif_fail h
     have hv := Nat.eq_of_beq_eq_true hv
     subst hv
     exact go_lent hE H hb ho E hp hr h
    | _ => exact h.elim
   | _ => exact go_callF hE H hb ho E h
  ·exact go_callF hE H hb ho E h
 ·exact h.elim
end
end Go.Proofs.YthncjcfnpfajaaaA
