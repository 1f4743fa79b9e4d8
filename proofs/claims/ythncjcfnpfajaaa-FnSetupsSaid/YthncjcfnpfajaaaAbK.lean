/- Templates: the parts. Plain lemmas; no condition. -/
import Derived.Test.YthncjcfnpfajaaaAbJ
namespace Go.Proofs.YthncjcfnpfajaaaA
open Go Go.RowKit Go.Proofs.YthncjcfnpfajaaaW.PrintWords
set_option linter.unusedVariables false
set_option linter.unusedSimpArgs false
section
variable {α : Type} {me : Nat → Option Part} {v : α} {w w1 : World} {ok live : Nat → Prop} {ρ : Nat → Hd} {fp : Nat → Nat → Prop} {np nx : Nat} {a : Act} {s : Sl}
def rootO (z : Option Nat) (us : List Nat) : List Nat := match z with
 | some q => q :: us
 | none => us
/-- A row that is only read from here on. -/
theorem vwRow_out (H : Mem w ok live w1 ρ fp me) {o : Bool} {l : Leaf} {e : Nat} {t : Ty} {us : List Nat} {k : List (den t) → List Nat → Prg α} (hok : l.Ok ρ) (h : Out me (vwRow o l e t us k) v) :
  ∃ xs h z, Out me (k xs (rootO z us)) v ∧ l.val ρ = h.sl ∧ h.z = sz t ∧ h.n = xs.length ∧ xs.length ≤ h.c ∧ (∀ q, l = .own q → h = ρ q) ∧ (∀ q, z = some q → o = true ∧ q ∉ us) ∧ VC w1 (Seen w ok (fun k => ∃ q, z = some q ∧ fp q k)) t h.A xs := by
 have cutH : ∀ {i : Nat} {lo hi : Option Nat} {n size : Nat} {t' : Ty} {xs : List (den t')} {S : Nat → Prop}, (Leaf.cut i lo hi n size).Ok ρ → RdV w1 S (ρ i) t' xs → ∃ h : Hd, (Leaf.cut i lo hi n size).val ρ = h.sl ∧ h.z = sz t' ∧ h.n = (cutOf xs lo hi).length ∧ (cutOf xs lo hi).length ≤ h.c ∧ VC w1 S t' h.A (cutOf xs lo hi) := by
  intro i lo hi n size t' xs S hok hr
  obtain ⟨hz, h1, h2, h3⟩ := hr
  obtain ⟨hlh, hh, hn, hs⟩ := hok
  rw [h1] at hn hh hlh
  subst hs
  have hlen : n = (cutOf xs lo hi).length := by rw [cutOf_len, hn]; omega
  have hxs : (xs.take (hi.getD xs.length)).drop (lo.getD 0) = cutOf xs lo hi := by
   cases lo <;> cases hi <;> simp [cutOf]
  have hl : (xs.take (hi.getD xs.length)).length = hi.getD xs.length := by rw [List.length_take]; omega
  refine ⟨⟨0, cutA (ρ i).A (ρ i).c (lo.getD 0) (sz t'), n, cutC (ρ i).c (lo.getD 0), sz t'⟩, ?_, rfl, hlen, ?_, ?_⟩
  ·simp only [Leaf.val, Hd.sl, hz]
  ·rw [← hlen, hn]; simp only [cutC]; omega
  ·have hD := (VRow.take h3 (hi.getD xs.length)).drop (c := (ρ i).c) (lo.getD 0) (by omega)
   rw [hxs] at hD
   exact hD
 have own1 : ∀ (i : Nat) {t : Ty} {A : Option Addr} {xs : List (den t)}, VC w1 (Seen w ok (fp i)) t A xs → VC w1 (Seen w ok (fun k => ∃ q, some i = some q ∧ fp q k)) t A xs := fun i {t A xs} h => VC_imp h (fun k hk => hk.imp (fun h => ⟨i, rfl, h⟩) (fun h => h)) (fun _ _ => rfl)
 have non1 : ∀ (i : Nat) {t : Ty} {A : Option Addr} {xs : List (den t)}, (∀ k, ¬ fp i k) → VC w1 (Seen w ok (fp i)) t A xs → VC w1 (Seen w ok (fun k => ∃ q, none = some q ∧ fp q k)) t A xs := fun i {t A xs} hn h => VC_imp h (fun k hk => hk.imp (fun h => absurd h (hn k)) (fun h => h)) (fun _ _ => rfl)
 cases l with
 | own i =>
  obtain ⟨p, hp, h⟩ := h
  cases p with
  | blk => exact h.elim
  | row ver e' t' xs =>
   obtain ⟨hb, h1⟩ := bif_fail h
   obtain ⟨he, h2⟩ := castL_out h1
   clear h h1
   subst he
   simp only [Bool.and_eq_true, Bool.not_eq_true'] at hb
   obtain ⟨g0, g1, g2, g3⟩ := H.rowV hp
   exact ⟨xs, ρ i, some i, h2, rfl, g0, g1, g2, fun q hq => by (injection hq with hq; rw [hq]), fun q hq => by (injection hq with hq; subst hq; exact ⟨hb.1.1, fun hm => by rw [memb_iff.2 hm] at hb; cases hb.1.2⟩), own1 i g3⟩
  | view o' e' t' xs =>
   obtain ⟨hb, h1⟩ := bif_fail h
   obtain ⟨he, h2⟩ := castL_out h1
   clear h h1
   subst he
   simp only [Bool.and_eq_true, Bool.or_eq_true, Bool.not_eq_true'] at hb
   obtain ⟨g0, g1, g2, g3⟩ := H.viewV hp
   cases o' with
   | false => exact ⟨xs, ρ i, none, h2, rfl, g0, g1, g2, fun q hq => by (injection hq with hq; rw [hq]), (fun q hq => by cases hq), non1 i ((H.on i _ hp).2.2.2.1 rfl) g3⟩
   | true =>
    have hb' := hb.1.resolve_left (by decide)
    exact ⟨xs, ρ i, some i, h2, rfl, g0, g1, g2, fun q hq => by (injection hq with hq; rw [hq]), fun q hq => by (injection hq with hq; subst hq; exact ⟨hb'.1, fun hm => by rw [memb_iff.2 hm] at hb'; cases hb'.2⟩), own1 i g3⟩
  | sub r0 ver j path =>
   obtain ⟨p, hq, h⟩ := h
   have hon := H.on i _ hp
   cases p <;> first | exact h.elim | skip
   rename_i o' e' t' xs
   cases o' with
   | true => exact h.elim
   | false =>
    obtain ⟨e2, t2, ys, h1, g0, g1, g2, g3⟩ := sub_seen (H.viewV hq) (hon.2 _ _ _ _ hq) h
    obtain ⟨hb, h2⟩ := bif_fail h1
    obtain ⟨he, h3⟩ := castL_out h2
    clear h h1 h2
    subst he
    exact ⟨ys, ρ i, none, h3, rfl, g0, g1, g2, fun q hq => by (injection hq with hq; rw [hq]), (fun q hq => by cases hq), non1 r0 ((H.on r0 _ hq).2.2.2.1 rfl) g3⟩
 | cut i lo hi n size =>
  obtain ⟨p, hp, h'⟩ := h
  cases p with
  | blk => exact h'.elim
  | sub => exact h'.elim
  | row ver e' t' xs =>
   obtain ⟨hb, h1⟩ := bif_fail h'
   obtain ⟨he, h2⟩ := castL_out h1
   clear h' h1
   subst he
   simp only [Bool.and_eq_true, Bool.not_eq_true'] at hb
   obtain ⟨hd, g0, g1, g2, g3, g4⟩ := cutH hok (H.rowV hp)
   exact ⟨_, hd, some i, h2, g0, g1, g2, g3, (fun q hq => by cases hq), fun q hq => by (injection hq with hq; subst hq; exact ⟨hb.1.1, fun hm => by rw [memb_iff.2 hm] at hb; cases hb.1.2⟩), own1 i g4⟩
  | view o' e' t' xs =>
   obtain ⟨hb, h1⟩ := bif_fail h'
   obtain ⟨he, h2⟩ := castL_out h1
   clear h' h1
   subst he
   simp only [Bool.and_eq_true, Bool.or_eq_true, Bool.not_eq_true'] at hb
   obtain ⟨hd, g0, g1, g2, g3, g4⟩ := cutH hok (H.viewV hp)
   cases o' with
   | false => exact ⟨_, hd, none, h2, g0, g1, g2, g3, (fun q hq => by cases hq), (fun q hq => by cases hq), non1 i ((H.on i _ hp).2.2.2.1 rfl) g4⟩
   | true =>
    have hb' := hb.1.resolve_left (by decide)
    exact ⟨_, hd, some i, h2, g0, g1, g2, g3, (fun q hq => by cases hq), fun q hq => by (injection hq with hq; subst hq; exact ⟨hb'.1, fun hm => by rw [memb_iff.2 hm] at hb'; cases hb'.2⟩), own1 i g4⟩
 | nil => exact ⟨[], ⟨0, none, 0, 0, sz t⟩, none, h, rfl, rfl, rfl, Nat.le_refl _, (fun q hq => by cases hq), (fun q hq => by cases hq), ⟨Nat.zero_le _, fun h => absurd h (Nat.lt_irrefl _)⟩⟩
 | _ => exact h.elim
/-- A row's or a view's kind, at its number. -/
def ZAt (q : List (Nat × PS)) (id : Nat) (t : Ty) : Prop := (∃ e, (id, PS.row e t) ∈ q) ∨ ∃ o e, (id, PS.view o e t) ∈ q
/-- What is wanted of the new heads, the new places. -/
structure New (np : Nat) (θ : Th) (q : List (Nat × PS)) (tks : List (Nat × Nat)) (ρ ρ' : Nat → Hd) (fp fp' : Nat → Nat → Prop) : Prop where
 agr : Agr np θ ρ ρ'
 z : ∀ id t l, ZAt q id t → np ≤ id → get θ id = some l → (∀ r, l ≠ .own r) → (ρ' id).z = sz t
 fp : ∀ i r, (i, r) ∈ tks → ∀ k, fp r k → fp' i k
 no : ∀ i, i ∈ keys q → (∀ r, (i, r) ∉ tks) → ∀ k, ¬ fp' i k
theorem th_head {θ : Th} {id : Nat} {l : Leaf} {ρ' : Nat → Hd} (A : Agr np θ ρ ρ') (h : thOf np θ id = some l) : l.val ρ = (ρ' id).sl ∧ ∀ q, l = .own q → ρ' id = ρ q := by
 unfold thOf at h
 cases hb : Nat.blt id np with
 | true =>
  rw [hb] at h
  injection h with h
  subst h
  have e := A.low id (nth_np hb)
  exact ⟨by rw [e]; rfl, fun q hq => by injection hq with hq; subst hq; exact e⟩
 | false =>
  rw [hb] at h
  exact A.up id l (nth_le hb) h
theorem th_in {θ : Th} {id : Nat} {l : Leaf} (hnp : ∀ i, i < np → live i) (hT : ThIn live ρ θ) (h : thOf np θ id = some l) : l.In live ρ ∧ l.isRow := by
 unfold thOf at h
 cases hb : Nat.blt id np with
 | true =>
  rw [hb] at h
  injection h with h
  subst h
  exact ⟨⟨fun i hi => by injection hi with hi; subst hi; exact hnp _ (nth_np hb), trivial⟩, trivial⟩
 | false =>
  rw [hb] at h
  exact hT id l h
theorem th_z {θ : Th} {id : Nat} {l : Leaf} {t : Ty} {q : List (Nat × PS)} {tks : List (Nat × Nat)} {ρ' : Nat → Hd} {fp' : Nat → Nat → Prop} {hd : Hd} {θ' : Th} (N : New np θ' q tks ρ ρ' fp fp') (hle : ThLe θ θ') (h : thOf np θ id = some l) (hz : ZAt q id t) (h1 : hd.z = sz t) (h2 : ∀ r, l = .own r → hd = ρ r) : (ρ' id).z = sz t := by
 by_cases hl : ∃ r, l = .own r
 ·obtain ⟨r, rfl⟩ := hl
  rw [(th_head (N.agr.le hle) h).2 r rfl, ← h2 r rfl, h1]
 ·unfold thOf at h
  cases hb : Nat.blt id np with
  | true =>
   rw [hb] at h
   injection h with h
   exact absurd ⟨_, h.symm⟩ hl
  | false =>
   rw [hb] at h
   exact N.z id t l hz (nth_le hb) (hle id l h) (fun r hr => hl ⟨r, hr⟩)
theorem New.tail {θ' : Th} {x : Nat × PS} {q : List (Nat × PS)} {z tks : List (Nat × Nat)} {ρ' : Nat → Hd} {fp' : Nat → Nat → Prop} (N : New np θ' (x :: q) (z ++ tks) ρ ρ' fp fp') (hz : ∀ i r, (i, r) ∈ z → i = x.1) (hx : x.1 ∉ keys q) : New np θ' q tks ρ ρ' fp fp' :=
 ⟨N.agr, fun id t l h => N.z id t l (h.imp (fun ⟨e, h⟩ => ⟨e, List.mem_cons_of_mem _ h⟩) (fun ⟨o, e, h⟩ => ⟨o, e, List.mem_cons_of_mem _ h⟩)), fun i r h => N.fp i r (List.mem_append_right _ h), fun i hi h => N.no i (by obtain ⟨k, p⟩ := x; exact List.mem_cons_of_mem _ hi) (fun r hr => (List.mem_append.1 hr).elim (fun h1 => hx (by rw [← hz i r h1]; exact hi)) (h r))⟩
/-- What the new parts are. -/
def Tells (w : World) (ok : Nat → Prop) (w1 : World) (nx : Nat) (ρ' : Nat → Hd) (fp' : Nat → Nat → Prop) (m : Me) : Prop := ∀ mec i p, get m i = some p → ∃ p', p = some p' ∧ i < nx ∧ p'.In (fun i => i < nx) ρ' ∧ On w ok w1 ρ' mec i (fp' i) p'
theorem Tells.cons {id : Nat} {p : Part} {m : Me} {ρ' : Nat → Hd} {fp' : Nat → Nat → Prop} (h0 : id < nx) (h1 : p.In (fun i => i < nx) ρ') (h2 : ∀ mec, On w ok w1 ρ' mec id (fp' id) p) (h : Tells w ok w1 nx ρ' fp' m) : Tells w ok w1 nx ρ' fp' ((id, some p) :: m) := by
 intro mec i p' hp
 rw [get_cons] at hp
 by_cases hi : i = id
 ·rw [if_pos hi] at hp
  injection hp with hp
  subst hp; subst hi
  exact ⟨p, rfl, h0, h1, h2 mec⟩
 ·rw [if_neg hi] at hp
  exact h mec i p' hp
theorem partsOut_out (H : Mem w ok live w1 ρ fp me) (hnp : ∀ i, i < np → live i) : ∀ (q : List (Nat × PS)) {θ : Th} {us : List Nat} {K : partsX q → Prg α}, partsWf nx q = true → ThIn live ρ θ → Out me (partsOut np q θ us K) v →
  ∃ x θ' tks, Out me (K x) v ∧ ThLe θ θ' ∧ ThIn live ρ θ' ∧ (tks.map (·.2)).Nodup ∧ (∀ r ∈ tks.map (·.2), r ∉ us) ∧ (∀ i r, (i, r) ∈ tks → i ∈ keys q) ∧ ∀ ρ' fp', New np θ' q tks ρ ρ' fp fp' → Tells w ok w1 nx ρ' fp' (partsInF q x) := by
 intro q
 induction q with
 | nil =>
  intro θ us K hw hT h
  exact ⟨(), θ, [], h, ThLe.refl θ, hT, by simp, (fun r h => by cases h), (fun i r h => by cases h), fun ρ' fp' N mec i p hp => by cases hp⟩
 | cons x q ih =>
  obtain ⟨id, p⟩ := x
  intro θ us K hw hT h
  simp only [partsWf, Bool.and_eq_true, Bool.not_eq_true'] at hw
  obtain ⟨⟨⟨hid, hnk⟩, hwp⟩, hw⟩ := hw
  have hid := nth_np hid
  have hnk : id ∉ keys q := fun hm => by rw [memb_iff.2 hm] at hnk; cases hnk
  -- one root, or none
  have glue : ∀ (z : Option Nat) (tks : List (Nat × Nat)), (∀ r, z = some r → r ∉ us) → (tks.map (·.2)).Nodup → (∀ r ∈ tks.map (·.2), r ∉ rootO z us) → (∀ i r, (i, r) ∈ tks → i ∈ keys q) →
    (((z.toList.map fun r => (id, r)) ++ tks).map (·.2)).Nodup ∧ (∀ r ∈ ((z.toList.map fun r => (id, r)) ++ tks).map (·.2), r ∉ us) ∧ (∀ i r, (i, r) ∈ (z.toList.map fun r => (id, r)) ++ tks → i ∈ keys ((id, p) :: q)) := by
   intro z tks h1 h2 h3 h4
   cases z with
   | none =>
    simp only [Option.toList, List.map_nil, List.nil_append]
    exact ⟨h2, h3, fun i r h => List.mem_cons_of_mem _ (h4 i r h)⟩
   | some z =>
    simp only [Option.toList, List.map_cons, List.map_nil, List.cons_append, List.nil_append, List.nodup_cons, List.mem_cons]
    refine ⟨⟨fun hm => (h3 z hm) (by simp [rootO]), h2⟩, fun r hr => ?_, fun i r hr => ?_⟩
    ·rcases hr with rfl | hr
     ·exact h1 _ rfl
     ·exact fun hu => h3 r hr (by simp [rootO, hu])
    ·rcases hr with hr | hr
     ·injection hr with hr _
      rw [hr]; simp [keys]
     ·exact List.mem_cons_of_mem _ (h4 i r hr)
  have onlyId : ∀ (z : Option Nat) i r, (i, r) ∈ (z.toList.map fun r => (id, r)) → i = id := fun z i r h => by
   obtain ⟨a, _, h⟩ := List.mem_map.1 h
   injection h with h _
   exact h.symm
  cases p with
  | row e t =>
   simp only [partsOut] at h
   split at h
   ·rename_i l hl
    obtain ⟨hli, _⟩ := th_in hnp hT hl
    obtain ⟨xs, us', hd, h, e1, e2, e3, e4, e5, e6⟩ := tkRow_H H hli.ok h
    obtain ⟨y, θ', tks, h, k1, k2, k3, k4, k5, k6⟩ := ih hw hT h
    have e6' : us' = rootO (rootH l) us := by rw [e6]; rfl
    rw [e6'] at k4
    obtain ⟨g1, g2, g3⟩ := glue (rootH l) tks (fun r hr => (e4 r hr).1) k3 k4 k5
    refine ⟨_, θ', _, h, k1, k2, g1, g2, g3, fun ρ' fp' N => ?_⟩
    refine Tells.cons hid trivial (fun mec => ?_) (k6 ρ' fp' (N.tail (onlyId _) hnk))
    refine ⟨th_z N k1 hl (.inl ⟨e, by simp⟩) e2 e3, ?_⟩
    rw [← (th_head (N.agr.le k1) hl).1, e1]
    exact R_imp e5 (fun k ⟨r, hr, hk⟩ => N.fp id r (List.mem_append_left _ (by rw [hr]; simp)) k hk) (fun _ _ => rfl)
   ·exact h.elim
  | view o e t =>
   simp only [partsOut] at h
   split at h
   ·rename_i l hl
    obtain ⟨hli, _⟩ := th_in hnp hT hl
    obtain ⟨xs, hd, z, h, e1, e2, e3, e4, e5, e6, e7⟩ := vwRow_out H hli.ok h
    obtain ⟨y, θ', tks, h, k1, k2, k3, k4, k5, k6⟩ := ih hw hT h
    obtain ⟨g1, g2, g3⟩ := glue z tks (fun r hr => (e6 r hr).2) k3 k4 k5
    refine ⟨_, θ', _, h, k1, k2, g1, g2, g3, fun ρ' fp' N => ?_⟩
    refine Tells.cons hid trivial (fun mec => ?_) (k6 ρ' fp' (N.tail (onlyId _) hnk))
    have hsl : hd.sl = (ρ' id).sl := e1.symm.trans (th_head (N.agr.le k1) hl).1
    unfold Hd.sl at hsl
    injection hsl with a1 a2 a3
    refine ⟨th_z N k1 hl (.inr ⟨o, e, by simp⟩) e2 e5, by rw [← a2, e3], by rw [← a3]; exact e4, fun ho k hk => ?_, ?_⟩
    ·refine N.no id (by simp [keys]) (fun r hr => ?_) k hk
     rcases List.mem_append.1 hr with hr | hr
     ·obtain ⟨a, ha, _⟩ := List.mem_map.1 hr
      have := (e6 a (by simpa using ha)).1
      rw [ho] at this
      cases this
     ·exact hnk (k5 id r hr)
    ·rw [← a1]
     exact VC_imp e7 (fun k hk => hk.imp (fun ⟨r, hr, hk⟩ => N.fp id r (List.mem_append_left _ (by rw [hr]; simp)) k hk) (fun h => h)) (fun _ _ => rfl)
   ·exact h.elim
  | blk T ls =>
   simp only [partsOut] at h
   split at h
   ·rename_i r hl
    rcases bif_out h with ⟨_, h⟩ | ⟨hm, h⟩
    ·exact h.elim
    have hni : r ∉ us := fun hi => by rw [memb_iff.2 hi] at hm; cases hm
    obtain ⟨p, hp, h⟩ := h
    cases p <;> first | exact h.elim | skip
    rename_i T' cs
    obtain ⟨hTT, h⟩ := bif_fail h
    have hTT := Nat.eq_of_beq_eq_true hTT
    subst hTT
    obtain ⟨_, hcs⟩ := H.lin r _ hp
    obtain ⟨hg, hblk⟩ := H.on r _ hp
    obtain ⟨f, θ1, h, j1, j2, j3⟩ := lsOut_out ls cs hwp hcs h
    obtain ⟨y, θ', tks, h, k1, k2, k3, k4, k5, k6⟩ := ih hw (j2 hT) h
    obtain ⟨g1, g2, g3⟩ := glue (some r) tks (fun r' hr => by injection hr with hr; subst hr; exact hni) k3 k4 k5
    refine ⟨_, θ', _, h, j1.trans k1, k2, g1, g2, g3, fun ρ' fp' N => ?_⟩
    obtain ⟨i1, i2⟩ := j3 y
    obtain ⟨i3, i4⟩ := i2 ρ' (N.agr.le k1)
    simp only [partsInF, i1]
    refine Tells.cons hid i4 (fun mec => ?_) (k6 ρ' fp' (N.tail (onlyId _) hnk))
    have e := (th_head (N.agr.le (j1.trans k1)) hl).2 r rfl
    show fp' id (ρ' id).g ∧ w1.heap[(ρ' id).g]? = _
    rw [e, i3]
    exact ⟨N.fp id r (by simp) _ hg, hblk⟩
   ·exact h.elim
/-- The kind at a number. -/
def zOf : List (Nat × PS) → Nat → Nat
 | [], _ => 0
 | (i, p) :: q, id => if id = i then (match p with | .row _ t => sz t | .view _ _ t => sz t | .blk _ _ => 0) else zOf q id
theorem mem_keys {β : Type _} {q : List (Nat × β)} {i : Nat} {p : β} (h : (i, p) ∈ q) : i ∈ keys q := by
 induction q with
 | nil => cases h
 | cons x q ih =>
  obtain ⟨k, u⟩ := x
  rcases List.mem_cons.1 h with h | h
  ·injection h with h _; simp [keys, h]
  ·exact List.mem_cons_of_mem _ (ih h)
theorem zOf_at : ∀ {q : List (Nat × PS)} {id : Nat} {t : Ty}, partsWf nx q = true → ZAt q id t → zOf q id = sz t
 | [], _, _, _, h => by rcases h with ⟨_, h⟩ | ⟨_, _, h⟩ <;> cases h
 | (i, p) :: q, id, t, hw, h => by
  simp only [partsWf, Bool.and_eq_true, Bool.not_eq_true'] at hw
  obtain ⟨⟨⟨_, hnk⟩, _⟩, hw⟩ := hw
  have hnk : i ∉ keys q := fun hm => by rw [memb_iff.2 hm] at hnk; cases hnk
  unfold zOf
  by_cases hi : id = i
  ·subst hi
   rw [if_pos rfl]
   rcases h with ⟨e, h⟩ | ⟨o, e, h⟩
   ·rcases List.mem_cons.1 h with h | h
    ·injection h with _ h; subst h; rfl
    ·exact absurd (mem_keys h) hnk
   ·rcases List.mem_cons.1 h with h | h
    ·injection h with _ h; subst h; rfl
    ·exact absurd (mem_keys h) hnk
  ·rw [if_neg hi]
   refine zOf_at hw (h.imp (fun ⟨e, h⟩ => ⟨e, ?_⟩) (fun ⟨o, e, h⟩ => ⟨o, e, ?_⟩))
   ·exact (List.mem_cons.1 h).resolve_left (fun h => hi (by injection h))
   ·exact (List.mem_cons.1 h).resolve_left (fun h => hi (by injection h))
end
theorem nodup_snd : ∀ {l : List (Nat × Nat)} {i j r : Nat}, (l.map (·.2)).Nodup → (i, r) ∈ l → (j, r) ∈ l → i = j
 | x :: l, i, j, r, hn, hi, hj => by
  rw [List.map_cons, List.nodup_cons] at hn
  rcases List.mem_cons.1 hi with hi | hi
  ·rcases List.mem_cons.1 hj with hj | hj
   ·rw [← hj] at hi; injection hi
   ·exact absurd (List.mem_map.2 ⟨_, hj, by rw [← hi]⟩) hn.1
  ·rcases List.mem_cons.1 hj with hj | hj
   ·exact absurd (List.mem_map.2 ⟨_, hi, by rw [← hj]⟩) hn.1
   ·exact nodup_snd hn.2 hi hj
/-- A TEMPLATE. -/
theorem shape_ok {C : Ctx} {w : World} {ok : Nat → Prop} {np : Nat} {ρ0 : Nat → Hd} {S : Shape} {s : Sl} {m : Me} {b : Nat} {a : Act} {w1 : World} {x : S.X} (hw : S.wf np = true) (hR : Rel C w ok np ρ0 s m b a w1) (h : Out (getm m) (S.out np s) x) : Rel C w ok np ρ0 (S.slF x) (S.meF x) S.nx a w1 := by
 obtain ⟨ρ, fp, H, hnp, hρ, hs, hN, hdf⟩ := hR
 simp only [Shape.wf, Bool.and_eq_true] at hw
 obtain ⟨⟨hnx, hws⟩, hwp⟩ := hw
 have hnx := Nat.le_of_ble_eq_true hnx
 unfold Shape.out at h
 obtain ⟨f, θ1, h, h1, h2, h3⟩ := slotsOut_out (nx := S.nx) hs S.slots hws h
 have hT0 : ThIn (fun i => i < b) ρ [] := fun id l h => by cases h
 obtain ⟨y, θ', tks, h, k1, k2, k3, k4, k5, k6⟩ := partsOut_out (nx := S.nx) H (fun i hi => by omega) S.parts hwp (h2 hT0) h
 have hx : f y = x := h
 obtain ⟨e1, e2⟩ := h3 y
 obtain ⟨ρ', hρ'⟩ : ∃ ρ' : Nat → Hd, ∀ id, ρ' id = if id < np then ρ id else (match get θ' id with
   | some (.own q) => ρ q
   | some l => (match l.val ρ with | .slice A n c => ⟨0, A, n, c, zOf S.parts id⟩ | _ => noHd)
   | none => noHd) := ⟨_, fun _ => rfl⟩
 have A : Agr np θ' ρ ρ' := by
  refine ⟨fun id hi => by rw [hρ', if_pos hi], fun id l hi hl => ?_⟩
  have hr := (k2 id l hl).2
  rw [hρ', if_neg (by omega), hl]
  cases l <;> first | exact hr.elim | skip
  ·exact ⟨rfl, fun q hq => by injection hq with hq; rw [hq]⟩
  ·exact ⟨rfl, fun q hq => by cases hq⟩
  ·exact ⟨rfl, fun q hq => by cases hq⟩
 have N : New np θ' S.parts tks ρ ρ' fp (fun i k => ∃ r, (i, r) ∈ tks ∧ fp r k) := by
  refine ⟨A, fun id t l hz hi hg hn => ?_, fun i r h k hk => ⟨r, h, hk⟩, fun i _ h k ⟨r, hr, _⟩ => h r hr⟩
  -- a head that is made for the template bears the template's size
  rw [← zOf_at hwp hz]
  have hr := (k2 id l hg).2
  rw [hρ', if_neg (by omega), hg]
  cases l <;> first | exact hr.elim | skip
  ·exact absurd rfl (hn _)
  ·rfl
  ·rfl
 have T := k6 ρ' _ N
 subst hx
 have hme : S.meF (f y) = partsInF S.parts y := by unfold Shape.meF; rw [e1]
 have hsl : S.slF (f y) = (slotsInF (r := partsX S.parts) S.slots (f y)).1 := rfl
 refine ⟨ρ', fun i k => ∃ r, (i, r) ∈ tks ∧ fp r k, ?_, hnx, fun i hi => by rw [A.low i hi]; exact hρ i hi, ?_, hN, hdf⟩
 ·rw [hme]
  refine ⟨H.os, H.tape, H.output, H.size, H.keep, H.up, fun i p hp => ?_, fun i k ⟨r, _, hk⟩ => H.fpk r k hk, fun i j k ⟨r, hr, hk⟩ ⟨r', hr', hk'⟩ => ?_, fun i p hp => ?_⟩
  ·obtain ⟨p', h1, h2, h3, _⟩ := T (fun _ => none) i _ (getm_get hp)
   injection h1 with h1
   subst h1
   exact ⟨h2, h3⟩
  ·have := H.dis r r' k hk hk'
   subst this
   exact nodup_snd k3 hr hr'
  ·obtain ⟨p', h1, _, _, h4⟩ := T (getm (partsInF S.parts y)) i _ (getm_get hp)
   injection h1 with h1
   subst h1
   exact h4
 ·rw [hsl]
  exact e2 ρ' (A.le k1)
end Go.Proofs.YthncjcfnpfajaaaA
