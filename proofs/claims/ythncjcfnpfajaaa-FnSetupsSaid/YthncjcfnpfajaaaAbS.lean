/- What each operation of the abstract machine says of the world: what is made anew. Plain lemmas; no condition. -/
import Derived.Test.YthncjcfnpfajaaaAbR
import Derived.Laws.Tables
import Derived.Great.BuildSlice
namespace Go.Proofs.YthncjcfnpfajaaaA
open Go Go.RowKit Go.Proofs.YthncjcfnpfajaaaW.PrintWords
set_option linter.unusedVariables false
set_option linter.unusedSimpArgs false

theorem memb_iff : ∀ {l : List Nat} {q : Nat}, memb l q = true ↔ q ∈ l
 | [], q => by simp [memb]
 | k :: r, q => by
  unfold memb
  cases h : Nat.beq k q with
  | true => have := Nat.eq_of_beq_eq_true h; simp [this]
  | false =>
   have : ¬ q = k := fun e => by subst e; simp at h
   simp [memb_iff (l := r), this]
theorem get_cons {α : Type} (k : Nat) (v : α) (r : List (Nat × α)) (q : Nat) : get ((k, v) :: r) q = if q = k then some v else get r q := by
 show (bif Nat.beq k q then some v else get r q) = _
 cases h : Nat.beq k q with
 | true => have := Nat.eq_of_beq_eq_true h; simp [this]
 | false =>
  have : ¬ q = k := fun e => by subst e; simp at h
  simp [this]
theorem get_gone : ∀ (us : List Nat) (q : Nat), get (gone us) q = if q ∈ us then some none else none
 | [], q => by simp [gone, get]
 | u :: us, q => by
  rw [gone, get_cons, get_gone us q]
  by_cases h : q = u <;> simp [h]
theorem upd_cons (k : Nat) (p : Option Part) (us : Me) (me : Nat → Option Part) (i : Nat) : upd ((k, p) :: us) me i = if i = k then p else upd us me i := by
 unfold upd
 rw [get_cons]
 by_cases h : i = k <;> simp [h]
theorem upd_gone (us : List Nat) (me : Nat → Option Part) (i : Nat) : upd (gone us) me i = if i ∈ us then none else me i := by
 unfold upd
 rw [get_gone]
 by_cases h : i ∈ us <;> simp [h]
theorem get_append {α : Type} : ∀ (l m : List (Nat × α)) (q : Nat), get (l ++ m) q = match get l q with | some v => some v | none => get m q
 | [], m, q => rfl
 | (k, v) :: l, m, q => by
  rw [List.cons_append, get_cons, get_cons, get_append l m q]
  by_cases h : q = k <;> simp [h]
theorem upd_append (us us' : Me) (me : Nat → Option Part) : upd (us ++ us') me = upd us (upd us' me) := by
 funext i
 unfold upd
 rw [get_append]
 cases get us i <;> rfl

section
variable {α : Type} {me : Nat → Option Part} {r : α} {w w1 w2 : World} {ok live : Nat → Prop} {ρ : Nat → Hd} {fp : Nat → Nat → Prop} {b : Nat}
/-- The rows that are given away: new ones, none twice. -/
def Took (me : Nat → Option Part) (us us' new : List Nat) : Prop := us' = new ++ us ∧ new.Nodup ∧ ∀ i ∈ new, i ∉ us ∧ ∃ v e t xs, me i = some (.row v e t xs)
def fpOf (fp : Nat → Nat → Prop) (new : List Nat) (k : Nat) : Prop := ∃ i ∈ new, fp i k
theorem Took.nil (us : List Nat) : Took me us us [] := ⟨rfl, List.nodup_nil, fun _ h => by cases h⟩
theorem Took.trans {us us' us'' a b : List Nat} (h : Took me us us' a) (h' : Took me us' us'' b) : Took me us us'' (b ++ a) := by
 obtain ⟨h1, h2, h3⟩ := h
 obtain ⟨h4, h5, h6⟩ := h'
 subst h1; subst h4
 refine ⟨by rw [List.append_assoc], List.nodup_append.2 ⟨h5, h2, fun x hx y hy e => ?_⟩, fun i hi => ?_⟩
 ·subst e
  exact (h6 x hx).1 (List.mem_append_left _ hy)
 ·rcases List.mem_append.1 hi with hi | hi
  ·exact ⟨fun h => (h6 i hi).1 (List.mem_append_right _ h), (h6 i hi).2⟩
  ·exact h3 i hi
theorem fp_apart (H : Mem w ok live w1 ρ fp me) {a c : List Nat} (h : ∀ i ∈ a, i ∉ c) : Sub2 (fpOf fp c) (fpOf fp a) (fpOf fp (a ++ c)) :=
 ⟨fun k ⟨i, hi, hk⟩ => ⟨i, List.mem_append_right _ hi, hk⟩, fun k ⟨i, hi, hk⟩ => ⟨i, List.mem_append_left _ hi, hk⟩, fun k ⟨i, hi, hk⟩ ⟨j, hj, hk'⟩ => h j hj (H.dis i j k hk hk' ▸ hi)⟩
theorem tkRow_out (H : Mem w ok live w1 ρ fp me) {l : Leaf} {e : Nat} {t : Ty} {us : List Nat} {k : List (den t) → List Nat → Prg α} (hok : l.Ok ρ) (h : Out me (tkRow l e t us k) r) :
  ∃ xs us' new, Out me (k xs us') r ∧ Took me us us' new ∧ R w1 e t (fpOf fp new) (l.val ρ) xs := by
 cases l with
 | own i =>
  rcases bif_out h with ⟨_, h⟩ | ⟨hm, h⟩
  ·exact h.elim
  obtain ⟨p, hp, h⟩ := h
  cases p <;> first | exact h.elim | skip
  rename_i ver e' t' xs
  obtain ⟨he', h1⟩ := bif_fail h
  obtain ⟨he, h2⟩ := castL_out h1
  clear h h1
  subst he
  have he' := Nat.eq_of_beq_eq_true he'
  subst he'
  have hni : i ∉ us := fun hi => by rw [memb_iff.2 hi] at hm; cases hm
  refine ⟨xs, i :: us, [i], h2, ⟨rfl, by simp, fun j hj => ?_⟩, R_imp (H.on i _ hp).2 (fun k hk => ⟨i, by simp, hk⟩) (fun _ _ => rfl)⟩
  obtain rfl := List.mem_singleton.1 hj
  exact ⟨hni, _, _, _, _, hp⟩
 | cut i lo hi n size =>
  rcases bif_out h with ⟨_, h'⟩ | ⟨hm, h'⟩
  ·exact h'.elim
  clear h
  obtain ⟨p, hp, h'⟩ := h'
  cases p <;> first | exact h'.elim | skip
  rename_i ver e' t' xs
  obtain ⟨he', h1⟩ := bif_fail h'
  obtain ⟨he, h2⟩ := castL_out h1
  clear h' h1
  subst he
  have he' := Nat.eq_of_beq_eq_true he'
  subst he'
  have hni : i ∉ us := fun hi => by rw [memb_iff.2 hi] at hm; cases hm
  obtain ⟨hz, hR⟩ := H.on i _ hp
  obtain ⟨hlh, hh, hn, hs⟩ := hok
  have h1 : (ρ i).n = xs.length := (C_of_R hR).1
  subst hs
  have hxs : (xs.take (hi.getD (ρ i).n)).drop (lo.getD 0) = cutOf xs lo hi := by
   cases lo <;> cases hi <;> simp [cutOf, h1]
  refine ⟨cutOf xs lo hi, i :: us, [i], h2, ⟨rfl, by simp, fun j hj => ?_⟩, ?_⟩
  ·obtain rfl := List.mem_singleton.1 hj
   exact ⟨hni, _, _, _, _, hp⟩
  ·have hT := R_take (m := hi.getD (ρ i).n) hR (by omega)
   have hD := R_drop (m := lo.getD 0) hT (by rw [List.length_take]; omega)
   rw [hxs, ← hn, ← hz] at hD
   exact R_imp hD (fun k hk => ⟨i, by simp, hk⟩) (fun _ _ => rfl)
 | nil => exact ⟨[], us, [], h, Took.nil us, R_nil _ _ _ _⟩
 | _ => exact h.elim
theorem vals_cons (l : Leaf) (ls : List Leaf) : vals ρ (l :: ls) = l.val ρ :: vals ρ ls := rfl
theorem vals_append (l m : List Leaf) : vals ρ (l ++ m) = vals ρ l ++ vals ρ m := by simp [vals]
theorem gat_scalar {t : Ty} (ht : flat t = true) {ls : List Leaf} {K : den t → List Leaf → Prg α} (h : Out me (gat t ls K) r) : ∃ x pre rest, Out me (K x rest) r ∧ ls = pre ++ rest ∧ pre.length = sz t ∧ ∀ (W : World) (p : Nat → Prop) (ρ : Nat → Hd), M W t p x (vals ρ pre) := by
 induction t generalizing ls with
 | int k =>
  cases ls with
  | nil => exact h.elim
  | cons l rest =>
   cases l <;> first | exact h.elim | skip
   rename_i k' z
   simp only [gat] at h
   split at h
   ·rename_i hk hd
    subst hk
    exact ⟨z, [.int k' z], rest, h, rfl, rfl, fun _ _ _ => rfl⟩
   ·exact h.elim
 | bool =>
  cases ls with
  | nil => exact h.elim
  | cons l rest =>
   cases l <;> first | exact h.elim | skip
   ·exact ⟨_, [.bool _], rest, h, rfl, rfl, fun _ _ _ => rfl⟩
   ·exact ⟨_, [.lit _], rest, h, rfl, rfl, fun _ _ _ => rfl⟩
   ·exact ⟨_, [.prop _ _], rest, h, rfl, rfl, fun _ _ _ => rfl⟩
 | str =>
  cases ls with
  | nil => exact h.elim
  | cons l rest =>
   cases l <;> first | exact h.elim | skip
   exact ⟨_, [.str _], rest, h, rfl, rfl, fun _ _ _ => rfl⟩
 | sl e t => cases ht
 | pair a b iha ihb =>
  have ht' : flat a = true ∧ flat b = true := by simpa [flat] using ht
  obtain ⟨x, p1, r1, h, e1, l1, m1⟩ := iha ht'.1 h
  obtain ⟨y, p2, r2, h, e2, l2, m2⟩ := ihb ht'.2 h
  refine ⟨(x, y), p1 ++ p2, r2, h, by rw [e1, e2, List.append_assoc], by rw [List.length_append, l1, l2]; rfl, fun W p ρ => ?_⟩
  exact ⟨vals ρ p1, vals ρ p2, fun _ => False, fun _ => False, vals_append _ _, ⟨fun _ h => h.elim, fun _ h => h.elim, fun _ h _ => h⟩, m1 _ _ _, m2 _ _ _⟩
theorem tak_gat {t : Ty} (ht : ∀ e t', t ≠ .sl e t') (ht' : ∀ a b, t ≠ .pair a b) {ls : List Leaf} {us : List Nat} {K : den t → List Leaf → List Nat → Prg α} (h : Out me (tak t ls us K) r) : Out me (gat t ls fun x rest => K x rest us) r := by
 cases t with
 | int k =>
  cases ls with
  | nil => exact h
  | cons l rest =>
   cases l <;> exact h
 | bool =>
  cases ls with
  | nil => exact h
  | cons l rest => cases l <;> exact h
 | str =>
  cases ls with
  | nil => exact h
  | cons l rest => cases l <;> exact h
 | sl e t => exact absurd rfl (ht e t)
 | pair a b => exact absurd rfl (ht' a b)
/-- Leaves that are given away. -/
theorem tak_out (H : Mem w ok live w1 ρ fp me) : ∀ {t : Ty} {ls : List Leaf} {us : List Nat} {K : den t → List Leaf → List Nat → Prg α}, LsIn live ρ ls → Out me (tak t ls us K) r →
  ∃ x pre rest us' new, Out me (K x rest us') r ∧ ls = pre ++ rest ∧ pre.length = sz t ∧ Took me us us' new ∧ M w1 t (fpOf fp new) x (vals ρ pre) := by
 intro t
 induction t with
 | sl e t ih =>
  intro ls us K hl h
  cases ls with
  | nil => exact h.elim
  | cons l rest =>
   obtain ⟨xs, us', new, h, ht, hr⟩ := tkRow_out H (hl l (by simp)).ok h
   exact ⟨xs, [l], rest, us', new, h, rfl, rfl, ht, _, rfl, hr⟩
 | pair a b iha ihb =>
  intro ls us K hl h
  obtain ⟨x, p1, r1, us1, n1, h, e1, l1, t1, m1⟩ := iha hl h
  obtain ⟨y, p2, r2, us2, n2, h, e2, l2, t2, m2⟩ := ihb (fun l hm => hl l (by rw [e1]; exact List.mem_append_right _ hm)) h
  have hap : ∀ i ∈ n2, i ∉ n1 := fun i hi h1 => (t2.2.2 i hi).1 (by rw [t1.1]; exact List.mem_append_left _ h1)
  refine ⟨(x, y), p1 ++ p2, r2, us2, n2 ++ n1, h, by rw [e1, e2, List.append_assoc], by rw [List.length_append, l1, l2]; rfl, t1.trans t2, ?_⟩
  exact ⟨vals ρ p1, vals ρ p2, fpOf fp n1, fpOf fp n2, vals_append _ _, fp_apart H hap, m1, m2⟩
 | _ =>
  intro ls us K hl h
  obtain ⟨x, pre, rest, h, e1, l1, m1⟩ := gat_scalar rfl (tak_gat (fun _ _ h => by cases h) (fun _ _ h => by cases h) h)
  exact ⟨x, pre, rest, us, [], h, e1, l1, Took.nil us, m1 _ _ _⟩

/-- Rows that are given away go into a new part. -/
theorem mem_give (H : Mem w ok live w1 ρ fp me) (hb : ∀ i, b ≤ i → i < b + step → ¬ live i) (us : List Nat) (hus : ∀ i ∈ us, ∃ v e t xs, me i = some (.row v e t xs)) (p : Part) (h : Hd) (q : Nat → Prop) (hos : w2.os = w1.os) (htape : w2.tape = w1.tape) (hout : w2.output = w1.output) (hsz : w1.heap.size ≤ w2.heap.size)
  (hblk : ∀ k, k < w1.heap.size → (∀ i ∈ us, ¬ fp i k) → w2.heap[k]? = w1.heap[k]?) (hq : ∀ k, q k → fpOf fp us k ∨ (w1.heap.size ≤ k ∧ k < w2.heap.size))
  (hp : p.In live ρ) (hns : ∀ r v j pa, p ≠ .sub r v j pa) (hon : ∀ ρ' me', ρ' b = h → (∀ i, live i → ρ' i = ρ i) → On w ok w2 ρ' me' b q p) :
  ∃ ρ' fp', Mem w ok (grow live b) w2 ρ' fp' (upd ((b, some p) :: gone us) me) ∧ (∀ i, live i → ρ' i = ρ i) ∧ ρ' b = h := by
 have hbl : ¬ live b := hb b (Nat.le_refl _) (by unfold step; omega)
 have hul : ∀ i ∈ us, live i := fun i hi => by
  obtain ⟨_, _, _, _, h⟩ := hus i hi
  exact (H.lin i _ h).1
 have hbu : b ∉ us := fun h => hbl (hul b h)
 have hρ : ∀ i, live i → (if i = b then h else ρ i) = ρ i := fun i hi => if_neg (fun (e : i = b) => hbl (e ▸ hi))
 refine ⟨fun i => if i = b then h else ρ i, fun i k => if i = b then q k else if i ∈ us then False else fp i k, ?_, hρ, if_pos rfl⟩
 refine H.step (fun i => i = b ∨ i ∈ us) hos htape hout hsz (fun k hk hn => hblk k hk (fun i hi => hn i (.inr hi))) (fun _ h => .inl h) hρ ?_ ?_ ?_ ?_ ?_ ?_ ?_
 ·intro i hi
  rw [upd_cons, upd_gone, if_neg (fun e => hi (.inl e)), if_neg (fun e => hi (.inr e))]
 ·intro i hi
  funext k
  rw [if_neg (fun e => hi (.inl e)), if_neg (fun e => hi (.inr e))]
 ·intro i p' hi hp'
  rw [upd_cons, upd_gone] at hp'
  by_cases hib : i = b
  ·rw [if_pos hib] at hp'
   injection hp' with hp'
   subst hp'
   refine ⟨.inr (by subst hib; unfold step; omega), ?_⟩
   exact hp.mono (fun _ h => .inl h) hρ
  ·rw [if_neg hib, if_pos (hi.resolve_left hib)] at hp'
   cases hp'
 ·intro i k hi hk
  by_cases hib : i = b
  ·simp only [if_pos hib] at hk
   rcases hq k hk with ⟨j, hj, hjk⟩ | hk'
   ·exact .inl ⟨j, .inr hj, hjk⟩
   ·exact .inr hk'
  ·simp only [if_neg hib, if_pos (hi.resolve_left hib)] at hk
 ·intro i j k hi hj h1 h2
  by_cases hib : i = b
  ·by_cases hjb : j = b
   ·rw [hib, hjb]
   ·simp only [if_neg hjb, if_pos (hj.resolve_left hjb)] at h2
  ·simp only [if_neg hib, if_pos (hi.resolve_left hib)] at h1
 ·intro r hr hlr
  have hrb : ¬ r = b := fun e => hbl (e ▸ hlr)
  have hn : upd ((b, some p) :: gone us) me r = none := by rw [upd_cons, upd_gone, if_neg hrb, if_pos (hr.resolve_left hrb)]
  exact ⟨fun _ _ _ _ h => by rw [hn] at h; (cases h), fun _ _ _ _ h => by rw [hn] at h; (cases h)⟩
 ·intro i p' hi hp'
  rw [upd_cons, upd_gone] at hp'
  by_cases hib : i = b
  ·rw [if_pos hib] at hp'
   injection hp' with hp'
   subst hp'
   subst hib
   have hfp : (fun k => if i = i then q k else if i ∈ us then False else fp i k) = q := by funext k; rw [if_pos rfl]
   rw [hfp]
   exact hon _ _ (if_pos rfl) hρ
  ·rw [if_neg hib, if_pos (hi.resolve_left hib)] at hp'
   cases hp'
end
end Go.Proofs.YthncjcfnpfajaaaA
