/- Templates: a state is told anew, in the template's numbers. Plain lemmas; no condition. -/
import Derived.Test.YthncjcfnpfajaaaAbI
namespace Go.Proofs.YthncjcfnpfajaaaA
open Go Go.RowKit Go.Proofs.YthncjcfnpfajaaaW.PrintWords
set_option linter.unusedVariables false
set_option linter.unusedSimpArgs false

def lsInF {r : Type} : (ls : List LS) → lsX ls r → List Leaf × r
 | [], x => ([], x)
 | .int k :: ls, x => (.int k x.1 :: (lsInF (r := r) ls x.2).1, (lsInF (r := r) ls x.2).2)
 | .bool :: ls, x => (.bool x.1 :: (lsInF (r := r) ls x.2).1, (lsInF (r := r) ls x.2).2)
 | .str :: ls, x => (.str x.1 :: (lsInF (r := r) ls x.2).1, (lsInF (r := r) ls x.2).2)
 | .nil :: ls, x => (.nil :: (lsInF (r := r) ls x).1, (lsInF (r := r) ls x).2)
 | .own id :: ls, x => (.own id :: (lsInF (r := r) ls x).1, (lsInF (r := r) ls x).2)
 | .ptr id j :: ls, x => (.ptr id j :: (lsInF (r := r) ls x).1, (lsInF (r := r) ls x).2)
 | .pel id j s :: ls, x => (.pel id x.1 j s :: (lsInF (r := r) ls x.2).1, (lsInF (r := r) ls x.2).2)
theorem lsIn_eq {r : Type} {R : Type _} : ∀ (ls : List LS) (x : lsX ls r) (K : List Leaf → r → R), lsIn ls x K = K (lsInF ls x).1 (lsInF ls x).2
 | [], _, _ => rfl
 | .int k :: ls, x, K => lsIn_eq (r := r) ls _ _
 | .bool :: ls, x, K => lsIn_eq (r := r) ls _ _
 | .str :: ls, x, K => lsIn_eq (r := r) ls _ _
 | .nil :: ls, x, K => lsIn_eq (r := r) ls _ _
 | .own id :: ls, x, K => lsIn_eq (r := r) ls _ _
 | .ptr id j :: ls, x, K => lsIn_eq (r := r) ls _ _
 | .pel id j s :: ls, x, K => lsIn_eq (r := r) ls _ _
def slotsInF {r : Type} : (q : List (Nat × Bool × List LS)) → slotsX q r → Sl × r
 | [], x => ([], x)
 | (t, st, ls) :: q, x =>
  let A := lsInF (r := slotsX q r) ls x
  let B := slotsInF (r := r) q A.2
  ((t, .c (CV.of st A.1)) :: B.1, B.2)
theorem slotsIn_eq {r : Type} {R : Type _} : ∀ (q : List (Nat × Bool × List LS)) (x : slotsX q r) (K : Sl → r → R), slotsIn q x K = K (slotsInF q x).1 (slotsInF q x).2
 | [], _, _ => rfl
 | (t, st, ls) :: q, x, K => by simp only [slotsIn, lsIn_eq, slotsInF]; exact slotsIn_eq (r := r) q _ _
def partsInF : (q : List (Nat × PS)) → partsX q → Me
 | [], _ => []
 | (id, .row e t) :: q, x => (id, some (.row 0 e t x.1)) :: partsInF q x.2
 | (id, .view o e t) :: q, x => (id, some (.view o e t x.1)) :: partsInF q x.2
 | (id, .blk T ls) :: q, x =>
  let A := lsInF (r := partsX q) ls x
  (id, some (.blk T A.1)) :: partsInF q A.2
theorem partsIn_eq {R : Type _} : ∀ (q : List (Nat × PS)) (x : partsX q) (K : Me → R), partsIn q x K = K (partsInF q x)
 | [], _, _ => rfl
 | (id, .row e t) :: q, x, K => partsIn_eq q _ _
 | (id, .view o e t) :: q, x, K => partsIn_eq q _ _
 | (id, .blk T ls) :: q, x, K => by simp only [partsIn, lsIn_eq, partsInF]; exact partsIn_eq q _ _
def Shape.slF (S : Shape) (x : S.X) : Sl := (slotsInF (r := partsX S.parts) S.slots x).1
def Shape.meF (S : Shape) (x : S.X) : Me := partsInF S.parts (slotsInF (r := partsX S.parts) S.slots x).2
theorem inj_eq {R : Type _} (S : Shape) (x : S.X) (K : Sl → Me → Nat → R) : S.inj x K = K (S.slF x) (S.meF x) S.nx := by
 simp only [Shape.inj, slotsIn_eq, partsIn_eq, Shape.slF, Shape.meF]

/-- What is known of a template's numbers. -/
def ThLe (θ θ' : Th) : Prop := ∀ id l, get θ id = some l → get θ' id = some l
theorem ThLe.refl (θ : Th) : ThLe θ θ := fun _ _ h => h
theorem ThLe.trans {a b c : Th} (h : ThLe a b) (h' : ThLe b c) : ThLe a c := fun id l hl => h' id l (h id l hl)
def Leaf.isRow : Leaf → Prop
 | .own _ => True
 | .cut _ _ _ _ _ => True
 | .nil => True
 | _ => False
def ThIn (live : Nat → Prop) (ρ : Nat → Hd) (θ : Th) : Prop := ∀ id l, get θ id = some l → l.In live ρ ∧ l.isRow
structure Agr (np : Nat) (θ : Th) (ρ ρ' : Nat → Hd) : Prop where
 low : ∀ id, id < np → ρ' id = ρ id
 up : ∀ id l, np ≤ id → get θ id = some l → l.val ρ = (ρ' id).sl ∧ ∀ q, l = .own q → ρ' id = ρ q
theorem Agr.le {np : Nat} {θ θ' : Th} {ρ ρ' : Nat → Hd} (h : Agr np θ' ρ ρ') (hle : ThLe θ θ') : Agr np θ ρ ρ' := ⟨h.low, fun id l hn hl => h.up id l hn (hle id l hl)⟩
section
variable {α : Type} {me : Nat → Option Part} {v : α} {w w1 : World} {ok live : Nat → Prop} {ρ : Nat → Hd} {fp : Nat → Nat → Prop} {np nx : Nat} {a : Act} {s : Sl}
theorem bindId_out {θ : Th} {id : Nat} {l : Leaf} {K : Th → Prg α} (hl : l.In live ρ) (hr : l.isRow) (h : Out me (bindId np θ id l K) v) : ∃ θ', Out me (K θ') v ∧ ThLe θ θ' ∧ (ThIn live ρ θ → ThIn live ρ θ') ∧ ∀ ρ', Agr np θ' ρ ρ' → l.val ρ = (ρ' id).sl ∧ ∀ q, l = .own q → ρ' id = ρ q := by
 unfold bindId at h
 rcases bif_out h with ⟨hlt, hA⟩ | ⟨hge, hB⟩
 ·have hlt := nth_np hlt
  clear h
  cases l <;> first | exact hA.elim | skip
  rename_i r
  have h := hA
  have h0 : Out me (bif Nat.beq r id then K θ else .fail) v := h
  obtain ⟨hb, h1⟩ := bif_fail h0
  have hb := Nat.eq_of_beq_eq_true hb
  subst hb
  exact ⟨θ, h1, ThLe.refl θ, fun h => h, fun ρ' A => ⟨by rw [A.low _ hlt]; rfl, fun q hq => by injection hq with hq; subst hq; exact A.low _ hlt⟩⟩
 ·have hge := nth_le hge
  replace h := hB
  clear hB
  split at h
  ·rename_i hg
   refine ⟨(id, l) :: θ, h, fun id' l' h' => ?_, fun hT id' l' h' => ?_, fun ρ' A => A.up id l hge (by rw [get_cons, if_pos rfl])⟩
   ·rw [get_cons, if_neg (fun e => by rw [e, hg] at h'; cases h')]
    exact h'
   ·rw [get_cons] at h'
    by_cases e : id' = id
    ·rw [if_pos e] at h'
     injection h' with h'
     subst h'
     exact ⟨hl, hr⟩
    ·rw [if_neg e] at h'
     exact hT id' l' h'
  ·rename_i l' hg
   cases l with
   | own r =>
    cases l' with
    | own r' =>
     have h0 : Out me (bif Nat.beq r r' then K θ else .fail) v := h
     obtain ⟨hb, h1⟩ := bif_fail h0
     have hb := Nat.eq_of_beq_eq_true hb
     subst hb
     exact ⟨θ, h1, ThLe.refl θ, fun h => h, fun ρ' A => A.up id _ hge hg⟩
    | _ => exact h.elim
   | nil =>
    cases l' with
    | nil => exact ⟨θ, h, ThLe.refl θ, fun h => h, fun ρ' A => A.up id _ hge hg⟩
    | _ => exact h.elim
   | _ => exact h.elim
/-- Cells. -/
theorem lsOut_out {r : Type} : ∀ (ls : List LS) (cs : List Leaf) {θ : Th} {K : (r → lsX ls r) → Th → Prg α}, lsWf nx ls = true → LsIn live ρ cs → Out me (lsOut np ls cs θ K) v →
  ∃ f θ', Out me (K f θ') v ∧ ThLe θ θ' ∧ (ThIn live ρ θ → ThIn live ρ θ') ∧ ∀ y, (lsInF ls (f y)).2 = y ∧ ∀ ρ', Agr np θ' ρ ρ' → vals ρ' (lsInF ls (f y)).1 = vals ρ cs ∧ LsIn (fun i => i < nx) ρ' (lsInF ls (f y)).1 := by
 intro ls
 induction ls with
 | nil =>
  intro cs θ K hw hc h
  cases cs with
  | nil => exact ⟨_, θ, h, ThLe.refl θ, fun h => h, fun y => ⟨rfl, fun ρ' _ => ⟨rfl, fun _ h => by cases h⟩⟩⟩
  | cons => exact h.elim
 | cons l ls ih =>
  intro cs θ K hw hc h
  cases cs with
  | nil => cases l <;> exact h.elim
  | cons c cs =>
   have hc0 := hc c (by simp)
   have hcs : LsIn live ρ cs := fun l hl => hc l (List.mem_cons_of_mem _ hl)
   have cons2 : ∀ {ρ' : Nat → Hd} {l' : Leaf} {ls' : List Leaf}, l'.val ρ' = c.val ρ → l'.In (fun i => i < nx) ρ' → vals ρ' ls' = vals ρ cs ∧ LsIn (fun i => i < nx) ρ' ls' → vals ρ' (l' :: ls') = vals ρ (c :: cs) ∧ LsIn (fun i => i < nx) ρ' (l' :: ls') := by
    intro ρ' l' ls' h1 h2 h3
    refine ⟨by rw [vals_cons, vals_cons, h1, h3.1], fun u hu => ?_⟩
    rcases List.mem_cons.1 hu with rfl | hu
    ·exact h2
    ·exact h3.2 u hu
   cases l with
   | int k =>
    cases c <;> first | exact h.elim | skip
    rename_i k' z
    simp only [lsOut] at h
    split at h
    ·rename_i hk _
     subst hk
     obtain ⟨f, θ', h, h1, h2, h3⟩ := ih cs hw hcs h
     exact ⟨_, θ', h, h1, h2, fun y => ⟨(h3 y).1, fun ρ' A => cons2 rfl (in_none rfl) ((h3 y).2 ρ' A)⟩⟩
    ·exact h.elim
   | bool =>
    cases c <;> first | exact h.elim | skip
    all_goals
     obtain ⟨f, θ', h, h1, h2, h3⟩ := ih cs hw hcs h
     exact ⟨_, θ', h, h1, h2, fun y => ⟨(h3 y).1, fun ρ' A => cons2 rfl (in_none rfl) ((h3 y).2 ρ' A)⟩⟩
   | str =>
    cases c <;> first | exact h.elim | skip
    obtain ⟨f, θ', h, h1, h2, h3⟩ := ih cs hw hcs h
    exact ⟨_, θ', h, h1, h2, fun y => ⟨(h3 y).1, fun ρ' A => cons2 rfl (in_none rfl) ((h3 y).2 ρ' A)⟩⟩
   | nil =>
    cases c <;> first | exact h.elim | skip
    obtain ⟨f, θ', h, h1, h2, h3⟩ := ih cs hw hcs h
    exact ⟨_, θ', h, h1, h2, fun y => ⟨(h3 y).1, fun ρ' A => cons2 rfl (in_none rfl) ((h3 y).2 ρ' A)⟩⟩
   | own id =>
    have hw' : Nat.blt id nx = true ∧ lsWf nx ls = true := by simpa only [lsWf, Bool.and_eq_true] using hw
    have go : ∀ {K : (r → lsX (.own id :: ls) r) → Th → Prg α}, c.isRow → Out me (bindId np θ id c fun θ => lsOut (r := r) np ls cs θ fun f θ => K (fun y => f y) θ) v →
      ∃ f θ', Out me (K f θ') v ∧ ThLe θ θ' ∧ (ThIn live ρ θ → ThIn live ρ θ') ∧ ∀ y, (lsInF (.own id :: ls) (f y)).2 = y ∧ ∀ ρ', Agr np θ' ρ ρ' → vals ρ' (lsInF (.own id :: ls) (f y)).1 = vals ρ (c :: cs) ∧ LsIn (fun i => i < nx) ρ' (lsInF (.own id :: ls) (f y)).1 := by
     intro K hr h
     obtain ⟨θ1, h, g1, g2, g3⟩ := bindId_out hc0 hr h
     obtain ⟨f, θ', h, h1, h2, h3⟩ := ih cs hw'.2 hcs h
     refine ⟨_, θ', h, g1.trans h1, fun hT => h2 (g2 hT), fun y => ⟨(h3 y).1, fun ρ' A => cons2 (l' := .own id) (g3 ρ' (A.le h1)).1.symm ⟨fun i hi => by (injection hi with hi; subst hi; exact nth_np hw'.1), trivial⟩ ((h3 y).2 ρ' A)⟩⟩
    cases c <;> first | exact h.elim | exact go trivial h
   | ptr id j =>
    have hw' : Nat.blt id nx = true ∧ lsWf nx ls = true := by simpa only [lsWf, Bool.and_eq_true] using hw
    cases c <;> first | exact h.elim | skip
    rename_i r' j'
    obtain ⟨hj, h⟩ := bif_fail h
    have hj := Nat.eq_of_beq_eq_true hj
    subst hj
    obtain ⟨θ1, h, g1, g2, g3⟩ := bindId_out (live := live) (ρ := ρ) (l := .own r') ⟨fun i hi => hc0.ref i hi, trivial⟩ trivial h
    obtain ⟨f, θ', h, h1, h2, h3⟩ := ih cs hw'.2 hcs h
    refine ⟨_, θ', h, g1.trans h1, fun hT => h2 (g2 hT), fun y => ⟨(h3 y).1, fun ρ' A => cons2 (l' := .ptr id j') ?_ ⟨fun i hi => by (injection hi with hi; subst hi; exact nth_np hw'.1), trivial⟩ ((h3 y).2 ρ' A)⟩⟩
    simp only [Leaf.val, (g3 ρ' (A.le h1)).2 r' rfl]
   | pel id j z =>
    have hw' : Nat.blt id nx = true ∧ lsWf nx ls = true := by simpa only [lsWf, Bool.and_eq_true] using hw
    cases c <;> first | exact h.elim | skip
    rename_i r' i j' z'
    obtain ⟨hj, h⟩ := bif_fail h
    simp only [Bool.and_eq_true] at hj
    have hj1 := Nat.eq_of_beq_eq_true hj.1
    have hj2 := Nat.eq_of_beq_eq_true hj.2
    subst hj1; subst hj2
    obtain ⟨θ1, h, g1, g2, g3⟩ := bindId_out (live := live) (ρ := ρ) (l := .own r') ⟨fun i hi => hc0.ref i hi, trivial⟩ trivial h
    obtain ⟨f, θ', h, h1, h2, h3⟩ := ih cs hw'.2 hcs h
    refine ⟨_, θ', h, g1.trans h1, fun hT => h2 (g2 hT), fun y => ⟨(h3 y).1, fun ρ' A => ?_⟩⟩
    have e := (g3 ρ' (A.le h1)).2 r' rfl
    refine cons2 (l' := .pel id i j' z') ?_ ⟨fun i hi => by (injection hi with hi; subst hi; exact nth_np hw'.1), ?_⟩ ((h3 y).2 ρ' A)
    ·simp only [Leaf.val, e]
    ·have := hc0.ok
     simp only [Leaf.Ok] at this ⊢
     rw [e]; exact this
/-- Slots. -/
theorem slotsOut_out {r : Type} (hs : SlOk s a ρ live) : ∀ (q : List (Nat × Bool × List LS)) {θ : Th} {K : (r → slotsX q r) → Th → Prg α}, slotsWf nx q = true → Out me (slotsOut np s q θ K) v →
  ∃ f θ', Out me (K f θ') v ∧ ThLe θ θ' ∧ (ThIn live ρ θ → ThIn live ρ θ') ∧ ∀ y, (slotsInF q (f y)).2 = y ∧ ∀ ρ', Agr np θ' ρ ρ' → SlOk (slotsInF q (f y)).1 a ρ' (fun i => i < nx) := by
 intro q
 induction q with
 | nil =>
  intro θ K hw h
  exact ⟨_, θ, h, ThLe.refl θ, fun h => h, fun y => ⟨rfl, fun ρ' _ q v hv => by cases hv⟩⟩
 | cons x q ih =>
  obtain ⟨t, st, ls⟩ := x
  intro θ K hw h
  have hw' : lsWf nx ls = true ∧ slotsWf nx q = true := by simpa only [slotsWf, Bool.and_eq_true] using hw
  have go : ∀ (c : CV), get s t = some (.c c) → c.isSt st = true → Out me (lsOut (r := slotsX q r) np ls c.leaves θ fun f θ => slotsOut np s q θ fun g θ => K (fun y => f (g y)) θ) v →
    ∃ f θ', Out me (K f θ') v ∧ ThLe θ θ' ∧ (ThIn live ρ θ → ThIn live ρ θ') ∧ ∀ y, (slotsInF ((t, st, ls) :: q) (f y)).2 = y ∧ ∀ ρ', Agr np θ' ρ ρ' → SlOk (slotsInF ((t, st, ls) :: q) (f y)).1 a ρ' (fun i => i < nx) := by
   intro c hc hst h
   obtain ⟨hv, hin⟩ := hs t _ hc
   obtain ⟨f, θ1, h, h1, h2, h3⟩ := lsOut_out ls c.leaves hw'.1 hin h
   obtain ⟨g, θ2, h, k1, k2, k3⟩ := ih hw'.2 h
   refine ⟨_, θ2, h, h1.trans k1, fun hT => k2 (h2 hT), fun y => ?_⟩
   obtain ⟨e1, e2⟩ := h3 (g y)
   simp only [slotsInF, e1]
   refine ⟨(k3 y).1, fun ρ' A q' u hu => ?_⟩
   rw [get_cons] at hu
   by_cases hq : q' = t
   ·rw [if_pos hq] at hu
    injection hu with hu
    subst hu; subst hq
    obtain ⟨e3, e4⟩ := e2 ρ' (A.le k1)
    refine ⟨hv.trans (of_val hst e3).symm, ?_⟩
    show LsIn _ _ (CV.of st _).leaves
    rw [of_leaves]
    exact e4
   ·rw [if_neg hq] at hu
    exact (k3 y).2 ρ' A q' u hu
  simp only [slotsOut] at h
  split at h
  ·rename_i cs hg
   obtain ⟨hst, h⟩ := bif_fail h
   exact go (.ag cs) hg hst h
  ·rename_i l hg
   rcases bif_out h with ⟨_, h⟩ | ⟨hst, h⟩
   ·exact h.elim
   ·exact go (.lf l) hg (by rw [hst]; rfl) h
  ·exact h.elim
end
end Go.Proofs.YthncjcfnpfajaaaA
