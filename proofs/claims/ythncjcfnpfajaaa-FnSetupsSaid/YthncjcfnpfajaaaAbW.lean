/- How the abstract machine's state stands to the world: each part in blocks of its own. Plain lemmas; no condition. -/
import Derived.Test.YthncjcfnpfajaaaAbM
namespace Go.Proofs.YthncjcfnpfajaaaA
open Go Go.RowKit Go.Proofs.YthncjcfnpfajaaaW.PrintWords
set_option linter.unusedVariables false
set_option linter.unusedSimpArgs false

/-- Where a part lies: a block; a row's address, length, room. -/
structure Hd where
 g : Nat
 A : Option Addr
 n : Nat
 c : Nat
 z : Nat
def Hd.sl (h : Hd) : Value := .slice h.A h.n h.c
def adr (A : Option Addr) : Addr := A.getD ⟨0, 0, none⟩
def fieldp (b : Addr) : Nat → Addr
 | 0 => b
 | j + 1 => ⟨b.block, b.off + (j + 1), none⟩
def Leaf.val (ρ : Nat → Hd) : Leaf → Value
 | .undef => Go.undef
 | .int k z => .int k z
 | .bool b => .bool b
 | .lit b => .bool b
 | .prop p d => .bool (@decide p d)
 | .str s => .string s
 | .own r => (ρ r).sl
 | .cut r lo _ n size => .slice (cutA (ρ r).A (ρ r).c (lo.getD 0) size) n (cutC (ρ r).c (lo.getD 0))
 | .nil => .slice none 0 0
 | .nilp => .pointer none
 | .ptr r j => .pointer (some ⟨(ρ r).g, j, none⟩)
 | .pel r i j size => .pointer (some (fieldp ((adr (ρ r).A).add (i * size)) j))
/-- What a piece, a place in a row, says of the row. -/
def Leaf.Ok (ρ : Nat → Hd) : Leaf → Prop
 | .cut r lo hi n size => lo.getD 0 ≤ hi.getD (ρ r).n ∧ hi.getD (ρ r).n ≤ (ρ r).n ∧ n = hi.getD (ρ r).n - lo.getD 0 ∧ size = (ρ r).z
 | .pel r i _ size => i < (ρ r).n ∧ size = (ρ r).z
 | _ => True
structure Leaf.In (live : Nat → Prop) (ρ : Nat → Hd) (l : Leaf) : Prop where
 ref : ∀ r, l.ref = some r → live r
 ok : l.Ok ρ
section
variable {live live' : Nat → Prop} {ρ ρ' : Nat → Hd}
theorem Leaf.val_eq (h : ∀ i, live i → ρ' i = ρ i) : ∀ {l : Leaf}, l.In live ρ → l.val ρ' = l.val ρ := by
 intro l hl
 cases l <;> first
  | rfl
  | (simp only [Leaf.val]; rw [h _ (hl.ref _ rfl)])
theorem Leaf.In.mono {l : Leaf} (h : l.In live ρ) (hm : ∀ i, live i → live' i) (hρ : ∀ i, live i → ρ' i = ρ i) : l.In live' ρ' := by
 refine ⟨fun r hr => hm r (h.ref r hr), ?_⟩
 have hok := h.ok
 have href := h.ref
 cases l <;> first
  | trivial
  | (simp only [Leaf.Ok] at hok ⊢; rw [hρ _ (href _ rfl)]; exact hok)
def LsIn (live : Nat → Prop) (ρ : Nat → Hd) (ls : List Leaf) : Prop := ∀ l ∈ ls, l.In live ρ
def vals (ρ : Nat → Hd) (ls : List Leaf) : List Value := ls.map (Leaf.val ρ)
theorem vals_eq (h : ∀ i, live i → ρ' i = ρ i) {ls : List Leaf} (hl : LsIn live ρ ls) : vals ρ' ls = vals ρ ls := List.map_congr_left (fun l hm => Leaf.val_eq h (hl l hm))
theorem LsIn.mono {ls : List Leaf} (h : LsIn live ρ ls) (hm : ∀ i, live i → live' i) (hρ : ∀ i, live i → ρ' i = ρ i) : LsIn live' ρ' ls := fun l hl => (h l hl).mono hm hρ
def CV.val (ρ : Nat → Hd) : CV → Value
 | .lf l => l.val ρ
 | .ag cs => .agg (vals ρ cs).toArray
def CV.In (live : Nat → Prop) (ρ : Nat → Hd) (v : CV) : Prop := LsIn live ρ v.leaves
def SV.val (ρ : Nat → Hd) : SV → Value
 | .c v => v.val ρ
 | .tp vs => .tuple (vs.map (CV.val ρ)).toArray
def SV.In (live : Nat → Prop) (ρ : Nat → Hd) : SV → Prop
 | .c v => v.In live ρ
 | .tp vs => ∀ v ∈ vs, CV.In live ρ v
theorem CV.val_eq (h : ∀ i, live i → ρ' i = ρ i) {v : CV} (hv : v.In live ρ) : v.val ρ' = v.val ρ := by
 cases v with
 | lf l => exact Leaf.val_eq h (hv l (by simp [CV.leaves]))
 | ag cs => simp only [CV.val]; rw [vals_eq h (show LsIn live ρ cs from hv)]
theorem SV.val_eq (h : ∀ i, live i → ρ' i = ρ i) {v : SV} (hv : v.In live ρ) : v.val ρ' = v.val ρ := by
 cases v with
 | c v => exact CV.val_eq h hv
 | tp vs => simp only [SV.val]; rw [List.map_congr_left (fun v hm => CV.val_eq h (hv v hm))]
theorem SV.In.mono {v : SV} (h : v.In live ρ) (hm : ∀ i, live i → live' i) (hρ : ∀ i, live i → ρ' i = ρ i) : v.In live' ρ' := by
 cases v with
 | c v => exact fun l hl => (h l hl).mono hm hρ
 | tp vs => exact fun v hv l hl => (h v hv l hl).mono hm hρ
def Part.In (live : Nat → Prop) (ρ : Nat → Hd) : Part → Prop
 | .blk _ cs => LsIn live ρ cs
 | .sub r _ _ _ => live r
 | _ => True
theorem Part.In.mono {p : Part} (h : p.In live ρ) (hm : ∀ i, live i → live' i) (hρ : ∀ i, live i → ρ' i = ρ i) : p.In live' ρ' := by
 cases p with
 | blk T cs => exact fun l hl => (h l hl).mono hm hρ
 | sub r v i pa => exact hm r h
 | row => trivial
 | view => trivial
end

def pathOff : Ty → List Bool → Option Nat
 | .sl _ _, [] => some 0
 | .pair a _, false :: p => pathOff a p
 | .pair a b, true :: p => (pathOff b p).map (sz a + ·)
 | _, _ => none
def pathZ : Ty → List Bool → Nat
 | .sl _ t, [] => sz t
 | .pair a _, false :: p => pathZ a p
 | .pair _ b, true :: p => pathZ b p
 | _, _ => 0
/-- The head of a row inside an element stands in its cell. -/
def SubAt (w1 : World) (h h' : Hd) (t : Ty) (j : Nat) (xs : List (den t)) (path : List Bool) : Prop :=
 h'.z = pathZ t path ∧ ∃ off, pathOff t path = some off ∧ j < xs.length ∧ w1.cell? ((adr h.A).add (j * sz t + off)) = some h'.sl
/-- Where what part fp reads may lie. -/
def Seen (w : World) (ok fp : Nat → Prop) (k : Nat) : Prop := fp k ∨ (k < w.heap.size ∧ ¬ ok k)
/-- A part, in the world. -/
def On (w : World) (ok : Nat → Prop) (w1 : World) (ρ : Nat → Hd) (me : Nat → Option Part) (i : Nat) (fp : Nat → Prop) : Part → Prop
 | .blk T cs => fp (ρ i).g ∧ w1.heap[(ρ i).g]? = some (.cells (vals ρ cs).toArray T (0, 0))
 | .row _ e t xs => (ρ i).z = sz t ∧ R w1 e t fp (ρ i).sl xs
 | .view o _ t xs => (ρ i).z = sz t ∧ (ρ i).n = xs.length ∧ xs.length ≤ (ρ i).c ∧ (o = false → ∀ k, ¬ fp k) ∧ VC w1 (Seen w ok fp) t (ρ i).A xs
 | .sub r ver j path => (∀ v e t xs, me r = some (.row v e t xs) → ver ≤ v ∧ (v = ver → SubAt w1 (ρ r) (ρ i) t j xs path)) ∧ ∀ o e t xs, me r = some (.view o e t xs) → SubAt w1 (ρ r) (ρ i) t j xs path
/-- THE MEMORY OF A CALL: it began in w, may hold the blocks that are ok; now the world is w1. -/
structure Mem (w : World) (ok live : Nat → Prop) (w1 : World) (ρ : Nat → Hd) (fp : Nat → Nat → Prop) (me : Nat → Option Part) : Prop where
 os : w1.os = w.os
 tape : w1.tape = w.tape
 output : w1.output = w.output
 size : w.heap.size ≤ w1.heap.size
 keep : ∀ k, k < w.heap.size → ¬ ok k → w1.heap[k]? = w.heap[k]?
 up : ∀ k, w.heap.size ≤ k → ok k
 lin : ∀ i p, me i = some p → live i ∧ p.In live ρ
 fpk : ∀ i k, fp i k → ok k ∧ k < w1.heap.size
 dis : ∀ i j k, fp i k → fp j k → i = j
 on : ∀ i p, me i = some p → On w ok w1 ρ me i (fp i) p

theorem cell_of {w w1 : World} {a : Addr} (h : w1.heap[a.block]? = w.heap[a.block]?) : w1.cell? a = w.cell? a := by simp [World.cell?, h]
theorem add_block (a : Addr) (m : Nat) : (a.add m).block = a.block := by unfold Addr.add; split <;> rfl
/-- The block of a row's cells. -/
theorem row_block {w1 : World} {e : Nat} {t : Ty} {p : Nat → Prop} {h : Hd} {xs : List (den t)} (hr : R w1 e t p h.sl xs) (hn : 0 < xs.length) : p (adr h.A).block := by
 obtain ⟨inner, hq, ho, _⟩ := hr
 obtain ⟨A', c', he, _⟩ := q_slice hq
 injection he with h1 h2 h3
 have hq' : QRow w1 0 e (sz t) (.slice h.A xs.length h.c) xs.length inner := by
  have hq2 : QRow w1 0 e (sz t) (.slice h.A h.n h.c) xs.length inner := hq
  rw [h2] at hq2
  exact hq2
 obtain ⟨ad, ha, _⟩ := q_cells hq' hn
 rw [ha]
 exact ho _ (by simp [Hd.sl, Value.ownBlock, ha, adr])
section
variable {w w1 w2 : World} {ok live live' : Nat → Prop} {ρ ρ' : Nat → Hd} {fp fp' : Nat → Nat → Prop} {me me' : Nat → Option Part}
/-- What changes: the parts of T; all else stays. -/
theorem Mem.step (H : Mem w ok live w1 ρ fp me) (T : Nat → Prop) (hos : w2.os = w1.os) (htape : w2.tape = w1.tape) (hout : w2.output = w1.output) (hsz : w1.heap.size ≤ w2.heap.size)
  (hblk : ∀ k, k < w1.heap.size → (∀ i, T i → ¬ fp i k) → w2.heap[k]? = w1.heap[k]?) (hl : ∀ i, live i → live' i) (hρ : ∀ i, live i → ρ' i = ρ i)
  (hme : ∀ i, ¬ T i → me' i = me i) (hfp : ∀ i, ¬ T i → fp' i = fp i) (hin : ∀ i p, T i → me' i = some p → live' i ∧ p.In live' ρ')
  (hnew : ∀ i k, T i → fp' i k → (∃ j, T j ∧ fp j k) ∨ (w1.heap.size ≤ k ∧ k < w2.heap.size)) (hdis : ∀ i j k, T i → T j → fp' i k → fp' j k → i = j)
  (hsub : ∀ r, T r → live r → (∀ v' e' t' xs', me' r = some (.row v' e' t' xs') → ∃ v e t xs, me r = some (.row v e t xs) ∧ v < v') ∧ ∀ o e t xs, me' r ≠ some (.view o e t xs))
  (hon : ∀ i p, T i → me' i = some p → On w ok w2 ρ' me' i (fp' i) p) : Mem w ok live' w2 ρ' fp' me' := by
 have fresh : ∀ k, w1.heap.size ≤ k → ok k := fun k hk => H.up k (Nat.le_trans H.size hk)
 have stay : ∀ i k, ¬ T i → fp i k → w2.heap[k]? = w1.heap[k]? := fun i k hi hk => hblk k (H.fpk i k hk).2 (fun j hj hjk => hi (H.dis i j k hk hjk ▸ hj))
 have keep1 : ∀ k, k < w.heap.size → ¬ ok k → w2.heap[k]? = w1.heap[k]? := fun k hk hn => hblk k (Nat.lt_of_lt_of_le hk H.size) (fun i _ hi => hn (H.fpk i k hi).1)
 refine ⟨hos.trans H.os, htape.trans H.tape, hout.trans H.output, Nat.le_trans H.size hsz, fun k hk hn => (keep1 k hk hn).trans (H.keep k hk hn), H.up, ?_, ?_, ?_, ?_⟩
 ·intro i p hp
  by_cases hi : T i
  ·exact hin i p hi hp
  ·rw [hme i hi] at hp
   obtain ⟨h1, h2⟩ := H.lin i p hp
   exact ⟨hl i h1, h2.mono hl hρ⟩
 ·intro i k hk
  by_cases hi : T i
  ·rcases hnew i k hi hk with ⟨j, _, hj⟩ | ⟨h1, h2⟩
   ·exact ⟨(H.fpk j k hj).1, Nat.lt_of_lt_of_le (H.fpk j k hj).2 hsz⟩
   ·exact ⟨fresh k h1, h2⟩
  ·rw [hfp i hi] at hk
   exact ⟨(H.fpk i k hk).1, Nat.lt_of_lt_of_le (H.fpk i k hk).2 hsz⟩
 ·have half : ∀ i j k, T i → ¬ T j → fp' i k → fp' j k → False := by
   intro i j k hi hj h1 h2
   rw [hfp j hj] at h2
   rcases hnew i k hi h1 with ⟨j', hj', h3⟩ | ⟨h3, _⟩
   ·exact hj (H.dis j j' k h2 h3 ▸ hj')
   ·have := (H.fpk j k h2).2; omega
  intro i j k h1 h2
  by_cases hi : T i
  ·by_cases hj : T j
   ·exact hdis i j k hi hj h1 h2
   ·exact (half i j k hi hj h1 h2).elim
  ·by_cases hj : T j
   ·exact (half j i k hj hi h2 h1).elim
   ·rw [hfp i hi] at h1; rw [hfp j hj] at h2
    exact H.dis i j k h1 h2
 ·intro i p hp
  by_cases hi : T i
  ·exact hon i p hi hp
  ·rw [hme i hi] at hp
   rw [hfp i hi]
   obtain ⟨hli, hpi⟩ := H.lin i p hp
   have h0 := H.on i p hp
   have hρi := hρ i hli
   cases p with
   | blk T' cs =>
    obtain ⟨h1, h2⟩ := h0
    show fp i (ρ' i).g ∧ _
    rw [hρi, vals_eq hρ hpi]
    exact ⟨h1, (stay i _ hi h1).trans h2⟩
   | row ver e t xs =>
    show (ρ' i).z = sz t ∧ R w2 e t (fp i) (ρ' i).sl xs
    rw [hρi]
    exact ⟨h0.1, R_imp h0.2 (fun _ h => h) (fun k hk => stay i k hi hk)⟩
   | view o e t xs =>
    obtain ⟨hz, h1, h2, h3, h5⟩ := h0
    show (ρ' i).z = _ ∧ (ρ' i).n = _ ∧ _
    rw [hρi]
    exact ⟨hz, h1, h2, h3, VC_imp h5 (fun _ h => h) (fun k hk => hk.elim (stay i k hi) (fun h => keep1 k h.1 h.2))⟩
   | sub r ver j path =>
    obtain ⟨h1, h2⟩ := h0
    have hr : live r := hpi
    have hρr := hρ r hr
    constructor
    ·intro v e t xs hv
     rw [hρr, hρi]
     by_cases hTr : T r
     ·obtain ⟨v0, e0, t0, xs0, hm0, hlt⟩ := (hsub r hTr hr).1 v e t xs hv
      have := (h1 v0 e0 t0 xs0 hm0).1
      exact ⟨by omega, fun he => by omega⟩
     ·rw [hme r hTr] at hv
      refine ⟨(h1 v e t xs hv).1, fun he => ?_⟩
      obtain ⟨hz, off, h3, h4, h5⟩ := (h1 v e t xs hv).2 he
      refine ⟨hz, off, h3, h4, (cell_of ?_).trans h5⟩
      rw [add_block]
      exact stay r _ hTr (row_block (H.on r _ hv).2 (by omega))
    ·intro o e t xs hv
     rw [hρr, hρi]
     by_cases hTr : T r
     ·exact absurd hv ((hsub r hTr hr).2 o e t xs)
     ·rw [hme r hTr] at hv
      obtain ⟨hz, off, h3, h4, h5⟩ := h2 o e t xs hv
      refine ⟨hz, off, h3, h4, (cell_of ?_).trans h5⟩
      rw [add_block]
      obtain ⟨_, q1, q2, q3, q5⟩ := H.on r _ hv
      obtain ⟨ad, hA, hS, _⟩ := q5.2 (by omega)
      rw [hA]
      exact hS.elim (stay r _ hTr) (fun h => keep1 _ h.1 h.2)
end
end Go.Proofs.YthncjcfnpfajaaaA
