/- What a call holds in memory, part by part, each apart from the others: blocks of its own and rows of its own. Plain lemmas; no condition. -/
import Derived.Test.YtgihjaonapngdaaWMore
namespace Go.Proofs.YtgihjaonapngdaaY
open Go.RowKit Go.Proofs.YtgihjaonapngdaaW.PrintWords
set_option linter.unusedVariables false

/-- A part: a block whose cells are known, or a row of elements of a kind. -/
inductive Part' : Type 1
  | blk (g : Nat) (t : Nat) (cs : List Value)
  | own {α : Type} (d : Kd α) (e : Nat) (A : Option Addr) (n c : Nat) (xs : List α)
def Part'.on (w : World) (base : Nat) (p : Nat → Prop) : Part' → Prop
  | .blk g t cs => p g ∧ base ≤ g ∧ w.heap[g]? = some (.cells cs.toArray t (0, 0))
  | .own d e A n c xs => d.R e w base p (.slice A n c) xs
/-- The parts, in blocks that are ok, no two in one. -/
def Sep (w : World) (base : Nat) : (Nat → Prop) → List Part' → Prop
  | _, [] => True
  | ok, f :: L => ∃ p : Nat → Prop, (∀ k, p k → ok k) ∧ f.on w base p ∧ Sep w base (fun k => ok k ∧ ¬ p k) L

theorem on_mono {w : World} {base : Nat} {p q : Nat → Prop} {f : Part'} (h : f.on w base p) (hq : ∀ k, p k → q k) : f.on w base q := by
  cases f with
  | blk g t cs => exact ⟨hq _ h.1, h.2⟩
  | own d e A n c xs => exact Kd.R_mono h hq
theorem on_bound {w : World} {base : Nat} {p : Nat → Prop} {f : Part'} (h : f.on w base p) : f.on w base (fun k => p k ∧ base ≤ k ∧ k < w.heap.size) := by
  cases f with
  | blk g t cs =>
    obtain ⟨h1, h2, h3⟩ := h
    exact ⟨⟨h1, h2, (Array.getElem?_eq_some_iff.1 h3).1⟩, h2, h3⟩
  | own d e A n c xs => exact Kd.R_mono (Kd.R_bound h) (fun k hk => ⟨hk.1, hk.2.1, hk.2.2.1⟩)
theorem on_move {w w1 : World} {base : Nat} {p : Nat → Prop} {f : Part'} (h : f.on w base p) (hm : ∀ k, p k → w1.heap[k]? = w.heap[k]?) : f.on w1 base p := by
  cases f with
  | blk g t cs => exact ⟨h.1, h.2.1, (hm _ h.1).trans h.2.2⟩
  | own d e A n c xs => exact Kd.R_move h hm
theorem on_lower {w : World} {base base' : Nat} {p : Nat → Prop} {f : Part'} (h : f.on w base p) (hb : base' ≤ base) : f.on w base' p := by
  cases f with
  | blk g t cs => exact ⟨h.1, Nat.le_trans hb h.2.1, h.2.2⟩
  | own d e A n c xs => exact Kd.R_lower h hb

theorem sep_mono {w : World} {base : Nat} : ∀ {L : List Part'} {ok ok' : Nat → Prop}, Sep w base ok L → (∀ k, ok k → ok' k) → Sep w base ok' L
  | [], _, _, _, _ => trivial
  | _ :: _, _, _, ⟨p, hp, hf, hs⟩, hk => ⟨p, fun k h => hk k (hp k h), hf, sep_mono hs (fun k h => ⟨hk k h.1, h.2⟩)⟩
theorem sep_bound {w : World} {base : Nat} : ∀ {L : List Part'} {ok : Nat → Prop}, Sep w base ok L → Sep w base (fun k => ok k ∧ base ≤ k ∧ k < w.heap.size) L
  | [], _, _ => trivial
  | _ :: _, _, ⟨p, hp, hf, hs⟩ => ⟨fun k => p k ∧ base ≤ k ∧ k < w.heap.size, fun k h => ⟨hp k h.1, h.2⟩, on_bound hf, sep_mono (sep_bound hs) (fun k h => ⟨⟨h.1.1, h.2⟩, fun q => h.1.2 q.1⟩)⟩
theorem sep_move {w w1 : World} {base : Nat} : ∀ {L : List Part'} {ok : Nat → Prop}, Sep w base ok L → (∀ k, ok k → w1.heap[k]? = w.heap[k]?) → Sep w1 base ok L
  | [], _, _, _ => trivial
  | _ :: _, _, ⟨p, hp, hf, hs⟩, hm => ⟨p, hp, on_move hf (fun k h => hm k (hp k h)), sep_move hs (fun k h => hm k h.1)⟩
theorem sep_lower {w : World} {base base' : Nat} (hb : base' ≤ base) : ∀ {L : List Part'} {ok : Nat → Prop}, Sep w base ok L → Sep w base' ok L
  | [], _, _ => trivial
  | _ :: _, _, ⟨p, hp, hf, hs⟩ => ⟨p, hp, on_lower hf hb, sep_lower hb hs⟩
/-- Whatever is ok and a block of w's stays. -/
theorem sep_step {w w1 : World} {base : Nat} {L : List Part'} {ok : Nat → Prop} (h : Sep w base ok L) (hm : ∀ k, ok k → k < w.heap.size → w1.heap[k]? = w.heap[k]?) : Sep w1 base ok L :=
  sep_mono (sep_move (sep_bound h) (fun k hk => hm k hk.1 hk.2.2)) (fun _ h => h.1)
/-- Two lists of parts. -/
theorem sep_split {w : World} {base : Nat} : ∀ {L M : List Part'} {ok : Nat → Prop}, Sep w base ok (L ++ M) → ∃ p : Nat → Prop, (∀ k, p k → ok k) ∧ Sep w base p L ∧ Sep w base (fun k => ok k ∧ ¬ p k) M
  | [], M, ok, h => ⟨fun _ => False, fun _ h => h.elim, trivial, sep_mono h (fun k hk => ⟨hk, fun x => x⟩)⟩
  | f :: L, M, ok, ⟨p, hp, hf, hs⟩ => by
    obtain ⟨q, hq, h1, h2⟩ := sep_split hs
    refine ⟨fun k => p k ∨ q k, fun k h => h.elim (hp k) (fun h => (hq k h).1), ⟨p, fun k h => .inl h, hf, sep_mono h1 (fun k hk => ⟨.inr hk, (hq k hk).2⟩)⟩, sep_mono h2 (fun k hk => ⟨hk.1.1, fun h => h.elim hk.1.2 hk.2⟩)⟩
theorem sep_join {w : World} {base : Nat} : ∀ {L M : List Part'} {p q ok : Nat → Prop}, Sep w base p L → Sep w base q M → (∀ k, p k → ok k) → (∀ k, q k → ok k) → (∀ k, p k → ¬ q k) → Sep w base ok (L ++ M)
  | [], _, _, _, _, _, h, _, hq, _ => sep_mono h hq
  | _ :: _, _, p, q, ok, ⟨r, hr, hf, hs⟩, h, hp, hq, hd =>
    ⟨r, fun k hk => hp k (hr k hk), hf, sep_join hs h (fun k hk => ⟨hp k hk.1, hk.2⟩) (fun k hk => ⟨hq k hk, fun x => hd k (hr k x) hk⟩) (fun k hk => hd k hk.1)⟩
/-- Part number i, and what it may become while all others stay. -/
theorem sep_at {w : World} {base : Nat} : ∀ {L : List Part'} {ok : Nat → Prop} (i : Nat) {f : Part'}, Sep w base ok L → L[i]? = some f →
    ∃ p : Nat → Prop, (∀ k, p k → ok k ∧ base ≤ k ∧ k < w.heap.size) ∧ f.on w base p ∧
      ∀ (w' : World) (f' : Part') (p' : Nat → Prop), (∀ k, k < w.heap.size → ¬ p k → w'.heap[k]? = w.heap[k]?) → (∀ k, p' k → ok k) → (∀ k, p' k → p k ∨ w.heap.size ≤ k) → f'.on w' base p' → Sep w' base ok (L.set i f')
  | [], _, i, _, _, h => by simp at h
  | f0 :: L, ok, 0, f, ⟨p, hp, hf, hs⟩, h => by
    obtain rfl : f0 = f := by simpa using h
    refine ⟨fun k => p k ∧ base ≤ k ∧ k < w.heap.size, fun k hk => ⟨hp k hk.1, hk.2⟩, on_bound hf, fun w' f' p' hfr hok hp' hf' => ?_⟩
    refine ⟨p', hok, hf', ?_⟩
    have hb := sep_bound hs
    refine sep_mono (sep_move hb (fun k hk => hfr k hk.2.2 (fun x => hk.1.2 x.1))) (fun k hk => ⟨hk.1.1, fun x => ?_⟩)
    rcases hp' k x with h1 | h1
    · exact hk.1.2 h1.1
    · have := hk.2.2; omega
  | f0 :: L, ok, i + 1, f, ⟨p, hp, hf, hs⟩, h => by
    obtain ⟨q, hq, hfq, hc⟩ := sep_at (ok := fun k => ok k ∧ ¬ (p k ∧ base ≤ k ∧ k < w.heap.size)) i (sep_mono hs (fun k hk => ⟨hk.1, fun x => hk.2 x.1⟩)) (by simpa using h)
    refine ⟨q, fun k hk => ⟨(hq k hk).1.1, (hq k hk).2⟩, hfq, fun w' f' p' hfr hok hp' hf' => ?_⟩
    refine ⟨fun k => p k ∧ base ≤ k ∧ k < w.heap.size, fun k hk => hp k hk.1, on_move (on_bound hf) (fun k hk => hfr k hk.2.2 (fun x => (hq k x).1.2 hk)), ?_⟩
    refine hc w' f' p' hfr (fun k hk => ⟨hok k hk, fun x => ?_⟩) hp' hf'
    rcases hp' k hk with h1 | h1
    · exact (hq k h1).1.2 x
    · have := x.2.2; omega
/-- Part number i taken out. -/
theorem sep_out {w : World} {base : Nat} : ∀ {L : List Part'} {ok : Nat → Prop} (i : Nat) {f : Part'}, Sep w base ok L → L[i]? = some f → ∃ p : Nat → Prop, (∀ k, p k → ok k) ∧ f.on w base p ∧ Sep w base (fun k => ok k ∧ ¬ p k) (L.eraseIdx i)
  | [], _, i, _, _, h => by simp at h
  | f0 :: L, ok, 0, f, ⟨p, hp, hf, hs⟩, h => by
    obtain rfl : f0 = f := by simpa using h
    exact ⟨p, hp, hf, hs⟩
  | f0 :: L, ok, i + 1, f, ⟨p, hp, hf, hs⟩, h => by
    obtain ⟨q, hq, hfq, hc⟩ := sep_out i hs (by simpa using h)
    exact ⟨q, fun k hk => (hq k hk).1, hfq, p, fun k hk => ⟨hp k hk, fun x => (hq k x).2 hk⟩, hf, sep_mono hc (fun k hk => ⟨⟨hk.1.1, hk.2⟩, hk.1.2⟩)⟩
/-- Parts that are given up. -/
theorem sep_drop {w : World} {base : Nat} {L : List Part'} {ok : Nat → Prop} (i : Nat) (h : Sep w base ok L) : Sep w base ok (L.eraseIdx i) := by
  cases hi : L[i]? with
  | none => rw [List.eraseIdx_of_length_le (by simpa using hi)]; exact h
  | some f =>
    obtain ⟨p, _, _, hs⟩ := sep_out i h hi
    exact sep_mono hs (fun k hk => hk.1)

/-- THE STATE OF A CALL: w0 the world that what comes in is read in, w the world at the call's begin, ok the blocks that it may hold, w1 now. -/
structure St (w0 w : World) (ok : Nat → Prop) (w1 : World) (L : List Part') : Prop where
  sep : Sep w1 w0.heap.size ok L
  below : Below w0.heap.size w0 w1
  keep : ∀ k, k < w.heap.size → ¬ ok k → w1.heap[k]? = w.heap[k]?
  size : w.heap.size ≤ w1.heap.size
  up : ∀ k, w.heap.size ≤ k → ok k
  base : w0.heap.size ≤ w.heap.size
section
variable {w0 w w1 w2 : World} {ok : Nat → Prop} {L : List Part'}
theorem St.start {w : World} : St w w (fun k => w.heap.size ≤ k) w [] := ⟨trivial, Below.refl _ _, fun _ _ _ => rfl, Nat.le_refl _, fun _ h => h, Nat.le_refl _⟩
theorem St.fresh (S : St w0 w ok w1 L) (k : Nat) (h : w1.heap.size ≤ k) : ok k := S.up k (Nat.le_trans S.size h)
/-- Only what is not ok stays as it was; what is new, or known, is put in. -/
theorem St.next {M : List Part'} (S : St w0 w ok w1 L) (hos : w2.os = w1.os) (htape : w2.tape = w1.tape) (hout : w2.output = w1.output) (hsz : w1.heap.size ≤ w2.heap.size) (hkeep : ∀ k, k < w1.heap.size → ¬ (ok k ∧ w0.heap.size ≤ k) → w2.heap[k]? = w1.heap[k]?) (hs : Sep w2 w0.heap.size ok M) : St w0 w ok w2 M :=
  ⟨hs, ⟨hos.trans S.below.os, htape.trans S.below.tape, hout.trans S.below.output, Nat.le_trans S.below.size hsz, fun k hk => (hkeep k (by have := S.base; have := S.size; omega) (fun x => by omega)).trans (S.below.block k hk)⟩,
    fun k hk hn => (hkeep k (by have := S.size; omega) (fun x => hn x.1)).trans (S.keep k hk hn), Nat.le_trans S.size hsz, S.up, S.base⟩
theorem St.drew (S : St w0 w ok w1 L) : St w0 w ok w1.drew L := S.next rfl rfl rfl (Nat.le_refl _) (fun _ _ _ => rfl) (sep_move S.sep (fun _ _ => rfl))
theorem St.drewN (S : St w0 w ok w1 L) (n : Nat) : St w0 w ok (w1.drewN n) L := S.next rfl rfl rfl (Nat.le_refl _) (fun _ _ _ => rfl) (sep_move S.sep (fun _ _ => rfl))
/-- Something new, in new blocks. -/
theorem St.add {f : Part'} {p : Nat → Prop} (S : St w0 w ok w1 L) (hb : Below w1.heap.size w1 w2) (hf : f.on w2 w0.heap.size p) (hp : ∀ k, p k → w1.heap.size ≤ k) : St w0 w ok w2 (f :: L) :=
  S.next hb.os hb.tape hb.output hb.size (fun k hk _ => hb.block k hk) ⟨p, fun k h => S.fresh k (hp k h), hf, sep_mono (sep_move (sep_bound S.sep) (fun k hk => hb.block k hk.2.2)) (fun k hk => ⟨hk.1, fun x => by have := hp k x; have := hk.2.2; omega⟩)⟩
theorem St.drop (S : St w0 w ok w1 L) (i : Nat) : St w0 w ok w1 (L.eraseIdx i) := S.next rfl rfl rfl (Nat.le_refl _) (fun _ _ _ => rfl) (sep_drop i S.sep)
/-- Part number i becomes another. -/
theorem St.upd {f f' : Part'} (S : St w0 w ok w1 L) (i : Nat) (hi : L[i]? = some f) (h : ∀ p : Nat → Prop, (∀ k, p k → w0.heap.size ≤ k ∧ k < w1.heap.size) → f.on w1 w0.heap.size p →
    w2.os = w1.os ∧ w2.tape = w1.tape ∧ w2.output = w1.output ∧ w1.heap.size ≤ w2.heap.size ∧ (∀ k, k < w1.heap.size → ¬ p k → w2.heap[k]? = w1.heap[k]?) ∧ f'.on w2 w0.heap.size (fun k => p k ∨ w1.heap.size ≤ k)) : St w0 w ok w2 (L.set i f') := by
  obtain ⟨p, hp, hf, hc⟩ := sep_at i S.sep hi
  obtain ⟨h1, h2, h3, h4, h5, h6⟩ := h p (fun k hk => (hp k hk).2) hf
  exact S.next h1 h2 h3 h4 (fun k hk hn => h5 k hk (fun x => hn ⟨(hp k x).1, (hp k x).2.1⟩)) (hc w2 f' _ h5 (fun k hk => hk.elim (fun x => (hp k x).1) (S.fresh k)) (fun k hk => hk) h6)
/-- What part number i says, now. -/
theorem St.get {f : Part'} (S : St w0 w ok w1 L) (i : Nat) (hi : L[i]? = some f) : f.on w1 w0.heap.size ok := by
  obtain ⟨p, hp, hf, _⟩ := sep_at i S.sep hi
  exact on_mono hf (fun k hk => (hp k hk).1)
/-- A row of one's own, read. -/
theorem St.reads {α : Type} {d : Kd α} {e n c : Nat} {A : Option Addr} {xs : List α} (S : St w0 w ok w1 L) (i : Nat) (hi : L[i]? = some (.own d e A n c xs)) : d.C w1 A n xs := by
  have h : d.R e w1 w0.heap.size ok (.slice A n c) xs := S.get i hi
  obtain ⟨A', c', he, hl, hr⟩ := Kd.R_reads h
  injection he with ha hn hc
  subst ha hn hc
  exact hr
theorem St.len {α : Type} {d : Kd α} {e n c : Nat} {A : Option Addr} {xs : List α} (S : St w0 w ok w1 L) (i : Nat) (hi : L[i]? = some (.own d e A n c xs)) : n = xs.length := (S.reads i hi).1.symm
/-- What came in, read. -/
theorem St.came {α : Type} {d : Kd α} {A : Option Addr} {n : Nat} {xs : List α} (S : St w0 w ok w1 L) (h : d.C w0 A n xs) : d.C w1 A n xs := Kd.C_below h S.below
end
end Go.Proofs.YtgihjaonapngdaaY
