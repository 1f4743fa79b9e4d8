/- What comes in as data of a type reads by the kind of that type: kind by kind. Plain lemmas for a row's proof; no condition. -/
import Derived.Test.YtgihjaonapngdaaWWords
import Derived.ChangeArms
import Derived.DataReads
import Derived.WideShapes
namespace Go.Proofs.YtgihjaonapngdaaY
open Go.RowKit Go.Proofs.YtgihjaonapngdaaW.PrintWords
set_option linter.unusedVariables false

/-- What reads as data at type t reads by kind d, and is as G says. -/
def Opens (P : Program) (t : TypeId) {α : Type} (d : Kd α) (G : α → Prop) : Prop :=
  P.cellsOf t = d.sz ∧ ∀ {H : Type} (enc : TypeId × Value → H) (w : World) (sp : Nat → Bool) (held : Bool) (fuel : Nat) (cs : List Value) (x : DataW H × List MemPlace),
    DataW.trod enc P w 0 sp held fuel t cs = some x → ∃ y : α, d.K w y cs ∧ G y

theorem opens_int {P : Program} {t : TypeId} {k : IntKind} (hu : P.underlying t = some (.int k)) (hc : P.cellsOf t = 1) :
    Opens P t (Kd.int k) (fun y => (Lit.int k y).wf = true) :=
  ⟨hc, fun enc w sp held fuel cs x h => by
    obtain ⟨n, rfl, _, hw⟩ := DataW.trod_int hu h
    exact ⟨n, rfl, hw⟩⟩
theorem opens_bool {P : Program} {t : TypeId} (hu : P.underlying t = some .bool) (hc : P.cellsOf t = 1) :
    Opens P t Kd.bool (fun _ => True) :=
  ⟨hc, fun enc w sp held fuel cs x h => by
    obtain ⟨n, rfl, _⟩ := DataW.trod_bool hu h
    exact ⟨n, rfl, trivial⟩⟩
theorem opens_string {P : Program} {t : TypeId} (hu : P.underlying t = some .string) (hc : P.cellsOf t = 1) :
    Opens P t Kd.string (fun s => s.size ≤ maxLen) :=
  ⟨hc, fun enc w sp held fuel cs x h => by
    obtain ⟨n, rfl, _, hs⟩ := DataW.trod_string hu h
    exact ⟨n, rfl, hs⟩⟩

theorem pick_list {α : Type} (n : Nat) (Q : Nat → α → Prop) (h : ∀ i, i < n → ∃ y, Q i y) : ∃ ys : List α, ys.length = n ∧ ∀ i y, ys[i]? = some y → Q i y := by
  induction n with
  | zero => exact ⟨[], rfl, fun i y hy => by simp at hy⟩
  | succ n ih =>
    obtain ⟨ys, hl, hq⟩ := ih (fun i hi => h i (by omega))
    obtain ⟨z, hz⟩ := h n (by omega)
    refine ⟨ys ++ [z], by simp [hl], fun i y hy => ?_⟩
    rcases Nat.lt_or_ge i ys.length with hlt | hge
    · rw [List.getElem?_append_left hlt] at hy
      exact hq i y hy
    · rw [List.getElem?_append_right hge] at hy
      have hi : i - ys.length = 0 := by
        have := (List.getElem?_eq_some_iff.1 hy).1
        simp at this
        omega
      rw [hi] at hy
      have : z = y := by simpa using hy
      subst this
      have : i = n := by omega
      subst this
      exact hz

theorem opens_slice {P : Program} {t e : TypeId} {α : Type} {d : Kd α} {G : α → Prop} (hu : P.underlying t = some (.slice e)) (hc : P.cellsOf t = 1) (h : Opens P e d G) :
    Opens P t (Kd.slice e d) (fun ys => (∀ y, y ∈ ys → G y) ∧ ys.length ≤ maxLen) :=
  ⟨hc, fun {H} enc w sp held fuel cs x hx => by
    rcases DataW.trod_slice hu hx with ⟨rfl, _⟩ | ⟨a, len, cap, elems, rest, n, rfl, rfl, rfl, hb, hl, hm, hlen, hel, _, _⟩
    · exact ⟨[], ⟨none, 0, rfl, Nat.le_refl _, rfl, by simp, fun hp => absurd hp (by simp)⟩, (fun y hy => by simp at hy), by simp⟩
    · have each : ∀ i, i < len → ∃ y : α, (∃ c : List Value, c.length = d.sz ∧ d.K w y c ∧ ∀ j u, c[j]? = some u → w.cell? (a.add (i * d.sz + j)) = some u) ∧ G y := by
        intro i hi
        have he := hel i hi
        rw [List.getElem?_eq_getElem (by omega)] at he
        obtain ⟨c, hcc, ht⟩ := Option.bind_eq_some_iff.1 he
        obtain ⟨y, hk, hg⟩ := h.2 enc w sp held n c _ ht
        obtain ⟨_, hcl, hce⟩ := World.cells?_some hcc
        rw [h.1] at hce hcl
        refine ⟨y, ⟨c, hcl, hk, fun j u hu => ?_⟩, hg⟩
        have hj : j < d.sz := by
          have := (List.getElem?_eq_some_iff.1 hu).1
          omega
        have h1 := hce j hj
        rw [← hu, ← h1]
        congr 1
        unfold Addr.add
        by_cases h0 : i * d.sz = 0
        · simp [h0]
        · by_cases hj0 : j = 0
          · simp [hj0]
          · simp [h0, hj0, Nat.add_assoc]
      obtain ⟨ys, hyl, hyq⟩ := pick_list len _ each
      subst hyl
      refine ⟨ys, ⟨some a, cap, rfl, hl, rfl, ?_, fun _ => ⟨a, rfl, fun j p hp => (hyq j p hp).1⟩⟩, (fun y hy => ?_), by omega⟩
      · have : cap ≤ 9223372036854775807 := by simpa [maxLen] using hm
        omega
      · obtain ⟨i, hi⟩ := List.getElem?_of_mem hy
        exact (hyq i y hi).2⟩

/-- The fields from a cell on. -/
def OpensFs (P : Program) (fs : List Field) (off : Nat) {α : Type} (d : Kd α) (G : α → Prop) : Prop :=
  ∀ {H : Type} (enc : TypeId × Value → H) (w : World) (sp : Nat → Bool) (held : Bool) (n : Nat) (cs : List Value),
    (∀ f, f ∈ fs → ∃ x, DataW.trod enc P w 0 sp held n f.type ((cs.drop f.offset).take (P.cellsOf f.type)) = some x) → ∃ y : α, d.K w y ((cs.drop off).take d.sz) ∧ G y

theorem opens_one {P : Program} {f : Field} {off : Nat} {α : Type} {d : Kd α} {G : α → Prop} (ho : f.offset = off) (h : Opens P f.type d G) : OpensFs P [f] off d G := by
  intro H enc w sp held n cs hx
  obtain ⟨x, hx⟩ := hx f (by simp)
  obtain ⟨y, hk, hg⟩ := h.2 enc w sp held n _ _ hx
  rw [h.1, ho] at hk
  exact ⟨y, hk, hg⟩
theorem opens_more {P : Program} {f : Field} {fs : List Field} {off : Nat} {α β : Type} {a : Kd α} {b : Kd β} {G1 : α → Prop} {G2 : β → Prop} (ho : f.offset = off) (h : Opens P f.type a G1) (hs : OpensFs P fs (off + a.sz) b G2) :
    OpensFs P (f :: fs) off (Kd.pair a b) (fun y => G1 y.1 ∧ G2 y.2) := by
  intro H enc w sp held n cs hx
  obtain ⟨x, hx0⟩ := hx f (by simp)
  obtain ⟨y, hk, hg⟩ := h.2 enc w sp held n _ _ hx0
  rw [h.1, ho] at hk
  obtain ⟨z, hk2, hg2⟩ := hs enc w sp held n cs (fun f hf => hx f (by simp [hf]))
  refine ⟨(y, z), ⟨_, _, ?_, hk, hk2⟩, hg, hg2⟩
  have hl := a.K_len hk
  show (cs.drop off).take (a.sz + b.sz) = _
  rw [List.take_add, List.drop_drop]
theorem opens_struct {P : Program} {t : TypeId} {fs : Array Field} {α β : Type} {d : Kd α} {G : α → Prop} (f : β → α) (g : α → β) (hfg : ∀ y, f (g y) = y) (hu : P.underlying t = some (.struct fs)) (hc : P.cellsOf t = d.sz) (h : OpensFs P fs.toList 0 d G) :
    Opens P t (Kd.iso d f) (fun x => G (f x)) :=
  ⟨hc, fun {H} enc w sp held fuel cs x hx => by
    obtain ⟨xs, n, rfl, rfl, hl, hlen, hf⟩ := DataW.trod_struct hu hx
    obtain ⟨y, hk, hg⟩ := h enc w sp held n cs (fun f hf' => by
      obtain ⟨i, hi⟩ := List.getElem?_of_mem hf'
      have hi' : fs[i]? = some f := by simpa using hi
      have h1 := hf i f hi'
      have : i < xs.length := by
        have := (Array.getElem?_eq_some_iff.1 hi').1
        omega
      rw [List.getElem?_eq_getElem this] at h1
      exact ⟨_, h1⟩)
    rw [List.drop_zero, ← hc, ← hl, List.take_length] at hk
    exact ⟨g y, by show d.K w (f (g y)) cs; rw [hfg]; exact hk, by show G (f (g y)); rw [hfg]; exact hg⟩⟩

theorem okWide_aggr {P : Program} {w : World} {r : Reach} {b : Nat} {t : TypeId} {fs : Array Field} {v : Value} (hu : P.underlying t = some (.struct fs)) (h : Value.okWide P w r b t v) : ∃ cs, v = .agg cs := by
  simp only [Value.okWide, hu] at h
  obtain ⟨cs, rfl, _⟩ := h
  exact ⟨cs, rfl⟩
theorem agg_of {cs : Array Value} {l : List Value} (h : (Value.agg cs).cells.toList = l) : Value.agg cs = .agg l.toArray := by
  subst h
  simp [Value.cells]
theorem slice_of {a A : Option Addr} {n m c d : Nat} (h : (Value.slice a n c).cells.toList = [.slice A m d]) : Value.slice a n c = .slice A m d := by
  simpa [Value.cells] using h
theorem int_of {k k' : IntKind} {a n : Int} (h : (Value.int k a).cells.toList = [.int k' n]) : Value.int k a = .int k' n := by
  simpa [Value.cells] using h
theorem string_of {a n : ByteArray} (h : (Value.string a).cells.toList = [.string n]) : Value.string a = .string n := by
  simpa [Value.cells] using h
theorem bool_of {a n : Bool} (h : (Value.bool a).cells.toList = [.bool n]) : Value.bool a = .bool n := by
  simpa [Value.cells] using h
end Go.Proofs.YtgihjaonapngdaaY
