/- What comes in as data of a type reads by the kind of that type; a law's function on what comes in. Plain lemmas; no condition. -/
import Derived.Test.YthncjcfnpfajaaaAbDa
import Derived.ChangeArms
import Derived.DataReads
import Derived.WideShapes
namespace Go.Proofs.YthncjcfnpfajaaaA
open Go Go.RowKit Go.Proofs.YthncjcfnpfajaaaW.PrintWords
set_option linter.unusedVariables false
set_option linter.unusedSimpArgs false

/-- What reads as data at type t reads by kind d, and is as G says. -/
def Opens (P : Program) (t : TypeId) {α : Type} (d : Kd α) (G : α → Prop) : Prop :=
 P.cellsOf t = d.sz ∧ ∀ {H : Type} (enc : TypeId × Value → H) (w : World) (sp : Nat → Bool) (held : Bool) (fuel : Nat) (cs : List Value) (x : DataW H × List MemPlace),
  DataW.trod enc P w 0 sp held fuel t cs = some x → ∃ y : α, d.K w y cs ∧ G y

theorem opens_int {P : Program} {t : TypeId} {k : IntKind} (hu : P.underlying t = some (.int k)) (hc : P.cellsOf t = 1) :
  Opens P t (Kd.int k) (fun y => (Lit.int k y).wf = true) :=
 ⟨hc, fun enc w sp held fuel cs x h => by
  obtain ⟨n, rfl, _, hw⟩ := DataW.trod_int hu h
  exact ⟨n, rfl, hw⟩⟩
theorem opens_bool {P : Program} {t : TypeId} (hu : P.underlying t = some .bool) (hc : P.cellsOf t = 1) :
  Opens P t Kd.bool (fun _ => True) :=
 ⟨hc, fun enc w sp held fuel cs x h => by
  obtain ⟨n, rfl, _⟩ := DataW.trod_bool hu h
  exact ⟨n, rfl, trivial⟩⟩
theorem opens_string {P : Program} {t : TypeId} (hu : P.underlying t = some .string) (hc : P.cellsOf t = 1) :
  Opens P t Kd.string (fun s => s.size ≤ maxLen) :=
 ⟨hc, fun enc w sp held fuel cs x h => by
  obtain ⟨n, rfl, _, hs⟩ := DataW.trod_string hu h
  exact ⟨n, rfl, hs⟩⟩

theorem pick_list {α : Type} (n : Nat) (Q : Nat → α → Prop) (h : ∀ i, i < n → ∃ y, Q i y) : ∃ ys : List α, ys.length = n ∧ ∀ i y, ys[i]? = some y → Q i y := by
 induction n with
 | zero => exact ⟨[], rfl, fun i y hy => by simp at hy⟩
 | succ n ih =>
  obtain ⟨ys, hl, hq⟩ := ih (fun i hi => h i (by omega))
  obtain ⟨z, hz⟩ := h n (by omega)
  refine ⟨ys ++ [z], by simp [hl], fun i y hy => ?_⟩
  rcases Nat.lt_or_ge i ys.length with hlt | hge
  ·rw [List.getElem?_append_left hlt] at hy
   exact hq i y hy
  ·rw [List.getElem?_append_right hge] at hy
   have hi : i - ys.length = 0 := by
    have := (List.getElem?_eq_some_iff.1 hy).1
    simp at this
    omega
   rw [hi] at hy
   have : z = y := by simpa using hy
   subst this
   have : i = n := by omega
   subst this
   exact hz

theorem opens_slice {P : Program} {t e : TypeId} {α : Type} {d : Kd α} {G : α → Prop} (hu : P.underlying t = some (.slice e)) (hc : P.cellsOf t = 1) (h : Opens P e d G) :
  Opens P t (Kd.slice e d) (fun ys => (∀ y, y ∈ ys → G y) ∧ ys.length ≤ maxLen) :=
 ⟨hc, fun {H} enc w sp held fuel cs x hx => by
  rcases DataW.trod_slice hu hx with ⟨rfl, _⟩ | ⟨a, len, cap, elems, rest, n, rfl, rfl, rfl, hb, hl, hm, hlen, hel, _, _⟩
  ·exact ⟨[], ⟨none, 0, rfl, Nat.le_refl _, rfl, by simp, fun hp => absurd hp (by simp)⟩, (fun y hy => by simp at hy), by simp⟩
  ·have each : ∀ i, i < len → ∃ y : α, (∃ c : List Value, c.length = d.sz ∧ d.K w y c ∧ ∀ j u, c[j]? = some u → w.cell? (a.add (i * d.sz + j)) = some u) ∧ G y := by
    intro i hi
    have he := hel i hi
    rw [List.getElem?_eq_getElem (by omega)] at he
    obtain ⟨c, hcc, ht⟩ := Option.bind_eq_some_iff.1 he
    obtain ⟨y, hk, hg⟩ := h.2 enc w sp held n c _ ht
    obtain ⟨_, hcl, hce⟩ := World.cells?_some hcc
    rw [h.1] at hce hcl
    refine ⟨y, ⟨c, hcl, hk, fun j u hu => ?_⟩, hg⟩
    have hj : j < d.sz := by
     have := (List.getElem?_eq_some_iff.1 hu).1
     omega
    have h1 := hce j hj
    rw [← hu, ← h1]
    congr 1
    unfold Addr.add
    by_cases h0 : i * d.sz = 0
    ·simp [h0]
    ·by_cases hj0 : j = 0
     ·simp [hj0]
     ·simp [h0, hj0, Nat.add_assoc]
   obtain ⟨ys, hyl, hyq⟩ := pick_list len _ each
   subst hyl
   refine ⟨ys, ⟨some a, cap, rfl, hl, rfl, ?_, fun _ => ⟨a, rfl, fun j p hp => (hyq j p hp).1⟩⟩, (fun y hy => ?_), by omega⟩
   ·have : cap ≤ 9223372036854775807 := by simpa [maxLen] using hm
    omega
   ·obtain ⟨i, hi⟩ := List.getElem?_of_mem hy
    exact (hyq i y hi).2⟩

/-- The fields from a cell on. -/
def OpensFs (P : Program) (fs : List Field) (off : Nat) {α : Type} (d : Kd α) (G : α → Prop) : Prop :=
 ∀ {H : Type} (enc : TypeId × Value → H) (w : World) (sp : Nat → Bool) (held : Bool) (n : Nat) (cs : List Value),
  (∀ f, f ∈ fs → ∃ x, DataW.trod enc P w 0 sp held n f.type ((cs.drop f.offset).take (P.cellsOf f.type)) = some x) → ∃ y : α, d.K w y ((cs.drop off).take d.sz) ∧ G y

theorem opens_one {P : Program} {f : Field} {off : Nat} {α : Type} {d : Kd α} {G : α → Prop} (ho : f.offset = off) (h : Opens P f.type d G) : OpensFs P [f] off d G := by
 intro H enc w sp held n cs hx
 obtain ⟨x, hx⟩ := hx f (by simp)
 obtain ⟨y, hk, hg⟩ := h.2 enc w sp held n _ _ hx
 rw [h.1, ho] at hk
 exact ⟨y, hk, hg⟩
theorem opens_more {P : Program} {f : Field} {fs : List Field} {off : Nat} {α β : Type} {a : Kd α} {b : Kd β} {G1 : α → Prop} {G2 : β → Prop} (ho : f.offset = off) (h : Opens P f.type a G1) (hs : OpensFs P fs (off + a.sz) b G2) :
  OpensFs P (f :: fs) off (Kd.pair a b) (fun y => G1 y.1 ∧ G2 y.2) := by
 intro H enc w sp held n cs hx
 obtain ⟨x, hx0⟩ := hx f (by simp)
 obtain ⟨y, hk, hg⟩ := h.2 enc w sp held n _ _ hx0
 rw [h.1, ho] at hk
 obtain ⟨z, hk2, hg2⟩ := hs enc w sp held n cs (fun f hf => hx f (by simp [hf]))
 refine ⟨(y, z), ⟨_, _, ?_, hk, hk2⟩, hg, hg2⟩
 have hl := a.K_len hk
 show (cs.drop off).take (a.sz + b.sz) = _
 rw [List.take_add, List.drop_drop]
theorem opens_pairs {P : Program} {t : TypeId} {fs : Array Field} {α : Type} {d : Kd α} {G : α → Prop} (hu : P.underlying t = some (.struct fs)) (hc : P.cellsOf t = d.sz) (h : OpensFs P fs.toList 0 d G) : Opens P t d G :=
 ⟨hc, fun {H} enc w sp held fuel cs x hx => by
  obtain ⟨xs, n, rfl, rfl, hl, hlen, hf⟩ := DataW.trod_struct hu hx
  obtain ⟨y, hk, hg⟩ := h enc w sp held n cs (fun f hf' => by
   obtain ⟨i, hi⟩ := List.getElem?_of_mem hf'
   have hi' : fs[i]? = some f := by simpa using hi
   have h1 := hf i f hi'
   have : i < xs.length := by
    have := (Array.getElem?_eq_some_iff.1 hi').1
    omega
   rw [List.getElem?_eq_getElem this] at h1
   exact ⟨_, h1⟩)
  rw [List.drop_zero, ← hc, ← hl, List.take_length] at hk
  exact ⟨y, hk, hg⟩⟩
/-- What is known of whatever comes in. -/
def Wf : (t : Ty) → den t → Prop
 | .int k, x => (Lit.int k x).wf = true
 | .bool, _ => True
 | .str, x => x.size ≤ maxLen
 | .sl _ t, xs => (∀ y, y ∈ xs → Wf t y) ∧ xs.length ≤ maxLen
 | .pair a b, x => Wf a x.1 ∧ Wf b x.2
theorem okWide_aggr {P : Program} {w : World} {r : Reach} {b : Nat} {t : TypeId} {fs : Array Field} {v : Value} (hu : P.underlying t = some (.struct fs)) (h : Value.okWide P w r b t v) : ∃ cs, v = .agg cs := by
 simp only [Value.okWide, hu] at h
 obtain ⟨cs, rfl, _⟩ := h
 exact ⟨cs, rfl⟩
theorem agg_of {cs : Array Value} {l : List Value} (h : (Value.agg cs).cells.toList = l) : Value.agg cs = .agg l.toArray := by
 subst h
 simp [Value.cells]
theorem slice_of {a A : Option Addr} {n m c d : Nat} (h : (Value.slice a n c).cells.toList = [.slice A m d]) : Value.slice a n c = .slice A m d := by
 simpa [Value.cells] using h
theorem int_of {k k' : IntKind} {a n : Int} (h : (Value.int k a).cells.toList = [.int k' n]) : Value.int k a = .int k' n := by
 simpa [Value.cells] using h
theorem string_of {a n : ByteArray} (h : (Value.string a).cells.toList = [.string n]) : Value.string a = .string n := by
 simpa [Value.cells] using h
theorem bool_of {a n : Bool} (h : (Value.bool a).cells.toList = [.bool n]) : Value.bool a = .bool n := by
 simpa [Value.cells] using h

/-! ### a function that only reads what comes in -/
def readB : List PM → Bool
 | [] => true
 | .val _ t ms :: ps => decide (ms = List.replicate (nsl t) 0) && readB ps
 | _ :: _ => false
def Each (W : World) : (ps : List PM) → Args ps → List Value → Prop
 | [], _, vs => vs = []
 | .val st t _ :: ps, x, v :: vs => (kd t).K W x.1 v.cells.toList ∧ (st = true → v = .agg v.cells) ∧ (st = false → v.cells.toList = [v]) ∧ Each W ps x.2 vs
 | _, _, _ => False
theorem Each.nil {W : World} : Each W [] () [] := rfl
theorem Each.cons {W : World} {st : Bool} {t : Ty} {ms : List Nat} {ps : List PM} {x : den t} {xs : Args ps} {v : Value} {vs : List Value} (hk : (kd t).K W x v.cells.toList) (h1 : st = true → v = .agg v.cells) (h2 : st = false → v.cells.toList = [v]) (h : Each W ps xs vs) : Each W (.val st t ms :: ps) (x, xs) (v :: vs) := ⟨hk, h1, h2, h⟩
section
variable {W : World}
theorem K_enter : ∀ (t : Ty) (x : den t) (cs : List Value) (n : Nat), nsl t ≤ n → (kd t).K W x cs → ∃ hs : List Hd, hs.length = nsl t ∧ ∀ (pa : List Bool) (b nx : Nat) (ρc : Nat → Hd), b + nsl t ≤ nx → (∀ (j : Nat) h, hs[j]? = some h → ρc (b + j) = h) →
  vals ρc (enterLsF (descs t x pa) (List.replicate n 0) b).1 = cs ∧ LsIn (fun i => i < nx) ρc (enterLsF (descs t x pa) (List.replicate n 0) b).1 ∧ Tells W (fun k => W.heap.size ≤ k) W nx ρc (fun _ _ => False) (enterLsF (descs t x pa) (List.replicate n 0) b).2.1
 | .int k, x, cs, n, hn, h => ⟨[], rfl, fun pa b nx ρc _ _ => ⟨(show cs = [_] from h).symm, lsIn_cons (in_none rfl) (fun _ h => by cases h), Tells.nil⟩⟩
 | .bool, x, cs, n, hn, h => ⟨[], rfl, fun pa b nx ρc _ _ => ⟨(show cs = [_] from h).symm, lsIn_cons (in_none rfl) (fun _ h => by cases h), Tells.nil⟩⟩
 | .str, x, cs, n, hn, h => ⟨[], rfl, fun pa b nx ρc _ _ => ⟨(show cs = [_] from h).symm, lsIn_cons (in_none rfl) (fun _ h => by cases h), Tells.nil⟩⟩
 | .sl e t, x, cs, n, hn, ⟨A, c, h, hl, hc⟩ => by
  obtain ⟨n, rfl⟩ : ∃ n', n = n' + 1 := ⟨n - 1, by simp only [nsl] at hn; omega⟩
  refine ⟨[⟨0, A, x.length, c, sz t⟩], rfl, fun pa b nx ρc hnx hρ => ?_⟩
  have hb : ρc b = ⟨0, A, x.length, c, sz t⟩ := hρ 0 _ rfl
  have hbn : b < nx := by simp only [nsl] at hnx; omega
  refine ⟨?_, lsIn_cons ⟨fun i hi => by injection hi with hi; subst hi; exact hbn, trivial⟩ (fun _ h => by cases h), Tells.cons hbn trivial (fun mec => ?_) Tells.nil⟩
  ·show [(ρc b).sl] = cs
   rw [hb, h]
   rfl
  ·show (ρc b).z = _ ∧ (ρc b).n = _ ∧ _
   rw [hb]
   exact ⟨rfl, rfl, hl, fun _ _ h => h, VC_of_C (fun k hk => .inr ⟨hk, by show ¬ W.heap.size ≤ k; omega⟩) hc⟩
 | .pair a c, x, cs, n, hn, ⟨c0, c1, e, h0, h1⟩ => by
  simp only [nsl] at hn
  obtain ⟨g1, l1, k1⟩ := K_enter a x.1 c0 n (by omega) h0
  obtain ⟨g2, l2, k2⟩ := K_enter c x.2 c1 (n - nsl a) (by omega) h1
  refine ⟨g1 ++ g2, by rw [List.length_append, l1, l2]; rfl, fun pa b nx ρc hnx hρ => ?_⟩
  simp only [nsl] at hnx
  obtain ⟨a1, a2, a3⟩ := k1 (false :: pa) b nx ρc (by omega) (fun j h hj => hρ j h (hs_left hj))
  obtain ⟨b1, b2, b3⟩ := k2 (true :: pa) (b + nsl a) nx ρc (by omega) (fun j h hj => by rw [← l1, Nat.add_assoc]; exact hρ _ h (hs_right hj))
  simp only [descs, enterLs_append, cnt_descs, List.drop_replicate]
  exact ⟨by rw [vals_append, a1, b1, e], lsIn_append a2 b2, a3.append b3⟩
theorem each_enter : ∀ (ps : List PM) (x : Args ps) (vs : List Value), readB ps = true → Each W ps x vs → ∃ hs : List Hd, hs.length = nps ps ∧ vs.length = ps.length ∧ ∀ (i b nx : Nat) (ρc : Nat → Hd), b + nps ps ≤ nx → (∀ (j : Nat) h, hs[j]? = some h → ρc (b + j) = h) →
  (∀ q v, get (enterF ps x i b).1 q = some v → ∃ n, q = i + n ∧ vs[n]? = some (v.val ρc) ∧ v.In (fun i => i < nx) ρc) ∧ Tells W (fun k => W.heap.size ≤ k) W nx ρc (fun _ _ => False) (enterF ps x i b).2.1
 | [], x, vs, _, h => ⟨[], rfl, by rw [show vs = [] from h]; rfl, fun i b nx ρc _ _ => ⟨(fun q v hv => by cases hv), Tells.nil⟩⟩
 | .ptr _ _ _ :: ps, x, vs, hr, h => by cases hr
 | .val st t ms :: ps, x, [], hr, h => h.elim
 | .val st t ms :: ps, x, v :: vs, hr, ⟨hk, hst, hsf, he⟩ => by
  simp only [readB, Bool.and_eq_true] at hr
  have hms := of_decide_eq_true hr.1
  subst hms
  obtain ⟨g1, l1, k1⟩ := K_enter t x.1 _ (nsl t) (Nat.le_refl _) hk
  obtain ⟨g2, l2, l3, k2⟩ := each_enter ps x.2 vs hr.2 he
  refine ⟨g1 ++ g2, by rw [List.length_append, l1, l2]; rfl, by simp [l3], fun i b nx ρc hnx hρ => ?_⟩
  simp only [nps] at hnx
  obtain ⟨a1, a2, a3⟩ := k1 [] b nx ρc (by omega) (fun j h hj => hρ j h (hs_left hj))
  have hnx' : (enterLsF (descs t x.1 []) (List.replicate (nsl t) 0) b).2.2 = b + nsl t := by rw [enterLs_nx, cnt_descs]
  obtain ⟨b1, b2⟩ := k2 (i + 1) (b + nsl t) nx ρc (by omega) (fun j h hj => by rw [← l1, Nat.add_assoc]; exact hρ _ h (hs_right hj))
  simp only [enterF, hnx']
  refine ⟨fun q u hu => ?_, a3.append b2⟩
  rw [get_cons] at hu
  by_cases hq : q = i
  ·rw [if_pos hq] at hu
   injection hu with hu
   subst hu
   refine ⟨0, by omega, ?_, by show LsIn _ _ (CV.of st _).leaves; rw [of_leaves]; exact a2⟩
   have : v = (CV.of st (enterLsF (descs t x.1 []) (List.replicate (nsl t) 0) b).1).val ρc := by
    cases st with
    | true =>
     show v = Value.agg (vals ρc _).toArray
     rw [a1, hst rfl]
     rfl
    | false =>
     have h1 := hsf rfl
     rw [h1] at a1
     have hl : (enterLsF (descs t x.1 []) (List.replicate (nsl t) 0) b).1.length = 1 := by
      have := congrArg List.length a1
      simpa [vals] using this
     obtain ⟨l, hl⟩ := List.length_eq_one_iff.1 hl
     rw [hl] at a1 ⊢
     have : [l.val ρc] = [v] := a1
     injection this with this
     exact this.symm
   rw [← show v = (SV.c _).val ρc from this]
   rfl
  ·rw [if_neg hq] at hu
   obtain ⟨n, h1, h2, h3⟩ := b1 q u hu
   exact ⟨n + 1, by omega, by simpa using h2, h3⟩
/-- A LAW'S FUNCTION, CALLED. -/
theorem law_ok {P : Program} {k : Nat} {e : Ent} (h : EntOk P k e) (hr : readB e.sig.ps = true) {x : Args e.sig.ps} {r : Res e.sig} (hF : e.F k x = some r) {args : Array Value} (hE : Each W e.sig.ps x args.toList) {u : Value} (hu : ∀ ρ' : Nat → Hd, (svOf (leaveF e.sig r).1).val ρ' = u) :
  Calls P e.id args W fun en W' => en = .returned u ∧ Below W.heap.size W W' := by
 obtain ⟨hs, l1, l2, hk⟩ := each_enter e.sig.ps x args.toList hr hE
 obtain ⟨h1, T⟩ := hk 0 0 (nps e.sig.ps) (fun i => hs.getD i noHd) (by omega) (fun j h hj => by rw [Nat.zero_add]; exact getD_at hj)
 have H : Mem W (fun k => W.heap.size ≤ k) (fun i => i < nps e.sig.ps) W (fun i => hs.getD i noHd) (fun _ _ => False) (getm (enterF e.sig.ps x 0 0).2.1) := by
  refine ⟨rfl, rfl, rfl, Nat.le_refl _, fun _ _ _ => rfl, fun _ h => h, fun i p hp => ?_, fun _ _ h => h.elim, fun _ _ _ h => h.elim, fun i p hp => ?_⟩
  ·obtain ⟨p', e1, e2, e3, _⟩ := T (fun _ => none) i _ (getm_get hp)
   injection e1 with e1
   subst e1
   exact ⟨e2, e3⟩
  ·obtain ⟨p', e1, _, _, e4⟩ := T (getm _) i _ (getm_get hp)
   injection e1 with e1
   subst e1
   exact e4
 refine Calls.mono (h.2 x r hF W _ _ _ args (by rw [← l2]; simp) H (fun i v hv => ?_)) (fun en W' hL => ?_)
 ·obtain ⟨n, e1, e2, e3⟩ := h1 i v hv
  rw [Nat.zero_add] at e1
  subst e1
  exact ⟨by simpa using e2, e3⟩
 ·cases en with
  | panicked ch => exact hL.elim
  | outgrown => exact hL.elim
  | returned v =>
   obtain ⟨ρ', fp', _, H', hv, _⟩ := hL
   refine ⟨by rw [hv, hu], H'.os, H'.tape, H'.output, H'.size, fun k hk => H'.keep k hk (by show ¬ W.heap.size ≤ k; omega)⟩
end
end Go.Proofs.YthncjcfnpfajaaaA
