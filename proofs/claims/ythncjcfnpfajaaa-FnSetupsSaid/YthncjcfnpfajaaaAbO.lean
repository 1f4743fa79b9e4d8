/- What each operation of the abstract machine says of the world: operations that only compute. Plain lemmas; no condition. -/
import Derived.Test.YthncjcfnpfajaaaAbW
import Derived.Laws.Slices
import Derived.Laws.StructEq
namespace Go.Proofs.YthncjcfnpfajaaaA
open Go Go.RowKit Go.Proofs.YthncjcfnpfajaaaW.PrintWords
set_option linter.unusedVariables false
set_option linter.unusedSimpArgs false

/-- What a program of the abstract machine answers. -/
def Out {α : Type} (m : Nat → Option Part) : Prg α → α → Prop
 | .ret a, b => a = b
 | .fail, _ => False
 | .getM id k, b => ∃ p, m id = some p ∧ Out m (k p) b
 | .ite p _ k, b => p ∧ Out m k b
 | .br p _ k1 k2, b => (p ∧ Out m k1 b) ∨ (¬ p ∧ Out m k2 b)
 | .bindO x k, b => ∃ a, x = some a ∧ Out m (k a) b
/-- .. and what it has looked at. -/
def res {α : Type} (m : Nat → Option Part) : Prg α → List Nat → Option (α × List Nat)
 | .ret a, rd => some (a, rd)
 | .fail, _ => none
 | .getM id k, rd => (m id).bind fun p => res m (k p) (id :: rd)
 | .ite p d k, rd => @_root_.ite _ p d (res m k rd) none
 | .br p d k1 k2, rd => @_root_.ite _ p d (res m k1 rd) (res m k2 rd)
 | .bindO x k, rd => x.bind fun a => res m (k a) rd
theorem run_res {α R : Type} (K : α → List Nat → Option R) (m : Me) : ∀ (g : Prg α) (rd : List Nat), g.run K m rd = (res (getm m) g rd).bind fun a => K a.1 a.2
 | .ret a, rd => rfl
 | .fail, rd => rfl
 | .getM id k, rd => by
  simp only [Prg.run, res]
  cases getm m id with
  | none => rfl
  | some p => exact run_res K m (k p) _
 | .ite p d k, rd => by
  simp only [Prg.run, res]
  by_cases h : p
  ·rw [if_pos h, if_pos h]; exact run_res K m k rd
  ·rw [if_neg h, if_neg h]; rfl
 | .br p d k1 k2, rd => by
  simp only [Prg.run, res]
  by_cases h : p
  ·rw [if_pos h, if_pos h]; exact run_res K m k1 rd
  ·rw [if_neg h, if_neg h]; exact run_res K m k2 rd
 | .bindO x k, rd => by
  simp only [Prg.run, res]
  cases x with
  | none => rfl
  | some a => exact run_res K m (k a) rd
/-- Whoever agrees on what was looked at answers the same. -/
theorem res_at {α : Type} {m m' : Nat → Option Part} : ∀ {g : Prg α} {rd rd' : List Nat} {a : α}, res m g rd = some (a, rd') → (∀ i ∈ rd', m' i = m i) → (∀ i ∈ rd, i ∈ rd') ∧ res m' g rd = some (a, rd') ∧ Out m' g a
 | .ret _, _, _, _, h, _ => by
  injection h with h; injection h with h1 h2
  subst h1; subst h2
  exact ⟨fun _ h => h, rfl, rfl⟩
 | .getM id k, rd, rd', a, h, hm => by
  simp only [res] at h
  cases hid : m id with
  | none => rw [hid] at h; cases h
  | some p =>
   rw [hid] at h
   have h0 : res m (k p) (id :: rd) = some (a, rd') := h
   obtain ⟨h1, h2, h3⟩ := res_at h0 hm
   have hid' : m' id = some p := by rw [hm id (h1 id List.mem_cons_self), hid]
   refine ⟨fun i hi => h1 i (List.mem_cons_of_mem _ hi), ?_, p, hid', h3⟩
   simp only [res, hid']
   exact h2
 | .ite p d k, rd, rd', a, h, hm => by
  simp only [res] at h
  by_cases hp : p
  ·rw [if_pos hp] at h
   obtain ⟨h1, h2, h3⟩ := res_at h hm
   refine ⟨h1, ?_, hp, h3⟩
   simp only [res]; rw [if_pos hp]; exact h2
  ·rw [if_neg hp] at h; cases h
 | .br p d k1 k2, rd, rd', a, h, hm => by
  simp only [res] at h
  by_cases hp : p
  ·rw [if_pos hp] at h
   obtain ⟨h1, h2, h3⟩ := res_at h hm
   refine ⟨h1, ?_, .inl ⟨hp, h3⟩⟩
   simp only [res]; rw [if_pos hp]; exact h2
  ·rw [if_neg hp] at h
   obtain ⟨h1, h2, h3⟩ := res_at h hm
   refine ⟨h1, ?_, .inr ⟨hp, h3⟩⟩
   simp only [res]; rw [if_neg hp]; exact h2
 | .bindO x k, rd, rd', a, h, hm => by
  simp only [res] at h
  cases x with
  | none => cases h
  | some y =>
   have h0 : res m (k y) rd = some (a, rd') := h
   obtain ⟨h1, h2, h3⟩ := res_at h0 hm
   exact ⟨h1, h2, y, rfl, h3⟩

/-! ### types -/
def descK : TypeDesc → TK
 | .int k => .int k
 | .bool => .bool
 | .string => .str
 | .slice e => .slice e
 | .struct fs => .struct (fs.toList.map fun f => (f.offset, f.type))
 | .pointer e => .ptr e
 | _ => .tuple
/-- A struct of plain fields, each to be compared. -/
def eqF (P : Program) : List Ty → List Field → Nat → Bool
 | [], [], _ => true
 | t :: ts, f :: F, i => f.name != "_" && Nat.beq f.offset i && (match t, P.underlying f.type with
  | .int _, some (.int _) => true
  | .bool, some .bool => true
  | .str, some .string => true
  | _, _ => false) && eqF P ts F (i + 1)
 | _, _, _ => false
def eqB (P : Program) (T : Nat) (ts : List Ty) : Bool := match P.underlying T with
 | some (.struct F) => !P.stoodInHeld T && !P.eqGuardType P.depth T && eqF P ts F.toList 0
 | _ => false
def zeroV (td : TD) : Value := (CV.of td.st (zl td.ty)).val (fun _ => ⟨0, none, 0, 0, 0⟩)
/-- A type of the table, as the program has it. -/
structure TdOk (P : Program) (Δ : List (Nat × TD)) (T : Nat) (td : TD) : Prop where
 und : (P.underlying T).map descK = some td.kind
 inf : (P.info? T).map (fun i => (i.size, i.bytes, i.zero)) = some (td.size, td.bytes, some (zeroV td))
 size : td.size = sz td.ty
 bytes : 0 < td.bytes
 eqc : td.eqc = true → eqB P T (flatTs td.ty) = true
 knd : match td.kind with
  | .int k => td.ty = .int k ∧ td.st = false
  | .bool => td.ty = .bool ∧ td.st = false
  | .str => td.ty = .str ∧ td.st = false
  | .slice e => td.st = false ∧ ∃ te, get Δ e = some te ∧ td.ty = .sl e te.ty
  | .struct fs => td.st = true ∧ ∀ x ∈ fs, ∃ tf, get Δ x.2 = some tf
  | _ => False
def TdsOk (P : Program) (Δ : List (Nat × TD)) : Prop := ∀ T td, get Δ T = some td → TdOk P Δ T td
section
variable {P : Program} {Δ : List (Nat × TD)} {T : Nat} {td : TD}
theorem TdOk.desc (h : TdOk P Δ T td) : ∃ d, P.underlying T = some d ∧ descK d = td.kind := by
 have := h.und
 cases hu : P.underlying T with
 | none => rw [hu] at this; cases this
 | some d => rw [hu] at this; injection this with this; exact ⟨d, rfl, this⟩
theorem TdOk.info (h : TdOk P Δ T td) : ∃ i, P.info? T = some i ∧ i.size = td.size ∧ i.bytes = td.bytes ∧ i.zero = some (zeroV td) := by
 have := h.inf
 cases hu : P.info? T with
 | none => rw [hu] at this; cases this
 | some d =>
  rw [hu] at this; injection this with this
  injection this with h1 h2; injection h2 with h2 h3
  exact ⟨d, rfl, h1, h2, h3⟩
theorem TdOk.cells (h : TdOk P Δ T td) : P.cellsOf T = td.size := by
 obtain ⟨i, hi, h1, _⟩ := h.info
 unfold Program.cellsOf
 rw [hi]
 exact h1
theorem TdOk.slice (h : TdOk P Δ T td) {e : Nat} (hk : td.kind = .slice e) : P.underlying T = some (.slice e) := by
 obtain ⟨d, hd, hk'⟩ := h.desc
 rw [hk] at hk'
 cases d <;> simp [descK] at hk'
 rw [hd, hk']
theorem TdOk.int (h : TdOk P Δ T td) {k : IntKind} (hk : td.kind = .int k) : P.underlying T = some (.int k) := by
 obtain ⟨d, hd, hk'⟩ := h.desc
 rw [hk] at hk'
 cases d <;> simp [descK] at hk'
 rw [hd, hk']
theorem TdOk.boolT (h : TdOk P Δ T td) (hk : td.kind = .bool) : P.underlying T = some .bool := by
 obtain ⟨d, hd, hk'⟩ := h.desc
 rw [hk] at hk'
 cases d <;> simp [descK] at hk'
 exact hd
theorem TdOk.str (h : TdOk P Δ T td) (hk : td.kind = .str) : P.underlying T = some .string := by
 obtain ⟨d, hd, hk'⟩ := h.desc
 rw [hk] at hk'
 cases d <;> simp [descK] at hk'
 exact hd
theorem TdOk.struct (h : TdOk P Δ T td) {fs : List (Nat × Nat)} (hk : td.kind = .struct fs) : ∃ F, P.underlying T = some (.struct F) ∧ F.toList.map (fun f => (f.offset, f.type)) = fs := by
 obtain ⟨d, hd, hk'⟩ := h.desc
 rw [hk] at hk'
 cases d <;> simp [descK] at hk'
 exact ⟨_, hd, by simpa using hk'⟩
/-- Is a type's variable one cell? -/
def plainD : TypeDesc → Bool
 | .struct _ | .array _ _ => false
 | _ => true
theorem TdOk.agg (h : TdOk P Δ T td) : ∃ d, P.underlying T = some d ∧ plainD d = !td.st := by
 obtain ⟨d, hd, hk⟩ := h.desc
 refine ⟨d, hd, ?_⟩
 have hn := h.knd
 rw [← hk] at hn
 cases d <;> simp [descK] at hn <;> simp [plainD, hn]
end
theorem nth_get {α : Type} : ∀ (l : List α) (i : Nat), nth l i = l[i]?
 | [], _ => by simp [nth]
 | _ :: _, 0 => rfl
 | _ :: r, i + 1 => by simp [nth, nth_get r i]
theorem fields_at {F : Array Field} {fs : List (Nat × Nat)} (h : F.toList.map (fun f => (f.offset, f.type)) = fs) {i off ft : Nat} (hi : nth fs i = some (off, ft)) : ∃ f, F[i]? = some f ∧ f.offset = off ∧ f.type = ft := by
 rw [nth_get, ← h, List.getElem?_map] at hi
 obtain ⟨f, hf, he⟩ := Option.map_eq_some_iff.1 hi
 injection he with h1 h2
 exact ⟨f, by simpa using hf, h1, h2⟩

/-! ### a step -/
def upd (us : Me) (me : Nat → Option Part) (i : Nat) : Option Part := match get us i with
 | some p => p
 | none => me i
theorem upd_nil (me : Nat → Option Part) : upd [] me = me := rfl
def grow (live : Nat → Prop) (b : Nat) (i : Nat) : Prop := live i ∨ (b ≤ i ∧ i < b + step)
/-- What is to be shown of an operation. -/
def Goes (P : Program) (w : World) (ok live : Nat → Prop) (b : Nat) (o : Oper) (a : Act) (w1 : World) (ρ : Nat → Hd) (me : Nat → Option Part) (v : SV) (us : Me) : Prop :=
 ∀ (K : Act → World → Prop) (Q : Exit → Act → World → Prop), (∀ w2 ρ' fp', Mem w ok (grow live b) w2 ρ' fp' (upd us me) → (∀ i, live i → ρ' i = ρ i) → v.In (grow live b) ρ' → K (a.put o.dst (v.val ρ')) w2) → o.wp P a w1 K Q
def EvsOk (s : Sl) (o : Oper) (a : Act) (ρ : Nat → Hd) (live : Nat → Prop) : Prop := ∀ x ∈ o.op.operands.toList, ∀ v, ev s x = some v → a.eval x = v.val ρ ∧ v.In live ρ
section
variable {P : Program} {w w1 : World} {ok live : Nat → Prop} {b : Nat} {o : Oper} {a : Act} {ρ : Nat → Hd} {fp : Nat → Nat → Prop} {me : Nat → Option Part} {v : SV} {us : Me} {s : Sl}
theorem Mem.grow (H : Mem w ok live w1 ρ fp me) : Mem w ok (_root_.Go.Proofs.YthncjcfnpfajaaaA.grow live b) w1 ρ fp me :=
 ⟨H.os, H.tape, H.output, H.size, H.keep, H.up, fun i p h => ⟨.inl (H.lin i p h).1, (H.lin i p h).2.mono (fun _ h => .inl h) (fun _ _ => rfl)⟩, H.fpk, H.dis, H.on⟩
theorem wp_val {w2 : World} {u : Value} {K : Act → World → Prop} {Q : Exit → Act → World → Prop} (hr : (execOp a.eval o).run P w1 = .ok (.value u) w2) (h : K (a.put o.dst u) w2) : o.wp P a w1 K Q := by
 unfold Oper.wp
 rw [hr]
 exact h
/-- An operation that only computes. -/
theorem goes_pure (H : Mem w ok live w1 ρ fp me) (hv : v.In live ρ) (hr : (execOp a.eval o).run P w1 = .ok (.value (v.val ρ)) w1) : Goes P w ok live b o a w1 ρ me v [] :=
 fun K Q h => wp_val hr (h w1 ρ fp H.grow (fun _ _ => rfl) (hv.mono (fun _ h => .inl h) (fun _ _ => rfl)))
theorem lf_in {l : Leaf} (h : l.In live ρ) : (lf l).In live ρ := fun l' hl => by
 simp only [CV.leaves, List.mem_singleton] at hl
 rw [hl]; exact h
theorem lf_of {l : Leaf} (h : (SV.c (.lf l)).In live ρ) : l.In live ρ := h l (by simp [CV.leaves])
theorem in_none {l : Leaf} (h : l.ref = none) : l.In live ρ := ⟨(fun r hr => by rw [h] at hr; cases hr), (by cases l <;> first | trivial | (cases h))⟩
/-- .. a leaf that names no part. -/
theorem goes_leaf {l : Leaf} (H : Mem w ok live w1 ρ fp me) (hl : l.In live ρ) (hr : (execOp a.eval o).run P w1 = .ok (.value (l.val ρ)) w1) : Goes P w ok live b o a w1 ρ me (lf l) [] :=
 goes_pure H (lf_in hl) hr
end
end Go.Proofs.YthncjcfnpfajaaaA
