/- What each operation of the abstract machine says of the world: operations that only compute. Plain lemmas; no condition. -/
import Derived.Test.YthncjcfnpfajaaaAbO
namespace Go.Proofs.YthncjcfnpfajaaaA
open Go Go.RowKit Go.Proofs.YthncjcfnpfajaaaW.PrintWords
set_option linter.unusedVariables false
set_option linter.unusedSimpArgs false

section
variable {me : Nat → Option Part} {r : SV × Me}
theorem lfOf_out {x : Option SV} {k : Leaf → OP} (h : Out me (lfOf x k) r) : ∃ l, x = some (.c (.lf l)) ∧ Out me (k l) r := by
 unfold lfOf at h
 split at h
 ·exact ⟨_, rfl, h⟩
 ·exact h.elim
theorem cvOf_out {x : Option SV} {k : CV → OP} (h : Out me (cvOf x k) r) : ∃ l, x = some (.c l) ∧ Out me (k l) r := by
 unfold cvOf at h
 split at h
 ·exact ⟨_, rfl, h⟩
 ·exact h.elim
theorem intOf_out {x : Option SV} {k : IntKind → Int → OP} (h : Out me (intOf x k) r) : ∃ i z, x = some (.c (.lf (.int i z))) ∧ Out me (k i z) r := by
 unfold intOf at h
 split at h
 ·exact ⟨_, _, rfl, h⟩
 ·exact h.elim
theorem grd_out {lit : Bool} {p : Prop} [d : Decidable p] {k : OP} (h : Out me (grd lit p k) r) : (lit = true ∨ p) ∧ Out me k r := by
 unfold grd at h
 cases lit with
 | true => exact ⟨.inl rfl, h⟩
 | false => exact ⟨.inr h.1, h.2⟩
theorem val_out {l : Leaf} (h : Out me (.val l) r) : r = (lf l, []) := Eq.symm h
theorem out_out {v : SV} {us : Me} (h : Out me (.out v us) r) : r = (v, us) := Eq.symm h
end
theorem bif_out {me : Nat → Option Part} {α : Type} {c : Bool} {g g' : Prg α} {r : α} (h : Out me (bif c then g else g') r) : (c = true ∧ Out me g r) ∨ (c = false ∧ Out me g' r) := by
 cases c with
 | true => exact .inl ⟨rfl, h⟩
 | false => exact .inr ⟨rfl, h⟩
theorem bif_fail {me : Nat → Option Part} {α : Type} {c : Bool} {g : Prg α} {r : α} (h : Out me (bif c then g else .fail) r) : c = true ∧ Out me g r := by
 cases c with
 | true => exact ⟨rfl, h⟩
 | false => exact h.elim

/-- What a computation answers: one leaf that names no part. -/
def Comp (r : SV × Me) (u : Value) : Prop := ∃ l, r = (lf l, []) ∧ l.ref = none ∧ ∀ ρ : Nat → Hd, l.val ρ = u
theorem comp_val {me : Nat → Option Part} {r : SV × Me} {l : Leaf} {u : Value} (h : Out me (.val l) r) (hr : l.ref = none) (hv : ∀ ρ : Nat → Hd, l.val ρ = u) : Comp r u := ⟨l, val_out h, hr, hv⟩
section
variable {P : Program} {me : Nat → Option Part} {r : SV × Me} {w : World}
theorem lit_pos {a : Act} {y : Operand} {k : IntKind} {z : Int} (h : litPos y = true) (he : a.eval y = .int k z) : ¬ z = 0 := by
 unfold litPos at h
 split at h
 ·simp only [Act.eval] at he
  injection he with _ he
  rw [← he]
  intro h0
  cases h0
 ·cases h
theorem is_nat {a : Act} {y : Operand} {k : IntKind} {z : Int} (h : isNat y = true) (he : a.eval y = .int k z) : 0 ≤ z := by
 unfold isNat at h
 split at h
 ·simp only [Act.eval] at he
  injection he with _ he
  rw [← he]
  exact Int.natCast_nonneg _
 ·cases h
theorem sh_amt {a : Act} {y : Operand} {k k' : IntKind} {z : Int} (he : a.eval y = .int k' z) : shAmt k y z = min z.toNat k.bits := by
 unfold shAmt
 split
 ·simp only [Act.eval] at he
  injection he with _ he
  rw [← he]
  rfl
 ·rfl
theorem int_beq (x z : Int) : (x == z) = decide (x = z) := by by_cases h : x = z <;> simp [h]
theorem run_binInt {a : Act} {op : BinOp} {T : TypeId} {k k' : IntKind} {y : Operand} {x z : Int} (he : a.eval y = .int k' z) (h : Out me (binInt op k k' y x z) r) :
  ∃ u, Comp r u ∧ (binOp op T (.int k x) (.int k' z)).run P w = .ok u w := by
 have hsh := sh_amt (k := k) he
 unfold binInt at h
 split at h
 ·obtain ⟨hg, h⟩ := grd_out h
  have h0 : 0 ≤ z := hg.elim (fun h => is_nat h he) id
  refine ⟨_, comp_val h rfl (fun _ => rfl), ?_⟩
  have h1 : ¬ z < 0 := by omega
  rw [hsh]
  have h3 : (((2 ^ min z.toNat k.bits : Nat)) : Int) = 2 ^ min z.toNat k.bits := by simp
  rw [h3]
  simp [binOp, Op.shift, h1]
 ·obtain ⟨hg, h⟩ := grd_out h
  have h0 : 0 ≤ z := hg.elim (fun h => is_nat h he) id
  refine ⟨_, comp_val h rfl (fun _ => rfl), ?_⟩
  have h1 : ¬ z < 0 := by omega
  have h2 : x.fdiv (2 ^ min z.toNat k.bits) = x / (2 ^ min z.toNat k.bits) := Int.fdiv_eq_ediv_of_nonneg _ (Int.le_of_lt (Int.pow_pos (by decide)))
  rw [hsh]
  have h3 : (((2 ^ min z.toNat k.bits : Nat)) : Int) = 2 ^ min z.toNat k.bits := by simp
  rw [h3]
  simp [binOp, Op.shift, h1, h2]
 ·rename_i n1 n2
  split at h
  ·exact h.elim
  ·rename_i hk hd
   subst hk
   clear hd
   split at h
   ·exact ⟨_, comp_val h rfl (fun _ => rfl), by simp [binOp, Op.intArith, Leaf.val]⟩
   ·exact ⟨_, comp_val h rfl (fun _ => rfl), by simp [binOp, Op.intArith, Leaf.val]⟩
   ·exact ⟨_, comp_val h rfl (fun _ => rfl), by simp [binOp, Op.intArith, Leaf.val]⟩
   ·obtain ⟨hg, h⟩ := grd_out h
    have h0 : ¬ z = 0 := hg.elim (fun h => lit_pos h he) id
    exact ⟨_, comp_val h rfl (fun _ => rfl), by simp [binOp, Op.intDiv, Leaf.val, h0]⟩
   ·obtain ⟨hg, h⟩ := grd_out h
    have h0 : ¬ z = 0 := hg.elim (fun h => lit_pos h he) id
    exact ⟨_, comp_val h rfl (fun _ => rfl), by simp [binOp, Op.intDiv, Leaf.val, h0]⟩
   ·exact ⟨_, comp_val h rfl (fun _ => rfl), by simp [binOp, Op.intBits, bits, Leaf.val]⟩
   ·exact ⟨_, comp_val h rfl (fun _ => rfl), by simp [binOp, Op.intBits, bits, Leaf.val]⟩
   ·exact ⟨_, comp_val h rfl (fun _ => rfl), by simp [binOp, Op.intBits, bits, Leaf.val]⟩
   ·exact ⟨_, comp_val h rfl (fun _ => rfl), by simp [binOp, Op.intBits, bits, Leaf.val]⟩
   ·exact ⟨_, comp_val h rfl (fun _ => rfl), by simp [binOp, Op.intCmp, Leaf.val, int_beq]⟩
   ·exact ⟨_, comp_val h rfl (fun _ => rfl), by simp [binOp, Op.intCmp, Leaf.val, bne, int_beq]⟩
   ·exact ⟨_, comp_val h rfl (fun _ => rfl), by simp [binOp, Op.intCmp, Leaf.val]⟩
   ·exact ⟨_, comp_val h rfl (fun _ => rfl), by simp [binOp, Op.intCmp, Leaf.val]⟩
   ·exact ⟨_, comp_val h rfl (fun _ => rfl), by simp [binOp, Op.intCmp, Leaf.val]⟩
   ·exact ⟨_, comp_val h rfl (fun _ => rfl), by simp [binOp, Op.intCmp, Leaf.val]⟩
   ·exact h.elim
theorem str_eq (x y : ByteArray) : (x.toList == y.toList) = decide (x = y) := by
 by_cases h : x = y
 ·subst h; simp
 ·have : ¬ x.toList = y.toList := by
   intro he
   apply h
   have h1 : x.data.toList = y.data.toList := by
    have e1 : x.toList = x.data.toList := by simpa using ByteArray.toList_eq x
    have e2 : y.toList = y.data.toList := by simpa using ByteArray.toList_eq y
    rw [← e1, ← e2, he]
   cases x; cases y
   simp_all
  simp [h, this]
theorem run_binStr {op : BinOp} {T : TypeId} {x y : ByteArray} (h : Out me (binStr op x y) r) :
  ∃ u, Comp r u ∧ (binOp op T (.string x) (.string y)).run P w = .ok u w := by
 unfold binStr at h
 split at h
 ·obtain ⟨hg, h⟩ := h
  refine ⟨_, comp_val h rfl (fun _ => rfl), ?_⟩
  have h1 : ¬ (((x.size + y.size : Nat)) : Int) > IntKind.i64.max := by
   have : IntKind.i64.max = 9223372036854775807 := by decide
   omega
  simp only [binOp, Op.stringOp]
  rw [if_neg h1]
  rfl
 ·refine ⟨_, comp_val h rfl (fun _ => rfl), ?_⟩
  simp [binOp, Op.stringOp, str_eq]
 ·refine ⟨_, comp_val h rfl (fun _ => rfl), ?_⟩
  simp [binOp, Op.stringOp, str_eq]
 ·exact h.elim
/-! structs -/
theorem part_one {T : TypeId} {d : TypeDesc} (hu : P.underlying T = some d) (hk : plainD d = true) {xs : Array Value} {i : Nat} {v : Value} (hx : xs[i]? = some v) : (part T xs i).run P w = .ok v w := by
 have hagg : (isAgg T).run P w = .ok false w := by
  unfold isAgg
  rw [Sem.run_bind, run_underlying hu w]
  cases d <;> simp_all [plainD]
 simp [part, Sem.run_bind, hagg, hx]
theorem eqLs_out {D : Nat} {xs ys : Array Value} {ρ : Nat → Hd} : ∀ (ts : List Ty) (F : List Field) (as bs : List Leaf) (i : Nat) {K : Bool → (p : Prop) → Decidable p → OP}, Out me (eqLs ts as bs K) r → eqF P ts F i = true → (∀ j l, as[j]? = some l → xs[i + j]? = some (l.val ρ)) → (∀ j l, bs[j]? = some l → ys[i + j]? = some (l.val ρ)) →
  ∃ q p d, Out me (K q p d) r ∧ (q = true → p) ∧ (Op.eqFields (D + 1) xs ys F).run P w = .ok (@decide p d) w := by
 intro ts
 induction ts with
 | nil =>
  intro F as bs i K h hF hx hy
  cases F with
  | cons => cases hF
  | nil =>
   cases as with
   | cons => exact h.elim
   | nil =>
    cases bs with
    | cons => exact h.elim
    | nil => exact ⟨true, True, inferInstance, h, fun _ => trivial, by simp [Op.eqFields]⟩
 | cons t ts ih =>
  intro F as bs i K h hF hx hy
  cases F with
  | nil => cases t <;> cases hF
  | cons f F =>
   simp only [eqF, Bool.and_eq_true] at hF
   obtain ⟨⟨⟨hn, hof⟩, hty⟩, hF'⟩ := hF
   have hn' : f.name ≠ "_" := by simpa using hn
   have hof' : f.offset = i := Nat.eq_of_beq_eq_true hof
   have fin : ∀ {l l' : Leaf} {as' bs' : List Leaf} {p1 : Prop} [d1 : Decidable p1], as = l :: as' → bs = l' :: bs' → (∃ dd, P.underlying f.type = some dd ∧ plainD dd = true) → ((Op.equalIn (D + 1) f.type (l.val ρ) (l'.val ρ)).run P w = .ok (decide p1) w) →
     Out me (eqLs ts as' bs' fun b p d => bif b then K false p1 inferInstance else K false (p1 ∧ p) (@instDecidableAnd _ _ inferInstance d)) r →
     ∃ q p d, Out me (K q p d) r ∧ (q = true → p) ∧ (Op.eqFields (D + 1) xs ys (f :: F)).run P w = .ok (@decide p d) w := by
    intro l l' as' bs' p1 d1 ha hb hdd he h'
    subst ha; subst hb
    obtain ⟨dd, hdd, hpl⟩ := hdd
    have hx0 : xs[i]? = some (l.val ρ) := by simpa using hx 0 l rfl
    have hy0 : ys[i]? = some (l'.val ρ) := by simpa using hy 0 l' rfl
    have ha := part_one (P := P) (w := w) hdd hpl hx0
    have hb := part_one (P := P) (w := w) hdd hpl hy0
    rw [← hof'] at ha hb
    obtain ⟨q, p, d, ho, hq, hr⟩ := ih F as' bs' (i + 1) h' hF' (fun j l hj => by have := hx (j + 1) l (by simpa using hj); rw [← this]; congr 1; omega) (fun j l hj => by have := hy (j + 1) l (by simpa using hj); rw [← this]; congr 1; omega)
    have hrun : (Op.eqFields (D + 1) xs ys (f :: F)).run P w = .ok (decide p1 && @decide p d) w := by
     rw [Op.eqFields]
     simp only [if_pos hn', Sem.run_bind, ha, hb, he, Result.andThen_ok]
     by_cases h1 : p1
     ·simp [h1, hr]
     ·simp [h1]
    rcases bif_out ho with ⟨hq', ho⟩ | ⟨hq', ho⟩
    ·refine ⟨false, p1, inferInstance, ho, (fun h => by cases h), ?_⟩
     rw [hrun]
     have : @decide p d = true := by simpa using hq hq'
     rw [this, Bool.and_true]
    ·refine ⟨false, p1 ∧ p, @instDecidableAnd _ _ inferInstance d, ho, (fun h => by cases h), ?_⟩
     rw [hrun]
     congr 1
     cases d with
     | isTrue hp => by_cases h1 : p1 <;> simp [h1, hp]
     | isFalse hp => by_cases h1 : p1 <;> simp [h1, hp]
   cases as with
   | nil => cases t <;> exact h.elim
   | cons l as' =>
    cases bs with
    | nil => cases t <;> cases l <;> exact h.elim
    | cons l' bs' =>
     cases hu : P.underlying f.type with
     | none => rw [hu] at hty; cases t <;> cases hty
     | some dd =>
      rw [hu] at hty
      cases t with
      | int kk =>
       cases l <;> try (exact h.elim)
       cases l' <;> try (exact h.elim)
       rename_i k x k' y
       simp only [eqLs] at h
       split at h
       ·rename_i hk hd
        subst hk
        cases dd <;> simp at hty
        refine fin rfl rfl ⟨_, hu, rfl⟩ ?_ h
        simp [Op.equalIn, Sem.run_bind, run_underlying hu, int_beq, Leaf.val]
       ·exact h.elim
      | bool =>
       cases l <;> try (exact h.elim)
       cases l' <;> try (exact h.elim)
       simp only [eqLs] at h
       cases dd <;> simp at hty
       refine fin rfl rfl ⟨_, hu, rfl⟩ ?_ h
       simp [Op.equalIn, Sem.run_bind, run_underlying hu, Leaf.val]
       rfl
      | str => exact h.elim
      | sl e t => exact h.elim
      | pair a b => exact h.elim
end
section
variable {P : Program} {w w1 : World} {ok live : Nat → Prop} {b : Nat} {o : Oper} {a : Act} {ρ : Nat → Hd} {fp : Nat → Nat → Prop} {me : Nat → Option Part} {v : SV} {us : Me} {s : Sl} {C : Ctx}
theorem goes_comp {u : Value} (H : Mem w ok live w1 ρ fp me) (hc : Comp (v, us) u) (hr : (execOp a.eval o).run P w1 = .ok (.value u) w1) : Goes P w ok live b o a w1 ρ me v us := by
 obtain ⟨l, he, hl, hv⟩ := hc
 injection he with h1 h2
 subst h1; subst h2
 exact goes_leaf H (in_none hl) (by rw [hv ρ]; exact hr)
theorem go_move {x : Operand} (H : Mem w ok live w1 ρ fp me) (ho : o.op = .move x ∨ o.op = .assign x) (E : ∀ v, ev s x = some v → a.eval x = v.val ρ ∧ v.In live ρ) (h : Out me (match ev s x with | some v => .out v [] | none => (.fail : OP)) (v, us)) : Goes P w ok live b o a w1 ρ me v us := by
 cases hx : ev s x with
 | none => rw [hx] at h; exact h.elim
 | some u =>
  rw [hx] at h
  injection out_out h with h1 h2
  subst h1; subst h2
  obtain ⟨e1, e2⟩ := E _ hx
  refine goes_pure H e2 ?_
  rcases ho with ho | ho <;> (unfold execOp; simp [ho, e1])
theorem brOn_out {x : Option SV} {k1 k2 : OP} {r : SV × Me} (h : Out me (brOn x k1 k2) r) : ∃ l c, x = some (.c (.lf l)) ∧ (∀ ρ : Nat → Hd, l.val ρ = .bool c) ∧ ((c = true ∧ Out me k1 r) ∨ (c = false ∧ Out me k2 r)) := by
 unfold brOn at h
 split at h
 ·rename_i b
  refine ⟨_, b, rfl, fun _ => rfl, ?_⟩
  rcases h with ⟨h1, h2⟩ | ⟨h1, h2⟩
  ·exact .inl ⟨h1, h2⟩
  ·exact .inr ⟨by simpa using h1, h2⟩
 ·rename_i b
  refine ⟨_, b, rfl, fun _ => rfl, bif_out h⟩
 ·rename_i p d
  refine ⟨_, @decide p d, rfl, fun _ => rfl, ?_⟩
  rcases h with ⟨h1, h2⟩ | ⟨h1, h2⟩
  ·exact .inl ⟨by simpa using h1, h2⟩
  ·exact .inr ⟨by simpa using h1, h2⟩
 ·exact h.elim
theorem go_pick {c x y : Operand} (H : Mem w ok live w1 ρ fp me) (ho : o.op = .pick c x y) (E : ∀ z, z = c ∨ z = x ∨ z = y → ∀ v, ev s z = some v → a.eval z = v.val ρ ∧ v.In live ρ) (h : Out me (match ev s x, ev s y with | some x, some y => brOn (ev s c) (.out x []) (.out y []) | _, _ => (.fail : OP)) (v, us)) : Goes P w ok live b o a w1 ρ me v us := by
 cases hx : ev s x with
 | none => rw [hx] at h; exact h.elim
 | some x' =>
  cases hy : ev s y with
  | none => rw [hx, hy] at h; exact h.elim
  | some y' =>
   rw [hx, hy] at h
   obtain ⟨l, cc, hl, hv, h⟩ := brOn_out h
   obtain ⟨e1, _⟩ := E c (.inl rfl) _ hl
   obtain ⟨x1, x2⟩ := E x (.inr (.inl rfl)) _ hx
   obtain ⟨y1, y2⟩ := E y (.inr (.inr rfl)) _ hy
   have e1' : a.eval c = .bool cc := by rw [e1]; exact hv ρ
   rcases h with ⟨hc, h⟩ | ⟨hc, h⟩
   ·injection out_out h with h1 h2
    subst h1; subst h2
    refine goes_pure H x2 ?_
    unfold execOp
    simp [ho, e1', hc, x1, asBool, Sem.run_bind]
   ·injection out_out h with h1 h2
    subst h1; subst h2
    refine goes_pure H y2 ?_
    unfold execOp
    simp [ho, e1', hc, y1, asBool, Sem.run_bind]
theorem go_nilCheck {x : Operand} (H : Mem w ok live w1 ρ fp me) (ho : o.op = .nilCheck x) (E : ∀ v, ev s x = some v → a.eval x = v.val ρ ∧ v.In live ρ) (h : Out me (lfOf (ev s x) fun
  | .ptr r j => .val (.ptr r j)
  | .pel r i j z => .val (.pel r i j z)
  | _ => .fail) (v, us)) : Goes P w ok live b o a w1 ρ me v us := by
 obtain ⟨l, hl, h⟩ := lfOf_out h
 obtain ⟨e1, e2⟩ := E _ hl
 cases l <;> first | exact h.elim | skip
 all_goals
  injection val_out h with h1 h2
  subst h1; subst h2
  refine goes_pure H e2 ?_
  have e1' := e1
  simp only [SV.val, CV.val, Leaf.val] at e1'
  unfold execOp
  simp [ho, e1', lf, SV.val, CV.val, Leaf.val]
theorem go_unOp {op : UnOp} {T : TypeId} {x : Operand} (H : Mem w ok live w1 ρ fp me) (ho : o.op = .unOp op T x) (E : ∀ v, ev s x = some v → a.eval x = v.val ρ ∧ v.In live ρ) (h : Out me (unA op (ev s x)) (v, us)) : Goes P w ok live b o a w1 ρ me v us := by
 unfold unA at h
 split at h
 ·rename_i b hx
  obtain ⟨e1, _⟩ := E _ hx
  refine goes_comp H (comp_val (u := .bool !b) h rfl (fun _ => by simp [Leaf.val])) ?_
  unfold execOp
  simp [ho, e1, SV.val, CV.val, Leaf.val, Op.unary]
 ·rename_i b hx
  obtain ⟨e1, _⟩ := E _ hx
  refine goes_comp H (comp_val (u := .bool !b) h rfl (fun _ => by simp [Leaf.val])) ?_
  unfold execOp
  simp [ho, e1, SV.val, CV.val, Leaf.val, Op.unary]
 ·rename_i p d hx
  obtain ⟨e1, _⟩ := E _ hx
  refine goes_comp H (comp_val (u := .bool !(@decide p d)) h rfl (fun _ => by simp [Leaf.val])) ?_
  unfold execOp
  simp [ho, e1, SV.val, CV.val, Leaf.val, Op.unary]
 ·rename_i k z hx
  obtain ⟨e1, _⟩ := E _ hx
  refine goes_comp H (comp_val (u := .int k (k.wrap (0 - z))) h rfl (fun _ => by simp [Leaf.val])) ?_
  unfold execOp
  simp [ho, e1, SV.val, CV.val, Leaf.val, Op.unary, Op.intArith]
 ·exact h.elim
theorem boolOf_out {x : Leaf} {k : Bool → OP} {r : SV × Me} (h : Out me (boolOf x k) r) : ∃ c, (∀ ρ : Nat → Hd, x.val ρ = .bool c) ∧ Out me (k c) r := by
 unfold boolOf at h
 split at h
 ·exact ⟨_, fun _ => rfl, h⟩
 ·exact ⟨_, fun _ => rfl, h⟩
 ·exact ⟨_, fun _ => rfl, h⟩
 ·exact h.elim
theorem run_guard {op : BinOp} {T : TypeId} {x y : Operand} {u u' : Value} (h : (∀ cs, u ≠ .agg cs) ∧ u ≠ .nilIface) : (eqGuard op T x y u u').run P w1 = .ok () w1 := by
 unfold eqGuard
 cases op <;> simp <;> (cases u <;> simp_all)
theorem go_binOp {op : BinOp} {T T' : TypeId} {x y : Operand} (hC : TdsOk P C.Δ) (H : Mem w ok live w1 ρ fp me) (ho : o.op = .binOp op T x y T') (E : ∀ z, z = x ∨ z = y → ∀ v, ev s z = some v → a.eval z = v.val ρ ∧ v.In live ρ) (h : Out me (binA C op T y (ev s x) (ev s y)) (v, us)) : Goes P w ok live b o a w1 ρ me v us := by
 unfold binA at h
 split at h
 ·rename_i k x0 k' y0 hx hy
  obtain ⟨x1, _⟩ := E x (.inl rfl) _ hx
  obtain ⟨y1, _⟩ := E y (.inr rfl) _ hy
  obtain ⟨u, hc, hr⟩ := run_binInt (P := P) (w := w1) (T := T) (a := a) y1 h
  refine goes_comp H hc ?_
  have x1' : a.eval x = .int k x0 := x1
  have y1' : a.eval y = .int k' y0 := y1
  unfold execOp
  simp only [ho, x1', y1', Sem.run_bind, run_guard (P := P) (w1 := w1) (op := op) (T := T) (x := x) (y := y) (u := .int k x0) (u' := .int k' y0) ⟨(fun _ h => by cases h), (fun h => by cases h)⟩, Result.andThen_ok, hr]
  rfl
 ·rename_i x0 y0 hx hy
  obtain ⟨x1, _⟩ := E x (.inl rfl) _ hx
  obtain ⟨y1, _⟩ := E y (.inr rfl) _ hy
  obtain ⟨u, hc, hr⟩ := run_binStr (P := P) (w := w1) (T := T) h
  refine goes_comp H hc ?_
  have x1' : a.eval x = .string x0 := x1
  have y1' : a.eval y = .string y0 := y1
  unfold execOp
  simp only [ho, x1', y1', Sem.run_bind, run_guard (P := P) (w1 := w1) (op := op) (T := T) (x := x) (y := y) (u := .string x0) (u' := .string y0) ⟨(fun _ h => by cases h), (fun h => by cases h)⟩, Result.andThen_ok, hr]
  rfl
 ·rename_i x0 y0 _ _ hx hy
  obtain ⟨x1, _⟩ := E x (.inl rfl) _ hx
  obtain ⟨y1, _⟩ := E y (.inr rfl) _ hy
  split at h
  ·rename_i td htd
   have hT := hC T td htd
   split at h
   ·rename_i hk
    obtain ⟨c, hc, h⟩ := boolOf_out h
    obtain ⟨c', hc', h⟩ := boolOf_out h
    have x1' : a.eval x = .bool c := x1.trans (hc ρ)
    have y1' : a.eval y = .bool c' := y1.trans (hc' ρ)
    have hu := hT.boolT hk
    have hg := run_guard (P := P) (w1 := w1) (op := op) (T := T) (x := x) (y := y) (u := .bool c) (u' := .bool c') ⟨(fun _ h => by cases h), (fun h => by cases h)⟩
    have he : ∀ D, (Op.equalIn (D + 1) T (.bool c) (.bool c')).run P w1 = .ok (c == c') w1 := fun D => by simp [Op.equalIn, Sem.run_bind, run_underlying hu]
    have he' : (Op.equal T (.bool c) (.bool c')).run P w1 = .ok (c == c') w1 := he 9999
    split at h
    ·refine goes_comp H (comp_val (u := .bool (c == c')) h rfl (fun _ => by cases c <;> cases c' <;> simp [Leaf.val])) ?_
     unfold execOp
     simp [ho, x1', y1', Sem.run_bind, hg, binOp, he']
    ·refine goes_comp H (comp_val (u := .bool !(c == c')) h rfl (fun _ => by cases c <;> cases c' <;> simp [Leaf.val])) ?_
     unfold execOp
     simp [ho, x1', y1', Sem.run_bind, hg, binOp, he']
    ·exact h.elim
   ·exact h.elim
  ·exact h.elim
 ·rename_i xs ys hx hy
  obtain ⟨x1, _⟩ := E x (.inl rfl) _ hx
  obtain ⟨y1, _⟩ := E y (.inr rfl) _ hy
  split at h
  ·rename_i td htd
   have hT := hC T td htd
   obtain ⟨hq, h⟩ := bif_fail h
   have hB := hT.eqc hq
   unfold eqB at hB
   split at hB
   ·rename_i F hu
    simp only [Bool.and_eq_true, Bool.not_eq_true'] at hB
    obtain ⟨⟨hB1, hB2⟩, hB3⟩ := hB
    obtain ⟨q, p, d, h, _, hr⟩ := eqLs_out (P := P) (w := w1) (D := 9998) (xs := (vals ρ xs).toArray) (ys := (vals ρ ys).toArray) (ρ := ρ) _ _ _ _ 0 h hB3 (fun j l hj => by simp [vals, hj]) (fun j l hj => by simp [vals, hj])
    have hf : P.fieldsOf T = F := by simp [Program.fieldsOf, hu]
    have he : (Op.equal T (.agg (vals ρ xs).toArray) (.agg (vals ρ ys).toArray)).run P w1 = .ok (@decide p d) w1 := by
     show (Op.equalIn (9999 + 1) T _ _).run P w1 = _
     rw [run_equalIn_struct (P := P) w1 9999 T _ _ (by rw [hf]; exact hu) hB1, hf]
     exact hr
    have hg : (eqGuard op T x y (.agg (vals ρ xs).toArray) (.agg (vals ρ ys).toArray)).run P w1 = .ok () w1 := by
     unfold eqGuard
     cases op <;> simp [hB2, Sem.run_bind]
    have x1' : a.eval x = .agg (vals ρ xs).toArray := x1
    have y1' : a.eval y = .agg (vals ρ ys).toArray := y1
    split at h
    ·refine goes_comp H (comp_val (u := .bool (@decide p d)) h rfl (fun _ => rfl)) ?_
     unfold execOp
     simp only [ho, x1', y1', Sem.run_bind, hg, Result.andThen_ok, binOp, he]
     rfl
    ·refine goes_comp H (comp_val (u := .bool !(@decide p d)) h rfl (fun _ => by simp [Leaf.val])) ?_
     unfold execOp
     simp only [ho, x1', y1', Sem.run_bind, hg, Result.andThen_ok, binOp, he]
     rfl
    ·exact h.elim
   ·cases hB
  ·exact h.elim
 ·exact h.elim
end
end Go.Proofs.YthncjcfnpfajaaaA
