/- What each operation of the abstract machine says of the world: fields, lengths, places, cuts. Plain lemmas; no condition. -/
import Derived.Test.YthncjcfnpfajaaaAbQ
namespace Go.Proofs.YthncjcfnpfajaaaA
open Go Go.RowKit Go.Proofs.YthncjcfnpfajaaaW.PrintWords
set_option linter.unusedVariables false
set_option linter.unusedSimpArgs false

theorem TdOk.one {P : Program} {Δ : List (Nat × TD)} {T : Nat} {td : TD} (h : TdOk P Δ T td) (hs : td.st = false) : td.size = 1 := by
 have hn := h.knd
 rw [h.size]
 split at hn
 ·rw [hn.1]; rfl
 ·rw [hn.1]; rfl
 ·rw [hn.1]; rfl
 ·obtain ⟨_, te, _, ht⟩ := hn; rw [ht]; rfl
 ·rw [hs] at hn; cases hn.1
 ·exact hn.elim
section
variable {P : Program} {w w1 : World} {ok live : Nat → Prop} {b : Nat} {o : Oper} {a : Act} {ρ : Nat → Hd} {fp : Nat → Nat → Prop} {me : Nat → Option Part} {v : SV} {us : Me} {s : Sl} {C : Ctx}
theorem run_isAgg {T : Nat} {td : TD} (h : TdOk P C.Δ T td) (w : World) : (isAgg T).run P w = .ok td.st w := by
 obtain ⟨d, hd, hp⟩ := h.agg
 unfold isAgg
 rw [Sem.run_bind, run_underlying hd w]
 cases hst : td.st <;> rw [hst] at hp <;> cases d <;> simp_all [plainD]
theorem run_sizeTd {T : Nat} {td : TD} (h : TdOk P C.Δ T td) (w : World) : (sizeOf T).run P w = .ok td.size w := by
 obtain ⟨i, hi, h1, _⟩ := h.info
 simp [sizeOf, typeInfo, hi, h1]
theorem of_true (ls : List Leaf) : CV.of true ls = .ag ls := rfl
theorem of_one (l : Leaf) : CV.of false [l] = .lf l := rfl
theorem of_leaves (st : Bool) (ls : List Leaf) : (CV.of st ls).leaves = ls := by
 cases st with
 | true => rfl
 | false =>
  unfold CV.of
  simp only [cond_false]
  split <;> rfl
theorem take_one {α : Type} {l : List α} {j : Nat} (h : j + 1 ≤ l.length) : (l.drop j).take 1 = [l[j]'(by omega)] := by
 rw [List.drop_eq_getElem_cons (by omega)]
 rfl
theorem part_td {T : Nat} {td : TD} (h : TdOk P C.Δ T td) {cs : List Leaf} {off : Nat} (hl : off + td.size ≤ cs.length) (w : World) : (part T (vals ρ cs).toArray off).run P w = .ok ((CV.of td.st ((cs.drop off).take td.size)).val ρ) w := by
 unfold part
 rw [Sem.run_bind, run_isAgg h w]
 cases hst : td.st with
 | true =>
  simp [Sem.run_bind, run_sizeTd h w, of_true, CV.val, vals, List.map_take, List.map_drop]
 | false =>
  have h1 := h.one hst
  rw [h1] at hl
  rw [h1, take_one hl, of_one]
  have : (vals ρ cs).toArray[off]? = some ((cs[off]'(by omega)).val ρ) := by
   simp [vals, List.getElem?_eq_getElem (show off < cs.length by omega)]
  simp [this, CV.val]
theorem go_extract {x : Operand} {i : Nat} (H : Mem w ok live w1 ρ fp me) (ho : o.op = .extract x i) (E : ∀ v, ev s x = some v → a.eval x = v.val ρ ∧ v.In live ρ) (h : Out me (match ev s x with | some (.tp vs) => (match nth vs i with | some v => .out (.c v) [] | none => .fail) | _ => (.fail : OP)) (v, us)) : Goes P w ok live b o a w1 ρ me v us := by
 split at h
 ·rename_i vs hx
  split at h
  ·rename_i u hu
   injection out_out h with h1 h2
   subst h1; subst h2
   obtain ⟨e1, e2⟩ := E _ hx
   rw [nth_get] at hu
   refine goes_pure H (e2 u (List.mem_of_getElem? hu)) ?_
   unfold execOp
   simp [ho, e1, SV.val, Instr.extract, hu]
  ·exact h.elim
 ·exact h.elim
theorem fieldsOf_out {T : Nat} {fs : List (Nat × Nat)} (hC : TdsOk P C.Δ) (h : fieldsOf C T = some fs) : ∃ td F, get C.Δ T = some td ∧ TdOk P C.Δ T td ∧ P.underlying T = some (.struct F) ∧ F.toList.map (fun f => (f.offset, f.type)) = fs := by
 unfold fieldsOf at h
 split at h
 ·rename_i td htd
  split at h
  ·rename_i fs' hk
   injection h with h
   subst h
   obtain ⟨F, h1, h2⟩ := (hC T td htd).struct hk
   exact ⟨td, F, htd, hC T td htd, h1, h2⟩
  ·cases h
 ·cases h
theorem go_field {T : TypeId} {x : Operand} {f : Nat} (hC : TdsOk P C.Δ) (H : Mem w ok live w1 ρ fp me) (ho : o.op = .field T x f) (E : ∀ v, ev s x = some v → a.eval x = v.val ρ ∧ v.In live ρ) (h : Out me (fieldA C T f (ev s x)) (v, us)) : Goes P w ok live b o a w1 ρ me v us := by
 unfold fieldA at h
 split at h
 ·rename_i fs hfs
  obtain ⟨_, F, _, _, hu, hF⟩ := fieldsOf_out hC hfs
  split at h
  ·rename_i off ft hn
   obtain ⟨fl, hf, hoff, hty⟩ := fields_at hF hn
   split at h
   ·rename_i td htd
    obtain ⟨c, hx, h⟩ := cvOf_out h
    obtain ⟨e1, e2⟩ := E _ hx
    cases c with
    | lf => exact h.elim
    | ag cs =>
     obtain ⟨hle, h⟩ := bif_fail h
     have hle := Nat.le_of_ble_eq_true hle
     injection out_out h with h1 h2
     subst h1; subst h2
     refine goes_pure H (fun l hl => e2 l ?_) ?_
     ·rw [of_leaves] at hl
      exact List.mem_of_mem_drop (List.mem_of_mem_take hl)
     ·have hp := part_td (ρ := ρ) (hC ft td htd) hle w1
      unfold execOp
      simp [ho, e1, SV.val, CV.val, Instr.field, Sem.run_bind, run_underlying hu, hf, hty, hoff, asAgg]
      rw [hp]
      rfl
   ·exact h.elim
  ·exact h.elim
 ·exact h.elim
theorem add_field' (b : Addr) (i f : Nat) : (b.add i).add f = b.add (i + f) := by
 unfold Addr.add
 by_cases hm : i = 0
 ·simp [hm]
 ·by_cases hq : f = 0
  ·simp [hq]
  ·simp [hm, hq, Nat.add_assoc]
theorem fieldp_add (b : Addr) (m j : Nat) : fieldp (b.add m) j = b.add (m + j) := by
 cases j with
 | zero => rfl
 | succ j =>
  rw [← add_field']
  unfold fieldp
  simp [Addr.add]
theorem fieldp_off (b : Addr) (m j f : Nat) : (fieldp (b.add m) j).add f = fieldp (b.add m) (j + f) := by
 rw [fieldp_add, fieldp_add, add_field', Nat.add_assoc]
theorem add_at (g j i : Nat) : (⟨g, j, none⟩ : Addr).add i = ⟨g, j + i, none⟩ := by unfold Addr.add; split <;> simp_all
theorem run_fieldAt {T : TypeId} {F : Array Field} {f : Field} {i : Nat} (hu : P.underlying T = some (.struct F)) (hf : F[i]? = some f) (h0 : ∃ n, (sizeOf f.type).run P w1 = .ok n w1 ∧ n ≠ 0) (p : Addr) : (Instr.fieldAt T (.pointer (some p)) i).run P w1 = .ok (.pointer (some (p.add f.offset))) w1 := by
 obtain ⟨n, hn, hn0⟩ := h0
 simp [Instr.fieldAt, Sem.run_bind, run_underlying hu, hf, Instr.sureAddr, fieldPlace, hn, hn0]
theorem go_fieldAddr {T : TypeId} {x : Operand} {f : Nat} (hC : TdsOk P C.Δ) (H : Mem w ok live w1 ρ fp me) (ho : o.op = .fieldAddr T x f) (E : ∀ v, ev s x = some v → a.eval x = v.val ρ ∧ v.In live ρ) (h : Out me (fieldAddrA C T f (ev s x)) (v, us)) : Goes P w ok live b o a w1 ρ me v us := by
 unfold fieldAddrA at h
 split at h
 ·rename_i fs hfs
  obtain ⟨_, F, _, _, hu, hF⟩ := fieldsOf_out hC hfs
  split at h
  ·rename_i off ft hn
   obtain ⟨fl, hf, hoff, hty⟩ := fields_at hF hn
   split at h
   ·rename_i td htd
    have hs : ∃ n, (sizeOf fl.type).run P w1 = .ok n w1 ∧ n ≠ 0 := by
     rw [hty]
     have hT := hC ft td htd
     refine ⟨td.size, run_sizeTd hT w1, ?_⟩
     rw [hT.size]
     have := sz_pos td.ty
     omega
    obtain ⟨l, hx, h⟩ := lfOf_out h
    obtain ⟨e1, e2⟩ := E _ hx
    have hin := lf_of e2
    cases l <;> first | exact h.elim | skip
    ·rename_i r j
     injection val_out h with h1 h2
     subst h1; subst h2
     refine goes_leaf H ⟨fun q hq => hin.ref q hq, trivial⟩ ?_
     have e1' : a.eval x = .pointer (some ⟨(ρ r).g, j, none⟩) := e1
     have hr := run_fieldAt (P := P) (w1 := w1) hu hf hs ⟨(ρ r).g, j, none⟩
     unfold execOp
     simp [ho, e1', Sem.run_bind, hr, Leaf.val, hoff, add_at]
    ·rename_i r i j z
     injection val_out h with h1 h2
     subst h1; subst h2
     refine goes_leaf H ⟨fun q hq => hin.ref q hq, hin.ok⟩ ?_
     have e1' : a.eval x = .pointer (some (fieldp ((adr (ρ r).A).add (i * z)) j)) := e1
     have hr := run_fieldAt (P := P) (w1 := w1) hu hf hs (fieldp ((adr (ρ r).A).add (i * z)) j)
     unfold execOp
     simp [ho, e1', Sem.run_bind, hr, Leaf.val, hoff, fieldp_off]
   ·exact h.elim
  ·exact h.elim
 ·exact h.elim
theorem run_len_slice {T : TypeId} {e : Nat} (hu : P.underlying T = some (.slice e)) (A : Option Addr) (n c : Nat) : (Builtin.len_ #[T] o.type #[.slice A n c]).run P w1 = .ok (.int .i64 n) w1 := by
 simp [Builtin.len_, Sem.run_bind, run_underlying hu, goInt]
theorem go_len {x : Operand} {T : TypeId} (hC : TdsOk P C.Δ) (H : Mem w ok live w1 ρ fp me) (ho : o.op = .call { callee := .builtin .len, args := #[x], argTypes := #[T] }) (E : ∀ v, ev s x = some v → a.eval x = v.val ρ ∧ v.In live ρ) (h : Out me (lenA C T (ev s x)) (v, us)) : Goes P w ok live b o a w1 ρ me v us := by
 unfold lenA at h
 split at h
 ·rename_i td htd
  have hT := hC T td htd
  have body : ∀ u n, a.eval x = u → (Builtin.len_ #[T] o.type #[u]).run P w1 = .ok (.int .i64 n) w1 → Comp (v, us) (.int .i64 n) → Goes P w ok live b o a w1 ρ me v us := by
   intro u n he hr hc
   refine goes_comp H hc ?_
   unfold execOp
   simp [ho, resolve, Sem.run_bind, he, invoke, builtin]
   simp [hr]
  split at h
  ·rename_i e hk
   have hu := hT.slice hk
   split at h
   ·rename_i r hx
    obtain ⟨e1, e2⟩ := E _ hx
    obtain ⟨e', t, xs, h, _, h1, _⟩ := getRow_out H h
    exact body _ _ e1 (run_len_slice hu _ _ _) (comp_val h rfl (fun _ => by simp [Leaf.val, h1]))
   ·rename_i r lo hi n z hx
    obtain ⟨e1, e2⟩ := E _ hx
    exact body _ _ e1 (run_len_slice hu _ _ _) (comp_val h rfl (fun _ => rfl))
   ·rename_i hx
    obtain ⟨e1, e2⟩ := E _ hx
    exact body _ _ e1 (run_len_slice hu _ _ _) (comp_val h rfl (fun _ => rfl))
   ·exact h.elim
  ·rename_i hk
   have hu := hT.str hk
   split at h
   ·rename_i st hx
    obtain ⟨e1, e2⟩ := E _ hx
    exact body _ _ e1 (by simp [Builtin.len_, Sem.run_bind, run_underlying hu, goInt, SV.val, CV.val, Leaf.val]) (comp_val h rfl (fun _ => rfl))
   ·exact h.elim
  ·exact h.elim
 ·exact h.elim
theorem plusLo_eq (lo : Option Nat) (z : Nat) : plusLo lo z = lo.getD 0 + z := by cases lo <;> simp [plusLo]
theorem bt_at (st : ByteArray) (i : Nat) (h : i < st.size) : ∃ c : UInt8, st[i]? = some c ∧ ((c.toNat : Nat) : Int) = bt st (i : Int) := by
 refine ⟨st[i], by simp [h], ?_⟩
 unfold bt
 have : st.toList = st.data.toList := ByteArray.toList_eq st
 rw [this]
 have h' : i < st.data.size := h
 simp only [List.getD_eq_getElem?_getD, Int.toNat_natCast, Array.getElem?_toList]
 rw [Array.getElem?_eq_getElem h']
 rfl
theorem go_index {T : TypeId} {x y : Operand} (hC : TdsOk P C.Δ) (H : Mem w ok live w1 ρ fp me) (ho : o.op = .index T x y) (E : ∀ z, z = x ∨ z = y → ∀ v, ev s z = some v → a.eval z = v.val ρ ∧ v.In live ρ) (h : Out me (indexA C T (ev s x) (ev s y)) (v, us)) : Goes P w ok live b o a w1 ρ me v us := by
 unfold indexA at h
 split at h
 ·rename_i td htd
  split at h
  ·rename_i hk
   have hu := (hC T td htd).str hk
   split at h
   ·rename_i st hx
    obtain ⟨k, z, hz, h⟩ := intOf_out h
    obtain ⟨h0, h1, h⟩ := h
    obtain ⟨x1, _⟩ := E x (.inl rfl) _ hx
    obtain ⟨y1, _⟩ := E y (.inr rfl) _ hz
    obtain ⟨m, rfl⟩ := Int.eq_ofNat_of_zero_le h0
    obtain ⟨c, hc, hb⟩ := bt_at st m (by omega)
    refine goes_comp H (comp_val h rfl (fun _ => rfl)) ?_
    have x1' : a.eval x = .string st := x1
    have y1' : a.eval y = .int k (m : Int) := y1
    unfold execOp
    simp [ho, x1', y1', Sem.run_bind, Instr.index, asIntOf, run_underlying hu, h0, hc, Leaf.val, hb]
   ·exact h.elim
  ·exact h.elim
 ·exact h.elim
theorem run_indexAt {T : TypeId} {e : Nat} {te : TD} (hu : P.underlying T = some (.slice e)) (hte : TdOk P C.Δ e te) {A : Option Addr} {n c : Nat} {k : IntKind} {z : Int} (hA : ∃ ad, A = some ad) (h0 : 0 ≤ z) (h1 : z < n) : (Instr.indexAt T (.slice A n c) (.int k z)).run P w1 = .ok (.pointer (some ((adr A).add (z.toNat * te.size)))) w1 := by
 obtain ⟨ad, rfl⟩ := hA
 simp [Instr.indexAt, Sem.run_bind, asIntOf, run_underlying hu, h0, h1, run_sizeTd hte w1, adr]
theorem C_some {t : Ty} {A : Option Addr} {xs : List (den t)} {n : Nat} (h : (kd t).C w1 A n xs) (hn : 0 < n) : ∃ ad, A = some ad := by
 obtain ⟨ad, h, _⟩ := h.2.2 hn
 exact ⟨ad, h⟩
theorem go_indexAddr {T : TypeId} {x y : Operand} (hC : TdsOk P C.Δ) (H : Mem w ok live w1 ρ fp me) (ho : o.op = .indexAddr T x y) (E : ∀ z, z = x ∨ z = y → ∀ v, ev s z = some v → a.eval z = v.val ρ ∧ v.In live ρ) (h : Out me (indexAddrA C T (ev s x) (ev s y)) (v, us)) : Goes P w ok live b o a w1 ρ me v us := by
 unfold indexAddrA at h
 split at h
 ·rename_i td htd
  split at h
  ·rename_i e hk
   have hu := (hC T td htd).slice hk
   split at h
   ·rename_i te hte
    have hte' := hC e te hte
    obtain ⟨k, z, hz, h⟩ := intOf_out h
    obtain ⟨l, hx, h⟩ := lfOf_out h
    obtain ⟨x1, x2⟩ := E x (.inl rfl) _ hx
    obtain ⟨y1, _⟩ := E y (.inr rfl) _ hz
    have hin := lf_of x2
    have y1' : a.eval y = .int k z := y1
    cases l <;> first | exact h.elim | skip
    ·rename_i r
     obtain ⟨e', t, xs, h, hz', h1, h2, h3⟩ := getRow_out H h
     obtain ⟨hb, h⟩ := bif_fail h
     obtain ⟨h4, h5, h⟩ := h
     injection val_out h with e1 e2
     subst e1; subst e2
     have x1' : a.eval x = .slice (ρ r).A (ρ r).n (ρ r).c := x1
     have hsz : te.size = (ρ r).z := by rw [hz']; exact Nat.eq_of_beq_eq_true hb
     refine goes_leaf H ⟨fun q hq => hin.ref q hq, ⟨by omega, hsz⟩⟩ ?_
     have hr := run_indexAt (P := P) (C := C) (w1 := w1) (k := k) (n := (ρ r).n) (c := (ρ r).c) hu hte' (C_some h3 (by omega)) h4 (by rw [h1]; exact h5)
     unfold execOp
     simp only [ho, x1', y1', Sem.run_bind, hr, Result.andThen_ok]
     rfl
    ·rename_i r lo hi n size
     obtain ⟨e', t, xs, h, hz', h1, h2, h3⟩ := getRow_out H h
     obtain ⟨hb, h⟩ := bif_fail h
     obtain ⟨h4, h5, h⟩ := h
     injection val_out h with e1 e2
     subst e1; subst e2
     obtain ⟨c1, c2, c3, c4⟩ := hin.ok
     have hsz : te.size = (ρ r).z := by rw [hz']; exact Nat.eq_of_beq_eq_true hb
     have x1' : a.eval x = .slice (cutA (ρ r).A (ρ r).c (lo.getD 0) size) n (cutC (ρ r).c (lo.getD 0)) := x1
     obtain ⟨ad, hA⟩ := C_some h3 (by omega)
     have hcA : cutA (ρ r).A (ρ r).c (lo.getD 0) size = some (ad.add (lo.getD 0 * size)) := by
      unfold cutA
      rw [if_neg (by omega), hA]
      rfl
     have hlo := plusLo_eq lo z.toNat
     refine goes_leaf H ⟨fun q hq => hin.ref q hq, ⟨by rw [hlo]; omega, hsz⟩⟩ ?_
     have hr := run_indexAt (P := P) (C := C) (w1 := w1) (k := k) (n := n) (c := cutC (ρ r).c (lo.getD 0)) hu hte' ⟨_, hcA⟩ h4 h5
     unfold execOp
     simp only [ho, x1', y1', Sem.run_bind, hr, Result.andThen_ok]
     rw [hcA]
     simp only [Leaf.val, hA, adr, hlo, fieldp, Option.getD_some, add_field', c4, hsz, Nat.add_mul]
     rfl
   ·exact h.elim
  ·exact h.elim
 ·exact h.elim
/-! ### cuts -/
theorem bnd_out {x : Option Operand} {k : Option (Bool × Int) → OP} {r : SV × Me} (h : Out me (bnd s x k) r) : (x = none ∧ Out me (k none) r) ∨ ∃ y i z, x = some y ∧ ev s y = some (.c (.lf (.int i z))) ∧ Out me (k (some (isNat y, z))) r := by
 unfold bnd at h
 split at h
 ·exact .inl ⟨rfl, h⟩
 ·obtain ⟨i, z, hz, h⟩ := intOf_out h
  exact .inr ⟨_, i, z, rfl, hz, h⟩
theorem run_bound {k : IntKind} {z : Int} {y : Nat} {c : BoundsCode} (h0 : 0 ≤ z) (h1 : z ≤ y) : (Instr.sliceBound (.int k z) y c).run P w1 = .ok z.toNat w1 := by
 simp [Instr.sliceBound, Sem.run_bind, asIntOf, h0, h1]
theorem run_cut {T e : Nat} {te : TD} (hu : P.underlying T = some (.slice e)) (hte : TdOk P C.Δ e te) (A : Option Addr) (n c : Nat) (lo hi : Option (IntKind × Int)) (hlo : ∀ k z, lo = some (k, z) → 0 ≤ z) (hhi : ∀ k z, hi = some (k, z) → 0 ≤ z ∧ z ≤ n)
  (hlh : ∀ k z, lo = some (k, z) → z ≤ ((hi.map (·.2.toNat)).getD n : Nat)) (hnc : n ≤ c) : (Instr.sliceAt T (.slice A n c) (lo.map fun x => .int x.1 x.2) (hi.map fun x => .int x.1 x.2) none).run P w1 = .ok (.slice (cutA A c ((lo.map (·.2.toNat)).getD 0) te.size) ((hi.map (·.2.toNat)).getD n - (lo.map (·.2.toNat)).getD 0) (cutC c ((lo.map (·.2.toNat)).getD 0))) w1 := by
 have hz := run_sizeTd (C := C) hte w1
 cases lo with
 | none =>
  cases hi with
  | none => simp [Instr.sliceAt, Instr.slice, Instr.sliceBounds, Sem.run_bind, run_underlying hu, hz, cutA, cutC]
  | some hi =>
   obtain ⟨h1, h2⟩ := hhi _ _ rfl
   have hb := fun code => run_bound (P := P) (w1 := w1) (k := hi.1) (y := c) (c := code) h1 (by omega)
   simp [Instr.sliceAt, Instr.slice, Instr.sliceBounds, Sem.run_bind, run_underlying hu, hz, cutA, cutC, hb]
 | some lo =>
  have h0 := hlo _ _ rfl
  have h3 := hlh _ _ rfl
  cases hi with
  | none =>
   have hb := fun code => run_bound (P := P) (w1 := w1) (k := lo.1) (y := n) (c := code) h0 (by simpa using h3)
   simp [Instr.sliceAt, Instr.slice, Instr.sliceBounds, Sem.run_bind, run_underlying hu, hz, cutA, cutC, hb]
  | some hi =>
   obtain ⟨h1, h2⟩ := hhi _ _ rfl
   have hb := fun code => run_bound (P := P) (w1 := w1) (k := hi.1) (y := c) (c := code) h1 (by omega)
   have hb2 := fun code => run_bound (P := P) (w1 := w1) (k := lo.1) (y := hi.2.toNat) (c := code) h0 (by simpa using h3)
   simp [Instr.sliceAt, Instr.slice, Instr.sliceBounds, Sem.run_bind, run_underlying hu, hz, cutA, cutC, hb, hb2]
theorem run_cutS {T : Nat} (hu : P.underlying T = some .string) (st : ByteArray) (lo hi : Option (IntKind × Int)) (hlo : ∀ k z, lo = some (k, z) → 0 ≤ z) (hhi : ∀ k z, hi = some (k, z) → 0 ≤ z ∧ z ≤ st.size)
  (hlh : ∀ k z, lo = some (k, z) → z ≤ ((hi.map (·.2.toNat)).getD st.size : Nat)) : (Instr.sliceAt T (.string st) (lo.map fun x => .int x.1 x.2) (hi.map fun x => .int x.1 x.2) none).run P w1 = .ok (.string (st.extract ((lo.map (·.2.toNat)).getD 0) ((hi.map (·.2.toNat)).getD st.size))) w1 := by
 cases lo with
 | none =>
  cases hi with
  | none => simp [Instr.sliceAt, Instr.slice, Instr.sliceBounds, Sem.run_bind, run_underlying hu]
  | some hi =>
   obtain ⟨h1, h2⟩ := hhi _ _ rfl
   have hb := fun code => run_bound (P := P) (w1 := w1) (k := hi.1) (y := st.size) (c := code) h1 (by omega)
   simp [Instr.sliceAt, Instr.slice, Instr.sliceBounds, Sem.run_bind, run_underlying hu, hb]
 | some lo =>
  have h0 := hlo _ _ rfl
  have h3 := hlh _ _ rfl
  cases hi with
  | none =>
   have hb := fun code => run_bound (P := P) (w1 := w1) (k := lo.1) (y := st.size) (c := code) h0 (by simpa using h3)
   simp [Instr.sliceAt, Instr.slice, Instr.sliceBounds, Sem.run_bind, run_underlying hu, hb]
  | some hi =>
   obtain ⟨h1, h2⟩ := hhi _ _ rfl
   have hb := fun code => run_bound (P := P) (w1 := w1) (k := hi.1) (y := st.size) (c := code) h1 (by omega)
   have hb2 := fun code => run_bound (P := P) (w1 := w1) (k := lo.1) (y := hi.2.toNat) (c := code) h0 (by simpa using h3)
   simp [Instr.sliceAt, Instr.slice, Instr.sliceBounds, Sem.run_bind, run_underlying hu, hb, hb2]
theorem go_slice {T : TypeId} {x : Operand} {lo hi mx : Option Operand} (hC : TdsOk P C.Δ) (H : Mem w ok live w1 ρ fp me) (ho : o.op = .slice T x lo hi mx) (E : ∀ z, z = x ∨ lo = some z ∨ hi = some z → ∀ v, ev s z = some v → a.eval z = v.val ρ ∧ v.In live ρ) (h : Out me (sliceA C s T (ev s x) lo hi mx) (v, us)) : Goes P w ok live b o a w1 ρ me v us := by
 unfold sliceA at h
 cases mx with
 | some _ => exact h.elim
 | none =>
  simp only at h
  have ops : ∀ (y : Option Operand), (y = lo ∨ y = hi) → ∀ {k : Option (Bool × Int) → OP} {r : SV × Me}, Out me (bnd s y k) r → ∃ q : Option (IntKind × Int), (y.map a.eval) = q.map (fun x => .int x.1 x.2) ∧ ∃ q' : Option (Bool × Int), q'.map (·.2) = q.map (·.2) ∧ Out me (k q') r := by
   intro y hy k r hk
   rcases bnd_out hk with ⟨rfl, h⟩ | ⟨z, i, n, rfl, hz, h⟩
   ·exact ⟨none, rfl, none, rfl, h⟩
   ·have e1 := (E z (by rcases hy with h | h <;> simp [← h]) _ hz).1
    exact ⟨some (i, n), by simp [e1, SV.val, CV.val, Leaf.val], some (isNat z, n), rfl, h⟩
  split at h
  ·rename_i st hx
   obtain ⟨e1, _⟩ := E x (.inl rfl) _ hx
   have e1' : a.eval x = .string st := e1
   split at h
   ·exact h.elim
   ·rename_i td htd
    split at h
    ·rename_i hk
     have hu := (hC T td htd).str hk
     obtain ⟨ql, hl, ql', hl', h⟩ := ops lo (.inl rfl) h
     obtain ⟨qh, hh, qh', hh', h⟩ := ops hi (.inr rfl) h
     have fin : ∀ {u : ByteArray}, Out me (.val (.str u)) (v, us) → (∀ k z, ql = some (k, z) → 0 ≤ z) → (∀ k z, qh = some (k, z) → 0 ≤ z ∧ z ≤ st.size) → (∀ k z, ql = some (k, z) → z ≤ ((qh.map (·.2.toNat)).getD st.size : Nat)) → u = st.extract ((ql.map (·.2.toNat)).getD 0) ((qh.map (·.2.toNat)).getD st.size) → Goes P w ok live b o a w1 ρ me v us := by
      intro u hv h1 h2 h3 h4
      refine goes_comp H (comp_val hv rfl (fun _ => rfl)) ?_
      unfold execOp
      simp only [ho, e1', hl, hh, Sem.run_bind, Option.map_none, run_cutS (P := P) (w1 := w1) hu st ql qh h1 h2 h3, Result.andThen_ok, ← h4]
      rfl
     cases ql' with
     | none =>
      cases ql with
      | some _ => cases hl'
      | none =>
       cases qh' with
       | none =>
        cases qh with
        | some _ => cases hh'
        | none => exact fin h (fun _ _ h => by cases h) (fun _ _ h => by cases h) (fun _ _ h => by cases h) (by simp)
       | some qh' =>
        cases qh with
        | none => cases hh'
        | some qh =>
         injection hh' with hh'
         obtain ⟨q1, q2⟩ := qh'
         simp only at hh'
         obtain ⟨h1, h2, h⟩ := h
         exact fin h (fun _ _ h => by cases h) (fun k z h => by cases h; simp only at hh'; omega) (fun _ _ h => by cases h) (by simp [hh'])
     | some ql' =>
      cases ql with
      | none => cases hl'
      | some ql =>
       injection hl' with hl'
       obtain ⟨p1, p2⟩ := ql'
       simp only at hl'
       cases qh' with
       | none =>
        cases qh with
        | some _ => cases hh'
        | none =>
         obtain ⟨h1, h2, h⟩ := h
         exact fin h (fun k z h => by cases h; simp only at hl'; omega) (fun _ _ h => by cases h) (fun k z h => by cases h; simp only at hl'; simp; omega) (by simp [hl'])
       | some qh' =>
        cases qh with
        | none => cases hh'
        | some qh =>
         injection hh' with hh'
         obtain ⟨q1, q2⟩ := qh'
         simp only at hh'
         obtain ⟨h1, h2, h3, h⟩ := h
         exact fin h (fun k z h => by cases h; simp only at hl'; omega) (fun k z h => by cases h; simp only at hh'; omega) (fun k z h => by cases h; simp only at hl' hh'; simp; omega) (by simp [hl', hh'])
    ·exact h.elim
  ·rename_i r hx
   obtain ⟨e1, e2⟩ := E x (.inl rfl) _ hx
   have hin := lf_of e2
   have e1' : a.eval x = .slice (ρ r).A (ρ r).n (ρ r).c := e1
   split at h
   ·rename_i td htd
    split at h
    ·rename_i e hk
     have hu := (hC T td htd).slice hk
     split at h
     ·rename_i te hte
      have hte' := hC e te hte
      obtain ⟨ql, hl, ql', hl', h⟩ := ops lo (.inl rfl) h
      obtain ⟨qh, hh, qh', hh', h⟩ := ops hi (.inr rfl) h
      obtain ⟨e', t, xs, h, hz', n1, n2, n3⟩ := getRow_out H h
      rcases bif_out h with ⟨_, h⟩ | ⟨hb, h⟩
      ·exact h.elim
      have hsz : te.size = (ρ r).z := by rw [hz']; exact Nat.eq_of_beq_eq_true (by simpa using hb)
      have fin : ∀ {l : Leaf}, Out me (.val l) (v, us) → l.In live ρ → (∀ k z, ql = some (k, z) → 0 ≤ z) → (∀ k z, qh = some (k, z) → 0 ≤ z ∧ z ≤ (ρ r).n) → (∀ k z, ql = some (k, z) → z ≤ ((qh.map (·.2.toNat)).getD (ρ r).n : Nat)) → l.val ρ = .slice (cutA (ρ r).A (ρ r).c ((ql.map (·.2.toNat)).getD 0) te.size) ((qh.map (·.2.toNat)).getD (ρ r).n - (ql.map (·.2.toNat)).getD 0) (cutC (ρ r).c ((ql.map (·.2.toNat)).getD 0)) → Goes P w ok live b o a w1 ρ me v us := by
       intro l hv hi' h1 h2 h3 h4
       injection val_out hv with q1 q2
       subst q1; subst q2
       refine goes_leaf H hi' ?_
       unfold execOp
       simp only [ho, e1', hl, hh, Sem.run_bind, Option.map_none, run_cut (P := P) (C := C) (w1 := w1) hu hte' (ρ r).A (ρ r).n (ρ r).c ql qh h1 h2 h3 (by omega), Result.andThen_ok, ← h4]
       rfl
      cases ql' with
      | none =>
       cases ql with
       | some _ => cases hl'
       | none =>
        cases qh' with
        | none =>
         cases qh with
         | some _ => cases hh'
         | none => exact fin h ⟨fun q hq => hin.ref q hq, trivial⟩ (fun _ _ h => by cases h) (fun _ _ h => by cases h) (fun _ _ h => by cases h) (by simp [Leaf.val, Hd.sl, cut_add0, cutC])
        | some qh' =>
         cases qh with
         | none => cases hh'
         | some qh =>
          injection hh' with hh'
          obtain ⟨q1, q2⟩ := qh'
          simp only at hh'
          obtain ⟨h1, h2, h⟩ := h
          exact fin h ⟨fun q hq => hin.ref q hq, ⟨Nat.zero_le _, by simp; omega, by simp, hsz⟩⟩ (fun _ _ h => by cases h) (fun k z h => by cases h; simp only at hh'; omega) (fun _ _ h => by cases h) (by simp [Leaf.val, hh'])
      | some ql' =>
       cases ql with
       | none => cases hl'
       | some ql =>
        injection hl' with hl'
        obtain ⟨p1, p2⟩ := ql'
        simp only at hl'
        cases qh' with
        | none =>
         cases qh with
         | some _ => cases hh'
         | none =>
          obtain ⟨h1, h2, h⟩ := h
          exact fin h ⟨fun q hq => hin.ref q hq, ⟨by simp; omega, Nat.le_refl _, by simp; omega, hsz⟩⟩ (fun k z h => by cases h; simp only at hl'; omega) (fun _ _ h => by cases h) (fun k z h => by cases h; simp only at hl'; simp; omega) (by simp [Leaf.val, hl', n1])
        | some qh' =>
         cases qh with
         | none => cases hh'
         | some qh =>
          injection hh' with hh'
          obtain ⟨q1, q2⟩ := qh'
          simp only at hh'
          obtain ⟨h1, h2, h3, h⟩ := h
          exact fin h ⟨fun q hq => hin.ref q hq, ⟨by simp; omega, by simp; omega, by simp, hsz⟩⟩ (fun k z h => by cases h; simp only at hl'; omega) (fun k z h => by cases h; simp only at hh'; omega) (fun k z h => by cases h; simp only at hl' hh'; simp; omega) (by simp [Leaf.val, hl', hh'])
     ·exact h.elim
    ·exact h.elim
   ·exact h.elim
  ·exact h.elim
end
end Go.Proofs.YthncjcfnpfajaaaA
