/- What one operation does to what a call holds: a block made, read, written; a row made, read, written, grown; a call. Plain lemmas; no condition. -/
import Derived.Test.YtgihjaonapngdaaYSep
import Derived.Test.YtgihjaonapngdaaWRepsOne
namespace Go.Proofs.YtgihjaonapngdaaY
open Go.RowKit Go.Proofs.YtgihjaonapngdaaW.PrintWords Go.Proofs.YtgihjaonapngdaaW.PrintLast
set_option linter.unusedVariables false
set_option linter.unusedSimpArgs false

/-- Is a type's variable one cell? -/
def plainD : TypeDesc → Bool
  | .struct _ | .array _ _ => false
  | _ => true
section
variable {P : Program}
theorem run_load1 {w : World} {p : Addr} {v : Value} {ty : TypeId} {d : TypeDesc} (hc : w.cell? p = some v) (hu : P.underlying ty = some d) (hk : plainD d = true) : (Instr.loadAt ty (.pointer (some p))).run P w = .ok v w := by
  have hagg : (isAgg ty).run P w = .ok false w := by
    unfold isAgg
    rw [Sem.run_bind, run_underlying hu w]
    cases d <;> simp_all [plainD]
  simp [Instr.loadAt, Instr.sureAddr, loadVar, Sem.run_bind, hagg, hc]
theorem run_loadn {w : World} {p : Addr} {cs : List Value} {ty : TypeId} {d : TypeDesc} (hc : ∀ j v, cs[j]? = some v → w.cell? (p.add j) = some v) (hu : P.underlying ty = some d) (hk : plainD d = false) (hn : P.cellsOf ty = cs.length) (h0 : 0 < cs.length) : (Instr.loadAt ty (.pointer (some p))).run P w = .ok (.agg cs.toArray) w := by
  have hagg : (isAgg ty).run P w = .ok true w := by
    unfold isAgg
    rw [Sem.run_bind, run_underlying hu w]
    cases d <;> simp_all [plainD]
  have hl := run_loadCells_list (P := P) w p cs hc
  unfold Program.cellsOf at hn
  cases hq : P.info? ty with
  | none => simp [hq] at hn; omega
  | some i =>
    have hs : i.size = cs.length := by simpa [hq] using hn
    simp [Instr.loadAt, Instr.sureAddr, loadVar, Sem.run_bind, hagg, sizeOf, typeInfo, hq, hs, hl]
theorem blk_cell {w : World} {g j t : Nat} {cs : List Value} {v : Value} (h : w.heap[g]? = some (.cells cs.toArray t (0, 0))) (hv : cs[j]? = some v) : w.cell? ⟨g, j, none⟩ = some v := by
  simp [World.cell?, h, hv]
theorem add_at (g j i : Nat) : (⟨g, j, none⟩ : Addr).add i = ⟨g, j + i, none⟩ := by unfold Addr.add; split <;> simp_all
theorem run_storeb {w : World} {g j t : Nat} {cs : List Value} {u : Value} {ty : TypeId} (h : w.heap[g]? = some (.cells cs.toArray t (0, 0))) (hn : P.cellsOf ty = u.cells.size) (h0 : 0 < u.cells.size) (hj : j + u.cells.size ≤ cs.length) (h1 : ∀ q ∈ u.cells.toList, q.oneCell' = true) :
    (Instr.storeAt ty (.pointer (some ⟨g, j, none⟩)) u).run P w = .ok () (w.setRow g (cs.take j ++ u.cells.toList ++ cs.drop (j + u.cells.size)).toArray) := by
  have hs := run_storeCells_at (P := P) g j t u.cells.toList 0 cs.toArray w h (by simpa using hj) h1
  simp only [Nat.add_zero, Array.length_toList] at hs
  unfold Program.cellsOf at hn
  cases hq : P.info? ty with
  | none => simp [hq] at hn; omega
  | some i =>
    have hz : i.size = u.cells.size := by simpa [hq] using hn
    simp only [Instr.storeAt, Instr.sureAddr, storeVar, Sem.run_bind, Sem.run_pure, Result.andThen_ok, sizeOf, typeInfo, run_program]
    simp [hq, hz, hs]
end
section
variable {P : Program} {ops : Array Oper} {rest : List Oper} {o : Oper} {a : Act} {Q : Exit → Act → World → Prop} {w0 w w1 : World} {ok : Nat → Prop} {L : List Part'}
theorem ev_run {w2 : World} {v : Value} (hg : o.guard = none) (hrun : (execOp a.eval o).run P w1 = .ok (.value v) w2) (h : wpList P ops Q rest (a.put o.dst v) w2) : wpList P ops Q (o :: rest) a w1 := Kd.event_run hg hrun h
/-- A new variable in memory. -/
theorem ev_box {N : Tmp} (S : St w0 w ok w1 L) (hd : o.dst = some N) (hg : o.guard = none) {cs : List Value} {t : TypeId}
    (hrun : (execOp a.eval o).run P w1 = .ok (.value (.pointer (some ⟨w1.heap.size, 0, none⟩))) (w1.alloc (.cells cs.toArray t (0, 0))))
    (h : ∀ g w2, St w0 w ok w2 (.blk g t cs :: L) → wpList P ops Q rest (a.put o.dst (.pointer (some ⟨g, 0, none⟩))) w2) : wpList P ops Q (o :: rest) a w1 := by
  refine ev_run hg hrun (h _ _ (S.add (p := fun k => k = w1.heap.size) (below_alloc (Below.refl _ _) _) ⟨rfl, Nat.le_trans S.base S.size, blk_new w1 _⟩ (fun k hk => by omega)))
/-- A variable read. -/
theorem ev_load {N : Tmp} (S : St w0 w ok w1 L) (i : Nat) (hd : o.dst = some N) {g j t : Nat} {cs : List Value} (hi : L[i]? = some (.blk g t cs)) (hg : o.guard = none) {ty : TypeId} {x : Operand} (ho : o.op = .load ty x) (hx : a.eval x = .pointer (some ⟨g, j, none⟩))
    {d : TypeDesc} (hu : P.underlying ty = some d) (hk : plainD d = true) {v : Value} (hv : cs[j]? = some v) (h : wpList P ops Q rest (a.put o.dst v) w1) : wpList P ops Q (o :: rest) a w1 := by
  refine ev_run hg ?_ h
  have hb := (S.get i hi).2.2
  have hr := run_load1 (P := P) (blk_cell hb hv) hu hk
  unfold execOp
  simp [ho, hx, Sem.run_bind, hr]
theorem ev_loads {N : Tmp} (S : St w0 w ok w1 L) (i : Nat) (hd : o.dst = some N) {g j t : Nat} {cs : List Value} (hi : L[i]? = some (.blk g t cs)) (hg : o.guard = none) {ty : TypeId} {x : Operand} (ho : o.op = .load ty x) (hx : a.eval x = .pointer (some ⟨g, j, none⟩))
    {d : TypeDesc} (hu : P.underlying ty = some d) (hk : plainD d = false) (n : Nat) (hn : P.cellsOf ty = n) (h0 : 0 < n) (hj : Nat.ble (j + n) cs.length = true) (vs : List Value) (hvs : (cs.drop j).take n = vs) (h : wpList P ops Q rest (a.put o.dst (.agg vs.toArray)) w1) : wpList P ops Q (o :: rest) a w1 := by
  subst hvs
  refine ev_run hg ?_ h
  have hb := (S.get i hi).2.2
  have hj := Nat.le_of_ble_eq_true hj
  have hlen : ((cs.drop j).take n).length = n := by simp; omega
  have hr := run_loadn (P := P) (w := w1) (p := ⟨g, j, none⟩) (cs := (cs.drop j).take n) (ty := ty) (fun q v hq => by
    rw [add_at]
    refine blk_cell hb ?_
    rw [List.getElem?_take] at hq
    split at hq
    · rwa [List.getElem?_drop] at hq
    · cases hq) hu hk (by omega) (by omega)
  unfold execOp
  simp [ho, hx, Sem.run_bind, hr]
/-- A variable written. -/
theorem ev_store (S : St w0 w ok w1 L) (i : Nat) {p : Tmp} {ty : TypeId} {x : Operand} (ho : o.op = .store ty (.tmp p) x) {g j t : Nat} {cs : List Value} (hi : L[i]? = some (.blk g t cs)) (hg : o.guard = none) (hd : o.dst = none) (hp : a.eval (.tmp p) = .pointer (some ⟨g, j, none⟩))
    {u : Value} (hx : a.eval x = u) (n : Nat) (hn : P.cellsOf ty = n) (hun : u.cells.size = n) (h0 : 0 < n) (hj : Nat.ble (j + n) cs.length = true) (h1 : (u.cells.toList.all fun q => q.oneCell') = true) (cs' : List Value) (hc : cs' = cs.take j ++ u.cells.toList ++ cs.drop (j + n))
    (h : ∀ w2, St w0 w ok w2 (L.set i (.blk g t cs')) → wpList P ops Q rest a w2) : wpList P ops Q (o :: rest) a w1 := by
  subst hun
  have hb := (S.get i hi).2.2
  have h1 : ∀ q ∈ u.cells.toList, q.oneCell' = true := fun q hq => List.all_eq_true.1 h1 q hq
  have hr := run_storeb (P := P) (ty := ty) hb hn h0 (Nat.le_of_ble_eq_true hj) h1
  refine wpList_plain hg fun K hK => ?_
  unfold Oper.wp
  have hrun : (execOp a.eval o).run P w1 = .ok .skip (w1.setRow g (cs.take j ++ u.cells.toList ++ cs.drop (j + u.cells.size)).toArray) := by
    unfold execOp
    simp [ho, hp, hx, Sem.run_bind, hr]
  rw [hrun]
  show K (a.put o.dst undef) _
  rw [hd]
  refine hK _ _ (h _ (S.upd i hi fun q hq hf => ?_))
  have hlt : g < w1.heap.size := (Array.getElem?_eq_some_iff.1 hb).1
  refine ⟨rfl, rfl, rfl, ?_, fun k hk hn => ?_, .inl hf.1, hf.2.1, ?_⟩
  · simp [World.setRow]
  · refine setRow_other _ _ _ _ ?_
    rintro rfl
    exact hn hf.1
  · rw [hc]
    exact setRow_heap _ _ _ _ _ _ hb
end

/-! ### calls -/
section
variable {w0 w w1 w2 : World} {ok : Nat → Prop} {L M : List Part'}
theorem St.plain (S : St w0 w ok w1 L) (R : St w1 w1 (fun k => w1.heap.size ≤ k) w2 M) : St w0 w ok w2 (M ++ L) := by
  have hb := R.below
  refine S.next hb.os hb.tape hb.output hb.size (fun k hk _ => hb.block k hk) ?_
  refine sep_join (sep_lower (Nat.le_trans S.base S.size) R.sep) (sep_move (sep_bound S.sep) (fun k hk => hb.block k hk.2.2)) (fun k hk => S.fresh k hk) (fun k hk => hk.1) (fun k hk x => ?_)
  have := x.2.2
  omega
/-- The parts that a callee is handed, and what it may do to them. -/
theorem St.hand {K : List Part'} (S : St w0 w ok w1 (K ++ L)) : ∃ okp : Nat → Prop, St w0 w1 okp w1 K ∧ ∀ w2 M, St w0 w1 okp w2 M → St w0 w ok w2 (M ++ L) := by
  obtain ⟨p, hp, hK, hL⟩ := sep_split S.sep
  have hK := sep_bound hK
  refine ⟨fun k => (p k ∧ w0.heap.size ≤ k ∧ k < w1.heap.size) ∨ w1.heap.size ≤ k, ⟨sep_mono hK (fun k h => .inl h), S.below, fun _ _ _ => rfl, Nat.le_refl _, fun k h => .inr h, Nat.le_trans S.base S.size⟩, fun w2 M R => ?_⟩
  have hb := R.below
  refine ⟨?_, hb, fun k hk hn => ?_, Nat.le_trans S.size R.size, S.up, S.base⟩
  · refine sep_join R.sep (sep_move (sep_bound hL) (fun k hk => R.keep k hk.2.2 (fun x => ?_))) (fun k hk => ?_) (fun k hk => hk.1.1) (fun k hk x => ?_)
    · rcases x with x | x
      · exact hk.1.2 x.1
      · have := hk.2.2; omega
    · rcases hk with x | x
      · exact hp k x.1
      · exact S.fresh k x
    · rcases hk with y | y
      · exact x.1.2 y.1
      · have := x.2.2; omega
  · have hs := S.size
    refine (R.keep k (by omega) (fun x => ?_)).trans (S.keep k hk hn)
    rcases x with x | x
    · exact hn (hp k x.1)
    · omega
theorem St.front {f : Part'} (S : St w0 w ok w1 L) (i : Nat) (hi : L[i]? = some f) : St w0 w ok w1 (f :: L.eraseIdx i) := by
  obtain ⟨p, hp, hf, hs⟩ := sep_out i S.sep hi
  exact S.next rfl rfl rfl (Nat.le_refl _) (fun _ _ _ => rfl) ⟨p, hp, hf, hs⟩
theorem St.bare (S : St w0 w ok w1 L) : St w0 w ok w1 [] := S.next rfl rfl rfl (Nat.le_refl _) (fun _ _ _ => rfl) trivial
theorem St.push {f : Part'} (S : St w0 w ok w1 L) (i : Nat) (hi : L[i]? = some f) (R : St w0 w ok w1 (L.eraseIdx i) → St w0 w ok w1 M) (hM : ∀ {p : Nat → Prop}, (∀ k, p k → ok k) → f.on w1 w0.heap.size p → Sep w1 w0.heap.size (fun k => ok k ∧ ¬ p k) (L.eraseIdx i) → Sep w1 w0.heap.size (fun k => ok k ∧ ¬ p k) M) : St w0 w ok w1 (f :: M) := by
  obtain ⟨p, hp, hf, hs⟩ := sep_out i S.sep hi
  exact S.next rfl rfl rfl (Nat.le_refl _) (fun _ _ _ => rfl) ⟨p, hp, hf, hM hp hf hs⟩
/-- The parts that are kept, by their numbers (each counted among those that are left). -/
def pick : List Nat → List Part' → Option (List Part')
  | [], _ => some []
  | i :: is, L => match L[i]? with
    | some f => (pick is (L.eraseIdx i)).map (f :: ·)
    | Option.none => Option.none
theorem sep_pick {base : Nat} : ∀ (is : List Nat) {L M : List Part'} {ok : Nat → Prop}, Sep w1 base ok L → pick is L = some M → Sep w1 base ok M
  | [], _, _, _, _, h => by
    obtain rfl := Option.some.inj h
    trivial
  | i :: is, L, M, ok, hs, h => by
    unfold pick at h
    cases hi : L[i]? with
    | none => simp [hi] at h
    | some f =>
      simp only [hi] at h
      obtain ⟨M', hM, rfl⟩ := Option.map_eq_some_iff.1 h
      obtain ⟨p, hp, hf, hr⟩ := sep_out i hs hi
      exact ⟨p, hp, hf, sep_pick is hr hM⟩
theorem St.pick (S : St w0 w ok w1 L) (is : List Nat) (h : pick is L = some M) : St w0 w ok w1 M := S.next rfl rfl rfl (Nat.le_refl _) (fun _ _ _ => rfl) (sep_pick is S.sep h)
end
section
variable {P : Program} {ops : Array Oper} {rest : List Oper} {o : Oper} {a : Act} {Q : Exit → Act → World → Prop} {w0 w w1 : World} {ok : Nat → Prop} {L : List Part'}
/-- A call of a function with a contract. -/
theorem ev_call {f : FuncId} {fn : Func} {as : Array Operand} {ts : Array TypeId} {R : Ending → World → Prop} (hop : o.op = .call { callee := .value (.func f), args := as, argTypes := ts }) (hg : o.guard = none) (hf : P.funcs[f]? = some fn) (hname : (fn.name == "runtime.NumGoroutine") = false) (hb : fn.body.isSome = true)
    (args : Array Value) (hargs : as.map a.eval = args) (hC : Calls P f args w1 R) (h : ∀ e w2, R e w2 → ∃ v, e = .returned v ∧ wpList P ops Q rest (a.put o.dst v) w2) : wpList P ops Q (o :: rest) a w1 :=
  goesL_ o.dst rfl hg hf hname hb args hop hargs (hC.mono h)

/-! ### rows that are read -/
def adr (A : Option Addr) : Addr := A.getD ⟨0, 0, none⟩
def fieldp (b : Addr) : Nat → Addr
  | 0 => b
  | j + 1 => ⟨b.block, b.off + (j + 1), none⟩
theorem fieldp_add (b : Addr) (m j : Nat) (hb : j ≠ 0 ∨ True) : fieldp (b.add m) j = b.add (m + j) := by
  cases j with
  | zero => rfl
  | succ j => exact (add_field b m (j + 1) (by omega)).symm
theorem add_twice (b : Addr) (m q : Nat) : (b.add m).add q = b.add (m + q) := by
  unfold Addr.add
  by_cases hm : m = 0
  · simp [hm]
  · by_cases hq : q = 0
    · simp [hq]
    · simp [hm, hq, Nat.add_assoc]
/-- The address of an element. -/
theorem ev_idx {N : Tmp} {α : Type} {d : Kd α} {wr : World} (hd : o.dst = some N) (hg : o.guard = none) {t e : TypeId} {x ix : Operand} (ho : o.op = .indexAddr t x ix) {A : Option Addr} {n c : Nat} (hx : a.eval x = .slice A n c) {k : IntKind} {i : Int} (hi : a.eval ix = .int k i)
    (ht : P.underlying t = some (.slice e)) (hsz : P.cellsOf e = d.sz) (hpos : 0 < d.sz) {xs : List α} (hC : d.C wr A n xs) (h0 : 0 ≤ i) (h1 : i < n) (h : wpList P ops Q rest (a.put o.dst (.pointer (some ((adr A).add (i.toNat * d.sz))))) w1) : wpList P ops Q (o :: rest) a w1 := by
  refine ev_run hg ?_ h
  obtain ⟨ad, rfl, _⟩ := hC.2.2 (by omega)
  unfold Program.cellsOf at hsz
  cases hq : P.info? e with
  | none => simp [hq] at hsz; omega
  | some q =>
    have hz : q.size = d.sz := by simpa [hq] using hsz
    unfold execOp
    simp [ho, hx, hi, Instr.indexAt, Sem.run_bind, asIntOf, run_underlying ht, h0, h1, sizeOf, typeInfo, hq, hz, adr]
/-- A field of an element. -/
theorem ev_fld {N : Tmp} (hd : o.dst = some N) (hg : o.guard = none) {s : TypeId} {x : Operand} {j : Nat} (ho : o.op = .fieldAddr s x j) {p p' : Addr} (hx : a.eval x = .pointer (some p)) (hrun : (Instr.fieldAt s (.pointer (some p)) j).run P w1 = .ok (.pointer (some p')) w1)
    (h : wpList P ops Q rest (a.put o.dst (.pointer (some p'))) w1) : wpList P ops Q (o :: rest) a w1 := by
  refine ev_run hg ?_ h
  unfold execOp
  simp [ho, hx, Sem.run_bind, hrun]
/-- One cell of an element, read. -/
theorem ev_elem {N : Tmp} {α : Type} {d : Kd α} {wr : World} (hb : Below wr.heap.size wr w1) (hd : o.dst = some N) (hg : o.guard = none) {ty : TypeId} {x : Operand} (ho : o.op = .load ty x) {p : Addr} (hx : a.eval x = .pointer (some p)) {A : Option Addr} {n : Nat} {xs : List α} (hC : d.C wr A n xs) (z : α) {i : Int} (h0 : 0 ≤ i) (h1 : i < n)
    (j : Nat) (hp : p = fieldp ((adr A).add (i.toNat * d.sz)) j) (hj : j < d.sz) {ds : TypeDesc} (hu : P.underlying ty = some ds) (hk : plainD ds = true) (h : ∀ c v, d.K wr (xs.getD i.toNat z) c → c[j]? = some v → wpList P ops Q rest (a.put o.dst v) w1) : wpList P ops Q (o :: rest) a w1 := by
  obtain ⟨ad, c, rfl, hl, hK, hc⟩ := Kd.C_get hC z i h0 h1
  have hv : c[j]? = some c[j] := List.getElem?_eq_getElem (by omega)
  refine ev_run hg ?_ (h c _ hK hv)
  have hcell : w1.cell? p = some c[j] := by
    rw [hp, fieldp_add _ _ _ (.inr trivial)]
    exact pw_cell_below hb (hc j _ hv)
  have hr := run_load1 (P := P) hcell hu hk
  unfold execOp
  simp [ho, hx, Sem.run_bind, hr]
/-- A whole element, or a struct in it, read. -/
theorem ev_elems {N : Tmp} {α : Type} {d : Kd α} {wr : World} (hb : Below wr.heap.size wr w1) (hd : o.dst = some N) (hg : o.guard = none) {ty : TypeId} {x : Operand} (ho : o.op = .load ty x) {p : Addr} (hx : a.eval x = .pointer (some p)) {A : Option Addr} {n : Nat} {xs : List α} (hC : d.C wr A n xs) (z : α) {i : Int} (h0 : 0 ≤ i) (h1 : i < n)
    (j m : Nat) (hp : p = fieldp ((adr A).add (i.toNat * d.sz)) j) (hj : j + m ≤ d.sz) (hm : 0 < m) {ds : TypeDesc} (hu : P.underlying ty = some ds) (hk : plainD ds = false) (hn : P.cellsOf ty = m) (h : ∀ c, d.K wr (xs.getD i.toNat z) c → wpList P ops Q rest (a.put o.dst (.agg ((c.drop j).take m).toArray)) w1) : wpList P ops Q (o :: rest) a w1 := by
  obtain ⟨ad, c, rfl, hl, hK, hc⟩ := Kd.C_get hC z i h0 h1
  refine ev_run hg ?_ (h c hK)
  have hlen : ((c.drop j).take m).length = m := by simp; omega
  have hr := run_loadn (P := P) (w := w1) (p := p) (cs := (c.drop j).take m) (ty := ty) (fun q v hq => by
    rw [List.getElem?_take] at hq
    split at hq
    · rw [List.getElem?_drop] at hq
      rw [hp, fieldp_add _ _ _ (.inr trivial)]
      rw [show adr (some ad) = ad from rfl, add_twice]
      have := pw_cell_below hb (hc _ _ hq)
      rwa [← Nat.add_assoc] at this
    · cases hq) hu hk (by omega) (by omega)
  unfold execOp
  simp [ho, hx, Sem.run_bind, hr]
end

/-! ### rows of one's own -/
/-- What is read of such an element may stand as made: no rows inside. -/
def Flat {α : Type} (d : Kd α) : Prop := ∀ (W : World) (base : Nat) (x : α) (cs : List Value), d.K W x cs → d.M W base (fun _ => False) x cs
section
variable {P : Program} {ops : Array Oper} {rest : List Oper} {o : Oper} {a : Act} {Q : Exit → Act → World → Prop} {w0 w w1 : World} {ok : Nat → Prop} {L : List Part'} {α : Type}
theorem St.nil (S : St w0 w ok w1 L) (d : Kd α) (e : Nat) : St w0 w ok w1 (.own d e none 0 0 [] :: L) :=
  S.add (p := fun _ => False) (Below.refl _ _) (Kd.R_nil d e w1 w0.heap.size _) (fun _ h => h.elim)
theorem slice_of_R {d : Kd α} {e base : Nat} {p : Nat → Prop} {v : Value} {xs : List α} (h : d.R e w1 base p v xs) : ∃ A c, v = .slice A xs.length c := Kd.R_slice h
/-- A row that grew, or was made. -/
theorem St.grown {d : Kd α} {e : Nat} {A : Option Addr} {n c : Nat} {xs ys : List α} {w2 : World} {v1 : Value} {p : Nat → Prop} (S : St w0 w ok w1 L) (i : Nat) (hi : L[i]? = some (.own d e A n c xs)) (hp : ∀ k, p k → ok k ∧ w0.heap.size ≤ k ∧ k < w1.heap.size)
    (hc : ∀ (w' : World) (f' : Part') (p' : Nat → Prop), (∀ k, k < w1.heap.size → ¬ p k → w'.heap[k]? = w1.heap[k]?) → (∀ k, p' k → ok k) → (∀ k, p' k → p k ∨ w1.heap.size ≤ k) → f'.on w' w0.heap.size p' → Sep w' w0.heap.size ok (L.set i f'))
    (hown : ∀ k, (Value.slice A n c).ownBlock = some k → p k) (hR : d.R e w2 w0.heap.size (fun k => p k ∨ w1.heap.size ≤ k) v1 ys) (hG : w1.grownBy w2 (Value.slice A n c).ownBlock) : ∃ A1 c1, v1 = .slice A1 ys.length c1 ∧ St w0 w ok w2 (L.set i (.own d e A1 ys.length c1 ys)) := by
  obtain ⟨A1, c1, rfl⟩ := Kd.R_slice hR
  have hfr : ∀ k, k < w1.heap.size → ¬ p k → w2.heap[k]? = w1.heap[k]? := fun k hk hn => hG.block k hk (fun x => hn (hown k x.symm))
  refine ⟨A1, c1, rfl, S.next hG.os hG.tape hG.output hG.size (fun k hk hn => hfr k hk (fun x => hn ⟨(hp k x).1, (hp k x).2.1⟩)) (hc w2 _ _ hfr (fun k hk => hk.elim (fun x => (hp k x).1) (S.fresh k)) (fun k hk => hk) hR)⟩
/-- 'append(s, x)'. -/
theorem ev_append1 (d : Kd α) {N : Tmp} (S : St w0 w ok w1 L) (i : Nat) (hd : o.dst = some N) {e : Nat} {A : Option Addr} {n c : Nat} {xs : List α} (hi : L[i]? = some (.own d e A n c xs)) (hg : o.guard = none) {s x : Operand} {t : TypeId} (z : Value) (bytes : Nat)
    (ho : o.op = .call { callee := .builtin .append, args := #[s, x], argTypes := #[t, t] }) (ht : P.underlying t = some (.slice e)) (hinfo : (P.info? e).map (fun i => (i.zero, i.size, i.bytes)) = some (some z, d.sz, bytes)) (hz : z.cells.size = d.sz) (hs0 : 0 < d.sz) (hb0 : 0 < bytes)
    (hs : a.eval s = .slice A n c) (hx : a.eval x = .slice (some ⟨w1.heap.size, 0, none⟩) 1 1) (q : α) (cs : List Value) (hq : ∀ W base, d.M W base (fun _ => False) q cs) (ys : List α) (hys : Aside0 (ys = xs ++ [q])) (hl : (xs.length + 1) * bytes ≤ 140737488355328)
    (h : ∀ A1 c1 w2, St w0 w ok w2 (L.set i (.own d e A1 ys.length c1 ys)) → wpList P ops Q rest (a.put o.dst (.slice A1 ys.length c1)) w2) : wpList P ops Q (o :: rest) a (w1.alloc (.cells cs.toArray e)) := by
  obtain ⟨p, hp, hf, hc⟩ := sep_at i S.sep hi
  have hR : d.R e w1 w0.heap.size p (.slice A n c) xs := hf
  refine Kd.R_append d w0.heap.size hg s x t e z bytes ho ht hinfo hz hs0 hb0 (.slice A n c) xs q cs (fun k => p k ∨ w1.heap.size ≤ k) (fun _ => False) hs hx (hq _ _) (fun _ h => h.elim) (fun k hk => .inr hk) (Kd.R_mono hR (fun k hk => .inl hk)) S.below (Nat.le_trans S.base S.size) hl ?_
  intro v1 w2 hR2 hB hG hat
  obtain ⟨A1, c1, rfl, S2⟩ := S.grown i hi hp hc hR.1 hR2 hG
  rw [← hys.out] at S2 ⊢
  exact h A1 c1 w2 S2
/-- 'append(s, ys...)'. -/
theorem ev_appendrow (d : Kd α) (hflat : Flat d) {N : Tmp} (S : St w0 w ok w1 L) (i : Nat) (hd : o.dst = some N) {e : Nat} {A : Option Addr} {n c : Nat} {xs : List α} (hi : L[i]? = some (.own d e A n c xs)) (hg : o.guard = none) {s x : Operand} {t : TypeId} (z : Value) (bytes : Nat)
    (ho : o.op = .call { callee := .builtin .append, args := #[s, x], argTypes := #[t, t] }) (ht : P.underlying t = some (.slice e)) (hinfo : (P.info? e).map (fun i => (i.zero, i.size, i.bytes)) = some (some z, d.sz, bytes)) (hz : z.cells.size = d.sz) (hs0 : 0 < d.sz) (hb0 : 0 < bytes)
    (hs : a.eval s = .slice A n c) {B : Option Addr} {m cB : Nat} (hx : a.eval x = .slice B m cB) {ys : List α} (hC : d.C w1 B m ys) (zs : List α) (hzs : Aside0 (zs = xs ++ ys)) (hl : (xs.length + m) * bytes ≤ 140737488355328)
    (h : ∀ A1 c1 w2, St w0 w ok w2 (L.set i (.own d e A1 zs.length c1 zs)) → wpList P ops Q rest (a.put o.dst (.slice A1 zs.length c1)) w2) : wpList P ops Q (o :: rest) a w1 := by
  obtain ⟨p, hp, hf, hc⟩ := sep_at i S.sep hi
  have hR : d.R e w1 w0.heap.size p (.slice A n c) xs := hf
  refine Kd.R_append_rows d w0.heap.size hg s x t e z bytes ho ht hinfo hz hs0 hb0 (.slice A n c) xs ys B m cB (fun k => p k ∨ w1.heap.size ≤ k) (fun _ => False) hs hx (Kd.R_mono hR (fun k hk => .inl hk)) hC (fun y cs hk => hflat _ _ y cs hk) (fun _ h => h.elim) (fun k hk => .inr hk) S.below (Nat.le_trans S.base S.size) hl ?_
  intro v1 w2 hR2 hB hG hat
  obtain ⟨A1, c1, rfl, S2⟩ := S.grown i hi hp hc hR.1 hR2 hG
  rw [← hzs.out] at S2 ⊢
  exact h A1 c1 w2 S2
/-- A literal '[]T{..}'. -/
theorem ev_lit (d : Kd α) {N : Tmp} (S : St w0 w ok w1 L) (hd : o.dst = some N) (hg : o.guard = none) (e : Nat) (xs : List α) (inner : List Value)
    (hrun : (execOp a.eval o).run P w1 = .ok (.value (.slice (some ⟨w1.heap.size, 0, none⟩) xs.length xs.length)) (w1.alloc (.cells inner.toArray e))) (hrep : ∀ W base, Reps (d.M W base (fun _ => False)) d.sz xs inner) (hm : xs.length ≤ 9223372036854775807)
    (h : ∀ A1 c1 w2, St w0 w ok w2 (.own d e A1 xs.length c1 xs :: L) → wpList P ops Q rest (a.put o.dst (.slice A1 xs.length c1)) w2) : wpList P ops Q (o :: rest) a w1 := by
  refine Kd.R_lit d w0.heap.size e hg hd (xs := xs) (inner := inner) (ok := fun k => w1.heap.size ≤ k) (okp := fun _ => False) hrun (hrep _ _) (fun _ h => h.elim) (Nat.le_refl _) S.below (Nat.le_trans S.base S.size) hm ?_
  intro v1 w2 hR hB hG hat
  obtain ⟨A1, c1, rfl⟩ := Kd.R_slice hR
  exact h A1 c1 w2 (S.add ⟨hG.os, hG.tape, hG.output, hG.size, fun k hk => hG.block k hk (by simp)⟩ hR (fun k hk => hk))
/-- 'make([]T, n)'. -/
theorem ev_make (d : Kd α) {N : Tmp} (S : St w0 w ok w1 L) (hd : o.dst = some N) (hg : o.guard = none) (e : Nat) {t : TypeId} {x y : Operand} (ho : o.op = .makeSlice t x y) (n : Int) (hx : a.eval x = .int .i64 n) (hy : a.eval y = .int .i64 n)
    (ht : P.underlying t = some (.slice e)) (z : Value) (bytes : Nat) (hinfo : (P.info? e).map (fun i => (i.zero, i.size, i.bytes)) = some (some z, d.sz, bytes)) (hz : z.cells.size = d.sz) (hs0 : 0 < d.sz) (hb0 : 0 < bytes)
    (z0 : α) (hzero : ∀ W base, d.M W base (fun _ => False) z0 z.cells.toList) (xs : List α) (hxs : Aside0 (xs = List.replicate n.toNat z0)) (h0 : 0 ≤ n) (hl : n.toNat * bytes ≤ 281474976710656)
    (h : ∀ A1 c1 w2, St w0 w ok w2 (.own d e A1 xs.length c1 xs :: L) → wpList P ops Q rest (a.put o.dst (.slice A1 xs.length c1)) w2) : wpList P ops Q (o :: rest) a w1 := by
  refine Kd.R_make d w0.heap.size e hg hd t x y ho n hx hy ht z bytes hinfo hz hs0 hb0 z0 (ok := fun k => w1.heap.size ≤ k) (okp := fun _ => False) (hzero _ _) (fun _ h => h.elim) (Nat.le_refl _) h0 hl S.below (Nat.le_trans S.base S.size) ?_
  intro v1 w2 hR hB hG hat
  obtain ⟨A1, c1, rfl⟩ := Kd.R_slice hR
  rw [← hxs.out] at hR ⊢
  exact h A1 c1 w2 (S.add ⟨hG.os, hG.tape, hG.output, hG.size, fun k hk => hG.block k hk (by simp)⟩ hR (fun k hk => hk))
end

/-! ### values as they are known -/
/-- The element at a place. -/
def el {α : Type} (xs : List α) (i : Int) (z : α) : α := xs.getD i.toNat z
theorem open_int {k : IntKind} {w : World} {x : Int} {cs : List Value} (h : (Kd.int k).K w x cs) : cs = [.int k x] := h
theorem open_bool {w : World} {x : Bool} {cs : List Value} (h : Kd.bool.K w x cs) : cs = [.bool x] := h
theorem open_string {w : World} {x : ByteArray} {cs : List Value} (h : Kd.string.K w x cs) : cs = [.string x] := h
section
variable {P : Program} {ops : Array Oper} {rest : List Oper} {o : Oper} {a : Act} {Q : Exit → Act → World → Prop} {w0 w w1 : World} {ok : Nat → Prop} {L : List Part'} {α : Type}
theorem ev_elemv {N : Tmp} {d : Kd α} {wr : World} (hb : Below wr.heap.size wr w1) (hd : o.dst = some N) (hg : o.guard = none) {ty : TypeId} {x : Operand} (ho : o.op = .load ty x) {p : Addr} (hx : a.eval x = .pointer (some p)) {A : Option Addr} {n : Nat} {xs : List α} (hC : d.C wr A n xs) (z : α) {i : Int} (h0 : 0 ≤ i) (h1 : i < n)
    (j : Nat) (hp : p = fieldp ((adr A).add (i.toNat * d.sz)) j) (hj : j < d.sz) {ds : TypeDesc} (hu : P.underlying ty = some ds) (hk : plainD ds = true) (v : Value) (hv : ∀ c, d.K wr (xs.getD i.toNat z) c → c[j]? = some v) (h : wpList P ops Q rest (a.put o.dst v) w1) : wpList P ops Q (o :: rest) a w1 :=
  ev_elem hb hd hg ho hx hC z h0 h1 j hp hj hu hk fun c u hK hu' => by
    obtain rfl : v = u := Option.some.inj ((hv c hK).symm.trans hu')
    exact h
theorem ev_elemsv {N : Tmp} {d : Kd α} {wr : World} (hb : Below wr.heap.size wr w1) (hd : o.dst = some N) (hg : o.guard = none) {ty : TypeId} {x : Operand} (ho : o.op = .load ty x) {p : Addr} (hx : a.eval x = .pointer (some p)) {A : Option Addr} {n : Nat} {xs : List α} (hC : d.C wr A n xs) (z : α) {i : Int} (h0 : 0 ≤ i) (h1 : i < n)
    (j m : Nat) (hp : p = fieldp ((adr A).add (i.toNat * d.sz)) j) (hj : j + m ≤ d.sz) (hm : 0 < m) {ds : TypeDesc} (hu : P.underlying ty = some ds) (hk : plainD ds = false) (hn : P.cellsOf ty = m) (vs : List Value) (hv : ∀ c, d.K wr (xs.getD i.toNat z) c → (c.drop j).take m = vs) (h : wpList P ops Q rest (a.put o.dst (.agg vs.toArray)) w1) : wpList P ops Q (o :: rest) a w1 :=
  ev_elems hb hd hg ho hx hC z h0 h1 j m hp hj hm hu hk hn fun c hK => by
    rw [hv c hK]
    exact h
/-- A store into an element of a row of one's own. -/
theorem ev_put (d : Kd α) (S : St w0 w ok w1 L) (i : Nat) {p : Tmp} {ty : TypeId} {x : Operand} (ho : o.op = .store ty (.tmp p) x) {e : Nat} {A : Option Addr} {n c : Nat} {xs : List α} (hi : L[i]? = some (.own d e A n c xs)) (hg : o.guard = none) (hd : o.dst = none) {q : Addr} (hp : a.eval (.tmp p) = .pointer (some q)) (z : α) {ix : Int} (h0 : 0 ≤ ix) (h1 : ix < n)
    (j : Nat) (hq : q = fieldp ((adr A).add (ix.toNat * d.sz)) j) {u : Value} (hx : a.eval x = u) (m : Nat) (hm : (P.info? ty).map (·.size) = some m) (seg : List Value) (hseg : u.cells.toList = seg) (hsl : seg.length = m) (hj : j + m ≤ d.sz) (h1c : (seg.all fun q => q.oneCell') = true)
    (x' : α) (hM : ∀ W base cs, d.K W (xs.getD ix.toNat z) cs → d.M W base (fun _ => False) x' (cs.take j ++ seg ++ cs.drop (j + m))) (ys : List α) (hys : Aside0 (ys = xs.set ix.toNat x'))
    (h : ∀ w2, St w0 w ok w2 (L.set i (.own d e A n c ys)) → wpList P ops Q rest a w2) : wpList P ops Q (o :: rest) a w1 := by
  subst hsl
  obtain ⟨p', hp', hf, hc⟩ := sep_at i S.sep hi
  have hR : d.R e w1 w0.heap.size p' (.slice A n c) xs := hf
  have hC := S.reads i hi
  obtain ⟨ad, cs, rfl, hl, hK, hcc⟩ := Kd.C_get hC z ix h0 h1
  obtain ⟨g, hgg⟩ : ∃ g, ad = ⟨g, 0, none⟩ := by
    obtain ⟨_, inner, hown, _⟩ := hR
    rcases hown.2 with ⟨he, _⟩ | ⟨g, cap, cur, he, _⟩
    · cases he
    · injection he with ha
      injection ha with ha
      exact ⟨g, ha⟩
  subst hgg
  have hq2 : q = ⟨g, ix.toNat * d.sz + j, none⟩ := by
    rw [hq, fieldp_add _ _ _ (.inr trivial)]
    show (⟨g, 0, none⟩ : Addr).add _ = _
    rw [add_at, Nat.zero_add]
  subst hq2
  refine Kd.R_store d (w0 := w0) w0.heap.size hd hg ty (.tmp p) x ho e ix j xs x' u seg cs (fun k => p' k ∨ w1.heap.size ≤ k) (fun _ => False) hp rfl hx hseg hm (fun q hq => List.all_eq_true.1 h1c q hq) (Kd.R_mono hR (fun k hk => .inl hk)) h0 h1 hl (fun j u hu => by have := hcc j u hu; rwa [add_at, Nat.zero_add] at this) hj (hM _ _ _ hK) (fun _ h => h.elim) S.below ?_
  intro w2 hR2 hB hG
  rw [← hys.out] at hR2
  have hfr : ∀ k, k < w1.heap.size → ¬ p' k → w2.heap[k]? = w1.heap[k]? := fun k hk hn => hG.block k hk (fun x => hn (hR.1 k (by simp [Value.ownBlock]; injection x with x; exact x.symm)))
  exact h w2 (S.next hG.os hG.tape hG.output hG.size (fun k hk hn => hfr k hk (fun x => hn ⟨(hp' k x).1, (hp' k x).2.1⟩)) (hc w2 _ _ hfr (fun k hk => hk.elim (fun x => (hp' k x).1) (S.fresh k)) (fun k hk => hk) hR2))
end

theorem nilC {α : Type} (d : Kd α) (w : World) : d.C w none 0 [] := ⟨rfl, by simp, fun h => absurd h (by simp)⟩
section
variable {P : Program} {w0 w w1 : World} {ok : Nat → Prop} {L : List Part'}
theorem run_cell (S : St w0 w ok w1 L) (i : Nat) {g t j : Nat} {cs : List Value} (hi : L[i]? = some (.blk g t cs)) {ty : TypeId} {d : TypeDesc} (hu : P.underlying ty = some d) (hk : plainD d = true) {v : Value} (hv : cs[0]? = some v) : (loadVar ty ⟨g, 0, none⟩).run P w1 = .ok v w1 := by
  have hr := run_load1 (P := P) (blk_cell (S.get i hi).2.2 hv) hu hk
  simpa [Instr.loadAt, Instr.sureAddr, Sem.run_bind] using hr
theorem run_cells (S : St w0 w ok w1 L) (i : Nat) {g t : Nat} {cs : List Value} (hi : L[i]? = some (.blk g t cs)) {ty : TypeId} {d : TypeDesc} (hu : P.underlying ty = some d) (hk : plainD d = false) (hn : P.cellsOf ty = cs.length) (h0 : 0 < cs.length) : (loadVar ty ⟨g, 0, none⟩).run P w1 = .ok (.agg cs.toArray) w1 := by
  have hb := (S.get i hi).2.2
  have hr := run_loadn (P := P) (w := w1) (p := ⟨g, 0, none⟩) (cs := cs) (ty := ty) (fun q v hq => by rw [add_at, Nat.zero_add]; exact blk_cell hb hq) hu hk hn h0
  simpa [Instr.loadAt, Instr.sureAddr, Sem.run_bind] using hr
theorem St.norm {α : Type} {d : Kd α} {e n c : Nat} {A : Option Addr} {xs : List α} (S : St w0 w ok w1 L) (i : Nat) (hi : L[i]? = some (.own d e A n c xs)) : St w0 w ok w1 (L.set i (.own d e A xs.length c xs)) := by
  have hn := S.len i hi
  subst hn
  have he : L.set i (Part'.own d e A xs.length c xs) = L := by
    obtain ⟨h1, h2⟩ := List.getElem?_eq_some_iff.1 hi
    rw [← h2]
    exact List.set_getElem_self h1
  rw [he]
  exact S
end

/-! ### the plain function, beside the code -/
theorem itS {α : Type} {c : Prop} [Decidable c] {a : Option α} {r : α} (h : Aside0 ((if c then a else Option.none) = some r)) : Aside0 c ∧ Aside0 (a = some r) := by
  have h := h.out
  split at h
  · rename_i hc
    exact ⟨⟨hc⟩, ⟨h⟩⟩
  · cases h
theorem itC {α : Type} {c : Prop} [Decidable c] {a b : Option α} {r : α} (h : Aside0 ((if c then a else b) = some r)) : (Aside0 c ∧ Aside0 (a = some r)) ∨ (Aside0 (¬ c) ∧ Aside0 (b = some r)) := by
  have h := h.out
  split at h
  · rename_i hc
    exact .inl ⟨⟨hc⟩, ⟨h⟩⟩
  · rename_i hc
    exact .inr ⟨⟨hc⟩, ⟨h⟩⟩
theorem itB {α : Type} {b : Bool} {x y : Option α} {r : α} (h : Aside0 ((if b = true then x else y) = some r)) : (b = true ∧ Aside0 (x = some r)) ∨ (b = false ∧ Aside0 (y = some r)) := by
  cases b with
  | true => exact .inl ⟨rfl, ⟨by simpa using h.out⟩⟩
  | false => exact .inr ⟨rfl, ⟨by simpa using h.out⟩⟩
theorem itD {α β : Type} {o : Option α} {f : α → Option β} {r : β} (h : Aside0 (o.bind f = some r)) : ∃ t, Aside0 (o = some t) ∧ Aside0 (f t = some r) := by
  obtain ⟨t, h1, h2⟩ := Option.bind_eq_some_iff.1 h.out
  exact ⟨t, ⟨h1⟩, ⟨h2⟩⟩
theorem itL {α β : Type} {x : α} {f : α → Option β} {r : β} (h : Aside0 ((some x).bind f = some r)) : ∃ t, Aside0 (t = x) ∧ Aside0 (f t = some r) := ⟨x, ⟨rfl⟩, ⟨h.out⟩⟩
theorem itR {α : Type} {x r : α} (h : Aside0 (some x = some r)) : x = r := Option.some.inj h.out
/-- Where a way is marked. -/
theorem gate_at {c G : Prop} (_ : c) (g : G) : G := g
section
variable {α : Type} {a b : Option α} {r : α} {G : Prop}
theorem itVb {b : Bool} {x y : Option α} (h : Aside0 ((if b = true then x else y) = some r)) (ht : Aside0 True → b = true → Aside0 (x = some r) → G) (hf : Aside0 True → b = false → Aside0 (y = some r) → G) : G :=
  (itB h).elim (fun q => ht ⟨trivial⟩ q.1 q.2) (fun q => hf ⟨trivial⟩ q.1 q.2)
theorem itCd {c : Prop} [Decidable c] (h : Aside0 ((if c then a else b) = some r)) (ht : Aside0 c → decide c = true → Aside0 (a = some r) → G) (hf : Aside0 (¬ c) → decide c = false → Aside0 (b = some r) → G) : G :=
  (itC h).elim (fun q => ht q.1 (decide_eq_true q.1.out) q.2) (fun q => hf q.1 (decide_eq_false q.1.out) q.2)
theorem itEq {β : Type} [BEq β] [LawfulBEq β] {X Y : β} [Decidable (X = Y)] (h : Aside0 ((if X = Y then a else b) = some r)) (ht : Aside0 (X = Y) → (X == Y) = true → (X != Y) = false → Aside0 (a = some r) → G) (hf : Aside0 (¬ X = Y) → (X == Y) = false → (X != Y) = true → Aside0 (b = some r) → G) : G :=
  (itC h).elim (fun q => ht q.1 (beq_iff_eq.mpr q.1.out) (bne_eq_false_iff_eq.mpr q.1.out) q.2) (fun q => hf q.1 (beq_eq_false_iff_ne.mpr q.1.out) (bne_iff_ne.mpr q.1.out) q.2)
end

/-! ### cuts -/
/-- A row that can be read, with the room behind it. -/
def Rd {α : Type} (d : Kd α) (w : World) (A : Option Addr) (n c : Nat) (xs : List α) : Prop := d.C w A n xs ∧ n ≤ c
def cutA (A : Option Addr) (c m s : Nat) : Option Addr := if c = m then A else A.map (·.add (m * s))
section
variable {α : Type} {d : Kd α} {w0 w w1 : World} {ok : Nat → Prop} {L : List Part'} {A : Option Addr} {n c e : Nat} {xs : List α}
theorem Rd.drop (h : Rd d w A n c xs) (m : Nat) (hm : m ≤ xs.length) : Rd d w (cutA A c m d.sz) (xs.drop m).length (c - m) (xs.drop m) := by
  obtain ⟨h, hc⟩ := h
  obtain rfl : xs.length = n := h.1
  refine ⟨Kd.C_drop h hm hc, ?_⟩
  rw [List.length_drop]; omega
theorem Rd.take (h : Rd d w A n c xs) (m : Nat) (hm : m ≤ xs.length) : Rd d w A (xs.take m).length c (xs.take m) := by
  obtain ⟨h, hc⟩ := h
  obtain rfl : xs.length = n := h.1
  refine ⟨Kd.C_take h hm, ?_⟩
  rw [List.length_take]; omega
theorem nilR (d : Kd α) (w : World) : Aside0 (Rd d w none 0 0 []) := ⟨⟨nilC d w, Nat.le_refl _⟩⟩
theorem St.cameR (S : St w0 w ok w1 L) (h : Aside0 (Rd d w0 A n c xs)) : Aside0 (Rd d w1 A n c xs) := ⟨⟨Kd.C_below h.out.1 S.below, h.out.2⟩⟩
theorem St.readsR (S : St w0 w ok w1 L) (i : Nat) (hi : L[i]? = some (.own d e A n c xs)) : Aside0 (Rd d w1 A n c xs) := by
  refine ⟨⟨S.reads i hi, ?_⟩⟩
  have h : d.R e w1 w0.heap.size ok (.slice A n c) xs := S.get i hi
  obtain ⟨_, inner, ho, _⟩ := h
  rcases ho.2 with ⟨he, h0⟩ | ⟨g, cap, cur, he, _, _, hc, _⟩
  · injection he with _ h1 h2; omega
  · injection he with _ h1 h2; omega
theorem St.takeown (S : St w0 w ok w1 L) (i : Nat) (hi : L[i]? = some (.own d e A n c xs)) (m : Nat) (hm : m ≤ xs.length) : St w0 w ok w1 (L.set i (.own d e A (xs.take m).length c (xs.take m))) := by
  obtain ⟨p, hp, hf, hc⟩ := sep_at i S.sep hi
  have hl : (xs.take m).length = m := by rw [List.length_take]; omega
  refine S.next rfl rfl rfl (Nat.le_refl _) (fun _ _ _ => rfl) (hc _ _ p (fun _ _ _ => rfl) (fun k hk => (hp k hk).1) (fun k hk => .inl hk) ?_)
  rw [hl]
  exact Kd.R_take hf hm
end
section
variable {P : Program} {ops : Array Oper} {rest : List Oper} {o : Oper} {a : Act} {Q : Exit → Act → World → Prop} {wr w1 : World} {α : Type}
theorem run_sl {t e : TypeId} (ht : P.underlying t = some (.slice e)) (x : Value) (lo hi mx : Option Value) (w : World) : (Instr.sliceAt t x lo hi mx).run P w = (Instr.slice t x lo hi mx).run P w := by
  have hel : P.elem t = e := by simp [Program.elem, ht]
  exact run_sliceAt_slice w t x lo hi mx (by rw [hel]; exact ht)
theorem ev_cut_from {N : Tmp} {d : Kd α} (hd : o.dst = some N) (hg : o.guard = none) {t e : TypeId} {x y : Operand} (ho : o.op = .slice t x (some y) none none) {A : Option Addr} {n c : Nat} (hx : a.eval x = .slice A n c) {k : IntKind} {j : Int} (hy : a.eval y = .int k j)
    (ht : P.underlying t = some (.slice e)) (hsz : P.cellsOf e = d.sz) (hpos : 0 < d.sz) {xs : List α} (hC : Rd d wr A n c xs) (h0 : 0 ≤ j) (h1 : j ≤ n) (h : wpList P ops Q rest (a.put o.dst (.slice (cutA A c j.toNat d.sz) (xs.drop j.toNat).length (c - j.toNat))) w1) : wpList P ops Q (o :: rest) a w1 := by
  refine ev_run hg ?_ h
  obtain ⟨hC, hc⟩ := hC
  obtain rfl : xs.length = n := hC.1
  unfold Program.cellsOf at hsz
  cases hq : P.info? e with
  | none => simp [hq] at hsz; omega
  | some q =>
    have hz : q.size = d.sz := by simpa [hq] using hsz
    have hr := cut_from (P := P) t e k ht hq d.sz hz A xs.length c j h0 h1 w1
    unfold execOp
    simp only [ho, hx, hy, Sem.run_bind, Option.map, run_sl ht, hr, cutA, List.length_drop]
    rfl
theorem ev_cut_to {N : Tmp} {d : Kd α} (hd : o.dst = some N) (hg : o.guard = none) {t e : TypeId} {x y : Operand} (ho : o.op = .slice t x none (some y) none) {A : Option Addr} {n c : Nat} (hx : a.eval x = .slice A n c) {k : IntKind} {j : Int} (hy : a.eval y = .int k j)
    (ht : P.underlying t = some (.slice e)) (hsz : P.cellsOf e = d.sz) (hpos : 0 < d.sz) {xs : List α} (hC : Rd d wr A n c xs) (h0 : 0 ≤ j) (h1 : j ≤ n) (h : wpList P ops Q rest (a.put o.dst (.slice A (xs.take j.toNat).length c)) w1) : wpList P ops Q (o :: rest) a w1 := by
  refine ev_run hg ?_ h
  obtain ⟨hC, hc⟩ := hC
  obtain rfl : xs.length = n := hC.1
  unfold Program.cellsOf at hsz
  cases hq : P.info? e with
  | none => simp [hq] at hsz; omega
  | some q =>
    have hr := cut_to (P := P) t e k ht hq A xs.length c j h0 h1 hc w1
    have hl : (xs.take j.toNat).length = j.toNat := by rw [List.length_take]; omega
    unfold execOp
    simp only [ho, hx, hy, Sem.run_bind, Option.map, run_sl ht, hr, hl]
    rfl
theorem ev_cut_mid {N : Tmp} {d : Kd α} (hd : o.dst = some N) (hg : o.guard = none) {t e : TypeId} {x y z : Operand} (ho : o.op = .slice t x (some y) (some z) none) {A : Option Addr} {n c : Nat} (hx : a.eval x = .slice A n c) {k k' : IntKind} {i j : Int} (hy : a.eval y = .int k i) (hz' : a.eval z = .int k' j)
    (ht : P.underlying t = some (.slice e)) (hsz : P.cellsOf e = d.sz) (hpos : 0 < d.sz) {xs : List α} (hC : Rd d wr A n c xs) (h0 : 0 ≤ i) (h1 : i ≤ j) (h2 : j ≤ n) (h : wpList P ops Q rest (a.put o.dst (.slice (cutA A c i.toNat d.sz) ((xs.take j.toNat).drop i.toNat).length (c - i.toNat))) w1) : wpList P ops Q (o :: rest) a w1 := by
  refine ev_run hg ?_ h
  obtain ⟨hC, hc⟩ := hC
  obtain rfl : xs.length = n := hC.1
  unfold Program.cellsOf at hsz
  cases hq : P.info? e with
  | none => simp [hq] at hsz; omega
  | some q =>
    have hz : q.size = d.sz := by simpa [hq] using hsz
    have hr := cut_mid (P := P) t e k k' ht hq d.sz hz A xs.length c i j h0 h1 h2 hc w1
    have hl : ((xs.take j.toNat).drop i.toNat).length = j.toNat - i.toNat := by rw [List.length_drop, List.length_take]; omega
    unfold execOp
    simp only [ho, hx, hy, hz', Sem.run_bind, Option.map, run_sl ht, hr, cutA, hl]
    rfl
end
/-- A guarded operation that is performed. -/
theorem wp_wanted {P : Program} {ops : Array Oper} {rest : List Oper} {o : Oper} {a : Act} {w : World} {Q : Exit → Act → World → Prop} (hw : Region.wanted o (yielded ops a.tmps) = true) (h : wpList P ops Q ({ o with guard := none } :: rest) a w) : wpList P ops Q (o :: rest) a w := by
  unfold wpList at h ⊢
  rw [if_pos hw]
  have h0 : Region.wanted { o with guard := none } (yielded ops a.tmps) = true := rfl
  rw [if_pos h0] at h
  exact h
end Go.Proofs.YtgihjaonapngdaaY
