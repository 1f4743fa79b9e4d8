/- What each operation of the abstract machine says of the world: structs built, conversions, least and greatest, appends. Plain lemmas; no condition. -/
import Derived.Test.YthncjcfnpfajaaaAbT
import Derived.Laws.BytesArg
namespace Go.Proofs.YthncjcfnpfajaaaA
open Go Go.RowKit Go.Proofs.YthncjcfnpfajaaaW.PrintWords
set_option linter.unusedVariables false
set_option linter.unusedSimpArgs false
section
variable {P : Program} {w w1 : World} {ok live : Nat → Prop} {b : Nat} {o : Oper} {a : Act} {ρ : Nat → Hd} {fp : Nat → Nat → Prop} {me : Nat → Option Part} {v : SV} {us : Me} {s : Sl} {C : Ctx}
theorem buildL_out {place : Nat → Option (Nat × Nat)} {fs : List (Nat × Nat)} (hpl : ∀ i off ft td, nth fs i = some (off, ft) → get C.Δ ft = some td → place i = some (off, td.size)) : ∀ (ps : List (Nat × Operand)) (cs : List Leaf) {K : List Leaf → OP} {r : SV × Me}, (∀ x ∈ ps, ∀ v, ev s x.2 = some v → a.eval x.2 = v.val ρ ∧ v.In live ρ) → LsIn live ρ cs → Out me (buildL C s fs ps cs K) r →
  ∃ cs', Out me (K cs') r ∧ LsIn live ρ cs' ∧ ∀ cells : Array Value, cells.toList = vals ρ cs → ∃ cells', Instr.fill place cells (ps.map fun x => (x.1, a.eval x.2)) = some cells' ∧ cells'.toList = vals ρ cs' := by
 intro ps
 induction ps with
 | nil =>
  intro cs K r hE hcs h
  exact ⟨cs, h, hcs, fun cells hc => ⟨cells, rfl, hc⟩⟩
 | cons x ps ih =>
  intro cs K r hE hcs h
  obtain ⟨f, x⟩ := x
  simp only [buildL] at h
  split at h
  ·rename_i off ft hn
   split at h
   ·rename_i td htd
    obtain ⟨c, hc, h⟩ := cvOf_out h
    obtain ⟨hle, h⟩ := bif_fail h
    simp only [Bool.and_eq_true] at hle
    have h1 := Nat.eq_of_beq_eq_true hle.1
    have h2 := Nat.le_of_ble_eq_true hle.2
    obtain ⟨e1, e2⟩ := hE (f, x) (by simp) _ hc
    have hov : LsIn live ρ (over cs off c.leaves) := by
     intro l hl
     unfold over at hl
     rcases List.mem_append.1 hl with hl | hl
     ·rcases List.mem_append.1 hl with hl | hl
      ·exact hcs l (List.mem_of_mem_take hl)
      ·exact e2 l hl
     ·exact hcs l (List.mem_of_mem_drop hl)
    obtain ⟨cs', h, hin, hf⟩ := ih _ (fun x hx => hE x (List.mem_cons_of_mem _ hx)) hov h
    refine ⟨cs', h, hin, fun cells hcl => ?_⟩
    have hcv : (a.eval x).cells.toList = vals ρ c.leaves := by rw [e1]; exact cv_cells ρ c
    have hsz : cells.size = cs.length := by rw [← Array.length_toList, hcl]; simp [vals]
    obtain ⟨c1, f1, t1⟩ := fill_one (place := place) (cells := cells) (i := f) (u := a.eval x) (rest := ps.map fun x => (x.1, a.eval x.2)) (hpl f off ft td hn htd) (by rw [← Array.length_toList, hcv]; simpa [vals] using h1) (by rw [hsz]; exact h2)
    obtain ⟨c2, f2, t2⟩ := hf c1 (by
     rw [t1, hcl, hcv]
     simp [over, vals, h1, List.map_take, List.map_drop])
    exact ⟨c2, by rw [List.map_cons, f1, f2], t2⟩
   ·exact h.elim
  ·exact h.elim
theorem places_run {F : List Field} (h : ∀ f ∈ F, ∃ tf, get C.Δ f.type = some tf ∧ TdOk P C.Δ f.type tf) : ∃ pl : List (Nat × Nat), F.mapM (fun f => (P.info? f.type).map fun i => (f.offset, i.size)) = some pl ∧ ∀ (i : Nat) (f : Field), F[i]? = some f → ∀ tf, get C.Δ f.type = some tf → pl[i]? = some (f.offset, tf.size) := by
 induction F with
 | nil => exact ⟨[], rfl, fun i f h => by simp at h⟩
 | cons f F ih =>
  obtain ⟨pl, h1, h2⟩ := ih (fun g hg => h g (List.mem_cons_of_mem _ hg))
  obtain ⟨tf, ht, hT⟩ := h f List.mem_cons_self
  obtain ⟨i, hi, hs, _⟩ := hT.info
  refine ⟨(f.offset, tf.size) :: pl, ?_, fun j g hg tg htg => ?_⟩
  ·simp [List.mapM_cons, h1, hi, hs]
  ·cases j with
   | zero =>
    obtain rfl : f = g := by simpa using hg
    rw [ht] at htg
    injection htg with htg
    subst htg
    rfl
   | succ j => exact h2 j g (by simpa using hg) tg htg
theorem go_build {T : TypeId} {ps : Array (Nat × Operand)} (hC : TdsOk P C.Δ) (H : Mem w ok live w1 ρ fp me) (ho : o.op = .build T ps) (E : ∀ x ∈ ps.toList, ∀ v, ev s x.2 = some v → a.eval x.2 = v.val ρ ∧ v.In live ρ) (h : Out me (opA C b s o) (v, us)) : Goes P w ok live b o a w1 ρ me v us := by
 unfold opA at h
 simp only [ho] at h
 split at h
 ·rename_i td fs htd hfs
  obtain ⟨td', F, htd', hT, hu, hF⟩ := fieldsOf_out hC hfs
  rw [htd] at htd'
  injection htd' with htd'
  subst htd'
  have hfld : ∀ f ∈ F.toList, ∃ tf, get C.Δ f.type = some tf ∧ TdOk P C.Δ f.type tf := by
   intro f hf
   unfold fieldsOf at hfs
   rw [htd] at hfs
   simp only at hfs
   split at hfs
   ·rename_i fs' hk
    injection hfs with hfs
    subst hfs
    have hn := hT.knd
    rw [hk] at hn
    obtain ⟨tf, ht⟩ := hn.2 (f.offset, f.type) (by rw [← hF]; exact List.mem_map_of_mem (f := fun f : Field => (f.offset, f.type)) hf)
    exact ⟨tf, ht, hC _ _ ht⟩
   ·cases hfs
  have hst : td.st = true := by
   unfold fieldsOf at hfs
   rw [htd] at hfs
   simp only at hfs
   split at hfs
   ·rename_i fs' hk
    have hn := hT.knd
    rw [hk] at hn
    exact hn.1
   ·cases hfs
  obtain ⟨pl, hp1, hp2⟩ := places_run (C := C) hfld
  obtain ⟨i, hi, hs, _, hz⟩ := hT.info
  obtain ⟨cs', h, hin, hf⟩ := buildL_out (a := a) (ρ := ρ) (live := live) (place := (pl.toArray[·]?)) (fun i off ft tf hn ht => by
   obtain ⟨f, hf, ho, hty⟩ := fields_at hF hn
   have := hp2 i f (by simpa using hf) tf (by rw [hty]; exact ht)
   rw [ho] at this
   simpa using this) ps.toList (zl td.ty) E (fun l hl => in_none (zl_ref _ l hl)) h
  injection out_out h with h1 h2
  subst h1; subst h2
  have hzc : (zeroV td).cells.toList = vals ρ (zl td.ty) := by
   have := of_cells (fun _ => ⟨0, none, 0, 0, 0⟩) td.st (zl td.ty)
   rw [vals_none (ρ := ρ) (zl_ref td.ty)] at this
   exact this
  obtain ⟨cells', hf1, hf2⟩ := hf (zeroV td).cells hzc
  refine goes_pure H hin ?_
  have hb : P.built T (ps.map fun x => (x.1, a.eval x.2)).toList = some cells' := by
   unfold Program.built
   rw [hi, hu]
   simp only
   rw [hz, hp1]
   simp only
   rw [show (ps.map fun x => (x.1, a.eval x.2)).toList = ps.toList.map fun x => (x.1, a.eval x.2) by simp]
   exact hf1
  have hr := run_build (P := P) w1 T (ps.map fun x => (x.1, a.eval x.2)) cells' hb
  have hcc : cells' = (vals ρ cs').toArray := by rw [← hf2]
  unfold execOp
  simp only [ho, Sem.run_bind]
  rw [hr, hcc]
  rfl
 ·exact h.elim
theorem go_convert {f t : TypeId} {x : Operand} (hC : TdsOk P C.Δ) (H : Mem w ok live w1 ρ fp me) (ho : o.op = .convert f t x) (E : ∀ v, ev s x = some v → a.eval x = v.val ρ ∧ v.In live ρ) (h : Out me (convA C f t (ev s x)) (v, us)) : Goes P w ok live b o a w1 ρ me v us := by
 unfold convA at h
 split at h
 ·rename_i tf tt hf ht
  split at h
  ·rename_i k k' k'' z hk hk' hx
   obtain ⟨e1, _⟩ := E _ hx
   have e1' : a.eval x = .int k'' z := e1
   have h1 := (hC f tf hf).int hk
   have h2 := (hC t tt ht).int hk'
   refine goes_comp H (comp_val h rfl (fun _ => rfl)) ?_
   unfold execOp
   simp [ho, e1', Sem.run_bind, convert, run_underlying h1, run_underlying h2, Conv.intToInt, Leaf.val]
  ·rename_i st hk hk' hx
   obtain ⟨e1, _⟩ := E _ hx
   have e1' : a.eval x = .string st := e1
   have h1 := (hC f tf hf).str hk
   have h2 := (hC t tt ht).str hk'
   refine goes_comp H (comp_val h rfl (fun _ => rfl)) ?_
   unfold execOp
   simp [ho, e1', Sem.run_bind, convert, run_underlying h1, run_underlying h2, Leaf.val]
  ·rename_i e l hk hk' hx
   obtain ⟨e1, e2⟩ := E _ hx
   have h1 := (hC f tf hf).slice hk
   have h2 := (hC t tt ht).str hk'
   split at h
   ·rename_i te hte
    split at h
    ·rename_i hke
     have h3 := (hC e te hte).int hke
     obtain ⟨xs, A, c, h, hv, hl, hc⟩ := rdRow_out H (lf_of e2).ok h
     have e1' : a.eval x = .slice A xs.length c := by rw [e1]; exact hv
     have hr := Kd.C_string (P := P) (c := c) h1 h3 h2 hc
     refine goes_comp H (comp_val h rfl (fun _ => rfl)) ?_
     unfold execOp
     simp only [ho, e1', Sem.run_bind, hr]
     rfl
    ·exact h.elim
   ·exact h.elim
  ·exact h.elim
 ·exact h.elim
theorem intsOf_out : ∀ (os : List Operand) {K : List Int → OP} {r : SV × Me}, (∀ x ∈ os, ∀ v, ev s x = some v → a.eval x = v.val ρ ∧ v.In live ρ) → Out me (intsOf s os K) r → ∃ zs, Out me (K zs) r ∧ os.map a.eval = zs.map (Value.int .i64)
 | [], K, r, _, h => ⟨[], h, rfl⟩
 | x :: os, K, r, hE, h => by
  obtain ⟨k, z, hx, h⟩ := intOf_out h
  split at h
  ·rename_i hk _
   subst hk
   obtain ⟨zs, h, hz⟩ := intsOf_out os (fun y hy => hE y (List.mem_cons_of_mem _ hy)) h
   refine ⟨z :: zs, h, ?_⟩
   have := (hE x (by simp) _ hx).1
   simp [this, hz, SV.val, CV.val, Leaf.val]
  ·exact h.elim
theorem run_maxL : ∀ (zs : List Int) (z : Int), ((zs.map (Value.int .i64)).foldlM Builtin.max2 (.int .i64 z)).run P w1 = .ok (.int .i64 (maxL zs z)) w1
 | [], z => by simp [maxL]
 | y :: zs, z => by
  have hm : (if y > z then y else z) = max z y := by rw [Int.max_def]; split <;> split <;> omega
  simp only [List.map_cons, List.foldlM_cons, Sem.run_bind, Builtin.max2, maxL]
  simp only [Sem.run_pure, Result.andThen_ok, hm]
  exact run_maxL zs _
theorem run_minL : ∀ (zs : List Int) (z : Int), ((zs.map (Value.int .i64)).foldlM Builtin.min2 (.int .i64 z)).run P w1 = .ok (.int .i64 (minL zs z)) w1
 | [], z => by simp [minL]
 | y :: zs, z => by
  have hm : (if y < z then y else z) = min z y := by rw [Int.min_def]; split <;> split <;> omega
  simp only [List.map_cons, List.foldlM_cons, Sem.run_bind, Builtin.min2, minL]
  simp only [Sem.run_pure, Result.andThen_ok, hm]
  exact run_minL zs _
theorem go_max {c : Call} (H : Mem w ok live w1 ρ fp me) (ho : o.op = .call c) (hcal : c.callee = .builtin .max) (E : ∀ x ∈ c.args.toList, ∀ v, ev s x = some v → a.eval x = v.val ρ ∧ v.In live ρ) (h : Out me (intsOf s c.args.toList fun | z :: zs => .val (.int .i64 (maxL zs z)) | [] => .fail) (v, us)) : Goes P w ok live b o a w1 ρ me v us := by
 obtain ⟨zs, h, hz⟩ := intsOf_out (a := a) (ρ := ρ) (live := live) _ E h
 cases zs with
 | nil => exact h.elim
 | cons z zs =>
  refine goes_comp H (comp_val h rfl (fun _ => rfl)) ?_
  have hargs : (c.args.map a.eval).toList = (z :: zs).map (Value.int .i64) := by rw [Array.toList_map]; exact hz
  unfold execOp
  simp [ho, resolve, hcal, Sem.run_bind, invoke, builtin, Builtin.max_, hargs]
  rw [hz]
  simp only [List.map_cons]
  rw [run_maxL]
  rfl
theorem go_min {c : Call} (H : Mem w ok live w1 ρ fp me) (ho : o.op = .call c) (hcal : c.callee = .builtin .min) (E : ∀ x ∈ c.args.toList, ∀ v, ev s x = some v → a.eval x = v.val ρ ∧ v.In live ρ) (h : Out me (intsOf s c.args.toList fun | z :: zs => .val (.int .i64 (minL zs z)) | [] => .fail) (v, us)) : Goes P w ok live b o a w1 ρ me v us := by
 obtain ⟨zs, h, hz⟩ := intsOf_out (a := a) (ρ := ρ) (live := live) _ E h
 cases zs with
 | nil => exact h.elim
 | cons z zs =>
  refine goes_comp H (comp_val h rfl (fun _ => rfl)) ?_
  have hargs : (c.args.map a.eval).toList = (z :: zs).map (Value.int .i64) := by rw [Array.toList_map]; exact hz
  unfold execOp
  simp [ho, resolve, hcal, Sem.run_bind, invoke, builtin, Builtin.min_, hargs]
  rw [hz]
  simp only [List.map_cons]
  rw [run_minL]
  rfl
end
end Go.Proofs.YthncjcfnpfajaaaA
