/- A FUNCTION: what its plain function says, it does. Plain lemmas; no condition. -/
import Derived.Test.YthncjcfnpfajaaaAbN
namespace Go.Proofs.YthncjcfnpfajaaaA
open Go Go.RowKit Go.Proofs.YthncjcfnpfajaaaW.PrintWords
set_option linter.unusedVariables false
set_option linter.unusedSimpArgs false
/-- One result. -/
def rvRun (tmps : Array Value) : ResultVar → Sem Value
 | .tmp t => pure (tmps.getD t undef)
 | .cell a t => do loadVar t (← asAddr (tmps.getD a undef))
theorem al_lt {np : Nat} : ∀ {al : List (Option Nat)}, alWf np al = true → ∀ q, some q ∈ al → q < np
 | [], _, q, h => by cases h
 | none :: al, hw, q, h => al_lt (al := al) hw q ((List.mem_cons.1 h).resolve_left (fun h => by cases h))
 | some q0 :: al, hw, q, h => by
  simp only [alWf, Bool.and_eq_true] at hw
  rcases List.mem_cons.1 h with h | h
  ·injection h with h; subst h; exact nth_np hw.1
  ·exact al_lt hw.2 q h
section
variable {α : Type} {P : Program} {me : Nat → Option Part} {v : α} {w w1 : World} {ok live : Nat → Prop} {ρ ρ' : Nat → Hd} {fp fp' : Nat → Nat → Prop} {np nx b : Nat} {a : Act} {s : Sl} {C : Ctx} {hs hs' : List Hd} {tks tks' : List (Nat × Nat)}
theorem run_loadVar_td {T : Nat} {td : TD} (hT : TdOk P C.Δ T td) {p : Addr} {ls : List Leaf} {cs : List Value} (hv : vals ρ ls = cs) (hl : ls.length = td.size) (hc : ∀ (i : Nat) v, cs[i]? = some v → w1.cell? (p.add i) = some v) : (loadVar T p).run P w1 = .ok ((CV.of td.st ls).val ρ) w1 := by
 have h := run_load_td hT hv hl hc
 simpa [Instr.loadAt, Instr.sureAddr, Sem.run_bind] using h
theorem resV_out (hC : TdsOk P C.Δ) (H : Mem w ok live w1 ρ fp me) (hs : SlOk s a ρ live) {r : ResultVar} {K : CV → Prg α} (h : Out me (resV C.Δ s r K) v) : ∃ cv, Out me (K cv) v ∧ cv.In live ρ ∧ (rvRun a.tmps r).run P w1 = .ok (cv.val ρ) w1 := by
 cases r with
 | tmp t =>
  simp only [resV] at h
  split at h
  ·rename_i cv hcv
   obtain ⟨h1, h2⟩ := hs t _ hcv
   refine ⟨cv, h, h2, ?_⟩
   simp only [rvRun, h1]
   rfl
  ·exact h.elim
 | cell t T =>
  simp only [resV] at h
  split at h
  ·rename_i r td hr htd
   obtain ⟨p, hp, h⟩ := h
   cases p <;> first | exact h.elim | skip
   rename_i T' cs
   obtain ⟨hz, h⟩ := bif_fail h
   have hz := Nat.eq_of_beq_eq_true hz
   obtain ⟨h1, _⟩ := hs t _ hr
   obtain ⟨_, hcs⟩ := H.lin r _ hp
   obtain ⟨_, hblk⟩ := H.on r _ hp
   have hcs' : LsIn live ρ cs := hcs
   refine ⟨_, h, by show LsIn live ρ (CV.of td.st cs).leaves; rw [of_leaves]; exact hcs', ?_⟩
   have hrun := run_loadVar_td (P := P) (C := C) (w1 := w1) (ρ := ρ) (hC T td htd) (p := ⟨(ρ r).g, 0, none⟩) (ls := cs) rfl hz.symm (fun i v hv => by
    have := blk_cells hblk (j := 0) (m := (vals ρ cs).length) i v (by rw [List.drop_zero, List.take_length]; exact hv)
    exact this)
   have h1' : a.tmps.getD t undef = .pointer (some ⟨(ρ r).g, 0, none⟩) := h1
   simp only [rvRun, h1', Sem.run_bind, asAddr, Sem.run_pure, Result.andThen_ok]
   exact hrun
  ·exact h.elim
/-- Results. -/
theorem ressE_out (hC : TdsOk P C.Δ) (H : Mem w ok live w1 ρ fp me) (hs : SlOk s a ρ live) : ∀ (rs : List RM) (os : List Type) (rvs : List ResultVar) (b : Nat) {us : List Nat} {O : List Nat → (Tup os → Prg α) → Prg α} {K : Tup (resTs rs os) → Prg α}, rsWf np rs = true → Out me (ressE C.Δ np s rs os rvs us O K) v →
  ∃ us', ∃ (hs : List Hd) (tks : List (Nat × Nat)) (F : Tup os → Tup (resTs rs os)), Out me (O us' fun y => K (F y)) v ∧ TkOk us us' tks ∧ ∀ y nx ρ' fp', Nw np b nx hs tks ρ ρ' fp fp' → (leaveRsF rs os (F y) b).2.1 = y ∧ (leaveRsF rs os (F y) b).2.2.2 = b + hs.length ∧ Tells w ok w1 nx ρ' fp' (leaveRsF rs os (F y) b).2.2.1 ∧
   (∀ cv ∈ (leaveRsF rs os (F y) b).1, CV.In (fun i => i < nx) ρ' cv) ∧ (rvs.mapM (rvRun a.tmps)).run P w1 = .ok ((leaveRsF rs os (F y) b).1.map (CV.val ρ')) w1 := by
 intro rs
 induction rs with
 | nil =>
  intro os rvs b us O K hw h
  cases rvs with
  | cons => exact h.elim
  | nil => exact ⟨us, [], [], fun y => y, h, TkOk.nil us, fun y nx ρ' fp' N => ⟨rfl, rfl, Tells.nil, (fun _ h => by cases h), rfl⟩⟩
 | cons p rs ih =>
  intro os rvs b us O K hw h
  have mapM1 : ∀ {rv : ResultVar} {rvs : List ResultVar} {u : Value} {us : List Value}, (rvRun a.tmps rv).run P w1 = .ok u w1 → (rvs.mapM (rvRun a.tmps)).run P w1 = .ok us w1 → ((rv :: rvs).mapM (rvRun a.tmps)).run P w1 = .ok (u :: us) w1 := by
   intro rv rvs u us h1 h2
   simp [List.mapM_cons, Sem.run_bind, h1, h2]
  cases rvs with
  | nil => cases p <;> exact h.elim
  | cons rv rvs =>
   cases p with
   | val st t al =>
    simp only [rsWf, Bool.and_eq_true] at hw
    obtain ⟨cv, h, hin, hrun⟩ := resV_out hC H hs h
    obtain ⟨hst, h⟩ := bif_fail h
    obtain ⟨x, pre, rest, us1, h1, t1, h, e1, l1, k1, g1⟩ := takR_out (np := np) H t b (al_lt hw.1) hin h
    cases rest with
    | cons => exact h.elim
    | nil =>
     rw [List.append_nil] at e1
     obtain ⟨us2, h2, t2, F, h, k2, g2⟩ := ih os rvs (b + h1.length) hw.2 h
     refine ⟨us2, h1 ++ h2, t1 ++ t2, fun y => tcons _ x (F y), h, k1.trans k2, fun y nx ρ' fp' N => ?_⟩
     obtain ⟨a1, a2, a3, a4⟩ := g1 [] nx ρ' fp' N.left
     obtain ⟨b1, b2, b3, b4, b5⟩ := g2 y nx ρ' fp' N.right
     simp only [leaveRsF, hd_tcons, tl_tcons, a3]
     refine ⟨b1, by rw [b2, List.length_append]; omega, a4.append b3, fun c hc => ?_, ?_⟩
     ·rcases List.mem_cons.1 hc with rfl | hc
      ·show LsIn _ _ (CV.of st _).leaves
       rw [of_leaves]
       exact a2
      ·exact b4 c hc
     ·refine mapM1 ?_ b5
      rw [hrun, of_val hst (by rw [a1, ← e1])]
   | ptr T t al =>
    simp only [rsWf, Bool.and_eq_true] at hw
    obtain ⟨cv, h, hin, hrun⟩ := resV_out hC H hs h
    cases cv with
    | ag cs => exact h.elim
    | lf l =>
     obtain ⟨r0, rfl⟩ : ∃ r0, l = .ptr r0 0 := by
      cases l <;> first | exact h.elim | skip
      rename_i r0 j0
      cases j0 with
      | zero => exact ⟨r0, rfl⟩
      | succ j0 => exact h.elim
     rcases bif_out h with ⟨_, h0⟩ | ⟨hm, h0⟩
     ·exact h0.elim
     clear h
     simp only [Bool.or_eq_false_iff] at hm
     have hni : r0 ∉ us := fun hi => by rw [memb_iff.2 hi] at hm; cases hm.1
     obtain ⟨p, hp, h⟩ := h0
     cases p <;> first | exact h.elim | skip
     rename_i T' cs
     obtain ⟨hT, h⟩ := bif_fail h
     have hT := Nat.eq_of_beq_eq_true hT
     subst hT
     obtain ⟨_, hcs⟩ := H.lin r0 _ hp
     obtain ⟨hg, hblk⟩ := H.on r0 _ hp
     obtain ⟨x, pre, rest, us1, h1, t1, h, e1, l1, k1, g1⟩ := takR_out (np := np) H t (b + 1) (al_lt hw.1) hcs h
     cases rest with
     | cons => exact h.elim
     | nil =>
      rw [List.append_nil] at e1
      obtain ⟨us2, h2, t2, F, h, k2, g2⟩ := ih os rvs (b + 1 + h1.length) hw.2 h
      refine ⟨us2, [ρ r0] ++ (h1 ++ h2), [(b, r0)] ++ (t1 ++ t2), fun y => tcons _ x (F y), h, (TkOk.one hni).trans (k1.trans k2), fun y nx ρ' fp' N => ?_⟩
      have N1 : Nw np (b + 1) nx (h1 ++ h2) (t1 ++ t2) ρ ρ' fp fp' := N.right
      have hb : ρ' b = ρ r0 := N.at_ 0 _ rfl
      have hbn : b < nx := by have := N.lnx; simp at this; omega
      obtain ⟨a1, a2, a3, a4⟩ := g1 [] nx ρ' fp' N1.left
      obtain ⟨b1, b2, b3, b4, b5⟩ := g2 y nx ρ' fp' N1.right
      simp only [leaveRsF, hd_tcons, tl_tcons, a3]
      refine ⟨b1, by rw [b2]; simp; omega, Tells.cons hbn a2 (fun mec => ?_) (a4.append b3), fun c hc => ?_, ?_⟩
      ·show fp' b (ρ' b).g ∧ w1.heap[(ρ' b).g]? = _
       rw [hb, a1, ← e1]
       exact ⟨N.fp b r0 (by simp) _ hg, hblk⟩
      ·rcases List.mem_cons.1 hc with rfl | hc
       ·exact fun l hl => by
         simp only [CV.leaves, List.mem_singleton] at hl
         subst hl
         exact ⟨fun i hi => by injection hi with hi; subst hi; exact hbn, trivial⟩
       ·exact b4 c hc
      ·refine mapM1 ?_ b5
       rw [hrun]
       show Result.ok (Value.pointer (some ⟨(ρ r0).g, 0, none⟩)) w1 = Result.ok (Value.pointer (some ⟨(ρ' b).g, 0, none⟩)) w1
       rw [hb]
end
theorem enterF_nx : ∀ (ps : List PM) (x : Args ps) (i b : Nat), (enterF ps x i b).2.2 = b + nps ps
 | [], _, _, b => rfl
 | .val st t ms :: ps, x, i, b => by simp only [enterF, enterF_nx ps, enterLs_nx, cnt_descs, nps]; omega
 | .ptr T t ms :: ps, x, i, b => by simp only [enterF, enterF_nx ps, enterLs_nx, cnt_descs, nps]; omega
section
variable {P : Program} {w w1 : World} {ok : Nat → Prop} {b : Nat} {a : Act} {s : Sl} {m : Me} {C : Ctx} {ρ0 : Nat → Hd} {sig : Sig} {r : Res sig}
/-- The end. -/
theorem exit_ok (hC : TdsOk P C.Δ) (hsig : rsWf (nps sig.ps) sig.rs = true) {fn : Func} (hR : Rel C w ok (nps sig.ps) ρ0 s m b a w1) (h : Out (getm m) (exitP C.Δ sig fn.results.toList s) r) : ∃ v, (results fn a.tmps).run P w1 = .ok v w1 ∧ Left sig r w ok ρ0 (.returned v) w1 := by
 obtain ⟨ρ, fp, H, hnp, hρ, hs, hN, hdf⟩ := hR
 obtain ⟨us1, h1, t1, F, h, k1, g1⟩ := ressE_out (np := nps sig.ps) hC H hs sig.rs (outTs sig.ps) fn.results.toList (nps sig.ps) hsig h
 obtain ⟨y, us2, h2, t2, h, k2, g2⟩ := outsE_out (np := nps sig.ps) H (fun i hi => by omega) sig.ps 0 (nps sig.ps + h1.length) (by omega) h
 have hr : F y = r := h
 subst hr
 obtain ⟨tks, htk⟩ : ∃ tks, tks = t1 ++ t2 := ⟨_, rfl⟩
 have hnd : (tks.map (·.2)).Nodup := by rw [htk]; exact (k1.trans k2).2.1
 obtain ⟨ρ', hρ'⟩ : ∃ ρ' : Nat → Hd, ∀ i, ρ' i = if i < nps sig.ps then ρ i else (h1 ++ h2).getD (i - nps sig.ps) noHd := ⟨_, fun _ => rfl⟩
 have N : Nw (nps sig.ps) (nps sig.ps) (nps sig.ps + (h1 ++ h2).length) (h1 ++ h2) (t1 ++ t2) ρ ρ' fp (fun i k => ∃ r, (i, r) ∈ tks ∧ fp r k) :=
  ⟨Nat.le_refl _, Nat.le_add_right _ _, fun j h hj => by rw [hρ', if_neg (by omega), Nat.add_sub_cancel_left]; exact getD_at hj, fun i hi => by rw [hρ', if_pos hi], fun i r hr k hk => ⟨r, by rw [htk]; exact hr, hk⟩⟩
 obtain ⟨a1, a2, a3, a4, a5⟩ := g1 y _ ρ' _ N.left
 obtain ⟨b1, b2⟩ := g2 _ ρ' _ N.right
 have hcv : (leaveF sig (F y)).1 = (leaveRsF sig.rs (outTs sig.ps) (F y) (nps sig.ps)).1 := rfl
 have hme : (leaveF sig (F y)).2.1 = (leaveRsF sig.rs (outTs sig.ps) (F y) (nps sig.ps)).2.2.1 ++ (leaveOsF sig.ps y 0 (nps sig.ps + h1.length)).1 := by
  simp only [leaveF, a1, a2]
 have hnx : (leaveF sig (F y)).2.2 = nps sig.ps + (h1 ++ h2).length := by
  simp only [leaveF, a1, a2, b1, List.length_append]
  omega
 have T := a3.append b2
 refine ⟨(svOf (leaveF sig (F y)).1).val ρ', ?_, ρ', fun i k => ∃ r, (i, r) ∈ tks ∧ fp r k, fun i hi => by rw [hρ', if_pos hi]; exact hρ i hi, ?_, rfl, ?_⟩
 ·have hm : (fn.results.mapM (rvRun a.tmps)).run P w1 = .ok (((leaveF sig (F y)).1.map (CV.val ρ')).toArray) w1 := by
   rw [Array.mapM_eq_mapM_toList]
   rw [map_eq_pure_bind, Sem.run_bind, a5]
   rfl
  have hres : results fn a.tmps = (fn.results.mapM (rvRun a.tmps)).bind fun vs => pure (if h : vs.size = 1 then vs[0] else .tuple vs) := rfl
  rw [hres, svOf_svV]
  show (Bind.bind (fn.results.mapM (rvRun a.tmps)) _).run P w1 = _
  rw [Sem.run_bind, hm]
  show Result.ok _ w1 = _
  congr 1
  match (leaveF sig (F y)).1.map (CV.val ρ') with
  | [] => rfl
  | [_] => rfl
  | _ :: _ :: _ => simp [svV]
 ·rw [hnx, hme]
  refine ⟨H.os, H.tape, H.output, H.size, H.keep, H.up, fun i p hp => ?_, fun i k ⟨r, _, hk⟩ => H.fpk r k hk, fun i j k ⟨r, hr, hk⟩ ⟨r', hr', hk'⟩ => ?_, fun i p hp => ?_⟩
  ·obtain ⟨p', e1, e2, e3, _⟩ := T (fun _ => none) i _ (getm_get hp)
   injection e1 with e1
   subst e1
   exact ⟨e2, e3⟩
  ·have := H.dis r r' k hk hk'
   subst this
   exact nodup_snd hnd hr hr'
  ·obtain ⟨p', e1, _, _, e4⟩ := T (getm _) i _ (getm_get hp)
   injection e1 with e1
   subst e1
   exact e4
 ·rw [hnx]
  exact svOf_in.2 (by rw [hcv]; exact a4)
/-- A FUNCTION. -/
theorem fn_ok {f : FuncId} {fn : Func} {c : Code} {k : Nat} {F : Nat → Args sig.ps → Option (Res sig)} {an : Ann (Res sig)} (hf : P.funcs[f]? = some fn) (hb : fn.body = some c) (hname : (fn.name == "runtime.NumGoroutine") = false) (hmix : P.follows .mixedOrders = true) (hC : TdsOk P C.Δ) (hE : EntsOk P C.fuel C.Γ)
  (hn : fn.ntmps = C.N) (hps : sig.ps.length ≤ C.N) (hsig : rsWf (nps sig.ps) sig.rs = true) (hF : ∀ x, F k x = runF C sig fn c an x) (hO : obl C (nps sig.ps) c an (retK C.Δ sig fn.results.toList)) : EntOk P k ⟨f, sig, F⟩ := by
 refine ⟨fun args w => ?_, ?_⟩
 ·have h1 : fn.name ≠ "runtime.NumGoroutine" := by simpa using hname
  simp [callFunc, hf, h1, hb]
 ·intro x r hr w ok ρ fp args hargs H hsl
  have hr' : runF C sig fn c an x = some r := by rw [← hF]; exact hr
  unfold runF at hr'
  rw [enter_eq] at hr'
  have hnx : (enterF sig.ps x 0 0).2.2 = nps sig.ps := by rw [enterF_nx, Nat.zero_add]
  rw [hnx] at hr'
  have hKr : KOk C w ok (nps sig.ps) ρ (retK C.Δ sig fn.results.toList) r (bodyPost P fn (Left sig r w ok ρ)) := by
   intro e s m b a w1 h hR
   have key : (exitP C.Δ sig fn.results.toList s).run (fun x _ => some x) m [] = some r → a.defers = [] ∧ ∃ v, (results fn a.tmps).run P w1 = .ok v w1 ∧ Left sig r w ok ρ (.returned v) w1 := by
    intro h
    have hdf : a.defers = [] := by obtain ⟨_, _, _, _, _, _, _, h⟩ := hR; exact h
    rw [run_res] at h
    cases hrr : res (getm m) (exitP C.Δ sig fn.results.toList s) [] with
    | none => rw [hrr] at h; cases h
    | some y =>
     obtain ⟨y, rd⟩ := y
     rw [hrr] at h
     injection h with h
     subst h
     exact ⟨hdf, exit_ok hC hsig hR (res_at hrr (fun _ _ => rfl)).2.2⟩
   cases e with
   | nrm => exact key h
   | ret => exact key h
   | ext id => cases h
  refine calls_of_wp hf hb (run_ok hC hE hmix c an _ _ _ _ _ _ w hO hKr hr' ⟨ρ, fp, H, Nat.le_refl _, fun _ _ => rfl, fun q v hv => ?_, ?_, rfl⟩)
  ·obtain ⟨h1, h2⟩ := hsl q v hv
   refine ⟨?_, h2⟩
   have hq := (Array.getElem?_eq_some_iff.1 h1).1
   rw [Array.getD_eq_getD_getElem?, Array.getElem?_append_left hq, h1]
   rfl
  ·have : args.size = sig.ps.length := hargs
   simp only [Array.size_append, Array.size_replicate]
   omega
end
end Go.Proofs.YthncjcfnpfajaaaA
