/- The abstract machine's code, shown. Plain lemmas; no condition. -/
import Derived.Test.YthncjcfnpfajaaaAbK
namespace Go.Proofs.YthncjcfnpfajaaaA
open Go Go.RowKit Go.Proofs.YthncjcfnpfajaaaW.PrintWords
set_option linter.unusedVariables false
set_option linter.unusedSimpArgs false
def exOf : Ex → Exit
 | .nrm => .normal
 | .ext id => .exit id
 | .ret => .ret
section
variable {P : Program} {w : World} {ok : Nat → Prop} {np : Nat} {ρ0 : Nat → Hd} {C : Ctx} {R : Type} {r : R}
def KOk (C : Ctx) (w : World) (ok : Nat → Prop) (np : Nat) (ρ0 : Nat → Hd) (K : Kt R) (r : R) (Q : Exit → Act → World → Prop) : Prop := ∀ e s m b a w1, K e s m b = some r → Rel C w ok np ρ0 s m b a w1 → Q (exOf e) a w1
theorem toS_ok {S : Shape} {J : S.X → Option R} {s : Sl} {m : Me} {b : Nat} {a : Act} {w1 : World} (hw : S.wf np = true) (h : toS S np J s m b = some r) (hR : Rel C w ok np ρ0 s m b a w1) : ∃ x, J x = some r ∧ Rel C w ok np ρ0 (S.slF x) (S.meF x) S.nx a w1 := by
 unfold toS at h
 rw [run_res] at h
 cases hr : res (getm m) (S.out np s) [] with
 | none => rw [hr] at h; cases h
 | some y =>
  obtain ⟨x, rd⟩ := y
  rw [hr] at h
  exact ⟨x, h, shape_ok hw hR (res_at hr (fun _ _ => rfl)).2.2⟩
theorem ev_ok {s : Sl} {a : Act} {ρ : Nat → Hd} {live : Nat → Prop} (hs : SlOk s a ρ live) {x : Operand} {v : SV} (h : ev s x = some v) : a.eval x = v.val ρ ∧ v.In live ρ :=
 hs.evs { dst := none, op := .move x, type := 0, pos := "", after := #[], guard := none } x (by simp [Op.operands]) v h
theorem Rel.know {s : Sl} {m : Me} {b : Nat} {a : Act} {w1 : World} {c : Operand} {t : Bool} (h : Rel C w ok np ρ0 s m b a w1) (hc : a.eval c = .bool t) : Rel C w ok np ρ0 (know c t s) m b a w1 := by
 obtain ⟨ρ, fp, H, hnp, hρ, hs, hN, hdf⟩ := h
 refine ⟨ρ, fp, H, hnp, hρ, ?_, hN, hdf⟩
 cases c with
 | tmp q => exact hs.lit hc
 | _ => exact hs
/-- CODE. -/
theorem run_ok (hC : TdsOk P C.Δ) (hE : EntsOk P C.fuel C.Γ) (hmix : P.follows .mixedOrders = true) : ∀ (c : Code) (an : Ann R) (K : Kt R) (Q : Exit → Act → World → Prop) (s : Sl) (m : Me) (b : Nat) (a : Act) (w1 : World),
  obl C np c an K → KOk C w ok np ρ0 K r Q → run C np c an K s m b = some r → Rel C w ok np ρ0 s m b a w1 → c.wp P Q a w1 := by
 intro c
 induction c with
 | skip => intro an K Q s m b a w1 _ hK h hR; exact Go.wp_skip (hK .nrm s m b a w1 h hR)
 | label l => intro an K Q s m b a w1 _ hK h hR; exact Go.wp_label (hK .nrm s m b a w1 h hR)
 | exit id => intro an K Q s m b a w1 _ hK h hR; exact Go.wp_exit (hK (.ext id) s m b a w1 h hR)
 | ret => intro an K Q s m b a w1 _ hK h hR; exact Go.wp_ret (hK .ret s m b a w1 h hR)
 | region id ops draw =>
  intro an K Q s m b a w1 _ hK h hR
  cases draw with
  | true =>
   have := drawn_ok hC hE hmix (id := id) (Q := Q) (fun s m b a w1 h hR => hK .nrm s m b a w1 h hR) (l := ops.toList) h hR
   simpa using this
  | false =>
   have := runOps_ok hC hE (Q := Q) (fun s m b a w1 h hR => hK .nrm s m b a w1 h hR) (l := ops.toList) ops.toList s m b a w1 h hR
   exact wp_region_list (by simpa using this)
 | seq x y ihx ihy =>
  intro an K Q s m b a w1 ho hK h hR
  refine Go.wp_seq ?_
  have plain : ∀ (an1 an2 : Ann R), obl C np x an1 (thenK (run C np y an2 K) K) → obl C np y an2 K → run C np x an1 (thenK (run C np y an2 K) K) s m b = some r → x.wp P (Exit.then (y.wp P Q) Q) a w1 := by
   intro an1 an2 o1 o2 h
   refine ihx an1 _ _ s m b a w1 o1 (fun e s m b a w1 h hR => ?_) h hR
   cases e with
   | nrm => exact ihy an2 K Q s m b a w1 o2 hK h hR
   | ext id => exact hK (.ext id) s m b a w1 h hR
   | ret => exact hK .ret s m b a w1 h hR
  cases an with
  | join S J a1 a2 =>
   obtain ⟨⟨hwf, hJ⟩, o1, o2⟩ := ho
   refine ihx a1 _ _ s m b a w1 o1 (fun e s m b a w1 h hR => ?_) h hR
   cases e with
   | nrm =>
    obtain ⟨z, hz, hR'⟩ := toS_ok hwf h hR
    rw [hJ z, inj_eq] at hz
    exact ihy a2 K Q _ _ _ a w1 o2 hK hz hR'
   | ext id => exact hK (.ext id) s m b a w1 h hR
   | ret => exact hK .ret s m b a w1 h hR
  | _ => exact plain _ _ ho.1 ho.2 h
 | cond c x y ihx ihy =>
  intro an K Q s m b a w1 ho hK h hR
  have hR0 := hR
  obtain ⟨ρ, fp, H, hnp, hρ, hs, hN, hdf⟩ := hR
  simp only [run] at h
  split at h
  ·rename_i t hc
   have hv := (ev_ok hs hc).1
   cases t with
   | true =>
    rw [if_pos rfl] at h
    exact Go.wp_cond_true hv (ihx _ K Q _ m b a w1 ho.1 hK h (hR0.know hv))
   | false =>
    rw [if_neg (by decide)] at h
    exact Go.wp_cond_false hv (ihy _ K Q _ m b a w1 ho.2 hK h (hR0.know hv))
  ·rename_i t hc
   have hv := (ev_ok hs hc).1
   cases t with
   | true => exact Go.wp_cond_true hv (ihx _ K Q _ m b a w1 ho.1 hK h hR0)
   | false => exact Go.wp_cond_false hv (ihy _ K Q _ m b a w1 ho.2 hK h hR0)
  ·rename_i p d hc
   have hv := (ev_ok hs hc).1
   by_cases hp : p
   ·rw [if_pos hp] at h
    have hv' : a.eval c = .bool true := by rw [hv]; show Value.bool _ = _; simp [hp]
    exact Go.wp_cond_true hv' (ihx _ K Q _ m b a w1 ho.1 hK h (hR0.know hv'))
   ·rw [if_neg hp] at h
    have hv' : a.eval c = .bool false := by rw [hv]; show Value.bool _ = _; simp [hp]
    exact Go.wp_cond_false hv' (ihy _ K Q _ m b a w1 ho.2 hK h (hR0.know hv'))
  ·cases h
 | block id x ih =>
  intro an K Q s m b a w1 ho hK h hR
  refine Go.wp_block (ih _ _ _ s m b a w1 ho (fun e s m b a w1 h hR => ?_) h hR)
  cases e with
  | nrm => exact hK .nrm s m b a w1 h hR
  | ret => exact hK .ret s m b a w1 h hR
  | ext q =>
   simp only [blockK] at h
   show Exit.inBlock id Q (.exit q) a w1
   simp only [Exit.inBlock]
   cases hb : Nat.beq q id with
   | true =>
    rw [hb] at h
    rw [if_pos (Nat.eq_of_beq_eq_true hb)]
    exact hK .nrm s m b a w1 h hR
   | false =>
    rw [hb] at h
    rw [if_neg (fun e => by subst e; simp at hb)]
    exact hK (.ext q) s m b a w1 h hR
 | loop x ih =>
  intro an K Q s m b a w1 ho hK h hR
  cases an with
  | loop S L bd =>
   obtain ⟨⟨hwf, h0⟩, hn⟩ := ho
   have key : ∀ n z a w1, L n z = some r → Rel C w ok np ρ0 (S.slF z) (S.meF z) S.nx a w1 → Code.rounds P x Q n a w1 := by
    intro n
    induction n with
    | zero => intro z a w1 hz _; rw [h0 z] at hz; cases hz
    | succ n ihn =>
     intro z a w1 hz hR
     obtain ⟨hL, hb⟩ := hn n
     rw [hL z, inj_eq] at hz
     refine ih (bd n) _ _ _ _ _ a w1 hb (fun e s m b a w1 h hR => ?_) hz hR
     cases e with
     | nrm =>
      obtain ⟨z', hz', hR'⟩ := toS_ok hwf h hR
      exact ihn z' a w1 hz' hR'
     | ext id => exact hK (.ext id) s m b a w1 h hR
     | ret => exact hK .ret s m b a w1 h hR
   obtain ⟨z, hz, hR'⟩ := toS_ok hwf h hR
   exact wp_loop_rounds C.fuel (key C.fuel z a w1 hz hR')
  | _ => cases h
 | _ => intro an K Q s m b a w1 _ _ h _; cases h
end
end Go.Proofs.YthncjcfnpfajaaaA
