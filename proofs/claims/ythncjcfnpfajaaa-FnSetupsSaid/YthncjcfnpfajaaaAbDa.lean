/- The table of types, checked. Plain lemmas; no condition. -/
import Derived.Test.YthncjcfnpfajaaaAbY
namespace Go.Proofs.YthncjcfnpfajaaaA
open Go Go.RowKit Go.Proofs.YthncjcfnpfajaaaW.PrintWords
set_option linter.unusedVariables false
set_option linter.unusedSimpArgs false
def tdB (P : Program) (Δ : List (Nat × TD)) (T : Nat) (td : TD) : Bool :=
 Nat.beq td.size (sz td.ty) && Nat.blt 0 td.bytes && (!td.eqc || eqB P T (flatTs td.ty)) && match td.kind with
  | .int k => decide (td.ty = .int k) && !td.st
  | .bool => decide (td.ty = .bool) && !td.st
  | .str => decide (td.ty = .str) && !td.st
  | .slice e => !td.st && (match get Δ e with | some te => decide (td.ty = .sl e te.ty) | none => false)
  | .struct fs => td.st && fs.all (fun x => (get Δ x.2).isSome)
  | _ => false
def tdsB (P : Program) (Δ : List (Nat × TD)) : Bool := Δ.all fun x => tdB P Δ x.1 x.2
theorem get_mem {α : Type _} : ∀ {l : List (Nat × α)} {k : Nat} {v : α}, get l k = some v → (k, v) ∈ l
 | (k', v') :: l, k, v, h => by
  rw [get_cons] at h
  by_cases e : k = k'
  ·rw [if_pos e] at h
   injection h with h
   simp [e, h]
  ·rw [if_neg e] at h
   exact List.mem_cons_of_mem _ (get_mem h)
theorem tds_ok {P : Program} {Δ : List (Nat × TD)} (h1 : Δ.map (fun x => ((P.underlying x.1).map descK, (P.info? x.1).map (fun i => (i.size, i.bytes, i.zero)))) = Δ.map (fun x => (some x.2.kind, some (x.2.size, x.2.bytes, some (zeroV x.2))))) (h2 : tdsB P Δ = true) : TdsOk P Δ := by
 intro T td ht
 have hm := get_mem ht
 have e : (fun x : Nat × TD => ((P.underlying x.1).map descK, (P.info? x.1).map (fun i => (i.size, i.bytes, i.zero)))) (T, td) = (fun x : Nat × TD => (some x.2.kind, some (x.2.size, x.2.bytes, some (zeroV x.2)))) (T, td) := List.map_inj_left.1 h1 _ hm
 injection e with e1 e2
 have hb := List.all_eq_true.1 h2 _ hm
 simp only [tdB, Bool.and_eq_true, Bool.or_eq_true, Bool.not_eq_true'] at hb
 obtain ⟨⟨⟨b1, b2⟩, b3⟩, b4⟩ := hb
 refine ⟨e1, e2, Nat.eq_of_beq_eq_true b1, by simpa [Nat.blt_eq] using b2, fun h => b3.resolve_left (by rw [h]; decide), ?_⟩
 cases hk : td.kind with
 | int k => rw [hk] at b4; simpa using b4
 | bool => rw [hk] at b4; simpa using b4
 | str => rw [hk] at b4; simpa using b4
 | slice e =>
  rw [hk] at b4
  simp only [Bool.and_eq_true, Bool.not_eq_true'] at b4
  refine ⟨b4.1, ?_⟩
  have b5 := b4.2
  split at b5
  ·rename_i te hte
   exact ⟨te, hte, of_decide_eq_true b5⟩
  ·cases b5
 | struct fs =>
  rw [hk] at b4
  simp only [Bool.and_eq_true] at b4
  refine ⟨b4.1, fun x hx => ?_⟩
  have := List.all_eq_true.1 b4.2 x hx
  exact Option.isSome_iff_exists.1 this
 | ptr e => rw [hk] at b4; cases b4
 | tuple => rw [hk] at b4; cases b4
theorem EntsOk.nil {P : Program} {k : Nat} : EntsOk P k [] := fun _ h => by cases h
theorem EntsOk.cons {P : Program} {k : Nat} {e : Ent} {Γ : List Ent} (h : EntOk P k e) (h' : EntsOk P k Γ) : EntsOk P k (e :: Γ) := fun d hd => (List.mem_cons.1 hd).elim (fun e => e ▸ h) (h' d)
/-! ### short words for printed functions -/
theorem tr : True := trivial
abbrev FT (s : Sig) : Type := Nat → Args s.ps → Option (Res s)
abbrev AT (s : Sig) : Type := Nat → Ann (Res s)
abbrev RunsT (s : Sig) (c : Nat → Ctx) (f : Func) (a : AT s) (F : FT s) : Prop := ∀ (k : Nat) (x : Args s.ps), F k x = runF (c k) s f (f.body.getD .skip) (a k) x
abbrev OblT (Δ : List (Nat × TD)) (s : Sig) (c : Nat → Ctx) (n : Nat) (f : Func) (a : AT s) : Prop := ∀ k : Nat, obl (c k) n (f.body.getD .skip) (a k) (retK Δ s f.results.toList)
theorem leB {a b : Nat} (h : Nat.ble a b = true) : a ≤ b := Nat.le_of_ble_eq_true h
end Go.Proofs.YthncjcfnpfajaaaA
