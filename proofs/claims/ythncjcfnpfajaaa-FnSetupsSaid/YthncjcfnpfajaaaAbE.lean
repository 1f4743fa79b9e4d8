/- The abstract machine's operations, each shown. Plain lemmas; no condition. -/
import Derived.Test.YthncjcfnpfajaaaAbCe
namespace Go.Proofs.YthncjcfnpfajaaaA
open Go Go.RowKit Go.Proofs.YthncjcfnpfajaaaW.PrintWords
set_option linter.unusedVariables false
set_option linter.unusedSimpArgs false
section
variable {P : Program} {w w1 : World} {ok live : Nat → Prop} {b : Nat} {o : Oper} {a : Act} {ρ : Nat → Hd} {fp : Nat → Nat → Prop} {me : Nat → Option Part} {v : SV} {us : Me} {s : Sl} {C : Ctx}
/-- AN OPERATION. -/
theorem op_ok (hC : TdsOk P C.Δ) (hE : EntsOk P C.fuel C.Γ) (H : Mem w ok live w1 ρ fp me) (hb : ∀ i, b ≤ i → i < b + step → ¬ live i) (E : EvsOk s o a ρ live) (h : Out me (opA C b s o) (v, us)) : Goes P w ok live b o a w1 ρ me v us := by
 unfold EvsOk at E
 cases ho : o.op with
 | move x => rw [ho] at E; unfold opA at h; rw [ho] at h; exact go_move H (.inl ho) (E x (by simp [Op.operands])) h
 | assign x => rw [ho] at E; unfold opA at h; rw [ho] at h; exact go_move H (.inr ho) (E x (by simp [Op.operands])) h
 | pick c x y => rw [ho] at E; unfold opA at h; rw [ho] at h; exact go_pick H ho (fun z hz => E z (by simp [Op.operands, hz])) h
 | nilCheck x => rw [ho] at E; unfold opA at h; rw [ho] at h; exact go_nilCheck H ho (E x (by simp [Op.operands])) h
 | unOp p T x => rw [ho] at E; unfold opA at h; rw [ho] at h; exact go_unOp H ho (E x (by simp [Op.operands])) h
 | binOp p T x y T' => rw [ho] at E; unfold opA at h; rw [ho] at h; exact go_binOp hC H ho (fun z hz => E z (by simp [Op.operands, hz])) h
 | convert f t x => rw [ho] at E; unfold opA at h; rw [ho] at h; exact go_convert hC H ho (E x (by simp [Op.operands])) h
 | extract x i => rw [ho] at E; unfold opA at h; rw [ho] at h; exact go_extract H ho (E x (by simp [Op.operands])) h
 | field T x f => rw [ho] at E; unfold opA at h; rw [ho] at h; exact go_field hC H ho (E x (by simp [Op.operands])) h
 | fieldAddr T x f => rw [ho] at E; unfold opA at h; rw [ho] at h; exact go_fieldAddr hC H ho (E x (by simp [Op.operands])) h
 | alloc T => unfold opA at h; rw [ho] at h; exact go_alloc hC H hb ho h
 | box T x => rw [ho] at E; unfold opA at h; rw [ho] at h; exact go_box H hb ho (E x (by simp [Op.operands])) h
 | build T ps => rw [ho] at E; exact go_build hC H ho (fun x hx => E x.2 (by simp only [Op.operands]; exact List.mem_map.2 ⟨x, hx, rfl⟩)) h
 | buildSlice T len ps => rw [ho] at E; exact go_literal hC H hb ho (fun x hx => E x.2 (by simp only [Op.operands]; exact List.mem_map.2 ⟨x, hx, rfl⟩)) h
 | makeSlice T x y => rw [ho] at E; exact go_make hC H hb ho (fun z hz => E z (by simp [Op.operands, hz])) h
 | slice T x lo hi mx =>
  rw [ho] at E; unfold opA at h; rw [ho] at h
  refine go_slice hC H ho (fun z hz => E z ?_) h
  simp only [Op.operands, Array.toList_append, List.mem_append, Option.toList_toArray, Option.mem_toList]
  rcases hz with rfl | hz | hz
  ·simp
  ·exact .inl (.inl (.inr hz))
  ·exact .inl (.inr hz)
 | indexAddr T x y => rw [ho] at E; unfold opA at h; rw [ho] at h; exact go_indexAddr hC H ho (fun z hz => E z (by simp [Op.operands, hz])) h
 | index T x y => rw [ho] at E; unfold opA at h; rw [ho] at h; exact go_index hC H ho (fun z hz => E z (by simp [Op.operands, hz])) h
 | load T x => rw [ho] at E; unfold opA at h; rw [ho] at h; exact go_load hC H hb ho (E x (by simp [Op.operands])) h
 | store T x y =>
  rw [ho] at E; unfold opA at h; rw [ho] at h
  simp only at h
  split at h
  ·exact go_store hC H ho (fun z hz => E z (by simp [Op.operands, hz])) h
  ·exact h.elim
 | call c =>
  rw [ho] at E; unfold opA at h; rw [ho] at h
  have E' : ∀ x ∈ c.args.toList, ∀ v, ev s x = some v → a.eval x = v.val ρ ∧ v.In live ρ := fun x hx => E x (by simp only [Op.operands, Call.operands]; split <;> simp [hx])
  simp only at h
  obtain ⟨callee, args, argTypes⟩ := c
  simp only at h E'
  split at h
  ·split at h
   ·rename_i x T hx hT
    obtain rfl : args = #[x] := Array.toList_inj.1 (by simpa using hx)
    obtain rfl : argTypes = #[T] := Array.toList_inj.1 (by simpa using hT)
    exact go_len hC H ho (E' x (by simp)) h
   ·exact h.elim
  ·split at h
   ·rename_i x y T U hx hT
    obtain rfl : args = #[x, y] := Array.toList_inj.1 (by simpa using hx)
    obtain rfl : argTypes = #[T, U] := Array.toList_inj.1 (by simpa using hT)
    exact go_append hC H hb ho (fun z hz => E' z (by simp [hz])) h
   ·exact h.elim
  ·exact go_max H ho rfl E' h
  ·exact go_min H ho rfl E' h
  ·exact go_callB hE H hb ho E' h
  ·exact h.elim
 | _ => unfold opA at h; rw [ho] at h; exact h.elim
end
end Go.Proofs.YthncjcfnpfajaaaA
