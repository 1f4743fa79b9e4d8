/- strings.Join for the abstract machine. Plain lemmas; no condition. -/
import Derived.Test.YtkabaommohhbgaaAbDa
import Derived.Lib.Join
import Derived.Below
namespace Go.Proofs.YtkabaommohhbgaaA
open Go Go.RowKit Go.Proofs.YtkabaommohhbgaaW.PrintWords
set_option linter.unusedVariables false
set_option linter.unusedSimpArgs false
def joinB (xs : List ByteArray) (sep : ByteArray) : ByteArray := ⟨(Lib.join (xs.map (·.data.toList)) sep.data.toList).toArray⟩
def joinF (xs : List ByteArray) (sep : ByteArray) : Option ByteArray := if xs.length ≤ 140737488355328 then (if (Lib.join (xs.map (·.data.toList)) sep.data.toList).length ≤ 140737488355328 then some (joinB xs sep) else none) else none
def joinSig (e : Nat) : Sig := ⟨[.val false (.sl e .str) [0], .val false .str []], [.val false .str []]⟩
theorem add_spot {a : Addr} {n : Nat} (h : a.spot = none) : a.add n = ⟨a.block, a.off + n, none⟩ := by
 unfold Addr.add
 split
 ·rename_i h0
  subst h0
  cases a
  simp only at h
  subst h
  rfl
 ·rfl
theorem cell_spot {w : World} {a : Addr} {u : Value} (h : w.cell? a = some u) : a.spot = none := by
 unfold World.cell? at h
 split at h
 ·split at h
  ·cases h
  ·rename_i hs
   cases hsp : a.spot with
   | none => rfl
   | some s => rw [hsp] at hs; exact absurd rfl hs
 ·cases h
theorem join_ok {P : Program} {k f e : Nat} (hcf : ∀ args w, (callFunc f args).run P w = .ok (.enter f args) w)
  (hn : ∀ (a : Option Addr) (c : Nat) (sep : ByteArray) (w : World), Calls P f #[.slice a 0 c, .string sep] w fun e w' => e = .returned (.string ⟨#[]⟩) ∧ w' = w)
  (hs : ∀ (bk o c : Nat) (xs : List ByteArray) (sep : ByteArray) (w : World), (∀ (j : Nat) x, xs[j]? = some x → w.cell? ⟨bk, o + j, none⟩ = some (.string x)) → bk < w.heap.size → xs.length ≤ 140737488355328 → xs.length ≤ c → (Lib.join (xs.map (·.data.toList)) sep.data.toList).length ≤ 140737488355328 →
   Calls P f #[.slice (some ⟨bk, o, none⟩) xs.length c, .string sep] w fun e w' => e = .returned (.string ⟨(Lib.join (xs.map (·.data.toList)) sep.data.toList).toArray⟩) ∧ Below w.heap.size w w') :
  EntOk P k ⟨f, joinSig e, fun _ x => joinF x.1 x.2.1⟩ := by
 refine ⟨hcf, ?_⟩
 rintro ⟨xs, sep, ⟨⟩⟩ r hF w ok ρ fp args hsz H E
 have hF' : joinF xs sep = some r := hF
 unfold joinF at hF'
 by_cases h1 : xs.length ≤ 140737488355328
 ·rw [if_pos h1] at hF'
  by_cases h2 : (Lib.join (xs.map (·.data.toList)) sep.data.toList).length ≤ 140737488355328
  ·rw [if_pos h2] at hF'
   injection hF' with hr
   obtain ⟨q0, -⟩ := E 0 (.c (.lf (.own 0))) rfl
   obtain ⟨q1, -⟩ := E 1 (.c (.lf (.str sep))) rfl
   have hargs : args = #[(ρ 0).sl, .string sep] := by
    have h2 : args.size = 2 := hsz
    refine Array.ext (by simpa using h2) (fun i hi hi' => ?_)
    have hi2 : i = 0 ∨ i = 1 := by omega
    rcases hi2 with rfl | rfl
    ·have := Array.getElem?_eq_some_iff.1 q0
     obtain ⟨_, h⟩ := this
     exact h
    ·have := Array.getElem?_eq_some_iff.1 q1
     obtain ⟨_, h⟩ := this
     exact h
   subst hargs
   obtain ⟨-, hlen, hcap, -, hV⟩ := H.on 0 (.view false e .str xs) rfl
   have fin : ∀ (en : Ending) (w' : World), en = .returned (.string (joinB xs sep)) → Below w.heap.size w w' → Left (joinSig e) r w ok ρ en w' := by
    intro en w' he hb
    subst he
    refine ⟨ρ, fun _ _ => False, fun _ _ => rfl, ⟨hb.os, hb.tape, hb.output, hb.size, fun k hk _ => hb.block k hk, H.up, (fun i p h => by cases h), (fun i k h => h.elim), (fun i j k h => h.elim), (fun i p h => by cases h)⟩, ?_, ?_⟩
    ·rw [hr]
     rfl
    ·intro l hl
     obtain rfl : l = .str r := List.mem_singleton.1 hl
     exact in_none rfl
   have hsl : (ρ 0).sl = .slice (ρ 0).A xs.length (ρ 0).c := by unfold Hd.sl; rw [hlen]
   rw [hsl]
   by_cases h0 : 0 < xs.length
   ·obtain ⟨ad, hA, -, hc⟩ := hV.2 h0
    have hcell : ∀ (j : Nat) x, xs[j]? = some x → w.cell? (ad.add (j * 1)) = some (.string x) := fun j x hx => by
     obtain ⟨c, hl1, hv, hu⟩ := hc j x hx
     have hv' : c = [.string x] := hv
     subst hv'
     have := hu 0 _ rfl
     exact this
    have hsp : ad.spot = none := by
     have := cell_spot (hcell 0 _ (List.getElem?_eq_getElem h0))
     rw [Nat.zero_mul] at this
     unfold Addr.add at this
     rw [if_pos rfl] at this
     exact this
    have had : ad = ⟨ad.block, ad.off, none⟩ := by
     cases ad
     simp only at hsp
     subst hsp
     rfl
    rw [hA, had]
    refine (hs ad.block ad.off (ρ 0).c xs sep w (fun j x hx => ?_) ?_ h1 hcap h2).mono (fun en w' ⟨he, hb⟩ => fin en w' he hb)
    ·have := hcell j x hx
     rw [Nat.mul_one, add_spot hsp] at this
     exact this
    ·have := cell_lt (hcell 0 _ (List.getElem?_eq_getElem h0))
     rw [addb] at this
     exact this
   ·have hx : xs = [] := List.eq_nil_of_length_eq_zero (by omega)
    subst hx
    refine (hn (ρ 0).A (ρ 0).c sep w).mono (fun en w' ⟨he, hw⟩ => fin en w' ?_ ?_)
    ·rw [he]
     rfl
    ·rw [hw]
     exact Below.refl _ _
  ·rw [if_neg h2] at hF'
   cases hF'
 ·rw [if_neg h1] at hF'
  cases hF'
end Go.Proofs.YtkabaommohhbgaaA
