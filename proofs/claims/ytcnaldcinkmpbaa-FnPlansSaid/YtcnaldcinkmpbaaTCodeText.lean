/- The bytes of code. No condition. -/
import Derived.Test.YtcnaldcinkmpbaaTCpu
import Derived.Test.YtcnaldcinkmpbaaTText
namespace Go.Proofs.Ytcnaldcinkmpbaa.Pure
open Go Go.Proofs.YtcnaldcinkmpbaaA Go.Proofs.YtcnaldcinkmpbaaU Go.Proofs.Ytcnaldcinkmpbaa.QA
set_option linter.unusedVariables false
def codeB : List (Int × Int) → List Int
  | [] => []
  | x :: L => x.1 :: x.2 :: codeB L
theorem codeB_len : ∀ L, (codeB L).length = 2 * L.length
  | [] => rfl
  | x :: L => by
    rw [codeB, List.length_cons, List.length_cons, codeB_len L, List.length_cons]
    omega
theorem codeB_app : ∀ L M, codeB (L ++ M) = codeB L ++ codeB M
  | [], M => rfl
  | x :: L, M => by
    rw [List.cons_append, codeB, codeB, codeB_app L M]
    rfl
theorem codeB_at : ∀ (L : List (Int × Int)) (i : Nat) (x : Int × Int), L[i]? = some x → (codeB L)[2 * i]? = some x.1 ∧ (codeB L)[2 * i + 1]? = some x.2
  | [], i, x, h => by cases h
  | y :: L, 0, x, h => by
    obtain rfl : y = x := by simpa using h
    exact ⟨rfl, rfl⟩
  | y :: L, i + 1, x, h => by
    have := codeB_at L i x (by simpa using h)
    rw [show 2 * (i + 1) = 2 * i + 2 by omega, show 2 * i + 2 + 1 = 2 * i + 1 + 2 by omega, codeB]
    exact this
noncomputable def codeTextM (L : List (Int × Int)) : ByteArray × Bool := if B (CodeOk L) = true then (chrs (codeB L), true) else (⟨#[]⟩, false)
theorem codeText_s {k : Nat} {L : List (Int × Int)} (hl : L.length ≤ 1048576) (hk : 1048576 < k) : spec_CodeText.f k L = some (codeTextM L) := by
  refine ok_eq ?_
  unfold spec_CodeText.f codeTextM
  rw [codeOk_s hl hk]
  refine ok_let (ok_if (fun h => ok_some (by rw [if_neg h])) (fun h => ok_let ?_))
  have hc := B_iff.1 (Classical.not_not.1 h)
  have h60 := hc.2
  rw [if_pos (Classical.not_not.1 h)]
  refine ok_loop (L := spec_CodeText.l1 k) (I := fun d s => ∃ j : Nat, s = ((j : Int), L, codeB (L.take j), ()) ∧ j + d = L.length) ?_ k L.length _ (by omega) ⟨0, rfl, by omega⟩
  rintro d n s ⟨j, rfl, hd⟩ ih
  rw [spec_CodeText.l1]
  refine ok_if (fun hlt => ?_) (fun hge => ok_some ?_)
  · have hj : j < L.length := by omega
    have c0 : (0 : Int) ≤ (j : Int) := by omega
    have h4 : w64 ((j : Int) + 1) = ((j + 1 : Nat) : Int) := w64_id (by omega) (by omega)
    have hin := hc.1 j hj
    have hx := el_lt (t := C2) hj
    obtain ⟨op, g, hxe⟩ : ∃ op g : Int, el C2 L j = (op, g) := ⟨_, _, rfl⟩
    rw [hxe] at hin hx
    obtain ⟨i1, i2⟩ := hin
    simp only at i1 i2
    have e1 : IntKind.u8.wrap op = op := by rw [u8_w]; omega
    have e2 : IntKind.u8.wrap g = g := by rw [u8_w]; omega
    have hcl := codeB_len (L.take j)
    have htl : (L.take j).length = j := by rw [List.length_take]; omega
    simp only [c0, hlt, h4, ↓reduceIte, Int.toNat_natCast, show el (.pair (.int .i64) (.int .i64)) L j = (op, g) from hxe, e1, e2, Option.bind_some, List.length_cons, List.length_nil]
    rw [if_pos (by omega)]
    refine ih (d - 1) _ (by omega) ⟨j + 1, ?_, by omega⟩
    have et : L.take (j + 1) = L.take j ++ [(op, g)] := by
      rw [List.take_add_one, hx]
      rfl
    rw [et, codeB_app]
    rfl
  · rw [List.take_of_length_le (by omega)]
theorem bt_chrs {xs : List Int} {i : Nat} {x : Int} (h : xs[i]? = some x) (hx : 0 ≤ x ∧ x ≤ 255) : bt (chrs xs) ((i : Nat) : Int) = x := by
  have hd : (chrs xs).data.toList = xs.map fun z => UInt8.ofNat z.toNat := by simp [chrs]
  unfold bt
  rw [ByteArray.toList_eq]
  rw [hd, Int.toNat_natCast, List.getD_eq_getElem?_getD, List.getElem?_map, h]
  show ((UInt8.ofNat x.toNat).toNat : Int) = x
  rw [UInt8.toNat_ofNat']
  omega
end Go.Proofs.Ytcnaldcinkmpbaa.Pure
