/- Code, machines, cells and regions that are drawn. No condition. -/
import Derived.Test.YtcnaldcinkmpbaaTDraw
import Derived.Test.YtcnaldcinkmpbaaTCpu
namespace Go.Proofs.Ytcnaldcinkmpbaa.Pure
open Go Go.Proofs.YtcnaldcinkmpbaaA Go.Proofs.YtcnaldcinkmpbaaU Go.Proofs.Ytcnaldcinkmpbaa.QA
set_option linter.unusedVariables false
theorem once_ok {k : Nat} {c : List Int × Int × Int} {n : Int} (h : Cur c) : Ok (spec_l01Once.f k c n) (fun r => Cur (c.1, r.2.2)) := by
  unfold spec_l01Once.f
  exact ok_bind (below_ok h) (fun r hr => ok_some hr.2.2.2)
theorem pickInt_ok {k : Nat} {c : List Int × Int × Int} {L : List Int} (h : Cur c) (hl : 0 < L.length) : Ok (spec_l01PickInt.f k c L) (fun r => r.1 ∈ L ∧ Cur (c.1, r.2.2)) := by
  unfold spec_l01PickInt.f
  refine ok_bind (below_lt h (by omega)) (fun r hr => ?_)
  rw [if_pos hr.1, if_pos hr.2.1]
  exact ok_some ⟨el_mem (t := I1) (by omega), hr.2.2⟩
theorem insOk_of {op g : Int} (h1 : 0 ≤ op ∧ op ≤ 255) (h2 : 0 ≤ g ∧ g ≤ 255) : InsOk (op, g) := ⟨h1, h2⟩
theorem l05Instr_ok {k : Nat} {c : List Int × Int × Int} (h : Cur c) : Ok (spec_l05Instr.f k c) (fun r => InsOk r.1 ∧ Cur (c.1, r.2.2)) := by
  have hj2 : ∀ {a b x y op g : Int}, Cur (c.1, a, b) → (0 ≤ op ∧ op ≤ 255) → (0 ≤ g ∧ g ≤ 255) → Ok (spec_l05Instr.j2 k (a, b, x, y, op, g, c.1, ())) (fun r => InsOk r.1 ∧ Cur (c.1, r.2.2)) := fun hc ho hg => by
    rw [spec_l05Instr.j2]
    refine ok_bind (once_ok hc) (fun r7 h7 => ok_if (fun _ => ok_bind (below_lt h7 (by omega)) (fun r8 h8 => ok_some ⟨insOk_of (by omega) hg, h8.2.2⟩)) (fun _ => ok_some ⟨insOk_of ho hg, h7⟩))
  have hj1 : ∀ {a b x y op g : Int}, Cur (c.1, a, b) → (0 ≤ op ∧ op ≤ 255) → (0 ≤ g ∧ g ≤ 255) → Ok (spec_l05Instr.j1 k (a, b, x, y, op, g, c.1, ())) (fun r => InsOk r.1 ∧ Cur (c.1, r.2.2)) := fun hc ho hg => by
    rw [spec_l05Instr.j1]
    refine ok_if (fun _ => ok_bind (below_lt hc (by omega)) (fun r h5 => hj2 h5.2.2 ho (by omega))) (fun _ => ok_if (fun _ => ok_bind (below_lt hc (by omega)) (fun r h5 => hj2 h5.2.2 ho (by omega))) (fun _ => hj2 hc ho hg))
  unfold spec_l05Instr.f
  refine ok_let (ok_bind (pickInt_ok h (by decide)) (fun r2 h2 => ok_bind (below_lt h2.2 (by omega)) (fun r3 h3 => ?_)))
  have ho : 0 ≤ r2.1 ∧ r2.1 ≤ 255 := by
    have hm := h2.1
    simp only [List.mem_cons, List.not_mem_nil, or_false] at hm
    omega
  exact ok_if (fun _ => ok_bind (below_lt h3.2.2 (by omega)) (fun r4 h4 => hj1 h4.2.2 ho (by omega))) (fun _ => hj1 h3.2.2 ho (by omega))
def AllIns (L : List (Int × Int)) : Prop := ∀ x, x ∈ L → InsOk x
theorem allIns_app {L M : List (Int × Int)} (h1 : AllIns L) (h2 : AllIns M) : AllIns (L ++ M) := fun x hx => by
  rcases List.mem_append.1 hx with h | h
  · exact h1 x h
  · exact h2 x h
theorem allIns_3 {x y z : Int × Int} (hx : InsOk x) (hy : InsOk y) (hz : InsOk z) : AllIns [x, y, z] := fun w hw => by
  simp only [List.mem_cons, List.not_mem_nil, or_false] at hw
  rcases hw with rfl | rfl | rfl
  · exact hx
  · exact hy
  · exact hz
theorem allIns_1 {x : Int × Int} (hx : InsOk x) : AllIns [x] := fun w hw => by
  rw [List.mem_singleton.1 hw]
  exact hx
theorem codeOk_of {L : List (Int × Int)} (h : AllIns L) (hl : L.length ≤ 60) : CodeOk L := ⟨fun i hi => h _ (el_mem (t := C2) hi), hl⟩
theorem l05Code_ok {k : Nat} {c : List Int × Int × Int} (hk : 1048576 < k) (h : Cur c) : Ok (spec_l05Code.f k c) (fun r => AllIns r.1 ∧ r.1.length ≤ 46 ∧ Cur (c.1, r.2.2)) := by
  unfold spec_l05Code.f
  refine ok_let ?_
  refine ok_loop (L := spec_l05Code.l1 k) (I := fun d s => ∃ (j : Nat) (ci ch : Int) (L : List (Int × Int)), s = ((j : Int), ci, ch, c.1, L, ()) ∧ j + d = 16 ∧ Cur (c.1, ci, ch) ∧ AllIns L ∧ L.length ≤ 3 * j ∧ j ≤ 15) ?_ k 16 _ (by omega) ⟨0, c.2.1, c.2.2, [], rfl, by omega, h, (fun x hx => by cases hx), by simp, by omega⟩
  rintro d n s ⟨j, ci, ch, L, rfl, hd, hc, hL, hlen, hj⟩ ih
  rw [spec_l05Code.l1]
  refine ok_bind (below_lt hc (by omega)) (fun r2 h2 => ok_if (fun hlt => ?_) (fun hge => ?_))
  · have hj2 : j < 15 := by omega
    have h4 : w64 ((j : Int) + 1) = ((j + 1 : Nat) : Int) := w64_id (by omega) (by omega)
    have go3 : ∀ {a b : Int} {x y z : Int × Int}, Cur (c.1, a, b) → InsOk x → InsOk y → InsOk z → Ok (if (L.length + [x, y, z].length) * 16 ≤ 140737488355328 then ((some (L ++ [x, y, z])).bind fun y7 => spec_l05Code.l1 k n (w64 ((j : Int) + 1), a, b, c.1, y7, ())) else none) (fun r => AllIns r.1 ∧ r.1.length ≤ 46 ∧ Cur (c.1, r.2.2)) := fun hc' hx hy hz => by
      refine ok_grd (by simp only [List.length_cons, List.length_nil]; omega) (ok_let ?_)
      rw [h4]
      exact ih (d - 1) _ (by omega) ⟨j + 1, _, _, _, rfl, by omega, hc', allIns_app hL (allIns_3 hx hy hz), by simp only [List.length_append, List.length_cons, List.length_nil]; omega, by omega⟩
    refine ok_bind (below_lt h2.2.2 (by omega)) (fun r3 h3 => ok_if (fun _ => ?_) (fun _ => ok_if (fun _ => ?_) (fun _ => ok_if (fun _ => ?_) (fun _ => ?_))))
    · refine ok_bind (below_lt h3.2.2 (by omega)) (fun r4 h4' => ok_bind (below_lt h4'.2.2 (by omega)) (fun r5 h5 => ok_let (go3 h5.2.2 (insOk_of (by omega) (by omega)) (insOk_of (by omega) (by omega)) (insOk_of (by omega) (by omega)))))
    · refine ok_bind (below_lt h3.2.2 (by omega)) (fun r4 h4' => ok_bind (below_lt h4'.2.2 (by omega)) (fun r5 h5 => ok_let (go3 h5.2.2 (insOk_of (by omega) (by omega)) (insOk_of (by omega) (by omega)) (insOk_of (by omega) (by omega)))))
    · refine ok_bind (below_lt h3.2.2 (by omega)) (fun r4 h4' => ok_bind (below_lt h4'.2.2 (by omega)) (fun r5 h5 => ok_let (go3 h5.2.2 (insOk_of (by omega) (by omega)) (insOk_of (by omega) (by omega)) (insOk_of (by omega) (by omega)))))
    · refine ok_bind (l05Instr_ok h3.2.2) (fun r4 h4' => ok_let ?_)
      refine ok_grd (by simp only [List.length_cons, List.length_nil]; omega) (ok_let ?_)
      rw [h4]
      exact ih (d - 1) _ (by omega) ⟨j + 1, _, _, _, rfl, by omega, h4'.2, allIns_app hL (allIns_1 h4'.1), by simp only [List.length_append, List.length_cons, List.length_nil]; omega, by omega⟩
  · have hl45 : L.length ≤ 45 := by omega
    refine ok_bind (once_ok h2.2.2) (fun r3 h3 => ok_if (fun _ => ok_let ?_) (fun _ => ok_some ⟨hL, by dsimp only; omega, h3⟩))
    refine ok_grd (by simp only [List.length_cons, List.length_nil]; omega) (ok_let (ok_some ⟨allIns_app hL (allIns_1 (insOk_of (by omega) (by omega))), by dsimp only; simp only [List.length_append, List.length_cons, List.length_nil]; omega, h3⟩))
/-! ### cells and regions -/
/-- Regions, one behind the other. -/
def Rows : Int → List (Int × Int) → Prop
  | _, [] => True
  | lo, r :: L => lo ≤ r.1 ∧ 1 ≤ r.2 ∧ r.2 ≤ 14 ∧ r.1 + r.2 ≤ 64 ∧ Rows (r.1 + r.2) L
def endOf : Int → List (Int × Int) → Int
  | lo, [] => lo
  | _, r :: L => endOf (r.1 + r.2) L
theorem rows_app : ∀ {L : List (Int × Int)} {lo : Int} {r : Int × Int}, Rows lo L → endOf lo L ≤ r.1 → 1 ≤ r.2 → r.2 ≤ 14 → r.1 + r.2 ≤ 64 → Rows lo (L ++ [r]) ∧ endOf lo (L ++ [r]) = r.1 + r.2
  | [], lo, r, _, h1, h2, h3, h4 => ⟨⟨h1, h2, h3, h4, trivial⟩, rfl⟩
  | q :: L, lo, r, ⟨a, b, c, d, e⟩, h1, h2, h3, h4 => by
    have := rows_app (L := L) (lo := q.1 + q.2) (r := r) e h1 h2 h3 h4
    exact ⟨⟨a, b, c, d, this.1⟩, this.2⟩
theorem l04Regions_ok {k : Nat} {c : List Int × Int × Int} (hk : 1048576 < k) (h : Cur c) : Ok (spec_l04Regions.f k c) (fun r => Rows 0 r.1 ∧ 1 ≤ r.1.length ∧ r.1.length ≤ 4 ∧ Cur (c.1, r.2.2)) := by
  unfold spec_l04Regions.f
  refine ok_let (ok_bind (below_lt h (by omega)) (fun r2 h2 => ?_))
  refine ok_loop (L := spec_l04Regions.l1 k) (I := fun d s => ∃ (j : Nat) (fr ci ch : Int) (L : List (Int × Int)), s = (fr, (j : Int), ci, ch, c.1, L, ()) ∧ j + d = 4 ∧ Cur (c.1, ci, ch) ∧ Rows 0 L ∧ endOf 0 L ≤ fr ∧ fr ≤ 5 + 17 * (j : Int) ∧ 0 ≤ fr ∧ L.length ≤ j ∧ (j = 0 ∨ 1 ≤ L.length) ∧ (j = 0 → fr ≤ 5)) ?_ k 4 _ (by omega) ⟨0, _, _, _, [], rfl, by omega, h2.2.2, trivial, h2.1, by omega, h2.1, Nat.le_refl 0, .inl rfl, fun _ => by omega⟩
  rintro d n s ⟨j, fr, ci, ch, L, rfl, hd, hc, hR, he, hf, hf0, hl, hn, hz⟩ ih
  rw [spec_l04Regions.l1]
  refine ok_bind (below_lt hc (by omega)) (fun r3 h3 => ?_)
  rw [w64_id (z := 1 + r3.1) (by omega) (by omega)]
  refine ok_if (fun hlt => ?_) (fun hge => ok_some ⟨hR, by dsimp only; omega, by dsimp only; omega, h3.2.2⟩)
  refine ok_bind (below_lt h3.2.2 (by omega)) (fun r4 h4 => ?_)
  have h5 : w64 ((j : Int) + 1) = ((j + 1 : Nat) : Int) := w64_id (by omega) (by omega)
  rw [w64_id (z := 1 + r4.1) (by omega) (by omega), w64_id (z := fr + (1 + r4.1)) (by omega) (by omega)]
  have fin : ∀ M : List (Int × Int), Rows 0 M → endOf 0 M ≤ fr + (1 + r4.1) → M.length ≤ j + 1 → 1 ≤ M.length → Ok (spec_l04Regions.j2 k (spec_l04Regions.l1 k n) ((j : Int), r4.2.2.1, r4.2.2.2, fr, 1 + r4.1, c.1, M, ())) (fun r => Rows 0 r.1 ∧ 1 ≤ r.1.length ∧ r.1.length ≤ 4 ∧ Cur (c.1, r.2.2)) := fun M hM hM2 hM3 hM4 => by
    rw [spec_l04Regions.j2]
    refine ok_bind (below_lt h4.2.2 (by omega)) (fun r7 h7 => ?_)
    rw [h5, w64_id (z := fr + (1 + r4.1)) (by omega) (by omega), w64_id (z := fr + (1 + r4.1) + r7.1) (by omega) (by omega)]
    exact ih (d - 1) _ (by omega) ⟨j + 1, _, _, _, _, rfl, by omega, h7.2.2, hM, by omega, by omega, by omega, hM3, .inr hM4, fun h => by omega⟩
  refine ok_if (fun h64 => ok_let ?_) (fun h64 => fin L hR (by omega) (by omega) (by omega))
  refine ok_grd (by simp only [List.length_cons, List.length_nil]; omega) (ok_let ?_)
  have ra := rows_app (L := L) (lo := 0) (r := (fr, 1 + r4.1)) hR he (by dsimp only; omega) (by dsimp only; omega) (by dsimp only; omega)
  exact fin _ ra.1 (by rw [ra.2]; exact Int.le_refl _) (by simp only [List.length_append, List.length_cons, List.length_nil]; omega) (by simp only [List.length_append, List.length_cons, List.length_nil]; omega)
theorem rows_in : ∀ {L : List (Int × Int)} {lo : Int}, Rows lo L → ∀ x, x ∈ L → lo ≤ x.1 ∧ 1 ≤ x.2 ∧ x.2 ≤ 14 ∧ x.1 + x.2 ≤ 64
  | [], _, _, x, hx => by cases hx
  | r :: L, lo, ⟨a, b, c, d, e⟩, x, hx => by
    rcases List.mem_cons.1 hx with rfl | hx
    · exact ⟨a, b, c, d⟩
    · have := rows_in e x hx
      exact ⟨by omega, this.2⟩
def Near (L : List (Int × Int)) : Prop := ∀ x, x ∈ L → x.1 < 9223372036854775808
theorem allIns_set {L : List (Int × Int)} {i : Nat} {y : Int × Int} (h : AllIns L) (hy : InsOk y) : AllIns (L.set i y) := fun x hx => by
  rcases List.mem_or_eq_of_mem_set hx with hx | rfl
  · exact h x hx
  · exact hy
end Go.Proofs.Ytcnaldcinkmpbaa.Pure
