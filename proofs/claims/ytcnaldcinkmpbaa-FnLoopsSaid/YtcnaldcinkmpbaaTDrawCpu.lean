/- Code, machines, cells and regions that are drawn. No condition. -/
import Derived.Test.YtcnaldcinkmpbaaTDraw
import Derived.Test.YtcnaldcinkmpbaaTCpu
namespace Go.Proofs.Ytcnaldcinkmpbaa.Pure
open Go Go.Proofs.YtcnaldcinkmpbaaA Go.Proofs.YtcnaldcinkmpbaaU Go.Proofs.Ytcnaldcinkmpbaa.QA
set_option linter.unusedVariables false
theorem once_ok {k : Nat} {c : List Int × Int × Int} {n : Int} (h : Cur c) : Ok (spec_l01Once.f k c n) (fun r => Cur (c.1, r.2.2)) := by
  unfold spec_l01Once.f
  exact ok_bind (below_ok h) (fun r hr => ok_some hr.2.2.2)
theorem pickInt_ok {k : Nat} {c : List Int × Int × Int} {L : List Int} (h : Cur c) (hl : 0 < L.length) : Ok (spec_l01PickInt.f k c L) (fun r => r.1 ∈ L ∧ Cur (c.1, r.2.2)) := by
  unfold spec_l01PickInt.f
  refine ok_bind (below_lt h (by omega)) (fun r hr => ?_)
  rw [if_pos hr.1, if_pos hr.2.1]
  exact ok_some ⟨el_mem (t := I1) (by omega), hr.2.2⟩
theorem insOk_of {op g : Int} (h1 : 0 ≤ op ∧ op ≤ 255) (h2 : 0 ≤ g ∧ g ≤ 255) : InsOk (op, g) := ⟨h1, h2⟩
theorem l05Instr_ok {k : Nat} {c : List Int × Int × Int} (h : Cur c) : Ok (spec_l05Instr.f k c) (fun r => InsOk r.1 ∧ Cur (c.1, r.2.2)) := by
  have hj2 : ∀ {a b x y op g : Int}, Cur (c.1, a, b) → (0 ≤ op ∧ op ≤ 255) → (0 ≤ g ∧ g ≤ 255) → Ok (spec_l05Instr.j2 k (a, b, x, y, op, g, c.1, ())) (fun r => InsOk r.1 ∧ Cur (c.1, r.2.2)) := fun hc ho hg => by
    rw [spec_l05Instr.j2]
    refine ok_bind (once_ok hc) (fun r7 h7 => ok_if (fun _ => ok_bind (below_lt h7 (by omega)) (fun r8 h8 => ok_some ⟨insOk_of (by omega) hg, h8.2.2⟩)) (fun _ => ok_some ⟨insOk_of ho hg, h7⟩))
  have hj1 : ∀ {a b x y op g : Int}, Cur (c.1, a, b) → (0 ≤ op ∧ op ≤ 255) → (0 ≤ g ∧ g ≤ 255) → Ok (spec_l05Instr.j1 k (a, b, x, y, op, g, c.1, ())) (fun r => InsOk r.1 ∧ Cur (c.1, r.2.2)) := fun hc ho hg => by
    rw [spec_l05Instr.j1]
    refine ok_if (fun _ => ok_bind (below_lt hc (by omega)) (fun r h5 => hj2 h5.2.2 ho (by omega))) (fun _ => ok_if (fun _ => ok_bind (below_lt hc (by omega)) (fun r h5 => hj2 h5.2.2 ho (by omega))) (fun _ => hj2 hc ho hg))
  unfold spec_l05Instr.f
  refine ok_let (ok_bind (pickInt_ok h (by decide)) (fun r2 h2 => ok_bind (below_lt h2.2 (by omega)) (fun r3 h3 => ?_)))
  have ho : 0 ≤ r2.1 ∧ r2.1 ≤ 255 := by
    have hm := h2.1
    simp only [List.mem_cons, List.not_mem_nil, or_false] at hm
    omega
  exact ok_if (fun _ => ok_bind (below_lt h3.2.2 (by omega)) (fun r4 h4 => hj1 h4.2.2 ho (by omega))) (fun _ => hj1 h3.2.2 ho (by omega))
def AllIns (L : List (Int × Int)) : Prop := ∀ x, x ∈ L → InsOk x
theorem allIns_app {L M : List (Int × Int)} (h1 : AllIns L) (h2 : AllIns M) : AllIns (L ++ M) := fun x hx => by
  rcases List.mem_append.1 hx with h | h
  · exact h1 x h
  · exact h2 x h
theorem allIns_3 {x y z : Int × Int} (hx : InsOk x) (hy : InsOk y) (hz : InsOk z) : AllIns [x, y, z] := fun w hw => by
  simp only [List.mem_cons, List.not_mem_nil, or_false] at hw
  rcases hw with rfl | rfl | rfl
  · exact hx
  · exact hy
  · exact hz
theorem allIns_1 {x : Int × Int} (hx : InsOk x) : AllIns [x] := fun w hw => by
  rw [List.mem_singleton.1 hw]
  exact hx
theorem codeOk_of {L : List (Int × Int)} (h : AllIns L) (hl : L.length ≤ 60) : CodeOk L := ⟨fun i hi => h _ (el_mem (t := C2) hi), hl⟩
theorem l05Code_ok {k : Nat} {c : List Int × Int × Int} (hk : 1048576 < k) (h : Cur c) : Ok (spec_l05Code.f k c) (fun r => AllIns r.1 ∧ r.1.length ≤ 46 ∧ Cur (c.1, r.2.2)) := by
  unfold spec_l05Code.f
  refine ok_let ?_
  refine ok_loop (L := spec_l05Code.l1 k) (I := fun d s => ∃ (j : Nat) (ci ch : Int) (L : List (Int × Int)), s = ((j : Int), ci, ch, c.1, L, ()) ∧ j + d = 16 ∧ Cur (c.1, ci, ch) ∧ AllIns L ∧ L.length ≤ 3 * j ∧ j ≤ 15) ?_ k 16 _ (by omega) ⟨0, c.2.1, c.2.2, [], rfl, by omega, h, (fun x hx => by cases hx), by simp, by omega⟩
  rintro d n s ⟨j, ci, ch, L, rfl, hd, hc, hL, hlen, hj⟩ ih
  rw [spec_l05Code.l1]
  refine ok_bind (below_lt hc (by omega)) (fun r2 h2 => ok_if (fun hlt => ?_) (fun hge => ?_))
  · have hj2 : j < 15 := by omega
    have h4 : w64 ((j : Int) + 1) = ((j + 1 : Nat) : Int) := w64_id (by omega) (by omega)
    have go3 : ∀ {a b : Int} {x y z : Int × Int}, Cur (c.1, a, b) → InsOk x → InsOk y → InsOk z → Ok (if (L.length + [x, y, z].length) * 16 ≤ 140737488355328 then ((some (L ++ [x, y, z])).bind fun y7 => spec_l05Code.l1 k n (w64 ((j : Int) + 1), a, b, c.1, y7, ())) else none) (fun r => AllIns r.1 ∧ r.1.length ≤ 46 ∧ Cur (c.1, r.2.2)) := fun hc' hx hy hz => by
      refine ok_grd (by simp only [List.length_cons, List.length_nil]; omega) (ok_let ?_)
      rw [h4]
      exact ih (d - 1) _ (by omega) ⟨j + 1, _, _, _, rfl, by omega, hc', allIns_app hL (allIns_3 hx hy hz), by simp only [List.length_append, List.length_cons, List.length_nil]; omega, by omega⟩
    refine ok_bind (below_lt h2.2.2 (by omega)) (fun r3 h3 => ok_if (fun _ => ?_) (fun _ => ok_if (fun _ => ?_) (fun _ => ok_if (fun _ => ?_) (fun _ => ?_))))
    · refine ok_bind (below_lt h3.2.2 (by omega)) (fun r4 h4' => ok_bind (below_lt h4'.2.2 (by omega)) (fun r5 h5 => ok_let (go3 h5.2.2 (insOk_of (by omega) (by omega)) (insOk_of (by omega) (by omega)) (insOk_of (by omega) (by omega)))))
    · refine ok_bind (below_lt h3.2.2 (by omega)) (fun r4 h4' => ok_bind (below_lt h4'.2.2 (by omega)) (fun r5 h5 => ok_let (go3 h5.2.2 (insOk_of (by omega) (by omega)) (insOk_of (by omega) (by omega)) (insOk_of (by omega) (by omega)))))
    · refine ok_bind (below_lt h3.2.2 (by omega)) (fun r4 h4' => ok_bind (below_lt h4'.2.2 (by omega)) (fun r5 h5 => ok_let (go3 h5.2.2 (insOk_of (by omega) (by omega)) (insOk_of (by omega) (by omega)) (insOk_of (by omega) (by omega)))))
    · refine ok_bind (l05Instr_ok h3.2.2) (fun r4 h4' => ok_let ?_)
      refine ok_grd (by simp only [List.length_cons, List.length_nil]; omega) (ok_let ?_)
      rw [h4]
      exact ih (d - 1) _ (by omega) ⟨j + 1, _, _, _, rfl, by omega, h4'.2, allIns_app hL (allIns_1 h4'.1), by simp only [List.length_append, List.length_cons, List.length_nil]; omega, by omega⟩
  · have hl45 : L.length ≤ 45 := by omega
    refine ok_bind (once_ok h2.2.2) (fun r3 h3 => ok_if (fun _ => ok_let ?_) (fun _ => ok_some ⟨hL, by dsimp only; omega, h3⟩))
    refine ok_grd (by simp only [List.length_cons, List.length_nil]; omega) (ok_let (ok_some ⟨allIns_app hL (allIns_1 (insOk_of (by omega) (by omega))), by dsimp only; simp only [List.length_append, List.length_cons, List.length_nil]; omega, h3⟩))
theorem l05Any_ok {k : Nat} {c : List Int × Int × Int} (hk : 1048576 < k) (h : Cur c) : Ok (spec_l05Any.f k c) (fun r => r.1.length ≤ 100 ∧ Cur (c.1, r.2.2)) := by
  unfold spec_l05Any.f
  refine ok_let (ok_bind (l05Code_ok hk h) (fun r2 h2 => ?_))
  have hl := h2.2.1
  refine ok_grd (by simp only [List.length_nil]; omega) (ok_let ?_)
  rw [List.nil_append]
  have one : ∀ {x : Int × Int} {c2 : Int × Int} {ci : Int × Int}, Cur (c.1, ci) → Ok (if (r2.1.length + [x].length) * 16 ≤ 140737488355328 then ((some (r2.1 ++ [x])).bind fun y8 => some (y8, (c.1, ci))) else none) (fun r => r.1.length ≤ 100 ∧ Cur (c.1, r.2.2)) := fun hc => by
    refine ok_grd (by simp only [List.length_cons, List.length_nil]; omega) (ok_let (ok_some ⟨by dsimp only; simp only [List.length_append, List.length_cons, List.length_nil]; omega, hc⟩))
  refine ok_bind (below_lt h2.2.2 (by omega)) (fun r4 h4 => ok_if (fun _ => ok_let (ok_bind (pickInt_ok h4.2.2 (by decide)) (fun r6 h6 => ok_let (one (c2 := (0, 0)) h6.2)))) (fun _ => ok_if (fun _ => ok_let (ok_bind (pickInt_ok h4.2.2 (by decide)) (fun r6 h6 => ok_let (one (c2 := (0, 0)) h6.2)))) (fun _ => ok_if (fun _ => ?_) (fun _ => ok_some ⟨by dsimp only; omega, h4.2.2⟩))))
  refine ok_loop (L := spec_l05Any.l1 k) (I := fun d s => ∃ (ci ch : Int) (L : List (Int × Int)), s = (ci, ch, c.1, L, ()) ∧ L.length ≤ 62 ∧ 62 ≤ L.length + d ∧ Cur (c.1, ci, ch)) ?_ k 62 _ (by omega) ⟨_, _, _, rfl, by omega, by omega, h4.2.2⟩
  rintro d n s ⟨ci, ch, L, rfl, hd, hd2, hc⟩ ih
  rw [spec_l05Any.l1]
  refine ok_bind (below_lt hc (by omega)) (fun r5 h5 => ?_)
  rw [w64_id (z := 60 + r5.1) (by omega) (by omega)]
  refine ok_if (fun hlt => ok_let ?_) (fun _ => ok_some ⟨by dsimp only; omega, h5.2.2⟩)
  refine ok_grd (by simp only [List.length_cons, List.length_nil]; omega) (ok_let ?_)
  exact ih (d - 1) _ (by omega) ⟨_, _, _, rfl, by simp only [List.length_append, List.length_cons, List.length_nil]; omega, by simp only [List.length_append, List.length_cons, List.length_nil]; omega, h5.2.2⟩
/-! ### cells and regions -/
/-- Regions, one behind the other. -/
def Rows : Int → List (Int × Int) → Prop
  | _, [] => True
  | lo, r :: L => lo ≤ r.1 ∧ 1 ≤ r.2 ∧ r.2 ≤ 14 ∧ r.1 + r.2 ≤ 64 ∧ Rows (r.1 + r.2) L
def endOf : Int → List (Int × Int) → Int
  | lo, [] => lo
  | _, r :: L => endOf (r.1 + r.2) L
theorem rows_app : ∀ {L : List (Int × Int)} {lo : Int} {r : Int × Int}, Rows lo L → endOf lo L ≤ r.1 → 1 ≤ r.2 → r.2 ≤ 14 → r.1 + r.2 ≤ 64 → Rows lo (L ++ [r]) ∧ endOf lo (L ++ [r]) = r.1 + r.2
  | [], lo, r, _, h1, h2, h3, h4 => ⟨⟨h1, h2, h3, h4, trivial⟩, rfl⟩
  | q :: L, lo, r, ⟨a, b, c, d, e⟩, h1, h2, h3, h4 => by
    have := rows_app (L := L) (lo := q.1 + q.2) (r := r) e h1 h2 h3 h4
    exact ⟨⟨a, b, c, d, this.1⟩, this.2⟩
theorem rows_in : ∀ {L : List (Int × Int)} {lo : Int}, Rows lo L → ∀ x, x ∈ L → lo ≤ x.1 ∧ 1 ≤ x.2 ∧ x.2 ≤ 14 ∧ x.1 + x.2 ≤ 64
  | [], _, _, x, hx => by cases hx
  | r :: L, lo, ⟨a, b, c, d, e⟩, x, hx => by
    rcases List.mem_cons.1 hx with rfl | hx
    · exact ⟨a, b, c, d⟩
    · have := rows_in e x hx
      exact ⟨by omega, this.2⟩
def Near (L : List (Int × Int)) : Prop := ∀ x, x ∈ L → x.1 < 9223372036854775808
theorem l07Goes_s {k : Nat} {x : Int × Int} : spec_l07Goes.f k x = some (decide (x.1 = 9 ∨ x.1 = 10)) := by
  unfold spec_l07Goes.f
  by_cases h : x.1 = 9 <;> simp [h]
theorem allIns_set {L : List (Int × Int)} {i : Nat} {y : Int × Int} (h : AllIns L) (hy : InsOk y) : AllIns (L.set i y) := fun x hx => by
  rcases List.mem_or_eq_of_mem_set hx with hx | rfl
  · exact h x hx
  · exact hy
theorem l07Code_ok {k : Nat} {c : List Int × Int × Int} (hk : 1048576 < k) (h : Cur c) : Ok (spec_l07Code.f k c) (fun r => AllIns r.1 ∧ r.1.length ≤ 46 ∧ Cur (c.1, r.2.2)) := by
  unfold spec_l07Code.f
  refine ok_let (ok_bind (l05Code_ok hk h) (fun r2 h2 => ?_))
  have hl2 := h2.2.1
  refine ok_grd (by simp only [List.length_nil]; omega) (ok_let ?_)
  rw [List.nil_append]
  refine ok_loop (L := spec_l07Code.l1 k) (I := fun d s => ∃ (j : Nat) (ci ch : Int) (L : List (Int × Int)), s = ((j : Int), ci, ch, c.1, L, ()) ∧ j + d = L.length ∧ Cur (c.1, ci, ch) ∧ AllIns L ∧ L.length ≤ 46) ?_ k r2.1.length _ (by omega) ⟨0, _, _, _, rfl, by omega, h2.2.2, h2.1, hl2⟩
  rintro d n s ⟨j, ci, ch, L, rfl, hd, hc, hL, hlen⟩ ih
  rw [spec_l07Code.l1]
  have h4 : w64 ((j : Int) + 1) = ((j + 1 : Nat) : Int) := w64_id (by omega) (by omega)
  refine ok_if (fun hlt => ok_grd (by omega) (ok_grd hlt ?_)) (fun _ => ok_some ⟨hL, hlen, hc⟩)
  rw [l07Goes_s, h4]
  have hin := hL _ (el_mem (t := C2) (xs := L) (i := j) (by omega))
  refine ok_let (ok_if (fun _ => ok_bind (once_ok hc) (fun r5 h5 => ok_if (fun _ => ok_bind (below_lt h5 (by omega)) (fun r6 h6 => ok_grd (by omega) (ok_grd hlt (ok_let ?_)))) (fun _ => ih (d - 1) _ (by omega) ⟨j + 1, _, _, _, rfl, by omega, h5, hL, hlen⟩))) (fun _ => ih (d - 1) _ (by omega) ⟨j + 1, _, _, _, rfl, by omega, hc, hL, hlen⟩))
  have e6 : w64 (((j + 1 : Nat) : Int) + r6.1) = ((j + 1 : Nat) : Int) + r6.1 := w64_id (by omega) (by omega)
  rw [e6]
  simp only [Int.toNat_natCast]
  exact ih (d - 1) _ (by omega) ⟨j + 1, _, _, _, rfl, by rw [List.length_set]; omega, h6.2.2, allIns_set hL ⟨hin.1, by dsimp only; omega⟩, by rw [List.length_set]; exact hlen⟩
end Go.Proofs.Ytcnaldcinkmpbaa.Pure
