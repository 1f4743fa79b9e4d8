/- The laws' own copies and comparisons of kernels. No condition. -/
import Derived.Test.YtacpibmmodeacaaTKernel
import Derived.Test.YtacpibmmodeacaaTMSetup
import Derived.Test.YtacpibmmodeacaaTMCpu
namespace Go.Proofs.Ytacpibmmodeacaa.Pure
open Go Go.Proofs.YtacpibmmodeacaaA Go.Proofs.YtacpibmmodeacaaU Go.Proofs.Ytacpibmmodeacaa.QA
set_option linter.unusedVariables false
set_option linter.unusedSimpArgs false
abbrev LLT : Ty := .sl 243 (.pair (.int .i64) (.int .i64))
abbrev E5 : Ty := .pair (.int .i64) (.pair (.int .i64) (.pair (.int .i64) (.pair (.int .i64) (.int .i64))))
theorem szPart_f {k : Nat} {p : PartT} {left : Int} (hx : p.2.1.2.length ≤ 9223372036854775807) (h0 : 0 ≤ left) (h1 : left ≤ 1048576) : Ok (laws_szPart.f k p left) (fun r => 0 ≤ r → r ≤ left ∧ p.2.1.2.length ≤ 1048576) := by
  unfold laws_szPart.f
  exact ok_bind (szCpu_f (c := p.2.1) hx h0 h1) (fun r hr => ok_if (fun _ => ok_some (fun h => absurd h (by omega))) (fun _ => ok_some hr))
theorem szPartS_f {k : Nat} {xs : List PartT} {left : Int} (hk : 1048576 < k) (hx : xs.length ≤ 9223372036854775807) (hs : ∀ p, p ∈ xs → p.2.1.2.length ≤ 9223372036854775807) (h0 : 0 ≤ left) (h1 : left ≤ 1048576) : Ok (laws_szPartS.f k xs left) (fun r => 0 ≤ r → r ≤ left ∧ xs.length ≤ 1048576 ∧ ∀ p, p ∈ xs → p.2.1.2.length ≤ 1048576) := by
  unfold laws_szPartS.f
  rw [w64_id (z := left - (xs.length : Int)) (by omega) (by omega)]
  refine ok_if (fun _ => ok_some (fun h => absurd h (by omega))) (fun hl => ?_)
  refine ok_loop (L := laws_szPartS.l1 k) (I := fun d t => ∃ (j : Nat) (y : Int), t = (y, (j : Int), xs, ()) ∧ j + d = xs.length ∧ 0 ≤ y ∧ y ≤ left ∧ ∀ i, i < j → (el PT xs i).2.1.2.length ≤ 1048576) ?_ k xs.length _ (by omega) ⟨0, _, rfl, by omega, by omega, by omega, fun i hi => absurd hi (by omega)⟩
  rintro d n t ⟨j, y, rfl, hd, hy0, hy1, hq⟩ ih
  rw [laws_szPartS.l1]
  refine ok_if (fun hc => ok_grd (by omega) (ok_grd hc ?_)) (fun hc => ok_some (fun _ => ⟨hy1, by omega, fun s hs' => ?_⟩))
  · have hj : j < xs.length := by omega
    have hz := hs _ (el_mem (t := PT) hj)
    have c4 : w64 ((j : Int) + 1) = ((j + 1 : Nat) : Int) := w64_id (by omega) (by omega)
    obtain ⟨a, c, b, e, f, hxe⟩ : ∃ (a : Int) (c : Int × List Int) (b e f : Int), el PT xs j = (a, c, b, e, f) := ⟨_, _, _, _, _, rfl⟩
    rw [hxe] at hz
    simp only [Int.toNat_natCast, c4, show el (.pair (.int .i64) (.pair (.pair (.int .i64) (.sl 3 (.int .i64))) (.pair (.int .i64) (.pair (.int .i64) (.int .i64))))) xs j = (a, c, b, e, f) from hxe]
    refine ok_bind (szPart_f (p := (a, c, b, e, f)) hz hy0 (by omega)) (fun r hr => ok_if (fun _ => ok_some (fun h => absurd h (by omega))) (fun hz2 => ?_))
    have hr' := hr (by omega)
    exact ih (d - 1) _ (by omega) ⟨j + 1, _, rfl, by omega, by omega, by omega, allS hq (by rw [hxe]; exact hr'.2)⟩
  · obtain ⟨i, hi, rfl⟩ := List.mem_iff_getElem.1 hs'
    have := hq i (by omega)
    rw [el_at (t := PT) (List.getElem?_eq_getElem hi)] at this
    exact this
theorem szLineS_f {k : Nat} {xs : List LineT} {left : Int} (hk : 1048576 < k) (hx : xs.length ≤ 9223372036854775807) (hs : ∀ p, p ∈ xs → p.length ≤ 9223372036854775807) (h0 : 0 ≤ left) (h1 : left ≤ 1048576) : Ok (laws_szLineS.f k xs left) (fun r => 0 ≤ r → r ≤ left ∧ xs.length ≤ 1048576 ∧ ∀ p, p ∈ xs → p.length ≤ 1048576) := by
  unfold laws_szLineS.f
  rw [w64_id (z := left - (xs.length : Int)) (by omega) (by omega)]
  refine ok_if (fun _ => ok_some (fun h => absurd h (by omega))) (fun hl => ?_)
  refine ok_loop (L := laws_szLineS.l1 k) (I := fun d t => ∃ (j : Nat) (y : Int), t = (y, (j : Int), xs, ()) ∧ j + d = xs.length ∧ 0 ≤ y ∧ y ≤ left ∧ ∀ i, i < j → (el LLT xs i).length ≤ 1048576) ?_ k xs.length _ (by omega) ⟨0, _, rfl, by omega, by omega, by omega, fun i hi => absurd hi (by omega)⟩
  rintro d n t ⟨j, y, rfl, hd, hy0, hy1, hq⟩ ih
  rw [laws_szLineS.l1]
  refine ok_if (fun hc => ok_grd (by omega) (ok_grd hc ?_)) (fun hc => ok_some (fun _ => ⟨hy1, by omega, fun s hs' => ?_⟩))
  · have hj : j < xs.length := by omega
    have hz := hs _ (el_mem (t := LLT) hj)
    have c4 : w64 ((j : Int) + 1) = ((j + 1 : Nat) : Int) := w64_id (by omega) (by omega)
    obtain ⟨l, hxe⟩ : ∃ l : List (Int × Int), el LLT xs j = l := ⟨_, rfl⟩
    rw [hxe] at hz
    simp only [Int.toNat_natCast, c4, show el (.sl 243 (.pair (.int .i64) (.int .i64))) xs j = l from hxe]
    have hline : Ok (laws_szLine.f k l y) (fun r => 0 ≤ r → r ≤ y ∧ l.length ≤ 1048576) := by
      unfold laws_szLine.f
      exact ok_bind (szMsgS_f (xs := l) hz hy0 (by omega)) (fun r hr => ok_if (fun _ => ok_some (fun h => absurd h (by omega))) (fun _ => ok_some hr))
    refine ok_bind hline (fun r hr => ok_if (fun _ => ok_some (fun h => absurd h (by omega))) (fun hz2 => ?_))
    have hr' := hr (by omega)
    exact ih (d - 1) _ (by omega) ⟨j + 1, _, rfl, by omega, by omega, by omega, allS hq (by rw [hxe]; exact hr'.2)⟩
  · obtain ⟨i, hi, rfl⟩ := List.mem_iff_getElem.1 hs'
    have := hq i (by omega)
    rw [el_at (t := LLT) (List.getElem?_eq_getElem hi)] at this
    exact this
structure LimK (k : Kernel) : Prop extends SmallK k where
  codes : ∀ x, x ∈ k.1.2.2.2.2 → x.size ≤ 1048576
theorem LimK.lim {k : Kernel} (h : LimK k) : Lim k.1 := ⟨h.st, h.codes⟩
abbrev KTy : Ty := .pair (SetupTy 0 0 0 0 0) (.pair (.sl 0 (.int .i64)) (.pair (.sl 0 PT) (.pair (.sl 0 LLT) (.pair (.sl 0 (.int .i64)) (.pair (.int .i64) (.pair .bool (.sl 0 E5)))))))
theorem szKernel_f {k : Nat} {K : Kernel} {left : Int} (hk : 1048576 < k) (hx : Wf KTy K) (h0 : 0 ≤ left) (h1 : left ≤ 1048576) : Ok (laws_szKernel.f k K left) (fun r => 0 ≤ r → r ≤ left ∧ LimK K) := by
  obtain ⟨S, A, Ps, Ls, O, T, D, G⟩ := K
  obtain ⟨w1, w2, w3, w4, w5, w6, w7, w8⟩ := hx
  unfold laws_szKernel.f
  refine ok_bind (szSetup_f (s := S) hk w1 h0 h1) (fun r1 q1 => ok_if (fun _ => ok_some (fun h => absurd h (by omega))) (fun n1 => ?_))
  obtain ⟨a1, b1⟩ := q1 (by omega)
  refine ok_bind (szArena_f (c := A) w2.2 (by omega) (by omega)) (fun r2 q2 => ok_if (fun _ => ok_some (fun h => absurd h (by omega))) (fun n2 => ?_))
  obtain ⟨a2, b2⟩ := q2 (by omega)
  refine ok_bind (szPartS_f (xs := Ps) hk w3.2 (fun p hp => (w3.1 p hp).2.1.2.2) (by omega) (by omega)) (fun r3 q3 => ok_if (fun _ => ok_some (fun h => absurd h (by omega))) (fun n3 => ?_))
  obtain ⟨a3, b3, c3⟩ := q3 (by omega)
  refine ok_bind (szLineS_f (xs := Ls) hk w4.2 (fun p hp => (w4.1 p hp).2) (by omega) (by omega)) (fun r4 q4 => ok_if (fun _ => ok_some (fun h => absurd h (by omega))) (fun n4 => ?_))
  obtain ⟨a4, b4, c4⟩ := q4 (by omega)
  refine ok_bind (szIntS_f (xs := O) w5.2 (by omega) (by omega)) (fun r5 q5 => ok_if (fun _ => ok_some (fun h => absurd h (by omega))) (fun n5 => ?_))
  obtain ⟨a5, b5⟩ := q5 (by omega)
  refine ok_bind (szEntryS_f (xs := G) w8.2 (by omega) (by omega)) (fun r6 q6 => ok_if (fun _ => ok_some (fun h => absurd h (by omega))) (fun n6 => ok_some (fun h => ?_)))
  obtain ⟨a6, b6⟩ := q6 (by omega)
  exact ⟨by omega, ⟨b1.toSmall, b2, b3, c3, b4, c4, b5, b6⟩, b1.f⟩
theorem toPart_f {k : Nat} {p : PartT} (hl : p.2.1.2.length ≤ 1048576) (hk : 1048576 < k) : laws_toPart.f k p = some p := by
  unfold laws_toPart.f
  rw [toCpu_f hl hk]
  rfl
theorem eqPart_f {k : Nat} {p : PartT} (hl : p.2.1.2.length ≤ 1048576) (hk : 1048576 < k) : laws_eqPart.f k p p = some true := by
  unfold laws_eqPart.f
  rw [eqCpu_f hl hk]
  simp
theorem toPartS_f {k : Nat} {xs : List PartT} (hl : xs.length ≤ 1048576) (hs : ∀ p, p ∈ xs → p.2.1.2.length ≤ 1048576) (hk : 1048576 < k) : laws_toPartS.f k xs = some xs := by
  have l : ∀ (d j n : Nat), j + d = xs.length → d < n → laws_toPartS.l1 k n ((j : Int), xs, xs.take j ++ List.replicate d ((0, (0, []), 0, 0, 0) : PartT), ()) = some xs := by
    intro d
    induction d with
    | zero =>
      intro j n hj hn
      obtain ⟨n, rfl⟩ : ∃ n', n = n' + 1 := ⟨n - 1, by omega⟩
      rw [List.replicate_zero, List.append_nil, List.take_of_length_le (by omega), laws_toPartS.l1, if_neg (by omega)]
    | succ d ih =>
      intro j n hj hn
      obtain ⟨n, rfl⟩ : ∃ n', n = n' + 1 := ⟨n - 1, by omega⟩
      have h0 : (0 : Int) ≤ (j : Int) := by omega
      have h1 : (j : Int) < (xs.length : Int) := by omega
      have h2 : (xs.take j ++ List.replicate (d + 1) ((0, (0, []), 0, 0, 0) : PartT)).length = xs.length := len_copy hj
      have h3 := set_copy (el_lt (t := PT) (xs := xs) (i := j) (by omega)) hj (z := ((0, (0, []), 0, 0, 0) : PartT))
      have h4 : w64 ((j : Int) + 1) = ((j + 1 : Nat) : Int) := w_id (z := (j : Int) + 1) (by omega) (by omega)
      have hz := hs _ (el_mem (t := PT) (xs := xs) (i := j) (by omega))
      obtain ⟨a, c, b, e, f, hxe⟩ : ∃ (a : Int) (c : Int × List Int) (b e f : Int), el PT xs j = (a, c, b, e, f) := ⟨_, _, _, _, _, rfl⟩
      rw [hxe] at hz h3
      have ht := toPart_f (p := (a, c, b, e, f)) hz hk
      have h5 : (j : Int) < ((xs.take j ++ List.replicate (d + 1) ((0, (0, []), 0, 0, 0) : PartT)).length : Int) := by rw [h2]; exact h1
      simp only [laws_toPartS.l1, h0, h1, h5, h4, ↓reduceIte, Option.bind_some, Int.toNat_natCast, show el (.pair (.int .i64) (.pair (.pair (.int .i64) (.sl 3 (.int .i64))) (.pair (.int .i64) (.pair (.int .i64) (.int .i64))))) xs j = (a, c, b, e, f) from hxe, ht]
      rw [h3]
      exact ih (j + 1) n (by omega) (by omega)
  have := l xs.length 0 k (by omega) (by omega)
  unfold laws_toPartS.f
  rw [if_pos rfl, if_pos (by omega), if_pos (by simp only [Int.toNat_natCast]; omega)]
  simpa using this
theorem eqPartS_f {k : Nat} {xs : List PartT} (hl : xs.length ≤ 1048576) (hs : ∀ p, p ∈ xs → p.2.1.2.length ≤ 1048576) (hk : 1048576 < k) : laws_eqPartS.f k xs xs = some true := by
  have l : ∀ (d j n : Nat), j + d = xs.length → d < n → laws_eqPartS.l1 k n ((j : Int), xs, xs, ()) = some true := by
    intro d
    induction d with
    | zero =>
      intro j n hj hn
      obtain ⟨n, rfl⟩ : ∃ n', n = n' + 1 := ⟨n - 1, by omega⟩
      rw [laws_eqPartS.l1, if_neg (by omega)]
    | succ d ih =>
      intro j n hj hn
      obtain ⟨n, rfl⟩ : ∃ n', n = n' + 1 := ⟨n - 1, by omega⟩
      have h0 : (0 : Int) ≤ (j : Int) := by omega
      have h1 : (j : Int) < (xs.length : Int) := by omega
      have h4 : w64 ((j : Int) + 1) = ((j + 1 : Nat) : Int) := w_id (z := (j : Int) + 1) (by omega) (by omega)
      have hz := hs _ (el_mem (t := PT) (xs := xs) (i := j) (by omega))
      obtain ⟨a, c, b, e, f, hxe⟩ : ∃ (a : Int) (c : Int × List Int) (b e f : Int), el PT xs j = (a, c, b, e, f) := ⟨_, _, _, _, _, rfl⟩
      rw [hxe] at hz
      have ht := eqPart_f (p := (a, c, b, e, f)) hz hk
      simp only [laws_eqPartS.l1, h0, h1, h4, ↓reduceIte, Option.bind_some, Int.toNat_natCast, show el (.pair (.int .i64) (.pair (.pair (.int .i64) (.sl 3 (.int .i64))) (.pair (.int .i64) (.pair (.int .i64) (.int .i64))))) xs j = (a, c, b, e, f) from hxe, ht, not_true_eq_false]
      exact ih (j + 1) n (by omega) (by omega)
  have := l xs.length 0 k (by omega) (by omega)
  unfold laws_eqPartS.f
  rw [if_neg (fun h => h rfl)]
  exact this
theorem toLineS_f {k : Nat} {xs : List LineT} (hl : xs.length ≤ 1048576) (hs : ∀ p, p ∈ xs → p.length ≤ 1048576) (hk : 1048576 < k) : laws_toLineS.f k xs = some xs := by
  have l : ∀ (d j n : Nat), j + d = xs.length → d < n → laws_toLineS.l1 k n ((j : Int), xs, xs.take j ++ List.replicate d ([] : LineT), ()) = some xs := by
    intro d
    induction d with
    | zero =>
      intro j n hj hn
      obtain ⟨n, rfl⟩ : ∃ n', n = n' + 1 := ⟨n - 1, by omega⟩
      rw [List.replicate_zero, List.append_nil, List.take_of_length_le (by omega), laws_toLineS.l1, if_neg (by omega)]
    | succ d ih =>
      intro j n hj hn
      obtain ⟨n, rfl⟩ : ∃ n', n = n' + 1 := ⟨n - 1, by omega⟩
      have h0 : (0 : Int) ≤ (j : Int) := by omega
      have h1 : (j : Int) < (xs.length : Int) := by omega
      have h2 : (xs.take j ++ List.replicate (d + 1) ([] : LineT)).length = xs.length := len_copy hj
      have h3 := set_copy (el_lt (t := LLT) (xs := xs) (i := j) (by omega)) hj (z := ([] : LineT))
      have h4 : w64 ((j : Int) + 1) = ((j + 1 : Nat) : Int) := w_id (z := (j : Int) + 1) (by omega) (by omega)
      have hz := hs _ (el_mem (t := LLT) (xs := xs) (i := j) (by omega))
      obtain ⟨l, hxe⟩ : ∃ l : List (Int × Int), el LLT xs j = l := ⟨_, rfl⟩
      rw [hxe] at hz h3
      have ht : laws_toLine.f k l = some l := by
        unfold laws_toLine.f
        rw [toMsgS_f hz hk]
        rfl
      have h5 : (j : Int) < ((xs.take j ++ List.replicate (d + 1) ([] : LineT)).length : Int) := by rw [h2]; exact h1
      simp only [laws_toLineS.l1, h0, h1, h5, h4, ↓reduceIte, Option.bind_some, Int.toNat_natCast, show el (.sl 243 (.pair (.int .i64) (.int .i64))) xs j = l from hxe, ht]
      rw [h3]
      exact ih (j + 1) n (by omega) (by omega)
  have := l xs.length 0 k (by omega) (by omega)
  unfold laws_toLineS.f
  rw [if_pos rfl, if_pos (by omega), if_pos (by simp only [Int.toNat_natCast]; omega)]
  simpa using this
theorem eqLineS_f {k : Nat} {xs : List LineT} (hl : xs.length ≤ 1048576) (hs : ∀ p, p ∈ xs → p.length ≤ 1048576) (hk : 1048576 < k) : laws_eqLineS.f k xs xs = some true := by
  have l : ∀ (d j n : Nat), j + d = xs.length → d < n → laws_eqLineS.l1 k n ((j : Int), xs, xs, ()) = some true := by
    intro d
    induction d with
    | zero =>
      intro j n hj hn
      obtain ⟨n, rfl⟩ : ∃ n', n = n' + 1 := ⟨n - 1, by omega⟩
      rw [laws_eqLineS.l1, if_neg (by omega)]
    | succ d ih =>
      intro j n hj hn
      obtain ⟨n, rfl⟩ : ∃ n', n = n' + 1 := ⟨n - 1, by omega⟩
      have h0 : (0 : Int) ≤ (j : Int) := by omega
      have h1 : (j : Int) < (xs.length : Int) := by omega
      have h4 : w64 ((j : Int) + 1) = ((j + 1 : Nat) : Int) := w_id (z := (j : Int) + 1) (by omega) (by omega)
      have hz := hs _ (el_mem (t := LT) (xs := xs) (i := j) (by omega))
      obtain ⟨l, hxe⟩ : ∃ l : List (Int × Int), el LT xs j = l := ⟨_, rfl⟩
      rw [hxe] at hz
      have ht : laws_eqLine.f k l l = some true := by
        unfold laws_eqLine.f
        rw [eqMsgS_f hz hk]
        rfl
      simp only [laws_eqLineS.l1, h0, h1, h4, ↓reduceIte, Option.bind_some, Int.toNat_natCast, show el (.sl 241 (.pair (.int .i64) (.int .i64))) xs j = l from hxe, ht, not_true_eq_false]
      exact ih (j + 1) n (by omega) (by omega)
  have := l xs.length 0 k (by omega) (by omega)
  unfold laws_eqLineS.f
  rw [if_neg (fun h => h rfl)]
  exact this
theorem toKernel_f {k : Nat} {K : Kernel} (h : LimK K) (hk : 1048576 < k) : laws_toKernel.f k K = some K := by
  unfold laws_toKernel.f
  rw [toSetup_f h.lim hk, toArena_f h.cells hk, toPartS_f h.parts h.stacks hk, toLineS_f h.lines h.msgs hk, toIntS_f h.outs hk, toEntryS_f h.log hk]
  rfl
theorem eqKernel_f {k : Nat} {K : Kernel} (h : SmallK K) (hk : 1048576 < k) : laws_eqKernel.f k K K = some true := by
  unfold laws_eqKernel.f
  rw [eqSetup_f h.st hk, eqArena_f h.cells hk, eqPartS_f h.parts h.stacks hk, eqLineS_f h.lines h.msgs hk, eqIntS_f h.outs hk, eqEntryS_f h.log hk]
  simp
end Go.Proofs.Ytacpibmmodeacaa.Pure
