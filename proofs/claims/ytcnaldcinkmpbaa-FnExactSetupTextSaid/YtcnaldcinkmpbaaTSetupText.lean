/- The bytes of set-ups. No condition. -/
import Derived.Test.YtcnaldcinkmpbaaTSetup
import Derived.Test.YtcnaldcinkmpbaaTText
namespace Go.Proofs.Ytcnaldcinkmpbaa.Pure
open Go Go.Proofs.YtcnaldcinkmpbaaA Go.Proofs.YtcnaldcinkmpbaaU Go.Proofs.Ytcnaldcinkmpbaa.QA
set_option linter.unusedVariables false
set_option linter.unusedSimpArgs false
theorem numsL_app : ∀ A B, numsL (A ++ B) = numsL A ++ numsL B
  | [], B => rfl
  | n :: A, B => by rw [List.cons_append, numsL, numsL, numsL_app A B, List.append_assoc]
def Nums (L : List Nat) : Prop := ∀ n, n ∈ L → n ≤ 1000000000
theorem nums_app {A C : List Nat} (h1 : Nums A) (h2 : Nums C) : Nums (A ++ C) := fun n hn => (List.mem_append.1 hn).elim (h1 n) (h2 n)
theorem nums_1 {n : Nat} (h : n ≤ 1000000000) : Nums [n] := fun m hm => by rw [List.mem_singleton.1 hm]; exact h
theorem numsL_len : ∀ {L : List Nat}, Nums L → (numsL L).length ≤ 6 * L.length
  | [], _ => Nat.le_refl 0
  | n :: L, h => by
    have h1 := numsL_len (L := L) (fun m hm => h m (List.mem_cons_of_mem _ hm))
    have h2 := varL_len 5 n (by have := h n (List.mem_cons_self ..); omega)
    rw [numsL, List.length_append, List.length_cons]
    omega
/-- The text of numbers. -/
def numT (L : List Nat) : ByteArray := chrs (numsL L)
theorem numT_app (A C : List Nat) : numT A ++ numT C = numT (A ++ C) := by
  unfold numT
  rw [numsL_app, chrs_app]
theorem numT_size {L : List Nat} (h : Nums L) : (numT L).size ≤ 6 * L.length := by
  unfold numT
  rw [chrs_size]
  exact numsL_len h
theorem numT_1 (n : Nat) : chrs (varL n) = numT [n] := by
  unfold numT
  rw [numsL, numsL, List.append_nil]
theorem varN_s {k : Nat} {n : Nat} (hk : 1048576 < k) (h : n ≤ 1000000000) : spec_l01Var.f k (n : Int) = some (numT [n]) := by rw [var_s hk h, numT_1]
theorem num_i {k : Nat} {L : List Nat} (hk : 1048576 < k) (hl : L.length ≤ 1000) (h : Nums L) : impl_numbers.f k (L.map fun n : Nat => (n : Int)) = some (numT L) := numbers_i hk hl h
def two (x : Int × Int) : List Nat := [x.1.toNat, x.2.toNat]
def five (x : Port5) : List Nat := [x.1.toNat, x.2.1.toNat, x.2.2.1.toNat, x.2.2.2.1.toNat, x.2.2.2.2.toNat]
def three (x : Int × Int × Int) : List Nat := [x.1.toNat, x.2.1.toNat, x.2.2.toNat]
def flatL {α : Type} (f : α → List Nat) : List α → List Nat
  | [] => []
  | x :: L => f x ++ flatL f L
theorem flatL_app {α : Type} (f : α → List Nat) : ∀ L M, flatL f (L ++ M) = flatL f L ++ flatL f M
  | [], M => rfl
  | x :: L, M => by rw [List.cons_append, flatL, flatL, flatL_app f L M, List.append_assoc]
theorem flatL_next {α : Type} {f : α → List Nat} {L : List α} {j : Nat} {x : α} (h : L[j]? = some x) : flatL f (L.take (j + 1)) = flatL f (L.take j) ++ f x := by
  rw [List.take_add_one, h, flatL_app]
  show _ ++ (f x ++ []) = _
  rw [List.append_nil]
def codesT : List ByteArray → ByteArray
  | [] => ⟨#[]⟩
  | c :: L => (numT [c.size] ++ c) ++ codesT L
theorem codesT_app : ∀ L M, codesT (L ++ M) = codesT L ++ codesT M
  | [], M => by rw [List.nil_append]; exact ByteArray.empty_append.symm
  | c :: L, M => by rw [List.cons_append, codesT, codesT, codesT_app L M]; exact (ByteArray.append_assoc ..).symm
theorem codesT_next {L : List ByteArray} {j : Nat} {c : ByteArray} (h : L[j]? = some c) : codesT (L.take (j + 1)) = codesT (L.take j) ++ (numT [c.size] ++ c) := by
  rw [List.take_add_one, h, codesT_app]
  show _ ++ ((numT [c.size] ++ c) ++ (⟨#[]⟩ : ByteArray)) = _
  rw [show ((⟨#[]⟩ : ByteArray)) = ByteArray.empty from rfl, ByteArray.append_empty]
def numsOf (s : Setup) : List Nat := [s.1.length] ++ flatL two s.1 ++ [s.2.1.length] ++ flatL two s.2.1 ++ [s.2.2.1.length] ++ flatL five s.2.2.1 ++ [s.2.2.2.1.length] ++ flatL three s.2.2.2.1
def setupT (s : Setup) : ByteArray := numT (numsOf s) ++ codesT s.2.2.2.2
noncomputable def setupTextM (s : Setup) : ByteArray × Bool := if faultM s = 0 then (setupT s, true) else (⟨#[]⟩, false)
structure Right (s : Setup) : Prop where
  rg : RegionsOk s.1
  pl : PlanOk s.2.1
  po : PortsOk s.2.2.1
  ru : RulesOk s.2.2.2.1
  co : CodesOk s.2.2.2.2 (s.1.length : Int)
  pa : PartsOk s
theorem right_of {s : Setup} (h : faultM s = 0) : Right s := by
  unfold faultM at h
  split at h
  · exact absurd h (by omega)
  split at h
  · exact absurd h (by omega)
  split at h
  · exact absurd h (by omega)
  split at h
  · exact absurd h (by omega)
  split at h
  · exact absurd h (by omega)
  split at h
  · exact absurd h (by omega)
  rename_i a b c d e f
  exact ⟨B_iff.1 (Classical.not_not.1 a), B_iff.1 (Classical.not_not.1 b), B_iff.1 (Classical.not_not.1 c), B_iff.1 (Classical.not_not.1 d), B_iff.1 (Classical.not_not.1 e), B_iff.1 (Classical.not_not.1 f)⟩
def Nn (L : List Int) : Prop := ∀ x, x ∈ L → 0 ≤ x ∧ x ≤ 1000000000
theorem toNat_map {L : List Int} (h : Nn L) : (L.map Int.toNat).map (fun n : Nat => (n : Int)) = L := by
  rw [List.map_map]
  conv => rhs; rw [← List.map_id L]
  refine List.map_congr_left fun x hx => ?_
  have := h x hx
  show ((x.toNat : Nat) : Int) = x
  omega
theorem reg_nn {L : List (Int × Int)} (h : RegionsOk L) {j : Nat} (hj : j < L.length) : Nn [(el W2 L j).1, (el W2 L j).2] := fun x hx => by
  obtain ⟨a, b, c, d⟩ := (h.1 j hj).1
  simp only [List.mem_cons, List.not_mem_nil, or_false] at hx
  rcases hx with rfl | rfl <;> omega
theorem win_nn {L : List (Int × Int)} (h : PlanOk L) {j : Nat} (hj : j < L.length) : Nn [(el W2 L j).1, (el W2 L j).2] := fun x hx => by
  obtain ⟨a, b⟩ := h.1 j hj
  simp only [List.mem_cons, List.not_mem_nil, or_false] at hx
  rcases hx with rfl | rfl <;> omega
theorem port_nn {L : List Port5} (h : PortsOk L) {j : Nat} (hj : j < L.length) : Nn [(el P5 L j).1, (el P5 L j).2.1, (el P5 L j).2.2.1, (el P5 L j).2.2.2.1, (el P5 L j).2.2.2.2] := fun x hx => by
  obtain ⟨a, b, -, c⟩ := h.1 j hj
  simp only [List.mem_cons, List.not_mem_nil, or_false] at hx
  rcases hx with rfl | rfl | rfl | rfl | rfl
  · rcases c with c | c <;> (have := c.1; omega)
  · omega
  · omega
  · rcases c with c | c
    · have := c.2.1; omega
    · have := c.2.1; omega
  · rcases c with c | c
    · have := c.2.2; omega
    · have := c.2.2; omega
theorem rule_nn {L : List (Int × Int × Int)} (h : RulesOk L) {j : Nat} (hj : j < L.length) : Nn [(el R3 L j).1, (el R3 L j).2.1, (el R3 L j).2.2] := fun x hx => by
  obtain ⟨a, b, c, -⟩ := (h.1 j hj).1
  simp only [List.mem_cons, List.not_mem_nil, or_false] at hx
  rcases hx with rfl | rfl | rfl <;> omega
theorem nums_toNat {L : List Int} (h : Nn L) : Nums (L.map Int.toNat) := fun n hn => by
  obtain ⟨x, hx, rfl⟩ := List.mem_map.1 hn
  have := h x hx
  omega
theorem var_nn {k : Nat} {x : Int} (hk : 1048576 < k) (h : 0 ≤ x ∧ x ≤ 1000000000) : spec_l01Var.f k x = some (numT [x.toNat]) := by
  have e := varN_s (k := k) (n := x.toNat) hk (by omega)
  rw [show ((x.toNat : Nat) : Int) = x by omega] at e
  exact e
theorem nums_nn {k : Nat} {L : List Int} (hk : 1048576 < k) (hl : L.length ≤ 1000) (h : Nn L) : impl_numbers.f k L = some (numT (L.map Int.toNat)) := by
  have e := num_i (k := k) (L := L.map Int.toNat) hk (by rw [List.length_map]; exact hl) (nums_toNat h)
  rw [toNat_map h] at e
  exact e
theorem len1 {k : Nat} {n : Nat} (hk : 1048576 < k) (h : n ≤ 1000) : impl_numbers.f k [(n : Int)] = some (numT [n]) := num_i (L := [n]) hk (by simp) (nums_1 (by omega))
/-! ### the reference -/
theorem st5_s {k : Nat} {R W : List (Int × Int)} {P : List Port5} {U : List (Int × Int × Int)} {C : List ByteArray} {T : ByteArray} {n : Int} (hk : 1048576 < k) (hc : CodesOk C n) (h4 : C.length ≤ 4) (hT : T.size ≤ 10000) : spec_SetupText.l5 k k (T, 0, R, W, P, U, C, ()) = some (T ++ codesT C, true) := by
  refine ok_eq ?_
  refine ok_loop (L := spec_SetupText.l5 k) (I := fun d t => ∃ j : Nat, t = (T ++ codesT (C.take j), (j : Int), R, W, P, U, C, ()) ∧ j + d = C.length ∧ (codesT (C.take j)).size ≤ 130 * j) ?_ k C.length _ (by omega) ⟨0, by rw [List.take_zero, codesT, show (⟨#[]⟩ : ByteArray) = ByteArray.empty from rfl, ByteArray.append_empty]; rfl, by omega, by rw [List.take_zero, codesT]; exact Nat.zero_le _⟩
  rintro d m t ⟨j, rfl, hd, hz⟩ ih
  rw [spec_SetupText.l5]
  refine ok_if (fun hlt => ?_) (fun hge => ok_some ?_)
  · have hj : j < C.length := by omega
    have hx := el_lt (t := .str) hj
    have hr := hc.1 j hj
    have nx := codesT_next hx
    obtain ⟨c, hce⟩ : ∃ c : ByteArray, el .str C j = c := ⟨_, rfl⟩
    rw [hce] at hr nx
    have h120 := hr.2
    have c0 : (0 : Int) ≤ (j : Int) := by omega
    have h5 : w64 ((j : Int) + 1) = ((j + 1 : Nat) : Int) := w64_id (by omega) (by omega)
    have z := numT_size (nums_1 (n := c.size) (by omega))
    rw [List.length_cons, List.length_nil] at z
    have hz' : (codesT (C.take (j + 1))).size ≤ 130 * (j + 1) := by
      rw [nx, ByteArray.size_append, ByteArray.size_append]
      omega
    simp only [c0, hlt, h5, ↓reduceIte, Int.toNat_natCast, hce, varN_s hk (show c.size ≤ 1000000000 by omega), Option.bind_some, ByteArray.size_append]
    rw [if_pos (by omega), if_pos (by omega)]
    refine ih (d - 1) _ (by omega) ⟨j + 1, ?_, by omega, hz'⟩
    rw [nx]
    simp only [ByteArray.append_assoc]
  · rw [List.take_of_length_le (by omega)]
theorem st4_s {k : Nat} {R W : List (Int × Int)} {P : List Port5} {U : List (Int × Int × Int)} {C : List ByteArray} {A : List Nat} {n : Int} (hk : 1048576 < k) (ru : RulesOk U) (hc : CodesOk C n) (h4 : C.length ≤ 4) (hA : Nums A) (hl : A.length ≤ 200 - 25) : spec_SetupText.l4 k k (numT A, 0, R, W, P, U, C, ()) = some (numT (A ++ flatL three U) ++ codesT C, true) := by
  refine ok_eq ?_
  have hmx := ru.2
  refine ok_loop (L := spec_SetupText.l4 k) (I := fun d t => ∃ j : Nat, t = (numT (A ++ flatL three (U.take j)), (j : Int), R, W, P, U, C, ()) ∧ j + d = U.length ∧ Nums (A ++ flatL three (U.take j)) ∧ (A ++ flatL three (U.take j)).length ≤ A.length + 3 * j) ?_ k U.length _ (by omega) ⟨0, by rw [List.take_zero, flatL, List.append_nil]; rfl, by omega, by rw [List.take_zero, flatL, List.append_nil]; exact hA, by rw [List.take_zero, flatL, List.append_nil]; omega⟩
  rintro d m t ⟨j, rfl, hd, hN, hL⟩ ih
  rw [spec_SetupText.l4]
  refine ok_if (fun hlt => ?_) (fun hge => ?_)
  · have hj : j < U.length := by omega
    have hx := el_lt (t := R3) hj
    have hnn := rule_nn ru hj
    obtain ⟨a, b, c, hxe⟩ : ∃ a b c : Int, el R3 U j = (a, b, c) := ⟨_, _, _, rfl⟩
    rw [hxe] at hx hnn
    have ha := hnn a (by simp)
    have hb := hnn b (by simp)
    have hc := hnn c (by simp)
    have c0 : (0 : Int) ≤ (j : Int) := by omega
    have h5 : w64 ((j : Int) + 1) = ((j + 1 : Nat) : Int) := w64_id (by omega) (by omega)
    have nx := flatL_next (f := three) hx
    have hN' : Nums (A ++ flatL three (U.take (j + 1))) := by
      rw [nx, ← List.append_assoc]
      exact nums_app hN (nums_toNat hnn)
    have hL' : (A ++ flatL three (U.take (j + 1))).length ≤ A.length + 3 * (j + 1) := by
      rw [nx, ← List.append_assoc, List.length_append]
      show _ + 3 ≤ _
      omega
    have n0 := nums_1 (n := a.toNat) (by omega)
    have n1 := nums_1 (n := b.toNat) (by omega)
    have n2 := nums_1 (n := c.toNat) (by omega)
    have z0 := numT_size hN
    have z1 := numT_size (nums_app hN n0)
    have z2 := numT_size (nums_app (nums_app hN n0) n1)
    have y0 := numT_size n0
    have y1 := numT_size n1
    have y2 := numT_size n2
    generalize hQ : A ++ flatL three (U.take j) = Q at *
    simp only [List.length_append, List.length_cons, List.length_nil] at z1 z2 y0 y1 y2
    simp only [c0, hlt, h5, ↓reduceIte, Int.toNat_natCast, show el (.pair (.int .i64) (.pair (.int .i64) (.int .i64))) U j = (a, b, c) from hxe, var_nn hk ha, var_nn hk hb, var_nn hk hc, Option.bind_some, numT_app]
    rw [if_pos (by omega), if_pos (by omega), if_pos (by omega)]
    refine ih (d - 1) _ (by omega) ⟨j + 1, ?_, by omega, hN', hL'⟩
    rw [nx, ← List.append_assoc, hQ]
    simp only [three, List.map_cons, List.map_nil, List.append_assoc, List.cons_append, List.nil_append]
  · have hje : j = U.length := by omega
    subst hje
    rw [List.take_length] at hN hL ⊢
    have z := numT_size hN
    rw [st5_s hk hc h4 (by simp only [List.length_append] at hL z; omega)]
    exact ok_some rfl
theorem st3_s {k : Nat} {R W : List (Int × Int)} {P : List Port5} {U : List (Int × Int × Int)} {C : List ByteArray} {A : List Nat} {n : Int} (hk : 1048576 < k) (po : PortsOk P) (ru : RulesOk U) (hc : CodesOk C n) (h4 : C.length ≤ 4) (hA : Nums A) (hl : A.length ≤ 200 - 56) : spec_SetupText.l3 k k (numT A, 0, R, W, P, U, C, ()) = some (numT (A ++ flatL five P ++ [U.length] ++ flatL three U) ++ codesT C, true) := by
  refine ok_eq ?_
  have hmx := po.2
  refine ok_loop (L := spec_SetupText.l3 k) (I := fun d t => ∃ j : Nat, t = (numT (A ++ flatL five (P.take j)), (j : Int), R, W, P, U, C, ()) ∧ j + d = P.length ∧ Nums (A ++ flatL five (P.take j)) ∧ (A ++ flatL five (P.take j)).length ≤ A.length + 5 * j) ?_ k P.length _ (by omega) ⟨0, by rw [List.take_zero, flatL, List.append_nil]; rfl, by omega, by rw [List.take_zero, flatL, List.append_nil]; exact hA, by rw [List.take_zero, flatL, List.append_nil]; omega⟩
  rintro d m t ⟨j, rfl, hd, hN, hL⟩ ih
  rw [spec_SetupText.l3]
  refine ok_if (fun hlt => ?_) (fun hge => ?_)
  · have hj : j < P.length := by omega
    have hx := el_lt (t := P5) hj
    have hnn := port_nn po hj
    obtain ⟨a, b, c, e, f, hxe⟩ : ∃ a b c e f : Int, el P5 P j = (a, b, c, e, f) := ⟨_, _, _, _, _, rfl⟩
    rw [hxe] at hx hnn
    have ha := hnn a (by simp)
    have hb := hnn b (by simp)
    have hc := hnn c (by simp)
    have he := hnn e (by simp)
    have hf := hnn f (by simp)
    have c0 : (0 : Int) ≤ (j : Int) := by omega
    have h5 : w64 ((j : Int) + 1) = ((j + 1 : Nat) : Int) := w64_id (by omega) (by omega)
    have nx := flatL_next (f := five) hx
    have hN' : Nums (A ++ flatL five (P.take (j + 1))) := by
      rw [nx, ← List.append_assoc]
      exact nums_app hN (nums_toNat hnn)
    have hL' : (A ++ flatL five (P.take (j + 1))).length ≤ A.length + 5 * (j + 1) := by
      rw [nx, ← List.append_assoc, List.length_append]
      show _ + 5 ≤ _
      omega
    have n0 := nums_1 (n := a.toNat) (by omega)
    have n1 := nums_1 (n := b.toNat) (by omega)
    have n2 := nums_1 (n := c.toNat) (by omega)
    have n3 := nums_1 (n := e.toNat) (by omega)
    have n4 := nums_1 (n := f.toNat) (by omega)
    have z0 := numT_size hN
    have z1 := numT_size (nums_app hN n0)
    have z2 := numT_size (nums_app (nums_app hN n0) n1)
    have z3 := numT_size (nums_app (nums_app (nums_app hN n0) n1) n2)
    have z4 := numT_size (nums_app (nums_app (nums_app (nums_app hN n0) n1) n2) n3)
    have y0 := numT_size n0
    have y1 := numT_size n1
    have y2 := numT_size n2
    have y3 := numT_size n3
    have y4 := numT_size n4
    generalize hQ : A ++ flatL five (P.take j) = Q at *
    simp only [List.length_append, List.length_cons, List.length_nil] at z1 z2 z3 z4 y0 y1 y2 y3 y4
    simp only [c0, hlt, h5, ↓reduceIte, Int.toNat_natCast, show el (.pair (.int .i64) (.pair (.int .i64) (.pair (.int .i64) (.pair (.int .i64) (.int .i64))))) P j = (a, b, c, e, f) from hxe, var_nn hk ha, var_nn hk hb, var_nn hk hc, var_nn hk he, var_nn hk hf, Option.bind_some, numT_app]
    rw [if_pos (by omega), if_pos (by omega), if_pos (by omega), if_pos (by omega), if_pos (by omega)]
    refine ih (d - 1) _ (by omega) ⟨j + 1, ?_, by omega, hN', hL'⟩
    rw [nx, ← List.append_assoc, hQ]
    simp only [five, List.map_cons, List.map_nil, List.append_assoc, List.cons_append, List.nil_append]
  · have hje : j = P.length := by omega
    subst hje
    rw [List.take_length] at hN hL ⊢
    have zn := numT_size (nums_1 (n := U.length) (by have := ru.2; omega))
    rw [List.length_cons, List.length_nil] at zn
    have z := numT_size hN
    rw [varN_s hk (show U.length ≤ 1000000000 by have := ru.2; omega)]
    refine ok_let (ok_grd (by omega) ?_)
    rw [numT_app, st4_s (A := A ++ flatL five P ++ [U.length]) hk ru hc h4 (nums_app hN (nums_1 (by have := ru.2; omega))) (by simp only [List.length_append, List.length_cons, List.length_nil] at hL ⊢; omega)]
    exact ok_some (by simp only [List.append_assoc])
theorem st2_s {k : Nat} {R W : List (Int × Int)} {P : List Port5} {U : List (Int × Int × Int)} {C : List ByteArray} {A : List Nat} {n : Int} (hk : 1048576 < k) (pl : PlanOk W) (po : PortsOk P) (ru : RulesOk U) (hc : CodesOk C n) (h4 : C.length ≤ 4) (hA : Nums A) (hl : A.length ≤ 200 - 81) : spec_SetupText.l2 k k (numT A, 0, R, W, P, U, C, ()) = some (numT (A ++ flatL two W ++ [P.length] ++ flatL five P ++ [U.length] ++ flatL three U) ++ codesT C, true) := by
  refine ok_eq ?_
  have hmx := pl.2.2
  refine ok_loop (L := spec_SetupText.l2 k) (I := fun d t => ∃ j : Nat, t = (numT (A ++ flatL two (W.take j)), (j : Int), R, W, P, U, C, ()) ∧ j + d = W.length ∧ Nums (A ++ flatL two (W.take j)) ∧ (A ++ flatL two (W.take j)).length ≤ A.length + 2 * j) ?_ k W.length _ (by omega) ⟨0, by rw [List.take_zero, flatL, List.append_nil]; rfl, by omega, by rw [List.take_zero, flatL, List.append_nil]; exact hA, by rw [List.take_zero, flatL, List.append_nil]; omega⟩
  rintro d m t ⟨j, rfl, hd, hN, hL⟩ ih
  rw [spec_SetupText.l2]
  refine ok_if (fun hlt => ?_) (fun hge => ?_)
  · have hj : j < W.length := by omega
    have hx := el_lt (t := W2) hj
    have hnn := win_nn pl hj
    obtain ⟨a, b, hxe⟩ : ∃ a b : Int, el W2 W j = (a, b) := ⟨_, _, rfl⟩
    rw [hxe] at hx hnn
    have ha := hnn a (by simp)
    have hb := hnn b (by simp)
    have c0 : (0 : Int) ≤ (j : Int) := by omega
    have h5 : w64 ((j : Int) + 1) = ((j + 1 : Nat) : Int) := w64_id (by omega) (by omega)
    have nx := flatL_next (f := two) hx
    have hN' : Nums (A ++ flatL two (W.take (j + 1))) := by
      rw [nx, ← List.append_assoc]
      exact nums_app hN (nums_toNat hnn)
    have hL' : (A ++ flatL two (W.take (j + 1))).length ≤ A.length + 2 * (j + 1) := by
      rw [nx, ← List.append_assoc, List.length_append]
      show _ + 2 ≤ _
      omega
    have n0 := nums_1 (n := a.toNat) (by omega)
    have n1 := nums_1 (n := b.toNat) (by omega)
    have z0 := numT_size hN
    have z1 := numT_size (nums_app hN n0)
    have y0 := numT_size n0
    have y1 := numT_size n1
    generalize hQ : A ++ flatL two (W.take j) = Q at *
    simp only [List.length_append, List.length_cons, List.length_nil] at z1 y0 y1
    simp only [c0, hlt, h5, ↓reduceIte, Int.toNat_natCast, show el (.pair (.int .i64) (.int .i64)) W j = (a, b) from hxe, var_nn hk ha, var_nn hk hb, Option.bind_some, numT_app]
    rw [if_pos (by omega), if_pos (by omega)]
    refine ih (d - 1) _ (by omega) ⟨j + 1, ?_, by omega, hN', hL'⟩
    rw [nx, ← List.append_assoc, hQ]
    simp only [two, List.map_cons, List.map_nil, List.append_assoc, List.cons_append, List.nil_append]
  · have hje : j = W.length := by omega
    subst hje
    rw [List.take_length] at hN hL ⊢
    have zn := numT_size (nums_1 (n := P.length) (by have := po.2; omega))
    rw [List.length_cons, List.length_nil] at zn
    have z := numT_size hN
    rw [varN_s hk (show P.length ≤ 1000000000 by have := po.2; omega)]
    refine ok_let (ok_grd (by omega) ?_)
    rw [numT_app, st3_s (A := A ++ flatL two W ++ [P.length]) hk po ru hc h4 (nums_app hN (nums_1 (by have := po.2; omega))) (by simp only [List.length_append, List.length_cons, List.length_nil] at hL ⊢; omega)]
    exact ok_some (by simp only [List.append_assoc])
theorem st1_s {k : Nat} {R W : List (Int × Int)} {P : List Port5} {U : List (Int × Int × Int)} {C : List ByteArray} {A : List Nat} {n : Int} (hk : 1048576 < k) (rg : RegionsOk R) (pl : PlanOk W) (po : PortsOk P) (ru : RulesOk U) (hc : CodesOk C n) (h4 : C.length ≤ 4) (hA : Nums A) (hl : A.length ≤ 200 - 90) : spec_SetupText.l1 k k (numT A, 0, R, W, P, U, C, ()) = some (numT (A ++ flatL two R ++ [W.length] ++ flatL two W ++ [P.length] ++ flatL five P ++ [U.length] ++ flatL three U) ++ codesT C, true) := by
  refine ok_eq ?_
  have hmx := rg.2.2
  refine ok_loop (L := spec_SetupText.l1 k) (I := fun d t => ∃ j : Nat, t = (numT (A ++ flatL two (R.take j)), (j : Int), R, W, P, U, C, ()) ∧ j + d = R.length ∧ Nums (A ++ flatL two (R.take j)) ∧ (A ++ flatL two (R.take j)).length ≤ A.length + 2 * j) ?_ k R.length _ (by omega) ⟨0, by rw [List.take_zero, flatL, List.append_nil]; rfl, by omega, by rw [List.take_zero, flatL, List.append_nil]; exact hA, by rw [List.take_zero, flatL, List.append_nil]; omega⟩
  rintro d m t ⟨j, rfl, hd, hN, hL⟩ ih
  rw [spec_SetupText.l1]
  refine ok_if (fun hlt => ?_) (fun hge => ?_)
  · have hj : j < R.length := by omega
    have hx := el_lt (t := W2) hj
    have hnn := reg_nn rg hj
    obtain ⟨a, b, hxe⟩ : ∃ a b : Int, el W2 R j = (a, b) := ⟨_, _, rfl⟩
    rw [hxe] at hx hnn
    have ha := hnn a (by simp)
    have hb := hnn b (by simp)
    have c0 : (0 : Int) ≤ (j : Int) := by omega
    have h5 : w64 ((j : Int) + 1) = ((j + 1 : Nat) : Int) := w64_id (by omega) (by omega)
    have nx := flatL_next (f := two) hx
    have hN' : Nums (A ++ flatL two (R.take (j + 1))) := by
      rw [nx, ← List.append_assoc]
      exact nums_app hN (nums_toNat hnn)
    have hL' : (A ++ flatL two (R.take (j + 1))).length ≤ A.length + 2 * (j + 1) := by
      rw [nx, ← List.append_assoc, List.length_append]
      show _ + 2 ≤ _
      omega
    have n0 := nums_1 (n := a.toNat) (by omega)
    have n1 := nums_1 (n := b.toNat) (by omega)
    have z0 := numT_size hN
    have z1 := numT_size (nums_app hN n0)
    have y0 := numT_size n0
    have y1 := numT_size n1
    generalize hQ : A ++ flatL two (R.take j) = Q at *
    simp only [List.length_append, List.length_cons, List.length_nil] at z1 y0 y1
    simp only [c0, hlt, h5, ↓reduceIte, Int.toNat_natCast, show el (.pair (.int .i64) (.int .i64)) R j = (a, b) from hxe, var_nn hk ha, var_nn hk hb, Option.bind_some, numT_app]
    rw [if_pos (by omega), if_pos (by omega)]
    refine ih (d - 1) _ (by omega) ⟨j + 1, ?_, by omega, hN', hL'⟩
    rw [nx, ← List.append_assoc, hQ]
    simp only [two, List.map_cons, List.map_nil, List.append_assoc, List.cons_append, List.nil_append]
  · have hje : j = R.length := by omega
    subst hje
    rw [List.take_length] at hN hL ⊢
    have zn := numT_size (nums_1 (n := W.length) (by have := pl.2.2; omega))
    rw [List.length_cons, List.length_nil] at zn
    have z := numT_size hN
    rw [varN_s hk (show W.length ≤ 1000000000 by have := pl.2.2; omega)]
    refine ok_let (ok_grd (by omega) ?_)
    rw [numT_app, st2_s (A := A ++ flatL two R ++ [W.length]) hk pl po ru hc h4 (nums_app hN (nums_1 (by have := pl.2.2; omega))) (by simp only [List.length_append, List.length_cons, List.length_nil] at hL ⊢; omega)]
    exact ok_some (by simp only [List.append_assoc])
theorem text_s {k : Nat} {s : Setup} (hs : Small s) (hk : 1048576 < k) : spec_SetupText.f k s = some (setupTextM s) := by
  refine ok_eq ?_
  unfold spec_SetupText.f setupTextM
  rw [fault_s hs hk]
  refine ok_let (ok_if (fun h => ok_some (by rw [if_neg h])) (fun h => ?_))
  have h0 := Classical.not_not.1 h
  obtain ⟨rg, pl, po, ru, co, pa⟩ := right_of h0
  rw [if_pos h0]
  obtain ⟨R, W, P, U, C⟩ := s
  unfold setupT numsOf
  simp only at rg pl po ru co pa ⊢
  have c4 : C.length ≤ 4 := by
    have h1 := co.2
    have h2 := rg.2.2
    omega
  rw [varN_s hk (show R.length ≤ 1000000000 by have := rg.2.2; omega)]
  refine ok_let ?_
  rw [st1_s (A := [R.length]) hk rg pl po ru co c4 (nums_1 (by have := rg.2.2; omega)) (by simp)]
  exact ok_some rfl
/-! ### the program -/
theorem short_i {k : Nat} {c : ByteArray} (hk : 1048576 < k) (h : c.size ≤ 120) : impl_ShortText.f k c = some (numT [c.size] ++ c, true) := by
  have z := numT_size (nums_1 (n := c.size) (by omega))
  rw [List.length_cons, List.length_nil] at z
  unfold impl_ShortText.f
  rw [if_neg (by omega), var_i hk (by omega), numT_1]
  simp only [Option.bind_some]
  rw [if_pos (by omega)]
theorem st5_i {k : Nat} {C : List ByteArray} {T : ByteArray} {n : Int} (hk : 1048576 < k) (hc : CodesOk C n) (h4 : C.length ≤ 4) (hT : T.size ≤ 10000) : impl_SetupText.l5 k k (T, (C.length : Int), 0, C, ()) = some (T ++ codesT C, true) := by
  refine ok_eq ?_
  refine ok_loop (L := impl_SetupText.l5 k) (I := fun d t => ∃ j : Nat, t = (T ++ codesT (C.take j), (C.length : Int), (j : Int), C, ()) ∧ j + d = C.length ∧ (codesT (C.take j)).size ≤ 130 * j) ?_ k C.length _ (by omega) ⟨0, by rw [List.take_zero, codesT, show (⟨#[]⟩ : ByteArray) = ByteArray.empty from rfl, ByteArray.append_empty]; rfl, by omega, by rw [List.take_zero, codesT]; exact Nat.zero_le _⟩
  rintro d m t ⟨j, rfl, hd, hz⟩ ih
  rw [impl_SetupText.l5]
  refine ok_if (fun hlt => ?_) (fun hge => ok_some ?_)
  · have hj : j < C.length := by omega
    have hx := el_lt (t := .str) hj
    have hr := hc.1 j hj
    have nx := codesT_next hx
    obtain ⟨c, hce⟩ : ∃ c : ByteArray, el .str C j = c := ⟨_, rfl⟩
    rw [hce] at hr nx
    have h120 := hr.2
    have c0 : (0 : Int) ≤ (j : Int) := by omega
    have h5 : w64 ((j : Int) + 1) = ((j + 1 : Nat) : Int) := w64_id (by omega) (by omega)
    have z := numT_size (nums_1 (n := c.size) (by omega))
    rw [List.length_cons, List.length_nil] at z
    have hz' : (codesT (C.take (j + 1))).size ≤ 130 * (j + 1) := by
      rw [nx, ByteArray.size_append, ByteArray.size_append]
      omega
    simp only [c0, hlt, h5, ↓reduceIte, Int.toNat_natCast, hce, short_i hk h120, Option.bind_some, ByteArray.size_append]
    rw [if_pos (by omega)]
    refine ih (d - 1) _ (by omega) ⟨j + 1, ?_, by omega, hz'⟩
    rw [nx]
    simp only [ByteArray.append_assoc]
  · rw [List.take_of_length_le (by omega)]
theorem st4_i {k : Nat} {R W : List (Int × Int)} {P : List Port5} {U : List (Int × Int × Int)} {C : List ByteArray} {A : List Nat} {n : Int} (hk : 1048576 < k) (ru : RulesOk U) (hc : CodesOk C n) (h4 : C.length ≤ 4) (hA : Nums A) (hl : A.length ≤ 200 - 25) : impl_SetupText.l4 k k (numT A, (U.length : Int), 0, R, W, P, U, C, ()) = some (numT (A ++ flatL three U) ++ codesT C, true) := by
  refine ok_eq ?_
  have hmx := ru.2
  refine ok_loop (L := impl_SetupText.l4 k) (I := fun d t => ∃ j : Nat, t = (numT (A ++ flatL three (U.take j)), (U.length : Int), (j : Int), R, W, P, U, C, ()) ∧ j + d = U.length ∧ Nums (A ++ flatL three (U.take j)) ∧ (A ++ flatL three (U.take j)).length ≤ A.length + 3 * j) ?_ k U.length _ (by omega) ⟨0, by rw [List.take_zero, flatL, List.append_nil]; rfl, by omega, by rw [List.take_zero, flatL, List.append_nil]; exact hA, by rw [List.take_zero, flatL, List.append_nil]; omega⟩
  rintro d m t ⟨j, rfl, hd, hN, hL⟩ ih
  rw [impl_SetupText.l4]
  refine ok_if (fun hlt => ?_) (fun hge => ?_)
  · have hj : j < U.length := by omega
    have hx := el_lt (t := R3) hj
    have hnn := rule_nn ru hj
    obtain ⟨a, b, c, hxe⟩ : ∃ a b c : Int, el R3 U j = (a, b, c) := ⟨_, _, _, rfl⟩
    rw [hxe] at hx hnn
    have ha := hnn a (by simp)
    have hb := hnn b (by simp)
    have hc := hnn c (by simp)
    have c0 : (0 : Int) ≤ (j : Int) := by omega
    have h5 : w64 ((j : Int) + 1) = ((j + 1 : Nat) : Int) := w64_id (by omega) (by omega)
    have nx := flatL_next (f := three) hx
    have hN' : Nums (A ++ flatL three (U.take (j + 1))) := by
      rw [nx, ← List.append_assoc]
      exact nums_app hN (nums_toNat hnn)
    have hL' : (A ++ flatL three (U.take (j + 1))).length ≤ A.length + 3 * (j + 1) := by
      rw [nx, ← List.append_assoc, List.length_append]
      show _ + 3 ≤ _
      omega
    have z0 := numT_size hN
    have zz := numT_size (nums_toNat hnn)
    rw [List.length_map] at zz
    simp only [List.length_cons, List.length_nil] at zz
    generalize hQ : A ++ flatL three (U.take j) = Q at *
    simp only [c0, hlt, h5, ↓reduceIte, Int.toNat_natCast, show el (.pair (.int .i64) (.pair (.int .i64) (.int .i64))) U j = (a, b, c) from hxe, nums_nn hk (show [a, b, c].length ≤ 1000 by simp) hnn, Option.bind_some, numT_app]
    rw [if_pos (by omega)]
    refine ih (d - 1) _ (by omega) ⟨j + 1, ?_, by omega, hN', hL'⟩
    rw [nx, ← List.append_assoc, hQ]
    simp only [three, List.map_cons, List.map_nil, List.append_assoc, List.cons_append, List.nil_append]
  · have hje : j = U.length := by omega
    subst hje
    rw [List.take_length] at hN hL ⊢
    have z := numT_size hN
    rw [st5_i hk hc h4 (by simp only [List.length_append] at hL z; omega)]
    exact ok_some rfl
theorem st3_i {k : Nat} {R W : List (Int × Int)} {P : List Port5} {U : List (Int × Int × Int)} {C : List ByteArray} {A : List Nat} {n : Int} (hk : 1048576 < k) (po : PortsOk P) (ru : RulesOk U) (hc : CodesOk C n) (h4 : C.length ≤ 4) (hA : Nums A) (hl : A.length ≤ 200 - 56) : impl_SetupText.l3 k k (numT A, (P.length : Int), 0, R, W, P, U, C, ()) = some (numT (A ++ flatL five P ++ [U.length] ++ flatL three U) ++ codesT C, true) := by
  refine ok_eq ?_
  have hmx := po.2
  refine ok_loop (L := impl_SetupText.l3 k) (I := fun d t => ∃ j : Nat, t = (numT (A ++ flatL five (P.take j)), (P.length : Int), (j : Int), R, W, P, U, C, ()) ∧ j + d = P.length ∧ Nums (A ++ flatL five (P.take j)) ∧ (A ++ flatL five (P.take j)).length ≤ A.length + 5 * j) ?_ k P.length _ (by omega) ⟨0, by rw [List.take_zero, flatL, List.append_nil]; rfl, by omega, by rw [List.take_zero, flatL, List.append_nil]; exact hA, by rw [List.take_zero, flatL, List.append_nil]; omega⟩
  rintro d m t ⟨j, rfl, hd, hN, hL⟩ ih
  rw [impl_SetupText.l3]
  refine ok_if (fun hlt => ?_) (fun hge => ?_)
  · have hj : j < P.length := by omega
    have hx := el_lt (t := P5) hj
    have hnn := port_nn po hj
    obtain ⟨a, b, c, e, f, hxe⟩ : ∃ a b c e f : Int, el P5 P j = (a, b, c, e, f) := ⟨_, _, _, _, _, rfl⟩
    rw [hxe] at hx hnn
    have ha := hnn a (by simp)
    have hb := hnn b (by simp)
    have hc := hnn c (by simp)
    have he := hnn e (by simp)
    have hf := hnn f (by simp)
    have c0 : (0 : Int) ≤ (j : Int) := by omega
    have h5 : w64 ((j : Int) + 1) = ((j + 1 : Nat) : Int) := w64_id (by omega) (by omega)
    have nx := flatL_next (f := five) hx
    have hN' : Nums (A ++ flatL five (P.take (j + 1))) := by
      rw [nx, ← List.append_assoc]
      exact nums_app hN (nums_toNat hnn)
    have hL' : (A ++ flatL five (P.take (j + 1))).length ≤ A.length + 5 * (j + 1) := by
      rw [nx, ← List.append_assoc, List.length_append]
      show _ + 5 ≤ _
      omega
    have z0 := numT_size hN
    have zz := numT_size (nums_toNat hnn)
    rw [List.length_map] at zz
    simp only [List.length_cons, List.length_nil] at zz
    generalize hQ : A ++ flatL five (P.take j) = Q at *
    simp only [c0, hlt, h5, ↓reduceIte, Int.toNat_natCast, show el (.pair (.int .i64) (.pair (.int .i64) (.pair (.int .i64) (.pair (.int .i64) (.int .i64))))) P j = (a, b, c, e, f) from hxe, nums_nn hk (show [a, b, c, e, f].length ≤ 1000 by simp) hnn, Option.bind_some, numT_app]
    rw [if_pos (by omega)]
    refine ih (d - 1) _ (by omega) ⟨j + 1, ?_, by omega, hN', hL'⟩
    rw [nx, ← List.append_assoc, hQ]
    simp only [five, List.map_cons, List.map_nil, List.append_assoc, List.cons_append, List.nil_append]
  · have hje : j = P.length := by omega
    subst hje
    rw [List.take_length] at hN hL ⊢
    have zn := numT_size (nums_1 (n := U.length) (by have := ru.2; omega))
    rw [List.length_cons, List.length_nil] at zn
    have z := numT_size hN
    refine ok_let ?_
    rw [show impl_numbers.f k [(U.length : Int)] = _ from len1 hk (show U.length ≤ 1000 by have := ru.2; omega)]
    refine ok_let (ok_grd (by omega) ?_)
    rw [numT_app, st4_i (A := A ++ flatL five P ++ [U.length]) hk ru hc h4 (nums_app hN (nums_1 (by have := ru.2; omega))) (by simp only [List.length_append, List.length_cons, List.length_nil] at hL ⊢; omega)]
    exact ok_some (by simp only [List.append_assoc])
theorem st2_i {k : Nat} {R W : List (Int × Int)} {P : List Port5} {U : List (Int × Int × Int)} {C : List ByteArray} {A : List Nat} {n : Int} (hk : 1048576 < k) (pl : PlanOk W) (po : PortsOk P) (ru : RulesOk U) (hc : CodesOk C n) (h4 : C.length ≤ 4) (hA : Nums A) (hl : A.length ≤ 200 - 81) : impl_SetupText.l2 k k (numT A, (W.length : Int), 0, R, W, P, U, C, ()) = some (numT (A ++ flatL two W ++ [P.length] ++ flatL five P ++ [U.length] ++ flatL three U) ++ codesT C, true) := by
  refine ok_eq ?_
  have hmx := pl.2.2
  refine ok_loop (L := impl_SetupText.l2 k) (I := fun d t => ∃ j : Nat, t = (numT (A ++ flatL two (W.take j)), (W.length : Int), (j : Int), R, W, P, U, C, ()) ∧ j + d = W.length ∧ Nums (A ++ flatL two (W.take j)) ∧ (A ++ flatL two (W.take j)).length ≤ A.length + 2 * j) ?_ k W.length _ (by omega) ⟨0, by rw [List.take_zero, flatL, List.append_nil]; rfl, by omega, by rw [List.take_zero, flatL, List.append_nil]; exact hA, by rw [List.take_zero, flatL, List.append_nil]; omega⟩
  rintro d m t ⟨j, rfl, hd, hN, hL⟩ ih
  rw [impl_SetupText.l2]
  refine ok_if (fun hlt => ?_) (fun hge => ?_)
  · have hj : j < W.length := by omega
    have hx := el_lt (t := W2) hj
    have hnn := win_nn pl hj
    obtain ⟨a, b, hxe⟩ : ∃ a b : Int, el W2 W j = (a, b) := ⟨_, _, rfl⟩
    rw [hxe] at hx hnn
    have ha := hnn a (by simp)
    have hb := hnn b (by simp)
    have c0 : (0 : Int) ≤ (j : Int) := by omega
    have h5 : w64 ((j : Int) + 1) = ((j + 1 : Nat) : Int) := w64_id (by omega) (by omega)
    have nx := flatL_next (f := two) hx
    have hN' : Nums (A ++ flatL two (W.take (j + 1))) := by
      rw [nx, ← List.append_assoc]
      exact nums_app hN (nums_toNat hnn)
    have hL' : (A ++ flatL two (W.take (j + 1))).length ≤ A.length + 2 * (j + 1) := by
      rw [nx, ← List.append_assoc, List.length_append]
      show _ + 2 ≤ _
      omega
    have z0 := numT_size hN
    have zz := numT_size (nums_toNat hnn)
    rw [List.length_map] at zz
    simp only [List.length_cons, List.length_nil] at zz
    generalize hQ : A ++ flatL two (W.take j) = Q at *
    simp only [c0, hlt, h5, ↓reduceIte, Int.toNat_natCast, show el (.pair (.int .i64) (.int .i64)) W j = (a, b) from hxe, nums_nn hk (show [a, b].length ≤ 1000 by simp) hnn, Option.bind_some, numT_app]
    rw [if_pos (by omega)]
    refine ih (d - 1) _ (by omega) ⟨j + 1, ?_, by omega, hN', hL'⟩
    rw [nx, ← List.append_assoc, hQ]
    simp only [two, List.map_cons, List.map_nil, List.append_assoc, List.cons_append, List.nil_append]
  · have hje : j = W.length := by omega
    subst hje
    rw [List.take_length] at hN hL ⊢
    have zn := numT_size (nums_1 (n := P.length) (by have := po.2; omega))
    rw [List.length_cons, List.length_nil] at zn
    have z := numT_size hN
    refine ok_let ?_
    rw [show impl_numbers.f k [(P.length : Int)] = _ from len1 hk (show P.length ≤ 1000 by have := po.2; omega)]
    refine ok_let (ok_grd (by omega) ?_)
    rw [numT_app, st3_i (A := A ++ flatL two W ++ [P.length]) hk po ru hc h4 (nums_app hN (nums_1 (by have := po.2; omega))) (by simp only [List.length_append, List.length_cons, List.length_nil] at hL ⊢; omega)]
    exact ok_some (by simp only [List.append_assoc])
theorem st1_i {k : Nat} {R W : List (Int × Int)} {P : List Port5} {U : List (Int × Int × Int)} {C : List ByteArray} {A : List Nat} {n : Int} (hk : 1048576 < k) (rg : RegionsOk R) (pl : PlanOk W) (po : PortsOk P) (ru : RulesOk U) (hc : CodesOk C n) (h4 : C.length ≤ 4) (hA : Nums A) (hl : A.length ≤ 200 - 90) : impl_SetupText.l1 k k (numT A, (R.length : Int), 0, R, W, P, U, C, ()) = some (numT (A ++ flatL two R ++ [W.length] ++ flatL two W ++ [P.length] ++ flatL five P ++ [U.length] ++ flatL three U) ++ codesT C, true) := by
  refine ok_eq ?_
  have hmx := rg.2.2
  refine ok_loop (L := impl_SetupText.l1 k) (I := fun d t => ∃ j : Nat, t = (numT (A ++ flatL two (R.take j)), (R.length : Int), (j : Int), R, W, P, U, C, ()) ∧ j + d = R.length ∧ Nums (A ++ flatL two (R.take j)) ∧ (A ++ flatL two (R.take j)).length ≤ A.length + 2 * j) ?_ k R.length _ (by omega) ⟨0, by rw [List.take_zero, flatL, List.append_nil]; rfl, by omega, by rw [List.take_zero, flatL, List.append_nil]; exact hA, by rw [List.take_zero, flatL, List.append_nil]; omega⟩
  rintro d m t ⟨j, rfl, hd, hN, hL⟩ ih
  rw [impl_SetupText.l1]
  refine ok_if (fun hlt => ?_) (fun hge => ?_)
  · have hj : j < R.length := by omega
    have hx := el_lt (t := W2) hj
    have hnn := reg_nn rg hj
    obtain ⟨a, b, hxe⟩ : ∃ a b : Int, el W2 R j = (a, b) := ⟨_, _, rfl⟩
    rw [hxe] at hx hnn
    have ha := hnn a (by simp)
    have hb := hnn b (by simp)
    have c0 : (0 : Int) ≤ (j : Int) := by omega
    have h5 : w64 ((j : Int) + 1) = ((j + 1 : Nat) : Int) := w64_id (by omega) (by omega)
    have nx := flatL_next (f := two) hx
    have hN' : Nums (A ++ flatL two (R.take (j + 1))) := by
      rw [nx, ← List.append_assoc]
      exact nums_app hN (nums_toNat hnn)
    have hL' : (A ++ flatL two (R.take (j + 1))).length ≤ A.length + 2 * (j + 1) := by
      rw [nx, ← List.append_assoc, List.length_append]
      show _ + 2 ≤ _
      omega
    have z0 := numT_size hN
    have zz := numT_size (nums_toNat hnn)
    rw [List.length_map] at zz
    simp only [List.length_cons, List.length_nil] at zz
    generalize hQ : A ++ flatL two (R.take j) = Q at *
    simp only [c0, hlt, h5, ↓reduceIte, Int.toNat_natCast, show el (.pair (.int .i64) (.int .i64)) R j = (a, b) from hxe, nums_nn hk (show [a, b].length ≤ 1000 by simp) hnn, Option.bind_some, numT_app]
    rw [if_pos (by omega)]
    refine ih (d - 1) _ (by omega) ⟨j + 1, ?_, by omega, hN', hL'⟩
    rw [nx, ← List.append_assoc, hQ]
    simp only [two, List.map_cons, List.map_nil, List.append_assoc, List.cons_append, List.nil_append]
  · have hje : j = R.length := by omega
    subst hje
    rw [List.take_length] at hN hL ⊢
    have zn := numT_size (nums_1 (n := W.length) (by have := pl.2.2; omega))
    rw [List.length_cons, List.length_nil] at zn
    have z := numT_size hN
    refine ok_let ?_
    rw [show impl_numbers.f k [(W.length : Int)] = _ from len1 hk (show W.length ≤ 1000 by have := pl.2.2; omega)]
    refine ok_let (ok_grd (by omega) ?_)
    rw [numT_app, st2_i (A := A ++ flatL two R ++ [W.length]) hk pl po ru hc h4 (nums_app hN (nums_1 (by have := pl.2.2; omega))) (by simp only [List.length_append, List.length_cons, List.length_nil] at hL ⊢; omega)]
    exact ok_some (by simp only [List.append_assoc])
theorem text_i {k : Nat} {s : Setup} (hs : Small s) (hk : 1048576 < k) : impl_SetupText.f k s = some (setupTextM s) := by
  refine ok_eq ?_
  unfold impl_SetupText.f setupTextM
  rw [fault_i hs hk]
  refine ok_let (ok_if (fun h => ok_some (by rw [if_neg h])) (fun h => ?_))
  have h0 := Classical.not_not.1 h
  obtain ⟨rg, pl, po, ru, co, pa⟩ := right_of h0
  rw [if_pos h0]
  obtain ⟨R, W, P, U, C⟩ := s
  unfold setupT numsOf
  simp only at rg pl po ru co pa ⊢
  have c4 : C.length ≤ 4 := by
    have h1 := co.2
    have h2 := rg.2.2
    omega
  refine ok_let ?_
  rw [show impl_numbers.f k [(R.length : Int)] = _ from len1 hk (show R.length ≤ 1000 by have := rg.2.2; omega)]
  refine ok_let ?_
  rw [st1_i (A := [R.length]) hk rg pl po ru co c4 (nums_1 (by have := rg.2.2; omega)) (by simp)]
  exact ok_some rfl
end Go.Proofs.Ytcnaldcinkmpbaa.Pure
