/- What the laws' own copies, comparisons and marks tell. No condition. -/
import Derived.Test.YtacpibmmodeacaaUWords
import Derived.Test.YtacpibmmodeacaaQA
namespace Go.Proofs.Ytacpibmmodeacaa.Pure
open Go Go.Proofs.YtacpibmmodeacaaA Go.Proofs.YtacpibmmodeacaaU Go.Proofs.Ytacpibmmodeacaa.QA
set_option linter.unusedVariables false
set_option linter.unusedSimpArgs false
theorem w64_id {z : Int} (h1 : -9223372036854775808 ≤ z) (h2 : z < 9223372036854775808) : w64 z = z := w_id h1 h2
theorem toIntS_f {k : Nat} {xs : List Int} (hl : xs.length ≤ 1048576) (hk : 1048576 < k) : laws_toIntS.f k xs = some xs := by
  have l : ∀ (d j n : Nat), j + d = xs.length → d < n → laws_toIntS.l1 k n ((j : Int), xs, xs.take j ++ List.replicate d ((0 : Int)), ()) = some xs := by
    intro d
    induction d with
    | zero =>
      intro j n hj hn
      obtain ⟨n, rfl⟩ : ∃ n', n = n' + 1 := ⟨n - 1, by omega⟩
      rw [List.replicate_zero, List.append_nil, List.take_of_length_le (by omega), laws_toIntS.l1, if_neg (by omega)]
    | succ d ih =>
      intro j n hj hn
      obtain ⟨n, rfl⟩ : ∃ n', n = n' + 1 := ⟨n - 1, by omega⟩
      have h0 : (0 : Int) ≤ (j : Int) := by omega
      have h1 : (j : Int) < (xs.length : Int) := by omega
      have h2 : (xs.take j ++ List.replicate (d + 1) ((0 : Int))).length = xs.length := len_copy hj
      have h3 := set_copy (el_lt (t := (.int .i64)) (xs := xs) (i := j) (by omega)) hj (z := ((0 : Int)))
      have h4 : w64 ((j : Int) + 1) = ((j + 1 : Nat) : Int) := w_id (z := (j : Int) + 1) (by omega) (by omega)
      simp only [laws_toIntS.l1, h0, h1, h2, h4, ↓reduceIte, Option.bind_some, Int.toNat_natCast]
      rw [h3]
      exact ih (j + 1) n (by omega) (by omega)
  have := l xs.length 0 k (by omega) (by omega)
  unfold laws_toIntS.f
  rw [if_pos rfl, if_pos (by omega), if_pos (by simp only [Int.toNat_natCast]; omega)]
  simpa using this
theorem eqIntS_f {k : Nat} {xs : List Int} (hl : xs.length ≤ 1048576) (hk : 1048576 < k) : laws_eqIntS.f k xs xs = some true := by
  have l : ∀ (d j n : Nat), j + d = xs.length → d < n → laws_eqIntS.l1 k n ((j : Int), xs, xs, ()) = some true := by
    intro d
    induction d with
    | zero =>
      intro j n hj hn
      obtain ⟨n, rfl⟩ : ∃ n', n = n' + 1 := ⟨n - 1, by omega⟩
      rw [laws_eqIntS.l1, if_neg (by omega)]
    | succ d ih =>
      intro j n hj hn
      obtain ⟨n, rfl⟩ : ∃ n', n = n' + 1 := ⟨n - 1, by omega⟩
      have h0 : (0 : Int) ≤ (j : Int) := by omega
      have h1 : (j : Int) < (xs.length : Int) := by omega
      have h4 : w64 ((j : Int) + 1) = ((j + 1 : Nat) : Int) := w_id (z := (j : Int) + 1) (by omega) (by omega)
      simp only [laws_eqIntS.l1, h0, h1, h4, ↓reduceIte, Option.bind_some, Int.toNat_natCast, not_true_eq_false]
      exact ih (j + 1) n (by omega) (by omega)
  have := l xs.length 0 k (by omega) (by omega)
  unfold laws_eqIntS.f
  rw [if_neg (fun h => h rfl)]
  exact this
theorem szIntS_f {k : Nat} {xs : List Int} {left : Int} (hx : xs.length ≤ 9223372036854775807) (h0 : 0 ≤ left) (h1 : left ≤ 1048576) : Ok (laws_szIntS.f k xs left) (fun r => 0 ≤ r → r ≤ left ∧ xs.length ≤ 1048576) := by
  have h : w64 (left - (xs.length : Int)) = left - (xs.length : Int) := w_id (by omega) (by omega)
  unfold laws_szIntS.f
  rw [h]
  exact ok_if (fun _ => ok_some (fun h => by omega)) (fun _ => ok_some (fun _ => by omega))
theorem toRegionS_f {k : Nat} {xs : List (Int × Int)} (hl : xs.length ≤ 1048576) (hk : 1048576 < k) : laws_toRegionS.f k xs = some xs := by
  have l : ∀ (d j n : Nat), j + d = xs.length → d < n → laws_toRegionS.l1 k n ((j : Int), xs, xs.take j ++ List.replicate d ((0, 0) : Int × Int), ()) = some xs := by
    intro d
    induction d with
    | zero =>
      intro j n hj hn
      obtain ⟨n, rfl⟩ : ∃ n', n = n' + 1 := ⟨n - 1, by omega⟩
      rw [List.replicate_zero, List.append_nil, List.take_of_length_le (by omega), laws_toRegionS.l1, if_neg (by omega)]
    | succ d ih =>
      intro j n hj hn
      obtain ⟨n, rfl⟩ : ∃ n', n = n' + 1 := ⟨n - 1, by omega⟩
      have h0 : (0 : Int) ≤ (j : Int) := by omega
      have h1 : (j : Int) < (xs.length : Int) := by omega
      have h2 : (xs.take j ++ List.replicate (d + 1) ((0, 0) : Int × Int)).length = xs.length := len_copy hj
      have h3 := set_copy (el_lt (t := (.pair (.int .i64) (.int .i64))) (xs := xs) (i := j) (by omega)) hj (z := ((0, 0) : Int × Int))
      have h4 : w64 ((j : Int) + 1) = ((j + 1 : Nat) : Int) := w_id (z := (j : Int) + 1) (by omega) (by omega)
      simp only [laws_toRegionS.l1, laws_toRegion.f, h0, h1, h2, h4, ↓reduceIte, Option.bind_some, Int.toNat_natCast]
      rw [h3]
      exact ih (j + 1) n (by omega) (by omega)
  have := l xs.length 0 k (by omega) (by omega)
  unfold laws_toRegionS.f
  rw [if_pos rfl, if_pos (by omega), if_pos (by simp only [Int.toNat_natCast]; omega)]
  simpa using this
theorem eqRegion_f {k : Nat} {x : Int × Int} : laws_eqRegion.f k x x = some true := by
  simp only [laws_eqRegion.f, not_true_eq_false, ↓reduceIte]
theorem eqRegionS_f {k : Nat} {xs : List (Int × Int)} (hl : xs.length ≤ 1048576) (hk : 1048576 < k) : laws_eqRegionS.f k xs xs = some true := by
  have l : ∀ (d j n : Nat), j + d = xs.length → d < n → laws_eqRegionS.l1 k n ((j : Int), xs, xs, ()) = some true := by
    intro d
    induction d with
    | zero =>
      intro j n hj hn
      obtain ⟨n, rfl⟩ : ∃ n', n = n' + 1 := ⟨n - 1, by omega⟩
      rw [laws_eqRegionS.l1, if_neg (by omega)]
    | succ d ih =>
      intro j n hj hn
      obtain ⟨n, rfl⟩ : ∃ n', n = n' + 1 := ⟨n - 1, by omega⟩
      have h0 : (0 : Int) ≤ (j : Int) := by omega
      have h1 : (j : Int) < (xs.length : Int) := by omega
      have h4 : w64 ((j : Int) + 1) = ((j + 1 : Nat) : Int) := w_id (z := (j : Int) + 1) (by omega) (by omega)
      simp only [laws_eqRegionS.l1, eqRegion_f, h0, h1, h4, ↓reduceIte, Option.bind_some, Int.toNat_natCast, not_true_eq_false]
      exact ih (j + 1) n (by omega) (by omega)
  have := l xs.length 0 k (by omega) (by omega)
  unfold laws_eqRegionS.f
  rw [if_neg (fun h => h rfl)]
  exact this
theorem szRegionS_f {k : Nat} {xs : List (Int × Int)} {left : Int} (hx : xs.length ≤ 9223372036854775807) (h0 : 0 ≤ left) (h1 : left ≤ 1048576) : Ok (laws_szRegionS.f k xs left) (fun r => 0 ≤ r → r ≤ left ∧ xs.length ≤ 1048576) := by
  have h : w64 (left - (xs.length : Int)) = left - (xs.length : Int) := w_id (by omega) (by omega)
  unfold laws_szRegionS.f
  rw [h]
  exact ok_if (fun _ => ok_some (fun h => by omega)) (fun _ => ok_some (fun _ => by omega))
theorem toMsgS_f {k : Nat} {xs : List (Int × Int)} (hl : xs.length ≤ 1048576) (hk : 1048576 < k) : laws_toMsgS.f k xs = some xs := by
  have l : ∀ (d j n : Nat), j + d = xs.length → d < n → laws_toMsgS.l1 k n ((j : Int), xs, xs.take j ++ List.replicate d ((0, 0) : Int × Int), ()) = some xs := by
    intro d
    induction d with
    | zero =>
      intro j n hj hn
      obtain ⟨n, rfl⟩ : ∃ n', n = n' + 1 := ⟨n - 1, by omega⟩
      rw [List.replicate_zero, List.append_nil, List.take_of_length_le (by omega), laws_toMsgS.l1, if_neg (by omega)]
    | succ d ih =>
      intro j n hj hn
      obtain ⟨n, rfl⟩ : ∃ n', n = n' + 1 := ⟨n - 1, by omega⟩
      have h0 : (0 : Int) ≤ (j : Int) := by omega
      have h1 : (j : Int) < (xs.length : Int) := by omega
      have h2 : (xs.take j ++ List.replicate (d + 1) ((0, 0) : Int × Int)).length = xs.length := len_copy hj
      have h3 := set_copy (el_lt (t := (.pair (.int .i64) (.int .i64))) (xs := xs) (i := j) (by omega)) hj (z := ((0, 0) : Int × Int))
      have h4 : w64 ((j : Int) + 1) = ((j + 1 : Nat) : Int) := w_id (z := (j : Int) + 1) (by omega) (by omega)
      simp only [laws_toMsgS.l1, laws_toMsg.f, h0, h1, h2, h4, ↓reduceIte, Option.bind_some, Int.toNat_natCast]
      rw [h3]
      exact ih (j + 1) n (by omega) (by omega)
  have := l xs.length 0 k (by omega) (by omega)
  unfold laws_toMsgS.f
  rw [if_pos rfl, if_pos (by omega), if_pos (by simp only [Int.toNat_natCast]; omega)]
  simpa using this
theorem eqMsg_f {k : Nat} {x : Int × Int} : laws_eqMsg.f k x x = some true := by
  simp only [laws_eqMsg.f, not_true_eq_false, ↓reduceIte]
theorem eqMsgS_f {k : Nat} {xs : List (Int × Int)} (hl : xs.length ≤ 1048576) (hk : 1048576 < k) : laws_eqMsgS.f k xs xs = some true := by
  have l : ∀ (d j n : Nat), j + d = xs.length → d < n → laws_eqMsgS.l1 k n ((j : Int), xs, xs, ()) = some true := by
    intro d
    induction d with
    | zero =>
      intro j n hj hn
      obtain ⟨n, rfl⟩ : ∃ n', n = n' + 1 := ⟨n - 1, by omega⟩
      rw [laws_eqMsgS.l1, if_neg (by omega)]
    | succ d ih =>
      intro j n hj hn
      obtain ⟨n, rfl⟩ : ∃ n', n = n' + 1 := ⟨n - 1, by omega⟩
      have h0 : (0 : Int) ≤ (j : Int) := by omega
      have h1 : (j : Int) < (xs.length : Int) := by omega
      have h4 : w64 ((j : Int) + 1) = ((j + 1 : Nat) : Int) := w_id (z := (j : Int) + 1) (by omega) (by omega)
      simp only [laws_eqMsgS.l1, eqMsg_f, h0, h1, h4, ↓reduceIte, Option.bind_some, Int.toNat_natCast, not_true_eq_false]
      exact ih (j + 1) n (by omega) (by omega)
  have := l xs.length 0 k (by omega) (by omega)
  unfold laws_eqMsgS.f
  rw [if_neg (fun h => h rfl)]
  exact this
theorem szMsgS_f {k : Nat} {xs : List (Int × Int)} {left : Int} (hx : xs.length ≤ 9223372036854775807) (h0 : 0 ≤ left) (h1 : left ≤ 1048576) : Ok (laws_szMsgS.f k xs left) (fun r => 0 ≤ r → r ≤ left ∧ xs.length ≤ 1048576) := by
  have h : w64 (left - (xs.length : Int)) = left - (xs.length : Int) := w_id (by omega) (by omega)
  unfold laws_szMsgS.f
  rw [h]
  exact ok_if (fun _ => ok_some (fun h => by omega)) (fun _ => ok_some (fun _ => by omega))
theorem toWindowS_f {k : Nat} {xs : List (Int × Int)} (hl : xs.length ≤ 1048576) (hk : 1048576 < k) : laws_toWindowS.f k xs = some xs := by
  have l : ∀ (d j n : Nat), j + d = xs.length → d < n → laws_toWindowS.l1 k n ((j : Int), xs, xs.take j ++ List.replicate d ((0, 0) : Int × Int), ()) = some xs := by
    intro d
    induction d with
    | zero =>
      intro j n hj hn
      obtain ⟨n, rfl⟩ : ∃ n', n = n' + 1 := ⟨n - 1, by omega⟩
      rw [List.replicate_zero, List.append_nil, List.take_of_length_le (by omega), laws_toWindowS.l1, if_neg (by omega)]
    | succ d ih =>
      intro j n hj hn
      obtain ⟨n, rfl⟩ : ∃ n', n = n' + 1 := ⟨n - 1, by omega⟩
      have h0 : (0 : Int) ≤ (j : Int) := by omega
      have h1 : (j : Int) < (xs.length : Int) := by omega
      have h2 : (xs.take j ++ List.replicate (d + 1) ((0, 0) : Int × Int)).length = xs.length := len_copy hj
      have h3 := set_copy (el_lt (t := (.pair (.int .i64) (.int .i64))) (xs := xs) (i := j) (by omega)) hj (z := ((0, 0) : Int × Int))
      have h4 : w64 ((j : Int) + 1) = ((j + 1 : Nat) : Int) := w_id (z := (j : Int) + 1) (by omega) (by omega)
      simp only [laws_toWindowS.l1, laws_toWindow.f, h0, h1, h2, h4, ↓reduceIte, Option.bind_some, Int.toNat_natCast]
      rw [h3]
      exact ih (j + 1) n (by omega) (by omega)
  have := l xs.length 0 k (by omega) (by omega)
  unfold laws_toWindowS.f
  rw [if_pos rfl, if_pos (by omega), if_pos (by simp only [Int.toNat_natCast]; omega)]
  simpa using this
theorem eqWindow_f {k : Nat} {x : Int × Int} : laws_eqWindow.f k x x = some true := by
  simp only [laws_eqWindow.f, not_true_eq_false, ↓reduceIte]
theorem eqWindowS_f {k : Nat} {xs : List (Int × Int)} (hl : xs.length ≤ 1048576) (hk : 1048576 < k) : laws_eqWindowS.f k xs xs = some true := by
  have l : ∀ (d j n : Nat), j + d = xs.length → d < n → laws_eqWindowS.l1 k n ((j : Int), xs, xs, ()) = some true := by
    intro d
    induction d with
    | zero =>
      intro j n hj hn
      obtain ⟨n, rfl⟩ : ∃ n', n = n' + 1 := ⟨n - 1, by omega⟩
      rw [laws_eqWindowS.l1, if_neg (by omega)]
    | succ d ih =>
      intro j n hj hn
      obtain ⟨n, rfl⟩ : ∃ n', n = n' + 1 := ⟨n - 1, by omega⟩
      have h0 : (0 : Int) ≤ (j : Int) := by omega
      have h1 : (j : Int) < (xs.length : Int) := by omega
      have h4 : w64 ((j : Int) + 1) = ((j + 1 : Nat) : Int) := w_id (z := (j : Int) + 1) (by omega) (by omega)
      simp only [laws_eqWindowS.l1, eqWindow_f, h0, h1, h4, ↓reduceIte, Option.bind_some, Int.toNat_natCast, not_true_eq_false]
      exact ih (j + 1) n (by omega) (by omega)
  have := l xs.length 0 k (by omega) (by omega)
  unfold laws_eqWindowS.f
  rw [if_neg (fun h => h rfl)]
  exact this
theorem szWindowS_f {k : Nat} {xs : List (Int × Int)} {left : Int} (hx : xs.length ≤ 9223372036854775807) (h0 : 0 ≤ left) (h1 : left ≤ 1048576) : Ok (laws_szWindowS.f k xs left) (fun r => 0 ≤ r → r ≤ left ∧ xs.length ≤ 1048576) := by
  have h : w64 (left - (xs.length : Int)) = left - (xs.length : Int) := w_id (by omega) (by omega)
  unfold laws_szWindowS.f
  rw [h]
  exact ok_if (fun _ => ok_some (fun h => by omega)) (fun _ => ok_some (fun _ => by omega))
theorem toPortS_f {k : Nat} {xs : List (Int × Int × Int × Int × Int)} (hl : xs.length ≤ 1048576) (hk : 1048576 < k) : laws_toPortS.f k xs = some xs := by
  have l : ∀ (d j n : Nat), j + d = xs.length → d < n → laws_toPortS.l1 k n ((j : Int), xs, xs.take j ++ List.replicate d ((0, 0, 0, 0, 0) : Int × Int × Int × Int × Int), ()) = some xs := by
    intro d
    induction d with
    | zero =>
      intro j n hj hn
      obtain ⟨n, rfl⟩ : ∃ n', n = n' + 1 := ⟨n - 1, by omega⟩
      rw [List.replicate_zero, List.append_nil, List.take_of_length_le (by omega), laws_toPortS.l1, if_neg (by omega)]
    | succ d ih =>
      intro j n hj hn
      obtain ⟨n, rfl⟩ : ∃ n', n = n' + 1 := ⟨n - 1, by omega⟩
      have h0 : (0 : Int) ≤ (j : Int) := by omega
      have h1 : (j : Int) < (xs.length : Int) := by omega
      have h2 : (xs.take j ++ List.replicate (d + 1) ((0, 0, 0, 0, 0) : Int × Int × Int × Int × Int)).length = xs.length := len_copy hj
      have h3 := set_copy (el_lt (t := (.pair (.int .i64) (.pair (.int .i64) (.pair (.int .i64) (.pair (.int .i64) (.int .i64)))))) (xs := xs) (i := j) (by omega)) hj (z := ((0, 0, 0, 0, 0) : Int × Int × Int × Int × Int))
      have h4 : w64 ((j : Int) + 1) = ((j + 1 : Nat) : Int) := w_id (z := (j : Int) + 1) (by omega) (by omega)
      simp only [laws_toPortS.l1, laws_toPort.f, h0, h1, h2, h4, ↓reduceIte, Option.bind_some, Int.toNat_natCast]
      rw [h3]
      exact ih (j + 1) n (by omega) (by omega)
  have := l xs.length 0 k (by omega) (by omega)
  unfold laws_toPortS.f
  rw [if_pos rfl, if_pos (by omega), if_pos (by simp only [Int.toNat_natCast]; omega)]
  simpa using this
theorem eqPort_f {k : Nat} {x : Int × Int × Int × Int × Int} : laws_eqPort.f k x x = some true := by
  simp only [laws_eqPort.f, not_true_eq_false, ↓reduceIte]
theorem eqPortS_f {k : Nat} {xs : List (Int × Int × Int × Int × Int)} (hl : xs.length ≤ 1048576) (hk : 1048576 < k) : laws_eqPortS.f k xs xs = some true := by
  have l : ∀ (d j n : Nat), j + d = xs.length → d < n → laws_eqPortS.l1 k n ((j : Int), xs, xs, ()) = some true := by
    intro d
    induction d with
    | zero =>
      intro j n hj hn
      obtain ⟨n, rfl⟩ : ∃ n', n = n' + 1 := ⟨n - 1, by omega⟩
      rw [laws_eqPortS.l1, if_neg (by omega)]
    | succ d ih =>
      intro j n hj hn
      obtain ⟨n, rfl⟩ : ∃ n', n = n' + 1 := ⟨n - 1, by omega⟩
      have h0 : (0 : Int) ≤ (j : Int) := by omega
      have h1 : (j : Int) < (xs.length : Int) := by omega
      have h4 : w64 ((j : Int) + 1) = ((j + 1 : Nat) : Int) := w_id (z := (j : Int) + 1) (by omega) (by omega)
      simp only [laws_eqPortS.l1, eqPort_f, h0, h1, h4, ↓reduceIte, Option.bind_some, Int.toNat_natCast, not_true_eq_false]
      exact ih (j + 1) n (by omega) (by omega)
  have := l xs.length 0 k (by omega) (by omega)
  unfold laws_eqPortS.f
  rw [if_neg (fun h => h rfl)]
  exact this
theorem szPortS_f {k : Nat} {xs : List (Int × Int × Int × Int × Int)} {left : Int} (hx : xs.length ≤ 9223372036854775807) (h0 : 0 ≤ left) (h1 : left ≤ 1048576) : Ok (laws_szPortS.f k xs left) (fun r => 0 ≤ r → r ≤ left ∧ xs.length ≤ 1048576) := by
  have h : w64 (left - (xs.length : Int)) = left - (xs.length : Int) := w_id (by omega) (by omega)
  unfold laws_szPortS.f
  rw [h]
  exact ok_if (fun _ => ok_some (fun h => by omega)) (fun _ => ok_some (fun _ => by omega))
theorem toRuleS_f {k : Nat} {xs : List (Int × Int × Int)} (hl : xs.length ≤ 1048576) (hk : 1048576 < k) : laws_toRuleS.f k xs = some xs := by
  have l : ∀ (d j n : Nat), j + d = xs.length → d < n → laws_toRuleS.l1 k n ((j : Int), xs, xs.take j ++ List.replicate d ((0, 0, 0) : Int × Int × Int), ()) = some xs := by
    intro d
    induction d with
    | zero =>
      intro j n hj hn
      obtain ⟨n, rfl⟩ : ∃ n', n = n' + 1 := ⟨n - 1, by omega⟩
      rw [List.replicate_zero, List.append_nil, List.take_of_length_le (by omega), laws_toRuleS.l1, if_neg (by omega)]
    | succ d ih =>
      intro j n hj hn
      obtain ⟨n, rfl⟩ : ∃ n', n = n' + 1 := ⟨n - 1, by omega⟩
      have h0 : (0 : Int) ≤ (j : Int) := by omega
      have h1 : (j : Int) < (xs.length : Int) := by omega
      have h2 : (xs.take j ++ List.replicate (d + 1) ((0, 0, 0) : Int × Int × Int)).length = xs.length := len_copy hj
      have h3 := set_copy (el_lt (t := (.pair (.int .i64) (.pair (.int .i64) (.int .i64)))) (xs := xs) (i := j) (by omega)) hj (z := ((0, 0, 0) : Int × Int × Int))
      have h4 : w64 ((j : Int) + 1) = ((j + 1 : Nat) : Int) := w_id (z := (j : Int) + 1) (by omega) (by omega)
      simp only [laws_toRuleS.l1, laws_toRule.f, h0, h1, h2, h4, ↓reduceIte, Option.bind_some, Int.toNat_natCast]
      rw [h3]
      exact ih (j + 1) n (by omega) (by omega)
  have := l xs.length 0 k (by omega) (by omega)
  unfold laws_toRuleS.f
  rw [if_pos rfl, if_pos (by omega), if_pos (by simp only [Int.toNat_natCast]; omega)]
  simpa using this
theorem eqRule_f {k : Nat} {x : Int × Int × Int} : laws_eqRule.f k x x = some true := by
  simp only [laws_eqRule.f, not_true_eq_false, ↓reduceIte]
theorem eqRuleS_f {k : Nat} {xs : List (Int × Int × Int)} (hl : xs.length ≤ 1048576) (hk : 1048576 < k) : laws_eqRuleS.f k xs xs = some true := by
  have l : ∀ (d j n : Nat), j + d = xs.length → d < n → laws_eqRuleS.l1 k n ((j : Int), xs, xs, ()) = some true := by
    intro d
    induction d with
    | zero =>
      intro j n hj hn
      obtain ⟨n, rfl⟩ : ∃ n', n = n' + 1 := ⟨n - 1, by omega⟩
      rw [laws_eqRuleS.l1, if_neg (by omega)]
    | succ d ih =>
      intro j n hj hn
      obtain ⟨n, rfl⟩ : ∃ n', n = n' + 1 := ⟨n - 1, by omega⟩
      have h0 : (0 : Int) ≤ (j : Int) := by omega
      have h1 : (j : Int) < (xs.length : Int) := by omega
      have h4 : w64 ((j : Int) + 1) = ((j + 1 : Nat) : Int) := w_id (z := (j : Int) + 1) (by omega) (by omega)
      simp only [laws_eqRuleS.l1, eqRule_f, h0, h1, h4, ↓reduceIte, Option.bind_some, Int.toNat_natCast, not_true_eq_false]
      exact ih (j + 1) n (by omega) (by omega)
  have := l xs.length 0 k (by omega) (by omega)
  unfold laws_eqRuleS.f
  rw [if_neg (fun h => h rfl)]
  exact this
theorem szRuleS_f {k : Nat} {xs : List (Int × Int × Int)} {left : Int} (hx : xs.length ≤ 9223372036854775807) (h0 : 0 ≤ left) (h1 : left ≤ 1048576) : Ok (laws_szRuleS.f k xs left) (fun r => 0 ≤ r → r ≤ left ∧ xs.length ≤ 1048576) := by
  have h : w64 (left - (xs.length : Int)) = left - (xs.length : Int) := w_id (by omega) (by omega)
  unfold laws_szRuleS.f
  rw [h]
  exact ok_if (fun _ => ok_some (fun h => by omega)) (fun _ => ok_some (fun _ => by omega))
theorem toEntryS_f {k : Nat} {xs : List (Int × Int × Int × Int × Int)} (hl : xs.length ≤ 1048576) (hk : 1048576 < k) : laws_toEntryS.f k xs = some xs := by
  have l : ∀ (d j n : Nat), j + d = xs.length → d < n → laws_toEntryS.l1 k n ((j : Int), xs, xs.take j ++ List.replicate d ((0, 0, 0, 0, 0) : Int × Int × Int × Int × Int), ()) = some xs := by
    intro d
    induction d with
    | zero =>
      intro j n hj hn
      obtain ⟨n, rfl⟩ : ∃ n', n = n' + 1 := ⟨n - 1, by omega⟩
      rw [List.replicate_zero, List.append_nil, List.take_of_length_le (by omega), laws_toEntryS.l1, if_neg (by omega)]
    | succ d ih =>
      intro j n hj hn
      obtain ⟨n, rfl⟩ : ∃ n', n = n' + 1 := ⟨n - 1, by omega⟩
      have h0 : (0 : Int) ≤ (j : Int) := by omega
      have h1 : (j : Int) < (xs.length : Int) := by omega
      have h2 : (xs.take j ++ List.replicate (d + 1) ((0, 0, 0, 0, 0) : Int × Int × Int × Int × Int)).length = xs.length := len_copy hj
      have h3 := set_copy (el_lt (t := (.pair (.int .i64) (.pair (.int .i64) (.pair (.int .i64) (.pair (.int .i64) (.int .i64)))))) (xs := xs) (i := j) (by omega)) hj (z := ((0, 0, 0, 0, 0) : Int × Int × Int × Int × Int))
      have h4 : w64 ((j : Int) + 1) = ((j + 1 : Nat) : Int) := w_id (z := (j : Int) + 1) (by omega) (by omega)
      simp only [laws_toEntryS.l1, laws_toEntry.f, h0, h1, h2, h4, ↓reduceIte, Option.bind_some, Int.toNat_natCast]
      rw [h3]
      exact ih (j + 1) n (by omega) (by omega)
  have := l xs.length 0 k (by omega) (by omega)
  unfold laws_toEntryS.f
  rw [if_pos rfl, if_pos (by omega), if_pos (by simp only [Int.toNat_natCast]; omega)]
  simpa using this
theorem eqEntry_f {k : Nat} {x : Int × Int × Int × Int × Int} : laws_eqEntry.f k x x = some true := by
  simp only [laws_eqEntry.f, not_true_eq_false, ↓reduceIte]
theorem eqEntryS_f {k : Nat} {xs : List (Int × Int × Int × Int × Int)} (hl : xs.length ≤ 1048576) (hk : 1048576 < k) : laws_eqEntryS.f k xs xs = some true := by
  have l : ∀ (d j n : Nat), j + d = xs.length → d < n → laws_eqEntryS.l1 k n ((j : Int), xs, xs, ()) = some true := by
    intro d
    induction d with
    | zero =>
      intro j n hj hn
      obtain ⟨n, rfl⟩ : ∃ n', n = n' + 1 := ⟨n - 1, by omega⟩
      rw [laws_eqEntryS.l1, if_neg (by omega)]
    | succ d ih =>
      intro j n hj hn
      obtain ⟨n, rfl⟩ : ∃ n', n = n' + 1 := ⟨n - 1, by omega⟩
      have h0 : (0 : Int) ≤ (j : Int) := by omega
      have h1 : (j : Int) < (xs.length : Int) := by omega
      have h4 : w64 ((j : Int) + 1) = ((j + 1 : Nat) : Int) := w_id (z := (j : Int) + 1) (by omega) (by omega)
      simp only [laws_eqEntryS.l1, eqEntry_f, h0, h1, h4, ↓reduceIte, Option.bind_some, Int.toNat_natCast, not_true_eq_false]
      exact ih (j + 1) n (by omega) (by omega)
  have := l xs.length 0 k (by omega) (by omega)
  unfold laws_eqEntryS.f
  rw [if_neg (fun h => h rfl)]
  exact this
theorem szEntryS_f {k : Nat} {xs : List (Int × Int × Int × Int × Int)} {left : Int} (hx : xs.length ≤ 9223372036854775807) (h0 : 0 ≤ left) (h1 : left ≤ 1048576) : Ok (laws_szEntryS.f k xs left) (fun r => 0 ≤ r → r ≤ left ∧ xs.length ≤ 1048576) := by
  have h : w64 (left - (xs.length : Int)) = left - (xs.length : Int) := w_id (by omega) (by omega)
  unfold laws_szEntryS.f
  rw [h]
  exact ok_if (fun _ => ok_some (fun h => by omega)) (fun _ => ok_some (fun _ => by omega))
theorem toStringS_f {k : Nat} {xs : List ByteArray} (hl : xs.length ≤ 1048576) (hk : 1048576 < k) : laws_toStringS.f k xs = some xs := by
  have l : ∀ (d j n : Nat), j + d = xs.length → d < n → laws_toStringS.l1 k n ((j : Int), xs, xs.take j ++ List.replicate d ((⟨#[]⟩ : ByteArray)), ()) = some xs := by
    intro d
    induction d with
    | zero =>
      intro j n hj hn
      obtain ⟨n, rfl⟩ : ∃ n', n = n' + 1 := ⟨n - 1, by omega⟩
      rw [List.replicate_zero, List.append_nil, List.take_of_length_le (by omega), laws_toStringS.l1, if_neg (by omega)]
    | succ d ih =>
      intro j n hj hn
      obtain ⟨n, rfl⟩ : ∃ n', n = n' + 1 := ⟨n - 1, by omega⟩
      have h0 : (0 : Int) ≤ (j : Int) := by omega
      have h1 : (j : Int) < (xs.length : Int) := by omega
      have h2 : (xs.take j ++ List.replicate (d + 1) ((⟨#[]⟩ : ByteArray))).length = xs.length := len_copy hj
      have h3 := set_copy (el_lt (t := .str) (xs := xs) (i := j) (by omega)) hj (z := ((⟨#[]⟩ : ByteArray)))
      have h4 : w64 ((j : Int) + 1) = ((j + 1 : Nat) : Int) := w_id (z := (j : Int) + 1) (by omega) (by omega)
      simp only [laws_toStringS.l1, h0, h1, h2, h4, ↓reduceIte, Option.bind_some, Int.toNat_natCast]
      rw [h3]
      exact ih (j + 1) n (by omega) (by omega)
  have := l xs.length 0 k (by omega) (by omega)
  unfold laws_toStringS.f
  rw [if_pos rfl, if_pos (by omega), if_pos (by simp only [Int.toNat_natCast]; omega)]
  simpa using this
theorem eqStringS_f {k : Nat} {xs : List ByteArray} (hl : xs.length ≤ 1048576) (hk : 1048576 < k) : laws_eqStringS.f k xs xs = some true := by
  have l : ∀ (d j n : Nat), j + d = xs.length → d < n → laws_eqStringS.l1 k n ((j : Int), xs, xs, ()) = some true := by
    intro d
    induction d with
    | zero =>
      intro j n hj hn
      obtain ⟨n, rfl⟩ : ∃ n', n = n' + 1 := ⟨n - 1, by omega⟩
      rw [laws_eqStringS.l1, if_neg (by omega)]
    | succ d ih =>
      intro j n hj hn
      obtain ⟨n, rfl⟩ : ∃ n', n = n' + 1 := ⟨n - 1, by omega⟩
      have h0 : (0 : Int) ≤ (j : Int) := by omega
      have h1 : (j : Int) < (xs.length : Int) := by omega
      have h4 : w64 ((j : Int) + 1) = ((j + 1 : Nat) : Int) := w_id (z := (j : Int) + 1) (by omega) (by omega)
      simp only [laws_eqStringS.l1, h0, h1, h4, ↓reduceIte, Option.bind_some, Int.toNat_natCast, not_true_eq_false]
      exact ih (j + 1) n (by omega) (by omega)
  have := l xs.length 0 k (by omega) (by omega)
  unfold laws_eqStringS.f
  rw [if_neg (fun h => h rfl)]
  exact this
end Go.Proofs.Ytacpibmmodeacaa.Pure
