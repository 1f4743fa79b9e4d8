/- What the laws' own copies, comparisons and marks tell. No condition. -/
import Derived.Test.YthncjcfnpfajaaaUWords
import Derived.Test.YthncjcfnpfajaaaQA
namespace Go.Proofs.Ythncjcfnpfajaaa.Pure
open Go Go.Proofs.YthncjcfnpfajaaaA Go.Proofs.YthncjcfnpfajaaaU Go.Proofs.Ythncjcfnpfajaaa.QA
set_option linter.unusedVariables false
set_option linter.unusedSimpArgs false
theorem w64_id {z : Int} (h1 : -9223372036854775808 ≤ z) (h2 : z < 9223372036854775808) : w64 z = z := w_id h1 h2
theorem eqRegion_f {k : Nat} {x : Int × Int} : laws_eqRegion.f k x x = some true := by
  simp only [laws_eqRegion.f, not_true_eq_false, ↓reduceIte]
theorem eqRegionS_f {k : Nat} {xs : List (Int × Int)} (hl : xs.length ≤ 1048576) (hk : 1048576 < k) : laws_eqRegionS.f k xs xs = some true := by
  have l : ∀ (d j n : Nat), j + d = xs.length → d < n → laws_eqRegionS.l1 k n ((j : Int), xs, xs, ()) = some true := by
    intro d
    induction d with
    | zero =>
      intro j n hj hn
      obtain ⟨n, rfl⟩ : ∃ n', n = n' + 1 := ⟨n - 1, by omega⟩
      rw [laws_eqRegionS.l1, if_neg (by omega)]
    | succ d ih =>
      intro j n hj hn
      obtain ⟨n, rfl⟩ : ∃ n', n = n' + 1 := ⟨n - 1, by omega⟩
      have h0 : (0 : Int) ≤ (j : Int) := by omega
      have h1 : (j : Int) < (xs.length : Int) := by omega
      have h4 : w64 ((j : Int) + 1) = ((j + 1 : Nat) : Int) := w_id (z := (j : Int) + 1) (by omega) (by omega)
      simp only [laws_eqRegionS.l1, eqRegion_f, h0, h1, h4, ↓reduceIte, Option.bind_some, Int.toNat_natCast, not_true_eq_false]
      exact ih (j + 1) n (by omega) (by omega)
  have := l xs.length 0 k (by omega) (by omega)
  unfold laws_eqRegionS.f
  rw [if_neg (fun h => h rfl)]
  exact this
def FRegionS : Int → Int × Int := fun m => (m, m + 1)
def NRegionS : Int → Int := fun m => (m + 1) + 1
theorem MRegionS_le {m : Int} : ∀ j : Nat, mi NRegionS m j = m + 2 * (j : Int)
  | 0 => by simp [mi]
  | j + 1 => by
    show NRegionS (mi NRegionS m j) = _
    rw [MRegionS_le j]
    unfold NRegionS
    omega
theorem markRegionS_f {k : Nat} {xs : List (Int × Int)} {m : Int} (hl : xs.length ≤ 1048576) (hk : 1048576 < k) (hm : 0 ≤ m) (hm2 : m ≤ 4611686018427387904) : laws_markRegionS.f k xs m = some (mi NRegionS m xs.length, mk FRegionS NRegionS m xs.length) := by
  have l : ∀ (d j n : Nat), j + d = xs.length → d < n → laws_markRegionS.l1 k n (mi NRegionS m j, (j : Int), mk FRegionS NRegionS m j ++ xs.drop j, ()) = some (mi NRegionS m xs.length, mk FRegionS NRegionS m xs.length) := by
    intro d
    induction d with
    | zero =>
      intro j n hj hn
      obtain ⟨n, rfl⟩ : ∃ n', n = n' + 1 := ⟨n - 1, by omega⟩
      obtain rfl : j = xs.length := by omega
      rw [laws_markRegionS.l1, if_neg (by rw [List.drop_length, List.append_nil, mk_len]; omega), List.drop_length, List.append_nil]
    | succ d ih =>
      intro j n hj hn
      obtain ⟨n, rfl⟩ : ∃ n', n = n' + 1 := ⟨n - 1, by omega⟩
      have e := MRegionS_le (m := m) j
      have e2 : mi NRegionS m (j + 1) = NRegionS (mi NRegionS m j) := rfl
      have e3 := mk_snoc FRegionS NRegionS m j
      have ih' := ih (j + 1) n (by omega) (by omega)
      rw [e2, e3, List.append_assoc, List.singleton_append] at ih'
      clear ih e2 e3
      obtain ⟨x, hx⟩ : ∃ x, xs.drop j = x :: xs.drop (j + 1) := ⟨_, List.drop_eq_getElem_cons (by omega)⟩
      have hp : (mk FRegionS NRegionS m j).length = j := mk_len _ _ _ _
      generalize mk FRegionS NRegionS m j = pre at *
      generalize mi NRegionS m j = M at *
      have h0 : (0 : Int) ≤ (j : Int) := by omega
      have h1 : (j : Int) < (xs.length : Int) := by omega
      have h2 : ∀ y, (pre ++ y :: xs.drop (j + 1)).length = xs.length := fun y => by rw [List.length_append, List.length_cons, List.length_drop]; omega
      have h3 : ∀ y, el (.pair (.int .i64) (.int .i64)) (pre ++ y :: xs.drop (j + 1)) j = y := fun y => el_mid hp
      have h5 : ∀ y z, (pre ++ y :: xs.drop (j + 1)).set j z = pre ++ z :: xs.drop (j + 1) := fun y z => set_mid hp
      have h4 : w64 ((j : Int) + 1) = ((j + 1 : Nat) : Int) := w_id (z := (j : Int) + 1) (by omega) (by omega)
      have w1 : w64 (M + 1) = M + 1 := w_id (by omega) (by omega)
      have w2 : w64 ((M + 1) + 1) = (M + 1) + 1 := w_id (by omega) (by omega)
      rw [hx]
      simp only [laws_markRegionS.l1, h0, h1, h2, h3, h4, h5, w1, w2, ↓reduceIte, Option.bind_some, Int.toNat_natCast]
      exact ih'
  have := l xs.length 0 k (by omega) (by omega)
  unfold laws_markRegionS.f
  exact this
theorem heldRegionS_f {k L : Nat} {m : Int} (hl : L ≤ 1048576) (hk : 1048576 < k) (hm : 0 ≤ m) (hm2 : m ≤ 4611686018427387904) : laws_heldRegionS.f k (mk FRegionS NRegionS m L) m = some (mi NRegionS m L) := by
  have hL : (mk FRegionS NRegionS m L).length = L := mk_len _ _ _ _
  have l : ∀ (d j n : Nat), j + d = L → d < n → laws_heldRegionS.l1 k n (mi NRegionS m j, (j : Int), mk FRegionS NRegionS m L, ()) = some (mi NRegionS m L) := by
    intro d
    induction d with
    | zero =>
      intro j n hj hn
      obtain ⟨n, rfl⟩ : ∃ n', n = n' + 1 := ⟨n - 1, by omega⟩
      obtain rfl : j = L := by omega
      rw [laws_heldRegionS.l1, if_neg (by rw [hL]; omega)]
    | succ d ih =>
      intro j n hj hn
      obtain ⟨n, rfl⟩ : ∃ n', n = n' + 1 := ⟨n - 1, by omega⟩
      have e := MRegionS_le (m := m) j
      have ih' := ih (j + 1) n (by omega) (by omega)
      rw [show mi NRegionS m (j + 1) = NRegionS (mi NRegionS m j) from rfl] at ih'
      have h3 : el (.pair (.int .i64) (.int .i64)) (mk FRegionS NRegionS m L) j = FRegionS (mi NRegionS m j) := el_at (mk_at _ _ _ _ _ (by omega))
      clear ih
      generalize mi NRegionS m j = M at *
      have h0 : (0 : Int) ≤ (j : Int) := by omega
      have h1 : (j : Int) < (L : Int) := by omega
      have h4 : w64 ((j : Int) + 1) = ((j + 1 : Nat) : Int) := w_id (z := (j : Int) + 1) (by omega) (by omega)
      have w1 : w64 (M + 1) = M + 1 := w_id (by omega) (by omega)
      have w2 : w64 ((M + 1) + 1) = (M + 1) + 1 := w_id (by omega) (by omega)
      simp only [laws_heldRegionS.l1, h0, h1, hL, h3, h4, FRegionS, w1, w2, ↓reduceIte, Option.bind_some, Int.toNat_natCast, not_true_eq_false]
      exact ih'
  have := l L 0 k (by omega) (by omega)
  unfold laws_heldRegionS.f
  exact this
theorem eqWindow_f {k : Nat} {x : Int × Int} : laws_eqWindow.f k x x = some true := by
  simp only [laws_eqWindow.f, not_true_eq_false, ↓reduceIte]
theorem eqWindowS_f {k : Nat} {xs : List (Int × Int)} (hl : xs.length ≤ 1048576) (hk : 1048576 < k) : laws_eqWindowS.f k xs xs = some true := by
  have l : ∀ (d j n : Nat), j + d = xs.length → d < n → laws_eqWindowS.l1 k n ((j : Int), xs, xs, ()) = some true := by
    intro d
    induction d with
    | zero =>
      intro j n hj hn
      obtain ⟨n, rfl⟩ : ∃ n', n = n' + 1 := ⟨n - 1, by omega⟩
      rw [laws_eqWindowS.l1, if_neg (by omega)]
    | succ d ih =>
      intro j n hj hn
      obtain ⟨n, rfl⟩ : ∃ n', n = n' + 1 := ⟨n - 1, by omega⟩
      have h0 : (0 : Int) ≤ (j : Int) := by omega
      have h1 : (j : Int) < (xs.length : Int) := by omega
      have h4 : w64 ((j : Int) + 1) = ((j + 1 : Nat) : Int) := w_id (z := (j : Int) + 1) (by omega) (by omega)
      simp only [laws_eqWindowS.l1, eqWindow_f, h0, h1, h4, ↓reduceIte, Option.bind_some, Int.toNat_natCast, not_true_eq_false]
      exact ih (j + 1) n (by omega) (by omega)
  have := l xs.length 0 k (by omega) (by omega)
  unfold laws_eqWindowS.f
  rw [if_neg (fun h => h rfl)]
  exact this
def FWindowS : Int → Int × Int := fun m => (m, m + 1)
def NWindowS : Int → Int := fun m => (m + 1) + 1
theorem MWindowS_le {m : Int} : ∀ j : Nat, mi NWindowS m j = m + 2 * (j : Int)
  | 0 => by simp [mi]
  | j + 1 => by
    show NWindowS (mi NWindowS m j) = _
    rw [MWindowS_le j]
    unfold NWindowS
    omega
theorem markWindowS_f {k : Nat} {xs : List (Int × Int)} {m : Int} (hl : xs.length ≤ 1048576) (hk : 1048576 < k) (hm : 0 ≤ m) (hm2 : m ≤ 4611686018427387904) : laws_markWindowS.f k xs m = some (mi NWindowS m xs.length, mk FWindowS NWindowS m xs.length) := by
  have l : ∀ (d j n : Nat), j + d = xs.length → d < n → laws_markWindowS.l1 k n (mi NWindowS m j, (j : Int), mk FWindowS NWindowS m j ++ xs.drop j, ()) = some (mi NWindowS m xs.length, mk FWindowS NWindowS m xs.length) := by
    intro d
    induction d with
    | zero =>
      intro j n hj hn
      obtain ⟨n, rfl⟩ : ∃ n', n = n' + 1 := ⟨n - 1, by omega⟩
      obtain rfl : j = xs.length := by omega
      rw [laws_markWindowS.l1, if_neg (by rw [List.drop_length, List.append_nil, mk_len]; omega), List.drop_length, List.append_nil]
    | succ d ih =>
      intro j n hj hn
      obtain ⟨n, rfl⟩ : ∃ n', n = n' + 1 := ⟨n - 1, by omega⟩
      have e := MWindowS_le (m := m) j
      have e2 : mi NWindowS m (j + 1) = NWindowS (mi NWindowS m j) := rfl
      have e3 := mk_snoc FWindowS NWindowS m j
      have ih' := ih (j + 1) n (by omega) (by omega)
      rw [e2, e3, List.append_assoc, List.singleton_append] at ih'
      clear ih e2 e3
      obtain ⟨x, hx⟩ : ∃ x, xs.drop j = x :: xs.drop (j + 1) := ⟨_, List.drop_eq_getElem_cons (by omega)⟩
      have hp : (mk FWindowS NWindowS m j).length = j := mk_len _ _ _ _
      generalize mk FWindowS NWindowS m j = pre at *
      generalize mi NWindowS m j = M at *
      have h0 : (0 : Int) ≤ (j : Int) := by omega
      have h1 : (j : Int) < (xs.length : Int) := by omega
      have h2 : ∀ y, (pre ++ y :: xs.drop (j + 1)).length = xs.length := fun y => by rw [List.length_append, List.length_cons, List.length_drop]; omega
      have h3 : ∀ y, el (.pair (.int .i64) (.int .i64)) (pre ++ y :: xs.drop (j + 1)) j = y := fun y => el_mid hp
      have h5 : ∀ y z, (pre ++ y :: xs.drop (j + 1)).set j z = pre ++ z :: xs.drop (j + 1) := fun y z => set_mid hp
      have h4 : w64 ((j : Int) + 1) = ((j + 1 : Nat) : Int) := w_id (z := (j : Int) + 1) (by omega) (by omega)
      have w1 : w64 (M + 1) = M + 1 := w_id (by omega) (by omega)
      have w2 : w64 ((M + 1) + 1) = (M + 1) + 1 := w_id (by omega) (by omega)
      rw [hx]
      simp only [laws_markWindowS.l1, h0, h1, h2, h3, h4, h5, w1, w2, ↓reduceIte, Option.bind_some, Int.toNat_natCast]
      exact ih'
  have := l xs.length 0 k (by omega) (by omega)
  unfold laws_markWindowS.f
  exact this
theorem heldWindowS_f {k L : Nat} {m : Int} (hl : L ≤ 1048576) (hk : 1048576 < k) (hm : 0 ≤ m) (hm2 : m ≤ 4611686018427387904) : laws_heldWindowS.f k (mk FWindowS NWindowS m L) m = some (mi NWindowS m L) := by
  have hL : (mk FWindowS NWindowS m L).length = L := mk_len _ _ _ _
  have l : ∀ (d j n : Nat), j + d = L → d < n → laws_heldWindowS.l1 k n (mi NWindowS m j, (j : Int), mk FWindowS NWindowS m L, ()) = some (mi NWindowS m L) := by
    intro d
    induction d with
    | zero =>
      intro j n hj hn
      obtain ⟨n, rfl⟩ : ∃ n', n = n' + 1 := ⟨n - 1, by omega⟩
      obtain rfl : j = L := by omega
      rw [laws_heldWindowS.l1, if_neg (by rw [hL]; omega)]
    | succ d ih =>
      intro j n hj hn
      obtain ⟨n, rfl⟩ : ∃ n', n = n' + 1 := ⟨n - 1, by omega⟩
      have e := MWindowS_le (m := m) j
      have ih' := ih (j + 1) n (by omega) (by omega)
      rw [show mi NWindowS m (j + 1) = NWindowS (mi NWindowS m j) from rfl] at ih'
      have h3 : el (.pair (.int .i64) (.int .i64)) (mk FWindowS NWindowS m L) j = FWindowS (mi NWindowS m j) := el_at (mk_at _ _ _ _ _ (by omega))
      clear ih
      generalize mi NWindowS m j = M at *
      have h0 : (0 : Int) ≤ (j : Int) := by omega
      have h1 : (j : Int) < (L : Int) := by omega
      have h4 : w64 ((j : Int) + 1) = ((j + 1 : Nat) : Int) := w_id (z := (j : Int) + 1) (by omega) (by omega)
      have w1 : w64 (M + 1) = M + 1 := w_id (by omega) (by omega)
      have w2 : w64 ((M + 1) + 1) = (M + 1) + 1 := w_id (by omega) (by omega)
      simp only [laws_heldWindowS.l1, h0, h1, hL, h3, h4, FWindowS, w1, w2, ↓reduceIte, Option.bind_some, Int.toNat_natCast, not_true_eq_false]
      exact ih'
  have := l L 0 k (by omega) (by omega)
  unfold laws_heldWindowS.f
  exact this
theorem eqPort_f {k : Nat} {x : Int × Int × Int × Int × Int} : laws_eqPort.f k x x = some true := by
  simp only [laws_eqPort.f, not_true_eq_false, ↓reduceIte]
theorem eqPortS_f {k : Nat} {xs : List (Int × Int × Int × Int × Int)} (hl : xs.length ≤ 1048576) (hk : 1048576 < k) : laws_eqPortS.f k xs xs = some true := by
  have l : ∀ (d j n : Nat), j + d = xs.length → d < n → laws_eqPortS.l1 k n ((j : Int), xs, xs, ()) = some true := by
    intro d
    induction d with
    | zero =>
      intro j n hj hn
      obtain ⟨n, rfl⟩ : ∃ n', n = n' + 1 := ⟨n - 1, by omega⟩
      rw [laws_eqPortS.l1, if_neg (by omega)]
    | succ d ih =>
      intro j n hj hn
      obtain ⟨n, rfl⟩ : ∃ n', n = n' + 1 := ⟨n - 1, by omega⟩
      have h0 : (0 : Int) ≤ (j : Int) := by omega
      have h1 : (j : Int) < (xs.length : Int) := by omega
      have h4 : w64 ((j : Int) + 1) = ((j + 1 : Nat) : Int) := w_id (z := (j : Int) + 1) (by omega) (by omega)
      simp only [laws_eqPortS.l1, eqPort_f, h0, h1, h4, ↓reduceIte, Option.bind_some, Int.toNat_natCast, not_true_eq_false]
      exact ih (j + 1) n (by omega) (by omega)
  have := l xs.length 0 k (by omega) (by omega)
  unfold laws_eqPortS.f
  rw [if_neg (fun h => h rfl)]
  exact this
def FPortS : Int → Int × Int × Int × Int × Int := fun m => (m, m + 1, (m + 1) + 1, ((m + 1) + 1) + 1, (((m + 1) + 1) + 1) + 1)
def NPortS : Int → Int := fun m => ((((m + 1) + 1) + 1) + 1) + 1
theorem MPortS_le {m : Int} : ∀ j : Nat, mi NPortS m j = m + 5 * (j : Int)
  | 0 => by simp [mi]
  | j + 1 => by
    show NPortS (mi NPortS m j) = _
    rw [MPortS_le j]
    unfold NPortS
    omega
theorem markPortS_f {k : Nat} {xs : List (Int × Int × Int × Int × Int)} {m : Int} (hl : xs.length ≤ 1048576) (hk : 1048576 < k) (hm : 0 ≤ m) (hm2 : m ≤ 4611686018427387904) : laws_markPortS.f k xs m = some (mi NPortS m xs.length, mk FPortS NPortS m xs.length) := by
  have l : ∀ (d j n : Nat), j + d = xs.length → d < n → laws_markPortS.l1 k n (mi NPortS m j, (j : Int), mk FPortS NPortS m j ++ xs.drop j, ()) = some (mi NPortS m xs.length, mk FPortS NPortS m xs.length) := by
    intro d
    induction d with
    | zero =>
      intro j n hj hn
      obtain ⟨n, rfl⟩ : ∃ n', n = n' + 1 := ⟨n - 1, by omega⟩
      obtain rfl : j = xs.length := by omega
      rw [laws_markPortS.l1, if_neg (by rw [List.drop_length, List.append_nil, mk_len]; omega), List.drop_length, List.append_nil]
    | succ d ih =>
      intro j n hj hn
      obtain ⟨n, rfl⟩ : ∃ n', n = n' + 1 := ⟨n - 1, by omega⟩
      have e := MPortS_le (m := m) j
      have e2 : mi NPortS m (j + 1) = NPortS (mi NPortS m j) := rfl
      have e3 := mk_snoc FPortS NPortS m j
      have ih' := ih (j + 1) n (by omega) (by omega)
      rw [e2, e3, List.append_assoc, List.singleton_append] at ih'
      clear ih e2 e3
      obtain ⟨x, hx⟩ : ∃ x, xs.drop j = x :: xs.drop (j + 1) := ⟨_, List.drop_eq_getElem_cons (by omega)⟩
      have hp : (mk FPortS NPortS m j).length = j := mk_len _ _ _ _
      generalize mk FPortS NPortS m j = pre at *
      generalize mi NPortS m j = M at *
      have h0 : (0 : Int) ≤ (j : Int) := by omega
      have h1 : (j : Int) < (xs.length : Int) := by omega
      have h2 : ∀ y, (pre ++ y :: xs.drop (j + 1)).length = xs.length := fun y => by rw [List.length_append, List.length_cons, List.length_drop]; omega
      have h3 : ∀ y, el (.pair (.int .i64) (.pair (.int .i64) (.pair (.int .i64) (.pair (.int .i64) (.int .i64))))) (pre ++ y :: xs.drop (j + 1)) j = y := fun y => el_mid hp
      have h5 : ∀ y z, (pre ++ y :: xs.drop (j + 1)).set j z = pre ++ z :: xs.drop (j + 1) := fun y z => set_mid hp
      have h4 : w64 ((j : Int) + 1) = ((j + 1 : Nat) : Int) := w_id (z := (j : Int) + 1) (by omega) (by omega)
      have w1 : w64 (M + 1) = M + 1 := w_id (by omega) (by omega)
      have w2 : w64 ((M + 1) + 1) = (M + 1) + 1 := w_id (by omega) (by omega)
      have w3 : w64 (((M + 1) + 1) + 1) = ((M + 1) + 1) + 1 := w_id (by omega) (by omega)
      have w4 : w64 ((((M + 1) + 1) + 1) + 1) = (((M + 1) + 1) + 1) + 1 := w_id (by omega) (by omega)
      have w5 : w64 (((((M + 1) + 1) + 1) + 1) + 1) = ((((M + 1) + 1) + 1) + 1) + 1 := w_id (by omega) (by omega)
      rw [hx]
      simp only [laws_markPortS.l1, h0, h1, h2, h3, h4, h5, w1, w2, w3, w4, w5, ↓reduceIte, Option.bind_some, Int.toNat_natCast]
      exact ih'
  have := l xs.length 0 k (by omega) (by omega)
  unfold laws_markPortS.f
  exact this
theorem heldPortS_f {k L : Nat} {m : Int} (hl : L ≤ 1048576) (hk : 1048576 < k) (hm : 0 ≤ m) (hm2 : m ≤ 4611686018427387904) : laws_heldPortS.f k (mk FPortS NPortS m L) m = some (mi NPortS m L) := by
  have hL : (mk FPortS NPortS m L).length = L := mk_len _ _ _ _
  have l : ∀ (d j n : Nat), j + d = L → d < n → laws_heldPortS.l1 k n (mi NPortS m j, (j : Int), mk FPortS NPortS m L, ()) = some (mi NPortS m L) := by
    intro d
    induction d with
    | zero =>
      intro j n hj hn
      obtain ⟨n, rfl⟩ : ∃ n', n = n' + 1 := ⟨n - 1, by omega⟩
      obtain rfl : j = L := by omega
      rw [laws_heldPortS.l1, if_neg (by rw [hL]; omega)]
    | succ d ih =>
      intro j n hj hn
      obtain ⟨n, rfl⟩ : ∃ n', n = n' + 1 := ⟨n - 1, by omega⟩
      have e := MPortS_le (m := m) j
      have ih' := ih (j + 1) n (by omega) (by omega)
      rw [show mi NPortS m (j + 1) = NPortS (mi NPortS m j) from rfl] at ih'
      have h3 : el (.pair (.int .i64) (.pair (.int .i64) (.pair (.int .i64) (.pair (.int .i64) (.int .i64))))) (mk FPortS NPortS m L) j = FPortS (mi NPortS m j) := el_at (mk_at _ _ _ _ _ (by omega))
      clear ih
      generalize mi NPortS m j = M at *
      have h0 : (0 : Int) ≤ (j : Int) := by omega
      have h1 : (j : Int) < (L : Int) := by omega
      have h4 : w64 ((j : Int) + 1) = ((j + 1 : Nat) : Int) := w_id (z := (j : Int) + 1) (by omega) (by omega)
      have w1 : w64 (M + 1) = M + 1 := w_id (by omega) (by omega)
      have w2 : w64 ((M + 1) + 1) = (M + 1) + 1 := w_id (by omega) (by omega)
      have w3 : w64 (((M + 1) + 1) + 1) = ((M + 1) + 1) + 1 := w_id (by omega) (by omega)
      have w4 : w64 ((((M + 1) + 1) + 1) + 1) = (((M + 1) + 1) + 1) + 1 := w_id (by omega) (by omega)
      have w5 : w64 (((((M + 1) + 1) + 1) + 1) + 1) = ((((M + 1) + 1) + 1) + 1) + 1 := w_id (by omega) (by omega)
      simp only [laws_heldPortS.l1, h0, h1, hL, h3, h4, FPortS, w1, w2, w3, w4, w5, ↓reduceIte, Option.bind_some, Int.toNat_natCast, not_true_eq_false]
      exact ih'
  have := l L 0 k (by omega) (by omega)
  unfold laws_heldPortS.f
  exact this
theorem eqRule_f {k : Nat} {x : Int × Int × Int} : laws_eqRule.f k x x = some true := by
  simp only [laws_eqRule.f, not_true_eq_false, ↓reduceIte]
theorem eqRuleS_f {k : Nat} {xs : List (Int × Int × Int)} (hl : xs.length ≤ 1048576) (hk : 1048576 < k) : laws_eqRuleS.f k xs xs = some true := by
  have l : ∀ (d j n : Nat), j + d = xs.length → d < n → laws_eqRuleS.l1 k n ((j : Int), xs, xs, ()) = some true := by
    intro d
    induction d with
    | zero =>
      intro j n hj hn
      obtain ⟨n, rfl⟩ : ∃ n', n = n' + 1 := ⟨n - 1, by omega⟩
      rw [laws_eqRuleS.l1, if_neg (by omega)]
    | succ d ih =>
      intro j n hj hn
      obtain ⟨n, rfl⟩ : ∃ n', n = n' + 1 := ⟨n - 1, by omega⟩
      have h0 : (0 : Int) ≤ (j : Int) := by omega
      have h1 : (j : Int) < (xs.length : Int) := by omega
      have h4 : w64 ((j : Int) + 1) = ((j + 1 : Nat) : Int) := w_id (z := (j : Int) + 1) (by omega) (by omega)
      simp only [laws_eqRuleS.l1, eqRule_f, h0, h1, h4, ↓reduceIte, Option.bind_some, Int.toNat_natCast, not_true_eq_false]
      exact ih (j + 1) n (by omega) (by omega)
  have := l xs.length 0 k (by omega) (by omega)
  unfold laws_eqRuleS.f
  rw [if_neg (fun h => h rfl)]
  exact this
def FRuleS : Int → Int × Int × Int := fun m => (m, m + 1, (m + 1) + 1)
def NRuleS : Int → Int := fun m => ((m + 1) + 1) + 1
theorem MRuleS_le {m : Int} : ∀ j : Nat, mi NRuleS m j = m + 3 * (j : Int)
  | 0 => by simp [mi]
  | j + 1 => by
    show NRuleS (mi NRuleS m j) = _
    rw [MRuleS_le j]
    unfold NRuleS
    omega
theorem markRuleS_f {k : Nat} {xs : List (Int × Int × Int)} {m : Int} (hl : xs.length ≤ 1048576) (hk : 1048576 < k) (hm : 0 ≤ m) (hm2 : m ≤ 4611686018427387904) : laws_markRuleS.f k xs m = some (mi NRuleS m xs.length, mk FRuleS NRuleS m xs.length) := by
  have l : ∀ (d j n : Nat), j + d = xs.length → d < n → laws_markRuleS.l1 k n (mi NRuleS m j, (j : Int), mk FRuleS NRuleS m j ++ xs.drop j, ()) = some (mi NRuleS m xs.length, mk FRuleS NRuleS m xs.length) := by
    intro d
    induction d with
    | zero =>
      intro j n hj hn
      obtain ⟨n, rfl⟩ : ∃ n', n = n' + 1 := ⟨n - 1, by omega⟩
      obtain rfl : j = xs.length := by omega
      rw [laws_markRuleS.l1, if_neg (by rw [List.drop_length, List.append_nil, mk_len]; omega), List.drop_length, List.append_nil]
    | succ d ih =>
      intro j n hj hn
      obtain ⟨n, rfl⟩ : ∃ n', n = n' + 1 := ⟨n - 1, by omega⟩
      have e := MRuleS_le (m := m) j
      have e2 : mi NRuleS m (j + 1) = NRuleS (mi NRuleS m j) := rfl
      have e3 := mk_snoc FRuleS NRuleS m j
      have ih' := ih (j + 1) n (by omega) (by omega)
      rw [e2, e3, List.append_assoc, List.singleton_append] at ih'
      clear ih e2 e3
      obtain ⟨x, hx⟩ : ∃ x, xs.drop j = x :: xs.drop (j + 1) := ⟨_, List.drop_eq_getElem_cons (by omega)⟩
      have hp : (mk FRuleS NRuleS m j).length = j := mk_len _ _ _ _
      generalize mk FRuleS NRuleS m j = pre at *
      generalize mi NRuleS m j = M at *
      have h0 : (0 : Int) ≤ (j : Int) := by omega
      have h1 : (j : Int) < (xs.length : Int) := by omega
      have h2 : ∀ y, (pre ++ y :: xs.drop (j + 1)).length = xs.length := fun y => by rw [List.length_append, List.length_cons, List.length_drop]; omega
      have h3 : ∀ y, el (.pair (.int .i64) (.pair (.int .i64) (.int .i64))) (pre ++ y :: xs.drop (j + 1)) j = y := fun y => el_mid hp
      have h5 : ∀ y z, (pre ++ y :: xs.drop (j + 1)).set j z = pre ++ z :: xs.drop (j + 1) := fun y z => set_mid hp
      have h4 : w64 ((j : Int) + 1) = ((j + 1 : Nat) : Int) := w_id (z := (j : Int) + 1) (by omega) (by omega)
      have w1 : w64 (M + 1) = M + 1 := w_id (by omega) (by omega)
      have w2 : w64 ((M + 1) + 1) = (M + 1) + 1 := w_id (by omega) (by omega)
      have w3 : w64 (((M + 1) + 1) + 1) = ((M + 1) + 1) + 1 := w_id (by omega) (by omega)
      rw [hx]
      simp only [laws_markRuleS.l1, h0, h1, h2, h3, h4, h5, w1, w2, w3, ↓reduceIte, Option.bind_some, Int.toNat_natCast]
      exact ih'
  have := l xs.length 0 k (by omega) (by omega)
  unfold laws_markRuleS.f
  exact this
theorem heldRuleS_f {k L : Nat} {m : Int} (hl : L ≤ 1048576) (hk : 1048576 < k) (hm : 0 ≤ m) (hm2 : m ≤ 4611686018427387904) : laws_heldRuleS.f k (mk FRuleS NRuleS m L) m = some (mi NRuleS m L) := by
  have hL : (mk FRuleS NRuleS m L).length = L := mk_len _ _ _ _
  have l : ∀ (d j n : Nat), j + d = L → d < n → laws_heldRuleS.l1 k n (mi NRuleS m j, (j : Int), mk FRuleS NRuleS m L, ()) = some (mi NRuleS m L) := by
    intro d
    induction d with
    | zero =>
      intro j n hj hn
      obtain ⟨n, rfl⟩ : ∃ n', n = n' + 1 := ⟨n - 1, by omega⟩
      obtain rfl : j = L := by omega
      rw [laws_heldRuleS.l1, if_neg (by rw [hL]; omega)]
    | succ d ih =>
      intro j n hj hn
      obtain ⟨n, rfl⟩ : ∃ n', n = n' + 1 := ⟨n - 1, by omega⟩
      have e := MRuleS_le (m := m) j
      have ih' := ih (j + 1) n (by omega) (by omega)
      rw [show mi NRuleS m (j + 1) = NRuleS (mi NRuleS m j) from rfl] at ih'
      have h3 : el (.pair (.int .i64) (.pair (.int .i64) (.int .i64))) (mk FRuleS NRuleS m L) j = FRuleS (mi NRuleS m j) := el_at (mk_at _ _ _ _ _ (by omega))
      clear ih
      generalize mi NRuleS m j = M at *
      have h0 : (0 : Int) ≤ (j : Int) := by omega
      have h1 : (j : Int) < (L : Int) := by omega
      have h4 : w64 ((j : Int) + 1) = ((j + 1 : Nat) : Int) := w_id (z := (j : Int) + 1) (by omega) (by omega)
      have w1 : w64 (M + 1) = M + 1 := w_id (by omega) (by omega)
      have w2 : w64 ((M + 1) + 1) = (M + 1) + 1 := w_id (by omega) (by omega)
      have w3 : w64 (((M + 1) + 1) + 1) = ((M + 1) + 1) + 1 := w_id (by omega) (by omega)
      simp only [laws_heldRuleS.l1, h0, h1, hL, h3, h4, FRuleS, w1, w2, w3, ↓reduceIte, Option.bind_some, Int.toNat_natCast, not_true_eq_false]
      exact ih'
  have := l L 0 k (by omega) (by omega)
  unfold laws_heldRuleS.f
  exact this
theorem eqStringS_f {k : Nat} {xs : List ByteArray} (hl : xs.length ≤ 1048576) (hk : 1048576 < k) : laws_eqStringS.f k xs xs = some true := by
  have l : ∀ (d j n : Nat), j + d = xs.length → d < n → laws_eqStringS.l1 k n ((j : Int), xs, xs, ()) = some true := by
    intro d
    induction d with
    | zero =>
      intro j n hj hn
      obtain ⟨n, rfl⟩ : ∃ n', n = n' + 1 := ⟨n - 1, by omega⟩
      rw [laws_eqStringS.l1, if_neg (by omega)]
    | succ d ih =>
      intro j n hj hn
      obtain ⟨n, rfl⟩ : ∃ n', n = n' + 1 := ⟨n - 1, by omega⟩
      have h0 : (0 : Int) ≤ (j : Int) := by omega
      have h1 : (j : Int) < (xs.length : Int) := by omega
      have h4 : w64 ((j : Int) + 1) = ((j + 1 : Nat) : Int) := w_id (z := (j : Int) + 1) (by omega) (by omega)
      simp only [laws_eqStringS.l1, h0, h1, h4, ↓reduceIte, Option.bind_some, Int.toNat_natCast, not_true_eq_false]
      exact ih (j + 1) n (by omega) (by omega)
  have := l xs.length 0 k (by omega) (by omega)
  unfold laws_eqStringS.f
  rw [if_neg (fun h => h rfl)]
  exact this
end Go.Proofs.Ythncjcfnpfajaaa.Pure
