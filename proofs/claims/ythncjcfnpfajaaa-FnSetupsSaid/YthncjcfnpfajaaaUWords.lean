/- Words for plain laws: numbers, lists, loops. Plain lemmas; no condition. -/
import Derived.Test.YthncjcfnpfajaaaAbOp
namespace Go.Proofs.YthncjcfnpfajaaaU
open Go Go.Proofs.YthncjcfnpfajaaaA
set_option linter.unusedVariables false
theorem w_id {z : Int} (h1 : -9223372036854775808 ≤ z) (h2 : z < 9223372036854775808) : IntKind.i64.wrap z = z := by
  rw [IntKind.wrap_i64]
  omega
theorem el_at {t : Ty} {xs : List (den t)} {i : Nat} {x : den t} (h : xs[i]? = some x) : el t xs i = x := by
  unfold el
  rw [List.getD_eq_getElem?_getD, h]
  rfl
theorem el_lt {t : Ty} {xs : List (den t)} {i : Nat} (h : i < xs.length) : xs[i]? = some (el t xs i) := by
  rw [el_at (List.getElem?_eq_getElem h)]
  exact List.getElem?_eq_getElem h
theorem el_mem {t : Ty} {xs : List (den t)} {i : Nat} (h : i < xs.length) : el t xs i ∈ xs := List.mem_of_getElem? (el_lt h)
theorem el_app {t : Ty} {xs ys : List (den t)} {i : Nat} (h : i < xs.length) : el t (xs ++ ys) i = el t xs i := el_at (by rw [List.getElem?_append_left h]; exact el_lt h)
theorem el_set_ne {t : Ty} {xs : List (den t)} {i j : Nat} {y : den t} (h : i ≠ j) : el t (xs.set i y) j = el t xs j := by
  unfold el
  rw [List.getD_eq_getElem?_getD, List.getD_eq_getElem?_getD, List.getElem?_set_ne h]
theorem el_set_self {t : Ty} {xs : List (den t)} {i : Nat} {y : den t} (h : i < xs.length) : el t (xs.set i y) i = y := el_at (by rw [List.getElem?_set_self h])
/-- A copy, made cell by cell. -/
theorem set_copy {α : Type} {xs : List α} {j d : Nat} {x z : α} (hx : xs[j]? = some x) (hl : j + (d + 1) = xs.length) : (xs.take j ++ List.replicate (d + 1) z).set j x = xs.take (j + 1) ++ List.replicate d z := by
  have hj : (xs.take j).length = j := by rw [List.length_take]; omega
  rw [List.set_append_right _ _ (by omega), hj, Nat.sub_self, List.replicate_succ, List.set_cons_zero, List.take_add_one, hx]
  simp
theorem len_copy {α : Type} {xs : List α} {j d : Nat} {z : α} (hl : j + d = xs.length) : (xs.take j ++ List.replicate d z).length = xs.length := by
  rw [List.length_append, List.length_take, List.length_replicate]; omega
/-! ### what an option tells -/
def Ok {α : Type} (o : Option α) (P : α → Prop) : Prop := ∃ r, o = some r ∧ P r
theorem Ok.mono {α : Type} {o : Option α} {P Q : α → Prop} (h : Ok o P) (f : ∀ r, P r → Q r) : Ok o Q := by
  obtain ⟨r, e, p⟩ := h
  exact ⟨r, e, f r p⟩
theorem ok_some {α : Type} {r : α} {P : α → Prop} (h : P r) : Ok (some r) P := ⟨r, rfl, h⟩
theorem ok_of {α : Type} {o : Option α} {r : α} {P : α → Prop} (e : o = some r) (h : P r) : Ok o P := ⟨r, e, h⟩
theorem ok_eq {α : Type} {o : Option α} {r : α} (h : Ok o (fun x => x = r)) : o = some r := by
  obtain ⟨r', e, rfl⟩ := h
  exact e
theorem ok_bind {α β : Type} {o : Option α} {g : α → Option β} {P : α → Prop} {Q : β → Prop} (h : Ok o P) (f : ∀ r, P r → Ok (g r) Q) : Ok (o.bind g) Q := by
  obtain ⟨r, rfl, p⟩ := h
  exact f r p
theorem ok_bind' {α β : Type} {o : Option α} {r : α} {g : α → Option β} {Q : β → Prop} (h : o = some r) (f : Ok (g r) Q) : Ok (o.bind g) Q := by
  rw [h]
  exact f
theorem ok_let {α β : Type} {r : α} {g : α → Option β} {Q : β → Prop} (f : Ok (g r) Q) : Ok ((some r).bind g) Q := f
theorem ok_if {α : Type} {c : Prop} [Decidable c] {a b : Option α} {P : α → Prop} (h1 : c → Ok a P) (h2 : ¬ c → Ok b P) : Ok (if c then a else b) P := by
  by_cases h : c
  · rw [if_pos h]; exact h1 h
  · rw [if_neg h]; exact h2 h
theorem ok_grd {α : Type} {c : Prop} [Decidable c] {a b : Option α} {P : α → Prop} (h : c) (h1 : Ok a P) : Ok (if c then a else b) P := by
  rw [if_pos h]; exact h1
theorem ok_els {α : Type} {c : Prop} [Decidable c] {a b : Option α} {P : α → Prop} (h : ¬ c) (h1 : Ok b P) : Ok (if c then a else b) P := by
  rw [if_neg h]; exact h1
/-- A loop: what holds at its head, with a bound on the rounds that are left. -/
theorem ok_loop {S R : Type} {L : Nat → S → Option R} {P : R → Prop} (I : Nat → S → Prop)
    (step : ∀ d n s, I d s → (∀ d' s', d' < d → I d' s' → Ok (L n s') P) → Ok (L (n + 1) s) P) : ∀ n d s, d < n → I d s → Ok (L n s) P
  | 0, d, s, h, _ => absurd h (by omega)
  | n + 1, d, s, h, hI => step d n s hI (fun d' s' hd hI' => ok_loop I step n d' s' (by omega) hI')
/-- A loop over states that are numbered. -/
theorem ok_run {S R : Type} {L : Nat → S → Option R} {P : R → Prop} (st : Nat → S) (N : Nat)
    (step : ∀ i n, i < N → Ok (L n (st (i + 1))) P → Ok (L (n + 1) (st i)) P) (last : ∀ n, Ok (L (n + 1) (st N)) P) : ∀ d i n, i + d = N → d < n → Ok (L n (st i)) P
  | d, i, 0, _, h => absurd h (by omega)
  | 0, i, n + 1, h, _ => by
    obtain rfl : i = N := by omega
    exact last n
  | d + 1, i, n + 1, h, hn => step i n (by omega) (ok_run st N step last d (i + 1) n (by omega) (by omega))
/-! ### truth -/
noncomputable def B (p : Prop) : Bool := @decide p (Classical.propDecidable p)
theorem B_iff {p : Prop} : B p = true ↔ p := @decide_eq_true_iff p (Classical.propDecidable p)
theorem B_yes {p : Prop} (h : p) : B p = true := B_iff.2 h
theorem B_no {p : Prop} (h : ¬ p) : B p = false := by
  cases hb : B p with
  | false => rfl
  | true => exact absurd (B_iff.1 hb) h
theorem B_of {p : Prop} {b : Bool} (h : b = true ↔ p) : b = B p := by
  by_cases hp : p
  · rw [B_yes hp, h.2 hp]
  · rw [B_no hp]
    cases b with
    | false => rfl
    | true => exact absurd (h.1 rfl) hp
theorem B_dec {p : Prop} [d : Decidable p] : decide p = B p := B_of decide_eq_true_iff
theorem B_congr {p q : Prop} (h : p ↔ q) : B p = B q := by rw [propext h]
/-! ### marks -/
def mi (s : Int → Int) (m : Int) : Nat → Int
  | 0 => m
  | j + 1 => s (mi s m j)
def mk {α : Type} (F : Int → α) (s : Int → Int) (m : Int) (d : Nat) : List α := (List.range d).map fun j => F (mi s m j)
theorem mk_len {α : Type} (F : Int → α) (s : Int → Int) (m : Int) (d : Nat) : (mk F s m d).length = d := by simp [mk]
theorem mk_snoc {α : Type} (F : Int → α) (s : Int → Int) (m : Int) (d : Nat) : mk F s m (d + 1) = mk F s m d ++ [F (mi s m d)] := by simp [mk, List.range_succ]
theorem mk_at {α : Type} (F : Int → α) (s : Int → Int) (m : Int) (d j : Nat) (h : j < d) : (mk F s m d)[j]? = some (F (mi s m j)) := by simp [mk, h]
theorem el_mid {t : Ty} {pre xs : List (den t)} {y : den t} {j : Nat} (h : pre.length = j) : el t (pre ++ y :: xs) j = y := el_at (by rw [List.getElem?_append_right (by omega), h, Nat.sub_self]; rfl)
theorem set_mid {α : Type} {pre xs : List α} {y z : α} {j : Nat} (h : pre.length = j) : (pre ++ y :: xs).set j z = pre ++ z :: xs := by
  rw [List.set_append_right _ _ (by omega), h, Nat.sub_self, List.set_cons_zero]
/-! ### what comes in -/
theorem wf_i64 {z : Int} (h : Wf (.int .i64) z) : -9223372036854775808 ≤ z ∧ z < 9223372036854775808 := by
  have h' : Lit.wf (Lit.int .i64 z) = true := h
  simp [Lit.wf, IntKind.min, IntKind.max, IntKind.signed, IntKind.bits] at h'
  omega
theorem wf_u8 {z : Int} (h : Wf (.int .u8) z) : 0 ≤ z ∧ z < 256 := by
  have h' : Lit.wf (Lit.int .u8 z) = true := h
  simp [Lit.wf, IntKind.min, IntKind.max, IntKind.signed, IntKind.bits] at h'
  omega
end Go.Proofs.YthncjcfnpfajaaaU
