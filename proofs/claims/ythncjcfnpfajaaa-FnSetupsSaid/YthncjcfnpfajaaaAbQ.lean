/- What each operation of the abstract machine says of the world: rows that are read, addresses, lengths, cuts. Plain lemmas; no condition. -/
import Derived.Test.YthncjcfnpfajaaaAbP
namespace Go.Proofs.YthncjcfnpfajaaaA
open Go Go.RowKit Go.Proofs.YthncjcfnpfajaaaW.PrintWords
set_option linter.unusedVariables false
set_option linter.unusedSimpArgs false

/-- A row that can be read. -/
def RdH (w1 : World) (h : Hd) (t : Ty) (xs : List (den t)) : Prop := h.z = sz t ∧ h.n = xs.length ∧ xs.length ≤ h.c ∧ (kd t).C w1 h.A xs.length xs
section
variable {α : Type} {me : Nat → Option Part} {r : α} {w w1 : World} {ok live : Nat → Prop} {ρ : Nat → Hd} {fp : Nat → Nat → Prop}
theorem Mem.row (H : Mem w ok live w1 ρ fp me) {i ver e : Nat} {t : Ty} {xs : List (den t)} (hi : me i = some (.row ver e t xs)) : RdH w1 (ρ i) t xs := by
 obtain ⟨hz, hr⟩ := H.on i _ hi
 obtain ⟨h1, h2, h3⟩ := C_of_R hr
 exact ⟨hz, h1, by omega, h3⟩
theorem Mem.view (H : Mem w ok live w1 ρ fp me) {i : Nat} {q : Bool} {e : Nat} {t : Ty} {xs : List (den t)} (hi : me i = some (.view q e t xs)) : RdH w1 (ρ i) t xs := by
 obtain ⟨hz, h1, h2, _, h5⟩ := H.on i _ hi
 exact ⟨hz, h1, h2, C_of_VC h5⟩
theorem castL_out {t t' : Ty} {xs : List (den t)} {k : List (den t') → Prg α} (h : Out me (castL t t' xs k) r) : ∃ he : t = t', Out me (k (he ▸ xs)) r := by
 unfold castL at h
 split at h
 ·rename_i he _; exact ⟨he, h⟩
 ·exact h.elim
theorem sel_out : ∀ {t : Ty} {path : List Bool} {x : den t} {k : (e : Nat) → (t' : Ty) → List (den t') → Prg α}, Out me (sel t path x k) r →
  ∃ e t' ys off, Out me (k e t' ys) r ∧ pathOff t path = some off ∧ pathZ t path = sz t' ∧ off < sz t ∧ ∀ w c, (kd t).K w x c → ∃ A' c', c[off]? = some (.slice A' ys.length c') ∧ ys.length ≤ c' ∧ (kd t').C w A' ys.length ys := by
 intro t
 induction t with
 | int k => intro path x k h; exact h.elim
 | bool => intro path x k h; exact h.elim
 | str => intro path x k h; exact h.elim
 | sl e t ih =>
  intro path x k h
  cases path with
  | cons => exact h.elim
  | nil =>
   refine ⟨e, t, x, 0, h, rfl, rfl, Nat.one_pos, ?_⟩
   rintro w c ⟨A, c', rfl, hl, hc⟩
   exact ⟨A, c', rfl, hl, hc⟩
 | pair a b iha ihb =>
  intro path x k h
  cases path with
  | nil => exact h.elim
  | cons q path =>
   cases q with
   | false =>
    obtain ⟨e, t', ys, off, h1, h2, hz, h3, h4⟩ := iha (x := x.1) h
    refine ⟨e, t', ys, off, h1, h2, hz, by simp only [sz]; omega, ?_⟩
    rintro w c ⟨c0, c1, rfl, k0, k1⟩
    obtain ⟨A', c', h5, h6, h7⟩ := h4 w c0 k0
    refine ⟨A', c', ?_, h6, h7⟩
    rw [List.getElem?_append_left (List.getElem?_eq_some_iff.1 h5).1]
    exact h5
   | true =>
    obtain ⟨e, t', ys, off, h1, h2, hz, h3, h4⟩ := ihb (x := x.2) h
    refine ⟨e, t', ys, sz a + off, h1, by simp [pathOff, h2], hz, by simp only [sz]; omega, ?_⟩
    rintro w c ⟨c0, c1, rfl, k0, k1⟩
    obtain ⟨A', c', h5, h6, h7⟩ := h4 w c1 k1
    refine ⟨A', c', ?_, h6, h7⟩
    have hl : c0.length = sz a := by rw [(kd a).K_len k0, kd_sz]
    rw [List.getElem?_append_right (by omega), hl, Nat.add_sub_cancel_left]
    exact h5
theorem adr_some {A : Option Addr} {ad : Addr} (h : A = some ad) : adr A = ad := by rw [h]; rfl
/-- A row inside an element. -/
theorem sub_read {h h' : Hd} {t : Ty} {i : Nat} {xs : List (den t)} {path : List Bool} {k : (e : Nat) → (t' : Ty) → List (den t') → Prg α} (hr : RdH w1 h t xs) (hs : SubAt w1 h h' t i xs path) (ho : Out me (sel t path (el t xs i) k) r) : ∃ e t' ys, Out me (k e t' ys) r ∧ RdH w1 h' t' ys := by
 obtain ⟨e, t', ys, off, h1, h2, hz, h3, h4⟩ := sel_out ho
 obtain ⟨qz, off', q1, q2, q3⟩ := hs
 rw [h2] at q1
 injection q1 with q1
 subst q1
 obtain ⟨ad, c, hA, hl, hK, hc⟩ := Kd.C_get hr.2.2.2 (zero t) (i : Int) (Int.natCast_nonneg i) (by omega)
 simp only [Int.toNat_natCast] at hK hc
 obtain ⟨A', c', h5, h6, h7⟩ := h4 w1 c hK
 have hcell := hc off _ h5
 rw [adr_some hA] at q3
 rw [kd_sz] at hcell
 rw [hcell] at q3
 injection q3 with q3
 injection q3 with e1 e2 e3
 refine ⟨e, t', ys, h1, qz.trans hz, e2.symm, ?_, ?_⟩
 ·rw [← e3]; exact h6
 ·rw [← e1]; exact h7
theorem getRow_out (H : Mem w ok live w1 ρ fp me) {i : Nat} {k : (e : Nat) → (t : Ty) → List (den t) → Prg α} (h : Out me (getRow i k) r) : ∃ e t xs, Out me (k e t xs) r ∧ RdH w1 (ρ i) t xs := by
 obtain ⟨p, hp, h⟩ := h
 cases p with
 | blk T cs => exact h.elim
 | row ver e t xs => exact ⟨e, t, xs, h, H.row hp⟩
 | view q e t xs => exact ⟨e, t, xs, h, H.view hp⟩
 | sub r0 ver j path =>
  obtain ⟨p, hq, h⟩ := h
  have hon := H.on i _ hp
  cases p with
  | blk => exact h.elim
  | sub => exact h.elim
  | row v e t xs =>
   obtain ⟨hv, h⟩ := bif_fail h
   have hv := Nat.eq_of_beq_eq_true hv
   exact sub_read (H.row hq) ((hon.1 v e t xs hq).2 hv) h
  | view o e t xs => exact sub_read (H.view hq) (hon.2 o e t xs hq) h
theorem cutOf_len {β : Type} (xs : List β) (lo hi : Option Nat) : (cutOf xs lo hi).length = min (hi.getD xs.length) xs.length - lo.getD 0 := by
 cases lo <;> cases hi <;> simp [cutOf]
theorem cut_add0 (A : Option Addr) (c size : Nat) : cutA A c 0 size = A := by
 unfold cutA
 split
 ·rfl
 ·cases A with
  | none => rfl
  | some a => simp [Addr.add]
/-- A slice that is read: its value, and that it reads so. -/
theorem rdRow_out (H : Mem w ok live w1 ρ fp me) {l : Leaf} {e : Nat} {t : Ty} {k : List (den t) → Prg α} (hok : l.Ok ρ) (h : Out me (rdRow l e t k) r) :
  ∃ xs A c, Out me (k xs) r ∧ l.val ρ = .slice A xs.length c ∧ xs.length ≤ c ∧ (kd t).C w1 A xs.length xs := by
 cases l with
 | own i =>
  obtain ⟨e', t', xs, h, _, h1, h2, h3⟩ := getRow_out H h
  obtain ⟨_, h⟩ := bif_fail h
  obtain ⟨he, h⟩ := castL_out h
  subst he
  refine ⟨xs, (ρ i).A, (ρ i).c, h, ?_, h2, h3⟩
  simp only [Leaf.val, Hd.sl, h1]
 | cut i lo hi n size =>
  obtain ⟨e', t', xs, h', hz, h1, h2, h3⟩ := getRow_out H h
  clear h
  obtain ⟨_, h'⟩ := bif_fail h'
  obtain ⟨he, h'⟩ := castL_out h'
  subst he
  obtain ⟨hlh, hh, hn, hs⟩ := hok
  rw [h1] at hn hh hlh
  subst hs
  have hlen : n = (cutOf xs lo hi).length := by rw [cutOf_len, hn]; omega
  have hxs : (xs.take (hi.getD xs.length)).drop (lo.getD 0) = cutOf xs lo hi := by
   cases lo <;> cases hi <;> simp [cutOf]
  have hl : (xs.take (hi.getD xs.length)).length = hi.getD xs.length := by rw [List.length_take]; omega
  refine ⟨cutOf xs lo hi, cutA (ρ i).A (ρ i).c (lo.getD 0) (sz t'), cutC (ρ i).c (lo.getD 0), h', ?_, ?_, ?_⟩
  ·simp only [Leaf.val, hlen, hz]
  ·rw [← hlen, hn]; unfold cutC; omega
  ·have hT := Kd.C_take h3 (m := hi.getD xs.length) hh
   have hD := Kd.C_drop (c := (ρ i).c) hT (m := lo.getD 0) (by omega) (by omega)
   rw [hxs, kd_sz] at hD
   exact hD
 | nil => exact ⟨[], none, 0, h, rfl, Nat.le_refl _, ⟨rfl, by simp, fun h => absurd h (Nat.lt_irrefl 0)⟩⟩
 | _ => exact h.elim
end
end Go.Proofs.YthncjcfnpfajaaaA
