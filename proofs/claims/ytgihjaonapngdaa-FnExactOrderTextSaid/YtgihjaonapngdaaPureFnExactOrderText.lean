/- The pure statement of FnExactOrderText: both write the same of every order. No condition. -/
import Derived.Test.YtgihjaonapngdaaPFnExactOrderTextx5
namespace Go.Proofs.Ytgihjaonapngdaa.Pure
open Go.RowKit Go.Proofs.Ytgihjaonapngdaa.PFnExactOrderText Go.Proofs.YtgihjaonapngdaaW.PrintWords Go.Proofs.YtgihjaonapngdaaW.PrintLast
set_option linter.unusedVariables false
set_option linter.unusedSimpArgs false
theorem wrap_id {n : Int} (h0 : -9223372036854775808 ≤ n) (h1 : n ≤ 9223372036854775807) : wrap64 n = n := by unfold wrap64; omega
theorem wrap_succ {i n : Nat} (h : i < n) (hn : n ≤ 1048576) : wrap64 ((i : Int) + 1) = ((i + 1 : Nat) : Int) := by rw [wrap_id (by omega) (by omega)]; omega
theorem ev_now {α : Type} {g : Nat → Option α} {r : α} (h : ∀ k, g k = some r) : Ev g r := ⟨0, fun k _ => h k⟩
theorem ev_all {α : Type} {g : Nat → Option α} {r : α} (h : Ev g r) : ∃ K, ∀ k, K ≤ k → g k = some r := h

def inn (a b c : Int) : Bool := decide (a ≥ b) && decide (a ≤ c)
theorem in_s (a b c : Int) : spec_l01In.f a b c = some (inn a b c) := by unfold spec_l01In.f inn; by_cases h : a ≥ b <;> simp [h]
theorem in_i (a b c : Int) : impl_within.f a b c = some (inn a b c) := by unfold impl_within.f inn; by_cases h : a ≥ b <;> simp [h]
theorem inn_mn (b m : Int) : inn b 1 (mn 1000 m) = (inn b 1 1000 && decide (b ≤ m)) := by
  unfold inn mn
  rw [Bool.eq_iff_iff]
  split <;> simp <;> omega
theorem both (a b c d : Int) : ∃ r, spec_OrderOk.f a b c d = some r ∧ impl_OrderOk.f a b c d = some r ∧ (r = true → 0 ≤ b ∧ b ≤ 5000 ∧ 0 ≤ c ∧ c ≤ 5000 ∧ 0 ≤ d ∧ d ≤ 5000) := by
  by_cases h1 : a = 1
  · simp only [spec_OrderOk.f, impl_OrderOk.f, if_pos h1, in_s, in_i, Option.bind_some, inn_mn]
    cases hc : inn c 1 1000 <;> cases hb : inn b 1 1000 <;> by_cases hm : b ≤ wrap64 (3 * c) <;> simp [hm]
    cases hd : inn d 1 5000
    · simp
    · clear hm
      simp [inn] at hb hc hd
      simp
      omega
  · by_cases h2 : a = 2
    · subst h2
      simp only [spec_OrderOk.f, impl_OrderOk.f, if_neg h1, if_pos, in_s, in_i, Option.bind_some]
      cases hd : inn d 1 100 <;> by_cases hb : b = 0 <;> by_cases hc : c = 0 <;> simp [hb, hc]
      simp [inn] at hd
      omega
    · simp only [spec_OrderOk.f, impl_OrderOk.f, if_neg h1, if_neg h2, in_s, in_i, Option.bind_some]
      cases inn a 3 6 <;> by_cases hb : b = 0 <;> by_cases hc : c = 0 <;> simp [hb, hc]
      omega

/-! sums -/
def InR (y : Int) : Prop := 0 ≤ y ∧ y < 4294967296
theorem xor_in (a b : Int) : InR (Go.bits .xor .u32 a b) := by
  have h : ∀ n : Int, 0 ≤ IntKind.u32.wrap n ∧ IntKind.u32.wrap n < 4294967296 := fun n => by
    simp [IntKind.wrap, IntKind.bits, IntKind.signed]
    omega
  simp only [Go.bits]
  exact h _
theorem and_255 (x : Int) (h0 : 0 ≤ x) (h1 : x < 9223372036854775808) : Go.bits .and .i64 x 255 = x % 256 := by
  have := bits_mask .i64 63 (by decide) (fun n a b => by rw [IntKind.wrap_i64]; omega) 8 (by decide) x h0 (by simpa using h1)
  simpa using this
theorem same_sum : ∀ k, (∀ a b c, impl_SumMore.l0 k a b c = spec_SumMore.l0 k a b c) ∧ (∀ a b c d, impl_SumMore.l1 k a b c d = spec_SumMore.l1 k a b c d) := by
  intro k
  induction k with
  | zero => exact ⟨fun _ _ _ => rfl, fun _ _ _ _ => rfl⟩
  | succ k ih => exact ⟨fun a b c => by simp only [impl_SumMore.l0, spec_SumMore.l0, ih.2], fun a b c d => by simp only [impl_SumMore.l1, spec_SumMore.l1, ih.1, ih.2]⟩
theorem sum_bits (s : ByteArray) (c : Int) (hn : ∀ y, InR y → ∃ r, InR r ∧ Ev (fun k => spec_SumMore.l0 k y s (wrap64 (c + 1))) r) : ∀ d i, i + d = 8 → ∀ x, InR x → ∃ r, InR r ∧ Ev (fun k => spec_SumMore.l1 k x s c (i : Nat)) r := by
  intro d
  induction d with
  | zero =>
    intro i hi x hx
    obtain ⟨r, hr, hE⟩ := hn x hx
    refine ⟨r, hr, Ev.step (fun k => ?_) hE⟩
    simp only [spec_SumMore.l1, if_neg (show ¬ ((i : Int) < 8) by omega)]
  | succ d ih =>
    intro i hi x hx
    have hw : wrap64 ((i : Int) + 1) = ((i + 1 : Nat) : Int) := wrap_succ (n := 8) (by omega) (by omega)
    by_cases h1 : Int.tmod x 2 = 1
    · obtain ⟨r, hr, hE⟩ := ih (i + 1) (by omega) (Go.bits .xor .u32 ((Int.tdiv x 2) % 4294967296) 3558460437) (xor_in _ _)
      refine ⟨r, hr, Ev.step (fun k => ?_) hE⟩
      simp only [spec_SumMore.l1, if_pos (show (i : Int) < 8 by omega), if_pos h1, hw]
    · obtain ⟨r, hr, hE⟩ := ih (i + 1) (by omega) ((Int.tdiv x 2) % 4294967296) ⟨Int.emod_nonneg _ (by decide), Int.emod_lt_of_pos _ (by decide)⟩
      refine ⟨r, hr, Ev.step (fun k => ?_) hE⟩
      simp only [spec_SumMore.l1, if_pos (show (i : Int) < 8 by omega), if_neg h1, hw]
theorem sum_ends (s : ByteArray) (hs : s.size ≤ 1048576) : ∀ d i, i + d = s.size → ∀ x, InR x → ∃ r, InR r ∧ Ev (fun k => spec_SumMore.l0 k x s (i : Nat)) r := by
  intro d
  induction d with
  | zero =>
    intro i hi x hx
    refine ⟨x, hx, Ev.step (f := fun k => some x) (fun k => ?_) (Ev.now _)⟩
    simp only [spec_SumMore.l0, if_neg (show ¬ ((i : Int) < (s.size : Int)) by omega)]
  | succ d ih =>
    intro i hi x hx
    obtain ⟨r, hr, hE⟩ := sum_bits s i (fun y hy => by rw [wrap_succ (n := s.size) (by omega) hs]; exact ih (i + 1) (by omega) y hy) 8 0 rfl (Go.bits .xor .u32 x ((bt s i) % 4294967296)) (xor_in _ _)
    refine ⟨r, hr, Ev.step (fun k => ?_) hE⟩
    simp only [spec_SumMore.l0, if_pos (show (i : Int) < (s.size : Int) by omega), if_pos (show (0 : Int) ≤ (i : Int) by omega)]
    rfl
theorem nums_size (l : List Int) : (strOfNums l).size = l.length := by simp [strOfNums, ByteArray.size]
theorem high_ev (t : Int) (h : InR t) : Ev (fun k => impl_highFirst.f k t 4) (strOfNums [t / 16777216 % 256, t / 65536 % 256, t / 256 % 256, t % 256]) := by
  obtain ⟨h0, h1⟩ := h
  refine ⟨5, fun k hk => ?_⟩
  obtain ⟨m, rfl⟩ : ∃ m, k = m + 5 := ⟨k - 5, by omega⟩
  have w3 : wrap64 ((4 : Int) - 1) = 3 := by rw [wrap_id (by decide) (by decide)]; rfl
  have w2 : wrap64 ((3 : Int) - 1) = 2 := by rw [wrap_id (by decide) (by decide)]; rfl
  have w1 : wrap64 ((2 : Int) - 1) = 1 := by rw [wrap_id (by decide) (by decide)]; rfl
  have w0 : wrap64 ((1 : Int) - 1) = 0 := by rw [wrap_id (by decide) (by decide)]; rfl
  have wm : wrap64 ((0 : Int) - 1) = -1 := by rw [wrap_id (by decide) (by decide)]; rfl
  have e2 : t / 256 / 256 = t / 65536 := by omega
  have e3 : t / 65536 / 256 = t / 16777216 := by omega
  simp only [impl_highFirst.f, impl_highFirst.l0, w3, w2, w1, w0, wm, e2, e3, and_255 t h0 (by omega), and_255 (t / 256) (by omega) (by omega), and_255 (t / 65536) (by omega) (by omega), and_255 (t / 16777216) (by omega) (by omega), Int.emod_emod_of_dvd _ (Int.dvd_refl 256)]
  simp [List.replicate, List.set]
theorem sealed_both (s : ByteArray) (hs : s.size ≤ 20000) : ∃ r, Ev (fun k => spec_Sealed.f k s) r ∧ Ev (fun k => impl_Sealed.f k s) r := by
  obtain ⟨x, hx, hE⟩ := sum_ends s (by omega) s.size 0 (by omega) 4294967295 (by constructor <;> decide)
  have hE1 : Ev (fun k => spec_SumOf.f k s) x := Ev.bind hE (ev_now fun k => rfl)
  have hE2 : Ev (fun k => impl_SumOf.f k s) x := Ev.congr (fun k => by simp only [impl_SumOf.f, spec_SumOf.f, impl_SumMore.f, spec_SumMore.f, (same_sum k).1]) hE1
  have hw : wrap64 x = x := wrap_id (by have := hx.1; omega) (by have := hx.2; omega)
  refine ⟨(s ++ strOfNums [x / 16777216 % 256, x / 65536 % 256, x / 256 % 256, x % 256], true), ?_, ?_⟩
  · refine Ev.congr (fun k => by simp only [spec_Sealed.f, if_neg (show ¬ ((s.size : Int) > 20000) by omega)] <;> rfl) (Ev.bind hE1 (ev_now fun k => ?_))
    simp only [spec_l02Four.f, Option.bind_some]
    rw [if_pos (by rw [nums_size]; simp; omega)]
  · refine Ev.congr (fun k => by simp only [impl_Sealed.f, if_neg (show ¬ ((s.size : Int) > 20000) by omega)] <;> rfl) (Ev.bind hE2 (Ev.congr (fun k => by rw [hw] <;> rfl) (Ev.bind (high_ev x hx) (ev_now fun k => ?_))))
    rw [if_pos (by rw [nums_size]; simp; omega)]

/-! numbers of a few bytes -/
theorem var_same : ∀ k x acc, impl_VarText.l0 k x acc = (spec_l01Var.l0 k x acc).map (fun s => (s, true)) := by
  intro k
  induction k with
  | zero => intro x acc; rfl
  | succ k ih =>
    intro x acc
    simp only [impl_VarText.l0, spec_l01Var.l0, ih]
    split <;> split <;> rfl
theorem var_ends (x : Int) (h0 : 0 ≤ x) (h1 : x < 16384) : ∃ s : ByteArray, s.size ≤ 2 ∧ Ev (fun k => spec_l01Var.f k x) s := by
  by_cases hx : x > 127
  · have hd : Int.tdiv x 128 = x / 128 := Int.tdiv_eq_ediv_of_nonneg h0
    have hw : wrap64 (x / 128) = x / 128 := wrap_id (by omega) (by omega)
    refine ⟨strOfNums ([] ++ [(wrap64 ((Int.tmod x 128) + 128)) % 256] ++ [x / 128 % 256]), by rw [nums_size]; simp, 2, fun k hk => ?_⟩
    obtain ⟨m, rfl⟩ : ∃ m, k = m + 2 := ⟨k - 2, by omega⟩
    simp only [spec_l01Var.f, spec_l01Var.l0, if_pos hx, hd, hw, if_neg (show ¬ (x / 128 > 127) by omega)]
    simp
  · refine ⟨strOfNums ([] ++ [x % 256]), by rw [nums_size]; simp, 1, fun k hk => ?_⟩
    obtain ⟨m, rfl⟩ : ∃ m, k = m + 1 := ⟨k - 1, by omega⟩
    simp only [spec_l01Var.f, spec_l01Var.l0, if_neg hx]
    simp
theorem varText_ev {x : Int} (h0 : 0 ≤ x) (h1 : x ≤ 5000) {s : ByteArray} (h : Ev (fun k => spec_l01Var.f k x) s) : Ev (fun k => impl_VarText.f k x) (s, true) := by
  have hi : inn x 0 1000000000 = true := by simp [inn]; omega
  refine Ev.congr (fun k => by simp only [impl_VarText.f, in_i, hi, Option.bind_some, if_true, var_same] <;> rfl) ?_
  obtain ⟨K, hK⟩ := h
  exact ⟨K, fun k hk => by have := hK k hk; simp only [spec_l01Var.f] at this; simp [this]⟩

theorem texts (a b c d : Int) : ∃ r, Ev (fun k => spec_OrderText.f k a b c d) r ∧ Ev (fun k => impl_OrderText.f k a b c d) r := by
  obtain ⟨t, h1, h2, h3⟩ := both a b c d
  cases t with
  | false => exact ⟨_, ev_now (r := ((⟨#[]⟩ : ByteArray), false)) fun k => by simp [spec_OrderText.f, h1], ev_now fun k => by simp [impl_OrderText.f, h2]⟩
  | true =>
    obtain ⟨b0, b1, c0, c1, d0, d1⟩ := h3 rfl
    obtain ⟨sb, zb, eb⟩ := var_ends b b0 (by omega)
    obtain ⟨sc, zc, ec⟩ := var_ends c c0 (by omega)
    obtain ⟨sd, zd, ed⟩ := var_ends d d0 (by omega)
    have za : (strOfNums [a % 256]).size = 1 := by rw [nums_size]; rfl
    have zs : (((strOfNums [a % 256] ++ sb) ++ sc) ++ sd).size ≤ 20000 := by simp only [ByteArray.size_append]; omega
    obtain ⟨⟨r1, r2⟩, e1, e2⟩ := sealed_both (((strOfNums [a % 256] ++ sb) ++ sc) ++ sd) zs
    refine ⟨(r1, r2), ?_, ?_⟩
    · refine Ev.congr (fun k => by simp only [spec_OrderText.f, h1, Option.bind_some, if_true] <;> rfl) (Ev.bind eb ?_)
      refine Ev.congr (fun k => by rw [if_pos (by omega)]) (Ev.bind ec ?_)
      refine Ev.congr (fun k => by rw [if_pos (by rw [ByteArray.size_append]; omega)]) (Ev.bind ed ?_)
      refine Ev.congr (fun k => by rw [if_pos (by simp only [ByteArray.size_append]; omega)]) (Ev.bind e1 (ev_now fun k => rfl))
    · have hn : Ev (fun k => impl_numbers.f k [b, c, d]) ((sb ++ sc) ++ sd) := by
        have vb := varText_ev b0 b1 eb
        have vc := varText_ev c0 c1 ec
        have vd := varText_ev d0 d1 ed
        have he : (⟨#[]⟩ : ByteArray) ++ sb = sb := ByteArray.empty_append
        have hz : (⟨#[]⟩ : ByteArray).size = 0 := rfl
        have w1 : wrap64 ((0 : Int) + 1) = 1 := by rw [wrap_id (by decide) (by decide)]; rfl
        have w2 : wrap64 ((1 : Int) + 1) = 2 := by rw [wrap_id (by decide) (by decide)]; rfl
        have w3 : wrap64 ((2 : Int) + 1) = 3 := by rw [wrap_id (by decide) (by decide)]; rfl
        have r0 : rd [b, c, d] 0 = b := rfl
        have r1 : rd [b, c, d] 1 = c := rfl
        have r2 : rd [b, c, d] 2 = d := rfl
        have hl : (([b, c, d] : List Int).length : Int) = 3 := rfl
        refine Ev.step (f := fun k => (impl_VarText.f k b).bind fun bt159 => if (⟨#[]⟩ : ByteArray).size + bt159.1.size ≤ 9223372036854775807 then impl_numbers.l0 k ((⟨#[]⟩ : ByteArray) ++ bt159.1) [b, c, d] 3 1 else none) (fun k => ?_) (Ev.bind vb ?_)
        · simp only [impl_numbers.f, impl_numbers.l0, hl, r0, w1]
          simp
        refine Ev.congr (fun k => by rw [if_pos (by rw [hz]; simp only []; omega), he]) ?_
        refine Ev.step (f := fun k => (impl_VarText.f k c).bind fun bt159 => if sb.size + bt159.1.size ≤ 9223372036854775807 then impl_numbers.l0 k (sb ++ bt159.1) [b, c, d] 3 2 else none) (fun k => ?_) (Ev.bind vc ?_)
        · simp only [impl_numbers.l0, hl, r1, w2]
          simp
        refine Ev.congr (fun k => by rw [if_pos (by simp only []; omega)]) ?_
        refine Ev.step (f := fun k => (impl_VarText.f k d).bind fun bt159 => if (sb ++ sc).size + bt159.1.size ≤ 9223372036854775807 then impl_numbers.l0 k ((sb ++ sc) ++ bt159.1) [b, c, d] 3 3 else none) (fun k => ?_) (Ev.bind vd ?_)
        · simp only [impl_numbers.l0, hl, r2, w3]
          simp
        refine Ev.congr (fun k => by rw [if_pos (by simp only [ByteArray.size_append]; omega)]) ?_
        refine Ev.step (f := fun k => some ((sb ++ sc) ++ sd)) (fun k => ?_) (Ev.now _)
        simp [impl_numbers.l0]
      have ha : strOfNums [a % 256] ++ ((sb ++ sc) ++ sd) = ((strOfNums [a % 256] ++ sb) ++ sc) ++ sd := by simp only [ByteArray.append_assoc]
      refine Ev.congr (fun k => by simp only [impl_OrderText.f, h2, Option.bind_some, if_true] <;> rfl) (Ev.bind hn ?_)
      refine Ev.congr (fun k => by rw [if_pos (by simp only [ByteArray.size_append]; omega), ha]) (Ev.bind e2 (ev_now fun k => rfl))
theorem FnExactOrderText : ∀ (a b c d : Int), (((Lit.int .i64 a).wf = true) ∧ ((Lit.int .i64 b).wf = true) ∧ ((Lit.int .i64 c).wf = true) ∧ ((Lit.int .i64 d).wf = true)) → ∃ k, laws_FnExactOrderText.f k a b c d = some true := by
  intro a b c d _
  obtain ⟨⟨r1, r2⟩, ⟨K1, h1⟩, ⟨K2, h2⟩⟩ := texts a b c d
  have e1 := h1 (K1 + K2) (by omega)
  have e2 := h2 (K1 + K2) (by omega)
  simp only [] at e1 e2
  exact ⟨K1 + K2, by simp [laws_FnExactOrderText.f, laws_toOrder.f, e1, e2]⟩

end Go.Proofs.Ytgihjaonapngdaa.Pure
