/- The plain law of FnExactTakePort. No condition. -/
import Derived.Test.YtgihjaonapngdaaUWords
import Derived.Test.YtgihjaonapngdaaQTP
namespace Go.Proofs.Ytgihjaonapngdaa.Pure
open Go Go.Proofs.YtgihjaonapngdaaA Go.Proofs.YtgihjaonapngdaaU Go.Proofs.Ytgihjaonapngdaa.QTP
set_option linter.unusedVariables false
abbrev Mt : Ty := .pair (.int .i64) (.int .i64)
theorem w64_id {z : Int} (h1 : -9223372036854775808 ≤ z) (h2 : z < 9223372036854775808) : w64 z = z := w_id h1 h2
theorem toMsgS_l (k : Nat) (xs : List (Int × Int)) (hl : xs.length ≤ 4611686018427387904) : ∀ (d j n : Nat), j + d = xs.length → d < n → laws_toMsgS.l1 k n ((j : Int), xs, xs.take j ++ List.replicate d (0, 0), ()) = some xs
  | 0, j, 0, hj, hn => by omega
  | 0, j, n + 1, hj, hn => by
    have e : xs.take j ++ List.replicate 0 ((0 : Int), (0 : Int)) = xs := by
      rw [List.replicate_zero, List.append_nil, List.take_of_length_le (by omega)]
    rw [e, laws_toMsgS.l1, if_neg (by omega)]
  | d + 1, j, 0, hj, hn => by omega
  | d + 1, j, n + 1, hj, hn => by
    have hlc : (xs.take j ++ List.replicate (d + 1) ((0 : Int), (0 : Int))).length = xs.length := len_copy hj
    rw [laws_toMsgS.l1, if_pos (by omega), if_pos (by omega), if_pos (by omega)]
    simp only [laws_toMsg.f, Option.bind_some, Int.toNat_natCast]
    rw [if_pos (by omega), if_pos (by rw [hlc]; omega), set_copy (el_lt (t := Mt) (xs := xs) (i := j) (by omega)) hj, w64_id (by omega) (by omega)]
    have := toMsgS_l k xs hl d (j + 1) n (by omega) (by omega)
    simpa using this
theorem toMsgS_f {k : Nat} {xs : List (Int × Int)} (hl : xs.length ≤ 1048576) (hk : xs.length < k) : laws_toMsgS.f k xs = some xs := by
  unfold laws_toMsgS.f
  rw [if_pos rfl, if_pos (by omega), if_pos (by simp only [Int.toNat_natCast]; omega)]
  simp only [Option.bind_some, Int.toNat_natCast]
  have := toMsgS_l k xs (by omega) xs.length 0 k (by omega) hk
  simpa using this
theorem toLine_f {k : Nat} {xs : List (Int × Int)} (hl : xs.length ≤ 1048576) (hk : xs.length < k) : laws_toLine.f k xs = some xs := by
  unfold laws_toLine.f
  rw [toMsgS_f hl hk]
  rfl
theorem eqMsgS_l (k : Nat) (xs : List (Int × Int)) (hl : xs.length ≤ 4611686018427387904) : ∀ (d j n : Nat), j + d = xs.length → d < n → laws_eqMsgS.l1 k n ((j : Int), xs, xs, ()) = some true
  | 0, j, 0, hj, hn => by omega
  | 0, j, n + 1, hj, hn => by rw [laws_eqMsgS.l1, if_neg (by omega)]
  | d + 1, j, 0, hj, hn => by omega
  | d + 1, j, n + 1, hj, hn => by
    rw [laws_eqMsgS.l1, if_pos (by omega), if_pos (by omega), if_pos (by omega), if_pos (by omega), if_pos (by omega)]
    have e : laws_eqMsg.f k (el Mt xs (j : Int).toNat) (el Mt xs (j : Int).toNat) = some true := by
      unfold laws_eqMsg.f
      rw [if_neg (fun h => h rfl), if_neg (fun h => h rfl)]
    rw [e]
    simp only [Option.bind_some]
    rw [if_neg (fun h => h trivial), w64_id (by omega) (by omega)]
    have := eqMsgS_l k xs hl d (j + 1) n (by omega) (by omega)
    simpa using this
theorem eqLine_f {k : Nat} {xs : List (Int × Int)} (hl : xs.length ≤ 1048576) (hk : xs.length < k) : laws_eqLine.f k xs xs = some true := by
  unfold laws_eqLine.f laws_eqMsgS.f
  rw [if_neg (fun h => h rfl)]
  have := eqMsgS_l k xs (by omega) xs.length 0 k (by omega) hk
  rw [show ((0 : Nat) : Int) = 0 from rfl] at this
  rw [this]
  rfl
/-- The marks. -/
def mk (m : Nat) : Nat → List (Int × Int)
  | 0 => []
  | d + 1 => ((m : Int), (m : Int) + 1) :: mk (m + 2) d
theorem mk_len : ∀ (m d : Nat), (mk m d).length = d
  | _, 0 => rfl
  | m, d + 1 => by rw [mk, List.length_cons, mk_len]
theorem mk_snoc : ∀ (m d : Nat), mk m (d + 1) = mk m d ++ [(((m + 2 * d : Nat) : Int), ((m + 2 * d : Nat) : Int) + 1)]
  | m, 0 => rfl
  | m, d + 1 => by
    rw [mk, mk_snoc (m + 2) d, mk, List.cons_append, show m + 2 + 2 * d = m + 2 * (d + 1) by omega]
theorem mk_at : ∀ (m d j : Nat), j < d → (mk m d)[j]? = some (((m + 2 * j : Nat) : Int), ((m + 2 * j : Nat) : Int) + 1)
  | m, 0, j, h => by omega
  | m, d + 1, 0, h => rfl
  | m, d + 1, j + 1, h => by rw [mk, List.getElem?_cons_succ, mk_at (m + 2) d j (by omega), show m + 2 + 2 * j = m + 2 * (j + 1) by omega]
theorem set_mk {xs : List (Int × Int)} {m j : Nat} {y : Int × Int} (hj : j < xs.length) : (mk m j ++ xs.drop j).set j y = mk m j ++ y :: xs.drop (j + 1) := by
  rw [List.set_append_right _ _ (by rw [mk_len]; exact Nat.le_refl _), mk_len, Nat.sub_self, List.drop_eq_getElem_cons hj, List.set_cons_zero]
theorem markMsgS_l (k m : Nat) (xs : List (Int × Int)) (hl : xs.length ≤ 1048576) (hm : m ≤ 1048576) : ∀ (d j n : Nat), j + d = xs.length → d < n → laws_markMsgS.l1 k n (((m + 2 * j : Nat) : Int), (j : Int), mk m j ++ xs.drop j, ()) = some (((m + 2 * xs.length : Nat) : Int), mk m xs.length)
  | 0, j, 0, hj, hn => by omega
  | 0, j, n + 1, hj, hn => by
    have hlc : (mk m j ++ xs.drop j).length = xs.length := by rw [List.length_append, mk_len, List.length_drop]; omega
    obtain rfl : j = xs.length := by omega
    rw [laws_markMsgS.l1, if_neg (by rw [hlc]; omega), List.drop_length, List.append_nil]
  | d + 1, j, 0, hj, hn => by omega
  | d + 1, j, n + 1, hj, hn => by
    have hlc : (mk m j ++ xs.drop j).length = xs.length := by rw [List.length_append, mk_len, List.length_drop]; omega
    have hjl : j < xs.length := by omega
    have hlc2 : ∀ y, (mk m j ++ y :: xs.drop (j + 1)).length = xs.length := fun y => by rw [List.length_append, mk_len, List.length_cons, List.length_drop]; omega
    rw [laws_markMsgS.l1, if_pos (by rw [hlc]; omega), if_pos (by omega), if_pos (by rw [hlc]; omega)]
    simp only [Option.bind_some, Int.toNat_natCast]
    rw [set_mk hjl, if_pos (by omega), if_pos (by rw [hlc2]; omega)]
    have he : ∀ y : Int × Int, el Mt (mk m j ++ y :: xs.drop (j + 1)) j = y := fun y => el_at (by rw [List.getElem?_append_right (by rw [mk_len]; exact Nat.le_refl _), mk_len, Nat.sub_self]; rfl)
    have hset : ∀ y z : Int × Int, (mk m j ++ y :: xs.drop (j + 1)).set j z = mk m j ++ z :: xs.drop (j + 1) := fun y z => by
      rw [List.set_append_right _ _ (by rw [mk_len]; exact Nat.le_refl _), mk_len, Nat.sub_self, List.set_cons_zero]
    rw [he, hset, w64_id (z := ((m + 2 * j : Nat) : Int) + 1) (by omega) (by omega), w64_id (by omega) (by omega), w64_id (z := (j : Int) + 1) (by omega) (by omega)]
    have h1 : mk m j ++ (((m + 2 * j : Nat) : Int), ((m + 2 * j : Nat) : Int) + 1) :: xs.drop (j + 1) = mk m (j + 1) ++ xs.drop (j + 1) := by rw [mk_snoc, List.append_assoc]; rfl
    rw [h1]
    have h2 := markMsgS_l k m xs hl hm d (j + 1) n (by omega) (by omega)
    rw [show ((m + 2 * (j + 1) : Nat) : Int) = ((m + 2 * j : Nat) : Int) + 1 + 1 by omega, show ((j + 1 : Nat) : Int) = (j : Int) + 1 by omega] at h2
    exact h2
theorem markLine_f {k : Nat} {xs : List (Int × Int)} (hl : xs.length ≤ 1048576) (hk : xs.length < k) : laws_markLine.f k xs 1 = some (((1 + 2 * xs.length : Nat) : Int), mk 1 xs.length) := by
  unfold laws_markLine.f laws_markMsgS.f
  have := markMsgS_l k 1 xs hl (by omega) xs.length 0 k (by omega) hk
  simp only [Nat.mul_zero, Nat.add_zero, mk, List.drop_zero, List.nil_append] at this
  rw [show ((1 : Nat) : Int) = 1 from rfl, show ((0 : Nat) : Int) = 0 from rfl] at this
  rw [this]
  rfl
theorem heldMsgS_l (k m L : Nat) (hl : L ≤ 1048576) (hm : m ≤ 1048576) : ∀ (d j n : Nat), j + d = L → d < n → laws_heldMsgS.l1 k n (((m + 2 * j : Nat) : Int), (j : Int), mk m L, ()) = some ((m + 2 * L : Nat) : Int)
  | 0, j, 0, hj, hn => by omega
  | 0, j, n + 1, hj, hn => by
    obtain rfl : j = L := by omega
    rw [laws_heldMsgS.l1, if_neg (by rw [mk_len]; omega)]
  | d + 1, j, 0, hj, hn => by omega
  | d + 1, j, n + 1, hj, hn => by
    have he : el Mt (mk m L) (j : Int).toNat = (((m + 2 * j : Nat) : Int), ((m + 2 * j : Nat) : Int) + 1) := el_at (mk_at m L j (by omega))
    rw [laws_heldMsgS.l1, if_pos (by rw [mk_len]; omega), if_pos (by omega), if_pos (by rw [mk_len]; omega), he, if_neg (fun h => h rfl), if_pos (by omega), if_pos (by rw [mk_len]; omega), w64_id (z := ((m + 2 * j : Nat) : Int) + 1) (by omega) (by omega), if_neg (fun h => h rfl), w64_id (by omega) (by omega), w64_id (z := (j : Int) + 1) (by omega) (by omega)]
    have h2 := heldMsgS_l k m L hl hm d (j + 1) n (by omega) (by omega)
    rw [show ((m + 2 * (j + 1) : Nat) : Int) = ((m + 2 * j : Nat) : Int) + 1 + 1 by omega, show ((j + 1 : Nat) : Int) = (j : Int) + 1 by omega] at h2
    exact h2
theorem heldLine_f {k L : Nat} (hl : L ≤ 1048576) (hk : L < k) : laws_heldLine.f k (mk 1 L) 1 = some ((1 + 2 * L : Nat) : Int) := by
  unfold laws_heldLine.f laws_heldMsgS.f
  have := heldMsgS_l k 1 L hl (by omega) L 0 k (by omega) hk
  rw [show ((1 + 2 * 0 : Nat) : Int) = 1 from rfl, show ((0 : Nat) : Int) = 0 from rfl] at this
  rw [this]
  simp only [Option.bind_some]
  rw [if_neg (by omega)]
theorem portOk_eq (k : Nat) (a : Int × Int × Int × Int × Int) : impl_PortOk.f k a = spec_PortOk.f k a := by
  have h1 : ∀ x lo hi, impl_within.f k x lo hi = spec_l01In.f k x lo hi := fun _ _ _ => rfl
  have h2 : ∀ x, impl_isPart.f k x = spec_l01In.f k x 1 4 := fun x => by
    unfold impl_isPart.f
    rw [h1]
    cases spec_l01In.f k x 1 4 <;> rfl
  unfold impl_PortOk.f spec_PortOk.f
  simp only [h1, h2]
theorem portOk_some (k : Nat) (a : Int × Int × Int × Int × Int) : ∃ b, spec_PortOk.f k a = some b ∧ (b = true → a.1 = 1 ∨ (1 ≤ a.2.2.2.2 ∧ a.2.2.2.2 ≤ 100)) := by
  have hin : ∀ x lo hi, spec_l01In.f k x lo hi = some (decide (lo ≤ x ∧ x ≤ hi)) := fun x lo hi => by
    unfold spec_l01In.f
    by_cases h : lo ≤ x <;> simp [h]
  unfold spec_PortOk.f
  simp only [hin, Option.bind_some]
  split
  · exact ⟨_, rfl, fun h => by cases h⟩
  · split
    · exact ⟨_, rfl, fun h => by cases h⟩
    · split
      · exact ⟨_, rfl, fun h => by cases h⟩
      · split
        · rename_i h; exact (by split <;> exact ⟨_, rfl, fun _ => .inl h⟩)
        · split
          · split
            · exact ⟨_, rfl, fun h => .inr (of_decide_eq_true h)⟩
            · exact ⟨_, rfl, fun h => by cases h⟩
          · exact ⟨_, rfl, fun h => by cases h⟩
theorem copy_f {k : Nat} {xs : List (Int × Int)} (hl : xs.length ≤ 1048576) : spec_l08Copy.f k xs = some xs ∧ impl_copyLine.f k xs = some xs := by
  unfold spec_l08Copy.f impl_copyLine.f
  simp only [Option.bind_some, List.nil_append, List.length_nil, Nat.zero_add]
  rw [if_pos (by omega)]
  exact ⟨rfl, rfl⟩
theorem u_w (z : Int) : IntKind.u64.wrap z = z % 18446744073709551616 := by
  simp [IntKind.wrap, IntKind.signed, IntKind.bits]
theorem take_eq {k : Nat} {a : Int × Int × Int × Int × Int} {xs : List (Int × Int)} {t : Int} (hl : xs.length ≤ 1048576) (ht : -9223372036854775808 ≤ t ∧ t < 9223372036854775808) (hx : ∀ y ∈ xs, -9223372036854775808 ≤ y.2 ∧ y.2 < 9223372036854775808) :
    ∃ ys i c, ys.length ≤ 1048576 ∧ spec_TakePort.f k a xs t = some (ys, i, c) ∧ impl_TakePort.f k a xs t = some (ys, i, c) := by
  obtain ⟨b, hb, hb1⟩ := portOk_some k a
  unfold spec_TakePort.f impl_TakePort.f
  rw [portOk_eq, hb, (copy_f (k := k) hl).1, (copy_f (k := k) hl).2]
  simp only [Option.bind_some]
  cases b with
  | false => exact ⟨xs, 0, 2, hl, rfl, rfl⟩
  | true =>
    have nt : ¬ ¬ (true = true) := fun h => h rfl
    rw [if_neg nt, if_neg nt]
    by_cases h0 : (xs.length : Int) = 0
    · rw [if_pos h0, if_pos h0]
      exact ⟨xs, 0, 2, hl, rfl, rfl⟩
    · have c1 : (0 : Nat) ≤ 0 := by omega
      have c2 : (0 : Int) < (xs.length : Int) := by omega
      have c3 : (0 : Nat) ≤ 1 := by omega
      have c4 : (1 : Int) ≤ (xs.length : Int) := by omega
      rw [if_neg h0, if_neg h0, if_pos c1, if_pos c1, if_pos c2, if_pos c2]
      by_cases h1 : a.1 = 1
      · have hd : (xs.drop 1).length ≤ 1048576 := by rw [List.length_drop]; omega
        rw [if_pos h1, if_pos h1, if_pos c3, if_pos c3, if_pos c4, if_pos c4]
        simp only [List.nil_append, List.length_nil, Nat.zero_add]
        rw [if_pos (by omega)]
        exact ⟨_, _, _, hd, rfl, rfl⟩
      · rw [if_neg h1, if_neg h1]
        have hp := (hb1 rfl).resolve_left h1
        have hm := hx (el Mt xs 0) (List.mem_of_getElem? (el_lt (t := Mt) (xs := xs) (i := 0) (by omega)))
        obtain ⟨y, hy⟩ : ∃ y : Int × Int, el Mt xs 0 = y := ⟨_, rfl⟩
        rw [hy] at hm
        simp only [show el ((Ty.int IntKind.i64).pair (Ty.int IntKind.i64)) xs 0 = y from hy]
        obtain ⟨y1, y2⟩ := y
        simp only at hm ⊢
        by_cases h2 : (y2 : Int) < t
        · rw [if_pos h2, if_pos h2]
          simp only [u_w]
          by_cases h3 : t - y2 < 9223372036854775808
          · rw [w64_id (z := t - y2) (by omega) h3, if_neg (by omega)]
            by_cases h4 : a.2.2.2.2 < t - y2
            · rw [if_pos h4, if_pos (by omega)]
              exact ⟨xs, _, _, hl, rfl, rfl⟩
            · rw [if_neg h4, if_neg (by omega)]
              exact ⟨xs, _, _, hl, rfl, rfl⟩
          · have hw : w64 (t - y2) = t - y2 - 18446744073709551616 := by
              show IntKind.i64.wrap _ = _
              rw [IntKind.wrap_i64]
              omega
            rw [hw, if_pos (by omega), if_pos (by omega)]
            exact ⟨xs, _, _, hl, rfl, rfl⟩
        · rw [if_neg h2, if_neg h2]
          exact ⟨xs, _, _, hl, rfl, rfl⟩
theorem FnExactTakePort : ∀ (x0 : den (.pair (.int .i64) (.pair (.int .i64) (.pair (.int .i64) (.pair (.int .i64) (.int .i64)))))) (x1 : den (.sl 150 (.pair (.int .i64) (.int .i64)))) (x2 : den (.int .i64)), Wf (.pair (.int .i64) (.pair (.int .i64) (.pair (.int .i64) (.pair (.int .i64) (.int .i64))))) x0 → Wf (.sl 150 (.pair (.int .i64) (.int .i64))) x1 → Wf (.int .i64) x2 → ∃ k, laws_FnExactTakePort.f k x0 x1 x2 = some true := by
  intro a xs t G0 G1 G2
  refine ⟨xs.length + 1048577, ?_⟩
  have hmax : xs.length ≤ 9223372036854775807 := G1.2
  unfold laws_FnExactTakePort.f laws_szLine.f laws_szMsgS.f
  have hw : w64 (1048576 - (xs.length : Int)) = 1048576 - (xs.length : Int) := w64_id (by omega) (by omega)
  rw [hw]
  by_cases hl : xs.length ≤ 1048576
  · have hz : ∀ z : Int, Lit.wf (Lit.int .i64 z) = true → -9223372036854775808 ≤ z ∧ z < 9223372036854775808 := fun z h => by
      simp [Lit.wf, IntKind.min, IntKind.max, IntKind.signed, IntKind.bits] at h
      omega
    rw [if_neg (by omega)]
    simp only [Option.bind_some]
    rw [if_neg (by omega)]
    simp only [Option.bind_some]
    rw [if_neg (by omega)]
    obtain ⟨ys, i, c, hy, h1, h2⟩ := take_eq (k := xs.length + 1048577) (a := a) hl (hz t G2) (fun y hy => hz _ (G1.1 y hy).2)
    have hk : xs.length < xs.length + 1048577 := by omega
    have hky : ys.length < xs.length + 1048577 := by omega
    simp only [laws_toPort.f, toLine_f hl hk, Option.bind_some, h1, h2, eqLine_f hl hk, eqLine_f hy hky, markLine_f hl hk, markLine_f hy hky, heldLine_f hy hky]
    have g1 : ∀ L : Nat, ¬ (((1 + 2 * L : Nat) : Int) < 0) := fun L => by omega
    simp only [not_true, if_false, if_neg (g1 _)]
  · rw [if_pos (by omega)]
    rfl
end Go.Proofs.Ytgihjaonapngdaa.Pure
