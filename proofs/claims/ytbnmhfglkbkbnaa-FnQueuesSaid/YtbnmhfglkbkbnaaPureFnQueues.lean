/- The pure statement of FnQueues: what is sent to a drawn port that queues is taken in order, as long as there is room. No condition. -/
import Derived.Test.YtbnmhfglkbkbnaaPFnQueuesx4
namespace Go.Proofs.Ytbnmhfglkbkbnaa.Pure
open Go.RowKit Go.Proofs.Ytbnmhfglkbkbnaa.PFnQueues Go.Proofs.YtbnmhfglkbkbnaaW.PrintWords Go.Proofs.YtbnmhfglkbkbnaaW.PrintLast
set_option linter.unusedVariables false
set_option linter.unusedSimpArgs false
theorem wrap_id {n : Int} (h0 : -9223372036854775808 ≤ n) (h1 : n ≤ 9223372036854775807) : wrap64 n = n := by unfold wrap64; omega
theorem wrap_succ {i n : Nat} (h : i < n) (hn : n ≤ 1048576) : wrap64 ((i : Int) + 1) = ((i + 1 : Nat) : Int) := by rw [wrap_id (by omega) (by omega)]; omega
theorem ev_now {α : Type} {g : Nat → Option α} {r : α} (h : ∀ k, g k = some r) : Ev g r := ⟨0, fun k _ => h k⟩
theorem ev_all {α : Type} {g : Nat → Option α} {r : α} (h : Ev g r) : ∃ K, ∀ k, K ≤ k → g k = some r := h

/-! draws -/
theorem and255 (a : Int) : 0 ≤ Go.bits .and .i64 a 255 ∧ Go.bits .and .i64 a 255 ≤ 255 := by
  have hk : ∀ n : Nat, n ≤ 255 → IntKind.i64.wrap (n : Int) = n := fun n hn => by rw [IntKind.wrap_i64]; omega
  have hle : ∀ x : BitVec 64, (x &&& BitVec.ofInt 64 255).toNat ≤ 255 := fun x => by
    rw [BitVec.toNat_and]
    exact Nat.le_trans Nat.and_le_right (by decide)
  have hb : ∃ n : Nat, n ≤ 255 ∧ Go.bits .and .i64 a 255 = (n : Int) := ⟨_, hle (BitVec.ofInt 64 a), by
    rw [← hk _ (hle (BitVec.ofInt 64 a))]
    rfl⟩
  obtain ⟨n, hn, e⟩ := hb
  rw [e]
  omega
def InS (b : List Int) (i : Int) : Prop := 0 ≤ i ∧ i ≤ (b.length : Int)
theorem byte_some (b : List Int) (hb : b.length ≤ 1048576) (i h : Int) (hi : InS b i) : ∃ x i' h', spec_l01Byte.f b i h = some (x, i', h') ∧ 0 ≤ x ∧ x ≤ 255 ∧ InS b i' := by
  obtain ⟨h0, h1⟩ := hi
  by_cases hl : i < (b.length : Int)
  · have hw : wrap64 (i + 1) = i + 1 := wrap_id (by omega) (by omega)
    refine ⟨_, _, _, by simp only [spec_l01Byte.f, if_pos hl, if_pos h0] <;> rfl, (and255 _).1, (and255 _).2, ?_⟩
    rw [hw]
    exact ⟨by omega, by omega⟩
  · exact ⟨_, _, _, by simp only [spec_l01Byte.f, if_neg hl] <;> rfl, (and255 _).1, (and255 _).2, h0, h1⟩
theorem below_some (b : List Int) (hb : b.length ≤ 1048576) (i h : Int) (hi : InS b i) (n : Int) (hn : 0 < n) (hn2 : n ≤ 256) : ∃ x i' h', spec_l01Below.f b i h n = some (x, i', h') ∧ 0 ≤ x ∧ x < n ∧ InS b i' := by
  obtain ⟨x, i', h', e, x0, _, hi'⟩ := byte_some b hb i h hi
  refine ⟨Int.tmod x n, i', h', ?_, Int.tmod_nonneg _ x0, Int.tmod_lt_of_pos _ hn, hi'⟩
  simp only [spec_l01Below.f, if_neg (show ¬ n ≤ 0 by omega), if_pos hn2, e, Option.bind_some, if_neg (show ¬ n = 0 by omega)]
theorem new_ev (b : List Int) (hb : b.length ≤ 1048576) : ∃ h, Ev (fun k => spec_l01New.f k b) (b, 0, h) := by
  have key : ∀ d i (x : Int), i + d = b.length → ∃ h, Ev (fun k => spec_l01New.l0 k b x (i : Nat)) (b, 0, h) := by
    intro d
    induction d with
    | zero =>
      intro i x hi
      exact ⟨x, Ev.step (f := fun k => some (b, 0, x)) (fun k => by simp only [spec_l01New.l0, if_neg (show ¬ ((i : Int) < (b.length : Int)) by omega)]) (Ev.now _)⟩
    | succ d ih =>
      intro i x hi
      by_cases h4 : (i : Int) < 4000
      · obtain ⟨h, hE⟩ := ih (i + 1) (Go.bits .and .i64 (wrap64 ((wrap64 ((wrap64 (x * 131)) + (wrap64 (rd b (i : Nat))))) + 7)) 1073741823) (by omega)
        exact ⟨h, Ev.step (fun k => by simp only [spec_l01New.l0, if_pos (show (i : Int) < (b.length : Int) by omega), if_pos h4, if_pos (show (0 : Int) ≤ (i : Int) by omega), wrap_succ (show i < b.length by omega) hb]) hE⟩
      · exact ⟨x, Ev.step (f := fun k => some (b, 0, x)) (fun k => by simp only [spec_l01New.l0, if_pos (show (i : Int) < (b.length : Int) by omega), if_neg h4]) (Ev.now _)⟩
  obtain ⟨h, hE⟩ := key b.length 0 (wrap64 (37101 + (b.length : Int))) (by omega)
  exact ⟨h, hE⟩

theorem below_big (b : List Int) (hb : b.length ≤ 1048576) (i h : Int) (hi : InS b i) (n : Int) (hn : 256 < n) : ∃ x i' h', spec_l01Below.f b i h n = some (x, i', h') ∧ 0 ≤ x ∧ InS b i' := by
  obtain ⟨x1, i1, h1, e1, a1, b1, hi1⟩ := byte_some b hb i h hi
  obtain ⟨x2, i2, h2, e2, a2, b2, hi2⟩ := byte_some b hb i1 h1 hi1
  obtain ⟨x3, i3, h3, e3, a3, b3, hi3⟩ := byte_some b hb i2 h2 hi2
  obtain ⟨x4, i4, h4, e4, a4, b4, hi4⟩ := byte_some b hb i3 h3 hi3
  have w1 : wrap64 (x1 * 16777216) = x1 * 16777216 := wrap_id (by omega) (by omega)
  have w2 : wrap64 (x2 * 65536) = x2 * 65536 := wrap_id (by omega) (by omega)
  have w3 : wrap64 (x1 * 16777216 + x2 * 65536) = x1 * 16777216 + x2 * 65536 := wrap_id (by omega) (by omega)
  have w4 : wrap64 (x3 * 256) = x3 * 256 := wrap_id (by omega) (by omega)
  have w5 : wrap64 (x1 * 16777216 + x2 * 65536 + x3 * 256) = x1 * 16777216 + x2 * 65536 + x3 * 256 := wrap_id (by omega) (by omega)
  have w6 : wrap64 (x1 * 16777216 + x2 * 65536 + x3 * 256 + x4) = x1 * 16777216 + x2 * 65536 + x3 * 256 + x4 := wrap_id (by omega) (by omega)
  refine ⟨Int.tmod (x1 * 16777216 + x2 * 65536 + x3 * 256 + x4) n, i4, h4, ?_, Int.tmod_nonneg _ (by omega), hi4⟩
  simp only [spec_l01Below.f, if_neg (show ¬ n ≤ 0 by omega), if_neg (show ¬ n ≤ 256 by omega), e1, e2, e3, e4, Option.bind_some, if_neg (show ¬ n = 0 by omega), w1, w2, w3, w4, w5, w6]
theorem places_ev (b : List Int) (hb : b.length ≤ 1048576) : ∃ P : List Int, P.length = 12 ∧ (∀ v ∈ P, 0 ≤ v) ∧ Ev (fun k => spec_DrawPlaces.f k b) P := by
  have key : ∀ d x (L : List Int) (i h : Int), x + d = 12 → L.length = x → (∀ v ∈ L, 0 ≤ v) → InS b i → ∃ P : List Int, P.length = 12 ∧ (∀ v ∈ P, 0 ≤ v) ∧ Ev (fun k => spec_DrawPlaces.l0 k L (x : Nat) b i h) P := by
    intro d
    induction d with
    | zero =>
      intro x L i h hx hL hv hi
      exact ⟨L, by omega, hv, Ev.step (f := fun k => some L) (fun k => by simp only [spec_DrawPlaces.l0, if_neg (show ¬ ((x : Int) < 12) by omega)]) (Ev.now _)⟩
    | succ d ih =>
      intro x L i h hx hL hv hi
      obtain ⟨t, i1, h1, e1, t0, hi1⟩ := below_big b hb i h hi 10000 (by decide)
      have hx1 : wrap64 ((x : Int) + 1) = ((x + 1 : Nat) : Int) := by rw [wrap_id (by omega) (by omega)]; omega
      obtain ⟨P, q1, q2, q3⟩ := ih (x + 1) (L ++ [t]) i1 h1 (by omega) (by simp; omega) (fun v hv' => by
        rcases List.mem_append.1 hv' with h | h
        · exact hv v h
        · obtain rfl : v = t := by simpa using h
          exact t0) hi1
      exact ⟨P, q1, q2, Ev.step (fun k => by simp only [spec_DrawPlaces.l0, if_pos (show (x : Int) < 12 by omega), e1, Option.bind_some, if_pos (show L.length < 17592186044416 by omega), hx1]) q3⟩
  obtain ⟨h, h0⟩ := new_ev b hb
  obtain ⟨x, i1, h1, e1, _, _, hi1⟩ := byte_some b hb 0 h ⟨by omega, by omega⟩
  obtain ⟨P, q1, q2, q3⟩ := key 12 0 [] i1 h1 rfl rfl (by simp) hi1
  exact ⟨P, q1, q2, Ev.bind h0 (Ev.congr (fun k => by simp only [e1, Option.bind_some] <;> rfl) q3)⟩

def M (P : List Int) (n : Nat) : List S114 := (List.range n).map (fun j => (⟨rd P (j : Nat), (j : Nat)⟩ : S114))
theorem M_len (P : List Int) (n : Nat) : (M P n).length = n := by simp [M]
theorem M_succ (P : List Int) (n : Nat) : M P (n + 1) = M P n ++ [(⟨rd P (n : Nat), (n : Nat)⟩ : S114)] := by simp [M, List.range_succ]
theorem M_drop (P : List Int) (n j : Nat) (h : j < n) : (M P n).drop j = (⟨rd P (j : Nat), (j : Nat)⟩ : S114) :: (M P n).drop (j + 1) := by
  rw [List.drop_eq_getElem_cons (by rw [M_len]; exact h)]
  simp [M]
theorem inn_i (a b c : Int) (h1 : b ≤ a) (h2 : a ≤ c) : impl_within.f a b c = some true := by
  simp only [impl_within.f, if_pos (show a ≥ b from h1)]
  congr 1
  exact decide_eq_true h2
theorem port_ok (m : Int) (h1 : 1 ≤ m) (h2 : m ≤ 6) (k : Nat) : impl_PortOk.f (k + 1) 1 1 2 m 0 = some true := by
  have a1 := inn_i 1 1 4 (by decide) (by decide)
  have a2 := inn_i 2 1 4 (by decide) (by decide)
  have a3 := inn_i m 1 6 h1 h2
  simp [impl_PortOk.f, impl_isPart.f, impl_PortOk.j0, a1, a2, a3]
theorem copy_l (l : List S114) (h : l.length ≤ 1000) : impl_copyLine.f l = some l := by
  simp only [impl_copyLine.f, Option.bind_some, List.nil_append]
  rw [if_pos (by simp; omega)]
theorem send_ev (m : Int) (h1 : 1 ≤ m) (h2 : m ≤ 6) (l : List S114) (hl : l.length ≤ 100) (n t : Int) : Ev (fun k => impl_SendPort.f k 1 1 2 m 0 l n t) (if (l.length : Int) ≥ m then (l, 1) else (l ++ [⟨n, t⟩], 0)) := by
  refine ⟨1, fun k hk => ?_⟩
  obtain ⟨k, rfl⟩ : ∃ j, k = j + 1 := ⟨k - 1, by omega⟩
  have hc := copy_l l (by omega)
  have hp := port_ok m h1 h2 k
  have g1 : l.length < 8796093022208 := by omega
  by_cases h : (l.length : Int) ≥ m
  · have hd : decide ((l.length : Int) ≥ m) = true := decide_eq_true h
    simp only [impl_SendPort.f, impl_SendPort.j0, hc, hp, Option.bind_some, if_true, hd, if_pos h]
  · have hd : decide ((l.length : Int) ≥ m) = false := decide_eq_false h
    simp only [impl_SendPort.f, impl_SendPort.j0, hc, hp, Option.bind_some, if_true, hd, if_neg h, Bool.false_eq_true, if_false, if_pos g1, if_neg (show ¬ ((1 : Int) = 2) by decide)]
theorem take_none (m : Int) (h1 : 1 ≤ m) (h2 : m ≤ 6) : Ev (fun k => impl_TakePort.f k 1 1 2 m 0 ([] : List S114) 99) ([], 0, 2) := by
  refine ⟨1, fun k hk => ?_⟩
  obtain ⟨k, rfl⟩ : ∃ j, k = j + 1 := ⟨k - 1, by omega⟩
  have hp := port_ok m h1 h2 k
  simp [impl_TakePort.f, impl_TakePort.j0, copy_l [] (by simp), hp]
theorem take_some (m : Int) (h1 : 1 ≤ m) (h2 : m ≤ 6) (x : S114) (l : List S114) (hl : l.length ≤ 100) : Ev (fun k => impl_TakePort.f k 1 1 2 m 0 (x :: l) 99) (l, x.f0, 0) := by
  refine ⟨1, fun k hk => ?_⟩
  obtain ⟨k, rfl⟩ : ∃ j, k = j + 1 := ⟨k - 1, by omega⟩
  have hp := port_ok m h1 h2 k
  have hc := copy_l (x :: l) (by simp <;> omega)
  have hz : (((x :: l).length : Int) == 0) = false := by simp <;> omega
  have h3 : (0 : Int) < ((x :: l).length : Int) := by simp <;> omega
  have h4 : (1 : Int) ≤ ((x :: l).length : Int) := by simp <;> omega
  have h5 : rd_T114 (x :: l) 0 = x := rfl
  simp only [impl_TakePort.f, impl_TakePort.j0, hp, hc, Option.bind_some, if_true, hz, Bool.false_eq_true, if_false, if_pos h3, if_pos h4, h5]
  rfl
theorem takes (P : List Int) (hP : P.length = 12) (m : Nat) (h1 : 1 ≤ m) (h2 : m ≤ 6) : ∀ d j, j + d = m → Ev (fun k => laws_FnQueues.l1 k P (m : Nat) (j : Nat) 1 1 2 (m : Nat) 0 ((M P m).drop j)) true := by
  intro d
  induction d with
  | zero =>
    intro j hj
    obtain rfl : j = m := by omega
    have he : (M P j).drop j = [] := List.drop_eq_nil_of_le (by rw [M_len]; exact Nat.le_refl _)
    rw [he]
    refine Ev.step (f := fun k => (impl_TakePort.f k 1 1 2 (j : Nat) 0 [] 99).bind fun bt197 => ((impl_PortOk.f k 1 1 2 (j : Nat) 0).bind fun t203 => (if t203 = true then (if bt197.2.2 = 2 then (some (((j : Nat) : Int) == ((j : Nat) : Int))) else (some false)) else (some false)))) (fun k => by simp only [laws_FnQueues.l1, if_neg (show ¬ ((j : Int) < (j : Int)) by omega)]) ?_
    refine Ev.bind (take_none (j : Nat) (by omega) (by omega)) ⟨1, fun k hk => ?_⟩
    obtain ⟨k, rfl⟩ : ∃ j, k = j + 1 := ⟨k - 1, by omega⟩
    simp [port_ok (j : Nat) (by omega) (by omega) k]
  | succ d ih =>
    intro j hj
    rw [M_drop P m j (by omega)]
    have hw : wrap64 ((j : Int) + 1) = ((j + 1 : Nat) : Int) := by rw [wrap_id (by omega) (by omega)]; omega
    refine Ev.step (f := fun k => (impl_TakePort.f k 1 1 2 (m : Nat) 0 ((⟨rd P (j : Nat), (j : Nat)⟩ : S114) :: (M P m).drop (j + 1)) 99).bind fun bt190 => (if bt190.2.2 = 0 then (if bt190.2.1 = (rd P (j : Nat)) then (laws_FnQueues.l1 k P (m : Nat) ((j + 1 : Nat) : Int) 1 1 2 (m : Nat) 0 bt190.1) else (some false)) else (some false))) (fun k => by
      simp only [laws_FnQueues.l1, if_pos (show (j : Int) < (m : Int) by omega), if_pos (show (0 : Int) ≤ (j : Int) by omega), if_pos (show (j : Int) < (P.length : Int) by omega), hw]) ?_
    refine Ev.bind (take_some (m : Nat) (by omega) (by omega) _ _ (by rw [List.length_drop, M_len]; omega)) (Ev.congr (fun k => by simp only [if_true] <;> rfl) (ih (j + 1) (by omega)))
theorem sends (P : List Int) (hP : P.length = 12) (m : Nat) (h1 : 1 ≤ m) (h2 : m ≤ 6) : ∀ d i, i + d = 8 → Ev (fun k => laws_FnQueues.l0 k P ((min i m : Nat) : Int) (i : Nat) 1 1 2 (m : Nat) 0 (M P (min i m))) true := by
  intro d
  induction d with
  | zero =>
    intro i hi
    obtain rfl : i = 8 := by omega
    have hm : min 8 m = m := by omega
    rw [hm]
    exact Ev.step (fun k => by simp only [laws_FnQueues.l0, if_neg (show ¬ (((8 : Nat) : Int) < 8) by decide)] <;> rfl) (takes P hP m h1 h2 m 0 (by omega))
  | succ d ih =>
    intro i hi
    have hw : wrap64 ((i : Int) + 1) = ((i + 1 : Nat) : Int) := by rw [wrap_id (by omega) (by omega)]; omega
    have hs := send_ev (m : Nat) (by omega) (by omega) (M P (min i m)) (by rw [M_len]; omega) (rd P (i : Nat)) (i : Nat)
    rw [M_len] at hs
    have hb := ih (i + 1) (by omega)
    refine Ev.step (f := fun k => (impl_SendPort.f k 1 1 2 (m : Nat) 0 (M P (min i m)) (rd P (i : Nat)) (i : Nat)).bind fun bt185 => (if ((bt185.2 == 0) != (decide ((i : Int) < (m : Int)))) = true then (laws_FnQueues.j1 k P ((min i m : Nat) : Int) (i : Nat) bt185.2 true 1 1 2 (m : Nat) 0 bt185.1) else (if bt185.2 = 0 then (laws_FnQueues.j1 k P ((min i m : Nat) : Int) (i : Nat) bt185.2 false 1 1 2 (m : Nat) 0 bt185.1) else (laws_FnQueues.j1 k P ((min i m : Nat) : Int) (i : Nat) bt185.2 (bt185.2 != 1) 1 1 2 (m : Nat) 0 bt185.1)))) (fun k => by
      simp only [laws_FnQueues.l0, if_pos (show (i : Int) < 8 by omega), if_pos (show (0 : Int) ≤ (i : Int) by omega), if_pos (show (i : Int) < (P.length : Int) by omega)]) (Ev.bind hs ?_)
    by_cases hlt : i < m
    · have e1 : min i m = i := by omega
      have e2 : min (i + 1) m = i + 1 := by omega
      rw [e2] at hb
      have hd : decide ((i : Int) < (m : Int)) = true := decide_eq_true (by omega)
      rw [e1, if_neg (by omega), ← M_succ]
      refine Ev.congr (fun k => by simp only [hd, beq_self_eq_true, bne_self_eq_false, Bool.false_eq_true, if_false, if_true] <;> rfl) ?_
      exact Ev.step (fun k => by simp only [laws_FnQueues.j1, Bool.false_eq_true, if_false, if_true, hw]) hb
    · have e1 : min i m = m := by omega
      have e2 : min (i + 1) m = m := by omega
      rw [e2] at hb
      have hd : decide ((i : Int) < (m : Int)) = false := decide_eq_false (by omega)
      rw [e1, if_pos (by omega)]
      have hq : (((1 : Int) == 0) != false) = false := by decide
      have hq2 : ((1 : Int) != 1) = false := by decide
      refine Ev.congr (fun k => by simp only [hd, hq, hq2, Bool.false_eq_true, if_false, if_neg (show ¬ ((1 : Int) = 0) by decide)] <;> rfl) ?_
      exact Ev.step (fun k => by simp only [laws_FnQueues.j1, Bool.false_eq_true, if_false, if_neg (show ¬ ((1 : Int) = 0) by decide), hw]) hb
theorem FnQueues : laws_FnQueues.Pure := by
  intro b _ _ _
  by_cases hb : b.length ≤ 1048576
  · obtain ⟨P, hP, hv, hE⟩ := places_ev b hb
    have h0 : 0 ≤ rd P 0 := by
      have : rd P 0 ∈ P := by
        cases P with
        | nil => simp at hP
        | cons x P => exact List.mem_cons_self
      exact hv _ this
    have t0 := Int.tmod_nonneg 6 h0
    have t1 := Int.tmod_lt_of_pos (rd P 0) (show (0 : Int) < 6 by decide)
    obtain ⟨m, hm⟩ : ∃ m : Nat, wrap64 (1 + Int.tmod (rd P 0) 6) = (m : Int) := ⟨(1 + Int.tmod (rd P 0) 6).toNat, by rw [wrap_id (by omega) (by omega)]; omega⟩
    have hm' : (m : Int) = 1 + Int.tmod (rd P 0) 6 := by rw [← hm, wrap_id (by omega) (by omega)]
    have hr := sends P hP m (by omega) (by omega) 8 0 rfl
    have hbig : laws_big.f b = some false := by simp only [laws_big.f]; congr 1; exact decide_eq_false (by omega)
    obtain ⟨K1, k1⟩ := hE
    obtain ⟨K2, k2⟩ := hr
    have q1 := k1 (K1 + K2) (by omega)
    have q2 := k2 (K1 + K2) (by omega)
    simp only [Nat.zero_min] at q1 q2
    have hM : M P 0 = [] := rfl
    have hz : ((0 : Nat) : Int) = 0 := rfl
    rw [hM, hz] at q2
    exact ⟨K1 + K2, by simp only [laws_FnQueues.f, hbig, Option.bind_some, Bool.false_eq_true, if_false, q1, hm, if_pos (show (0 : Int) < (P.length : Int) by omega), q2]⟩
  · refine ⟨0, ?_⟩
    have hbig : laws_big.f b = some true := by simp only [laws_big.f]; congr 1; exact decide_eq_true (by omega)
    simp [laws_FnQueues.f, hbig]

end Go.Proofs.Ytbnmhfglkbkbnaa.Pure
