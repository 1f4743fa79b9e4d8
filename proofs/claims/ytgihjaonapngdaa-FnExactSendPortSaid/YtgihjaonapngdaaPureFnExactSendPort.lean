/- The pure statement of FnExactSendPort: both send the same, and what they return is new. No condition. -/
import Derived.Test.YtgihjaonapngdaaQFnExactSendPort
namespace Go.Proofs.Ytgihjaonapngdaa.Pure
open Go.RowKit Go.Proofs.Ytgihjaonapngdaa.QFnExactSendPort Go.Proofs.YtgihjaonapngdaaW.PrintWords Go.Proofs.YtgihjaonapngdaaY
set_option linter.unusedVariables false
set_option linter.unusedSimpArgs false
theorem wrap_id {n : Int} (h0 : -9223372036854775808 ≤ n) (h1 : n ≤ 9223372036854775807) : wrap64 n = n := by unfold wrap64; omega
theorem wrap_succ {i n : Nat} (h : i < n) (hn : n ≤ 2097152) : wrap64 ((i : Int) + 1) = ((i + 1 : Nat) : Int) := by rw [wrap_id (by omega) (by omega)]; omega
theorem ev_now {α : Type} {g : Nat → Option α} {r : α} (h : ∀ k, g k = some r) : Ev g r := ⟨0, fun k _ => h k⟩
theorem el_get {α : Type} (l : List α) (i : Nat) (z : α) (h : i < l.length) : el l (i : Int) z = l[i] := by simp [el, h]
theorem el_some {α : Type} (l : List α) (i : Nat) (z : α) (h : i < l.length) : l[i]? = some (el l (i : Int) z) := by rw [el_get l i z h]; simp [h]

/-! copies -/
def toMsg (x : LMsg) : Msg := ⟨x.f0, x.f1⟩
theorem toMsg_ev (l : List LMsg) (hl : l.length ≤ 2097152) : Ev (fun k => laws_toMsgS.f k l) (l.map toMsg) := by
  have key : ∀ d i (acc y : List Msg), acc.length = l.length → y.length = l.length → i + d = l.length → (∀ j, j < i → acc[j]? = (l.map toMsg)[j]?) → Ev (fun k => laws_toMsgS.l0 k acc (i : Nat) l y) (l.map toMsg) := by
    intro d
    induction d with
    | zero =>
      intro i acc y ha hy hi hj
      have he : acc = l.map toMsg := by
        refine List.ext_getElem? fun j => ?_
        by_cases h : j < i
        · exact hj j h
        · rw [List.getElem?_eq_none (by omega), List.getElem?_eq_none (by simp; omega)]
      refine Ev.step (f := fun k => some acc) (fun k => ?_) (by rw [he]; exact Ev.now _)
      simp only [laws_toMsgS.l0, if_neg (show ¬ ((i : Int) < (l.length : Int)) by omega)]
    | succ d ih =>
      intro i acc y ha hy hi hj
      refine Ev.step (fun k => ?_) (ih (i + 1) (acc.set i (toMsg (el l i z_LMsg))) y (by simpa using ha) hy (by omega) (fun j hji => ?_))
      · simp only [laws_toMsgS.l0, if_pos (show (i : Int) < (l.length : Int) by omega), if_pos (show (0 : Int) ≤ (i : Int) by omega), laws_toMsg.f, Option.bind_some, if_pos (show (i : Int) < (y.length : Int) by omega), wrap_succ (show i < l.length by omega) hl, Int.toNat_natCast]
        rfl
      · by_cases h : j = i
        · subst h
          rw [List.getElem?_set_self (by omega), List.getElem?_map, el_some l j z_LMsg (by omega)]
          rfl
        · rw [List.getElem?_set_ne (by omega)]
          exact hj j (by omega)
  refine Ev.congr (fun k => ?_) (key l.length 0 (List.replicate l.length z_Msg) (List.replicate l.length z_Msg) (by simp) (by simp) (by omega) (fun j h => by omega))
  simp only [laws_toMsgS.f, if_pos (show (0 : Int) ≤ (l.length : Int) by omega), Int.toNat_natCast, if_pos (show l.length ≤ 17592186044416 by omega), Option.bind_some]
  rfl
/-! comparisons -/
theorem eqMsg_ev (l : List Msg) (hl : l.length ≤ 2097152) : Ev (fun k => laws_eqMsgS.f k l l) true := by
  have key : ∀ d i (b : Bool), i + d = l.length → Ev (fun k => laws_eqMsgS.l0 k b (i : Nat) l l) true := by
    intro d
    induction d with
    | zero =>
      intro i b hi
      refine Ev.step (f := fun k => some true) (fun k => ?_) (Ev.now _)
      simp only [laws_eqMsgS.l0, if_neg (show ¬ ((i : Int) < (l.length : Int)) by omega)]
    | succ d ih =>
      intro i b hi
      refine Ev.step (fun k => ?_) (ih (i + 1) b (by omega))
      simp only [laws_eqMsgS.l0, if_pos (show (i : Int) < (l.length : Int) by omega), if_pos (show (0 : Int) ≤ (i : Int) by omega), laws_eqMsg.f, Option.bind_some, if_true, wrap_succ (show i < l.length by omega) hl]
  refine Ev.congr (fun k => ?_) (key l.length 0 false (by omega))
  simp only [laws_eqMsgS.f, if_true]
  rfl
/-! marks -/
def mkMsg (a : Int) (j : Nat) : Msg := ⟨a + 2 * (j : Int), a + 2 * (j : Int) + 1⟩
def marksMsg (a : Int) (n : Nat) : List Msg := (List.range n).map (mkMsg a)
theorem marksMsg_len (a : Int) (n : Nat) : (marksMsg a n).length = n := by simp [marksMsg]
theorem marksMsg_el (a : Int) (n i : Nat) (z : Msg) (h : i < n) : el (marksMsg a n) (i : Int) z = mkMsg a i := by rw [el_get _ i z (by rw [marksMsg_len]; exact h)]; simp [marksMsg]
theorem set_el {α : Type} (l : List α) (i : Nat) (v z : α) (h : i < l.length) : el (l.set i v) (i : Int) z = v := by rw [el_get _ i z (by simpa using h)]; simp
theorem markMsg_ev (l : List Msg) (hl : l.length ≤ 2097152) (a : Int) (h0 : 0 ≤ a) (h1 : a ≤ 1000000000) : Ev (fun k => laws_markMsgS.f k l a) (a + 2 * (l.length : Int), marksMsg a l.length) := by
  have key : ∀ d i (acc : List Msg), acc.length = l.length → i + d = l.length → (∀ j, j < i → acc[j]? = (marksMsg a l.length)[j]?) → Ev (fun k => laws_markMsgS.l0 k acc (a + 2 * (i : Int)) (i : Nat) l) (a + 2 * (l.length : Int), marksMsg a l.length) := by
    intro d
    induction d with
    | zero =>
      intro i acc ha hi hj
      have he : acc = marksMsg a l.length := by
        refine List.ext_getElem? fun j => ?_
        by_cases h : j < i
        · exact hj j h
        · rw [List.getElem?_eq_none (by omega), List.getElem?_eq_none (by rw [marksMsg_len]; omega)]
      have hn : i = l.length := by omega
      subst hn
      refine Ev.step (f := fun k => some (a + 2 * (l.length : Int), acc)) (fun k => ?_) (by rw [he]; exact Ev.now _)
      simp only [laws_markMsgS.l0, if_neg (show ¬ ((l.length : Int) < (l.length : Int)) by omega)]
    | succ d ih =>
      intro i acc ha hi hj
      have hil : i < acc.length := by omega
      have w0 : wrap64 (a + 2 * (i : Int) + 1) = a + 2 * (i : Int) + 1 := by rw [wrap_id (by omega) (by omega)]
      have w1 : wrap64 (a + 2 * (i : Int) + 1 + 1) = a + 2 * (i : Int) + 2 := by rw [wrap_id (by omega) (by omega)]; omega
      have hstep : a + 2 * (i : Int) + 2 = a + 2 * ((i + 1 : Nat) : Int) := by omega
      refine Ev.step (fun k => ?_) (ih (i + 1) (acc.set i (mkMsg a i)) (by simpa using ha) (by omega) (fun j hji => ?_))
      · simp only [laws_markMsgS.l0, if_pos (show (i : Int) < (l.length : Int) by omega), if_pos (show (0 : Int) ≤ (i : Int) by omega), Option.bind_some, Int.toNat_natCast, w0, w1, wrap_succ (show i < l.length by omega) hl, hstep, List.set_set, set_el _ i _ z_Msg hil]
        rfl
      · by_cases h : j = i
        · subst h
          rw [List.getElem?_set_self (by omega), el_some (marksMsg a l.length) j z_Msg (by rw [marksMsg_len]; omega), marksMsg_el a _ j _ (by omega)]
        · rw [List.getElem?_set_ne (by omega)]
          exact hj j (by omega)
  refine Ev.congr (fun k => ?_) (key l.length 0 l rfl (by omega) (fun j h => by omega))
  simp [laws_markMsgS.f]
theorem heldMsg_ev (n : Nat) (hn : n ≤ 2097152) (a : Int) (h0 : 0 ≤ a) (h1 : a ≤ 1000000000) : Ev (fun k => laws_heldMsgS.f k (marksMsg a n) a) (a + 2 * (n : Int)) := by
  have hlen := marksMsg_len a n
  have key : ∀ d i (b : Int), i + d = n → Ev (fun k => laws_heldMsgS.l0 k (a + 2 * (i : Int)) b (i : Nat) (marksMsg a n)) (a + 2 * (n : Int)) := by
    intro d
    induction d with
    | zero =>
      intro i b hi
      obtain rfl : i = n := by omega
      refine Ev.step (f := fun k => some (a + 2 * (i : Int))) (fun k => ?_) (Ev.now _)
      simp only [laws_heldMsgS.l0, hlen, if_neg (show ¬ ((i : Int) < (i : Int)) by omega)]
    | succ d ih =>
      intro i b hi
      have w0 : wrap64 (a + 2 * (i : Int) + 1) = a + 2 * (i : Int) + 1 := by rw [wrap_id (by omega) (by omega)]
      have w1 : wrap64 (a + 2 * (i : Int) + 1 + 1) = a + 2 * (i : Int) + 2 := by rw [wrap_id (by omega) (by omega)]; omega
      have hstep : a + 2 * (i : Int) + 2 = a + 2 * ((i + 1 : Nat) : Int) := by omega
      refine Ev.step (fun k => ?_) (ih (i + 1) b (by omega))
      simp only [laws_heldMsgS.l0, hlen, if_pos (show (i : Int) < (n : Int) by omega), if_pos (show (0 : Int) ≤ (i : Int) by omega), marksMsg_el a n i z_Msg (by omega), mkMsg, if_true, w0, w1, wrap_succ (show i < n by omega) hn, hstep]
  refine Ev.congr (fun k => ?_) (key n 0 0 (by omega))
  simp only [laws_heldMsgS.f, Int.mul_zero, Int.add_zero, Int.natCast_zero, Int.ofNat_zero]

def inn (a b c : Int) : Bool := decide (b ≤ a) && decide (a ≤ c)
theorem in_s (a b c : Int) : spec_l01In.f a b c = some (inn a b c) := by unfold spec_l01In.f inn; by_cases h : b ≤ a <;> simp [h]
theorem in_i (a b c : Int) : impl_within.f a b c = some (inn a b c) := by unfold impl_within.f inn; by_cases h : b ≤ a <;> simp [h]

theorem port_both (s : Port) : ∃ t, spec_PortOk.f s = some t ∧ impl_PortOk.f s = some t ∧ (t = true → s.f0 = 1 ∨ s.f0 = 2) := by
  simp only [spec_PortOk.f, impl_PortOk.f, impl_isPart.f, in_s, in_i, Option.bind_some]
  cases inn s.f1 1 4 <;> cases inn s.f2 1 4 <;> simp
  by_cases h1 : s.f1 = s.f2 <;> simp [h1]
  by_cases h2 : s.f0 = 1
  · simp only [h2, if_true]
    cases inn s.f3 1 6 <;> simp
    omega
  · by_cases h3 : s.f0 = 2
    · simp only [h3]
      by_cases h4 : s.f3 = 1 <;> simp [h4]
    · simp [h2, h3]
theorem send_both (s : Port) (l : List Msg) (hl : l.length ≤ 1048576) (a b : Int) : ∃ m c, m.length ≤ 1048577 ∧ spec_SendPort.f s ⟨l⟩ a b = some (⟨m⟩, c) ∧ impl_SendPort.f s ⟨l⟩ a b = some (⟨m⟩, c) := by
  have hc1 : spec_l08Copy.f ⟨l⟩ = some ⟨l⟩ := by simp [spec_l08Copy.f]; omega
  have hc2 : impl_copyLine.f ⟨l⟩ = some ⟨l⟩ := by simp [impl_copyLine.f]; omega
  obtain ⟨t, ht, hi, hk⟩ := port_both s
  cases t with
  | false => exact ⟨l, 1, by omega, by simp [spec_SendPort.f, hc1, ht], by simp [impl_SendPort.f, hc2, hi]⟩
  | true =>
    have hlt : l.length < 8796093022208 := by omega
    rcases hk rfl with h | h
    · by_cases hf : s.f3 ≤ (l.length : Int)
      · exact ⟨l, 1, by omega, by simp [spec_SendPort.f, hc1, ht, h, hf], by simp [impl_SendPort.f, hc2, hi, h, hf]⟩
      · exact ⟨l ++ [⟨a, b⟩], 0, by simp; omega, by simp [spec_SendPort.f, hc1, ht, h, hf, hlt], by simp [impl_SendPort.f, hc2, hi, h, hf, hlt]⟩
    · exact ⟨[⟨a, b⟩], 0, by simp, by simp [spec_SendPort.f, hc1, ht, h], by simp [impl_SendPort.f, hc2, hi, h]⟩

theorem szLine_both (x : LLine) (hx : x.f0.length ≤ maxLen) : laws_szLine.f x 1048576 = some (-1) ∨ (x.f0.length ≤ 1048576 ∧ laws_szLine.f x 1048576 = some (1048576 - (x.f0.length : Int))) := by
  have hm : x.f0.length ≤ 9223372036854775807 := hx
  have hw : wrap64 (1048576 - (x.f0.length : Int)) = 1048576 - (x.f0.length : Int) := wrap_id (by omega) (by omega)
  by_cases h : 1048576 - (x.f0.length : Int) < 0
  · exact .inl (by simp [laws_szLine.f, laws_szMsgS.f, hw, h])
  · exact .inr ⟨by omega, by simp [laws_szLine.f, laws_szMsgS.f, hw, h]⟩
theorem toLine_ev (x : LLine) (hx : x.f0.length ≤ 2097152) : Ev (fun k => laws_toLine.f k x) (⟨x.f0.map toMsg⟩ : Line) := Ev.bind (toMsg_ev x.f0 hx) (ev_now fun k => rfl)
theorem eqLine_ev (m : List Msg) (hm : m.length ≤ 2097152) : Ev (fun k => laws_eqLine.f k (⟨m⟩ : Line) ⟨m⟩) true := Ev.bind (eqMsg_ev m hm) (ev_now fun k => rfl)
theorem markLine_ev (m : List Msg) (hm : m.length ≤ 2097152) : Ev (fun k => laws_markLine.f k (⟨m⟩ : Line) 1) (1 + 2 * (m.length : Int), marksMsg 1 m.length) := Ev.bind (markMsg_ev m hm 1 (by decide) (by decide)) (ev_now fun k => rfl)
theorem heldLine_ev (n : Nat) (hn : n ≤ 2097152) : Ev (fun k => laws_heldLine.f k (⟨marksMsg 1 n⟩ : Line) 1) (1 + 2 * (n : Int)) := Ev.bind (heldMsg_ev n hn 1 (by decide) (by decide)) (ev_now fun k => by rw [if_neg (by omega)])

theorem FnExactSendPort : ∀ (x0 : LPort) (x1 : LLine) (x2 : Int) (x3 : Int), (((Lit.int .i64 x0.f0).wf = true) ∧ ((Lit.int .i64 x0.f1).wf = true) ∧ ((Lit.int .i64 x0.f2).wf = true) ∧ ((Lit.int .i64 x0.f3).wf = true) ∧ ((Lit.int .i64 x0.f4).wf = true)) → (((∀ y, y ∈ x1.f0 → ((Lit.int .i64 y.f0).wf = true) ∧ ((Lit.int .i64 y.f1).wf = true)) ∧ x1.f0.length ≤ maxLen)) → ((Lit.int .i64 x2).wf = true) → ((Lit.int .i64 x3).wf = true) → ∃ k, laws_FnExactSendPort.f k x0 x1 x2 x3 = some true := by
  intro x0 x1 x2 x3 _ hx1 _ _
  rcases szLine_both x1 hx1.2 with h | ⟨hn, h⟩
  · exact ⟨0, by simp [laws_FnExactSendPort.f, h]⟩
  · have hn0 : ¬ (1048576 - (x1.f0.length : Int) < 0) := by omega
    obtain ⟨K1, e1⟩ := toLine_ev x1 (by omega)
    obtain ⟨m, c, hm, hs, hi⟩ := send_both (⟨x0.f0, x0.f1, x0.f2, x0.f3, x0.f4⟩ : Port) (x1.f0.map toMsg) (by simpa using hn) x2 x3
    obtain ⟨K2, e2⟩ := eqLine_ev m (by omega)
    obtain ⟨K3, e3⟩ := eqLine_ev (x1.f0.map toMsg) (by simp; omega)
    obtain ⟨K4, e4⟩ := markLine_ev (x1.f0.map toMsg) (by simp; omega)
    obtain ⟨K5, e5⟩ := markLine_ev m (by omega)
    obtain ⟨K6, e6⟩ := heldLine_ev m.length (by omega)
    have q1 := e1 (K1 + K2 + K3 + K4 + K5 + K6) (by omega)
    have q2 := e2 (K1 + K2 + K3 + K4 + K5 + K6) (by omega)
    have q3 := e3 (K1 + K2 + K3 + K4 + K5 + K6) (by omega)
    have q4 := e4 (K1 + K2 + K3 + K4 + K5 + K6) (by omega)
    have q5 := e5 (K1 + K2 + K3 + K4 + K5 + K6) (by omega)
    have q6 := e6 (K1 + K2 + K3 + K4 + K5 + K6) (by omega)
    have p4 : ¬ (1 + 2 * ((x1.f0.map toMsg).length : Int) < 0) := by omega
    have p6 : ¬ (1 + 2 * (m.length : Int) < 0) := by omega
    refine ⟨K1 + K2 + K3 + K4 + K5 + K6, ?_⟩
    simp only [laws_FnExactSendPort.f, h, Option.bind_some, if_neg hn0, laws_toPort.f, q1, hs, hi, q2, q3, q4, q5, q6, if_neg p4, if_neg p6, if_true]
end Go.Proofs.Ytgihjaonapngdaa.Pure
