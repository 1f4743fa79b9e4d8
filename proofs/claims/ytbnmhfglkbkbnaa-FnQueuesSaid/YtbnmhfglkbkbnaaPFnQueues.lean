/- The plain law of FnQueues. No condition. -/
import Derived.Test.YtbnmhfglkbkbnaaTPort
import Derived.Test.YtbnmhfglkbkbnaaTPlaces
import Derived.Test.YtbnmhfglkbkbnaaQFnQueues
namespace Go.Proofs.Ytbnmhfglkbkbnaa.Pure
open Go Go.Proofs.YtbnmhfglkbkbnaaA Go.Proofs.YtbnmhfglkbkbnaaU Go.Proofs.Ytbnmhfglkbkbnaa.QA Go.Proofs.Ytbnmhfglkbkbnaa.QFnQueues
set_option linter.unusedVariables false
/-- What stands in the line after so many have been sent. -/
def sent (p : List Int) (n : Nat) : List (Int × Int) := (List.range n).map fun j => (el (.int .i64) p j, (j : Int))
theorem sent_len (p : List Int) (n : Nat) : (sent p n).length = n := by simp [sent]
theorem sent_next (p : List Int) (n : Nat) : sent p (n + 1) = sent p n ++ [(el (.int .i64) p n, (n : Int))] := by simp [sent, List.range_succ]
theorem sent_at (p : List Int) {n i : Nat} (h : i < n) : (sent p n)[i]? = some (el (.int .i64) p i, (i : Int)) := by simp [sent, h]
theorem FnQueues : ∀ (x0 : den (.sl 5 (.int .u8))), Wf (.sl 5 (.int .u8)) x0 → ∃ k, laws_FnQueues.f k x0 = some true := by
  intro xs _
  refine ⟨1048577, ?_⟩
  have hk : 1048576 < 1048577 := by omega
  generalize 1048577 = k at hk
  refine ok_eq ?_
  unfold laws_FnQueues.f
  refine big_ok (fun hl => ?_) (ok_some rfl)
  refine ok_bind (places_ok hl hk) (fun p hp => ?_)
  obtain ⟨a, ha, ha0, ha1⟩ := places_at hp (i := 0) (by omega)
  have hl12 : (p.length : Int) = 12 := by rw [hp.1]; rfl
  have hm := tmod_in (n := 6) ha0 (by omega)
  rw [if_pos (by omega), if_pos (by omega)]
  simp only [ha]
  rw [w64_id (by omega) (by omega)]
  obtain ⟨M, hM⟩ : ∃ M : Nat, 1 + Int.tmod a 6 = (M : Int) := ⟨(1 + Int.tmod a 6).toNat, by omega⟩
  rw [hM]
  have hM1 : 1 ≤ M ∧ M ≤ 6 := by omega
  clear hM hm ha ha0 ha1
  have hok : PortOk (1, 1, 2, (M : Int), 0) := ⟨by dsimp only; omega, by dsimp only; omega, by dsimp only; omega, .inl ⟨rfl, by dsimp only; omega, rfl⟩⟩
  have hsnd : ∀ (l : List (Int × Int)) (n t : Int), sendM (1, 1, 2, (M : Int), 0) l n t = if (M : Int) ≤ (l.length : Int) then (l, 1) else (l ++ [(n, t)], 0) := fun l n t => by
    unfold sendM
    rw [B_yes hok]
    rfl
  have htk : ∀ (l : List (Int × Int)) (t : Int), takeM (1, 1, 2, (M : Int), 0) l t = if ¬ (l.length : Int) = 0 then (l.drop 1, (el M2 l 0).1, 0) else (l, 0, 2) := fun l t => by
    unfold takeM
    rw [B_yes hok]
    simp only [true_and, ↓reduceIte]
  have hst : ∀ n i, n ≤ 8 → Stamps ((sent p n).drop i) := fun n i hn x hx => by
    have hx' := List.mem_of_mem_drop hx
    simp only [sent, List.mem_map, List.mem_range] at hx'
    obtain ⟨j, hj, rfl⟩ := hx'
    dsimp only
    omega
  have second : Ok (laws_FnQueues.l2 k k ((M : Int), 0, 1, 1, 2, (M : Int), 0, p, sent p M, ())) (fun r => r = true) := by
    refine ok_loop (L := laws_FnQueues.l2 k) (I := fun d s => ∃ i : Nat, s = ((M : Int), (i : Int), 1, 1, 2, (M : Int), 0, p, (sent p M).drop i, ()) ∧ i + d = M) ?_ k M _ (by omega) ⟨0, rfl, by omega⟩
    rintro d n s ⟨i, rfl, hd⟩ ih
    rw [laws_FnQueues.l2]
    have hdl : ((sent p M).drop i).length = M - i := by rw [List.length_drop, sent_len]
    rw [take_i (by omega) (by omega) (hst M i (by omega)), portOk_i, B_yes hok]
    refine ok_if (fun hc => ok_let ?_) (fun hc => ok_let (ok_let ?_))
    · have he : el M2 ((sent p M).drop i) 0 = (el (.int .i64) p i, (i : Int)) := el_at (by rw [List.getElem?_drop]; exact sent_at p (by omega))
      have h4 : w64 ((i : Int) + 1) = ((i + 1 : Nat) : Int) := w64_id (by omega) (by omega)
      have c0 : (0 : Int) ≤ (i : Int) := by omega
      have c1 : (i : Int) < (p.length : Int) := by omega
      rw [show takeM (1, 1, 2, (M : Int), 0) ((sent p M).drop i) 99 = (((sent p M).drop i).drop 1, el (.int .i64) p i, 0) from by rw [htk, if_pos (by omega), he]]
      simp only [c0, c1, h4, Int.toNat_natCast, ↓reduceIte, not_true_eq_false, List.drop_drop]
      exact ih (d - 1) _ (by omega) ⟨i + 1, rfl, by omega⟩
    · rw [show takeM (1, 1, 2, (M : Int), 0) ((sent p M).drop i) 99 = ((sent p M).drop i, 0, 2) from by rw [htk, if_neg (by omega)]]
      exact ok_some (by simp)
  refine ok_loop (L := laws_FnQueues.l1 k) (I := fun d s => ∃ i : Nat, s = (((min i M : Nat) : Int), (i : Int), 1, 1, 2, (M : Int), 0, p, sent p (min i M), ()) ∧ i + d = 8) ?_ k 8 _ (by omega) ⟨0, by rw [Nat.zero_min]; rfl, by omega⟩
  rintro d n s ⟨i, rfl, hd⟩ ih
  rw [laws_FnQueues.l1]
  refine ok_if (fun hc => ?_) (fun hc => ?_)
  · have c0 : (0 : Int) ≤ (i : Int) := by omega
    have c1 : (i : Int) < (p.length : Int) := by omega
    have hsl := sent_len p (min i M)
    have h4 : w64 ((i : Int) + 1) = ((i + 1 : Nat) : Int) := w64_id (by omega) (by omega)
    rw [if_pos c0, if_pos c1, send_i (by omega), h4]
    refine ok_let ?_
    simp only [Int.toNat_natCast]
    have go := ih (d - 1) _ (by omega) ⟨i + 1, rfl, by omega⟩
    by_cases hf : i < M
    · have e1 : min i M = i := by omega
      have e2 : min (i + 1) M = i + 1 := by omega
      have h5 : w64 (((i : Nat) : Int) + 1) = ((i + 1 : Nat) : Int) := h4
      rw [e2, sent_next] at go
      rw [e1] at hsl ⊢
      simp only [show sendM (1, 1, 2, (M : Int), 0) (sent p i) (el (.int .i64) p i) (i : Int) = (sent p i ++ [(el (.int .i64) p i, (i : Int))], 0) from by rw [hsnd, if_neg (by omega)], h5, decide_true, ↓reduceIte, not_true_eq_false]
      rw [decide_eq_true (show (i : Int) < (M : Int) by omega)]
      simp only [not_true_eq_false, ↓reduceIte]
      exact go
    · have e1 : min i M = M := by omega
      have e2 : min (i + 1) M = M := by omega
      rw [e2] at go
      rw [e1] at hsl ⊢
      simp only [show sendM (1, 1, 2, (M : Int), 0) (sent p M) (el (.int .i64) p i) (i : Int) = (sent p M, 1) from by rw [hsnd, if_pos (by omega)], Int.reduceEq, decide_false, not_false_eq_true, not_true_eq_false, ↓reduceIte]
      rw [decide_eq_false (show ¬ (i : Int) < (M : Int) by omega)]
      simp only [not_true_eq_false, ↓reduceIte]
      exact go
  · have e1 : min i M = M := by omega
    rw [e1]
    exact second
end Go.Proofs.Ytbnmhfglkbkbnaa.Pure
