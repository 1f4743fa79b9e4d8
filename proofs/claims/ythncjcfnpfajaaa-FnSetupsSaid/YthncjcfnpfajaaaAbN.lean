/- A function's end: what it leaves. Plain lemmas; no condition. -/
import Derived.Test.YthncjcfnpfajaaaAbL
namespace Go.Proofs.YthncjcfnpfajaaaA
open Go Go.RowKit Go.Proofs.YthncjcfnpfajaaaW.PrintWords
set_option linter.unusedVariables false
set_option linter.unusedSimpArgs false

/-- What is taken, part by part. -/
def TkOk (us us' : List Nat) (tks : List (Nat × Nat)) : Prop := us' = (tks.map (·.2)).reverse ++ us ∧ (tks.map (·.2)).Nodup ∧ ∀ r ∈ tks.map (·.2), r ∉ us
theorem TkOk.nil (us : List Nat) : TkOk us us [] := ⟨rfl, List.nodup_nil, fun _ h => by cases h⟩
theorem TkOk.trans {us us' us'' : List Nat} {a b : List (Nat × Nat)} (h : TkOk us us' a) (h' : TkOk us' us'' b) : TkOk us us'' (a ++ b) := by
 obtain ⟨rfl, h2, h3⟩ := h
 obtain ⟨rfl, h5, h6⟩ := h'
 refine ⟨by rw [List.map_append, List.reverse_append, List.append_assoc], ?_, fun r hr => ?_⟩
 ·rw [List.map_append]
  refine List.nodup_append.2 ⟨h2, h5, fun x hx y hy e => ?_⟩
  subst e
  exact h6 x hy (List.mem_append_left _ (List.mem_reverse.2 hx))
 ·rw [List.map_append] at hr
  rcases List.mem_append.1 hr with hr | hr
  ·exact h3 r hr
  ·exact fun h => h6 r hr (List.mem_append_right _ h)
theorem TkOk.one {us : List Nat} {i r : Nat} (h : r ∉ us) : TkOk us (r :: us) [(i, r)] := ⟨rfl, by simp, fun r' hr => by simp at hr; subst hr; exact h⟩
theorem TkOk.root {us : List Nat} {l : Leaf} (i : Nat) (h : ∀ q, rootH l = some q → q ∉ us) : TkOk us (rootL l us) ((rootH l).toList.map fun r => (i, r)) := by
 unfold rootL
 cases hr : rootH l with
 | none => exact TkOk.nil us
 | some q => exact TkOk.one (h q hr)
/-- What is wanted of the heads and places of what is left. -/
structure Nw (np b nx : Nat) (hs : List Hd) (tks : List (Nat × Nat)) (ρ ρ' : Nat → Hd) (fp fp' : Nat → Nat → Prop) : Prop where
 lnx : b + hs.length ≤ nx
 lnp : np ≤ nx
 at_ : ∀ (j : Nat) h, hs[j]? = some h → ρ' (b + j) = h
 low : ∀ i, i < np → ρ' i = ρ i
 fp : ∀ i r, (i, r) ∈ tks → ∀ k, fp r k → fp' i k
section
variable {α : Type} {me : Nat → Option Part} {v : α} {w w1 : World} {ok live : Nat → Prop} {ρ ρ' : Nat → Hd} {fp fp' : Nat → Nat → Prop} {np nx b : Nat} {a : Act} {s : Sl} {hs hs' : List Hd} {tks tks' : List (Nat × Nat)}
theorem Nw.left (N : Nw np b nx (hs ++ hs') (tks ++ tks') ρ ρ' fp fp') : Nw np b nx hs tks ρ ρ' fp fp' := ⟨by have := N.lnx; rw [List.length_append] at this; omega, N.lnp, fun j h hj => N.at_ j h (hs_left hj), N.low, fun i r h => N.fp i r (List.mem_append_left _ h)⟩
theorem Nw.right (N : Nw np b nx (hs ++ hs') (tks ++ tks') ρ ρ' fp fp') : Nw np (b + hs.length) nx hs' tks' ρ ρ' fp fp' := ⟨by have := N.lnx; rw [List.length_append] at this; omega, N.lnp, fun j h hj => by rw [Nat.add_assoc]; exact N.at_ _ h (hs_right hj), N.low, fun i r h => N.fp i r (List.mem_append_right _ h)⟩
theorem Tells.nil : Tells w ok w1 nx ρ' fp' [] := fun _ _ _ h => by cases h
theorem Tells.append {m m' : Me} (h : Tells w ok w1 nx ρ' fp' m) (h' : Tells w ok w1 nx ρ' fp' m') : Tells w ok w1 nx ρ' fp' (m ++ m') := fun mec i p hp => (get_append_or hp).elim (h mec i p) (h' mec i p)
theorem lsIn_cons {l : Leaf} {ls : List Leaf} (h : l.In live ρ) (h' : LsIn live ρ ls) : LsIn live ρ (l :: ls) := fun u hu => (List.mem_cons.1 hu).elim (fun e => e ▸ h) (h' u)
theorem lsIn_append {ls ls' : List Leaf} (h : LsIn live ρ ls) (h' : LsIn live ρ ls') : LsIn live ρ (ls ++ ls') := fun u hu => (List.mem_append.1 hu).elim (h u) (h' u)
/-- A row that is taken, at a number. -/
theorem row_left (H : Mem w ok live w1 ρ fp me) {l : Leaf} {e : Nat} {t : Ty} {us : List Nat} {k : List (den t) → List Nat → Prg α} (hl : l.In live ρ) (h : Out me (tkRow l e t us k) v) :
  ∃ xs hd, Out me (k xs (rootL l us)) v ∧ (∀ i, TkOk us (rootL l us) ((rootH l).toList.map fun r => (i, r))) ∧ l.val ρ = hd.sl ∧ (∀ q, l = .own q → hd = ρ q) ∧
   ∀ i nx ρ' fp', i < nx → ρ' i = hd → (∀ j r, (j, r) ∈ ((rootH l).toList.map fun r => (i, r)) → ∀ k, fp r k → fp' j k) → ∀ m, Tells w ok w1 nx ρ' fp' m → Tells w ok w1 nx ρ' fp' ((i, some (.row 0 e t xs)) :: m) := by
 obtain ⟨xs, us', hd, h, e1, e2, e3, e4, e5, e6⟩ := tkRow_H H hl.ok h
 rw [e6] at h
 refine ⟨xs, hd, h, fun i => TkOk.root i (fun q hq => (e4 q hq).1), e1, e3, fun i nx ρ' fp' hi hρ hf m hm => Tells.cons hi trivial (fun mec => ?_) hm⟩
 show (ρ' i).z = _ ∧ _
 rw [hρ]
 exact ⟨e2, R_imp e5 (fun k ⟨r, hr, hk⟩ => hf i r (by rw [hr]; simp) k hk) (fun _ _ => rfl)⟩
theorem leaveLs_append : ∀ (ds es : List LD) (al : List (Option Nat)) (b : Nat), leaveLsF (ds ++ es) al b = ((leaveLsF ds al b).1 ++ (leaveLsF es (al.drop (cnt ds)) (leaveLsF ds al b).2.2).1, (leaveLsF ds al b).2.1 ++ (leaveLsF es (al.drop (cnt ds)) (leaveLsF ds al b).2.2).2.1, (leaveLsF es (al.drop (cnt ds)) (leaveLsF ds al b).2.2).2.2)
 | [], es, al, b => by simp [leaveLsF, cnt]
 | .lf _ :: r, es, al, b => by simp only [List.cons_append, leaveLsF, leaveLs_append r es al b, cnt]
 | .sl _ _ _ _ :: r, es, [], b => by simp only [List.cons_append, leaveLsF, leaveLs_append r es, cnt, List.tail_nil, List.drop_nil]
 | .sl _ _ _ _ :: r, es, none :: al, b => by simp only [List.cons_append, leaveLsF, leaveLs_append r es, cnt, List.tail_cons, List.drop_succ_cons]
 | .sl _ _ _ _ :: r, es, some q :: al, b => by simp only [List.cons_append, leaveLsF, leaveLs_append r es, cnt, List.drop_succ_cons]
theorem backLs_append : ∀ (ds es : List LD) (ms : List Nat) (q b : Nat), backLsF (ds ++ es) ms q b = ((backLsF ds ms q b).1 ++ (backLsF es (ms.drop (cnt ds)) (q + cnt ds) (backLsF ds ms q b).2.2).1, (backLsF ds ms q b).2.1 ++ (backLsF es (ms.drop (cnt ds)) (q + cnt ds) (backLsF ds ms q b).2.2).2.1, (backLsF es (ms.drop (cnt ds)) (q + cnt ds) (backLsF ds ms q b).2.2).2.2)
 | [], es, ms, q, b => by simp [backLsF, cnt]
 | .lf _ :: r, es, ms, q, b => by simp only [List.cons_append, backLsF, backLs_append r es ms q b, cnt]
 | .sl _ _ _ _ :: r, es, [], q, b => by simp only [List.cons_append, backLsF, backLs_append r es, cnt, List.tail_nil, List.drop_nil, Nat.add_assoc, Nat.add_comm 1]
 | .sl _ _ _ _ :: r, es, 0 :: ms, q, b => by simp only [List.cons_append, backLsF, backLs_append r es, cnt, List.drop_succ_cons, Nat.add_assoc, Nat.add_comm 1]
 | .sl _ _ _ _ :: r, es, 1 :: ms, q, b => by simp only [List.cons_append, backLsF, backLs_append r es, cnt, List.drop_succ_cons, Nat.add_assoc, Nat.add_comm 1]
 | .sl _ _ _ _ :: r, es, (m + 2) :: ms, q, b => by simp only [List.cons_append, backLsF, backLs_append r es, cnt, List.tail_cons, List.drop_succ_cons, Nat.add_assoc, Nat.add_comm 1]
/-- A plain leaf. -/
theorem scalar_left (W : World) {t : Ty} (hf : flat t = true) (hp : ∀ a b, t ≠ .pair a b) (hsl : ∀ e t', t ≠ .sl e t') {ls : List Leaf} {us : List Nat} {K : den t → List Leaf → List Nat → Prg α} (h : Out me (tak t ls us K) v) : ∃ x pre rest, Out me (K x rest us) v ∧ ls = pre ++ rest ∧ pre.length = sz t ∧ ∀ pa, ∃ l, descs t x pa = [.lf l] ∧ l.ref = none ∧ ∀ ρ ρ' : Nat → Hd, vals ρ' [l] = vals ρ pre := by
 obtain ⟨x, pre, rest, h, e1, l1, m1⟩ := gat_scalar hf (tak_gat hsl hp h)
 refine ⟨x, pre, rest, h, e1, l1, fun pa => ?_⟩
 have m2 := fun ρ => m1 W (fun _ => True) ρ
 cases t with
 | int k => exact ⟨_, rfl, rfl, fun ρ ρ' => (show vals ρ pre = [_] from m2 ρ).symm⟩
 | bool => exact ⟨_, rfl, rfl, fun ρ ρ' => (show vals ρ pre = [_] from m2 ρ).symm⟩
 | str => exact ⟨_, rfl, rfl, fun ρ ρ' => (show vals ρ pre = [_] from m2 ρ).symm⟩
 | sl e t' => exact absurd rfl (hsl e t')
 | pair a b => exact absurd rfl (hp a b)
/-- A result's cells. -/
theorem takR_out (H : Mem w ok live w1 ρ fp me) : ∀ (t : Ty) {ls : List Leaf} {al : List (Option Nat)} {us : List Nat} {K : den t → List Leaf → List (Option Nat) → List Nat → Prg α} (b : Nat), (∀ q, some q ∈ al → q < np) → LsIn live ρ ls → Out me (takR t ls al us K) v →
  ∃ x pre rest us', ∃ (hs : List Hd) (tks : List (Nat × Nat)), Out me (K x rest (al.drop (nsl t)) us') v ∧ ls = pre ++ rest ∧ pre.length = sz t ∧ TkOk us us' tks ∧
   ∀ pa nx ρ' fp', Nw np b nx hs tks ρ ρ' fp fp' → vals ρ' (leaveLsF (descs t x pa) al b).1 = vals ρ pre ∧ LsIn (fun i => i < nx) ρ' (leaveLsF (descs t x pa) al b).1 ∧ (leaveLsF (descs t x pa) al b).2.2 = b + hs.length ∧ Tells w ok w1 nx ρ' fp' (leaveLsF (descs t x pa) al b).2.1 := by
 intro t
 induction t with
 | sl e t ih =>
  intro ls al us K b hal hl h
  cases ls with
  | nil => exact h.elim
  | cons l rest =>
   cases al with
   | nil => exact h.elim
   | cons m al =>
    have hli := hl l (by simp)
    cases m with
    | none =>
     have h0 : Out me (tkRow l e t us fun xs us => K xs rest al us) v := h
     obtain ⟨xs, hd, h, k1, k2, _, k3⟩ := row_left H hli h0
     refine ⟨xs, [l], rest, _, [hd], _, h, rfl, rfl, k1 b, fun pa nx ρ' fp' N => ?_⟩
     have hb : ρ' b = hd := N.at_ 0 hd rfl
     have hbn : b < nx := by have := N.lnx; simp at this; omega
     refine ⟨?_, ?_, rfl, ?_⟩
     ·show [(ρ' b).sl] = [l.val ρ]
      rw [hb, k2]
     ·exact lsIn_cons ⟨fun i hi => by injection hi with hi; subst hi; exact hbn, trivial⟩ (fun _ h => by cases h)
     ·exact k3 b nx ρ' fp' hbn hb N.fp [] Tells.nil
    | some q =>
     cases l <;> first | exact h.elim | skip
     rename_i r0
     obtain ⟨hb, h0⟩ := bif_fail h
     have hb := Nat.eq_of_beq_eq_true hb
     obtain ⟨p, hp, h0⟩ := h0
     cases p <;> first | exact h0.elim | skip
     rename_i o' e' t' xs
     cases o' with
     | true => exact h0.elim
     | false =>
      obtain ⟨_, h1⟩ := bif_fail h0
      obtain ⟨he, h2⟩ := castL_out h1
      subst he
      subst hb
      refine ⟨xs, [.own r0], rest, us, [], [], h2, rfl, rfl, TkOk.nil us, fun pa nx ρ' fp' N => ?_⟩
      have hq := hal r0 (by simp)
      refine ⟨?_, ?_, rfl, Tells.nil⟩
      ·show [(ρ' r0).sl] = [(ρ r0).sl]
       rw [N.low r0 hq]
      ·exact lsIn_cons ⟨fun i hi => by injection hi with hi; subst hi; exact Nat.lt_of_lt_of_le hq N.lnp, trivial⟩ (fun _ h => by cases h)
 | pair a c iha ihc =>
  intro ls al us K b hal hl h
  obtain ⟨x, p1, r1, us1, h1, t1, h, e1, l1, k1, g1⟩ := iha b hal hl h
  obtain ⟨y, p2, r2, us2, h2, t2, h, e2, l2, k2, g2⟩ := ihc (b + h1.length) (fun q hq => hal q (List.mem_of_mem_drop hq)) (fun l hm => hl l (by rw [e1]; exact List.mem_append_right _ hm)) h
  rw [List.drop_drop] at h
  refine ⟨(x, y), p1 ++ p2, r2, us2, h1 ++ h2, t1 ++ t2, h, by rw [e1, e2, List.append_assoc], by rw [List.length_append, l1, l2]; rfl, k1.trans k2, fun pa nx ρ' fp' N => ?_⟩
  obtain ⟨a1, a2, a3, a4⟩ := g1 (false :: pa) nx ρ' fp' N.left
  obtain ⟨b1, b2, b3, b4⟩ := g2 (true :: pa) nx ρ' fp' N.right
  simp only [descs, leaveLs_append, cnt_descs, a3]
  exact ⟨by rw [vals_append, vals_append, a1, b1], lsIn_append a2 b2, by rw [b3, List.length_append]; omega, a4.append b4⟩
 | _ =>
  intro ls al us K b hal hl h
  obtain ⟨x, pre, rest, h, e1, l1, m1⟩ := scalar_left w1 rfl (fun _ _ h => by cases h) (fun _ _ h => by cases h) h
  refine ⟨x, pre, rest, us, [], [], h, e1, l1, TkOk.nil us, fun pa nx ρ' fp' N => ?_⟩
  obtain ⟨l, hd, hr, hv⟩ := m1 pa
  rw [hd]
  exact ⟨hv ρ ρ', lsIn_cons (in_none hr) (fun _ h => by cases h), rfl, Tells.nil⟩
/-- A held struct's cells. -/
theorem takK_out (H : Mem w ok live w1 ρ fp me) : ∀ (t : Ty) {ls : List Leaf} {ms : List Nat} {q : Nat} {us : List Nat} {K : den t → List Leaf → List Nat → Nat → List Nat → Prg α} (b : Nat), q + nsl t ≤ np → LsIn live ρ ls → Out me (takK t ls ms q us K) v →
  ∃ x pre rest us', ∃ (hs : List Hd) (tks : List (Nat × Nat)), Out me (K x rest (ms.drop (nsl t)) (q + nsl t) us') v ∧ ls = pre ++ rest ∧ pre.length = sz t ∧ TkOk us us' tks ∧
   ∀ pa nx ρ' fp', Nw np b nx hs tks ρ ρ' fp fp' → vals ρ' (backLsF (descs t x pa) ms q b).1 = vals ρ pre ∧ LsIn (fun i => i < nx) ρ' (backLsF (descs t x pa) ms q b).1 ∧ (backLsF (descs t x pa) ms q b).2.2 = b + hs.length ∧ Tells w ok w1 nx ρ' fp' (backLsF (descs t x pa) ms q b).2.1 := by
 intro t
 induction t with
 | sl e t ih =>
  intro ls ms q us K b hq hl h
  have hq : q < np := by simp only [nsl] at hq; omega
  cases ls with
  | nil => exact h.elim
  | cons l rest =>
   cases ms with
   | nil => exact h.elim
   | cons m ms =>
    have hli := hl l (by simp)
    match m, h with
    | 0, h =>
     have h0 : Out me (match l with | .own r => bif Nat.beq r q then rdRow (.own r) e t fun xs => K xs rest ms (q + 1) us else .fail | _ => .fail) v := h
     clear h
     obtain ⟨r0, rfl⟩ : ∃ r0, l = .own r0 := by cases l <;> first | exact h0.elim | exact ⟨_, rfl⟩
     obtain ⟨hb, h1⟩ := bif_fail h0
     have hb := Nat.eq_of_beq_eq_true hb
     subst hb
     obtain ⟨xs, A, c, h2, _⟩ := rdRow_out H hli.ok h1
     refine ⟨xs, [.own r0], rest, us, [], [], h2, rfl, rfl, TkOk.nil us, fun pa nx ρ' fp' N => ?_⟩
     refine ⟨?_, ?_, rfl, Tells.nil⟩
     ·show [(ρ' r0).sl] = [(ρ r0).sl]
      rw [N.low r0 hq]
     ·exact lsIn_cons ⟨fun i hi => by injection hi with hi; subst hi; exact Nat.lt_of_lt_of_le hq N.lnp, trivial⟩ (fun _ h => by cases h)
    | 1, h =>
     have h0 : Out me (match l with | .own r => bif Nat.beq r q then tkRow (.own r) e t us fun xs us => K xs rest ms (q + 1) us else .fail | _ => .fail) v := h
     clear h
     obtain ⟨r0, rfl⟩ : ∃ r0, l = .own r0 := by cases l <;> first | exact h0.elim | exact ⟨_, rfl⟩
     obtain ⟨hb, h1⟩ := bif_fail h0
     have hb := Nat.eq_of_beq_eq_true hb
     subst hb
     obtain ⟨xs, hd, h2, k1, k2, k3, k4⟩ := row_left H hli h1
     refine ⟨xs, [.own r0], rest, _, [], _, h2, rfl, rfl, k1 r0, fun pa nx ρ' fp' N => ?_⟩
     have hrn := Nat.lt_of_lt_of_le hq N.lnp
     refine ⟨?_, ?_, rfl, k4 r0 nx ρ' fp' hrn (by rw [N.low r0 hq, k3 r0 rfl]) N.fp [] Tells.nil⟩
     ·show [(ρ' r0).sl] = [(ρ r0).sl]
      rw [N.low r0 hq]
     ·exact lsIn_cons ⟨fun i hi => by injection hi with hi; subst hi; exact hrn, trivial⟩ (fun _ h => by cases h)
    | m + 2, h =>
     have h0 : Out me (tkRow l e t us fun xs us => K xs rest ms (q + 1) us) v := h
     obtain ⟨xs, hd, h, k1, k2, _, k3⟩ := row_left H hli h0
     refine ⟨xs, [l], rest, _, [hd], _, h, rfl, rfl, k1 b, fun pa nx ρ' fp' N => ?_⟩
     have hb : ρ' b = hd := N.at_ 0 hd rfl
     have hbn : b < nx := by have := N.lnx; simp at this; omega
     refine ⟨?_, ?_, rfl, ?_⟩
     ·show [(ρ' b).sl] = [l.val ρ]
      rw [hb, k2]
     ·exact lsIn_cons ⟨fun i hi => by injection hi with hi; subst hi; exact hbn, trivial⟩ (fun _ h => by cases h)
     ·exact k3 b nx ρ' fp' hbn hb N.fp [] Tells.nil
 | pair a c iha ihc =>
  intro ls ms q us K b hq hl h
  simp only [nsl] at hq
  obtain ⟨x, p1, r1, us1, h1, t1, h, e1, l1, k1, g1⟩ := iha b (by omega) hl h
  obtain ⟨y, p2, r2, us2, h2, t2, h, e2, l2, k2, g2⟩ := ihc (b + h1.length) (by omega) (fun l hm => hl l (by rw [e1]; exact List.mem_append_right _ hm)) h
  rw [List.drop_drop, Nat.add_assoc] at h
  refine ⟨(x, y), p1 ++ p2, r2, us2, h1 ++ h2, t1 ++ t2, h, by rw [e1, e2, List.append_assoc], by rw [List.length_append, l1, l2]; rfl, k1.trans k2, fun pa nx ρ' fp' N => ?_⟩
  obtain ⟨a1, a2, a3, a4⟩ := g1 (false :: pa) nx ρ' fp' N.left
  obtain ⟨b1, b2, b3, b4⟩ := g2 (true :: pa) nx ρ' fp' N.right
  simp only [descs, backLs_append, cnt_descs, a3]
  exact ⟨by rw [vals_append, vals_append, a1, b1], lsIn_append a2 b2, by rw [b3, List.length_append]; omega, a4.append b4⟩
 | _ =>
  intro ls ms q us K b hq hl h
  obtain ⟨x, pre, rest, h, e1, l1, m1⟩ := scalar_left w1 rfl (fun _ _ h => by cases h) (fun _ _ h => by cases h) h
  refine ⟨x, pre, rest, us, [], [], h, e1, l1, TkOk.nil us, fun pa nx ρ' fp' N => ?_⟩
  obtain ⟨l, hd, hr, hv⟩ := m1 pa
  rw [hd]
  exact ⟨hv ρ ρ', lsIn_cons (in_none hr) (fun _ h => by cases h), rfl, Tells.nil⟩
theorem hd_tcons {a : Type} : ∀ (os : List Type) (x : a) (y : Tup os), hd os (tcons os x y) = x
 | [], _, _ => rfl
 | _ :: _, _, _ => rfl
theorem tl_tcons {a : Type} : ∀ (os : List Type) (x : a) (y : Tup os), tl os (tcons os x y) = y
 | [], _, _ => rfl
 | _ :: _, _, _ => rfl
/-- The rows of a struct that were held. -/
theorem rowsE_out (H : Mem w ok live w1 ρ fp me) (hnp : ∀ i, i < np → live i) : ∀ (q : List (Nat × Ty)) (os : List Type) (is : List Nat) {us : List Nat} {O : List Nat → (Tup os → Prg α) → Prg α} {K : Tup (rowTs q os) → Prg α}, (∀ i ∈ is, i < np) → Out me (rowsE q os is us O K) v →
  ∃ us' tks, ∃ F : Tup os → Tup (rowTs q os), Out me (O us' fun y => K (F y)) v ∧ TkOk us us' tks ∧ ∀ y, (backRowsF q os is (F y)).1 = y ∧ ∀ nx ρ' fp', np ≤ nx → (∀ i, i < np → ρ' i = ρ i) → (∀ i r, (i, r) ∈ tks → ∀ k, fp r k → fp' i k) → Tells w ok w1 nx ρ' fp' (backRowsF q os is (F y)).2 := by
 intro q
 induction q with
 | nil => intro os is us O K hi h; exact ⟨us, [], fun y => y, h, TkOk.nil us, fun y => ⟨rfl, fun _ _ _ _ _ _ => Tells.nil⟩⟩
 | cons x q ih =>
  obtain ⟨e, t⟩ := x
  intro os is us O K hi h
  cases is with
  | nil => exact h.elim
  | cons i is =>
   have hin := hi i (by simp)
   obtain ⟨xs, hd0, h, k1, k2, k3, k4⟩ := row_left H (l := .own i) ⟨fun j hj => by injection hj with hj; subst hj; exact hnp _ hin, trivial⟩ h
   obtain ⟨us', tks, F, h, g1, g2⟩ := ih os is (fun j hj => hi j (List.mem_cons_of_mem _ hj)) h
   refine ⟨us', _, fun y => tcons _ xs (F y), h, (k1 i).trans g1, fun y => ?_⟩
   simp only [backRowsF, hd_tcons, tl_tcons, List.tail_cons, List.headD_cons]
   obtain ⟨j1, j2⟩ := g2 y
   refine ⟨j1, fun nx ρ' fp' hnx hlow hfp => ?_⟩
   exact k4 i nx ρ' fp' (by omega) (by rw [hlow i hin, k3 i rfl]) (fun j r hr => hfp j r (List.mem_append_left _ hr)) _ (j2 nx ρ' fp' hnx hlow (fun j r hr => hfp j r (List.mem_append_right _ hr)))
theorem rows_len : ∀ t, (rows t).length = nsl t
 | .int _ => rfl
 | .bool => rfl
 | .str => rfl
 | .sl _ _ => rfl
 | .pair a b => by rw [rows, List.length_append, rows_len a, rows_len b]; rfl
theorem heldIds_lt : ∀ (q : Nat) (rs : List (Nat × Ty)) (ms : List Nat), ∀ i ∈ heldIds q rs ms, i < q + rs.length
 | _, [], _, i, h => by simp [heldIds] at h
 | _, _ :: _, [], i, h => by simp [heldIds] at h
 | q, _ :: r, 0 :: ms, i, h => by
  have := heldIds_lt (q + 1) r ms i h
  simp only [List.length_cons]
  omega
 | q, _ :: r, (m + 1) :: ms, i, h => by
  simp only [List.length_cons]
  rcases List.mem_cons.1 h with rfl | h
  ·omega
  ·have := heldIds_lt (q + 1) r ms i h
   omega
/-- What was held. -/
theorem outsE_out (H : Mem w ok live w1 ρ fp me) (hnp : ∀ i, i < np → live i) : ∀ (ps : List PM) (q bn : Nat) {us : List Nat} {K : Tup (outTs ps) → Prg α}, q + nps ps ≤ np → Out me (outsE ps q us K) v →
  ∃ y us', ∃ (hs : List Hd) (tks : List (Nat × Nat)), Out me (K y) v ∧ TkOk us us' tks ∧ ∀ nx ρ' fp', Nw np bn nx hs tks ρ ρ' fp fp' → (leaveOsF ps y q bn).2 = bn + hs.length ∧ Tells w ok w1 nx ρ' fp' (leaveOsF ps y q bn).1 := by
 intro ps
 induction ps with
 | nil => intro q bn us K hq h; exact ⟨(), us, [], [], h, TkOk.nil us, fun _ _ _ _ => ⟨rfl, Tells.nil⟩⟩
 | cons p ps ih =>
  intro q bn us K hq h
  cases p with
  | val st t ms =>
   simp only [nps] at hq
   obtain ⟨us1, t1, F, h, k1, k2⟩ := rowsE_out H hnp (heldRows (rows t) ms) (outTs ps) (heldIds q (rows t) ms) (fun i hi => by have := heldIds_lt q (rows t) ms i hi; rw [rows_len] at this; omega) h
   obtain ⟨y, us2, h2, t2, h, g1, g2⟩ := ih (q + nsl t) bn (by omega) h
   refine ⟨F y, us2, h2, t1 ++ t2, h, k1.trans g1, fun nx ρ' fp' N => ?_⟩
   obtain ⟨j1, j2⟩ := k2 y
   have N1 : Nw np bn nx ([] ++ h2) (t1 ++ t2) ρ ρ' fp fp' := N
   have N2 := N1.right
   obtain ⟨i1, i2⟩ := g2 nx ρ' fp' N2
   simp only [leaveOsF, j1]
   exact ⟨i1, (j2 nx ρ' fp' N.lnp N.low (fun i r hr => N.fp i r (List.mem_append_left _ hr))).append i2⟩
  | ptr T t ms =>
   simp only [nps] at hq
   rcases bif_out h with ⟨_, h⟩ | ⟨hm, h⟩
   ·exact h.elim
   have hni : q ∉ us := fun hi => by rw [memb_iff.2 hi] at hm; cases hm
   obtain ⟨p, hp, h⟩ := h
   cases p <;> first | exact h.elim | skip
   rename_i T' cs
   obtain ⟨hT, h⟩ := bif_fail h
   have hT := Nat.eq_of_beq_eq_true hT
   subst hT
   obtain ⟨_, hcs⟩ := H.lin q _ hp
   obtain ⟨hg, hblk⟩ := H.on q _ hp
   obtain ⟨x, pre, rest, us1, h1, t1, h, e1, l1, k1, k2⟩ := takK_out (np := np) H t bn (by omega) hcs h
   cases rest with
   | cons => exact h.elim
   | nil =>
    rw [List.append_nil] at e1
    obtain ⟨y, us2, h2, t2, h, g1, g2⟩ := ih (q + 1 + nsl t) (bn + h1.length) (by omega) h
    refine ⟨tcons _ x y, us2, h1 ++ h2, [(q, q)] ++ t1 ++ t2, h, ((TkOk.one hni).trans k1).trans g1, fun nx ρ' fp' N => ?_⟩
    have N0 : Nw np bn nx h1 ([(q, q)] ++ t1) ρ ρ' fp fp' := N.left
    have N1 : Nw np bn nx h1 t1 ρ ρ' fp fp' := ⟨N0.lnx, N0.lnp, N0.at_, N0.low, fun i r h => N0.fp i r (List.mem_append_right _ h)⟩
    obtain ⟨a1, a2, a3, a4⟩ := k2 [] nx ρ' fp' N1
    obtain ⟨b1, b2⟩ := g2 nx ρ' fp' N.right
    simp only [leaveOsF, hd_tcons, tl_tcons, a3]
    refine ⟨by rw [b1, List.length_append]; omega, Tells.cons (Nat.lt_of_lt_of_le (by omega) N.lnp) a2 (fun mec => ?_) (a4.append b2)⟩
    show fp' q (ρ' q).g ∧ w1.heap[(ρ' q).g]? = _
    rw [N.low q (by omega), a1, ← e1]
    exact ⟨N.fp q q (by simp) _ hg, hblk⟩
end
end Go.Proofs.YthncjcfnpfajaaaA
