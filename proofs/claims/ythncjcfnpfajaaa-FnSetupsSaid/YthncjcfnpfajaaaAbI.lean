/- Regions whose order is drawn, in every order. Plain lemmas; no condition. -/
import Derived.Test.YthncjcfnpfajaaaAbH
namespace Go.Proofs.YthncjcfnpfajaaaA
open Go Go.RowKit Go.Proofs.YthncjcfnpfajaaaW.PrintWords
set_option linter.unusedVariables false
set_option linter.unusedSimpArgs false
theorem meet_iff : ∀ {l m : List Nat}, meet l m = false → ∀ k ∈ l, k ∉ m
 | [], _, _, _, h => by cases h
 | x :: l, m, h, k, hk => by
  simp only [meet, Bool.or_eq_false_iff] at h
  rcases List.mem_cons.1 hk with rfl | hk
  ·intro hm; rw [memb_iff.2 hm] at h; cases h.1
  ·exact meet_iff h.2 k hk
theorem apart_all {g h : Log} (ha : apart g h = true) : (∀ q, g.dst = some q → q ∉ h.uses) ∧ (∀ q, h.dst = some q → q ∉ g.uses) ∧ (∀ q, g.dst = some q → h.dst ≠ some q) ∧ (∀ k ∈ g.writes, k ∉ h.reads) ∧ (∀ k ∈ g.writes, k ∉ h.writes) ∧ (∀ k ∈ h.writes, k ∉ g.reads) := by
 simp only [apart, Bool.and_eq_true, Bool.not_eq_true'] at ha
 obtain ⟨⟨⟨⟨⟨h1, h2⟩, h3⟩, h4⟩, h5⟩, h6⟩ := ha
 refine ⟨fun q hq hm => ?_, fun q hq hm => ?_, fun q hq hh => ?_, meet_iff h4, meet_iff h5, meet_iff h6⟩
 ·rw [hq] at h1; simp only [optIn] at h1; rw [memb_iff.2 hm] at h1; cases h1
 ·rw [hq] at h2; simp only [optIn] at h2; rw [memb_iff.2 hm] at h2; cases h2
 ·rw [hq, hh] at h3; simp [optEq] at h3
section
variable {P : Program} {w : World} {ok : Nat → Prop} {np : Nat} {ρ0 : Nat → Hd} {C : Ctx} {R : Type} {r : R}
/-- REGIONS OF ANY ORDER. -/
theorem drawn_ok (hC : TdsOk P C.Δ) (hE : EntsOk P C.fuel C.Γ) (hmix : P.follows .mixedOrders = true) {l : List Oper} {K : Sl → Me → Nat → Option R} {Q : Exit → Act → World → Prop} (hK : ∀ s m b a w1, K s m b = some r → Rel C w ok np ρ0 s m b a w1 → Q .normal a w1)
  {id : Nat} {s : Sl} {m : Me} {b : Nat} {a : Act} {w1 : World} (h : runDrawn C l K l [] s m b = some r) (hR : Rel C w ok np ρ0 s m b a w1) : (Code.region id l.toArray true).wp P Q a w1 := by
 obtain ⟨xs, sN, mN, hch, hK0⟩ := drawn_chain l [] s m b h
 obtain ⟨ρ, fp, H, hnp, hρ, hs, hN, hdf⟩ := hR
 obtain ⟨hF, hsN, hmN⟩ := chain_facts (C := C) (l := l) (me0 := getm m) (s0 := get s) (b0 := b) (x0 := ⟨[], false, undefS, [], [], ⟨none, [], [], [], []⟩⟩) l [] [] xs xs s m b sN mN rfl rfl rfl (fun q v hv => ⟨v, hv, Eqv.rfl' v⟩) rfl rfl hch
 generalize hXd : (fun i => xs.getD i (⟨[], false, undefS, [], [], ⟨none, [], [], [], []⟩⟩ : Rec)) = X at hF hsN hmN
 have hF : ∀ i o, l[i]? = some o → Fact C l X (getm m) (get s) b i o := fun i o ho => hF i o (Nat.zero_le _) ho
 obtain ⟨n, hn⟩ : ∃ n, n = l.length := ⟨_, rfl⟩
 have hlo : ∀ i, i < n → ∃ o, l[i]? = some o ∧ Fact C l X (getm m) (get s) b i o := fun i hi => ⟨_, List.getElem?_eq_getElem (by omega), hF i _ (List.getElem?_eq_getElem (by omega))⟩
 -- what stands as long as U is to come
 have key : ∀ d (U : List Nat) (listed : Array Bool) (a' : Act) (w' : World), U.length = d → U.Nodup → (∀ u ∈ U, u < n) → listed.size = n → (∀ j, j < n → (listed.getD j false = true ↔ j ∉ U)) → (∀ i, i < n → i ∉ U → ∀ k ∈ (X i).lg.anc, k ∉ U) →
   (∃ ρ fp, Mem w ok (fun k => k < b ∨ ∃ j, (j < n ∧ j ∉ U) ∧ b + step * j ≤ k ∧ k < b + step * j + step) w' ρ fp (ov X (fun j => j < n ∧ j ∉ U) (getm m) n) ∧ (∀ i, i < np → ρ i = ρ0 i) ∧
    (∀ q v0, osl X (fun j => j < n ∧ j ∉ U) (get s) n q = some v0 → a'.tmps.getD q undef = v0.val ρ ∧ v0.In (fun k => k < b ∨ ∃ j, (j < n ∧ j ∉ U) ∧ b + step * j ≤ k ∧ k < b + step * j + step) ρ) ∧ a'.tmps.size = C.N ∧ a'.defers = []) →
   wpAny P .any l.toArray Q d listed a' w' := by
  intro d
  induction d with
  | zero =>
   intro U listed a' w' hU _ _ hsz hl _ ⟨ρ, fp, H, hρ, hs, hN, hdf⟩
   obtain rfl := List.length_eq_zero_iff.1 hU
   refine ⟨List.eq_nil_iff_forall_not_mem.2 fun i hi => ?_, ?_⟩
   ·obtain ⟨o, ho, h2, _⟩ := (mem_ready (by omega)).1 hi
    have h1 : i < n := by have := (List.getElem?_eq_some_iff.1 ho).1; omega
    rw [(hl i h1).2 (by simp)] at h2
    cases h2
   ·have eo : ov X (fun j => j < n ∧ j ∉ ([] : List Nat)) (getm m) n = getm mN := by
     rw [hmN, ← hn]
     funext k
     exact ov_all n (fun j hj _ => ⟨hj, by simp⟩)
    rw [eo] at H
    have es : ∀ q, osl X (fun j => j < n ∧ j ∉ ([] : List Nat)) (get s) n q = osl X All (get s) n q := fun q => osl_all n (fun j hj _ => ⟨hj, by simp⟩)
    have hlive : ∀ k, (k < b ∨ ∃ j, (j < n ∧ j ∉ ([] : List Nat)) ∧ b + step * j ≤ k ∧ k < b + step * j + step) → k < b + step * l.length := fun k hk => by
     rcases hk with hk | ⟨j, ⟨hj, _⟩, _, h2⟩
     ·omega
     ·have := Nat.mul_le_mul_left step (show j + 1 ≤ n from hj)
      rw [Nat.mul_succ] at this
      rw [← hn]
      omega
    refine hK sN mN _ a' w' hK0 ⟨ρ, fp, H.live_mono hlive, by omega, hρ, fun q v hv => ?_, hN, hdf⟩
    obtain ⟨v0, h1, h2⟩ := hsN q v hv
    rw [← hn, ← es q] at h1
    obtain ⟨h3, h4⟩ := hs q v0 h1
    obtain ⟨h5, h6⟩ := h2 ρ _ (h4.mono hlive (fun _ _ => rfl))
    exact ⟨h3.trans h5.symm, h6⟩
  | succ d ih =>
   intro U listed a' w' hU hnd hUn hsz hl hcl ⟨ρ, fp, H, hρ, hs, hN, hdf⟩
   obtain ⟨D, hD⟩ : ∃ D : Nat → Prop, D = fun j => j < n ∧ j ∉ U := ⟨_, rfl⟩
   refine ⟨fun hr => ?_, fun i hi => ?_⟩
   ·obtain ⟨u, hu, hmin⟩ := exists_least (U := U) (by intro h; rw [h] at hU; cases hU)
    obtain ⟨o, ho, hf⟩ := hlo u (hUn u hu)
    have : u ∈ Region.ready .any l.toArray listed := (mem_ready (by omega)).2 ⟨o, ho, by
     cases hx : listed.getD u false with
     | false => rfl
     | true => exact absurd hu ((hl u (hUn u hu)).1 hx), fun j hj => by
     have hju := hf.below j (hf.ons j hj)
     exact (hl j (by have := hUn u hu; omega)).2 (fun hjU => by have := hmin j hjU; omega)⟩
    rw [hr] at this
    cases this
   ·obtain ⟨o, ho, h2, h3⟩ := (mem_ready (by omega)).1 hi
    have hin : i < n := by have := (List.getElem?_eq_some_iff.1 ho).1; omega
    have hiU : i ∈ U := by
     by_cases h : i ∈ U
     ·exact h
     ·rw [(hl i hin).2 h] at h2; cases h2
    have hf := hF i o ho
    have hanc : ∀ k ∈ (X i).lg.anc, k ∉ U := fun k hk => by
     have hj : ∀ j ∈ onsOf o, j ∉ U := fun j hj => (hl j (by have := hf.below j (hf.ons j hj); omega)).1 (h3 j hj)
     rcases hf.anc k hk with h | ⟨j, h, hk⟩
     ·exact hj k h
     ·exact hcl j (by have := hf.below j (hf.ons j h); omega) (hj j h) k hk
    have before : ∀ j, j < i → ¬ D j → apart (X j).lg (X i).lg = true := fun j hj hd => (hf.apart j hj).resolve_left (fun h => hd (by rw [hD]; exact ⟨by omega, hanc j h⟩))
    have after : ∀ j, i < j → D j → apart (X i).lg (X j).lg = true := fun j hj hd => by
     rw [hD] at hd
     obtain ⟨o', ho', hf'⟩ := hlo j hd.1
     exact (hf'.apart i hj).resolve_left (fun h => hcl j hd.1 hd.2 i h hiU)
    have hDi : ¬ D i := fun h => by rw [hD] at h; exact h.2 hiU
    -- what it looks at
    have look : ∀ k ∈ (X i).rd, ov X D (getm m) n k = ov X All (getm m) i k := fun k hk => by
     have e1 := ov_stay (X := X) (D := D) (me0 := getm m) (i := i) (k := k) (n - i) (fun j h1 h2 hd hkj => by
      have hne : j ≠ i := fun e => hDi (e ▸ hd)
      obtain ⟨_, _, _, _, _, h6⟩ := apart_all (after j (by omega) hd)
      obtain ⟨o', ho', hf'⟩ := hlo j (by omega)
      exact h6 k (by rw [hf'.writes]; exact hkj) (by rw [hf.reads]; exact hk))
     rw [show i + (n - i) = n by omega] at e1
     rw [e1]
     refine ov_all i (fun j hj hkj => ?_)
     by_cases hd : D j
     ·exact hd
     ·obtain ⟨_, _, _, h4, _, _⟩ := apart_all (before j hj hd)
      obtain ⟨o', ho', hf'⟩ := hlo j (by omega)
      exact absurd (by rw [hf.reads]; exact hk) (h4 k (by rw [hf'.writes]; exact hkj))
    have looks : ∀ q ∈ usesOf l o, osl X D (get s) n q = osl X All (get s) i q := fun q hq => by
     have e1 := osl_stay (X := X) (D := D) (s0 := get s) (i := i) (q := q) (n - i) (fun j h1 h2 hd hdq => by
      have hne : j ≠ i := fun e => hDi (e ▸ hd)
      obtain ⟨_, h2', _⟩ := apart_all (after j (by omega) hd)
      exact h2' q hdq (by rw [hf.uses]; exact hq))
     rw [show i + (n - i) = n by omega] at e1
     rw [e1]
     refine osl_all i (fun j hj hdq => ?_)
     by_cases hd : D j
     ·exact hd
     ·obtain ⟨h1', _⟩ := apart_all (before j hj hd)
      exact absurd (by rw [hf.uses]; exact hq) (h1' q hdq)
    rw [← hD] at H hs
    generalize hlv : (fun k => k < b ∨ ∃ j, D j ∧ b + step * j ≤ k ∧ k < b + step * j + step) = lv at *
    have H : Mem w ok lv w' ρ fp (ov X D (getm m) n) := by
     rw [← hlv]
     rw [hD] at H ⊢
     exact H
    have hs : ∀ q v0, osl X D (get s) n q = some v0 → a'.tmps.getD q undef = v0.val ρ ∧ v0.In lv ρ := by
     rw [← hlv]
     rw [hD] at hs ⊢
     exact hs
    obtain ⟨si, k1, k2, k3⟩ := hf.know
    have slot : ∀ q ∈ usesOf l o, ∀ v, get si q = some v → a'.tmps.getD q undef = v.val ρ ∧ v.In lv ρ := fun q hq v hv => by
     obtain ⟨v0, h1, h2⟩ := k1 q v hv
     rw [← looks q hq] at h1
     obtain ⟨h3, h4⟩ := hs q v0 h1
     obtain ⟨h5, h6⟩ := h2 ρ lv h4
     exact ⟨h3.trans h5.symm, h6⟩
    have hw : Region.wanted o (yielded l.toArray a'.tmps) = (X i).flag := by
     rcases k3 with ⟨hg, hfl⟩ | ⟨j, gb, q, v0, hg, hd, hq, hc⟩
     ·rw [hfl]; simp [Region.wanted, hg]
     ·have hqu : q ∈ usesOf l o := by
       unfold usesOf
       rw [hg]
       simp only [nth_get]
       unfold dstB at hd
       cases hlj : l[j]? with
       | none => rw [hlj] at hd; cases hd
       | some oj =>
        rw [hlj] at hd
        have hd' : oj.dst = some q := hd
        simp [hd']
      obtain ⟨h1, _⟩ := slot q hqu v0 hq
      rcases hc with ⟨c, hc, hfl⟩ | ⟨hc, hfl⟩
      ·rw [hfl, wanted_eq hg hd (h1.trans (hc ρ))]
      ·rw [hfl, wanted_undef hg hd (h1.trans (hc ρ))]
    -- behind it
    have hnext : ∀ w2 ρ' fp', Mem w ok (grow lv (b + step * i)) w2 ρ' fp' (upd (X i).us (ov X D (getm m) n)) → (∀ k, lv k → ρ' k = ρ k) → (X i).v.In (grow lv (b + step * i)) ρ' → wpAny P .any l.toArray Q d (listed.setIfInBounds i true) (a'.put o.dst ((X i).v.val ρ')) w2 := by
     intro w2 ρ' fp' H' hρ' hv'
     have eD : (fun j => j < n ∧ j ∉ U.erase i) = fun j => D j ∨ j = i := by
      funext j
      rw [hD]
      refine propext ⟨fun ⟨h1, h2⟩ => ?_, fun h => ?_⟩
      ·by_cases hji : j = i
       ·exact .inr hji
       ·exact .inl ⟨h1, fun h => h2 ((List.mem_erase_of_ne hji).2 h)⟩
      ·rcases h with ⟨h1, h2⟩ | h
       ·exact ⟨h1, fun h => h2 (List.mem_of_mem_erase h)⟩
       ·subst h
        exact ⟨hin, fun h => (List.Nodup.not_mem_erase hnd) h⟩
     have elv : (fun k => k < b ∨ ∃ j, (j < n ∧ j ∉ U.erase i) ∧ b + step * j ≤ k ∧ k < b + step * j + step) = grow lv (b + step * i) := by
      funext k
      have eDj : ∀ j, (j < n ∧ j ∉ U.erase i) ↔ (D j ∨ j = i) := fun j => iff_of_eq (congrFun eD j)
      rw [← hlv]
      refine propext ⟨fun h => ?_, fun h => ?_⟩
      ·rcases h with h | ⟨j, hj, h⟩
       ·exact .inl (.inl h)
       ·rcases (eDj j).1 hj with hj | hj
        ·exact .inl (.inr ⟨j, hj, h⟩)
        ·subst hj; exact .inr h
      ·rcases h with (h | ⟨j, hj, h⟩) | h
       ·exact .inl h
       ·exact .inr ⟨j, (eDj j).2 (.inl hj), h⟩
       ·exact .inr ⟨i, (eDj i).2 (.inr rfl), h⟩
     have hU' : (U.erase i).length = d := by rw [List.length_erase_of_mem hiU]; omega
     refine ih (U.erase i) _ _ _ hU' (hnd.erase i) (fun u hu => hUn u (List.mem_of_mem_erase hu)) (by simpa using hsz) (fun j hj => ?_) (fun j hj hjU k hk hkU => ?_) ?_
     ·rw [getD_set (by omega)]
      by_cases hji : j = i
      ·rw [if_pos hji]
       subst hji
       exact ⟨fun _ h => (List.Nodup.not_mem_erase hnd) h, fun _ => rfl⟩
      ·rw [if_neg hji, hl j hj]
       exact ⟨fun h h' => h (List.mem_of_mem_erase h'), fun h h' => h ((List.mem_erase_of_ne hji).2 h')⟩
     ·by_cases hji : j = i
      ·subst hji
       exact hanc k hk (List.mem_of_mem_erase hkU)
      ·exact hcl j hj (fun h => hjU ((List.mem_erase_of_ne hji).2 h)) k hk (List.mem_of_mem_erase hkU)
     ·rw [elv, eD]
      have eov : ov X (fun j => D j ∨ j = i) (getm m) n = upd (X i).us (ov X D (getm m) n) := ov_add hin hDi (fun j h1 h2 hd k hk hk' => by
       obtain ⟨_, _, _, _, h5, _⟩ := apart_all (after j h1 hd)
       obtain ⟨o', ho', hf'⟩ := hlo j h2
       exact h5 k (by rw [hf.writes]; exact hk) (by rw [hf'.writes]; exact hk'))
      refine ⟨ρ', fp', by rw [eov]; exact H', fun k hk => ?_, fun q v0 hq => ?_, by rw [put_size]; exact hN, by rw [put_defers]; exact hdf⟩
      ·rw [hρ' k (by rw [← hlv]; exact .inl (by omega))]
       exact hρ k hk
      ·rw [osl_add hin hDi (fun j h1 h2 hd hdi hdj => by
        obtain ⟨_, _, h3', _⟩ := apart_all (after j h1 hd)
        exact h3' q hdi hdj), hf.ldst] at hq
       by_cases hdq : o.dst = some q
       ·rw [if_pos hdq] at hq
        injection hq with hq
        subst hq
        rw [hdq, put_getD, if_pos ⟨rfl, by rw [hN]; exact dst_lt hf.dst q hdq⟩]
        exact ⟨rfl, hv'⟩
       ·rw [if_neg hdq] at hq
        obtain ⟨h1, h2⟩ := hs q v0 hq
        refine ⟨?_, h2.mono (fun _ h => .inl h) hρ'⟩
        rw [SV.val_eq hρ' h2, ← h1]
        cases hdo : o.dst with
        | none => rfl
        | some q' =>
         rw [put_getD, if_neg (fun e => hdq (by rw [hdo, e.1]))]
    have hfree : ∀ k, b + step * i ≤ k → k < b + step * i + step → ¬ lv k := fun k h1 h2 hk => by
     rw [← hlv] at hk
     unfold step at *
     rcases hk with hk | ⟨j, hj, h3, h4⟩
     ·omega
     ·have : j ≠ i := fun e => hDi (e ▸ hj)
      omega
    unfold wpOp
    simp only [List.getElem?_toArray, ho]
    rw [hw]
    cases hfl : (X i).flag with
    | true =>
     rw [if_pos rfl]
     refine .inl ?_
     have hO := (res_at (hf.run hfl) look).2.2
     refine op_ok hC hE H hfree (evs_of (fun t ht v hv => ?_)) hO _ _ hnext
     obtain ⟨v0, h1, h2⟩ := k2 t v hv
     obtain ⟨h3, h4⟩ := slot t (by unfold usesOf; exact List.mem_append_right _ ht) v0 h1
     obtain ⟨h5, h6⟩ := h2 ρ lv h4
     exact ⟨h3.trans h5.symm, h6⟩
    | false =>
     rw [if_neg (by decide)]
     obtain ⟨e1, e2, _⟩ := hf.skip hfl
     have := hnext w' ρ fp (by rw [e2]; exact H.grow) (fun _ _ => rfl) (by rw [e1]; exact lf_in (in_none rfl))
     rw [e1] at this
     exact this
 refine wp_region_any hmix ?_
 have hall : ∀ j, j < n → j ∈ List.range n := fun j hj => List.mem_range.2 hj
 have := key n (List.range n) (Array.replicate l.toArray.size false) a { w1 with drawn := w1.drawn + 1 } (by simp) List.nodup_range (fun u hu => List.mem_range.1 hu) (by simp [hn]) (fun j hj => ?_) (fun i hi h => absurd (hall i hi) h) ⟨ρ, fp, ?_, hρ, ?_, hN, hdf⟩
 ·rw [show l.toArray.size = n by simp [hn]]; rw [show l.toArray.size = n by simp [hn]] at this; exact this
 ·refine ⟨fun h => ?_, fun h => absurd (hall j hj) h⟩
  simp [Array.getD, hn ▸ hj] at h
 ·have e : ov X (fun j => j < n ∧ j ∉ List.range n) (getm m) n = getm m := by
   funext k
   have := ov_stay (X := X) (D := fun j => j < n ∧ j ∉ List.range n) (me0 := getm m) (i := 0) (k := k) n (fun j _ h2 hd => absurd (hall j (by omega)) hd.2)
   rw [Nat.zero_add] at this
   exact this
  rw [e]
  exact H.drawn.live_mono (fun k hk => .inl hk)
 ·intro q v0 hq
  have e := osl_stay (X := X) (D := fun j => j < n ∧ j ∉ List.range n) (s0 := get s) (i := 0) (q := q) n (fun j _ h2 hd => absurd (hall j (by omega)) hd.2)
  rw [Nat.zero_add] at e
  rw [e] at hq
  obtain ⟨h1, h2⟩ := hs q v0 hq
  exact ⟨h1, h2.mono (fun k hk => .inl hk) (fun _ _ => rfl)⟩
end
end Go.Proofs.YthncjcfnpfajaaaA
