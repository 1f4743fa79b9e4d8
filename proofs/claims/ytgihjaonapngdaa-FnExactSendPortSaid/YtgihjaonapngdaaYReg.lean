/- A region of operations whose order is drawn: what each of them adds is its own, so the whole is the same in every order. Plain lemmas; no condition. -/
import Derived.Test.YtgihjaonapngdaaYEv
import Derived.Orders
namespace Go.Proofs.YtgihjaonapngdaaY
open Go.RowKit Go.Proofs.YtgihjaonapngdaaW.PrintWords
set_option linter.unusedVariables false
set_option linter.unusedSimpArgs false

theorem sep_perm {w : World} {base : Nat} {L M : List Part'} (h : L.Perm M) : ∀ {ok : Nat → Prop}, Sep w base ok L → Sep w base ok M := by
  induction h with
  | nil => intro ok hs; exact hs
  | cons x _ ih => rintro ok ⟨p, hp, hf, hs⟩; exact ⟨p, hp, hf, ih hs⟩
  | swap x y l =>
    rintro ok ⟨p, hp, hf, q, hq, hg, hs⟩
    exact ⟨q, fun k h => (hq k h).1, hg, p, fun k h => ⟨hp k h, fun x => (hq k x).2 h⟩, hf, sep_mono hs (fun k h => ⟨⟨h.1.1, h.2⟩, h.1.2⟩)⟩
  | trans _ _ ih1 ih2 => intro ok hs; exact ih2 (ih1 hs)
theorem St.perm {w0 w w1 : World} {ok : Nat → Prop} {L M : List Part'} (S : St w0 w ok w1 L) (h : L.Perm M) : St w0 w ok w1 M := S.next rfl rfl rfl (Nat.le_refl _) (fun _ _ _ => rfl) (sep_perm h S.sep)

/-- The names (addresses, rooms) that the operations' results bear. -/
abbrev Env := Nat → Nat → Option Addr × Nat
def Env.at' (σ : Env) (i : Nat) (x : Nat → Option Addr × Nat) : Env := fun j => if j = i then x else σ j
theorem Env.at_self (σ : Env) (i : Nat) (x : Nat → Option Addr × Nat) : σ.at' i x i = x := by simp [Env.at']
theorem Env.at_other (σ : Env) {i j : Nat} (x : Nat → Option Addr × Nat) (h : j ≠ i) : σ.at' i x j = σ j := by simp [Env.at', h]
/-- What one operation yields and adds; whose names it shows; what it looks at. -/
structure RS : Type 1 where
  hid : List Nat
  dep : List Nat
  pdep : List Nat
  eat : Option Nat
  val : Env → Value
  parts : Env → List Part'
def RS.none : RS := ⟨[], [], [], Option.none, fun _ => undef, fun _ => []⟩
def RS.Local (s : RS) : Prop := ∀ σ σ' : Env, (∀ i ∈ s.hid, σ i = σ' i) → s.val σ = s.val σ' ∧ s.parts σ = s.parts σ'
def LocsOk : List RS → Prop
  | [] => True
  | s :: r => s.Local ∧ LocsOk r
theorem locs_get : ∀ {r : List RS}, LocsOk r → ∀ j, (r.getD j RS.none).Local
  | [], _, j => by intro σ σ' _; simp [RS.none]
  | s :: r, h, 0 => h.1
  | s :: r, h, j + 1 => by simpa using locs_get h.2 j
def onsB (o : Oper) : List Nat := (o.after.toList.filter (fun e => Region.binds .any e)).map (·.on)
def dstB (l : List Oper) (i : Nat) : Option Tmp := l[i]?.bind (·.dst)
def parB (l : List Oper) (n N : Nat) (hids deps pdeps : List (List Nat)) (eats : List (Option Nat)) : Bool :=
  (List.range n).all (fun i => match l[i]? with
    | some o => o.guard.isNone && (deps.getD i []).all (fun d => (onsB o).contains d) && (pdeps.getD i []).all (fun d => (onsB o).contains d && (List.range n).all (fun c => eats.getD c none != some d)) &&
        (hids.getD i []).all (fun h => h == i || (onsB o).contains h || (onsB o).any (fun d => (hids.getD d []).contains h)) &&
        (match eats.getD i none with | some d => (onsB o).contains d && (List.range n).all (fun c => c == i || eats.getD c none != some d) | none => true) &&
        (match o.dst with | some t => decide (t < N) && (List.range n).all (fun j => j == i || (dstB l j) != some t) | none => true)
    | none => false) &&
  (List.range l.length).all (fun i => match l[i]? with
    | some o => (onsB o).all (fun j => decide (j < i)) && (decide (i < n) || (List.range i).all (fun j => (onsB o).contains j))
    | none => false)
/-- None of the first n writes slot t. -/
def noDst (l : List Oper) (n : Nat) (t : Tmp) : Bool := (List.range n).all (fun j => dstB l j != some t)
def puts : List (Option Tmp × Value) → Act → Act
  | [], a => a
  | (d, v) :: r, a => puts r (a.put d v)
theorem flat_perm {β : Type _} {f g : Nat → List β} (i : Nat) : ∀ {l : List Nat}, l.Nodup → i ∈ l → (∀ j ∈ l, j ≠ i → f j = g j) → g i = [] → (l.flatMap f).Perm (f i ++ l.flatMap g)
  | [], _, h, _, _ => by cases h
  | a :: l, hn, hi, hfg, hg => by
    have hn' := List.nodup_cons.1 hn
    by_cases ha : a = i
    · subst ha
      have he : l.flatMap f = l.flatMap g := by
        simp only [List.flatMap]
        rw [List.map_congr_left (fun j hj => hfg j (List.mem_cons_of_mem _ hj) (fun x => hn'.1 (x ▸ hj)))]
      simp only [List.flatMap_cons, hg, List.nil_append, he]
      exact List.Perm.refl _
    · have hi' : i ∈ l := (List.mem_cons.1 hi).resolve_left (fun x => ha x.symm)
      have ih := flat_perm i hn'.2 hi' (fun j hj => hfg j (List.mem_cons_of_mem _ hj)) hg
      simp only [List.flatMap_cons, hfg a List.mem_cons_self ha]
      exact (List.Perm.append_left _ ih).trans (List.perm_append_comm_assoc _ _ _)
theorem Oper.wp_exit {P : Program} {o : Oper} {a : Act} {w : World} {K : Act → World → Prop} {Q Q' : Exit → Act → World → Prop} (h : ∀ c a w, Q' (.panic c) a w → Q (.panic c) a w) (hl : LetsOut Q' → LetsOut Q) (hh : o.wp P a w K Q') : o.wp P a w K Q := by
  unfold Oper.wp at *
  generalize (execOp a.eval o).run P w = r at *
  cases r with
  | ok n w' =>
    cases n <;> simp only [Oper.upon] at hh ⊢ <;> first
      | exact hh
      | exact Calls.mono hh (fun e w'' he => by cases e <;> first | exact h _ _ _ he | exact hl he | exact he)
  | halt x w' => cases x <;> simp only [Oper.upon] at hh ⊢ <;> first | exact hh | exact h _ _ _ hh
section
variable {P : Program} {l : List Oper}
theorem mem_ready {listed : Array Bool} {i : Nat} (hs : listed.size = l.length) : i ∈ Region.ready .any l.toArray listed ↔ ∃ o, l[i]? = some o ∧ listed.getD i false = false ∧ ∀ j ∈ onsB o, listed.getD j false = true := by
  have hg : ∀ i, i < l.length → listed.getD i true = listed.getD i false := fun i hi => by simp [Array.getD, hs, hi]
  simp only [Region.ready, List.mem_filter, List.mem_range, Bool.and_eq_true, List.size_toArray, List.getElem?_toArray]
  constructor
  · rintro ⟨h1, h2, h3⟩
    obtain ⟨o, ho⟩ : ∃ o, l[i]? = some o := ⟨_, List.getElem?_eq_getElem h1⟩
    refine ⟨o, ho, ?_, fun j hj => ?_⟩
    · rw [← hg i h1]; simpa using h2
    · simp only [ho, Option.map_some, Option.getD_some] at h3
      obtain ⟨e, he, rfl⟩ := List.mem_map.1 hj
      obtain ⟨he, hb⟩ := List.mem_filter.1 he
      have := Array.all_eq_true_iff_forall_mem.1 h3 e (by simpa using he)
      simpa [hb] using this
  · rintro ⟨o, ho, h2, h3⟩
    have h1 : i < l.length := (List.getElem?_eq_some_iff.1 ho).1
    refine ⟨h1, ?_, ?_⟩
    · rw [hg i h1]; simpa using h2
    · simp only [ho, Option.map_some, Option.getD_some]
      refine Array.all_eq_true_iff_forall_mem.2 (fun e he => ?_)
      by_cases hb : Region.binds .any e = true
      · simp only [hb, Bool.not_true, Bool.false_or]
        exact h3 e.on (List.mem_map.2 ⟨e, List.mem_filter.2 ⟨by simpa using he, hb⟩, rfl⟩)
      · simp [hb]
theorem getD_set {listed : Array Bool} {i j : Nat} (hi : i < listed.size) : (listed.setIfInBounds i true).getD j false = if j = i then true else listed.getD j false := by
  by_cases h : j = i
  · subst h; simp [Array.getD, hi]
  · have h' : ¬ i = j := fun x => h x.symm
    simp [Array.getD_eq_getD_getElem?, Array.getElem?_setIfInBounds, h, h']
theorem any_seq {Q : Exit → Act → World → Prop} {n : Nat} (hA : ∀ i o, l[i]? = some o → ∀ j ∈ onsB o, j < i) (hS : ∀ i o, n ≤ i → l[i]? = some o → ∀ j, j < i → j ∈ onsB o) :
    ∀ d m (listed : Array Bool) a w, m + d = l.length → n ≤ m → listed.size = l.length → (∀ j, j < l.length → listed.getD j false = decide (j < m)) → wpList P l.toArray Q (l.drop m) a w → wpAny P .any l.toArray Q d listed a w := by
  intro d
  induction d with
  | zero =>
    intro m listed a w hm hn hs hl h
    obtain rfl : m = l.length := by omega
    refine ⟨List.eq_nil_iff_forall_not_mem.2 fun i hi => ?_, by simpa [wpList] using h⟩
    obtain ⟨o, ho, h2, _⟩ := (mem_ready hs).1 hi
    have h1 : i < l.length := (List.getElem?_eq_some_iff.1 ho).1
    rw [hl i h1] at h2
    simp [h1] at h2
  | succ d ih =>
    intro m listed a w hm hn hs hl h
    have hml : m < l.length := by omega
    have ho : l[m]? = some l[m] := List.getElem?_eq_getElem hml
    have hrm : m ∈ Region.ready .any l.toArray listed := (mem_ready hs).2 ⟨_, ho, by rw [hl m hml]; simp, fun j hj => by
      have := hA m _ ho j hj
      rw [hl j (by omega)]; simpa using this⟩
    refine ⟨fun hr => by rw [hr] at hrm; simp at hrm, fun i hi => ?_⟩
    obtain ⟨o, hoi, h2, h3⟩ := (mem_ready hs).1 hi
    have h1 : i < l.length := (List.getElem?_eq_some_iff.1 hoi).1
    rw [hl i h1] at h2
    have h2' : ¬ i < m := by simpa using h2
    have him : i = m := by
      rcases Nat.lt_or_ge m i with hlt | hge
      · have := h3 m (hS i o (by omega) hoi m hlt)
        rw [hl m hml] at this
        simp at this
      · omega
    subst him
    have hd : l.drop i = l[i] :: l.drop (i + 1) := by rw [List.drop_eq_getElem_cons hml]
    rw [hd] at h
    unfold wpOp
    simp only [List.getElem?_toArray, ho]
    unfold wpList at h
    have hrest : ∀ a w, wpList P l.toArray Q (l.drop (i + 1)) a w → wpAny P .any l.toArray Q d (listed.setIfInBounds i true) a w := fun a w hw => by
      refine ih (i + 1) _ a w (by omega) (by omega) (by simpa using hs) (fun j hj => ?_) hw
      rw [getD_set (by omega), hl j hj]
      by_cases hji : j = i
      · subst hji; simp
      · simp only [if_neg hji]
        congr 1
        simp only [eq_iff_iff]
        omega
    split
    · rename_i hw
      rw [if_pos hw] at h
      exact h.imp (Oper.wp_mono hrest) id
    · rename_i hw
      rw [if_neg hw] at h
      exact hrest _ _ h
end
section
variable (P : Program) (w0 w : World) (ok : Nat → Prop) (L : List Part') (a0 : Act) (l : List Oper) (n : Nat) (specs : List RS)
/-- What is to be shown of one operation. -/
def eatp (s : RS) (σ : Env) : List Part' := match s.eat with | some d => (specs.getD d RS.none).parts σ | none => []
def ObOk (i : Nat) (s : RS) : Prop :=
  ∀ (o : Oper), l[i]? = some o → ∀ (σ : Env) (a : Act) (w' : World) (M : List Part'), St w0 w ok w' (eatp specs s σ ++ M) → (∀ p ∈ L, p ∈ M) →
    (∀ j ∈ s.dep, ∀ d, dstB l j = some d → a.tmps.getD d undef = (specs.getD j RS.none).val σ) → (∀ j ∈ s.pdep, ∀ p ∈ (specs.getD j RS.none).parts σ, p ∈ M) →
    (∀ t, noDst l n t = true → a.tmps.getD t undef = a0.tmps.getD t undef) →
    ∀ Q' : Exit → Act → World → Prop, (∀ x w2, St w0 w ok w2 (s.parts (σ.at' i x) ++ M) → Q' .normal (a.put o.dst (s.val (σ.at' i x))) w2) → wpList P l.toArray Q' [o] a w'
def ObsOk : Nat → List RS → Prop
  | _, [] => True
  | i, s :: r => ObOk P w0 w ok L a0 l n specs i s ∧ ObsOk (i + 1) r
end
theorem obs_get {P : Program} {w0 w : World} {ok : Nat → Prop} {L : List Part'} {a0 : Act} {l : List Oper} {n : Nat} {specs : List RS} : ∀ {r : List RS} {k : Nat}, ObsOk P w0 w ok L a0 l n specs k r → ∀ j, j < r.length → ObOk P w0 w ok L a0 l n specs (k + j) (r.getD j RS.none)
  | [], _, _, j, hj => by simp at hj
  | s :: r, k, h, 0, _ => h.1
  | s :: r, k, h, j + 1, hj => by
    have := obs_get h.2 j (by simpa using hj)
    rw [show k + 1 + j = k + (j + 1) by omega] at this
    simpa using this
theorem exists_least : ∀ {U : List Nat}, U ≠ [] → ∃ u ∈ U, ∀ v ∈ U, u ≤ v
  | [], h => absurd rfl h
  | [u], _ => ⟨u, by simp, by simp⟩
  | u :: v :: U, _ => by
    obtain ⟨x, hx, hm⟩ := exists_least (U := v :: U) (by simp)
    by_cases h : u ≤ x
    · exact ⟨u, by simp, fun y hy => (List.mem_cons.1 hy).elim (fun e => e ▸ Nat.le_refl _) (fun hy => Nat.le_trans h (hm y hy))⟩
    · exact ⟨x, List.mem_cons_of_mem _ hx, fun y hy => (List.mem_cons.1 hy).elim (fun e => by omega) (hm y)⟩
theorem put_getD {a : Act} {d t : Tmp} {v : Value} : (a.put (some d) v).tmps.getD t undef = if t = d ∧ d < a.tmps.size then v else a.tmps.getD t undef := by
  simp only [Act.put]
  by_cases h : t = d
  · subst h
    by_cases hs : t < a.tmps.size <;> simp [Array.getD, hs]
  · have h' : ¬ d = t := fun x => h x.symm
    simp [Array.getD_eq_getD_getElem?, Array.getElem?_setIfInBounds, h, h']
theorem put_size {a : Act} {d : Option Tmp} {v : Value} : (a.put d v).tmps.size = a.tmps.size := by cases d <;> simp [Act.put]
theorem put_defers {a : Act} {d : Option Tmp} {v : Value} : (a.put d v).defers = a.defers := by cases d <;> rfl
theorem puts_size : ∀ (r : List (Option Tmp × Value)) (a : Act), (puts r a).tmps.size = a.tmps.size
  | [], _ => rfl
  | (d, v) :: r, a => (puts_size r _).trans put_size
theorem puts_defers : ∀ (r : List (Option Tmp × Value)) (a : Act), (puts r a).defers = a.defers
  | [], _ => rfl
  | (d, v) :: r, a => (puts_defers r _).trans put_defers
theorem puts_not : ∀ (r : List (Option Tmp × Value)) (a : Act) (t : Tmp), (∀ x ∈ r, x.1 ≠ some t) → (puts r a).tmps.getD t undef = a.tmps.getD t undef
  | [], _, _, _ => rfl
  | (d, v) :: r, a, t, h => by
    rw [puts, puts_not r _ t (fun x hx => h x (List.mem_cons_of_mem _ hx))]
    cases d with
    | none => rfl
    | some d =>
      rw [put_getD, if_neg]
      rintro ⟨rfl, _⟩
      exact h (some t, v) List.mem_cons_self rfl
theorem puts_at : ∀ (r : List (Option Tmp × Value)) (a : Act) (t : Tmp) (v : Value), (∀ (k : Nat) u, r[k]? = some (some t, u) → u = v) → (some t, v) ∈ r → t < a.tmps.size → (puts r a).tmps.getD t undef = v
  | [], _, _, _, _, h, _ => by cases h
  | (d, u) :: r, a, t, v, hn, h, ht => by
    rw [puts]
    by_cases hr : (some t, v) ∈ r
    · exact puts_at r _ t v (fun k u hk => hn (k + 1) u (by simpa using hk)) hr (by rw [put_size]; exact ht)
    · rcases List.mem_cons.1 h with he | h
      · injection he with h1 h2
        subst h1; subst h2
        rw [puts_not r _ t (fun x hx hxt => ?_), put_getD, if_pos ⟨rfl, ht⟩]
        obtain ⟨k, hk⟩ := List.mem_iff_getElem?.1 hx
        obtain ⟨x1, x2⟩ := x
        simp only at hxt
        subst hxt
        have := hn (k + 1) x2 (by simpa using hk)
        subst this
        exact hr hx
      · exact absurd h hr
theorem gate_reg {P : Program} {Q : Exit → Act → World → Prop} {a : Act} {w : World} {id : Nat} {ops : Array Oper} (h : (Code.region id ops true).wp P Q a w) : (Code.region id ops true).wp P Q a w := h
/-- THE REGION. -/
theorem region_par {P : Program} {w0 w w1 : World} {ok : Nat → Prop} {L : List Part'} {id : Nat} {Q : Exit → Act → World → Prop} {l : List Oper} {a0 : Act} (n N : Nat) (specs : List RS) (hids deps pdeps : List (List Nat)) (eats : List (Option Nat)) (fin : Env → List Part') (hm : P.follows .mixedOrders = true) (hN : a0.tmps.size = N) (hn : specs.length = n) (hle : n ≤ l.length)
    (hh : specs.map (·.hid) = hids) (hd : specs.map (·.dep) = deps) (hpd : specs.map (·.pdep) = pdeps) (he : specs.map (·.eat) = eats) (hfin : ∀ σ, ((List.range n).flatMap fun i => if eats.contains (some i) then [] else (specs.getD i RS.none).parts σ) = fin σ)
    (hB : parB l n N hids deps pdeps eats = true) (hloc : LocsOk specs) (S : St w0 w ok w1 L) (hobs : ObsOk P w0 w ok L a0 l n specs 0 specs)
    (hK : ∀ σ w', St w0 w ok w' (fin σ ++ L) → wpList P l.toArray Q (l.drop n) (puts (List.zipWith (fun o s => (o.dst, s.val σ)) l specs) a0) w') : (Code.region id l.toArray true).wp P Q a0 w1 := by
  subst hh hd hpd he hN hn
  obtain ⟨sp, hsp⟩ : ∃ sp : Nat → RS, ∀ j, sp j = specs.getD j RS.none := ⟨_, fun _ => rfl⟩
  simp only [parB, Bool.and_eq_true, List.all_eq_true, List.mem_range] at hB
  obtain ⟨hB1, hB2⟩ := hB
  have hA : ∀ i o, l[i]? = some o → ∀ j ∈ onsB o, j < i := fun i o ho j hj => by
    have := hB2 i (List.getElem?_eq_some_iff.1 ho).1
    simp only [ho, Bool.and_eq_true, List.all_eq_true] at this
    exact of_decide_eq_true (this.1 j hj)
  have hSq : ∀ i o, specs.length ≤ i → l[i]? = some o → ∀ j, j < i → j ∈ onsB o := fun i o hi ho j hj => by
    have := hB2 i (List.getElem?_eq_some_iff.1 ho).1
    simp only [ho, Bool.and_eq_true, Bool.or_eq_true, List.all_eq_true, List.mem_range] at this
    rcases this.2 with h | h
    · have := of_decide_eq_true h; omega
    · simpa using h j hj
  have hmd : ∀ k, (specs.map (·.dep)).getD k [] = (sp k).dep := fun k => by
    simp only [hsp, List.getD_eq_getElem?_getD, List.getElem?_map]
    cases specs[k]? <;> rfl
  have hmh : ∀ k, (specs.map (·.hid)).getD k [] = (sp k).hid := fun k => by
    simp only [hsp, List.getD_eq_getElem?_getD, List.getElem?_map]
    cases specs[k]? <;> rfl
  have hmp : ∀ k, (specs.map (·.pdep)).getD k [] = (sp k).pdep := fun k => by
    simp only [hsp, List.getD_eq_getElem?_getD, List.getElem?_map]
    cases specs[k]? <;> rfl
  have hme' : ∀ k, (specs.map (·.eat)).getD k none = (sp k).eat := fun k => by
    simp only [hsp, List.getD_eq_getElem?_getD, List.getElem?_map]
    cases specs[k]? <;> rfl
  have hP : ∀ i, i < specs.length → ∃ o, l[i]? = some o ∧ o.guard = none ∧ (∀ d ∈ (sp i).dep, d ∈ onsB o) ∧ (∀ d ∈ (sp i).pdep, d ∈ onsB o ∧ ∀ c, c < specs.length → (sp c).eat ≠ some d) ∧
      (∀ h ∈ (sp i).hid, h = i ∨ h ∈ onsB o ∨ ∃ d ∈ onsB o, h ∈ (sp d).hid) ∧ (∀ d, (sp i).eat = some d → d ∈ onsB o ∧ ∀ c, c < specs.length → c ≠ i → (sp c).eat ≠ some d) ∧
      ∀ t, o.dst = some t → t < a0.tmps.size ∧ ∀ j, j < specs.length → j ≠ i → dstB l j ≠ some t := by
    intro i hi
    have hil : i < l.length := by omega
    have ho : l[i]? = some l[i] := List.getElem?_eq_getElem hil
    have h := hB1 i hi
    simp only [ho, Bool.and_eq_true, hmd, hmh, hmp, hme', List.all_eq_true] at h
    obtain ⟨⟨⟨⟨⟨h1, h2⟩, h3⟩, h4⟩, h5⟩, h6⟩ := h
    refine ⟨_, ho, by simpa using h1, fun d hd => by simpa using h2 d hd, fun d hd => ?_, fun h hh => ?_, fun d hd => ?_, fun t ht => ?_⟩
    · have := h3 d hd
      simp only [Bool.and_eq_true, List.all_eq_true, List.mem_range, bne_iff_ne] at this
      exact ⟨by simpa using this.1, this.2⟩
    · have := h4 h hh
      simp only [Bool.or_eq_true, beq_iff_eq, List.contains_iff_mem, List.any_eq_true] at this
      rcases this with (h | h) | h
      · exact .inl h
      · exact .inr (.inl h)
      · obtain ⟨d, hd, hd2⟩ := h
        exact .inr (.inr ⟨d, hd, hd2⟩)
    · simp only [hd, Bool.and_eq_true, List.all_eq_true, List.mem_range, Bool.or_eq_true, beq_iff_eq, bne_iff_ne] at h5
      exact ⟨by simpa using h5.1, fun c hc hci => (h5.2 c hc).resolve_left hci⟩
    · simp only [ht, Bool.and_eq_true, List.all_eq_true, List.mem_range, Bool.or_eq_true, beq_iff_eq, bne_iff_ne] at h6
      exact ⟨of_decide_eq_true h6.1, fun j hj hji => (h6.2 j hj).resolve_left hji⟩
  have hL0 : ∀ j, (sp j).Local := fun j => by rw [hsp]; exact locs_get hloc j
  have hob : ∀ i, i < specs.length → ObOk P w0 w ok L a0 l specs.length specs i (sp i) := fun i hi => by
    have := obs_get hobs i hi
    rw [Nat.zero_add] at this
    rw [hsp]; exact this
  -- what stands, as long as U is to come
  obtain ⟨dead, hdead⟩ : ∃ dead : List Nat → Nat → Prop, ∀ U i, dead U i ↔ i ∈ U ∨ ∃ c, c < specs.length ∧ c ∉ U ∧ (sp c).eat = some i := ⟨_, fun _ _ => Iff.rfl⟩
  haveI : ∀ U i, Decidable (dead U i) := fun _ _ => Classical.propDecidable _
  obtain ⟨fl, hfl⟩ : ∃ fl : List Nat → Env → Nat → List Part', ∀ U σ i, fl U σ i = if dead U i then [] else (sp i).parts σ := ⟨_, fun _ _ _ => rfl⟩
  have key : ∀ d U (listed : Array Bool) a w', U.length = d → U.Nodup → (∀ u ∈ U, u < specs.length) → listed.size = l.length → (∀ j, j < l.length → (listed.getD j false = true ↔ j < specs.length ∧ j ∉ U)) →
      (∃ σ, St w0 w ok w' ((List.range specs.length).flatMap (fl U σ) ++ L) ∧ (∀ i, i < specs.length → i ∉ U → (∀ h ∈ (sp i).hid, h ∉ U) ∧ (∀ d, (sp i).eat = some d → d ∉ U) ∧ (∀ t, dstB l i = some t → a.tmps.getD t undef = (sp i).val σ)) ∧
        (∀ t, (∀ i, i < specs.length → dstB l i = some t → i ∈ U) → a.tmps.getD t undef = a0.tmps.getD t undef) ∧ a.tmps.size = a0.tmps.size ∧ a.defers = a0.defers) →
      wpAny P .any l.toArray Q (d + (l.length - specs.length)) listed a w' := by
    intro d
    induction d with
    | zero =>
      intro U listed a w' hU _ _ hs hl ⟨σ, hS, hI, hB, hz, hdf⟩
      obtain rfl := List.length_eq_zero_iff.1 hU
      have hflat : (List.range specs.length).flatMap (fl [] σ) = fin σ := by
        rw [← hfin σ, List.flatMap_def, List.flatMap_def]
        congr 1
        refine List.map_congr_left fun i hi => ?_
        have hi := List.mem_range.1 hi
        rw [hfl, hsp i]
        have : dead [] i ↔ (specs.map (·.eat)).contains (some i) = true := by
          rw [hdead]
          simp only [List.not_mem_nil, false_or, not_false_eq_true, true_and, List.contains_iff_mem, List.mem_map]
          constructor
          · rintro ⟨c, hc, he⟩
            refine ⟨specs[c], List.getElem_mem hc, ?_⟩
            rw [← he, hsp, List.getD_eq_getElem?_getD, List.getElem?_eq_getElem hc]
            rfl
          · rintro ⟨s, hs, he⟩
            obtain ⟨c, hc, rfl⟩ := List.mem_iff_getElem.1 hs
            refine ⟨c, hc, ?_⟩
            rw [← he, hsp, List.getD_eq_getElem?_getD, List.getElem?_eq_getElem hc]
            rfl
        by_cases h : dead [] i
        · rw [if_pos h, if_pos (this.1 h)]
        · rw [if_neg h, if_neg (fun x => h (this.2 x))]
      rw [hflat] at hS
      have hspe : ∀ i, i < specs.length → specs[i]? = some (sp i) := fun i hi => by simp [hsp, List.getD_eq_getElem?_getD, List.getElem?_eq_getElem hi]
      have hzl : ∀ i, i < specs.length → ∀ t, dstB l i = some t → (some t, (sp i).val σ) ∈ List.zipWith (fun o s => (o.dst, s.val σ)) l specs := by
        intro i hi t ht
        obtain ⟨o, ho, _⟩ := hP i hi
        have hdo : o.dst = some t := by simpa [dstB, ho] using ht
        refine List.mem_iff_getElem?.2 ⟨i, ?_⟩
        rw [List.getElem?_zipWith, ho, hspe i hi]
        simp [hdo]
      have hat : ∀ i, i < specs.length → ∀ t, dstB l i = some t → t < a0.tmps.size → (puts (List.zipWith (fun o s => (o.dst, s.val σ)) l specs) a0).tmps.getD t undef = (sp i).val σ := by
        intro i hi t ht htl
        refine puts_at _ a0 t _ (fun k v hk => ?_) (hzl i hi t ht) htl
        rw [List.getElem?_zipWith] at hk
        cases ho : l[k]? with
        | none => simp [ho] at hk
        | some o =>
          cases hs2 : specs[k]? with
          | none => simp [ho, hs2] at hk
          | some s =>
            simp only [ho, hs2, Option.some.injEq, Prod.mk.injEq] at hk
            have hkl := (List.getElem?_eq_some_iff.1 hs2).1
            by_cases hki : k = i
            · subst hki
              rw [hspe k hkl] at hs2
              rw [← hk.2, Option.some.inj hs2]
            · obtain ⟨o1, ho1, _, _, _, _, _, hd1⟩ := hP i hi
              have := (hd1 t (by simpa [dstB, ho1] using ht)).2 k hkl hki
              exact absurd (by simp [dstB, ho, hk.1]) this
      have hact : a = puts (List.zipWith (fun o s => (o.dst, s.val σ)) l specs) a0 := by
        have hsz := puts_size (List.zipWith (fun o s => (o.dst, s.val σ)) l specs) a0
        have hdd := puts_defers (List.zipWith (fun o s => (o.dst, s.val σ)) l specs) a0
        have hnot := puts_not (List.zipWith (fun o s => (o.dst, s.val σ)) l specs) a0
        generalize puts (List.zipWith (fun o s => (o.dst, s.val σ)) l specs) a0 = b at hsz hdd hat hnot
        have hget : ∀ t, a.tmps.getD t undef = b.tmps.getD t undef := by
          intro t
          by_cases hex : ∃ i, i < specs.length ∧ dstB l i = some t
          · obtain ⟨i, hi, ht⟩ := hex
            obtain ⟨o, ho, _, _, _, _, _, hd1⟩ := hP i hi
            rw [(hI i hi (by simp)).2.2 t ht, hat i hi t ht (hd1 t (by simpa [dstB, ho] using ht)).1]
          · rw [hB t (fun i hi ht => absurd ⟨i, hi, ht⟩ hex), hnot]
            intro x hx hxt
            obtain ⟨k, hk⟩ := List.mem_iff_getElem?.1 hx
            rw [List.getElem?_zipWith] at hk
            cases ho : l[k]? with
            | none => simp [ho] at hk
            | some o =>
              cases hs2 : specs[k]? with
              | none => simp [ho, hs2] at hk
              | some s =>
                simp only [ho, hs2, Option.some.injEq] at hk
                subst hk
                exact hex ⟨k, (List.getElem?_eq_some_iff.1 hs2).1, by simpa [dstB, ho] using hxt⟩
        cases a with
        | mk at' ad =>
          cases b with
          | mk bt bd =>
            simp only at hsz hdd hdf hz hget
            subst hdf
            subst hdd
            congr 1
            refine Array.ext (by omega) fun k h1 h2 => ?_
            have := hget k
            simpa [Array.getD, h1, h2] using this
      rw [Nat.zero_add, hact]
      exact any_seq hA hSq _ specs.length listed _ _ (by omega) (Nat.le_refl _) hs (fun j hj => by
        have := hl j hj
        simp only [List.not_mem_nil, not_false_eq_true, and_true] at this
        by_cases h : j < specs.length
        · simp [h, this.2 h]
        · have h2 : ¬ listed.getD j false = true := fun x => h (this.1 x)
          simpa [h] using h2) (hK σ w' hS)
    | succ d ih =>
      intro U listed a w' hU hUn hUl hs hl ⟨σ, hS, hI, hB, hz, hdf⟩
      rw [show d + 1 + (l.length - specs.length) = (d + (l.length - specs.length)) + 1 by omega]
      obtain ⟨u, huU, hum⟩ := exists_least (U := U) (by intro h; subst h; simp at hU)
      have hu := hUl u huU
      refine ⟨fun hr => ?_, fun i hi => ?_⟩
      · obtain ⟨o, ho, _⟩ := hP u hu
        have hin : u ∈ Region.ready .any l.toArray listed := (mem_ready hs).2 ⟨o, ho, by
          have := hl u (by omega)
          have h2 : ¬ listed.getD u false = true := fun x => (this.1 x).2 huU
          simpa using h2, fun j hj => by
          have hju := hA u o ho j hj
          exact (hl j (by omega)).2 ⟨by omega, fun hjU => by have := hum j hjU; omega⟩⟩
        rw [hr] at hin
        simp at hin
      obtain ⟨o', ho', h2, h3⟩ := (mem_ready hs).1 hi
      have hil : i < l.length := (List.getElem?_eq_some_iff.1 ho').1
      have hin : i < specs.length := by
        rcases Nat.lt_or_ge i specs.length with h | h
        · exact h
        · have := h3 u (hSq i o' h ho' u (by omega))
          exact absurd huU ((hl u (by omega)).1 this).2
      have hiU : i ∈ U := by
        by_cases h : i ∈ U
        · exact h
        · have := (hl i hil).2 ⟨hin, h⟩
          rw [h2] at this
          cases this
      obtain ⟨o, ho, hg, hdep, hpdep, hhid, heat, hdst⟩ := hP i hin
      obtain rfl : o' = o := by rw [ho] at ho'; exact (Option.some.inj ho').symm
      have hon : ∀ j ∈ onsB o', j < specs.length ∧ j ∉ U := fun j hj => (hl j (by have := hA i o' ho j hj; omega)).1 (h3 j hj)
      have hnd : (U.erase i).Nodup := hUn.erase i
      have hme : ∀ j, j ∈ U.erase i ↔ j ≠ i ∧ j ∈ U := fun j => hUn.mem_erase_iff
      have hdi : dstB l i = o'.dst := by simp [dstB, ho]
      -- what the operation leaves alone
      obtain ⟨fx, hfx⟩ : ∃ fx : Nat → List Part', ∀ k, fx k = if (sp i).eat = some k then [] else fl U σ k := ⟨_, fun _ => rfl⟩
      have hperm : ((List.range specs.length).flatMap (fl U σ)).Perm (eatp specs (sp i) σ ++ (List.range specs.length).flatMap fx) := by
        cases he : (sp i).eat with
        | none =>
          have h1 : eatp specs (sp i) σ = [] := by simp [eatp, he]
          have h2 : fx = fl U σ := funext fun k => by rw [hfx, he]; simp
          rw [h1, h2]
          exact List.Perm.refl _
        | some e =>
          obtain ⟨heo, heu⟩ := heat e he
          have hee := hon e heo
          have h1 : eatp specs (sp i) σ = fl U σ e := by
            rw [hfl, if_neg, hsp e]
            · simp [eatp, he]
            · rw [hdead]
              rintro (h | ⟨c, hc, hcU, hce⟩)
              · exact hee.2 h
              · exact heu c hc (fun x => hcU (x ▸ hiU)) hce
          rw [h1]
          refine flat_perm e List.nodup_range (List.mem_range.2 hee.1) (fun k hk hke => ?_) ?_
          · rw [hfx, he, if_neg]
            exact fun x => hke (Option.some.inj x).symm
          · rw [hfx, he, if_pos rfl]
      have S1 := hS.perm (List.Perm.append_right L hperm)
      rw [List.append_assoc] at S1
      have hnext : ∀ x w2, St w0 w ok w2 ((sp i).parts (σ.at' i x) ++ ((List.range specs.length).flatMap fx ++ L)) → wpAny P .any l.toArray Q (d + (l.length - specs.length)) (listed.setIfInBounds i true) (a.put o'.dst ((sp i).val (σ.at' i x))) w2 := by
        intro x w2 S2
        have hloc : ∀ j, j < specs.length → j ∉ U → (sp j).val (σ.at' i x) = (sp j).val σ ∧ (sp j).parts (σ.at' i x) = (sp j).parts σ := fun j hj hjU =>
          hL0 j _ _ (fun h hh => Env.at_other σ x (fun e => (hI j hj hjU).1 h hh (e ▸ hiU)))
        refine ih (U.erase i) _ _ w2 (by rw [List.length_erase_of_mem hiU]; omega) hnd (fun v hv => hUl v ((hme v).1 hv).2) (by simpa using hs) (fun j hj => ?_) ⟨σ.at' i x, ?_, fun j hj hjU => ?_, fun t' ht' => ?_, by rw [put_size]; exact hz, by rw [put_defers]; exact hdf⟩
        · rw [getD_set (by omega), hme]
          by_cases hji : j = i
          · subst hji; simp [hin]
          · rw [if_neg hji, hl j hj]
            simp [hji]
        · refine S2.perm ?_
          rw [← List.append_assoc]
          refine List.Perm.append_right L ?_
          have hself : fl (U.erase i) (σ.at' i x) i = (sp i).parts (σ.at' i x) := by
            rw [hfl, if_neg]
            rw [hdead]
            rintro (h | ⟨c, hc, hcU, hce⟩)
            · exact ((hme i).1 h).1 rfl
            · by_cases hci : c = i
              · subst hci
                have := hA c o' ho c (heat c hce).1
                omega
              · exact (hI c hc (fun h => hcU ((hme c).2 ⟨hci, h⟩))).2.1 i hce hiU
          have := flat_perm (f := fl (U.erase i) (σ.at' i x)) (g := fx) i (l := List.range specs.length) List.nodup_range (List.mem_range.2 hin) (fun k hk hki => by
            have hk := List.mem_range.1 hk
            rw [hfx, hfl, hfl]
            by_cases hek : (sp i).eat = some k
            · rw [if_pos hek, if_pos]
              rw [hdead]
              exact .inr ⟨i, hin, fun h => ((hme i).1 h).1 rfl, hek⟩
            · rw [if_neg hek]
              have hdd : dead (U.erase i) k ↔ dead U k := by
                rw [hdead, hdead, hme]
                constructor
                · rintro (h | ⟨c, hc, hcU, hce⟩)
                  · exact .inl h.2
                  · by_cases hci : c = i
                    · subst hci; exact absurd hce hek
                    · exact .inr ⟨c, hc, fun h => hcU ((hme c).2 ⟨hci, h⟩), hce⟩
                · rintro (h | ⟨c, hc, hcU, hce⟩)
                  · exact .inl ⟨hki, h⟩
                  · exact .inr ⟨c, hc, fun h => hcU ((hme c).1 h).2, hce⟩
              by_cases hdk : dead U k
              · rw [if_pos hdk, if_pos (hdd.2 hdk)]
              · rw [if_neg hdk, if_neg (fun h => hdk (hdd.1 h))]
                exact (hloc k hk (fun h => hdk ((hdead U k).2 (.inl h)))).2) (by
            rw [hfx]
            split
            · rfl
            · rw [hfl, if_pos ((hdead U i).2 (.inl hiU))])
          rw [hself] at this
          exact this.symm
        · by_cases hji : j = i
          · subst hji
            refine ⟨fun h hh hhU => ?_, fun dd hdd hddU => (hon dd (heat dd hdd).1).2 ((hme dd).1 hddU).2, fun t' ht' => ?_⟩
            · have hhU := (hme h).1 hhU
              rcases hhid h hh with e | e | ⟨dd, hdd, e⟩
              · exact hhU.1 e
              · exact (hon h e).2 hhU.2
              · exact (hI dd (hon dd hdd).1 (hon dd hdd).2).1 h e hhU.2
            · rw [hdi] at ht'
              rw [ht', put_getD, if_pos ⟨rfl, by rw [hz]; exact (hdst t' ht').1⟩]
          · have hjU' : j ∉ U := fun h => hjU ((hme j).2 ⟨hji, h⟩)
            obtain ⟨q1, q2, q3⟩ := hI j hj hjU'
            refine ⟨fun h hh hhU => q1 h hh ((hme h).1 hhU).2, fun dd hdd hddU => q2 dd hdd ((hme dd).1 hddU).2, fun t' ht' => ?_⟩
            rw [(hloc j hj hjU').1, ← q3 t' ht']
            cases hdo : o'.dst with
            | none => rfl
            | some t =>
              have hne : ¬ (t' = t ∧ t < a.tmps.size) := fun e => (hdst t hdo).2 j hj hji (e.1 ▸ ht')
              rw [put_getD, if_neg hne]
        · have hBt := hB t' (fun k hk hkt => ((hme k).1 (ht' k hk hkt)).2)
          rw [← hBt]
          cases hdo : o'.dst with
          | none => rfl
          | some t =>
            have hne : ¬ (t' = t ∧ t < a.tmps.size) := fun e => ((hme i).1 (ht' i hin (by rw [hdi, hdo, e.1]))).1 rfl
            rw [put_getD, if_neg hne]
      have hq := hob i hin o' ho σ a w' _ S1 (fun p hp => List.mem_append_right _ hp) (fun j hj dd hdd => by
          have hj' := hon j (hdep j hj)
          rw [← hsp j]
          exact (hI j hj'.1 hj'.2).2.2 dd hdd) (fun j hj p hp => by
          obtain ⟨hj1, hj2⟩ := hpdep j hj
          have hj' := hon j hj1
          rw [← hsp j] at hp
          refine List.mem_append_left _ (List.mem_flatMap.2 ⟨j, List.mem_range.2 hj'.1, ?_⟩)
          rw [hfx, if_neg (hj2 i hin), hfl, if_neg]
          · exact hp
          · rw [hdead]
            rintro (h | ⟨c, hc, _, hce⟩)
            · exact hj'.2 h
            · exact hj2 c hc hce) (fun t' ht' => hB t' (fun k hk hkt => by
          simp only [noDst, List.all_eq_true, List.mem_range, bne_iff_ne] at ht'
          exact absurd hkt (ht' k hk)))
        (fun e a w => match e with
          | .normal => wpAny P .any l.toArray Q (d + (l.length - specs.length)) (listed.setIfInBounds i true) a w
          | e => Q e a w) (fun x w2 S2 => hnext x w2 S2)
      unfold wpOp
      simp only [List.getElem?_toArray, ho]
      unfold wpList at hq
      have hw : Region.wanted o' (yielded l.toArray a.tmps) = true := by simp [Region.wanted, hg]
      rw [if_pos hw] at hq ⊢
      exact hq.imp (fun h => Oper.wp_mono (fun a w h => h) (Oper.wp_exit (Q := Q) (fun c a w h => h) (fun h => h) h)) (fun h => ⟨h.1, h.2⟩)
  have := key specs.length (List.range specs.length) (Array.replicate l.toArray.size false) a0 { w1 with drawn := w1.drawn + 1 } (by simp) List.nodup_range (fun u hu => List.mem_range.1 hu) (by simp) (fun j hj => by
      simp [Array.getD]) ⟨fun _ _ => (none, 0), by
      have : (List.range specs.length).flatMap (fl (List.range specs.length) fun _ _ => (none, 0)) = [] := by
        rw [List.flatMap_eq_nil_iff]
        intro k hk
        rw [hfl, if_pos ((hdead _ _).2 (.inl hk))]
      rw [this]
      exact S.drew, fun i hi hiU => absurd (List.mem_range.2 hi) hiU, fun t _ => rfl, rfl, rfl⟩
  rw [show specs.length + (l.length - specs.length) = l.toArray.size by simp; omega] at this
  exact wp_region_any hm this
end Go.Proofs.YtgihjaonapngdaaY
