/- The plain words and the plain law of FnExactPartView. No condition. -/
import Derived.Test.YtacpibmmodeacaaUWords
import Derived.Test.YtacpibmmodeacaaBQA
import Derived.Test.YtacpibmmodeacaaQFnExactPartView
/- Numbers within bounds, as both programs ask it. No condition. -/
namespace Go.Proofs.Ytacpibmmodeacaa.Pure
open Go Go.Proofs.YtacpibmmodeacaaA Go.Proofs.YtacpibmmodeacaaU Go.Proofs.Ytacpibmmodeacaa.QA
set_option linter.unusedVariables false
theorem in_s {k : Nat} (x lo hi : Int) : spec_l01In.f k x lo hi = some (decide (lo ≤ x ∧ x ≤ hi)) := by
 unfold spec_l01In.f
 by_cases h : lo ≤ x <;> simp [h]
theorem in_i {k : Nat} (x lo hi : Int) : impl_within.f k x lo hi = some (decide (lo ≤ x ∧ x ≤ hi)) := by
 unfold impl_within.f
 by_cases h : lo ≤ x <;> simp [h]
end Go.Proofs.Ytacpibmmodeacaa.Pure
/- Machines: when they and code are right, places of cells, remainders, copies. No condition. -/
namespace Go.Proofs.Ytacpibmmodeacaa.Pure
open Go Go.Proofs.YtacpibmmodeacaaA Go.Proofs.YtacpibmmodeacaaU Go.Proofs.Ytacpibmmodeacaa.QA
set_option linter.unusedVariables false
abbrev I1 : Ty := .int .i64
abbrev C2 : Ty := .pair (.int .i64) (.int .i64)
def Word (z : Int) : Prop := 0 ≤ z ∧ z ≤ 65535
def WordsOk (S : List Int) : Prop := ∀ i, i < S.length → Word (el I1 S i)
def CpuOk (c : Int × List Int) : Prop := (0 ≤ c.1 ∧ c.1 ≤ 60) ∧ c.2.length ≤ 8 ∧ WordsOk c.2
def InsOk (x : Int × Int) : Prop := (0 ≤ x.1 ∧ x.1 ≤ 255) ∧ (0 ≤ x.2 ∧ x.2 ≤ 255)
def CodeOk (L : List (Int × Int)) : Prop := (∀ i, i < L.length → InsOk (el C2 L i)) ∧ L.length ≤ 60
theorem ints_i {k : Nat} {xs : List Int} (h : xs.length ≤ 1048576) : impl_copyInts.f k xs = some xs := by
 unfold impl_copyInts.f
 simp only [Option.bind_some, List.length_nil, List.nil_append]
 rw [if_pos (by omega)]
theorem cpu_i {k : Nat} {c : Int × List Int} (h : c.2.length ≤ 1048576) : impl_copyCpu.f k c = some c := by
 unfold impl_copyCpu.f
 rw [ints_i h]
 rfl
theorem cpu_s {k : Nat} {c : Int × List Int} (h : c.2.length ≤ 1048576) : spec_l06Copy.f k c = some c := by
 unfold spec_l06Copy.f
 simp only [Option.bind_some, List.length_nil, List.nil_append]
 rw [if_pos (by omega)]
/-- The place of a cell; -1 where there is none. -/
def cellAt (a : List Int) (r : Int × Int) (p : Int) : Int := if 0 ≤ r.1 ∧ 0 ≤ p ∧ p < r.2 ∧ p < (a.length : Int) - r.1 then r.1 + p else -1
theorem cellAt_i {k : Nat} {a : List Int} {r : Int × Int} {p : Int} (ha : a.length ≤ 1048576) (hr : r.1 < 9223372036854775808) : impl_cellAt.f k a r p = some (cellAt a r p) := by
 unfold impl_cellAt.f cellAt
 by_cases h1 : r.1 < 0
 ·rw [if_pos h1, if_neg (by omega)]
 ·rw [if_neg h1]
  by_cases h2 : p < 0
  ·rw [if_pos h2, if_neg (by omega)]
  ·rw [if_neg h2]
   by_cases h3 : r.2 ≤ p
   ·rw [if_pos h3, if_neg (by omega)]
   ·rw [if_neg h3]
    rw [w64_id (z := (a.length : Int) - r.1) (by omega) (by omega)]
    by_cases h4 : (a.length : Int) - r.1 ≤ p
    ·rw [if_pos h4, if_neg (by omega)]
    ·rw [if_neg h4, if_pos (by omega), w64_id (by omega) (by omega)]
theorem cellAt_s {k : Nat} {a : List Int} {r : Int × Int} {p : Int} (ha : a.length ≤ 1048576) : spec_l04At.f k a r p = some (cellAt a r p) := by
 unfold spec_l04At.f cellAt
 by_cases h2 : p < 0
 ·rw [if_pos h2, if_neg (by omega)]
 ·rw [if_neg h2]
  by_cases h3 : r.2 ≤ p
  ·rw [if_pos h3, if_neg (by omega)]
  ·rw [if_neg h3, w64_id (z := (a.length : Int) - 1) (by omega) (by omega), in_s]
   simp only [Option.bind_some, decide_eq_true_eq]
   by_cases h1 : 0 ≤ r.1 ∧ r.1 ≤ (a.length : Int) - 1
   ·rw [if_neg (fun h => h h1), w64_id (z := (a.length : Int) - r.1) (by omega) (by omega)]
    by_cases h4 : (a.length : Int) - r.1 ≤ p
    ·rw [if_pos h4, if_neg (by omega)]
    ·rw [if_neg h4, if_pos (by omega), w64_id (by omega) (by omega)]
   ·rw [if_pos h1, if_neg (by omega)]
end Go.Proofs.Ytacpibmmodeacaa.Pure
/- One step of a machine. No condition. -/
namespace Go.Proofs.Ytacpibmmodeacaa.Pure
open Go Go.Proofs.YtacpibmmodeacaaA Go.Proofs.YtacpibmmodeacaaU Go.Proofs.Ytacpibmmodeacaa.QA
set_option linter.unusedVariables false
set_option linter.unusedSimpArgs false
abbrev Step := (Int × List Int) × List Int × Int × Int × Int × Int
def takesM (op : Int) : Int := if op = 2 ∨ op = 10 ∨ op = 11 ∨ op = 12 ∨ op = 13 ∨ op = 16 then 1 else if 3 ≤ op ∧ op ≤ 8 then 2 else 0
def putsM (op : Int) : Int := if op = 11 then 2 else if op = 1 ∨ op = 2 ∨ (4 ≤ op ∧ op ≤ 8) ∨ op = 17 then 1 else 0
def top (S : List Int) : Int := el I1 S (S.length - 1)
def sec (S : List Int) : Int := el I1 S (S.length - 2)
def low (S : List Int) (t : Nat) : List Int := S.take (S.length - t)
def trapX (x : Int × Int) (S a : List Int) (r : Int × Int) : Int :=
 if 17 < x.1 then 1 else
 if (S.length : Int) < takesM x.1 then 5 else
 if x.1 = 2 ∧ cellAt a r (top S + x.2) < 0 then 2 else
 if x.1 = 3 ∧ cellAt a r (sec S + x.2) < 0 then 2 else
 if x.1 = 7 ∧ top S = 0 then 3 else
 if 8 < (S.length : Int) - takesM x.1 + putsM x.1 then 4 else 0
noncomputable def trapM (c : Int × List Int) (code : List (Int × Int)) (a : List Int) (r : Int × Int) : Int :=
 if B (CpuOk c ∧ CodeOk code ∧ c.1 < (code.length : Int)) = true then trapX (el C2 code c.1.toNat) c.2 a r else 6
def reckon (op a b : Int) : Int := if op = 4 then (a + b) % 65536 else if op = 5 then (a - b) % 65536 else if op = 6 then (a * b) % 65536 else if op = 7 then a / b else if a < b then 1 else 0
def doX (pc : Int) (x : Int × Int) (S a : List Int) (r : Int × Int) (time : Int) : Step :=
 if x.1 = 1 then ((pc + 1, S ++ [x.2]), a, 0, 0, 0, 0) else
 if x.1 = 2 then ((pc + 1, low S 1 ++ [el I1 a (cellAt a r (top S + x.2)).toNat % 65536]), a, 0, 0, 0, 0) else
 if x.1 = 3 then ((pc + 1, low S 2), a.set (cellAt a r (sec S + x.2)).toNat (top S), 0, 0, 0, 0) else
 if 4 ≤ x.1 ∧ x.1 ≤ 8 then ((pc + 1, low S 2 ++ [reckon x.1 (sec S) (top S)]), a, 0, 0, 0, 0) else
 if x.1 = 9 then ((min x.2 60, S), a, 0, 0, 0, 0) else
 if x.1 = 10 then ((if top S = 0 then min x.2 60 else pc + 1, low S 1), a, 0, 0, 0, 0) else
 if x.1 = 11 then ((pc + 1, low S 1 ++ [top S, top S]), a, 0, 0, 0, 0) else
 if x.1 = 12 then ((pc + 1, low S 1), a, 0, 0, 0, 0) else
 if x.1 = 13 ∨ x.1 = 16 then ((pc + 1, low S 1), a, x.1, x.2, top S, 0) else
 if x.1 = 14 ∨ x.1 = 15 then ((pc + 1, S), a, x.1, x.2, 0, 0) else
 if x.1 = 17 then ((pc + 1, S ++ [time % 65536]), a, 0, 0, 0, 0) else
 ((pc + 1, S), a, 0, 0, 0, 0)
noncomputable def stepM (c : Int × List Int) (code : List (Int × Int)) (a : List Int) (r : Int × Int) (time : Int) : Step :=
 if trapM c code a r = 0 then doX c.1 (el C2 code c.1.toNat) c.2 a r time else (c, a, 0, 0, 0, trapM c code a r)
/-! ### the last ones of a stack -/
end Go.Proofs.Ytacpibmmodeacaa.Pure
/- One step of the program's machine. No condition. -/
namespace Go.Proofs.Ytacpibmmodeacaa.Pure
open Go Go.Proofs.YtacpibmmodeacaaA Go.Proofs.YtacpibmmodeacaaU Go.Proofs.Ytacpibmmodeacaa.QA
set_option linter.unusedVariables false
set_option linter.unusedSimpArgs false
end Go.Proofs.Ytacpibmmodeacaa.Pure
/- One step of the reference's machine. No condition. -/
namespace Go.Proofs.Ytacpibmmodeacaa.Pure
open Go Go.Proofs.YtacpibmmodeacaaA Go.Proofs.YtacpibmmodeacaaU Go.Proofs.Ytacpibmmodeacaa.QA
set_option linter.unusedVariables false
set_option linter.unusedSimpArgs false
end Go.Proofs.Ytacpibmmodeacaa.Pure
/- The laws' own copies, comparisons and marks of machines and cells. No condition. -/
namespace Go.Proofs.Ytacpibmmodeacaa.Pure
open Go Go.Proofs.YtacpibmmodeacaaA Go.Proofs.YtacpibmmodeacaaU Go.Proofs.Ytacpibmmodeacaa.QA
set_option linter.unusedVariables false
theorem toCpu_f {k : Nat} {c : Int × List Int} (hl : c.2.length ≤ 1048576) (hk : 1048576 < k) : laws_toCpu.f k c = some c := by
 unfold laws_toCpu.f
 rw [toIntS_f hl hk]
 rfl
theorem toArena_f {k : Nat} {c : List Int} (hl : c.length ≤ 1048576) (hk : 1048576 < k) : laws_toArena.f k c = some c := by
 unfold laws_toArena.f
 rw [toIntS_f hl hk]
 rfl
theorem eqCpu_f {k : Nat} {c : Int × List Int} (hl : c.2.length ≤ 1048576) (hk : 1048576 < k) : laws_eqCpu.f k c c = some true := by
 unfold laws_eqCpu.f
 rw [if_neg (fun h => h rfl), eqIntS_f hl hk]
 rfl
theorem eqArena_f {k : Nat} {c : List Int} (hl : c.length ≤ 1048576) (hk : 1048576 < k) : laws_eqArena.f k c c = some true := by
 unfold laws_eqArena.f
 rw [eqIntS_f hl hk]
 rfl
theorem szCpu_f {k : Nat} {c : Int × List Int} {left : Int} (hx : c.2.length ≤ 9223372036854775807) (h0 : 0 ≤ left) (h1 : left ≤ 1048576) : Ok (laws_szCpu.f k c left) (fun r => 0 ≤ r → r ≤ left ∧ c.2.length ≤ 1048576) := by
 unfold laws_szCpu.f
 exact ok_bind (szIntS_f hx h0 h1) (fun r hr => ok_if (fun _ => ok_some (fun h => absurd h (by omega))) (fun _ => ok_some hr))
theorem szArena_f {k : Nat} {c : List Int} {left : Int} (hx : c.length ≤ 9223372036854775807) (h0 : 0 ≤ left) (h1 : left ≤ 1048576) : Ok (laws_szArena.f k c left) (fun r => 0 ≤ r → r ≤ left ∧ c.length ≤ 1048576) := by
 unfold laws_szArena.f
 exact ok_bind (szIntS_f hx h0 h1) (fun r hr => ok_if (fun _ => ok_some (fun h => absurd h (by omega))) (fun _ => ok_some hr))
end Go.Proofs.Ytacpibmmodeacaa.Pure
/- Ports: when they are right; what is sent and taken by the program. No condition. -/
namespace Go.Proofs.Ytacpibmmodeacaa.Pure
open Go Go.Proofs.YtacpibmmodeacaaA Go.Proofs.YtacpibmmodeacaaU Go.Proofs.Ytacpibmmodeacaa.QA
set_option linter.unusedVariables false
set_option linter.unusedSimpArgs false
abbrev Port5 := Int × Int × Int × Int × Int
structure PortOk (p : Port5) : Prop where
 fr : 1 ≤ p.2.1 ∧ p.2.1 ≤ 4
 tp : 1 ≤ p.2.2.1 ∧ p.2.2.1 ≤ 4
 ne : ¬ p.2.1 = p.2.2.1
 kd : (p.1 = 1 ∧ (1 ≤ p.2.2.2.1 ∧ p.2.2.2.1 ≤ 6) ∧ p.2.2.2.2 = 0) ∨ (p.1 = 2 ∧ p.2.2.2.1 = 1 ∧ (1 ≤ p.2.2.2.2 ∧ p.2.2.2.2 ≤ 100))
/-- What has been sent, and when it was. -/
def Stamps (l : List (Int × Int)) : Prop := ∀ x, x ∈ l → -9223372036854775808 ≤ x.2 ∧ x.2 < 9223372036854775808
end Go.Proofs.Ytacpibmmodeacaa.Pure
/- Ports: when the reference tells that they are right. No condition. -/
namespace Go.Proofs.Ytacpibmmodeacaa.Pure
open Go Go.Proofs.YtacpibmmodeacaaA Go.Proofs.YtacpibmmodeacaaU Go.Proofs.Ytacpibmmodeacaa.QA
set_option linter.unusedVariables false
set_option linter.unusedSimpArgs false
end Go.Proofs.Ytacpibmmodeacaa.Pure
/- Rules: which one is first, and when they are right. No condition. -/
namespace Go.Proofs.Ytacpibmmodeacaa.Pure
open Go Go.Proofs.YtacpibmmodeacaaA Go.Proofs.YtacpibmmodeacaaU Go.Proofs.Ytacpibmmodeacaa.QA
set_option linter.unusedVariables false
abbrev R3 : Ty := .pair (.int .i64) (.pair (.int .i64) (.int .i64))
def Fits (r : Int × Int × Int) (p f : Int) : Prop := r.1 = p ∧ r.2.1 = f
instance (r : Int × Int × Int) (p f : Int) : Decidable (Fits r p f) := inferInstanceAs (Decidable (_ ∧ _))
/-! ### rules that are right -/
def RuleIn (r : Int × Int × Int) : Prop := (1 ≤ r.1 ∧ r.1 ≤ 4) ∧ (1 ≤ r.2.1 ∧ r.2.1 ≤ 2) ∧ (0 ≤ r.2.2 ∧ r.2.2 ≤ 4) ∧ ¬ (r.2.1 = 1 ∧ r.2.2 = 0)
def RuleAt (L : List (Int × Int × Int)) (i : Nat) : Prop := RuleIn (el R3 L i) ∧ ∀ j, j < i → ¬ Fits (el R3 L j) (el R3 L i).1 (el R3 L i).2.1
def RulesOk (L : List (Int × Int × Int)) : Prop := (∀ i, i < L.length → RuleAt L i) ∧ L.length ≤ 8
end Go.Proofs.Ytacpibmmodeacaa.Pure
/- Plans: their time, and when they are right. No condition. -/
namespace Go.Proofs.Ytacpibmmodeacaa.Pure
open Go Go.Proofs.YtacpibmmodeacaaA Go.Proofs.YtacpibmmodeacaaU Go.Proofs.Ytacpibmmodeacaa.QA
set_option linter.unusedVariables false
abbrev W2 : Ty := .pair (.int .i64) (.int .i64)
def WinOk (w : Int × Int) : Prop := (1 ≤ w.1 ∧ w.1 ≤ 4) ∧ (1 ≤ w.2 ∧ w.2 ≤ 200)
def PlanOk (L : List (Int × Int)) : Prop := (∀ i, i < L.length → WinOk (el W2 L i)) ∧ 1 ≤ L.length ∧ L.length ≤ 12
end Go.Proofs.Ytacpibmmodeacaa.Pure
/- Set-ups: their faults. No condition. -/
namespace Go.Proofs.Ytacpibmmodeacaa.Pure
open Go Go.Proofs.YtacpibmmodeacaaA Go.Proofs.YtacpibmmodeacaaU Go.Proofs.Ytacpibmmodeacaa.QA
set_option linter.unusedVariables false
set_option linter.unusedSimpArgs false
abbrev P5 : Ty := .pair (.int .i64) (.pair (.int .i64) (.pair (.int .i64) (.pair (.int .i64) (.int .i64))))
abbrev Setup := List (Int × Int) × List (Int × Int) × List Port5 × List (Int × Int × Int) × List ByteArray
theorem allS {p : Nat → Prop} {j : Nat} (h : ∀ i, i < j → p i) (hj : p j) : ∀ i, i < j + 1 → p i := fun i hi => by
 rcases Nat.lt_or_ge i j with h' | h'
 ·exact h i h'
 ·obtain rfl : i = j := by omega
  exact hj
/-! ### regions -/
def RegIn (r : Int × Int) : Prop := 0 ≤ r.1 ∧ 1 ≤ r.2 ∧ r.2 ≤ 64 ∧ r.1 ≤ 64 - r.2
def Over (r o : Int × Int) : Prop := r.1 < o.1 + o.2 ∧ o.1 < r.1 + r.2
def RegAt (L : List (Int × Int)) (i : Nat) : Prop := RegIn (el W2 L i) ∧ ∀ j, j < i → ¬ Over (el W2 L i) (el W2 L j)
def RegionsOk (L : List (Int × Int)) : Prop := (∀ i, i < L.length → RegAt L i) ∧ 1 ≤ L.length ∧ L.length ≤ 4
/-! ### codes -/
def CodeRead (s : ByteArray) : Prop := s.size % 2 = 0 ∧ s.size ≤ 120
def CodesOk (L : List ByteArray) (n : Int) : Prop := (∀ i, i < L.length → CodeRead (el .str L i)) ∧ (L.length : Int) = n
/-! ### ports and parts -/
def PortsOk (L : List Port5) : Prop := (∀ i, i < L.length → PortOk (el P5 L i)) ∧ L.length ≤ 6
structure PartsOk (s : Setup) : Prop where
 wins : ∀ i, i < s.2.1.length → (el W2 s.2.1 i).1 ≤ (s.1.length : Int)
 pfr : ∀ i, i < s.2.2.1.length → (el P5 s.2.2.1 i).2.1 ≤ (s.1.length : Int)
 pto : ∀ i, i < s.2.2.1.length → (el P5 s.2.2.1 i).2.2.1 ≤ (s.1.length : Int)
 rls : ∀ i, i < s.2.2.2.1.length → (el R3 s.2.2.2.1 i).1 ≤ (s.1.length : Int)
/-! ### the fault -/
noncomputable def faultM (s : Setup) : Int :=
 if ¬ B (RegionsOk s.1) = true then 1 else if ¬ B (PlanOk s.2.1) = true then 2 else if ¬ B (PortsOk s.2.2.1) = true then 3 else if ¬ B (RulesOk s.2.2.2.1) = true then 4 else if ¬ B (CodesOk s.2.2.2.2 (s.1.length : Int)) = true then 5 else if ¬ B (PartsOk s) = true then 6 else 0
structure Small (s : Setup) : Prop where
 a : s.1.length ≤ 1048576
 b : s.2.1.length ≤ 1048576
 c : s.2.2.1.length ≤ 1048576
 d : s.2.2.2.1.length ≤ 1048576
 e : s.2.2.2.2.length ≤ 1048576
end Go.Proofs.Ytacpibmmodeacaa.Pure
/- Kernels: when they are right. No condition. -/
namespace Go.Proofs.Ytacpibmmodeacaa.Pure
open Go Go.Proofs.YtacpibmmodeacaaA Go.Proofs.YtacpibmmodeacaaU Go.Proofs.Ytacpibmmodeacaa.QA
set_option linter.unusedVariables false
set_option linter.unusedSimpArgs false
abbrev PT : Ty := .pair (.int .i64) (.pair (.pair (.int .i64) (.sl 3 (.int .i64))) (.pair (.int .i64) (.pair (.int .i64) (.int .i64))))
abbrev LT : Ty := .sl 241 (.pair (.int .i64) (.int .i64))
abbrev PartT := Int × (Int × List Int) × Int × Int × Int
abbrev LineT := List (Int × Int)
abbrev Kernel := Setup × List Int × List PartT × List LineT × List Int × Int × Bool × List Port5
def Number (z : Int) : Prop := 0 ≤ z ∧ z ≤ 1000000000
structure PartOk (p : PartT) : Prop where
 st : 0 ≤ p.1 ∧ p.1 ≤ 1
 cpu : CpuOk p.2.1
 starts : Number p.2.2.1
 ends : Number p.2.2.2.1
 late : Number p.2.2.2.2
structure KernelOk (k : Kernel) : Prop where
 fault : faultM k.1 = 0
 cells : k.2.1.length = 64
 words : WordsOk k.2.1
 parts : k.2.2.1.length = k.1.1.length
 lines : k.2.2.2.1.length = k.1.2.2.1.length
 part : ∀ i, i < k.2.2.1.length → PartOk (el PT k.2.2.1 i)
 line : ∀ i, i < k.2.2.2.1.length → ((el LT k.2.2.2.1 i).length : Int) ≤ (el P5 k.1.2.2.1 i).2.2.2.1
 outs : k.2.2.2.2.1.length = 8
 outw : WordsOk k.2.2.2.2.1
 turn : Number k.2.2.2.2.2.1
/-- A kernel of which nothing is too long. -/
structure SmallK (k : Kernel) : Prop where
 st : Small k.1
 cells : k.2.1.length ≤ 1048576
 parts : k.2.2.1.length ≤ 1048576
 stacks : ∀ p, p ∈ k.2.2.1 → p.2.1.2.length ≤ 1048576
 lines : k.2.2.2.1.length ≤ 1048576
 msgs : ∀ l, l ∈ k.2.2.2.1 → l.length ≤ 1048576
 outs : k.2.2.2.2.1.length ≤ 1048576
 log : k.2.2.2.2.2.2.2.length ≤ 1048576
end Go.Proofs.Ytacpibmmodeacaa.Pure
/- Texts of numbers. No condition. -/
namespace Go.Proofs.Ytacpibmmodeacaa.Pure
open Go Go.Proofs.YtacpibmmodeacaaA Go.Proofs.YtacpibmmodeacaaU Go.Proofs.Ytacpibmmodeacaa.QA
set_option linter.unusedVariables false
theorem chrs_size (xs : List Int) : (chrs xs).size = xs.length := by
 show (chrs xs).data.size = _
 simp [chrs]
end Go.Proofs.Ytacpibmmodeacaa.Pure
/- Marks of rows of rows: what is marked is held. No condition. -/
namespace Go.Proofs.Ytacpibmmodeacaa.Pure
open Go Go.Proofs.YtacpibmmodeacaaA Go.Proofs.YtacpibmmodeacaaU Go.Proofs.Ytacpibmmodeacaa.QA
set_option linter.unusedVariables false
set_option linter.unusedSimpArgs false
theorem mark_loop {δ : Type} {M : Nat → Int × Int × List δ × Unit → Option (Int × List δ)} {H : Nat → Int × Int × List δ × Unit → Option Int} {xs : List δ} {W B : Int} (hW : 0 ≤ W)
  (stepM : ∀ (m : Int) (j : Nat) (ys : List δ) (n : Nat), j < ys.length → ys.length = xs.length → ys[j]? = xs[j]? → 0 ≤ m → m ≤ B → ∃ m' e, M (n + 1) (m, (j : Int), ys, ()) = M n (m', ((j + 1 : Nat) : Int), ys.set j e, ()) ∧ m ≤ m' ∧ m' ≤ m + W ∧ ∀ (zs : List δ) (q : Nat), zs.length = xs.length → zs[j]? = some e → H (q + 1) (m, (j : Int), zs, ()) = H q (m', ((j + 1 : Nat) : Int), zs, ()))
  (endM : ∀ (m : Int) (ys : List δ) (n : Nat), ys.length = xs.length → M (n + 1) (m, (xs.length : Int), ys, ()) = some (m, ys))
  (endH : ∀ (m : Int) (ys : List δ) (n : Nat), ys.length = xs.length → H (n + 1) (m, (xs.length : Int), ys, ()) = some m) :
  ∀ (d j : Nat) (m : Int) (ys : List δ), j + d = xs.length → ys.length = xs.length → (∀ i, j ≤ i → ys[i]? = xs[i]?) → 0 ≤ m → m + (d : Int) * W ≤ B → ∀ n, d < n → ∃ m' zs, M n (m, (j : Int), ys, ()) = some (m', zs) ∧ m ≤ m' ∧ m' ≤ m + (d : Int) * W ∧ zs.length = xs.length ∧ (∀ i, i < j → zs[i]? = ys[i]?) ∧ ∀ q, d < q → H q (m, (j : Int), zs, ()) = some m'
 | 0, j, m, ys, hj, hl, hs, h0, hB, n, hn => by
  obtain ⟨n, rfl⟩ : ∃ n', n = n' + 1 := ⟨n - 1, by omega⟩
  obtain rfl : j = xs.length := by omega
  refine ⟨m, ys, endM m ys n hl, by omega, by omega, hl, fun _ _ => rfl, fun q hq => ?_⟩
  obtain ⟨q, rfl⟩ : ∃ q', q = q' + 1 := ⟨q - 1, by omega⟩
  exact endH m ys q hl
 | d + 1, j, m, ys, hj, hl, hs, h0, hB, n, hn => by
  obtain ⟨n, rfl⟩ : ∃ n', n = n' + 1 := ⟨n - 1, by omega⟩
  have hdW : ((d + 1 : Nat) : Int) * W = (d : Int) * W + W := by rw [Int.natCast_add, Int.add_mul]; simp
  rw [hdW] at hB ⊢
  have hdp : 0 ≤ (d : Int) * W := Int.mul_nonneg (by omega) hW
  obtain ⟨m1, e, e1, e2, e3, e4⟩ := stepM m j ys n (by omega) hl (hs j (Nat.le_refl j)) h0 (by omega)
  have hls : (ys.set j e).length = xs.length := by rw [List.length_set]; exact hl
  obtain ⟨m', zs, g1, g2, g3, g4, g5, g6⟩ := mark_loop hW stepM endM endH d (j + 1) m1 (ys.set j e) (by omega) hls (fun i hi => by rw [List.getElem?_set_ne (by omega)]; exact hs i (by omega)) (by omega) (by omega) n (by omega)
  refine ⟨m', zs, e1.trans g1, by omega, by omega, g4, fun i hi => ?_, fun q hq => ?_⟩
  ·rw [g5 i (by omega), List.getElem?_set_ne (by omega)]
  ·obtain ⟨q, rfl⟩ : ∃ q', q = q' + 1 := ⟨q - 1, by omega⟩
   have hzj : zs[j]? = some e := by rw [g5 j (by omega), List.getElem?_set_self (by omega)]
   rw [e4 zs q g4 hzj]
   exact g6 q (by omega)
/-- Marks: what is put is found again. -/
def Marks {δ : Type} (b : Int) (mark : Int → Option (Int × δ)) (held : δ → Int → Option Int) (w : Int) : Prop := ∀ m : Int, 0 ≤ m → m ≤ b → ∃ m' x, mark m = some (m', x) ∧ m ≤ m' ∧ m' ≤ m + w ∧ held x m = some m'
theorem marks_int {k : Nat} {xs : List Int} (hl : xs.length ≤ 1048576) (hk : 1048576 < k) : Marks 4000000000000000000 (laws_markIntS.f k xs) (laws_heldIntS.f k) 1048576 := fun m h0 h1 => by
 have e := MIntS_le (m := m) xs.length
 exact ⟨_, _, markIntS_f hl hk h0 (by omega), by omega, by omega, heldIntS_f hl hk h0 (by omega)⟩
theorem marks_region {k : Nat} {xs : List (Int × Int)} (hl : xs.length ≤ 1048576) (hk : 1048576 < k) : Marks 4000000000000000000 (laws_markRegionS.f k xs) (laws_heldRegionS.f k) 2097152 := fun m h0 h1 => by
 have e := MRegionS_le (m := m) xs.length
 exact ⟨_, _, markRegionS_f hl hk h0 (by omega), by omega, by omega, heldRegionS_f hl hk h0 (by omega)⟩
theorem marks_window {k : Nat} {xs : List (Int × Int)} (hl : xs.length ≤ 1048576) (hk : 1048576 < k) : Marks 4000000000000000000 (laws_markWindowS.f k xs) (laws_heldWindowS.f k) 2097152 := fun m h0 h1 => by
 have e := MWindowS_le (m := m) xs.length
 exact ⟨_, _, markWindowS_f hl hk h0 (by omega), by omega, by omega, heldWindowS_f hl hk h0 (by omega)⟩
theorem marks_port {k : Nat} {xs : List Port5} (hl : xs.length ≤ 1048576) (hk : 1048576 < k) : Marks 4000000000000000000 (laws_markPortS.f k xs) (laws_heldPortS.f k) 5242880 := fun m h0 h1 => by
 have e := MPortS_le (m := m) xs.length
 exact ⟨_, _, markPortS_f hl hk h0 (by omega), by omega, by omega, heldPortS_f hl hk h0 (by omega)⟩
theorem marks_rule {k : Nat} {xs : List (Int × Int × Int)} (hl : xs.length ≤ 1048576) (hk : 1048576 < k) : Marks 4000000000000000000 (laws_markRuleS.f k xs) (laws_heldRuleS.f k) 3145728 := fun m h0 h1 => by
 have e := MRuleS_le (m := m) xs.length
 exact ⟨_, _, markRuleS_f hl hk h0 (by omega), by omega, by omega, heldRuleS_f hl hk h0 (by omega)⟩
theorem marks_entry {k : Nat} {xs : List Port5} (hl : xs.length ≤ 1048576) (hk : 1048576 < k) : Marks 4000000000000000000 (laws_markEntryS.f k xs) (laws_heldEntryS.f k) 5242880 := fun m h0 h1 => by
 have e := MEntryS_le (m := m) xs.length
 exact ⟨_, _, markEntryS_f hl hk h0 (by omega), by omega, by omega, heldEntryS_f hl hk h0 (by omega)⟩
theorem marks_msg {k : Nat} {xs : List (Int × Int)} (hl : xs.length ≤ 1048576) (hk : 1048576 < k) : Marks 4000000000000000000 (laws_markMsgS.f k xs) (laws_heldMsgS.f k) 2097152 := fun m h0 h1 => by
 have e := MMsgS_le (m := m) xs.length
 exact ⟨_, _, markMsgS_f hl hk h0 (by omega), by omega, by omega, heldMsgS_f hl hk h0 (by omega)⟩
/-! ### texts -/
theorem markText_ok {k : Nat} {z : Int} (hk : 1048576 < k) (h1 : z < 10000000000000000000) : ∃ t, laws_markText.f k z = some t := by
 have : Ok (laws_markText.f k z) (fun _ => True) := by
  unfold laws_markText.f
  refine ok_if (fun _ => ok_some trivial) (fun h0 => ?_)
  refine ok_loop (L := laws_markText.l1 k) (I := fun d s => ∃ (x : Int) (t : ByteArray), s = (x, t, ()) ∧ 0 ≤ x ∧ x < 10 ^ d ∧ t.size + d ≤ 19) ?_ k 19 _ (by omega) ⟨z, _, rfl, by omega, by simpa using h1, by decide⟩
  rintro d n s ⟨x, t, rfl, hx0, hx1, ht⟩ ih
  rw [laws_markText.l1]
  refine ok_if (fun hp => ok_let (ok_grd (by rw [chrs_size]; simp only [List.length_cons, List.length_nil]; omega) ?_)) (fun _ => ok_grd (by have : (⟨#[109]⟩ : ByteArray).size = 1 := rfl; omega) (ok_some trivial))
  cases d with
  | zero => simp at hx1; omega
  | succ d =>
   have hx2 : x < 10 ^ d * 10 := by rw [← Int.pow_succ]; exact hx1
   have e : w64 (Int.tdiv x 10) = x / 10 := by
    rw [Int.tdiv_eq_ediv_of_nonneg hx0]
    have h10 : (10 : Int) ^ d ≤ 10 ^ 18 := by
     have : (10 : Nat) ^ d ≤ 10 ^ 18 := Nat.pow_le_pow_right (by omega) (by omega)
     exact_mod_cast this
    exact w64_id (by omega) (by omega)
   rw [e]
   refine ih d _ (by omega) ⟨_, _, rfl, by omega, by omega, ?_⟩
   rw [ByteArray.size_append, chrs_size]
   simp only [List.length_cons, List.length_nil]
   omega
 obtain ⟨t, h, _⟩ := this
 exact ⟨t, h⟩
theorem marks_string {k : Nat} {xs : List ByteArray} (hl : xs.length ≤ 1048576) (hk : 1048576 < k) : Marks 100000000000000000 (laws_markStringS.f k xs) (laws_heldStringS.f k) 1048576 := fun m h0 h1 => by
 obtain ⟨m', zs, g1, g2, g3, g4, g5, g6⟩ := mark_loop (M := laws_markStringS.l1 k) (H := laws_heldStringS.l1 k) (xs := xs) (W := 1) (B := 2000000000000000000) (by omega)
  (fun m j ys n hj hly _ hm0 hmB => by
   obtain ⟨t, ht⟩ := markText_ok (k := k) (z := m) hk (by omega)
   have w1 : w64 (m + 1) = m + 1 := w64_id (by omega) (by omega)
   have w2 : w64 ((j : Int) + 1) = ((j + 1 : Nat) : Int) := w64_id (by omega) (by omega)
   refine ⟨m + 1, t, ?_, by omega, by omega, fun zs q hz he => ?_⟩
   ·rw [laws_markStringS.l1, if_pos (by omega), ht]
    simp only [Option.bind_some, Int.toNat_natCast, w1, w2]
    rw [if_pos (by omega), if_pos (by omega)]
   ·have e : el .str zs j = t := el_at (t := .str) he
    rw [laws_heldStringS.l1, if_pos (by omega), if_pos (by omega), if_pos (by omega), ht]
    simp only [Option.bind_some, Int.toNat_natCast, w1, w2]
    rw [e, if_neg (fun h => h rfl)])
  (fun m ys n hl => by rw [laws_markStringS.l1, if_neg (by omega)])
  (fun m ys n hl => by rw [laws_heldStringS.l1, if_neg (by omega)])
  xs.length 0 m xs (by omega) rfl (fun _ _ => rfl) h0 (by omega) k (by omega)
 exact ⟨m', zs, g1, g2, by omega, g6 k (by omega)⟩
theorem marks_line {k : Nat} {xs : List LineT} (hl : xs.length ≤ 1048576) (hs : ∀ l, l ∈ xs → l.length ≤ 1048576) (hk : 1048576 < k) : Marks 100000000000000000 (laws_markLineS.f k xs) (laws_heldLineS.f k) 2199023255552 := fun m h0 h1 => by
 have hW := Int.mul_le_mul_of_nonneg_right (show (xs.length : Int) ≤ 1048576 by omega) (show (0 : Int) ≤ 2097152 by omega)
 obtain ⟨m', zs, g1, g2, g3, g4, g5, g6⟩ := mark_loop (M := laws_markLineS.l1 k) (H := laws_heldLineS.l1 k) (xs := xs) (W := 2097152) (B := 1000000000000000000) (by omega)
  (fun m j ys n hj hly hy hm0 hmB => by
   have hyl : (el LT ys j).length ≤ 1048576 := by
    have e : el LT ys j = el LT xs j := el_at (t := LT) (by rw [hy]; exact el_lt (t := LT) (by omega))
    rw [e]
    exact hs _ (el_mem (t := LT) (by omega))
   obtain ⟨m', x, e1, e2, e3, e4⟩ := marks_msg (k := k) hyl hk m hm0 (by omega)
   have w2 : w64 ((j : Int) + 1) = ((j + 1 : Nat) : Int) := w64_id (by omega) (by omega)
   refine ⟨m', x, ?_, e2, e3, fun zs q hz he => ?_⟩
   ·rw [laws_markLineS.l1, if_pos (by omega), if_pos (by omega), if_pos (by omega)]
    simp only [Int.toNat_natCast]
    rw [show laws_markMsgS.f k (el (.sl 241 (.pair (.int .i64) (.int .i64))) ys j) m = some (m', x) from e1]
    simp only [Option.bind_some, w2]
   ·have e : el LT zs j = x := el_at (t := LT) he
    rw [laws_heldLineS.l1, if_pos (by omega), if_pos (by omega), if_pos (by omega)]
    simp only [Int.toNat_natCast]
    rw [show laws_heldMsgS.f k (el (.sl 241 (.pair (.int .i64) (.int .i64))) zs j) m = some m' from by rw [show el (.sl 241 (.pair (.int .i64) (.int .i64))) zs j = x from e]; exact e4]
    simp only [Option.bind_some, w2]
    rw [if_neg (by omega)])
  (fun m ys n hl => by rw [laws_markLineS.l1, if_neg (by omega)])
  (fun m ys n hl => by rw [laws_heldLineS.l1, if_neg (by omega)])
  xs.length 0 m xs (by omega) rfl (fun _ _ => rfl) h0 (by omega) k (by omega)
 exact ⟨m', zs, g1, g2, by omega, g6 k (by omega)⟩
theorem marks_part {k : Nat} {xs : List PartT} (hl : xs.length ≤ 1048576) (hs : ∀ p, p ∈ xs → p.2.1.2.length ≤ 1048576) (hk : 1048576 < k) : Marks 100000000000000000 (laws_markPartS.f k xs) (laws_heldPartS.f k) 1099516870656 := fun m h0 h1 => by
 have hW := Int.mul_le_mul_of_nonneg_right (show (xs.length : Int) ≤ 1048576 by omega) (show (0 : Int) ≤ 1048581 by omega)
 obtain ⟨m', zs, g1, g2, g3, g4, g5, g6⟩ := mark_loop (M := laws_markPartS.l1 k) (H := laws_heldPartS.l1 k) (xs := xs) (W := 1048581) (B := 900000000000000000) (by omega)
  (fun m j ys n hj hly hy hm0 hmB => by
   have hyl : (el PT ys j).2.1.2.length ≤ 1048576 := by
    have e : el PT ys j = el PT xs j := el_at (t := PT) (by rw [hy]; exact el_lt (t := PT) (by omega))
    rw [e]
    exact hs _ (el_mem (t := PT) (by omega))
   have w1 : w64 (m + 1) = m + 1 := w64_id (by omega) (by omega)
   have w2 : w64 (m + 1 + 1) = m + 2 := by rw [w64_id (by omega) (by omega)]; omega
   obtain ⟨m', x, e1, e2, e3, e4⟩ := marks_int (k := k) hyl hk (m + 2) (by omega) (by omega)
   have w3 : w64 (m' + 1) = m' + 1 := w64_id (by omega) (by omega)
   have w4 : w64 (m' + 1 + 1) = m' + 2 := by rw [w64_id (by omega) (by omega)]; omega
   have w5 : w64 (m' + 2 + 1) = m' + 3 := by rw [w64_id (by omega) (by omega)]; omega
   have w6 : w64 ((j : Int) + 1) = ((j + 1 : Nat) : Int) := w64_id (by omega) (by omega)
   have j0 : (0 : Int) ≤ (j : Int) := by omega
   have j1 : (j : Int) < (ys.length : Int) := by omega
   have gs : ∀ p : PartT, el TyP (ys.set j p) j = p := fun p => el_set_self (t := PT) hj
   refine ⟨m' + 3, (m, (m + 1, x), m', m' + 1, m' + 2), ?_, by omega, by omega, fun zs q hz he => ?_⟩
   ·rw [laws_markPartS.l1]
    simp only [j0, j1, ↓reduceIte, Int.toNat_natCast, Option.bind_some, List.length_set, gs, List.set_set, w1, w2, w6]
    rw [show laws_markIntS.f k (el TyP ys j).2.1.2 (m + 2) = some (m', x) from e1]
    simp only [j0, j1, ↓reduceIte, Option.bind_some, List.length_set, gs, List.set_set, w3, w4, w5]
   ·have e : el TyP zs j = (m, (m + 1, x), m', m' + 1, m' + 2) := el_at (t := PT) he
    have j2 : (j : Int) < (zs.length : Int) := by omega
    rw [laws_heldPartS.l1]
    simp only [j0, j2, ↓reduceIte, Int.toNat_natCast, e, w1, w2, w6, not_true_eq_false]
    rw [e4]
    simp only [Option.bind_some, w3, w4, w5, not_true_eq_false, ↓reduceIte]
    rw [if_neg (by omega)])
  (fun m ys n hl => by rw [laws_markPartS.l1, if_neg (by omega)])
  (fun m ys n hl => by rw [laws_heldPartS.l1, if_neg (by omega)])
  xs.length 0 m xs (by omega) rfl (fun _ _ => rfl) h0 (by omega) k (by omega)
 exact ⟨m', zs, g1, g2, by omega, g6 k (by omega)⟩
/-! ### kernels -/
theorem markArena_m {k : Nat} {xs : List Int} (hl : xs.length ≤ 1048576) (hk : 1048576 < k) : Marks 4000000000000000000 (laws_markArena.f k xs) (laws_heldArena.f k) 1048576 := fun m h0 h1 => by
 obtain ⟨m', x, e1, e2, e3, e4⟩ := marks_int (k := k) hl hk m h0 h1
 refine ⟨m', x, ?_, e2, e3, ?_⟩
 ·unfold laws_markArena.f
  rw [e1]
  rfl
 ·unfold laws_heldArena.f
  rw [e4]
  simp only [Option.bind_some]
  rw [if_neg (by omega)]
theorem markSetup_m {k : Nat} {S : Setup} (h : Small S) (hk : 1048576 < k) (m : Int) (h0 : 0 ≤ m) (h1 : m ≤ 10000000000000000) : ∃ m' S', laws_markSetup.f k S m = some (m', S') ∧ m ≤ m' ∧ m' ≤ m + 20000000 ∧ laws_heldSetup.f k S' m = some m' := by
 obtain ⟨R, W, P, U, C⟩ := S
 obtain ⟨l1, l2, l3, l4, l5⟩ := h
 simp only at l1 l2 l3 l4 l5
 obtain ⟨m1, R', a1, b1, c1, d1⟩ := marks_region (k := k) l1 hk m h0 (by omega)
 obtain ⟨m2, W', a2, b2, c2, d2⟩ := marks_window (k := k) l2 hk m1 (by omega) (by omega)
 obtain ⟨m3, P', a3, b3, c3, d3⟩ := marks_port (k := k) l3 hk m2 (by omega) (by omega)
 obtain ⟨m4, U', a4, b4, c4, d4⟩ := marks_rule (k := k) l4 hk m3 (by omega) (by omega)
 obtain ⟨m5, C', a5, b5, c5, d5⟩ := marks_string (k := k) l5 hk m4 (by omega) (by omega)
 refine ⟨m5, (R', W', P', U', C'), ?_, by omega, by omega, ?_⟩
 ·unfold laws_markSetup.f
  simp only [a1, a2, a3, a4, a5, Option.bind_some]
 ·unfold laws_heldSetup.f
  simp only [d1, d2, d3, d4, d5, Option.bind_some]
  rw [if_neg (by omega), if_neg (by omega), if_neg (by omega), if_neg (by omega), if_neg (by omega)]
theorem markKernel_m {k : Nat} {K : Kernel} (h : SmallK K) (hk : 1048576 < k) (m : Int) (h0 : 0 ≤ m) (h1 : m ≤ 1000000000000000) : ∃ m' S' A' Ps' Ls' O' G', laws_markKernel.f k K m = some (m', S'.1, S'.2.1, S'.2.2.1, S'.2.2.2.1, S'.2.2.2.2, A', Ps', Ls', O', G') ∧ m ≤ m' ∧ m' ≤ m + 4000000000000 ∧ ∀ (T : Int) (D : Bool), laws_heldKernel.f k (S', A', Ps', Ls', O', T, D, G') m = some m' := by
 obtain ⟨S, A, Ps, Ls, O, T, D, G⟩ := K
 obtain ⟨s1, s2, s3, s4, s5, s6, s7, s8⟩ := h
 simp only at s1 s2 s3 s4 s5 s6 s7 s8
 obtain ⟨m1, S', a1, b1, c1, d1⟩ := markSetup_m (k := k) s1 hk m h0 (by omega)
 obtain ⟨m2, A', a2, b2, c2, d2⟩ := markArena_m (k := k) s2 hk m1 (by omega) (by omega)
 obtain ⟨m3, Ps', a3, b3, c3, d3⟩ := marks_part (k := k) s3 s4 hk m2 (by omega) (by omega)
 obtain ⟨m4, Ls', a4, b4, c4, d4⟩ := marks_line (k := k) s5 s6 hk m3 (by omega) (by omega)
 obtain ⟨m5, O', a5, b5, c5, d5⟩ := marks_int (k := k) s7 hk m4 (by omega) (by omega)
 obtain ⟨m6, G', a6, b6, c6, d6⟩ := marks_entry (k := k) s8 hk m5 (by omega) (by omega)
 refine ⟨m6, S', A', Ps', Ls', O', G', ?_, by omega, by omega, fun T' D' => ?_⟩
 ·unfold laws_markKernel.f
  simp only [a1, a2, a3, a4, a5, a6, Option.bind_some]
 ·unfold laws_heldKernel.f
  simp only [d1, d2, d3, d4, d5, d6, Option.bind_some]
  rw [if_neg (by omega), if_neg (by omega), if_neg (by omega), if_neg (by omega), if_neg (by omega), if_neg (by omega)]
end Go.Proofs.Ytacpibmmodeacaa.Pure
/- The laws' own copies and comparisons of set-ups. No condition. -/
namespace Go.Proofs.Ytacpibmmodeacaa.Pure
open Go Go.Proofs.YtacpibmmodeacaaA Go.Proofs.YtacpibmmodeacaaU Go.Proofs.Ytacpibmmodeacaa.QA
set_option linter.unusedVariables false
set_option linter.unusedSimpArgs false
theorem szStringS_f {k : Nat} {xs : List ByteArray} {left : Int} (hk : 1048576 < k) (hx : xs.length ≤ 9223372036854775807) (hs : ∀ s, s ∈ xs → s.size ≤ 9223372036854775807) (h0 : 0 ≤ left) (h1 : left ≤ 1048576) : Ok (laws_szStringS.f k xs left) (fun r => 0 ≤ r → r ≤ left ∧ xs.length ≤ 1048576 ∧ ∀ s, s ∈ xs → s.size ≤ 1048576) := by
 unfold laws_szStringS.f
 rw [w64_id (z := left - (xs.length : Int)) (by omega) (by omega)]
 refine ok_if (fun _ => ok_some (fun h => absurd h (by omega))) (fun hl => ?_)
 refine ok_loop (L := laws_szStringS.l1 k) (I := fun d t => ∃ (j : Nat) (y : Int), t = (y, (j : Int), xs, ()) ∧ j + d = xs.length ∧ 0 ≤ y ∧ y ≤ left ∧ ∀ i, i < j → (el .str xs i).size ≤ 1048576) ?_ k xs.length _ (by omega) ⟨0, _, rfl, by omega, by omega, by omega, fun i hi => absurd hi (by omega)⟩
 rintro d n t ⟨j, y, rfl, hd, hy0, hy1, hq⟩ ih
 rw [laws_szStringS.l1]
 refine ok_if (fun hc => ok_grd (by omega) (ok_grd hc ?_)) (fun hc => ok_some (fun _ => ⟨hy1, by omega, fun s hs' => ?_⟩))
 ·have hj : j < xs.length := by omega
  have hz := hs _ (el_mem (t := .str) hj)
  have c4 : w64 ((j : Int) + 1) = ((j + 1 : Nat) : Int) := w64_id (by omega) (by omega)
  simp only [Int.toNat_natCast, c4]
  obtain ⟨z, hze⟩ : ∃ z : Nat, (el .str xs j).size = z := ⟨_, rfl⟩
  simp only [hze] at hz ⊢
  rw [w64_id (z := y - (z : Int)) (by omega) (by omega)]
  exact ok_if (fun _ => ok_some (fun h => absurd h (by omega))) (fun hz2 => ih (d - 1) _ (by omega) ⟨j + 1, _, rfl, by omega, by omega, by omega, allS hq (by omega)⟩)
 ·obtain ⟨i, hi, rfl⟩ := List.mem_iff_getElem.1 hs'
  have := hq i (by omega)
  rw [el_at (t := .str) (List.getElem?_eq_getElem hi)] at this
  exact this
abbrev SetupTy (a b c d e : Nat) : Ty := .pair (.sl a W2) (.pair (.sl b W2) (.pair (.sl c P5) (.pair (.sl d R3) (.sl e .str))))
/-- A set-up of which nothing is too long. -/
structure Lim (s : Setup) : Prop extends Small s where
 f : ∀ x, x ∈ s.2.2.2.2 → x.size ≤ 1048576
theorem szSetup_f {k : Nat} {s : Setup} {left : Int} (hk : 1048576 < k) (hx : Wf (SetupTy 0 0 0 0 0) s) (h0 : 0 ≤ left) (h1 : left ≤ 1048576) : Ok (laws_szSetup.f k s left) (fun r => 0 ≤ r → r ≤ left ∧ Lim s) := by
 obtain ⟨R, W, P, U, C⟩ := s
 obtain ⟨w1, w2, w3, w4, w5⟩ := hx
 unfold laws_szSetup.f
 refine ok_bind (szRegionS_f (xs := R) w1.2 h0 h1) (fun r1 q1 => ok_if (fun _ => ok_some (fun h => absurd h (by omega))) (fun n1 => ?_))
 obtain ⟨a1, b1⟩ := q1 (by omega)
 refine ok_bind (szWindowS_f (xs := W) w2.2 (by omega) (by omega)) (fun r2 q2 => ok_if (fun _ => ok_some (fun h => absurd h (by omega))) (fun n2 => ?_))
 obtain ⟨a2, b2⟩ := q2 (by omega)
 refine ok_bind (szPortS_f (xs := P) w3.2 (by omega) (by omega)) (fun r3 q3 => ok_if (fun _ => ok_some (fun h => absurd h (by omega))) (fun n3 => ?_))
 obtain ⟨a3, b3⟩ := q3 (by omega)
 refine ok_bind (szRuleS_f (xs := U) w4.2 (by omega) (by omega)) (fun r4 q4 => ok_if (fun _ => ok_some (fun h => absurd h (by omega))) (fun n4 => ?_))
 obtain ⟨a4, b4⟩ := q4 (by omega)
 refine ok_bind (szStringS_f (xs := C) hk w5.2 (fun s hs => w5.1 s hs) (by omega) (by omega)) (fun r5 q5 => ok_if (fun _ => ok_some (fun h => absurd h (by omega))) (fun n5 => ok_some (fun h => ?_)))
 obtain ⟨a5, b5, c5⟩ := q5 (by omega)
 exact ⟨by omega, ⟨b1, b2, b3, b4, b5⟩, c5⟩
theorem toSetup_f {k : Nat} {s : Setup} (h : Lim s) (hk : 1048576 < k) : laws_toSetup.f k s = some s := by
 unfold laws_toSetup.f
 rw [toRegionS_f h.a hk, toWindowS_f h.b hk, toPortS_f h.c hk, toRuleS_f h.d hk, toStringS_f h.e hk]
 rfl
theorem eqSetup_f {k : Nat} {s : Setup} (h : Small s) (hk : 1048576 < k) : laws_eqSetup.f k s s = some true := by
 unfold laws_eqSetup.f
 rw [eqRegionS_f h.a hk, eqWindowS_f h.b hk, eqPortS_f h.c hk, eqRuleS_f h.d hk, eqStringS_f h.e hk]
 rfl
end Go.Proofs.Ytacpibmmodeacaa.Pure
/- The laws' own copies and comparisons of kernels. No condition. -/
namespace Go.Proofs.Ytacpibmmodeacaa.Pure
open Go Go.Proofs.YtacpibmmodeacaaA Go.Proofs.YtacpibmmodeacaaU Go.Proofs.Ytacpibmmodeacaa.QA
set_option linter.unusedVariables false
set_option linter.unusedSimpArgs false
abbrev LLT : Ty := .sl 243 (.pair (.int .i64) (.int .i64))
abbrev E5 : Ty := .pair (.int .i64) (.pair (.int .i64) (.pair (.int .i64) (.pair (.int .i64) (.int .i64))))
theorem szPart_f {k : Nat} {p : PartT} {left : Int} (hx : p.2.1.2.length ≤ 9223372036854775807) (h0 : 0 ≤ left) (h1 : left ≤ 1048576) : Ok (laws_szPart.f k p left) (fun r => 0 ≤ r → r ≤ left ∧ p.2.1.2.length ≤ 1048576) := by
 unfold laws_szPart.f
 exact ok_bind (szCpu_f (c := p.2.1) hx h0 h1) (fun r hr => ok_if (fun _ => ok_some (fun h => absurd h (by omega))) (fun _ => ok_some hr))
theorem szPartS_f {k : Nat} {xs : List PartT} {left : Int} (hk : 1048576 < k) (hx : xs.length ≤ 9223372036854775807) (hs : ∀ p, p ∈ xs → p.2.1.2.length ≤ 9223372036854775807) (h0 : 0 ≤ left) (h1 : left ≤ 1048576) : Ok (laws_szPartS.f k xs left) (fun r => 0 ≤ r → r ≤ left ∧ xs.length ≤ 1048576 ∧ ∀ p, p ∈ xs → p.2.1.2.length ≤ 1048576) := by
 unfold laws_szPartS.f
 rw [w64_id (z := left - (xs.length : Int)) (by omega) (by omega)]
 refine ok_if (fun _ => ok_some (fun h => absurd h (by omega))) (fun hl => ?_)
 refine ok_loop (L := laws_szPartS.l1 k) (I := fun d t => ∃ (j : Nat) (y : Int), t = (y, (j : Int), xs, ()) ∧ j + d = xs.length ∧ 0 ≤ y ∧ y ≤ left ∧ ∀ i, i < j → (el PT xs i).2.1.2.length ≤ 1048576) ?_ k xs.length _ (by omega) ⟨0, _, rfl, by omega, by omega, by omega, fun i hi => absurd hi (by omega)⟩
 rintro d n t ⟨j, y, rfl, hd, hy0, hy1, hq⟩ ih
 rw [laws_szPartS.l1]
 refine ok_if (fun hc => ok_grd (by omega) (ok_grd hc ?_)) (fun hc => ok_some (fun _ => ⟨hy1, by omega, fun s hs' => ?_⟩))
 ·have hj : j < xs.length := by omega
  have hz := hs _ (el_mem (t := PT) hj)
  have c4 : w64 ((j : Int) + 1) = ((j + 1 : Nat) : Int) := w64_id (by omega) (by omega)
  obtain ⟨a, c, b, e, f, hxe⟩ : ∃ (a : Int) (c : Int × List Int) (b e f : Int), el PT xs j = (a, c, b, e, f) := ⟨_, _, _, _, _, rfl⟩
  rw [hxe] at hz
  simp only [Int.toNat_natCast, c4, show el (.pair (.int .i64) (.pair (.pair (.int .i64) (.sl 3 (.int .i64))) (.pair (.int .i64) (.pair (.int .i64) (.int .i64))))) xs j = (a, c, b, e, f) from hxe]
  refine ok_bind (szPart_f (p := (a, c, b, e, f)) hz hy0 (by omega)) (fun r hr => ok_if (fun _ => ok_some (fun h => absurd h (by omega))) (fun hz2 => ?_))
  have hr' := hr (by omega)
  exact ih (d - 1) _ (by omega) ⟨j + 1, _, rfl, by omega, by omega, by omega, allS hq (by rw [hxe]; exact hr'.2)⟩
 ·obtain ⟨i, hi, rfl⟩ := List.mem_iff_getElem.1 hs'
  have := hq i (by omega)
  rw [el_at (t := PT) (List.getElem?_eq_getElem hi)] at this
  exact this
theorem szLineS_f {k : Nat} {xs : List LineT} {left : Int} (hk : 1048576 < k) (hx : xs.length ≤ 9223372036854775807) (hs : ∀ p, p ∈ xs → p.length ≤ 9223372036854775807) (h0 : 0 ≤ left) (h1 : left ≤ 1048576) : Ok (laws_szLineS.f k xs left) (fun r => 0 ≤ r → r ≤ left ∧ xs.length ≤ 1048576 ∧ ∀ p, p ∈ xs → p.length ≤ 1048576) := by
 unfold laws_szLineS.f
 rw [w64_id (z := left - (xs.length : Int)) (by omega) (by omega)]
 refine ok_if (fun _ => ok_some (fun h => absurd h (by omega))) (fun hl => ?_)
 refine ok_loop (L := laws_szLineS.l1 k) (I := fun d t => ∃ (j : Nat) (y : Int), t = (y, (j : Int), xs, ()) ∧ j + d = xs.length ∧ 0 ≤ y ∧ y ≤ left ∧ ∀ i, i < j → (el LLT xs i).length ≤ 1048576) ?_ k xs.length _ (by omega) ⟨0, _, rfl, by omega, by omega, by omega, fun i hi => absurd hi (by omega)⟩
 rintro d n t ⟨j, y, rfl, hd, hy0, hy1, hq⟩ ih
 rw [laws_szLineS.l1]
 refine ok_if (fun hc => ok_grd (by omega) (ok_grd hc ?_)) (fun hc => ok_some (fun _ => ⟨hy1, by omega, fun s hs' => ?_⟩))
 ·have hj : j < xs.length := by omega
  have hz := hs _ (el_mem (t := LLT) hj)
  have c4 : w64 ((j : Int) + 1) = ((j + 1 : Nat) : Int) := w64_id (by omega) (by omega)
  obtain ⟨l, hxe⟩ : ∃ l : List (Int × Int), el LLT xs j = l := ⟨_, rfl⟩
  rw [hxe] at hz
  simp only [Int.toNat_natCast, c4, show el (.sl 243 (.pair (.int .i64) (.int .i64))) xs j = l from hxe]
  have hline : Ok (laws_szLine.f k l y) (fun r => 0 ≤ r → r ≤ y ∧ l.length ≤ 1048576) := by
   unfold laws_szLine.f
   exact ok_bind (szMsgS_f (xs := l) hz hy0 (by omega)) (fun r hr => ok_if (fun _ => ok_some (fun h => absurd h (by omega))) (fun _ => ok_some hr))
  refine ok_bind hline (fun r hr => ok_if (fun _ => ok_some (fun h => absurd h (by omega))) (fun hz2 => ?_))
  have hr' := hr (by omega)
  exact ih (d - 1) _ (by omega) ⟨j + 1, _, rfl, by omega, by omega, by omega, allS hq (by rw [hxe]; exact hr'.2)⟩
 ·obtain ⟨i, hi, rfl⟩ := List.mem_iff_getElem.1 hs'
  have := hq i (by omega)
  rw [el_at (t := LLT) (List.getElem?_eq_getElem hi)] at this
  exact this
structure LimK (k : Kernel) : Prop extends SmallK k where
 codes : ∀ x, x ∈ k.1.2.2.2.2 → x.size ≤ 1048576
theorem LimK.lim {k : Kernel} (h : LimK k) : Lim k.1 := ⟨h.st, h.codes⟩
abbrev KTy : Ty := .pair (SetupTy 0 0 0 0 0) (.pair (.sl 0 (.int .i64)) (.pair (.sl 0 PT) (.pair (.sl 0 LLT) (.pair (.sl 0 (.int .i64)) (.pair (.int .i64) (.pair .bool (.sl 0 E5)))))))
theorem szKernel_f {k : Nat} {K : Kernel} {left : Int} (hk : 1048576 < k) (hx : Wf KTy K) (h0 : 0 ≤ left) (h1 : left ≤ 1048576) : Ok (laws_szKernel.f k K left) (fun r => 0 ≤ r → r ≤ left ∧ LimK K) := by
 obtain ⟨S, A, Ps, Ls, O, T, D, G⟩ := K
 obtain ⟨w1, w2, w3, w4, w5, w6, w7, w8⟩ := hx
 unfold laws_szKernel.f
 refine ok_bind (szSetup_f (s := S) hk w1 h0 h1) (fun r1 q1 => ok_if (fun _ => ok_some (fun h => absurd h (by omega))) (fun n1 => ?_))
 obtain ⟨a1, b1⟩ := q1 (by omega)
 refine ok_bind (szArena_f (c := A) w2.2 (by omega) (by omega)) (fun r2 q2 => ok_if (fun _ => ok_some (fun h => absurd h (by omega))) (fun n2 => ?_))
 obtain ⟨a2, b2⟩ := q2 (by omega)
 refine ok_bind (szPartS_f (xs := Ps) hk w3.2 (fun p hp => (w3.1 p hp).2.1.2.2) (by omega) (by omega)) (fun r3 q3 => ok_if (fun _ => ok_some (fun h => absurd h (by omega))) (fun n3 => ?_))
 obtain ⟨a3, b3, c3⟩ := q3 (by omega)
 refine ok_bind (szLineS_f (xs := Ls) hk w4.2 (fun p hp => (w4.1 p hp).2) (by omega) (by omega)) (fun r4 q4 => ok_if (fun _ => ok_some (fun h => absurd h (by omega))) (fun n4 => ?_))
 obtain ⟨a4, b4, c4⟩ := q4 (by omega)
 refine ok_bind (szIntS_f (xs := O) w5.2 (by omega) (by omega)) (fun r5 q5 => ok_if (fun _ => ok_some (fun h => absurd h (by omega))) (fun n5 => ?_))
 obtain ⟨a5, b5⟩ := q5 (by omega)
 refine ok_bind (szEntryS_f (xs := G) w8.2 (by omega) (by omega)) (fun r6 q6 => ok_if (fun _ => ok_some (fun h => absurd h (by omega))) (fun n6 => ok_some (fun h => ?_)))
 obtain ⟨a6, b6⟩ := q6 (by omega)
 exact ⟨by omega, ⟨b1.toSmall, b2, b3, c3, b4, c4, b5, b6⟩, b1.f⟩
theorem toPart_f {k : Nat} {p : PartT} (hl : p.2.1.2.length ≤ 1048576) (hk : 1048576 < k) : laws_toPart.f k p = some p := by
 unfold laws_toPart.f
 rw [toCpu_f hl hk]
 rfl
theorem eqPart_f {k : Nat} {p : PartT} (hl : p.2.1.2.length ≤ 1048576) (hk : 1048576 < k) : laws_eqPart.f k p p = some true := by
 unfold laws_eqPart.f
 rw [eqCpu_f hl hk]
 simp
theorem toPartS_f {k : Nat} {xs : List PartT} (hl : xs.length ≤ 1048576) (hs : ∀ p, p ∈ xs → p.2.1.2.length ≤ 1048576) (hk : 1048576 < k) : laws_toPartS.f k xs = some xs := by
 have l : ∀ (d j n : Nat), j + d = xs.length → d < n → laws_toPartS.l1 k n ((j : Int), xs, xs.take j ++ List.replicate d ((0, (0, []), 0, 0, 0) : PartT), ()) = some xs := by
  intro d
  induction d with
  | zero =>
   intro j n hj hn
   obtain ⟨n, rfl⟩ : ∃ n', n = n' + 1 := ⟨n - 1, by omega⟩
   rw [List.replicate_zero, List.append_nil, List.take_of_length_le (by omega), laws_toPartS.l1, if_neg (by omega)]
  | succ d ih =>
   intro j n hj hn
   obtain ⟨n, rfl⟩ : ∃ n', n = n' + 1 := ⟨n - 1, by omega⟩
   have h0 : (0 : Int) ≤ (j : Int) := by omega
   have h1 : (j : Int) < (xs.length : Int) := by omega
   have h2 : (xs.take j ++ List.replicate (d + 1) ((0, (0, []), 0, 0, 0) : PartT)).length = xs.length := len_copy hj
   have h3 := set_copy (el_lt (t := PT) (xs := xs) (i := j) (by omega)) hj (z := ((0, (0, []), 0, 0, 0) : PartT))
   have h4 : w64 ((j : Int) + 1) = ((j + 1 : Nat) : Int) := w_id (z := (j : Int) + 1) (by omega) (by omega)
   have hz := hs _ (el_mem (t := PT) (xs := xs) (i := j) (by omega))
   obtain ⟨a, c, b, e, f, hxe⟩ : ∃ (a : Int) (c : Int × List Int) (b e f : Int), el PT xs j = (a, c, b, e, f) := ⟨_, _, _, _, _, rfl⟩
   rw [hxe] at hz h3
   have ht := toPart_f (p := (a, c, b, e, f)) hz hk
   have h5 : (j : Int) < ((xs.take j ++ List.replicate (d + 1) ((0, (0, []), 0, 0, 0) : PartT)).length : Int) := by rw [h2]; exact h1
   simp only [laws_toPartS.l1, h0, h1, h5, h4, ↓reduceIte, Option.bind_some, Int.toNat_natCast, show el (.pair (.int .i64) (.pair (.pair (.int .i64) (.sl 3 (.int .i64))) (.pair (.int .i64) (.pair (.int .i64) (.int .i64))))) xs j = (a, c, b, e, f) from hxe, ht]
   rw [h3]
   exact ih (j + 1) n (by omega) (by omega)
 have := l xs.length 0 k (by omega) (by omega)
 unfold laws_toPartS.f
 rw [if_pos rfl, if_pos (by omega), if_pos (by simp only [Int.toNat_natCast]; omega)]
 simpa using this
theorem eqPartS_f {k : Nat} {xs : List PartT} (hl : xs.length ≤ 1048576) (hs : ∀ p, p ∈ xs → p.2.1.2.length ≤ 1048576) (hk : 1048576 < k) : laws_eqPartS.f k xs xs = some true := by
 have l : ∀ (d j n : Nat), j + d = xs.length → d < n → laws_eqPartS.l1 k n ((j : Int), xs, xs, ()) = some true := by
  intro d
  induction d with
  | zero =>
   intro j n hj hn
   obtain ⟨n, rfl⟩ : ∃ n', n = n' + 1 := ⟨n - 1, by omega⟩
   rw [laws_eqPartS.l1, if_neg (by omega)]
  | succ d ih =>
   intro j n hj hn
   obtain ⟨n, rfl⟩ : ∃ n', n = n' + 1 := ⟨n - 1, by omega⟩
   have h0 : (0 : Int) ≤ (j : Int) := by omega
   have h1 : (j : Int) < (xs.length : Int) := by omega
   have h4 : w64 ((j : Int) + 1) = ((j + 1 : Nat) : Int) := w_id (z := (j : Int) + 1) (by omega) (by omega)
   have hz := hs _ (el_mem (t := PT) (xs := xs) (i := j) (by omega))
   obtain ⟨a, c, b, e, f, hxe⟩ : ∃ (a : Int) (c : Int × List Int) (b e f : Int), el PT xs j = (a, c, b, e, f) := ⟨_, _, _, _, _, rfl⟩
   rw [hxe] at hz
   have ht := eqPart_f (p := (a, c, b, e, f)) hz hk
   simp only [laws_eqPartS.l1, h0, h1, h4, ↓reduceIte, Option.bind_some, Int.toNat_natCast, show el (.pair (.int .i64) (.pair (.pair (.int .i64) (.sl 3 (.int .i64))) (.pair (.int .i64) (.pair (.int .i64) (.int .i64))))) xs j = (a, c, b, e, f) from hxe, ht, not_true_eq_false]
   exact ih (j + 1) n (by omega) (by omega)
 have := l xs.length 0 k (by omega) (by omega)
 unfold laws_eqPartS.f
 rw [if_neg (fun h => h rfl)]
 exact this
theorem toLineS_f {k : Nat} {xs : List LineT} (hl : xs.length ≤ 1048576) (hs : ∀ p, p ∈ xs → p.length ≤ 1048576) (hk : 1048576 < k) : laws_toLineS.f k xs = some xs := by
 have l : ∀ (d j n : Nat), j + d = xs.length → d < n → laws_toLineS.l1 k n ((j : Int), xs, xs.take j ++ List.replicate d ([] : LineT), ()) = some xs := by
  intro d
  induction d with
  | zero =>
   intro j n hj hn
   obtain ⟨n, rfl⟩ : ∃ n', n = n' + 1 := ⟨n - 1, by omega⟩
   rw [List.replicate_zero, List.append_nil, List.take_of_length_le (by omega), laws_toLineS.l1, if_neg (by omega)]
  | succ d ih =>
   intro j n hj hn
   obtain ⟨n, rfl⟩ : ∃ n', n = n' + 1 := ⟨n - 1, by omega⟩
   have h0 : (0 : Int) ≤ (j : Int) := by omega
   have h1 : (j : Int) < (xs.length : Int) := by omega
   have h2 : (xs.take j ++ List.replicate (d + 1) ([] : LineT)).length = xs.length := len_copy hj
   have h3 := set_copy (el_lt (t := LLT) (xs := xs) (i := j) (by omega)) hj (z := ([] : LineT))
   have h4 : w64 ((j : Int) + 1) = ((j + 1 : Nat) : Int) := w_id (z := (j : Int) + 1) (by omega) (by omega)
   have hz := hs _ (el_mem (t := LLT) (xs := xs) (i := j) (by omega))
   obtain ⟨l, hxe⟩ : ∃ l : List (Int × Int), el LLT xs j = l := ⟨_, rfl⟩
   rw [hxe] at hz h3
   have ht : laws_toLine.f k l = some l := by
    unfold laws_toLine.f
    rw [toMsgS_f hz hk]
    rfl
   have h5 : (j : Int) < ((xs.take j ++ List.replicate (d + 1) ([] : LineT)).length : Int) := by rw [h2]; exact h1
   simp only [laws_toLineS.l1, h0, h1, h5, h4, ↓reduceIte, Option.bind_some, Int.toNat_natCast, show el (.sl 243 (.pair (.int .i64) (.int .i64))) xs j = l from hxe, ht]
   rw [h3]
   exact ih (j + 1) n (by omega) (by omega)
 have := l xs.length 0 k (by omega) (by omega)
 unfold laws_toLineS.f
 rw [if_pos rfl, if_pos (by omega), if_pos (by simp only [Int.toNat_natCast]; omega)]
 simpa using this
theorem eqLineS_f {k : Nat} {xs : List LineT} (hl : xs.length ≤ 1048576) (hs : ∀ p, p ∈ xs → p.length ≤ 1048576) (hk : 1048576 < k) : laws_eqLineS.f k xs xs = some true := by
 have l : ∀ (d j n : Nat), j + d = xs.length → d < n → laws_eqLineS.l1 k n ((j : Int), xs, xs, ()) = some true := by
  intro d
  induction d with
  | zero =>
   intro j n hj hn
   obtain ⟨n, rfl⟩ : ∃ n', n = n' + 1 := ⟨n - 1, by omega⟩
   rw [laws_eqLineS.l1, if_neg (by omega)]
  | succ d ih =>
   intro j n hj hn
   obtain ⟨n, rfl⟩ : ∃ n', n = n' + 1 := ⟨n - 1, by omega⟩
   have h0 : (0 : Int) ≤ (j : Int) := by omega
   have h1 : (j : Int) < (xs.length : Int) := by omega
   have h4 : w64 ((j : Int) + 1) = ((j + 1 : Nat) : Int) := w_id (z := (j : Int) + 1) (by omega) (by omega)
   have hz := hs _ (el_mem (t := LT) (xs := xs) (i := j) (by omega))
   obtain ⟨l, hxe⟩ : ∃ l : List (Int × Int), el LT xs j = l := ⟨_, rfl⟩
   rw [hxe] at hz
   have ht : laws_eqLine.f k l l = some true := by
    unfold laws_eqLine.f
    rw [eqMsgS_f hz hk]
    rfl
   simp only [laws_eqLineS.l1, h0, h1, h4, ↓reduceIte, Option.bind_some, Int.toNat_natCast, show el (.sl 241 (.pair (.int .i64) (.int .i64))) xs j = l from hxe, ht, not_true_eq_false]
   exact ih (j + 1) n (by omega) (by omega)
 have := l xs.length 0 k (by omega) (by omega)
 unfold laws_eqLineS.f
 rw [if_neg (fun h => h rfl)]
 exact this
theorem toKernel_f {k : Nat} {K : Kernel} (h : LimK K) (hk : 1048576 < k) : laws_toKernel.f k K = some K := by
 unfold laws_toKernel.f
 rw [toSetup_f h.lim hk, toArena_f h.cells hk, toPartS_f h.parts h.stacks hk, toLineS_f h.lines h.msgs hk, toIntS_f h.outs hk, toEntryS_f h.log hk]
 rfl
theorem eqKernel_f {k : Nat} {K : Kernel} (h : SmallK K) (hk : 1048576 < k) : laws_eqKernel.f k K K = some true := by
 unfold laws_eqKernel.f
 rw [eqSetup_f h.st hk, eqArena_f h.cells hk, eqPartS_f h.parts h.stacks hk, eqLineS_f h.lines h.msgs hk, eqIntS_f h.outs hk, eqEntryS_f h.log hk]
 simp
end Go.Proofs.Ytacpibmmodeacaa.Pure
/- Runs of code, and what they cost. No condition. -/
namespace Go.Proofs.Ytacpibmmodeacaa.Pure
open Go Go.Proofs.YtacpibmmodeacaaA Go.Proofs.YtacpibmmodeacaaU Go.Proofs.Ytacpibmmodeacaa.QA
set_option linter.unusedVariables false
set_option linter.unusedSimpArgs false
/-! ### a machine stays right -/
/-! ### answers -/
/-! ### runs -/
end Go.Proofs.Ytacpibmmodeacaa.Pure
/- Ports: what is sent and taken by the program. No condition. -/
namespace Go.Proofs.Ytacpibmmodeacaa.Pure
open Go Go.Proofs.YtacpibmmodeacaaA Go.Proofs.YtacpibmmodeacaaU Go.Proofs.Ytacpibmmodeacaa.QA
set_option linter.unusedVariables false
set_option linter.unusedSimpArgs false
end Go.Proofs.Ytacpibmmodeacaa.Pure
/- Runs of a part of a kernel. No condition. -/
namespace Go.Proofs.Ytacpibmmodeacaa.Pure
open Go Go.Proofs.YtacpibmmodeacaaA Go.Proofs.YtacpibmmodeacaaU Go.Proofs.Ytacpibmmodeacaa.QA
set_option linter.unusedVariables false
set_option linter.unusedSimpArgs false
abbrev RS := List Int × (Int × List Int) × List LineT × List Int
structure World where
 P : List Port5
 R : Int × Int
 code : List (Int × Int)
 part : Int
 time : Int
 ins : List Int
structure RunOk (w : World) (s : RS) : Prop where
 cells : s.1.length = 64
 words : WordsOk s.1
 cpu : CpuOk s.2.1
 nl : s.2.2.1.length = w.P.length
 line : ∀ i, i < s.2.2.1.length → ((el LT s.2.2.1 i).length : Int) ≤ (el P5 w.P i).2.2.2.1
 stamps : ∀ l, l ∈ s.2.2.1 → Stamps l
 outs : s.2.2.2.length = 8
 outw : WordsOk s.2.2.2
/-! ### what a step asks -/
/-! ### ports -/
def LineOk (p : Port5) (l : LineT) : Prop := (l.length : Int) ≤ p.2.2.2.1 ∧ Stamps l
theorem RunOk.at {w : World} {s : RS} (h : RunOk w s) {i : Nat} (hi : i < s.2.2.1.length) : LineOk (el P5 w.P i) (el LT s.2.2.1 i) := ⟨h.line i hi, h.stamps _ (el_mem (t := LT) hi)⟩
/-! ### the kernel behind a run -/
def StampsK (K : Kernel) : Prop := ∀ l, l ∈ K.2.2.2.1 → Stamps l
end Go.Proofs.Ytacpibmmodeacaa.Pure
/- What is done when something goes wrong. No condition. -/
namespace Go.Proofs.Ytacpibmmodeacaa.Pure
open Go Go.Proofs.YtacpibmmodeacaaA Go.Proofs.YtacpibmmodeacaaU Go.Proofs.Ytacpibmmodeacaa.QA
set_option linter.unusedVariables false
end Go.Proofs.Ytacpibmmodeacaa.Pure
/- Turns of a kernel. No condition. -/
namespace Go.Proofs.Ytacpibmmodeacaa.Pure
open Go Go.Proofs.YtacpibmmodeacaaA Go.Proofs.YtacpibmmodeacaaU Go.Proofs.Ytacpibmmodeacaa.QA
set_option linter.unusedVariables false
set_option linter.unusedSimpArgs false
/-! ### what stays right -/
def Few (n : Int) (p : PartT) : Prop := p.2.2.1 ≤ n ∧ p.2.2.2.1 ≤ n ∧ p.2.2.2.2 ≤ n
/-- A kernel that is right and of which nothing has been counted more than so often. -/
structure Good (n : Int) (K : Kernel) : Prop where
 ok : KernelOk K
 st : StampsK K
 few : ∀ i, i < K.2.2.1.length → Few n (el PT K.2.2.1 i)
 log : K.2.2.2.2.2.2.2.length ≤ 40
/-- Another part in its place. -/
theorem Good.part {n : Int} {K : Kernel} (h : Good n K) {i : Nat} {p : PartT} (hp : PartOk p) (hf : Few n p) : Good n (K.1, K.2.1, K.2.2.1.set i p, K.2.2.2) := by
 have hq : ∀ j, j < K.2.2.1.length → PartOk (el PT (K.2.2.1.set i p) j) ∧ Few n (el PT (K.2.2.1.set i p) j) := fun j hj => by
  by_cases hij : i = j
  ·subst hij
   rw [el_set_self (t := PT) hj]
   exact ⟨hp, hf⟩
  ·rw [el_set_ne (t := PT) hij]
   exact ⟨h.ok.part j hj, h.few j hj⟩
 have hl : (K.2.2.1.set i p).length = K.2.2.1.length := List.length_set ..
 exact ⟨⟨h.ok.fault, h.ok.cells, h.ok.words, hl.trans h.ok.parts, h.ok.lines, fun j hj => (hq j (by rw [← hl]; exact hj)).1, h.ok.line, h.ok.outs, h.ok.outw, h.ok.turn⟩, h.st, fun j hj => (hq j (by rw [← hl]; exact hj)).2, h.log⟩
theorem Good.cells {n : Int} {K : Kernel} (h : Good n K) {A : List Int} (hA : A.length = 64) (hw : WordsOk A) : Good n (K.1, A, K.2.2) := ⟨⟨h.ok.fault, hA, hw, h.ok.parts, h.ok.lines, h.ok.part, h.ok.line, h.ok.outs, h.ok.outw, h.ok.turn⟩, h.st, h.few, h.log⟩
theorem Good.outs {n : Int} {K : Kernel} (h : Good n K) {O : List Int} (hO : O.length = 8) (hw : WordsOk O) {D : Bool} : Good n (K.1, K.2.1, K.2.2.1, K.2.2.2.1, O, K.2.2.2.2.2.1, D, K.2.2.2.2.2.2.2) := ⟨⟨h.ok.fault, h.ok.cells, h.ok.words, h.ok.parts, h.ok.lines, h.ok.part, h.ok.line, hO, hw, h.ok.turn⟩, h.st, h.few, h.log⟩
theorem Good.turn {n : Int} {K : Kernel} (h : Good n K) {T : Int} (hT : Number T) : Good n (K.1, K.2.1, K.2.2.1, K.2.2.2.1, K.2.2.2.2.1, T, K.2.2.2.2.2.2) := ⟨⟨h.ok.fault, h.ok.cells, h.ok.words, h.ok.parts, h.ok.lines, h.ok.part, h.ok.line, h.ok.outs, h.ok.outw, hT⟩, h.st, h.few, h.log⟩
/-! ### a new kernel -/
end Go.Proofs.Ytacpibmmodeacaa.Pure
/- The program's runs of a part of a kernel. No condition. -/
namespace Go.Proofs.Ytacpibmmodeacaa.Pure
open Go Go.Proofs.YtacpibmmodeacaaA Go.Proofs.YtacpibmmodeacaaU Go.Proofs.Ytacpibmmodeacaa.QA
set_option linter.unusedVariables false
set_option linter.unusedSimpArgs false
end Go.Proofs.Ytacpibmmodeacaa.Pure
/- The window of a turn. No condition. -/
namespace Go.Proofs.Ytacpibmmodeacaa.Pure
open Go Go.Proofs.YtacpibmmodeacaaA Go.Proofs.YtacpibmmodeacaaU Go.Proofs.Ytacpibmmodeacaa.QA
set_option linter.unusedVariables false
end Go.Proofs.Ytacpibmmodeacaa.Pure
/- The program's turns of a kernel. No condition. -/
namespace Go.Proofs.Ytacpibmmodeacaa.Pure
open Go Go.Proofs.YtacpibmmodeacaaA Go.Proofs.YtacpibmmodeacaaU Go.Proofs.Ytacpibmmodeacaa.QA
set_option linter.unusedVariables false
set_option linter.unusedSimpArgs false
theorem two_cells {O : List Int} {i : Nat} (h : i + 1 < O.length) : (O.take (i + 2)).drop i = [el I1 O i, el I1 O (i + 1)] := by
 refine List.ext_getElem? fun j => ?_
 rw [List.getElem?_drop, List.getElem?_take]
 rcases j with _ | _ | j
 ·rw [if_pos (by omega)]
  exact el_lt (t := I1) (by omega)
 ·rw [if_pos (by omega)]
  exact el_lt (t := I1) (by omega)
 ·rw [if_neg (by omega)]
  rfl
end Go.Proofs.Ytacpibmmodeacaa.Pure
/- What is told of a part of any kernel. No condition. -/
namespace Go.Proofs.Ytacpibmmodeacaa.Pure
open Go Go.Proofs.YtacpibmmodeacaaA Go.Proofs.YtacpibmmodeacaaU Go.Proofs.Ytacpibmmodeacaa.QA
set_option linter.unusedVariables false
set_option linter.unusedSimpArgs false
/-- The cells of a region, of any cells. -/
def cellsG (A : List Int) (r : Int × Int) : List Int := if 0 ≤ r.1 then (A.drop r.1.toNat).take r.2.toNat else []
theorem take_cell {A : List Int} {fr : Int} {j : Nat} (h0 : 0 ≤ fr) (h : (j : Int) < (A.length : Int) - fr) : ((A.drop fr.toNat).take j).length = j ∧ (A.drop fr.toNat).take j ++ [el I1 A (fr + (j : Int)).toNat] = (A.drop fr.toNat).take (j + 1) := by
 refine ⟨by rw [List.length_take, List.length_drop]; omega, ?_⟩
 rw [List.take_add_one, List.getElem?_drop, show fr.toNat + j = (fr + (j : Int)).toNat by omega, el_lt (t := I1) (xs := A) (i := (fr + (j : Int)).toNat) (by omega)]
 rfl
theorem cellsG_i {k : Nat} {A : List Int} {r : Int × Int} (hk : 1048576 < k) (hA : A.length ≤ 1048576) (hr : r.1 < 9223372036854775808) : impl_CellsOf.f k A r = some (cellsG A r) := by
 obtain ⟨fr, z⟩ := r
 simp only at hr
 refine ok_eq ?_
 unfold impl_CellsOf.f
 refine ok_let ?_
 by_cases h0 : 0 ≤ fr
 ·have hG : cellsG A (fr, z) = (A.drop fr.toNat).take z.toNat := if_pos h0
  rw [hG]
  refine ok_loop (L := impl_CellsOf.l1 k) (I := fun d s => ∃ j : Nat, s = ((j : Int), fr, z, A, (A.drop fr.toNat).take j, ()) ∧ j + d = A.length ∧ ((j : Int) ≤ z ∨ j = 0)) ?_ k A.length _ (by omega) ⟨0, by simp, by omega, .inr rfl⟩
  rintro d n s ⟨j, rfl, hd, hz⟩ ih
  rw [impl_CellsOf.l1, cellAt_i hA (by dsimp only; omega)]
  refine ok_let ?_
  unfold cellAt
  dsimp only
  by_cases hj : (j : Int) < z ∧ (j : Int) < (A.length : Int) - fr
  ·have h4 : w64 ((j : Int) + 1) = ((j + 1 : Nat) : Int) := w64_id (by omega) (by omega)
   obtain ⟨htl, et⟩ := take_cell h0 hj.2
   rw [if_pos (show 0 ≤ fr ∧ 0 ≤ (j : Int) ∧ (j : Int) < z ∧ (j : Int) < (A.length : Int) - fr by omega), if_pos (by omega), w64_id (z := fr + (j : Int)) (by omega) (by omega), if_pos (by omega), if_pos (by omega), h4]
   refine ok_let (ok_grd (by simp only [List.length_cons, List.length_nil]; omega) (ok_let ?_))
   exact ih (d - 1) _ (by omega) ⟨j + 1, by rw [← et], by omega, by omega⟩
  ·rw [if_neg (show ¬ (0 ≤ fr ∧ 0 ≤ (j : Int) ∧ (j : Int) < z ∧ (j : Int) < (A.length : Int) - fr) by omega), if_neg (by omega)]
   refine ok_some ?_
   by_cases hzz : (j : Int) < z
   ·rw [List.take_of_length_le (by rw [List.length_drop]; omega), List.take_of_length_le (by rw [List.length_drop]; omega)]
   ·rcases hz with hz | hz
    ·rw [show z.toNat = j by omega]
    ·rw [show z.toNat = j by omega]
 ·have hG : cellsG A (fr, z) = [] := if_neg h0
  rw [hG]
  refine ok_loop (L := impl_CellsOf.l1 k) (I := fun d s => s = (0, fr, z, A, [], ())) ?_ k 0 _ (by omega) rfl
  rintro d n s rfl ih
  rw [impl_CellsOf.l1, cellAt_i hA (by dsimp only; omega)]
  refine ok_let ?_
  unfold cellAt
  dsimp only
  rw [if_neg (show ¬ (0 ≤ fr ∧ (0 : Int) ≤ 0 ∧ (0 : Int) < z ∧ (0 : Int) < (A.length : Int) - fr) by omega), if_neg (by omega)]
  exact ok_some rfl
theorem cellsG_s {k : Nat} {A : List Int} {r : Int × Int} (hk : 1048576 < k) (hA : A.length ≤ 1048576) : spec_CellsOf.f k A r = some (cellsG A r) := by
 obtain ⟨fr, z⟩ := r
 refine ok_eq ?_
 unfold spec_CellsOf.f
 refine ok_let ?_
 by_cases h0 : 0 ≤ fr
 ·have hG : cellsG A (fr, z) = (A.drop fr.toNat).take z.toNat := if_pos h0
  rw [hG]
  refine ok_loop (L := spec_CellsOf.l1 k) (I := fun d s => ∃ j : Nat, s = ((j : Int), fr, z, A, (A.drop fr.toNat).take j, ()) ∧ j + d = A.length ∧ ((j : Int) ≤ z ∨ j = 0)) ?_ k A.length _ (by omega) ⟨0, by simp, by omega, .inr rfl⟩
  rintro d n s ⟨j, rfl, hd, hz⟩ ih
  rw [spec_CellsOf.l1]
  have h4 : w64 ((j : Int) + 1) = ((j + 1 : Nat) : Int) := w64_id (by omega) (by omega)
  refine ok_if (fun hjz => ok_if (fun hjl => ?_) (fun hjl => ok_some ?_)) (fun hjz => ok_some ?_)
  ·rw [cellAt_s hA]
   refine ok_let ?_
   unfold cellAt
   dsimp only
   by_cases hj : (j : Int) < (A.length : Int) - fr
   ·obtain ⟨htl, et⟩ := take_cell h0 hj
    rw [if_pos (show 0 ≤ fr ∧ 0 ≤ (j : Int) ∧ (j : Int) < z ∧ (j : Int) < (A.length : Int) - fr by omega), if_pos (by omega), if_pos (by omega), if_pos (by omega), h4]
    refine ok_let (ok_grd (by simp only [List.length_cons, List.length_nil]; omega) (ok_let ?_))
    exact ih (d - 1) _ (by omega) ⟨j + 1, by rw [← et], by omega, by omega⟩
   ·rw [if_neg (show ¬ (0 ≤ fr ∧ 0 ≤ (j : Int) ∧ (j : Int) < z ∧ (j : Int) < (A.length : Int) - fr) by omega), if_neg (by omega), h4]
    refine ih (d - 1) _ (by omega) ⟨j + 1, ?_, by omega, by omega⟩
    rw [List.take_of_length_le (i := j) (by rw [List.length_drop]; omega), List.take_of_length_le (i := j + 1) (by rw [List.length_drop]; omega)]
  ·rw [List.take_of_length_le (i := j) (by rw [List.length_drop]; omega), List.take_of_length_le (i := z.toNat) (by rw [List.length_drop]; omega)]
  ·rw [show z.toNat = j by omega]
 ·have hG : cellsG A (fr, z) = [] := if_neg h0
  rw [hG]
  refine ok_loop (L := spec_CellsOf.l1 k) (I := fun d s => ∃ j : Nat, s = ((j : Int), fr, z, A, [], ()) ∧ j + d = A.length) ?_ k A.length _ (by omega) ⟨0, rfl, by omega⟩
  rintro d n s ⟨j, rfl, hd⟩ ih
  rw [spec_CellsOf.l1]
  have h4 : w64 ((j : Int) + 1) = ((j + 1 : Nat) : Int) := w64_id (by omega) (by omega)
  refine ok_if (fun hjz => ok_if (fun hjl => ?_) (fun hjl => ok_some rfl)) (fun hjz => ok_some rfl)
  rw [cellAt_s hA]
  refine ok_let ?_
  unfold cellAt
  dsimp only
  rw [if_neg (show ¬ (0 ≤ fr ∧ 0 ≤ (j : Int) ∧ (j : Int) < z ∧ (j : Int) < (A.length : Int) - fr) by omega), if_neg (by omega), h4]
  exact ih (d - 1) _ (by omega) ⟨j + 1, rfl, by omega⟩
def viewG (K : Kernel) (part : Int) : PartT × List Int × List Int :=
 if 1 ≤ part ∧ part ≤ (K.2.2.1.length : Int) ∧ part ≤ (K.1.1.length : Int) ∧ 2 * part ≤ (K.2.2.2.2.1.length : Int) then (el PT K.2.2.1 (part - 1).toNat, cellsG K.2.1 (el W2 K.1.1 (part - 1).toNat), [el I1 K.2.2.2.2.1 (2 * part - 2).toNat, el I1 K.2.2.2.2.1 (2 * part - 1).toNat]) else ((0, (0, []), 0, 0, 0), [], [])
theorem viewG_yes {K : Kernel} {part : Int} (h : 1 ≤ part ∧ part ≤ (K.2.2.1.length : Int) ∧ part ≤ (K.1.1.length : Int) ∧ 2 * part ≤ (K.2.2.2.2.1.length : Int)) : viewG K part = (el PT K.2.2.1 (part - 1).toNat, cellsG K.2.1 (el W2 K.1.1 (part - 1).toNat), [el I1 K.2.2.2.2.1 (2 * part - 2).toNat, el I1 K.2.2.2.2.1 (2 * part - 1).toNat]) := if_pos h
theorem viewG_no {K : Kernel} {part : Int} (h : ¬ (1 ≤ part ∧ part ≤ (K.2.2.1.length : Int) ∧ part ≤ (K.1.1.length : Int) ∧ 2 * part ≤ (K.2.2.2.2.1.length : Int))) : viewG K part = ((0, (0, []), 0, 0, 0), [], []) := if_neg h
theorem viewG_i {k : Nat} {K : Kernel} {part : Int} (hk : 1048576 < k) (hs : SmallK K) (hr : ∀ r, r ∈ K.1.1 → r.1 < 9223372036854775808) : impl_PartView.f k K part = some (viewG K part) := by
 have hp1 := hs.parts
 have ho := hs.outs
 unfold impl_PartView.f
 rw [in_i]
 simp only [Option.bind_some, decide_eq_true_eq]
 by_cases hp : 1 ≤ part ∧ part ≤ (K.2.2.1.length : Int)
 ·have w1 : w64 (2 * part) = 2 * part := w64_id (by omega) (by omega)
  simp only [w1]
  rw [if_neg (fun g => g hp)]
  by_cases hq : part ≤ (K.1.1.length : Int)
  ·rw [if_neg (by omega)]
   by_cases hz : 2 * part ≤ (K.2.2.2.2.1.length : Int)
   ·have hi : (part - 1).toNat < K.2.2.1.length := by omega
    have hcp := hs.stacks _ (el_mem (t := PT) hi)
    have w0 : w64 (part - 1) = part - 1 := w64_id (by omega) (by omega)
    have w2 : w64 (2 * part - 2) = 2 * part - 2 := w64_id (by omega) (by omega)
    have hpart : impl_copyPart.f k (el PT K.2.2.1 (part - 1).toNat) = some (el PT K.2.2.1 (part - 1).toNat) := by
     unfold impl_copyPart.f
     rw [cpu_i (c := (el PT K.2.2.1 (part - 1).toNat).2.1) hcp]
     rfl
    have hcl := cellsG_i (k := k) (A := K.2.1) (r := el W2 K.1.1 (part - 1).toNat) hk hs.cells (hr _ (el_mem (t := W2) (by omega)))
    simp only [w0, w2]
    rw [viewG_yes ⟨hp.1, hp.2, hq, hz⟩, if_neg (by omega), if_pos (by omega), if_pos (by omega)]
    refine Eq.trans (congrArg (fun o => Option.bind o _) hpart) ?_
    simp only [Option.bind_some]
    rw [if_pos (by omega), if_pos (by omega)]
    refine Eq.trans (congrArg (fun o => Option.bind o _) hcl) ?_
    simp only [Option.bind_some]
    rw [if_pos (by omega), if_pos (by omega), if_pos (by omega)]
    have e2 : (2 * part).toNat = (2 * part - 2).toNat + 2 := by omega
    have e3 : (2 * part - 1).toNat = (2 * part - 2).toNat + 1 := by omega
    rw [e2, two_cells (by omega), ints_i (by simp)]
    simp only [Option.bind_some]
    rw [e3]
   ·rw [viewG_no (fun h => hz h.2.2.2), if_pos (by omega)]
  ·rw [viewG_no (fun h => hq h.2.2.1), if_pos (by omega)]
 ·rw [viewG_no (fun h => hp ⟨h.1, h.2.1⟩), if_pos hp]
theorem viewG_s {k : Nat} {K : Kernel} {part : Int} (hk : 1048576 < k) (hs : SmallK K) : spec_PartView.f k K part = some (viewG K part) := by
 have hp1 := hs.parts
 have ho := hs.outs
 unfold spec_PartView.f
 rw [in_s]
 simp only [Option.bind_some, decide_eq_true_eq]
 by_cases hp : 1 ≤ part ∧ part ≤ (K.2.2.1.length : Int)
 ·have w1 : w64 (2 * part) = 2 * part := w64_id (by omega) (by omega)
  simp only [w1]
  rw [if_neg (fun g => g hp)]
  by_cases hq : part ≤ (K.1.1.length : Int)
  ·rw [if_neg (by omega)]
   by_cases hz : 2 * part ≤ (K.2.2.2.2.1.length : Int)
   ·have hi : (part - 1).toNat < K.2.2.1.length := by omega
    have hcp := hs.stacks _ (el_mem (t := PT) hi)
    have w0 : w64 (part - 1) = part - 1 := w64_id (by omega) (by omega)
    have w2 : w64 (2 * part - 2) = 2 * part - 2 := w64_id (by omega) (by omega)
    have w3 : w64 (2 * part - 1) = 2 * part - 1 := w64_id (by omega) (by omega)
    have hcl := cellsG_s (k := k) (A := K.2.1) (r := el W2 K.1.1 (part - 1).toNat) hk hs.cells
    simp only [w0, w2, w3]
    rw [viewG_yes ⟨hp.1, hp.2, hq, hz⟩, if_neg (by omega), if_pos (by omega), if_pos (by omega)]
    refine Eq.trans (congrArg (fun o => Option.bind o _) (cpu_s (k := k) (c := (el PT K.2.2.1 (part - 1).toNat).2.1) hcp)) ?_
    simp only [Option.bind_some]
    rw [if_pos (by omega), if_pos (by omega)]
    refine Eq.trans (congrArg (fun o => Option.bind o _) hcl) ?_
    simp only [Option.bind_some]
    rw [if_pos (by omega), if_pos (by omega), if_pos (by omega), if_pos (by omega)]
   ·rw [viewG_no (fun h => hz h.2.2.2), if_pos (by omega)]
  ·rw [viewG_no (fun h => hq h.2.2.1), if_pos (by omega)]
 ·rw [viewG_no (fun h => hp ⟨h.1, h.2.1⟩), if_pos hp]
end Go.Proofs.Ytacpibmmodeacaa.Pure
/- The plain law of FnExactPartView. No condition. -/
namespace Go.Proofs.Ytacpibmmodeacaa.Pure
open Go Go.Proofs.YtacpibmmodeacaaA Go.Proofs.YtacpibmmodeacaaU Go.Proofs.Ytacpibmmodeacaa.QA Go.Proofs.Ytacpibmmodeacaa.QFnExactPartView
set_option linter.unusedVariables false
set_option linter.unusedSimpArgs false
theorem FnExactPartView : ∀ (x0 : den (.pair (.pair (.sl 214 (.pair (.int .i64) (.int .i64))) (.pair (.sl 216 (.pair (.int .i64) (.int .i64))) (.pair (.sl 218 (.pair (.int .i64) (.pair (.int .i64) (.pair (.int .i64) (.pair (.int .i64) (.int .i64)))))) (.pair (.sl 220 (.pair (.int .i64) (.pair (.int .i64) (.int .i64)))) (.sl 9 .str))))) (.pair (.sl 3 (.int .i64)) (.pair (.sl 200 (.pair (.int .i64) (.pair (.pair (.int .i64) (.sl 3 (.int .i64))) (.pair (.int .i64) (.pair (.int .i64) (.int .i64)))))) (.pair (.sl 204 (.sl 243 (.pair (.int .i64) (.int .i64)))) (.pair (.sl 3 (.int .i64)) (.pair (.int .i64) (.pair .bool (.sl 208 (.pair (.int .i64) (.pair (.int .i64) (.pair (.int .i64) (.pair (.int .i64) (.int .i64)))))))))))))) (x1 : den (.int .i64)), Wf (.pair (.pair (.sl 214 (.pair (.int .i64) (.int .i64))) (.pair (.sl 216 (.pair (.int .i64) (.int .i64))) (.pair (.sl 218 (.pair (.int .i64) (.pair (.int .i64) (.pair (.int .i64) (.pair (.int .i64) (.int .i64)))))) (.pair (.sl 220 (.pair (.int .i64) (.pair (.int .i64) (.int .i64)))) (.sl 9 .str))))) (.pair (.sl 3 (.int .i64)) (.pair (.sl 200 (.pair (.int .i64) (.pair (.pair (.int .i64) (.sl 3 (.int .i64))) (.pair (.int .i64) (.pair (.int .i64) (.int .i64)))))) (.pair (.sl 204 (.sl 243 (.pair (.int .i64) (.int .i64)))) (.pair (.sl 3 (.int .i64)) (.pair (.int .i64) (.pair .bool (.sl 208 (.pair (.int .i64) (.pair (.int .i64) (.pair (.int .i64) (.pair (.int .i64) (.int .i64))))))))))))) x0 → Wf (.int .i64) x1 → ∃ k, laws_FnExactPartView.f k x0 x1 = some true := by
 intro K part G _
 refine ⟨1048577, ?_⟩
 have hk : 1048576 < 1048577 := by omega
 generalize 1048577 = k at hk
 refine ok_eq ?_
 unfold laws_FnExactPartView.f
 refine ok_bind (szKernel_f (K := K) hk G (by omega) (by omega)) (fun t1 h1 => ok_if (fun _ => ok_some rfl) (fun n1 => ?_))
 obtain ⟨l1, hs⟩ := h1 (by omega)
 have hsm : SmallK K := hs.toSmallK
 have hr : ∀ r, r ∈ K.1.1 → r.1 < 9223372036854775808 := fun r hr => (wf_i64 (G.1.1.1 r hr).1).2
 have hto : laws_toKernel.f k (K.1, K.2) = some K := toKernel_f hs hk
 have hS : spec_PartView.f k (K.1, K.2) part = some (viewG K part) := viewG_s hk hsm
 have hI : impl_PartView.f k (K.1, K.2) part = some (viewG K part) := viewG_i hk hsm hr
 have heK : laws_eqKernel.f k (K.1, K.2) (K.1, K.2) = some true := eqKernel_f hsm hk
 obtain ⟨m', S', A', Ps', Ls', O', G', e1, e2, e3, e4⟩ := markKernel_m (k := k) hsm hk 1 (by omega) (by omega)
 have hv : (viewG K part).1.2.1.2.length ≤ 1048576 ∧ (viewG K part).2.1.length ≤ 1048576 ∧ (viewG K part).2.2.length ≤ 1048576 := by
  unfold viewG
  split
  ·rename_i h
   have := hsm.cells
   refine ⟨hsm.stacks _ (el_mem (t := PT) (by omega)), ?_, by simp⟩
   dsimp only
   unfold cellsG
   split
   ·rw [List.length_take, List.length_drop]
    omega
   ·simp
  ·simp
 generalize viewG K part = v at hS hI hv
 obtain ⟨hv1, hv2, hv3⟩ := hv
 have heP : laws_eqPart.f k (v.1.1, (v.1.2.1, v.1.2.2)) (v.1.1, (v.1.2.1, v.1.2.2)) = some true := eqPart_f (p := v.1) hv1 hk
 have he2 := eqIntS_f (k := k) hv2 hk
 have he3 := eqIntS_f (k := k) hv3 hk
 obtain ⟨m1, x1, a1, b1, c1, d1⟩ := marks_int (k := k) hv1 hk 1 (by omega) (by omega)
 obtain ⟨m2, x2, a2, b2, c2, d2⟩ := marks_int (k := k) hv2 hk m1 (by omega) (by omega)
 obtain ⟨m3, x3, a3, b3, c3, d3⟩ := marks_int (k := k) hv3 hk m2 (by omega) (by omega)
 have hmp : laws_markPart.f k (v.1.1, (v.1.2.1, v.1.2.2)) 1 = some (m1, x1) := by
  unfold laws_markPart.f laws_markCpu.f
  rw [a1]
  rfl
 have hhp : laws_heldPart.f k (v.1.1, ((v.1.2.1.1, x1), v.1.2.2)) 1 = some m1 := by
  unfold laws_heldPart.f laws_heldCpu.f
  rw [d1]
  simp only [Option.bind_some]
  rw [if_neg (by omega)]
  simp only [Option.bind_some]
  rw [if_neg (by omega)]
 refine ok_bind' hto (ok_bind' hS (ok_bind' hto (ok_bind' hI (ok_bind' heP (ok_els (fun h => h rfl) (ok_bind' he2 (ok_els (fun h => h rfl) (ok_bind' he3 (ok_els (fun h => h rfl) ?_)))))))))
 refine ok_bind' hto (ok_bind' heK (ok_els (fun h => h rfl) (ok_bind' e1 (ok_els (by dsimp only; omega) ?_))))
 refine ok_bind' heP (ok_els (fun h => h rfl) (ok_bind' he2 (ok_els (fun h => h rfl) (ok_bind' he3 (ok_els (fun h => h rfl) ?_)))))
 refine ok_bind' hmp (ok_bind' a2 (ok_bind' a3 (ok_bind' hhp (ok_els (by omega) (ok_bind' d2 (ok_els (by omega) (ok_bind' d3 (ok_els (by omega) (ok_els (fun h => h rfl) ?_)))))))))
 refine ok_bind' hto (ok_bind' hI (ok_bind' heP (ok_els (fun h => h rfl) (ok_bind' he2 (ok_els (fun h => h rfl) (ok_bind' he3 (ok_els (fun h => h rfl) ?_)))))))
 exact ok_bind' hhp (ok_els (by omega) (ok_bind' d2 (ok_els (by omega) (ok_bind' d3 (ok_els (by omega) (ok_els (fun h => h rfl) (ok_some rfl)))))))
end Go.Proofs.Ytacpibmmodeacaa.Pure
