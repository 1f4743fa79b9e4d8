/- An abstract machine for Go functions: one fixed order, parts of memory with typed contents. Definitions; no condition. -/
import Derived.Calls
namespace Go.Proofs.YthncjcfnpfajaaaA
open Go

/-- The kinds of what is held: whole numbers, truth, strings, rows (of an element type), things side by side. -/
inductive Ty where
 | int (k : IntKind)
 | bool
 | str
 | sl (e : Nat) (t : Ty)
 | pair (a b : Ty)
 deriving DecidableEq
@[reducible] def den : Ty → Type
 | .int _ => Int
 | .bool => Bool
 | .str => ByteArray
 | .sl _ t => List (den t)
 | .pair a b => den a × den b
def zero : (t : Ty) → den t
 | .int _ => (0 : Int)
 | .bool => false
 | .str => (⟨#[]⟩ : ByteArray)
 | .sl _ _ => []
 | .pair a b => (zero a, zero b)
def sz : Ty → Nat
 | .pair a b => sz a + sz b
 | _ => 1
def flat : Ty → Bool
 | .sl _ _ => false
 | .pair a b => flat a && flat b
 | _ => true
def el (t : Ty) (xs : List (den t)) (i : Nat) : den t := xs.getD i (zero t)

/-- One cell's value. 'own r': the row that is part r; 'cut': a piece of it. -/
inductive Leaf where
 | undef
 | int (k : IntKind) (z : Int)
 | bool (b : Bool)
 | lit (b : Bool)
 | prop (p : Prop) (d : Decidable p)
 | str (s : ByteArray)
 | own (r : Nat)
 | cut (r : Nat) (lo hi : Option Nat) (n : Nat) (size : Nat)
 | nil
 | nilp
 | ptr (r j : Nat)
 | pel (r i j size : Nat)
def Leaf.ref : Leaf → Option Nat
 | .own r => some r
 | .cut r _ _ _ _ => some r
 | .ptr r _ => some r
 | .pel r _ _ _ => some r
 | _ => none
inductive CV where
 | lf (l : Leaf)
 | ag (cs : List Leaf)
inductive SV where
 | c (v : CV)
 | tp (vs : List CV)
inductive Part where
 | blk (T : Nat) (cs : List Leaf)
 | row (ver e : Nat) (t : Ty) (xs : List (den t))
 | view (o : Bool) (e : Nat) (t : Ty) (xs : List (den t))
 | sub (r ver i : Nat) (path : List Bool)
abbrev Sl := List (Nat × SV)
abbrev Me := List (Nat × Option Part)
def get {α : Type} : List (Nat × α) → Nat → Option α
 | [], _ => none
 | (k, v) :: r, q => bif Nat.beq k q then some v else get r q
def memb : List Nat → Nat → Bool
 | [], _ => false
 | k :: r, q => bif Nat.beq k q then true else memb r q
def getm (m : Me) (q : Nat) : Option Part := match get m q with | some (some p) => some p | _ => none

/-- What one operation does: reads parts, asks tests, yields. -/
inductive Prg (α : Type) : Type 1 where
 | ret (a : α)
 | fail
 | getM (id : Nat) (k : Part → Prg α)
 | ite (p : Prop) (d : Decidable p) (k : Prg α)
 | br (p : Prop) (d : Decidable p) (k1 k2 : Prg α)
 | bindO {β : Type} (x : Option β) (k : β → Prg α)
def Prg.run {α R : Type} (K : α → List Nat → Option R) (m : Me) : Prg α → List Nat → Option R
 | .ret a, rd => K a rd
 | .fail, _ => none
 | .getM id k, rd => match getm m id with
  | some p => Prg.run K m (k p) (id :: rd)
  | none => none
 | .ite p d k, rd => @_root_.ite _ p d (Prg.run K m k rd) none
 | .br p d k1 k2, rd => @_root_.ite _ p d (Prg.run K m k1 rd) (Prg.run K m k2 rd)
 | .bindO x k, rd => x.bind fun a => Prg.run K m (k a) rd
abbrev OP := Prg (SV × Me)
def lf (l : Leaf) : SV := .c (.lf l)
def Prg.out (v : SV) (us : Me) : OP := .ret (v, us)
def Prg.val (l : Leaf) : OP := .ret (.c (.lf l), [])

section
variable {α : Type}
def castL (t t' : Ty) (xs : List (den t)) (k : List (den t') → Prg α) : Prg α :=
 match decEq t t' with
 | .isTrue h => k (h ▸ xs)
 | .isFalse _ => .fail
/-- The row at a path inside an element. -/
def sel : (t : Ty) → List Bool → den t → ((e : Nat) → (t' : Ty) → List (den t') → Prg α) → Prg α
 | .sl e t, [], x, k => k e t x
 | .pair a _, false :: p, x, k => sel a p x.1 k
 | .pair _ b, true :: p, x, k => sel b p x.2 k
 | _, _, _, _ => .fail
/-- .. written anew. -/
def selSet : (t : Ty) → List Bool → den t → (t' : Ty) → List (den t') → (den t → Prg α) → Prg α
 | .sl _ t, [], _, t', ys, k => castL t' t ys k
 | .pair a _, false :: p, x, t', ys, k => selSet a p x.1 t' ys fun y => k (y, x.2)
 | .pair _ b, true :: p, x, t', ys, k => selSet b p x.2 t' ys fun y => k (x.1, y)
 | _, _, _, _, _, _ => .fail
/-- A row's contents. -/
def getRow (id : Nat) (k : (e : Nat) → (t : Ty) → List (den t) → Prg α) : Prg α :=
 .getM id fun
  | .row _ e t xs => k e t xs
  | .view _ e t xs => k e t xs
  | .sub r ver i path => .getM r fun
   | .row v _ t xs => bif Nat.beq v ver then sel t path (el t xs i) k else .fail
   | .view _ _ t xs => sel t path (el t xs i) k
   | _ => .fail
  | _ => .fail
def cutOf {α : Type} (xs : List α) : Option Nat → Option Nat → List α
 | none, none => xs
 | some a, none => xs.drop a
 | none, some b => xs.take b
 | some a, some b => (xs.take b).drop a
/-- A slice that is read. -/
def rdRow (l : Leaf) (e : Nat) (t : Ty) (k : List (den t) → Prg α) : Prg α :=
 match l with
 | .own r => getRow r fun e' t' xs => bif Nat.beq e' e then castL t' t xs k else .fail
 | .cut r lo hi _ _ => getRow r fun e' t' xs => bif Nat.beq e' e then castL t' t xs fun ys => k (cutOf ys lo hi) else .fail
 | .nil => k []
 | _ => .fail
/-- A slice that is given away: a row of one's own, not given away before. -/
def tkRow (l : Leaf) (e : Nat) (t : Ty) (us : List Nat) (k : List (den t) → List Nat → Prg α) : Prg α :=
 match l with
 | .own r => bif memb us r then .fail else .getM r fun
  | .row _ e' t' xs => bif Nat.beq e' e then castL t' t xs fun ys => k ys (r :: us) else .fail
  | _ => .fail
 | .cut r lo hi _ _ => bif memb us r then .fail else .getM r fun
  | .row _ e' t' xs => bif Nat.beq e' e then castL t' t xs fun ys => k (cutOf ys lo hi) (r :: us) else .fail
  | _ => .fail
 | .nil => k [] us
 | _ => .fail
/-- Leaves as a typed thing (read). -/
def gat : (t : Ty) → List Leaf → (den t → List Leaf → Prg α) → Prg α
 | .int k, ls, K => match ls with
  | .int k' z :: r => match decEq k' k with | .isTrue _ => K z r | .isFalse _ => .fail
  | _ => .fail
 | .bool, ls, K => match ls with
  | .bool b :: r => K b r
  | .lit b :: r => K b r
  | .prop p d :: r => K (@decide p d) r
  | _ => .fail
 | .str, ls, K => match ls with
  | .str s :: r => K s r
  | _ => .fail
 | .sl e t, ls, K => match ls with
  | l :: r => rdRow l e t fun xs => K xs r
  | [] => .fail
 | .pair a b, ls, K => gat a ls fun x r => gat b r fun y r => K (x, y) r
/-- Leaves as a typed thing (given away). -/
def tak : (t : Ty) → List Leaf → List Nat → (den t → List Leaf → List Nat → Prg α) → Prg α
 | .int k, ls, us, K => match ls with
  | .int k' z :: r => match decEq k' k with | .isTrue _ => K z r us | .isFalse _ => .fail
  | _ => .fail
 | .bool, ls, us, K => match ls with
  | .bool b :: r => K b r us
  | .lit b :: r => K b r us
  | .prop p d :: r => K (@decide p d) r us
  | _ => .fail
 | .str, ls, us, K => match ls with
  | .str s :: r => K s r us
  | _ => .fail
 | .sl e t, ls, us, K => match ls with
  | l :: r => tkRow l e t us fun xs us => K xs r us
  | [] => .fail
 | .pair a b, ls, us, K => tak a ls us fun x r us => tak b r us fun y r us => K (x, y) r us
/-- Leaves laid over a typed thing from cell j on. -/
def put (r0 v0 i0 : Nat) : (t : Ty) → den t → Nat → List Bool → List Leaf → List Nat → (den t → List Leaf → List Nat → Prg α) → Prg α
 | .pair a b, x, j, pa, ls, us, K =>
  bif Nat.blt j (sz a) then put r0 v0 i0 a x.1 j (false :: pa) ls us fun y ls us => match ls with
   | [] => K (y, x.2) [] us
   | l :: ls => put r0 v0 i0 b x.2 0 (true :: pa) (l :: ls) us fun z ls us => K (y, z) ls us
  else put r0 v0 i0 b x.2 (j - sz a) (true :: pa) ls us fun z ls us => K (x.1, z) ls us
 | .sl e t, x, _, pa, ls, us, K => match ls with
  | .own r :: rest => .getM r fun
   | .sub r' v' i' path => bif Nat.beq r' r0 && Nat.beq v' v0 && decide (path = pa.reverse) then .ite (i' = i0) inferInstance (K x rest us) else .fail
   | _ => tkRow (.own r) e t us fun xs us => K xs rest us
  | l :: rest => tkRow l e t us fun xs us => K xs rest us
  | [] => .fail
 | .int k, _, _, _, ls, us, K => tak (.int k) ls us fun y r us => K y r us
 | .bool, _, _, _, ls, us, K => tak .bool ls us fun y r us => K y r us
 | .str, _, _, _, ls, us, K => tak .str ls us fun y r us => K y r us
/-- A typed thing's cells: plain ones, and rows. -/
inductive LD where
 | lf (l : Leaf)
 | sl (path : List Bool) (e : Nat) (t : Ty) (xs : List (den t))
def descs : (t : Ty) → den t → List Bool → List LD
 | .int k, x, _ => [.lf (.int k x)]
 | .bool, x, _ => [.lf (.bool x)]
 | .str, x, _ => [.lf (.str x)]
 | .sl e t, x, pa => [.sl pa.reverse e t x]
 | .pair a b, x, pa => descs a x.1 (false :: pa) ++ descs b x.2 (true :: pa)
/-- The cells as leaves; each row becomes a part, from number b on. -/
def leaves {R : Type _} (mk : List Bool → (e : Nat) → (t : Ty) → List (den t) → Part) : List LD → Nat → (List Leaf → Me → Nat → R) → R
 | [], b, K => K [] [] b
 | .lf l :: r, b, K => leaves mk r b fun ls us b => K (l :: ls) us b
 | .sl pa e t xs :: r, b, K => leaves mk r (b + 1) fun ls us b' => K (.own b :: ls) ((b, some (mk pa e t xs)) :: us) b'
def mkRow (_ : List Bool) (e : Nat) (t : Ty) (xs : List (den t)) : Part := .row 0 e t xs
def mkSub (r ver i : Nat) (pa : List Bool) (_ : Nat) (t : Ty) (_ : List (den t)) : Part := .sub r ver i pa
def gone : List Nat → Me
 | [] => []
 | r :: us => (r, none) :: gone us

end
/-- Types. -/
inductive TK where
 | int (k : IntKind)
 | bool
 | str
 | slice (e : Nat)
 | struct (fs : List (Nat × Nat))     -- each field's place and type
 | ptr (e : Nat)
 | tuple
structure TD where
 kind : TK
 size : Nat
 bytes : Nat
 ty : Ty
 st : Bool
 eqc : Bool
/-- A zero's cells. -/
def zl : Ty → List Leaf
 | .int k => [.int k 0]
 | .bool => [.lit false]
 | .str => [.str ⟨#[]⟩]
 | .sl _ _ => [.nil]
 | .pair a b => zl a ++ zl b
def CV.of (st : Bool) (cs : List Leaf) : CV := bif st then .ag cs else match cs with | [l] => .lf l | _ => .ag cs
def CV.isSt : CV → Bool → Bool
 | .lf _, st => !st
 | .ag _, st => st
def CV.leaves : CV → List Leaf
 | .lf l => [l]
 | .ag cs => cs

/-- A function's sign. Of each row that comes in: 0: it is read; 1: it is held and stays where it is; 2: held, another may take its place. Of each row that goes out: one's own, or that of a parameter. -/
inductive PM where
 | val (st : Bool) (t : Ty) (ms : List Nat)
 | ptr (T : Nat) (t : Ty) (ms : List Nat)
inductive RM where
 | val (st : Bool) (t : Ty) (al : List (Option Nat))
 | ptr (T : Nat) (t : Ty) (al : List (Option Nat))
structure Sig where
 ps : List PM
 rs : List RM
/-- The rows in a type. -/
def rows : Ty → List (Nat × Ty)
 | .sl e t => [(e, t)]
 | .pair a b => rows a ++ rows b
 | _ => []
def heldRows : List (Nat × Ty) → List Nat → List (Nat × Ty)
 | x :: r, m :: ms => match m with
  | 0 => heldRows r ms
  | _ => x :: heldRows r ms
 | _, _ => []
@[reducible] def PM.den : PM → Type
 | .val _ t _ => _root_.Go.Proofs.YthncjcfnpfajaaaA.den t
 | .ptr _ t _ => _root_.Go.Proofs.YthncjcfnpfajaaaA.den t
@[reducible] def Args : List PM → Type
 | [] => Unit
 | p :: r => p.den × Args r
@[reducible] def Tup : List Type → Type
 | [] => Unit
 | [a] => a
 | a :: b :: r => a × Tup (b :: r)
@[reducible] def rowTs : List (Nat × Ty) → List Type → List Type
 | [], r => r
 | (_, t) :: q, r => List (den t) :: rowTs q r
@[reducible] def outTs : List PM → List Type
 | [] => []
 | .val _ t ms :: r => rowTs (heldRows (rows t) ms) (outTs r)
 | .ptr _ t _ :: r => den t :: outTs r
@[reducible] def resTs : List RM → List Type → List Type
 | [], o => o
 | .val _ t _ :: r, o => den t :: resTs r o
 | .ptr _ t _ :: r, o => den t :: resTs r o
@[reducible] def Res (s : Sig) : Type := Tup (resTs s.rs (outTs s.ps))
structure Ent where
 id : Nat
 sig : Sig
 F : Nat → Args sig.ps → Option (Res sig)
structure Ctx where
 Δ : List (Nat × TD)
 Γ : List Ent
 fuel : Nat
 N : Nat

/-! ### operands -/
def constLs : List Value → Option (List Leaf)
 | [] => some []
 | .int k z :: r => (constLs r).map (.int k z :: ·)
 | .bool b :: r => (constLs r).map (.lit b :: ·)
 | .string s :: r => (constLs r).map (.str s :: ·)
 | .slice none 0 0 :: r => (constLs r).map (.nil :: ·)
 | _ => none
def constV : Value → Option CV
 | .int k z => some (.lf (.int k z))
 | .bool b => some (.lf (.lit b))
 | .string s => some (.lf (.str s))
 | .slice none 0 0 => some (.lf .nil)
 | .pointer none => some (.lf .nilp)
 | .agg cs => (constLs cs.toList).map .ag
 | _ => none
def ev (s : Sl) : Operand → Option SV
 | .tmp t => get s t
 | .const v => (constV v).map .c
 | _ => none
def lfOf (x : Option SV) (k : Leaf → OP) : OP := match x with
 | some (.c (.lf l)) => k l
 | _ => .fail
def cvOf (x : Option SV) (k : CV → OP) : OP := match x with
 | some (.c v) => k v
 | _ => .fail
def intOf (x : Option SV) (k : IntKind → Int → OP) : OP := match x with
 | some (.c (.lf (.int i z))) => k i z
 | _ => .fail
def brOn (x : Option SV) (k1 k2 : OP) : OP := match x with
 | some (.c (.lf (.bool b))) => .br (b = true) inferInstance k1 k2
 | some (.c (.lf (.lit b))) => bif b then k1 else k2
 | some (.c (.lf (.prop p d))) => .br p d k1 k2
 | _ => .fail

/-! ### operations -/
def bits (op : BinOp) (k : IntKind) (x y : Int) : Int :=
 let a := BitVec.ofInt k.bits x
 let b := BitVec.ofInt k.bits y
 match op with
 | .and => k.wrap (a &&& b).toNat
 | .or => k.wrap (a ||| b).toNat
 | .xor => k.wrap (a ^^^ b).toNat
 | _ => k.wrap (a &&& ~~~b).toNat
def pr (p : Prop) [d : Decidable p] : OP := .val (.prop p d)
/-- Is an operand a number's literal that is not 0? -/
def litPos : Operand → Bool
 | .const (.int _ (.ofNat (_ + 1))) => true
 | _ => false
def grd (lit : Bool) (p : Prop) [d : Decidable p] (k : OP) : OP := bif lit then k else .ite p d k
def shAmt (k : IntKind) (y : Operand) (b : Int) : Nat := match y with
 | .const (.int _ (.ofNat n)) => min n k.bits
 | _ => min b.toNat k.bits
def isNat : Operand → Bool
 | .const (.int _ (.ofNat _)) => true
 | _ => false
def binInt (op : BinOp) (k k' : IntKind) (y' : Operand) (x y : Int) : OP :=
 match op with
 | .shl => grd (isNat y') (0 ≤ y) (.val (.int k (k.wrap (x * ((2 ^ shAmt k y' y : Nat) : Int)))))
 | .shr => grd (isNat y') (0 ≤ y) (.val (.int k (x / ((2 ^ shAmt k y' y : Nat) : Int))))
 | _ => match decEq k' k with
  | .isFalse _ => .fail
  | .isTrue _ => match op with
   | .add => .val (.int k (k.wrap (x + y)))
   | .sub => .val (.int k (k.wrap (x - y)))
   | .mul => .val (.int k (k.wrap (x * y)))
   | .quo => grd (litPos y') (¬ y = 0) (.val (.int k (k.wrap (x.tdiv y))))
   | .rem => grd (litPos y') (¬ y = 0) (.val (.int k (x.tmod y)))
   | .and | .or | .xor | .andNot => .val (.int k (bits op k x y))
   | .eql => pr (x = y)
   | .neq => pr (¬ x = y)
   | .lss => pr (x < y)
   | .leq => pr (x ≤ y)
   | .gtr => pr (y < x)
   | .geq => pr (y ≤ x)
   | _ => .fail
def binStr (op : BinOp) (x y : ByteArray) : OP :=
 match op with
 | .add => .ite (x.size + y.size ≤ 9223372036854775807) inferInstance (.val (.str (x ++ y)))
 | .eql => pr (x = y)
 | .neq => pr (¬ x = y)
 | _ => .fail
def flatTs : Ty → List Ty
 | .pair a b => flatTs a ++ flatTs b
 | t => [t]
/-- Cells are alike, one by one. -/
def eqLs : List Ty → List Leaf → List Leaf → (Bool → (p : Prop) → Decidable p → OP) → OP
 | [], [], [], K => K true True inferInstance
 | .int _ :: ts, .int k x :: r, .int k' y :: r', K => match decEq k k' with
  | .isTrue _ => eqLs ts r r' fun b p d => bif b then K false (x = y) inferInstance else K false (x = y ∧ p) (@instDecidableAnd _ _ inferInstance d)
  | .isFalse _ => .fail
 | .bool :: ts, .bool x :: r, .bool y :: r', K => eqLs ts r r' fun b p d => bif b then K false (x = y) inferInstance else K false (x = y ∧ p) (@instDecidableAnd _ _ inferInstance d)
 | _, _, _, _ => .fail
def boolOf (x : Leaf) (k : Bool → OP) : OP := match x with
 | .bool b => k b
 | .lit b => k b
 | .prop p d => k (@decide p d)
 | _ => .fail
def binA (C : Ctx) (op : BinOp) (T : Nat) (y' : Operand) (x y : Option SV) : OP :=
 match x, y with
 | some (.c (.lf (.int k a))), some (.c (.lf (.int k' b))) => binInt op k k' y' a b
 | some (.c (.lf (.str a))), some (.c (.lf (.str b))) => binStr op a b
 | some (.c (.lf x)), some (.c (.lf y)) => match get C.Δ T with
  | some td => match td.kind with
   | .bool => boolOf x fun a => boolOf y fun b => match op with
    | .eql => pr (a = b)
    | .neq => pr (¬ a = b)
    | _ => .fail
   | _ => .fail
  | none => .fail
 | some (.c (.ag as)), some (.c (.ag bs)) => match get C.Δ T with
  | some td => bif td.eqc then eqLs (flatTs td.ty) as bs fun _ p d => match op with
   | .eql => .val (.prop p d)
   | .neq => .val (.prop (¬ p) (@instDecidableNot p d))
   | _ => .fail
   else .fail
  | none => .fail
 | _, _ => .fail
def unA (op : UnOp) (x : Option SV) : OP := match op, x with
 | .not, some (.c (.lf (.bool b))) => pr (¬ b = true)
 | .not, some (.c (.lf (.lit b))) => .val (.lit (!b))
 | .not, some (.c (.lf (.prop p d))) => .val (.prop (¬ p) (@instDecidableNot p d))
 | .neg, some (.c (.lf (.int k z))) => .val (.int k (k.wrap (0 - z)))
 | _, _ => .fail
def chrs (xs : List Int) : ByteArray := ⟨(xs.map fun z => UInt8.ofNat z.toNat).toArray⟩
def convA (C : Ctx) (f t : Nat) (x : Option SV) : OP :=
 match get C.Δ f, get C.Δ t with
 | some f, some t => match f.kind, t.kind, x with
  | .int _, .int k, some (.c (.lf (.int _ z))) => .val (.int k (k.wrap z))
  | .str, .str, some (.c (.lf (.str s))) => .val (.str s)
  | .slice e, .str, some (.c (.lf l)) => match get C.Δ e with
   | some te => match te.kind with
    | .int .u8 => rdRow l e (.int .u8) fun xs => .val (.str (chrs xs))
    | _ => .fail
   | none => .fail
  | _, _, _ => .fail
 | _, _ => .fail
def fieldsOf (C : Ctx) (T : Nat) : Option (List (Nat × Nat)) := match get C.Δ T with
 | some td => match td.kind with | .struct fs => some fs | _ => none
 | none => none
def step : Nat := 16
def nth {α : Type} : List α → Nat → Option α
 | [], _ => none
 | x :: _, 0 => some x
 | _ :: r, i + 1 => nth r i
def fieldA (C : Ctx) (T f : Nat) (x : Option SV) : OP := match fieldsOf C T with
 | some fs => match nth fs f with
  | some (off, ft) => match get C.Δ ft with
   | some td => cvOf x fun v => match v with
    | .ag cs => bif Nat.ble (off + td.size) cs.length then .out (.c (CV.of td.st ((cs.drop off).take td.size))) [] else .fail
    | _ => .fail
   | none => .fail
  | none => .fail
 | none => .fail
def fieldAddrA (C : Ctx) (T f : Nat) (x : Option SV) : OP := match fieldsOf C T with
 | some fs => match nth fs f with
  | some (off, ft) => match get C.Δ ft with
   | some _ => lfOf x fun
    | .ptr r j => .val (.ptr r (j + off))
    | .pel r i j s => .val (.pel r i (j + off) s)
    | _ => .fail
   | none => .fail
  | none => .fail
 | none => .fail
/-- Cells laid over cells. -/
def over (cs : List Leaf) (j : Nat) (ls : List Leaf) : List Leaf := cs.take j ++ ls ++ cs.drop (j + ls.length)
def buildL (C : Ctx) (s : Sl) (fs : List (Nat × Nat)) : List (Nat × Operand) → List Leaf → (List Leaf → OP) → OP
 | [], cs, K => K cs
 | (f, x) :: r, cs, K => match nth fs f with
  | some (off, ft) => match get C.Δ ft with
   | some td => cvOf (ev s x) fun v => bif Nat.beq v.leaves.length td.size && Nat.ble (off + td.size) cs.length then buildL C s fs r (over cs off v.leaves) K else .fail
   | none => .fail
  | none => .fail
def rowsL (s : Sl) (st : Bool) (t : Ty) : List (Nat × Operand) → Nat → List Nat → (List (den t) → List Nat → OP) → OP
 | [], _, us, K => K [] us
 | (i, x) :: r, q, us, K => bif Nat.beq i q then cvOf (ev s x) fun v => tak t v.leaves us fun y rest us => match rest with
  | [] => rowsL s st t r (q + 1) us fun ys us => K (y :: ys) us
  | _ => .fail
  else .fail
def lenA (C : Ctx) (T : Nat) (x : Option SV) : OP := match get C.Δ T with
 | some td => match td.kind with
  | .slice _ => match x with
   | some (.c (.lf (.own r))) => getRow r fun _ _ xs => .val (.int .i64 (xs.length : Int))
   | some (.c (.lf (.cut _ _ _ n _))) => .val (.int .i64 (n : Int))
   | some (.c (.lf .nil)) => .val (.int .i64 0)
   | _ => .fail
  | .str => match x with
   | some (.c (.lf (.str s))) => .val (.int .i64 (s.size : Int))
   | _ => .fail
  | _ => .fail
 | none => .fail
def plusLo (lo : Option Nat) (z : Nat) : Nat := match lo with
 | none => z
 | some m => m + z
def indexAddrA (C : Ctx) (T : Nat) (x i : Option SV) : OP := match get C.Δ T with
 | some td => match td.kind with
  | .slice e => match get C.Δ e with
   | some te => intOf i fun _ z => lfOf x fun
    | .own r => getRow r fun _ t xs => bif Nat.beq te.size (sz t) then .ite (0 ≤ z) inferInstance (.ite (z < (xs.length : Int)) inferInstance (.val (.pel r z.toNat 0 te.size))) else .fail
    | .cut r lo _ n _ => getRow r fun _ t _ => bif Nat.beq te.size (sz t) then .ite (0 ≤ z) inferInstance (.ite (z < (n : Int)) inferInstance (.val (.pel r (plusLo lo z.toNat) 0 te.size))) else .fail
    | _ => .fail
   | none => .fail
  | _ => .fail
 | none => .fail
def bt (s : ByteArray) (i : Int) : Int := ((s.toList.getD i.toNat 0).toNat : Int)
def indexA (C : Ctx) (T : Nat) (x i : Option SV) : OP := match get C.Δ T with
 | some td => match td.kind with
  | .str => match x with
   | some (.c (.lf (.str s))) => intOf i fun _ z => .ite (0 ≤ z) inferInstance (.ite (z < (s.size : Int)) inferInstance (.val (.int .u8 (bt s z))))
   | _ => .fail
  | _ => .fail
 | none => .fail
def bnd (s : Sl) (x : Option Operand) (k : Option (Bool × Int) → OP) : OP := match x with
 | none => k none
 | some o => intOf (ev s o) fun _ z => k (some (isNat o, z))
def sliceA (C : Ctx) (s : Sl) (T : Nat) (x : Option SV) (lo hi mx : Option Operand) : OP := match mx with
 | some _ => .fail
 | none => match x with
  | some (.c (.lf (.str t))) => match get C.Δ T with
   | none => .fail
   | some td => match td.kind with
   | .str => (bnd s lo fun lo => bnd s hi fun hi => match lo, hi with
   | none, none => .val (.str t)
   | some (_, a), none => .ite (0 ≤ a) inferInstance (.ite (a ≤ (t.size : Int)) inferInstance (.val (.str (t.extract a.toNat t.size))))
   | none, some (_, b) => .ite (0 ≤ b) inferInstance (.ite (b ≤ (t.size : Int)) inferInstance (.val (.str (t.extract 0 b.toNat))))
   | some (_, a), some (_, b) => .ite (0 ≤ a) inferInstance (.ite (a ≤ b) inferInstance (.ite (b ≤ (t.size : Int)) inferInstance (.val (.str (t.extract a.toNat b.toNat))))))
   | _ => .fail
  | some (.c (.lf (.own r))) => match get C.Δ T with
   | some td => match td.kind with
    | .slice e => match get C.Δ e with
     | some te => bnd s lo fun lo => bnd s hi fun hi => getRow r fun _ t xs => bif !(Nat.beq te.size (sz t)) then .fail else match lo, hi with
      | none, none => .val (.own r)
      | some (_, a), none => .ite (0 ≤ a) inferInstance (.ite (a ≤ (xs.length : Int)) inferInstance (.val (.cut r (some a.toNat) none (xs.length - a.toNat) te.size)))
      | none, some (_, b) => .ite (0 ≤ b) inferInstance (.ite (b ≤ (xs.length : Int)) inferInstance (.val (.cut r none (some b.toNat) b.toNat te.size)))
      | some (_, a), some (_, b) => .ite (0 ≤ a) inferInstance (.ite (a ≤ b) inferInstance (.ite (b ≤ (xs.length : Int)) inferInstance (.val (.cut r (some a.toNat) (some b.toNat) (b.toNat - a.toNat) te.size))))
     | none => .fail
    | _ => .fail
   | none => .fail
  | _ => .fail
def loadA (C : Ctx) (b T : Nat) (x : Option SV) : OP := match get C.Δ T with
 | some td => lfOf x fun
  | .ptr r j => .getM r fun
   | .blk _ cs => bif Nat.ble (j + td.size) cs.length then .out (.c (CV.of td.st ((cs.drop j).take td.size))) [] else .fail
   | _ => .fail
  | .pel r i j _ => .getM r fun
   | .row ver _ t xs => bif Nat.ble (j + td.size) (sz t) then leaves (mkSub r ver i) (((descs t (el t xs i) []).drop j).take td.size) b fun ls us b' => bif Nat.ble b' (b + step) then .out (.c (CV.of td.st ls)) us else .fail else .fail
   | .view _ _ t xs => bif Nat.ble (j + td.size) (sz t) then leaves (mkSub r 0 i) (((descs t (el t xs i) []).drop j).take td.size) b fun ls us b' => bif Nat.ble b' (b + step) then .out (.c (CV.of td.st ls)) us else .fail else .fail
   | .sub r0 ver i0 path => .getM r0 fun
    | .row v _ t xs => bif Nat.beq v ver then sel t path (el t xs i0) fun _ t' ys => bif flat t' && Nat.ble (j + td.size) (sz t') then leaves mkRow (((descs t' (el t' ys i) []).drop j).take td.size) b fun ls us _ => .out (.c (CV.of td.st ls)) us else .fail else .fail
    | .view _ _ t xs => sel t path (el t xs i0) fun _ t' ys => bif flat t' && Nat.ble (j + td.size) (sz t') then leaves mkRow (((descs t' (el t' ys i) []).drop j).take td.size) b fun ls us _ => .out (.c (CV.of td.st ls)) us else .fail
    | _ => .fail
   | _ => .fail
  | _ => .fail
 | none => .fail
def undefS : SV := lf .undef
def noU : List Leaf → Bool
 | [] => true
 | .undef :: _ => false
 | _ :: r => noU r
def storeA (C : Ctx) (T : Nat) (x : Option SV) (y : Option SV) : OP := match get C.Δ T with
 | some td => lfOf x fun
  | .ptr r j => cvOf y fun v => .getM r fun
   | .blk T cs => bif Nat.beq v.leaves.length td.size && Nat.ble (j + td.size) cs.length && noU v.leaves then .out undefS [(r, some (.blk T (over cs j v.leaves)))] else .fail
   | _ => .fail
  | .pel r i j _ => cvOf y fun v => .getM r fun
   | .row ver e t xs => bif Nat.beq v.leaves.length td.size && Nat.ble (j + td.size) (sz t) then put r ver i t (el t xs i) j [] v.leaves [r] fun x' rest us => match rest with
    | [] => .bindO (some (xs.set i x')) fun ys => .out undefS ((r, some (.row (ver + 1) e t ys)) :: gone us)
    | _ => .fail
    else .fail
   | _ => .fail
  | _ => .fail
 | none => .fail
def minA : List Int → Int → Int
 | [], x => x
 | y :: r, x => minA r (min x y)
def appendA (C : Ctx) (b T U : Nat) (x y : Option SV) : OP := match get C.Δ T with
 | some td => match td.kind with
  | .slice e => match get C.Δ e with
   | some te => bif Nat.beq U T then lfOf x fun x => tkRow x e te.ty [] fun xs us => lfOf y fun y =>
     bif flat te.ty then rdRow y e te.ty fun ys => .ite ((xs.length + ys.length) * te.bytes ≤ 140737488355328) inferInstance (.bindO (some (xs ++ ys)) fun zs => .out (lf (.own b)) ((b, some (.row 0 e te.ty zs)) :: gone us))
     else tkRow y e te.ty us fun ys us => .ite ((xs.length + ys.length) * te.bytes ≤ 140737488355328) inferInstance (.bindO (some (xs ++ ys)) fun zs => .out (lf (.own b)) ((b, some (.row 0 e te.ty zs)) :: gone us)) else .fail
   | none => .fail
  | _ => .fail
 | none => .fail
def intsOf (s : Sl) : List Operand → (List Int → OP) → OP
 | [], K => K []
 | o :: r, K => intOf (ev s o) fun k z => match decEq k IntKind.i64 with
  | .isTrue _ => intsOf s r fun zs => K (z :: zs)
  | .isFalse _ => .fail
def maxL : List Int → Int → Int
 | [], x => x
 | y :: r, x => maxL r (max x y)
def minL : List Int → Int → Int
 | [], x => x
 | y :: r, x => minL r (min x y)

/-! ### calls -/
/-- What is handed to a call for one of its parts: a leaf; the part that is handed on, or the part that is read. -/
structure Acc where
 l : Leaf
 us : Option Nat
 vs : Option Nat
def heldOf : List Acc → List Nat
 | [] => []
 | c :: r => match c.us with
  | some q => q :: heldOf r
  | none => heldOf r
def readOf : List Acc → List Nat
 | [] => []
 | c :: r => match c.vs with
  | some q => q :: readOf r
  | none => readOf r
def rootA (l : Leaf) (k : Option Nat → OP) : OP := match l with
 | .own r => .getM r fun
  | .sub r0 _ _ _ => k (some r0)
  | _ => k (some r)
 | .cut r _ _ _ _ => .getM r fun
  | .sub r0 _ _ _ => k (some r0)
  | _ => k (some r)
 | _ => k none
def rootH : Leaf → Option Nat
 | .own r => some r
 | .cut r _ _ _ _ => some r
 | _ => none
/-- Leaves as a typed thing: rows that are only read, rows that are handed on. -/
def gatM : (t : Ty) → List Leaf → List Nat → List Acc → (den t → List Leaf → List Nat → List Acc → OP) → OP
 | .sl e t, ls, ms, ac, K => match ls, ms with
  | l :: r, m :: ms => match m with
   | 0 => rdRow l e t fun xs => rootA l fun v => K xs r ms (ac ++ [⟨l, none, v⟩])
   | _ => tkRow l e t (heldOf ac) fun xs _ => K xs r ms (ac ++ [⟨l, rootH l, none⟩])
  | _, _ => .fail
 | .pair a b, ls, ms, ac, K => gatM a ls ms ac fun x r ms ac => gatM b r ms ac fun y r ms ac => K (x, y) r ms ac
 | .int k, ls, ms, ac, K => gat (.int k) ls fun x r => K x r ms ac
 | .bool, ls, ms, ac, K => gat .bool ls fun x r => K x r ms ac
 | .str, ls, ms, ac, K => gat .str ls fun x r => K x r ms ac
def argsA (s : Sl) : (ps : List PM) → List Operand → List Acc → (Args ps → List Acc → OP) → OP
 | [], [], ac, K => K () ac
 | .val st t ms :: ps, o :: os, ac, K => cvOf (ev s o) fun v => bif v.isSt st then gatM t v.leaves ms ac fun x rest _ ac => match rest with
  | [] => argsA s ps os ac fun y ac => K (x, y) ac
  | _ => .fail
  else .fail
 | .ptr T t ms :: ps, o :: os, ac, K => lfOf (ev s o) fun
  | .ptr r 0 => bif memb (heldOf ac) r then .fail else .getM r fun
   | .blk T' cs => bif Nat.beq T' T then gatM t cs ms (ac ++ [⟨.own r, some r, none⟩]) fun x rest _ ac => match rest with
    | [] => argsA s ps os ac fun y ac => K (x, y) ac
    | _ => .fail
    else .fail
   | _ => .fail
  | _ => .fail
 | _, _, _, _ => .fail
def hd {a : Type} : (r : List Type) → Tup (a :: r) → a
 | [], x => x
 | _ :: _, x => x.1
def tl {a : Type} : (r : List Type) → Tup (a :: r) → Tup r
 | [], _ => ()
 | _ :: _, x => x.2
def tcons {a : Type} : (r : List Type) → a → Tup r → Tup (a :: r)
 | [], x, _ => x
 | _ :: _, x, y => (x, y)
def nsl : Ty → Nat
 | .sl _ _ => 1
 | .pair a b => nsl a + nsl b
 | _ => 0
def nps : List PM → Nat
 | [] => 0
 | .val _ t _ :: ps => nsl t + nps ps
 | .ptr _ t _ :: ps => 1 + nsl t + nps ps
/-- The numbers of the rows that are held. -/
def heldIds : Nat → List (Nat × Ty) → List Nat → List Nat
 | q, _ :: r, m :: ms => match m with
  | 0 => heldIds (q + 1) r ms
  | _ => q :: heldIds (q + 1) r ms
 | _, _, _ => []
section
variable {R : Type _}
/-! What a call leaves behind, in its own numbers; new parts from b on. -/
/-- A result's cells: each row of it new, or a parameter's. -/
def leaveLs : List LD → List (Option Nat) → Nat → (List Leaf → Me → Nat → R) → R
 | [], _, b, K => K [] [] b
 | .lf l :: r, ms, b, K => leaveLs r ms b fun ls us b => K (l :: ls) us b
 | .sl _ e t xs :: r, ms, b, K => match ms with
  | some q :: ms => leaveLs r ms b fun ls us b => K (.own q :: ls) us b
  | ms => leaveLs r ms.tail (b + 1) fun ls us b' => K (.own b :: ls) ((b, some (.row 0 e t xs)) :: us) b'
def leaveRs : (rs : List RM) → (os : List Type) → Tup (resTs rs os) → Nat → (List CV → Tup os → Me → Nat → R) → R
 | [], _, x, b, K => K [] x [] b
 | .val st t ms :: rs, os, x, b, K => leaveLs (descs t (hd _ x) []) ms b fun ls us b => leaveRs rs os (tl _ x) b fun vs y us' b => K (CV.of st ls :: vs) y (us ++ us') b
 | .ptr T t ms :: rs, os, x, b, K => leaveLs (descs t (hd _ x) []) ms (b + 1) fun ls us b' => leaveRs rs os (tl _ x) b' fun vs y us' b' => K (.lf (.ptr b 0) :: vs) y ((b, some (.blk T ls)) :: (us ++ us')) b'
/-- A held struct's cells: rows that were read or kept stand where they stood. -/
def backLs : List LD → List Nat → Nat → Nat → (List Leaf → Me → Nat → R) → R
 | [], _, _, b, K => K [] [] b
 | .lf l :: r, ms, q, b, K => backLs r ms q b fun ls us b => K (l :: ls) us b
 | .sl _ e t xs :: r, ms, q, b, K => match ms with
  | 0 :: ms => backLs r ms (q + 1) b fun ls us b => K (.own q :: ls) us b
  | 1 :: ms => backLs r ms (q + 1) b fun ls us b => K (.own q :: ls) ((q, some (.row 0 e t xs)) :: us) b
  | ms => backLs r ms.tail (q + 1) (b + 1) fun ls us b' => K (.own b :: ls) ((b, some (.row 0 e t xs)) :: us) b'
def backRows : (q : List (Nat × Ty)) → (os : List Type) → List Nat → Tup (rowTs q os) → (Tup os → Me → R) → R
 | [], _, _, x, K => K x []
 | (e, t) :: q, os, ids, x, K => backRows q os ids.tail (tl _ x) fun y us => K y ((ids.headD 0, some (.row 0 e t (hd _ x))) :: us)
def leaveOs : (ps : List PM) → Tup (outTs ps) → Nat → Nat → (Me → Nat → R) → R
 | [], _, _, b, K => K [] b
 | .val _ t ms :: ps, x, q, b, K => backRows (heldRows (rows t) ms) (outTs ps) (heldIds q (rows t) ms) x fun y us => leaveOs ps y (q + nsl t) b fun us' b => K (us ++ us') b
 | .ptr T t ms :: ps, x, q, b, K => backLs (descs t (hd _ x) []) ms (q + 1) b fun ls us b => leaveOs ps (tl _ x) (q + 1 + nsl t) b fun us' b => K ((q, some (.blk T ls)) :: (us ++ us')) b
def leave (sig : Sig) (x : Res sig) (K : List CV → Me → Nat → R) : R := leaveRs sig.rs (outTs sig.ps) x (nps sig.ps) fun vs y us b => leaveOs sig.ps y 0 b fun us' b => K vs (us ++ us') b
end
def keys {α : Type _} : List (Nat × α) → List Nat
 | [] => []
 | (k, _) :: r => k :: keys r
/-! .. in the caller's numbers. -/
section
variable (ac : List Acc) (np b : Nat)
def thC (id : Nat) : Option Leaf := bif Nat.blt id np then (match nth ac id with | some c => some c.l | none => none) else some (.own (b + (id - np)))
def renLs : List Leaf → (List Leaf → OP) → OP
 | [], K => K []
 | l :: r, K => match l with
  | .own q => match thC ac np b q with
   | some l => renLs r fun ls => K (l :: ls)
   | none => .fail
  | l => match l.ref with
   | none => renLs r fun ls => K (l :: ls)
   | some _ => .fail
def renV : CV → (CV → OP) → OP
 | .ag cs, K => renLs ac np b cs fun cs => K (.ag cs)
 | .lf (.ptr q j), K => bif Nat.blt q np then .fail else K (.lf (.ptr (b + (q - np)) j))
 | .lf l, K => renLs ac np b [l] fun
  | [l] => K (.lf l)
  | _ => .fail
def renVs : List CV → (List CV → OP) → OP
 | [], K => K []
 | v :: r, K => renV ac np b v fun v => renVs r fun vs => K (v :: vs)
def renM : Me → (Me → OP) → OP
 | [], K => K []
 | (i, p) :: m, K => bif memb (keys m) i then .fail else match p with
  | some (.row _ e t xs) => bif Nat.blt i np then (match nth ac i with
   | some ⟨.own q, some _, _⟩ => .getM q fun
    | .row ver _ _ _ => renM m fun m' => K ((q, some (.row (ver + 1) e t xs)) :: m')
    | _ => .fail
   | some ⟨.nil, _, _⟩ => renM m K
   | _ => .fail) else renM m fun m' => K ((b + (i - np), some (.row 0 e t xs)) :: m')
  | some (.blk T ls) => renLs ac np b ls fun ls => bif Nat.blt i np then (match nth ac i with
   | some ⟨.own q, some _, _⟩ => renM m fun m' => K ((q, some (.blk T ls)) :: m')
   | _ => .fail) else renM m fun m' => K ((b + (i - np), some (.blk T ls)) :: m')
  | _ => .fail
end
def meet : List Nat → List Nat → Bool
 | [], _ => false
 | k :: r, l => memb l k || meet r l
def svOf : List CV → SV
 | [v] => .c v
 | vs => .tp vs
def entOf : List Ent → Nat → Option Ent
 | [], _ => none
 | e :: r, f => bif Nat.beq e.id f then some e else entOf r f
/-- The rows handed on and not handed back are gone. -/
def callA (C : Ctx) (s : Sl) (b f : Nat) (os : List Operand) : OP := match entOf C.Γ f with
 | some e => argsA s e.sig.ps os [] fun x ac => bif meet (heldOf ac) (readOf ac) then .fail else .bindO (e.F C.fuel x) fun r => leave e.sig r fun vs m nx =>
   bif Nat.ble nx (nps e.sig.ps + step) then renM ac (nps e.sig.ps) b m fun m => renVs ac (nps e.sig.ps) b vs fun vs => .out (svOf vs) (m ++ gone (heldOf ac)) else .fail
 | none => .fail

/-- Is it a row inside row i? -/
def subOf (i : Nat) : Part → Bool
 | .sub r _ _ _ => Nat.beq r i
 | _ => false
/-- A program where parts are lent: what it asks of them is answered from d; it looks at nothing inside row i. -/
def under {α β : Type} (d : Me) (i : Nat) : Prg α → (α → Prg β) → Prg β
 | .ret a, K => K a
 | .fail, _ => .fail
 | .getM id k, K => match get d id with
  | some (some p) => under d i (k p) K
  | some none => .fail
  | none => .getM id fun p => bif subOf i p then .fail else under d i (k p) K
 | .ite p h k, K => .ite p h (under d i k K)
 | .br p h k1 k2, K => .br p h (under d i k1 K) (under d i k2 K)
 | .bindO x k, K => .bindO x fun a => under d i (k a) K
def noSubs : Me → Bool
 | [] => true
 | (_, some (.sub _ _ _ _)) :: _ => false
 | _ :: m => noSubs m
/-- Slices by themselves that are handed on. -/
def lendIds (s : Sl) : List PM → List Operand → List Nat
 | p :: ps, o :: os => match p with
  | .val false (.sl _ _) [m] => match m with
   | 0 => lendIds s ps os
   | _ => match ev s o with
    | some (.c (.lf (.own q))) => q :: lendIds s ps os
    | _ => lendIds s ps os
  | _ => lendIds s ps os
 | _, _ => []
/-- Part i, a row inside row r, stands by itself as long as the call lasts. -/
def lentA (i r ver e0 : Nat) (t : Ty) (xs : List (den t)) (j : Nat) (path : List Bool) (e' : Nat) (t' : Ty) (a : SV × Me) : OP :=
 bif noSubs a.2 && !(memb (keys a.2) r) then match get a.2 i with
  | some (some (.row _ e'' t'' zs)) => bif Nat.beq e'' e' then castL t'' t' zs fun zs => selSet t path (el t xs j) t' zs fun x' => .bindO (some (xs.set j x')) fun qs => .out a.1 ((r, some (.row (ver + 1) e0 t qs)) :: (i, none) :: a.2) else .fail
  | _ => .fail
  else .fail
/-- A call; one row inside a row may be handed on. -/
def callB (C : Ctx) (s : Sl) (b f : Nat) (os : List Operand) : OP := match entOf C.Γ f with
 | some e => match lendIds s e.sig.ps os with
  | [i] => .getM i fun
   | .sub r ver j path => .getM r fun
    | .row v e0 t xs => bif Nat.beq v ver then sel t path (el t xs j) fun e' t' ys => under [(i, some (.row 0 e' t' ys)), (r, none)] i (callA C s b f os) (lentA i r ver e0 t xs j path e' t') else .fail
    | _ => .fail
   | _ => callA C s b f os
  | _ => callA C s b f os
 | none => .fail

/-- An operation. Its new parts are numbered from b on. -/
def opA (C : Ctx) (b : Nat) (s : Sl) (o : Oper) : OP :=
 match o.op with
 | .move x | .assign x => match ev s x with
  | some v => .out v []
  | none => .fail
 | .pick c x y => match ev s x, ev s y with
  | some x, some y => brOn (ev s c) (.out x []) (.out y [])
  | _, _ => .fail
 | .nilCheck x => lfOf (ev s x) fun
  | .ptr r j => .val (.ptr r j)
  | .pel r i j z => .val (.pel r i j z)
  | _ => .fail
 | .unOp op _ x => unA op (ev s x)
 | .binOp op T x y _ => binA C op T y (ev s x) (ev s y)
 | .convert f t x => convA C f t (ev s x)
 | .extract x i => match ev s x with
  | some (.tp vs) => match nth vs i with
   | some v => .out (.c v) []
   | none => .fail
  | _ => .fail
 | .field T x f => fieldA C T f (ev s x)
 | .fieldAddr T x f => fieldAddrA C T f (ev s x)
 | .alloc T => match get C.Δ T with
  | some td => .out (lf (.ptr b 0)) [(b, some (.blk T (zl td.ty)))]
  | none => .fail
 | .box T x => cvOf (ev s x) fun v => .out (lf (.ptr b 0)) [(b, some (.blk T v.leaves))]
 | .build T ps => match get C.Δ T, fieldsOf C T with
  | some td, some fs => buildL C s fs ps.toList (zl td.ty) fun cs => .out (.c (.ag cs)) []
  | _, _ => .fail
 | .buildSlice T len ps => match get C.Δ T with
  | some td => match td.kind with
   | .slice e => match get C.Δ e with
    | some te => bif Nat.beq ps.toList.length len && Nat.ble (len * te.size) 16777216 then rowsL s te.st te.ty ps.toList 0 [] fun xs us => .bindO (some xs) fun ys => .out (lf (.own b)) ((b, some (.row 0 e te.ty ys)) :: gone us) else .fail
    | none => .fail
   | _ => .fail
  | none => .fail
 | .makeSlice T n c => match get C.Δ T with
  | some td => match td.kind with
   | .slice e => match get C.Δ e with
    | some te => intOf (ev s n) fun _ z => intOf (ev s c) fun _ z' => .ite (z' = z) inferInstance (.ite (0 ≤ z) inferInstance (.ite (z.toNat * te.bytes ≤ 281474976710656) inferInstance (.bindO (some (List.replicate z.toNat (zero te.ty))) fun xs => .out (lf (.own b)) [(b, some (.row 0 e te.ty xs))])))
    | none => .fail
   | _ => .fail
  | none => .fail
 | .slice T x lo hi mx => sliceA C s T (ev s x) lo hi mx
 | .indexAddr T x i => indexAddrA C T (ev s x) (ev s i)
 | .index T x i => indexA C T (ev s x) (ev s i)
 | .load T x => loadA C b T (ev s x)
 | .store T x y => match o.dst with
  | none => storeA C T (ev s x) (ev s y)
  | some _ => .fail
 | .call c => match c.callee with
  | .builtin .len => match c.args.toList, c.argTypes.toList with
   | [x], [T] => lenA C T (ev s x)
   | _, _ => .fail
  | .builtin .append => match c.args.toList, c.argTypes.toList with
   | [x, y], [T, U] => appendA C b T U (ev s x) (ev s y)
   | _, _ => .fail
  | .builtin .max => intsOf s c.args.toList fun | z :: zs => .val (.int .i64 (maxL zs z)) | [] => .fail
  | .builtin .min => intsOf s c.args.toList fun | z :: zs => .val (.int .i64 (minL zs z)) | [] => .fail
  | .value (.func f) => callB C s b f c.args.toList
  | _ => .fail
 | _ => .fail

/-! ### regions and code -/
def putS (s : Sl) (d : Option Nat) (v : SV) : Sl := match d with | some q => (q, v) :: s | none => s
/-- Is a guarded operation wanted? -/
def wantA {R : Type} (l : List Oper) (s : Sl) (o : Oper) (yes no : Sl → Option R) : Option R := match o.guard with
 | none => yes s
 | some (j, b) => match nth l j with
  | some oj => match oj.dst with
   | some q => match get s q with
    | some (.c (.lf (.bool c))) => @ite _ (c = true) inferInstance (bif b then yes ((q, lf (.lit true)) :: s) else no ((q, lf (.lit true)) :: s)) (bif b then no ((q, lf (.lit false)) :: s) else yes ((q, lf (.lit false)) :: s))
    | some (.c (.lf (.lit c))) => bif c then (bif b then yes s else no s) else (bif b then no s else yes s)
    | some (.c (.lf (.prop p d))) => @ite _ p d (bif b then yes ((q, lf (.lit true)) :: s) else no ((q, lf (.lit true)) :: s)) (bif b then no ((q, lf (.lit false)) :: s) else yes ((q, lf (.lit false)) :: s))
    | some (.c (.lf .undef)) => no s
    | _ => none
   | none => none
  | none => none
def dstOk (N : Nat) : Option Nat → Bool
 | none => true
 | some q => Nat.blt q N
def runOps {R : Type} (C : Ctx) (l : List Oper) (K : Sl → Me → Nat → Option R) : List Oper → Sl → Me → Nat → Option R
 | [], s, m, b => K s m b
 | o :: r, s, m, b => bif dstOk C.N o.dst then wantA l s o
   (fun s => (opA C b s o).run (fun a _ => match a with | (v, us) => runOps C l K r (putS s o.dst v) (us ++ m) (b + step)) m [])
   (fun s => runOps C l K r (putS s o.dst undefS) m (b + step)) else none
/-- What one operation of a region that draws has looked at and changed. -/
structure Log where
 dst : Option Nat
 uses : List Nat
 reads : List Nat
 writes : List Nat
 anc : List Nat
def tmpsOf : List Operand → List Nat
 | [] => []
 | .tmp t :: r => t :: tmpsOf r
 | _ :: r => tmpsOf r
def usesOf (l : List Oper) (o : Oper) : List Nat := (match o.guard with
 | none => []
 | some (j, _) => match nth l j with
  | some oj => match oj.dst with | some q => [q] | none => []
  | none => []) ++ tmpsOf o.op.operands.toList
def onsOf (o : Oper) : List Nat := (o.after.toList.filter (fun e => Region.binds .any e)).map (·.on)
def nthL : List Log → Nat → List Nat
 | [], _ => []
 | g :: _, 0 => g.anc
 | _ :: r, i + 1 => nthL r i
def addN (l : List Nat) (k : Nat) : List Nat := bif memb l k then l else k :: l
/-- Both lists, each number once. -/
def uniN : List Nat → List Nat → List Nat
 | [], l => l
 | k :: r, l => uniN r (addN l k)
def ancU (a : List Nat) (j : Nat) : List Nat → List Nat
 | [] => j :: a
 | x :: r => bif memb (x :: r) j then x :: r else addN (uniN a (x :: r)) j
def ancOf (gs : List Log) : List Nat → List Nat
 | [] => []
 | j :: r => ancU (nthL gs j) j (ancOf gs r)
def optIn (l : List Nat) : Option Nat → Bool
 | none => false
 | some q => memb l q
def optEq : Option Nat → Option Nat → Bool
 | some a, some b => Nat.beq a b
 | _, _ => false
/-- Two operations that may come in either order. -/
def apart (g h : Log) : Bool :=
 !(optIn h.uses g.dst) && !(optIn g.uses h.dst) && !(optEq g.dst h.dst) && !(meet g.writes h.reads) && !(meet g.writes h.writes) && !(meet h.writes g.reads)
def apartAll (h : Log) : List Log → Nat → Bool
 | [], _ => true
 | g :: r, i => (memb h.anc i || apart g h) && apartAll h r (i + 1)
def below (i : Nat) : List Nat → Bool
 | [] => true
 | j :: r => Nat.blt j i && below i r
def addLog {R : Type} (gs : List Log) (g : Log) (k : List Log → Option R) : Option R :=
 bif apartAll g gs 0 && below gs.length g.anc then k (gs ++ [g]) else none
def runDrawn {R : Type} (C : Ctx) (l : List Oper) (K : Sl → Me → Nat → Option R) : List Oper → List Log → Sl → Me → Nat → Option R
 | [], _, s, m, b => K s m b
 | o :: r, gs, s, m, b => bif dstOk C.N o.dst then wantA l s o
   (fun s => (opA C b s o).run (fun a rd => match a with | (v, us) => addLog gs ⟨o.dst, usesOf l o, rd, keys us, ancOf gs (onsOf o)⟩ fun gs => runDrawn C l K r gs (putS s o.dst v) (us ++ m) (b + step)) m [])
   (fun s => addLog gs ⟨o.dst, usesOf l o, [], [], ancOf gs (onsOf o)⟩ fun gs => runDrawn C l K r gs (putS s o.dst undefS) m (b + step)) else none

/-! ### templates: what is known where ways meet -/
inductive LS where
 | int (k : IntKind)
 | bool
 | str
 | nil
 | own (id : Nat)
 | ptr (id j : Nat)
 | pel (id j size : Nat)
inductive PS where
 | row (e : Nat) (t : Ty)
 | view (o : Bool) (e : Nat) (t : Ty)
 | blk (T : Nat) (ls : List LS)
structure Shape where
 slots : List (Nat × Bool × List LS)
 parts : List (Nat × PS)
 nx : Nat
@[reducible] def LS.X : LS → Type → Type
 | .int _, r => Int × r
 | .bool, r => Bool × r
 | .str, r => ByteArray × r
 | .pel _ _ _, r => Nat × r
 | _, r => r
@[reducible] def lsX : List LS → Type → Type
 | [], r => r
 | l :: ls, r => l.X (lsX ls r)
@[reducible] def slotsX : List (Nat × Bool × List LS) → Type → Type
 | [], r => r
 | (_, _, ls) :: q, r => lsX ls (slotsX q r)
@[reducible] def partsX : List (Nat × PS) → Type
 | [] => Unit
 | (_, .row _ t) :: q => List (den t) × partsX q
 | (_, .view _ _ t) :: q => List (den t) × partsX q
 | (_, .blk _ ls) :: q => lsX ls (partsX q)
@[reducible] def Shape.X (S : Shape) : Type := slotsX S.slots (partsX S.parts)
/-- A template's cells, filled. -/
def lsIn {r : Type} {R : Type _} : (ls : List LS) → lsX ls r → (List Leaf → r → R) → R
 | [], x, K => K [] x
 | .int k :: ls, x, K => lsIn ls x.2 fun cs y => K (.int k x.1 :: cs) y
 | .bool :: ls, x, K => lsIn ls x.2 fun cs y => K (.bool x.1 :: cs) y
 | .str :: ls, x, K => lsIn ls x.2 fun cs y => K (.str x.1 :: cs) y
 | .nil :: ls, x, K => lsIn (r := r) ls x fun cs y => K (.nil :: cs) y
 | .own id :: ls, x, K => lsIn (r := r) ls x fun cs y => K (.own id :: cs) y
 | .ptr id j :: ls, x, K => lsIn (r := r) ls x fun cs y => K (.ptr id j :: cs) y
 | .pel id j s :: ls, x, K => lsIn ls x.2 fun cs y => K (.pel id x.1 j s :: cs) y
def slotsIn {r : Type} {R : Type _} : (q : List (Nat × Bool × List LS)) → slotsX q r → (Sl → r → R) → R
 | [], x, K => K [] x
 | (t, st, ls) :: q, x, K => lsIn (r := slotsX q r) ls x fun cs y => slotsIn q y fun s z => K ((t, .c (CV.of st cs)) :: s) z
def partsIn {R : Type _} : (q : List (Nat × PS)) → partsX q → (Me → R) → R
 | [], _, K => K []
 | (id, .row e t) :: q, x, K => partsIn q x.2 fun m => K ((id, some (.row 0 e t x.1)) :: m)
 | (id, .view o e t) :: q, x, K => partsIn q x.2 fun m => K ((id, some (.view o e t x.1)) :: m)
 | (id, .blk T ls) :: q, x, K => lsIn (r := partsX q) ls x fun cs y => partsIn q y fun m => K ((id, some (.blk T cs)) :: m)
def Shape.inj {R : Type _} (S : Shape) (x : S.X) (K : Sl → Me → Nat → R) : R :=
 slotsIn (r := partsX S.parts) S.slots x fun s y => partsIn S.parts y fun m => K s m S.nx
def lsWf (nx : Nat) : List LS → Bool
 | [] => true
 | .own id :: r => Nat.blt id nx && lsWf nx r
 | .ptr id _ :: r => Nat.blt id nx && lsWf nx r
 | .pel id _ _ :: r => Nat.blt id nx && lsWf nx r
 | _ :: r => lsWf nx r
def slotsWf (nx : Nat) : List (Nat × Bool × List LS) → Bool
 | [] => true
 | (_, _, ls) :: q => lsWf nx ls && slotsWf nx q
def partsWf (nx : Nat) : List (Nat × PS) → Bool
 | [] => true
 | (id, p) :: q => Nat.blt id nx && !(memb (keys q) id) && (match p with | .blk _ ls => lsWf nx ls | _ => true) && partsWf nx q
def Shape.wf (S : Shape) (np : Nat) : Bool := Nat.ble np S.nx && slotsWf S.nx S.slots && partsWf S.nx S.parts
/-- What a state has for a template; θ tells which leaf stands for a part of it; parts below np stand for themselves. -/
abbrev Th := List (Nat × Leaf)
section
variable {α : Type}
def bindId (np : Nat) (θ : Th) (id : Nat) (l : Leaf) (K : Th → Prg α) : Prg α :=
 bif Nat.blt id np then (match l with | .own r => bif Nat.beq r id then K θ else .fail | _ => .fail)
 else match get θ id with
  | none => K ((id, l) :: θ)
  | some l' => match l, l' with
   | .own r, .own r' => bif Nat.beq r r' then K θ else .fail
   | .nil, .nil => K θ
   | _, _ => .fail
def lsOut {r : Type} (np : Nat) : (ls : List LS) → List Leaf → Th → ((r → lsX ls r) → Th → Prg α) → Prg α
 | [], [], θ, K => K (fun y => y) θ
 | .int k :: ls, .int k' z :: cs, θ, K => match decEq k' k with
  | .isTrue _ => lsOut np ls cs θ fun f θ => K (fun y => (z, f y)) θ
  | .isFalse _ => .fail
 | .bool :: ls, .bool b :: cs, θ, K => lsOut np ls cs θ fun f θ => K (fun y => (b, f y)) θ
 | .bool :: ls, .lit b :: cs, θ, K => lsOut np ls cs θ fun f θ => K (fun y => (b, f y)) θ
 | .bool :: ls, .prop p d :: cs, θ, K => lsOut np ls cs θ fun f θ => K (fun y => (@decide p d, f y)) θ
 | .str :: ls, .str s :: cs, θ, K => lsOut np ls cs θ fun f θ => K (fun y => (s, f y)) θ
 | .nil :: ls, .nil :: cs, θ, K => lsOut (r := r) np ls cs θ fun f θ => K (fun y => f y) θ
 | .own id :: ls, .own r' :: cs, θ, K => bindId np θ id (.own r') fun θ => lsOut (r := r) np ls cs θ fun f θ => K (fun y => f y) θ
 | .own id :: ls, .nil :: cs, θ, K => bindId np θ id .nil fun θ => lsOut (r := r) np ls cs θ fun f θ => K (fun y => f y) θ
 | .own id :: ls, .cut r' lo hi n s :: cs, θ, K => bindId np θ id (.cut r' lo hi n s) fun θ => lsOut (r := r) np ls cs θ fun f θ => K (fun y => f y) θ
 | .ptr id j :: ls, .ptr r' j' :: cs, θ, K => bif Nat.beq j' j then bindId np θ id (.own r') fun θ => lsOut (r := r) np ls cs θ fun f θ => K (fun y => f y) θ else .fail
 | .pel id j s :: ls, .pel r' i j' s' :: cs, θ, K => bif Nat.beq j' j && Nat.beq s' s then bindId np θ id (.own r') fun θ => lsOut np ls cs θ fun f θ => K (fun y => (i, f y)) θ else .fail
 | _, _, _, _ => .fail
def slotsOut {r : Type} (np : Nat) (s : Sl) : (q : List (Nat × Bool × List LS)) → Th → ((r → slotsX q r) → Th → Prg α) → Prg α
 | [], θ, K => K (fun y => y) θ
 | (t, st, ls) :: q, θ, K => match get s t with
  | some (.c (.ag cs)) => bif st then lsOut (r := slotsX q r) np ls cs θ fun f θ => slotsOut np s q θ fun g θ => K (fun y => f (g y)) θ else .fail
  | some (.c (.lf l)) => bif st then .fail else lsOut (r := slotsX q r) np ls [l] θ fun f θ => slotsOut np s q θ fun g θ => K (fun y => f (g y)) θ
  | _ => .fail
/-- A row that is only read from here on: what is not the call's own; where o is true also a row of its own. -/
def vwRow (o : Bool) (l : Leaf) (e : Nat) (t : Ty) (us : List Nat) (k : List (den t) → List Nat → Prg α) : Prg α :=
 match l with
 | .own r => .getM r fun
  | .row _ e' t' xs => bif o && !(memb us r) && Nat.beq e' e then castL t' t xs fun ys => k ys (r :: us) else .fail
  | .view o' e' t' xs => bif (!o' || (o && !(memb us r))) && Nat.beq e' e then castL t' t xs fun ys => k ys (bif o' then r :: us else us) else .fail
  | .sub r0 _ i path => .getM r0 fun
   | .view false _ t0 xs => sel t0 path (el t0 xs i) fun e' t' ys => bif Nat.beq e' e then castL t' t ys fun ys => k ys us else .fail
   | _ => .fail
  | _ => .fail
 | .cut r lo hi _ _ => .getM r fun
  | .row _ e' t' xs => bif o && !(memb us r) && Nat.beq e' e then castL t' t xs fun ys => k (cutOf ys lo hi) (r :: us) else .fail
  | .view o' e' t' xs => bif (!o' || (o && !(memb us r))) && Nat.beq e' e then castL t' t xs fun ys => k (cutOf ys lo hi) (bif o' then r :: us else us) else .fail
  | _ => .fail
 | .nil => k [] us
 | _ => .fail
def thOf (np : Nat) (θ : Th) (id : Nat) : Option Leaf := bif Nat.blt id np then some (.own id) else get θ id
def partsOut (np : Nat) : (q : List (Nat × PS)) → Th → List Nat → (partsX q → Prg α) → Prg α
 | [], _, _, K => K ()
 | (id, .row e t) :: q, θ, us, K => match thOf np θ id with
  | some l => tkRow l e t us fun xs us => partsOut np q θ us fun y => K (xs, y)
  | none => .fail
 | (id, .view o e t) :: q, θ, us, K => match thOf np θ id with
  | some l => vwRow o l e t us fun xs us => partsOut np q θ us fun y => K (xs, y)
  | none => .fail
 | (id, .blk T ls) :: q, θ, us, K => match thOf np θ id with
  | some (.own r) => bif memb us r then .fail else .getM r fun
   | .blk T' cs => bif Nat.beq T' T then lsOut (r := partsX q) np ls cs θ fun f θ => partsOut np q θ (r :: us) fun y => K (f y) else .fail
   | _ => .fail
  | _ => .fail
end
def Shape.out (S : Shape) (np : Nat) (s : Sl) : Prg S.X := slotsOut (r := partsX S.parts) np s S.slots [] fun f θ => partsOut np S.parts θ [] fun y => .ret (f y)

/-- Where a function's ways meet: joins, loops, each with its template and its plain function. -/
inductive Ann (R : Type) : Type where
 | nil
 | seq (a b : Ann R)
 | join (S : Shape) (J : S.X → Option R) (a b : Ann R)
 | cond (a b : Ann R)
 | block (a : Ann R)
 | loop (S : Shape) (L : Nat → S.X → Option R) (body : Nat → Ann R)
inductive Ex where
 | nrm
 | ext (id : Nat)
 | ret
abbrev Kt (R : Type) := Ex → Sl → Me → Nat → Option R
def thenK {R : Type} (n : Sl → Me → Nat → Option R) (K : Kt R) : Kt R
 | .nrm, s, m, b => n s m b
 | .ext id, s, m, b => K (.ext id) s m b
 | .ret, s, m, b => K .ret s m b
def blockK {R : Type} (id : Nat) (K : Kt R) : Kt R
 | .nrm, s, m, b => K .nrm s m b
 | .ext q, s, m, b => bif Nat.beq q id then K .nrm s m b else K (.ext q) s m b
 | .ret, s, m, b => K .ret s m b
def toS {R : Type} (S : Shape) (np : Nat) (J : S.X → Option R) (s : Sl) (m : Me) (_ : Nat) : Option R := (S.out np s).run (fun x _ => J x) m []
def annA {R : Type} : Ann R → Ann R
 | .seq a _ => a
 | .join _ _ a _ => a
 | .cond a _ => a
 | .block a => a
 | _ => .nil
def annB {R : Type} : Ann R → Ann R
 | .seq _ b => b
 | .join _ _ _ b => b
 | .cond _ b => b
 | _ => .nil
def know (c : Operand) (t : Bool) (s : Sl) : Sl := match c with
 | .tmp q => (q, lf (.lit t)) :: s
 | _ => s
def run {R : Type} (C : Ctx) (np : Nat) : Code → Ann R → Kt R → Sl → Me → Nat → Option R
 | .skip, _, K, s, m, b => K .nrm s m b
 | .region _ ops draw, _, K, s, m, b => bif draw then runDrawn C ops.toList (K .nrm) ops.toList [] s m b else runOps C ops.toList (K .nrm) ops.toList s m b
 | .seq x y, a, K, s, m, b => match a with
  | .join S J a _ => run C np x a (thenK (toS S np J) K) s m b
  | a => run C np x (annA a) (thenK (run C np y (annB a) K) K) s m b
 | .cond c x y, a, K, s, m, b => match ev s c with
  | some (.c (.lf (.bool t))) => @ite _ (t = true) inferInstance (run C np x (annA a) K (know c true s) m b) (run C np y (annB a) K (know c false s) m b)
  | some (.c (.lf (.lit t))) => bif t then run C np x (annA a) K s m b else run C np y (annB a) K s m b
  | some (.c (.lf (.prop p d))) => @ite _ p d (run C np x (annA a) K (know c true s) m b) (run C np y (annB a) K (know c false s) m b)
  | _ => none
 | .block id x, a, K, s, m, b => run C np x (annA a) (blockK id K) s m b
 | .loop _, a, _, s, m, b => match a with
  | .loop S L _ => toS S np (L C.fuel) s m b
  | _ => none
 | .exit id, _, K, s, m, b => K (.ext id) s m b
 | .ret, _, K, s, m, b => K .ret s m b
 | .label _, _, K, s, m, b => K .nrm s m b
 | _, _, _, _, _, _ => none
/-- What is to be shown of the plain functions of joins and loops. -/
def obl {R : Type} (C : Ctx) (np : Nat) : Code → Ann R → Kt R → Prop
 | .seq x y, a, K => match a with
  | .join S J a a' => (S.wf np = true ∧ ∀ x : S.X, J x = S.inj x (run C np y a' K)) ∧ obl C np x a (thenK (toS S np J) K) ∧ obl C np y a' K
  | a => obl C np x (annA a) (thenK (run C np y (annB a) K) K) ∧ obl C np y (annB a) K
 | .cond _ x y, a, K => obl C np x (annA a) K ∧ obl C np y (annB a) K
 | .block id x, a, K => obl C np x (annA a) (blockK id K)
 | .loop x, a, K => match a with
  | .loop S L body => (S.wf np = true ∧ ∀ x : S.X, L 0 x = none) ∧ ∀ n, (∀ y : S.X, L (n + 1) y = S.inj y (run C np x (body n) (thenK (toS S np (L n)) K))) ∧ obl C np x (body n) (thenK (toS S np (L n)) K)
  | _ => True
 | _, _, _ => True

/-! ### a function's begin and end -/
def enterLs {R : Type _} : List LD → List Nat → Nat → (List Leaf → Me → Nat → R) → R
 | [], _, b, K => K [] [] b
 | .lf l :: r, ms, b, K => enterLs r ms b fun ls us b => K (l :: ls) us b
 | .sl _ e t xs :: r, ms, b, K => match ms with
  | 0 :: ms => enterLs r ms (b + 1) fun ls us b' => K (.own b :: ls) ((b, some (.view false e t xs)) :: us) b'
  | _ => enterLs r ms.tail (b + 1) fun ls us b' => K (.own b :: ls) ((b, some (.row 0 e t xs)) :: us) b'
def enter {R : Type _} : (ps : List PM) → Args ps → Nat → Nat → (Sl → Me → Nat → R) → R
 | [], _, _, b, K => K [] [] b
 | .val st t ms :: ps, x, i, b, K => enterLs (descs t x.1 []) ms b fun ls us b => enter ps x.2 (i + 1) b fun s m b => K ((i, .c (CV.of st ls)) :: s) (us ++ m) b
 | .ptr T t ms :: ps, x, i, b, K => enterLs (descs t x.1 []) ms (b + 1) fun ls us b' => enter ps x.2 (i + 1) b' fun s m b'' => K ((i, lf (.ptr b 0)) :: s) ((b, some (.blk T ls)) :: (us ++ m)) b''
section
variable {α : Type}
/-- A held struct's cells as a typed thing: rows that are read or kept stand at their numbers. -/
def takK : (t : Ty) → List Leaf → List Nat → Nat → List Nat → (den t → List Leaf → List Nat → Nat → List Nat → Prg α) → Prg α
 | .sl e t, ls, ms, q, us, K => match ls, ms with
  | l :: rest, m :: ms => match m with
   | 0 => match l with
    | .own r => bif Nat.beq r q then rdRow (.own r) e t fun xs => K xs rest ms (q + 1) us else .fail
    | _ => .fail
   | 1 => match l with
    | .own r => bif Nat.beq r q then tkRow (.own r) e t us fun xs us => K xs rest ms (q + 1) us else .fail
    | _ => .fail
   | _ => tkRow l e t us fun xs us => K xs rest ms (q + 1) us
  | _, _ => .fail
 | .pair a b, ls, ms, q, us, K => takK a ls ms q us fun x r ms q us => takK b r ms q us fun y r ms q us => K (x, y) r ms q us
 | .int k, ls, ms, q, us, K => tak (.int k) ls us fun x r us => K x r ms q us
 | .bool, ls, ms, q, us, K => tak .bool ls us fun x r us => K x r ms q us
 | .str, ls, ms, q, us, K => tak .str ls us fun x r us => K x r ms q us
def rowsE : (q : List (Nat × Ty)) → (os : List Type) → List Nat → List Nat → (List Nat → (Tup os → Prg α) → Prg α) → (Tup (rowTs q os) → Prg α) → Prg α
 | [], _, _, us, O, K => O us K
 | (e, t) :: q, os, i :: is, us, O, K => tkRow (.own i) e t us fun xs us => rowsE q os is us O fun y => K (tcons _ xs y)
 | _, _, _, _, _, _ => .fail
def outsE : (ps : List PM) → Nat → List Nat → (Tup (outTs ps) → Prg α) → Prg α
 | [], _, _, K => K ()
 | .val _ t ms :: ps, b, us, K => rowsE (heldRows (rows t) ms) (outTs ps) (heldIds b (rows t) ms) us (fun us K => outsE ps (b + nsl t) us K) K
 | .ptr T t ms :: ps, b, us, K => bif memb us b then .fail else .getM b fun
  | .blk T' cs => bif Nat.beq T' T then takK t cs ms (b + 1) (b :: us) fun x rest _ _ us => match rest with
   | [] => outsE ps (b + 1 + nsl t) us fun y => K (tcons _ x y)
   | _ => .fail
   else .fail
  | _ => .fail
/-- A result's cells as a typed thing. -/
def takR : (t : Ty) → List Leaf → List (Option Nat) → List Nat → (den t → List Leaf → List (Option Nat) → List Nat → Prg α) → Prg α
 | .sl e t, ls, ms, us, K => match ls, ms with
  | l :: rest, m :: ms => match m with
   | none => tkRow l e t us fun xs us => K xs rest ms us
   | some q => match l with
    | .own r => bif Nat.beq r q then .getM q fun
     | .view false e' t' xs => bif Nat.beq e' e then castL t' t xs fun ys => K ys rest ms us else .fail
     | _ => .fail
     else .fail
    | _ => .fail
  | _, _ => .fail
 | .pair a b, ls, ms, us, K => takR a ls ms us fun x r ms us => takR b r ms us fun y r ms us => K (x, y) r ms us
 | .int k, ls, ms, us, K => tak (.int k) ls us fun x r us => K x r ms us
 | .bool, ls, ms, us, K => tak .bool ls us fun x r us => K x r ms us
 | .str, ls, ms, us, K => tak .str ls us fun x r us => K x r ms us
def resV (Δ : List (Nat × TD)) (s : Sl) (r : ResultVar) (K : CV → Prg α) : Prg α := match r with
 | .tmp t => match get s t with
  | some (.c v) => K v
  | _ => .fail
 | .cell t T => match get s t, get Δ T with
  | some (.c (.lf (.ptr r 0))), some td => .getM r fun
   | .blk _ cs => bif Nat.beq td.size cs.length then K (CV.of td.st cs) else .fail
   | _ => .fail
  | _, _ => .fail
def ressE (Δ : List (Nat × TD)) (np : Nat) (s : Sl) : (rs : List RM) → (os : List Type) → List ResultVar → List Nat → (List Nat → (Tup os → Prg α) → Prg α) → (Tup (resTs rs os) → Prg α) → Prg α
 | [], _, [], us, O, K => O us K
 | .val st t al :: rs, os, v :: vs, us, O, K => resV Δ s v fun v => bif v.isSt st then takR t v.leaves al us fun x rest _ us => match rest with
  | [] => ressE Δ np s rs os vs us O fun y => K (tcons _ x y)
  | _ => .fail
  else .fail
 | .ptr T t al :: rs, os, v :: vs, us, O, K => resV Δ s v fun
  | .lf (.ptr r 0) => bif memb us r || Nat.blt r np then .fail else .getM r fun
   | .blk T' cs => bif Nat.beq T' T then takR t cs al (r :: us) fun x rest _ us => match rest with
    | [] => ressE Δ np s rs os vs us O fun y => K (tcons _ x y)
    | _ => .fail
    else .fail
   | _ => .fail
  | _ => .fail
 | _, _, _, _, _, _ => .fail
end
def exitP (Δ : List (Nat × TD)) (sig : Sig) (rv : List ResultVar) (s : Sl) : Prg (Res sig) := ressE Δ (nps sig.ps) s sig.rs (outTs sig.ps) rv [] (fun us K => outsE sig.ps 0 us K) .ret
def retK (Δ : List (Nat × TD)) (sig : Sig) (rv : List ResultVar) : Kt (Res sig)
 | .ret, s, m, _ => (exitP Δ sig rv s).run (fun x _ => some x) m []
 | .nrm, s, m, _ => (exitP Δ sig rv s).run (fun x _ => some x) m []
 | .ext _, _, _, _ => none
/-- A sign's numbers are a parameter's. -/
def alWf (np : Nat) : List (Option Nat) → Bool
 | [] => true
 | none :: r => alWf np r
 | some q :: r => Nat.blt q np && alWf np r
def rsWf (np : Nat) : List RM → Bool
 | [] => true
 | .val _ _ al :: r => alWf np al && rsWf np r
 | .ptr _ _ al :: r => alWf np al && rsWf np r
/-- A function, run. -/
def runF (C : Ctx) (sig : Sig) (f : Func) (body : Code) (a : Ann (Res sig)) (x : Args sig.ps) : Option (Res sig) :=
 enter sig.ps x 0 0 fun s m b => run C (nps sig.ps) body a (retK C.Δ sig f.results.toList) s m b
end Go.Proofs.YthncjcfnpfajaaaA
