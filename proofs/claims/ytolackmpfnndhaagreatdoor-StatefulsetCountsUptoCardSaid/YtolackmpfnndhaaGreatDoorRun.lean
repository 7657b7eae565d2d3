/- The abstract run of code: values for memory, a tree for what is not known ahead. Conditions: stated at each. -/
import Derived.Test.YtolackmpfnndhaaGreatDoorAto
import Derived.Orders
namespace Go.Proofs.YtolackmpfnndhaaGreatDoor.Ev
open Go
set_option linter.unusedVariables false
/-- What a run may come to: an answer, no answer, a test, a value that another text gives. -/
inductive T.{u} (α : Type u) : Type (max 1 u) where
  | ret (a : α)
  | fail
  | test (b : Bool) (x y : T α)
  | bnd {R : Type} (o : Option R) (d : R) (f : R → T α)
  | cas {R S : Type} (o : Option (R ⊕ S)) (f : R → T α) (g : S → T α)
  | opt {R : Type} (c : Bool) (o : Option R) (d : R) (f : R → T α)
def T.bind.{u, v} {α : Type u} {β : Type v} : T.{u} α → (α → T.{v} β) → T.{v} β
  | .ret a, k => k a
  | .fail, _ => .fail
  | .test b x y, k => .test b (x.bind k) (y.bind k)
  | .bnd o d f, k => .bnd o d fun r => (f r).bind k
  | .cas o f g, k => .cas o (fun r => (f r).bind k) (fun s => (g s).bind k)
  | .opt c o d f, k => .opt c o d fun r => (f r).bind k
def T.eval.{u} {α : Type u} : T.{u} α → Option α
  | .ret a => some a
  | .fail => none
  | .test b x y => bif b then x.eval else y.eval
  | .bnd o _ f => o.bind fun r => (f r).eval
  | .cas o f g => o.bind fun | .inl r => (f r).eval | .inr s => (g s).eval
  | .opt c o d f => (bif c then o else some d).bind fun r => (f r).eval
def ofOpt.{u} {α : Type u} : Option α → T.{u} α
  | some a => .ret a
  | none => .fail
/-- What a run under a guard comes to: only calls are held back. -/
def T.under.{u} {α : Type u} (c : Bool) : T.{u} α → T.{u} α
  | .ret a => .ret a
  | .bnd o d f => .opt c o d fun r => (f r).under c
  | _ => .fail
/-- What another object of the machine's holds: a map, an entry a row (its key, its value's cells). -/
inductive Q where
  | mp (t : Nat) (es : Rows)
  | it (m : Nat) (n : Int) (seen : List Nat)
/-- A box of cells; the tail of an own slice and its edition. -/
inductive Blk where
  | box (cs : List V)
  | tail (v : Nat)
  | arr (t v : Nat) (es : Rows)
  | obj (q : Q)
structure St where
  ts : List V
  hs : List (Option Blk)
def natIn (n : Nat) : List Nat → Bool
  | [] => false
  | a :: l => bif Nat.beq a n then true else natIn n l
def labIn (p : Nat × Bool) : List (Nat × Bool) → Bool
  | [] => false
  | a :: l => bif (bif Nat.beq a.1 p.1 then a.2 == p.2 else false) then true else labIn p l
def labsIn (L' L : List (Nat × Bool)) : Bool :=
  match L' with
  | [] => true
  | a :: l => bif labIn a L then labsIn l L else false
def strip (L : List (Nat × Bool)) : V → V
  | .when _ L' x => bif labsIn L' L then x else .dead
  | x => x
def ofC1 : Value → V
  | .bool b => .bool b
  | .int k n => .int k n
  | .string s => .str s
  | .slice none 0 0 => .nils
  | _ => .dead
def ofC : Value → V
  | .agg cs => .agg (cs.toList.map ofC1)
  | v => ofC1 v
def getV (ts : List V) (t : Nat) : V := ts.getD t .dead
def ev (ts : List V) (L : List (Nat × Bool)) : Operand → V
  | .tmp t => strip L (getV ts t)
  | .const v => ofC v
  | .func f => .fn f []
  | .global _ => .dead
def bare : V → V
  | .when _ _ _ => .dead
  | x => x
def wrapL (L : List (Nat × Bool)) (c : Bool) (x : V) : V :=
  match L with
  | [] => bare x
  | l => .when c l (bare x)
def putV (L : List (Nat × Bool)) (c : Bool) (ts : List V) (d : Option Nat) (x : V) : List V :=
  match d with
  | some d => ts.set d (wrapL L c x)
  | none => ts
def cellsV : V → Option (List V)
  | .agg cs => some cs
  | .dead => none
  | .when _ _ _ => none
  | x => some [x]
/-- A parameter's kind: of a type; a pointer to what stays; a closure, with what it holds. -/
inductive PT where
  | t (n : Nat)
  | p (e : Nat)
  | fn (f : Nat) (es : List Nat)
instance (n : Nat) : OfNat PT n := ⟨.t n⟩
section types
variable (P : Program)
def sizeT (t : Nat) : Option Nat := (P.info? t).map (·.size)
def bytesT (t : Nat) : Option Nat := (P.info? t).map (·.bytes)
def isAggT (t : Nat) : Bool :=
  match P.underlying t with
  | some (.struct _) | some (.array _ _) => true
  | _ => false
def elemT (t : Nat) : Option Nat :=
  match P.underlying t with
  | some (.slice e) => some e
  | _ => none
def repT (l : List Nat) : Nat → List Nat
  | 0 => []
  | n + 1 => l ++ repT l n
/-- The types of a variable's cells. -/
def cts : Nat → Nat → List Nat
  | 0, _ => []
  | f + 1, t =>
    match P.underlying t with
    | some (.struct fs) => fs.toList.flatMap fun x => cts f x.type
    | some (.array n e) => repT (cts f e) n
    | _ => [t]
/-- What a slice's elements are made of; elements that are slices keep whether they are full. -/
def ctsOf (t : Nat) : List Nat :=
  match P.underlying t with
  | some (.slice _) => [t + 1000]
  | _ => cts P 12 t
/-- The cell of a row, by its type. -/
def etaC (r : Row) (j : Nat) (t : Nat) : V :=
  match P.underlying t with
  | some .bool => .bool (rBool r j)
  | some (.int k) => .int k (rInt r j)
  | some .string => .str (rStr r j)
  | some (.slice e) => .slice e (rSl r j) .open
  | _ => .dead
def etaE (r : Row) (j : Nat) (t : Nat) : V :=
  match P.underlying t with
  | some (.slice e) => .slice e (rSl r j) (.fullq (rFull r j))
  | _ => .dead
def etaX (r : Row) (j : Nat) (t : Nat) : V :=
  match P.underlying t with
  | none => etaE P r j (t - 1000)
  | some _ => etaC P r j t
def etaL (r : Row) : Nat → List Nat → List V
  | _, [] => []
  | j, t :: l => etaX P r j t :: etaL r (j + 1) l
def eta (t : Nat) (r : Row) : List V := etaL P r 0 (ctsOf P t)
/-- All cells of a type are plain. -/
def cOk (u : Nat) : Bool := match P.underlying u with
  | some .bool | some (.int _) | some .string | some (.slice _) => true
  | _ => false
def xOk (u : Nat) : Bool :=
  match P.underlying u with
  | none => (match P.underlying (u - 1000) with | some (.slice _) => true | _ => false)
  | some _ => cOk P u
def ctsOk (t : Nat) : Bool := (ctsOf P t).all (xOk P)
/-- A cell as others may hold it. -/
def norm1 (t : Nat) (x : V) : Option V :=
  match P.underlying t, x with
  | some .bool, .bool b => some (.bool b)
  | some (.int k), .int k' n => bif k == k' then some (.int k n) else none
  | some .string, .str s => some (.str s)
  | some (.slice e), .nils => (sizeT P e).map fun _ => .slice e [] .open
  | some (.slice e), .slice e' es _ => bif Nat.beq e e' then some (.slice e es .open) else none
  | some .bool, _ | some (.int _), _ | some .string, _ | some (.slice _), _ => none
  | _, _ => some .dead
def normE (t : Nat) (x : V) : Option V :=
  match P.underlying t, x with
  | some (.slice e), .nils => (sizeT P e).map fun _ => .slice e [] (.fullq true)
  | some (.slice e), .slice e' es k => bif Nat.beq e e' then some (.slice e es (.fullq (kFull k))) else none
  | _, _ => none
def normX (t : Nat) (x : V) : Option V :=
  match P.underlying t with
  | none => normE P (t - 1000) x
  | some _ => norm1 P t x
def normL : List Nat → List V → Option (List V)
  | [], [] => some []
  | t :: ts, x :: xs => (normX P t x).bind fun y => (normL ts xs).map (y :: ·)
  | _, _ => none
def normA (t : Nat) (x : V) : Option V :=
  match P.underlying t with
  | some (.struct _) | some (.array _ _) =>
    (match x with
    | .agg cs => (normL P (ctsOf P t) cs).map .agg
    | _ => none)
  | _ => norm1 P t x
def normC (e : Nat) : V → Option V
  | .rptr cs => (normL P (ctsOf P e) cs).map .rptr
  | _ => none
def normCs : List Nat → List V → Option (List V)
  | [], [] => some []
  | e :: es, x :: xs => (normC P e x).bind fun y => (normCs es xs).map (y :: ·)
  | _, _ => none
def normP : PT → V → Option V
  | .t n, x => normA P n x
  | .p e, x => normC P e x
  | .fn f es, x => (match x with
    | .fn g xs => bif Nat.beq f g then (normCs P es xs).map (.fn f) else none
    | _ => none)
def normAs : List PT → List V → Option (List V)
  | [], [] => some []
  | t :: ts, x :: xs => (normP P t x).bind fun y => (normAs ts xs).map (y :: ·)
  | _, _ => none
def isAggV : V → Bool
  | .agg _ => true
  | _ => false
/-- One cell's value, known. -/
def isCell : V → Bool
  | .dead | .agg _ | .tuple _ | .when _ _ _ => false
  | _ => true
def ofCs : Value → List V
  | .agg cs => cs.toList.map ofC1
  | v => [ofC1 v]
def zeroV (t : Nat) : Option (List V) := ((P.info? t).bind (·.zero)).map ofCs
def fieldT (t f : Nat) : Option (Nat × Nat) :=
  match P.underlying t with
  | some (.struct fs) => (fs[f]?).bind fun x => (sizeT P x.type).bind fun n => bif Nat.blt 0 n then some (x.offset, x.type) else none
  | _ => none
end types
/-- 'cells', from 'off' on, replaced. -/
def setR : List V → Nat → List V → Option (List V)
  | cs, 0, [] => some cs
  | _ :: cs, 0, x :: xs => (setR cs 0 xs).map (x :: ·)
  | c :: cs, n + 1, xs => (setR cs n xs).map (c :: ·)
  | [], _, [] => some []
  | _, _, _ => none
def getR : List V → Nat → Nat → Option (List V)
  | _, _, 0 => some []
  | [], _, _ + 1 => none
  | c :: cs, 0, n + 1 => (getR cs 0 n).map (c :: ·)
  | _ :: cs, o + 1, n + 1 => getR cs o (n + 1)
def getB (hs : List (Option Blk)) (n : Nat) : Option (List V) :=
  match hs.getD n none with
  | some (.box cs) => some cs
  | _ => none
/-- The rows of an array that may be written into. -/
def getA (hs : List (Option Blk)) (n : Nat) : Option (Nat × Nat × Rows) :=
  match hs.getD n none with
  | some (.arr t v es) => some (t, v, es)
  | _ => none
/-- The entries of a map. -/
def getQ (hs : List (Option Blk)) (n : Nat) : Option (Nat × Rows) :=
  match hs.getD n none with
  | some (.obj (.mp t es)) => some (t, es)
  | _ => none
/-- A walk over a map: the map's slot, how many entries it has, which have been handed out. -/
def getI (hs : List (Option Blk)) (n : Nat) : Option (Nat × Int × List Nat) :=
  match hs.getD n none with
  | some (.obj (.it m k seen)) => some (m, k, seen)
  | _ => none
def lastI (seen : List Nat) : Int :=
  match seen.getLast? with
  | some j => (j : Int)
  | none => -1
def aggZ (P : Program) (e : Nat) : Bool :=
  match (P.info? e).bind (·.zero) with
  | some (.agg _) => true
  | _ => false
/-- A map's value type, its keys being strings. -/
def mapE (P : Program) (t : Nat) : Option Nat :=
  match P.underlying t with
  | some (.map k e) => (match P.underlying k with
    | some .string => bif (match sizeT P e with | some sz => Nat.beq (ctsOf P e).length sz && Nat.blt 0 sz | none => false) && ctsOk P e && (isAggT P e == aggZ P e) && (P.underlying e).isSome then some e else none
    | _ => none)
  | _ => none
def isRptr : V → Bool
  | .rptr _ => true
  | _ => false
/-- What is read of cells, by its type. -/
def loadV (P : Program) (t : Nat) (cs : List V) (off : Nat) : Option V :=
  match P.underlying t with
  | none => none
  | some (.struct _) | some (.array _ _) => (sizeT P t).bind fun n => (getR cs off n).map .agg
  | some _ => cs[off]?
def loV : Option V → Option Int
  | none => some 0
  | some (.int _ n) => some n
  | some _ => none
def hiV : Option V → Option (Option Int)
  | none => some none
  | some (.int _ n) => some (some n)
  | some _ => none
/-- A literal of a number. -/
def litN : Int → Option Nat
  | .ofNat n => some n
  | .negSucc _ => none
def mergeV (c : Bool) : V → V → Option V
  | .bool a, .bool b => some (.bool (bIte c a b))
  | .int k a, .int k' b => bif k == k' then some (.int k (iIte c a b)) else none
  | .str a, .str b => some (.str (sIte c a b))
  | .slice t a _, .slice t' b _ => bif Nat.beq t t' then some (.slice t (rIte c a b) .open) else none
  | _, _ => none
/-- Two cells compared, by their type. -/
def eqC (P : Program) (t : Nat) : V → V → Option Bool
  | .bool a, .bool b => (match P.underlying t with | some .bool => some (bEq a b) | _ => none)
  | .int k a, .int k' b => (match P.underlying t with | some (.int _) => bif k == k' then some (iEq a b) else none | _ => none)
  | .str a, .str b => (match P.underlying t with | some .string => some (sEq a b) | _ => none)
  | _, _ => none
def eqF (P : Program) (xs ys : List V) (f : Field) : Option Bool :=
  bif f.name == "_" then none else
  (match P.underlying f.type with
  | some .bool | some (.int _) | some .string => (xs[f.offset]?).bind fun a => (ys[f.offset]?).bind fun b => eqC P f.type a b
  | _ => none)
def eqFs (P : Program) (xs ys : List V) : List Field → Option Bool
  | [] => none
  | [f] => eqF P xs ys f
  | f :: fs => (eqF P xs ys f).bind fun a => (eqFs P xs ys fs).map (bAnd a)
def eqV (P : Program) (t : Nat) : V → V → Option Bool
  | .agg xs, .agg ys => (match P.underlying t with
    | some (.struct fs) => bif P.stoodInHeld t || P.eqGuardType P.depth t then none else eqFs P xs ys fs.toList
    | _ => none)
  | x, y => eqC P t x y
def isDiv : BinOp → Bool
  | .quo | .rem => true
  | _ => false
/-- What two operands come to, and what has to hold ahead. -/
def binV (P : Program) (t : Nat) (op : BinOp) (x y : V) : Option (V × Option Bool) :=
  match op with
  | .eql => (eqV P t x y).map fun b => (.bool b, none)
  | .neq => (eqV P t x y).map fun b => (.bool (bNot b), none)
  | .shr =>
    (match x, y with
    | .int k a, .int _ b => some (.int k (iShr k a b), some (iLe 0 b))
    | _, _ => none)
  | op =>
    match x, y with
    | .int k a, .int k' b =>
      bif k == k' then
        (match op with
        | .add => some (.int k (iAdd k a b), none)
        | .sub => some (.int k (iSub k a b), none)
        | .mul => some (.int k (iMul k a b), none)
        | .quo => some (.int k (iQuo k a b), some (bNot (iEq b 0)))
        | .rem => some (.int k (iRem a b), some (bNot (iEq b 0)))
        | .and => some (.int k (iAnd k a b), none)
        | .xor => some (.int k (iXor k a b), none)
        | .lss => some (.bool (iLt a b), none)
        | .leq => some (.bool (iLe a b), none)
        | .gtr => some (.bool (iLt b a), none)
        | .geq => some (.bool (iLe b a), none)
        | _ => none)
      else none
    | .str a, .str b =>
      (match op with
      | .add => some (.str (sCat a b), some (sOk (sLen a) (sLen b)))
      | .lss => some (.bool (sLt a b), none)
      | .gtr => some (.bool (bNot (bOr (sLt a b) (sEq a b))), none)
      | .leq => some (.bool (bOr (sLt a b) (sEq a b)), none)
      | .geq => some (.bool (bNot (sLt a b)), none)
      | _ => none)
    | _, _ => none
/-- A slice compared with nil. -/
def nilB (P : Program) (t : Nat) (op : BinOp) : V → V → Option Bool
  | .slice _ _ (.nilq b), .nils => (match op, P.underlying t with | .eql, some (.slice _) => some b | _, _ => none)
  | _, _ => none
/-- A function of the table: its parameters' types, and what it comes to. -/
structure Fun where
  pts : List PT
  den : List V → T V
/-- A function's key in the table: its number, and the closure that it is handed. -/
def keyF (f : Nat) : List V → Nat
  | [] => f
  | .fn g _ :: _ => f + 1000000 * (g + 1)
  | _ :: l => keyF f l
/-- A function that is lent an array, its first argument (or that makes one), and answers with it: its rows, and how many of them. -/
structure FunM where
  el : Nat
  lent : Bool
  pts : List PT
  den : Rows → List V → T (Rows × Int)
  /-- It answers with nothing: the array stays where it is, as long as it is. -/
  unit : Bool
structure Cx where
  P : Program
  fn : Nat → Option Fun
  /-- The slices, by temporary, that may be written into. -/
  ms : List Nat
  /-- The regions at whose start such a slice, by slot, becomes one that stays. -/
  fz : List (Nat × Nat)
  fm : Nat → Option FunM
def hold.{u} {α : Type u} (L : List (Nat × Bool)) (c : Bool) (chk : Option Bool) (k : T.{u} α) : T.{u} α :=
  match chk with
  | none => k
  | some b => (match L with
    | [] => .test b k .fail
    | _ => .test (bImp c b) k .fail)
/-- The slot whose operation a temporary comes from. -/
def idxOf (ops : List Oper) (t : Nat) : Nat → Option Nat
  | i =>
    match ops with
    | [] => none
    | o :: l => (match o.dst with
      | some d => bif Nat.beq d t then some i else idxOf l t (i + 1)
      | none => idxOf l t (i + 1))
def rowsOf (P : Program) (e : Nat) (parts : List (Nat × V)) (rows : Rows) : Option Rows :=
  match parts with
  | [] => some rows
  | (i, x) :: l => ((cellsV x).bind (normL P (ctsOf P e))).bind fun r => bif Nat.blt i rows.length then rowsOf P e l (rows.set i r) else none
def placesV (P : Program) (fs : Array Field) : Option (List (Nat × Nat)) := fs.toList.mapM fun f => (P.info? f.type).map fun i => (f.offset, i.size)
def fillV (pl : List (Nat × Nat)) (parts : List (Nat × V)) (cs : List V) : Option (List V) :=
  match parts with
  | [] => some cs
  | (i, x) :: l => (pl[i]?).bind fun p => (cellsV x).bind fun c => bif Nat.beq c.length p.2 && Nat.ble (p.1 + c.length) cs.length then (setR cs p.1 c).bind (fillV pl l) else none
/-- What an operation comes to that turns nothing, and what has to hold ahead. -/
def pureV (P : Program) (ops : List Oper) (ts : List V) (hs : List (Option Blk)) (L : List (Nat × Bool)) : Op → Option (V × Option Bool)
  | .move x => some (ev ts L x, none)
  | .assign x => some (ev ts L x, none)
  | .pick (.tmp t) a b =>
    (match ev ts L (.tmp t), idxOf ops t 0 with
    | .bool bc, some j => (mergeV bc (ev ts ((j, true) :: L) a) (ev ts ((j, false) :: L) b)).map fun x => (x, none)
    | _, _ => none)
  | .build t parts =>
    (match P.underlying t with
    | some (.struct fs) => (zeroV P t).bind fun z => (placesV P fs).bind fun pl => (fillV pl (parts.toList.map fun p => (p.1, ev ts L p.2)) z).map fun l => (.agg l, none)
    | _ => none)
  | .load t a =>
    (match ev ts L a with
    | .optr b off => (getB hs b).bind fun cs => (loadV P t cs off).map fun x => (x, none)
    | .rptr cs => (loadV P t cs 0).map fun x => (x, none)
    | .eptr el n v i off => (getA hs n).bind fun p => bif Nat.beq p.1 el && Nat.beq p.2.1 v then (loadV P t (eta P el (rAt p.2.2 i)) off).map fun x => (x, none) else none
    | _ => none)
  | .nilCheck x =>
    (match ev ts L x with
    | .optr b off => some (.optr b off, none)
    | .rptr cs => some (.rptr cs, none)
    | .eptr el n v i off => some (.eptr el n v i off, none)
    | _ => none)
  | .binOp op t x y _ => (match nilB P t op (ev ts L x) (ev ts L y) with
    | some b => some (.bool b, none)
    | none => binV P t op (ev ts L x) (ev ts L y))
  | .unOp op _ x =>
    (match op, ev ts L x with
    | .not, .bool b => some (.bool (bNot b), none)
    | .neg, .int k n => some (.int k (iSub k 0 n), none)
    | _, _ => none)
  | .extract x i =>
    (match ev ts L x with
    | .tuple vs => (vs[i]?).map fun x => (x, none)
    | _ => none)
  | .fieldAddr t x f =>
    (match ev ts L x, fieldT P t f with
    | .optr b off, some p => some (.optr b (off + p.1), none)
    | .rptr cs, some p => some (.rptr (cs.drop p.1), none)
    | .eptr el n v i off, some p => some (.eptr el n v i (off + p.1), none)
    | _, _ => none)
  | .field t x f =>
    (match ev ts L x, fieldT P t f with
    | .agg cs, some p => (loadV P p.2 cs p.1).map fun x => (x, none)
    | _, _ => none)
  | .indexAddr t x i =>
    (match P.underlying t, ev ts L x, ev ts L i with
    | some (.slice el), .slice el' es _, .int _ n =>
      bif Nat.beq el el' then some (.rptr (eta P el (rAt es n)), some (iIn n (rLen es))) else none
    | some (.slice el), .sref el' b len, .int _ n => (litN n).bind fun m => (sizeT P el).bind fun sz =>
      bif Nat.beq el el' && Nat.blt m len then some (.optr b (m * sz), none) else none
    | some (.slice el), .aref el' b v lo len, .int _ n =>
      bif Nat.beq el el' then some (.eptr el b v (match lo with | none => n | some l => iPlus l n) 0, some (iIn n len)) else none
    | some (.array len el), .optr b off, .int _ n => (litN n).bind fun m => (sizeT P el).bind fun sz =>
      bif Nat.blt m len then some (.optr b (off + m * sz), none) else none
    | _, _, _ => none)
  | .index t x i =>
    (match P.underlying t, ev ts L x, ev ts L i with
    | some .string, .str b, .int _ n => some (.int .u8 (sAt b n), some (iIn n (sLen b)))
    | _, _, _ => none)
  | .slice t x lo hi none =>
    (match P.underlying t, ev ts L x, loV (lo.map (ev ts L)), hiV (hi.map (ev ts L)) with
    | some .string, .str b, some l, some h =>
      some (.str (sCut b l (h.getD (sLen b))), some (iCut l (h.getD (sLen b)) (sLen b)))
    | some (.slice e0), .aref el b v none len, some l, some h =>
      bif Nat.beq e0 el then (match lo, hi with
        | none, some _ => some (.aref el b v none (h.getD len), some (iCut 0 (h.getD len) len))
        | some _, none => some (.aref el b v (some l) (iMinus len l), some (iCut l len len))
        | _, _ => none) else none
    | some (.slice e0), .slice el es _, some l, some h =>
      bif Nat.beq e0 el then some (.slice el (rCut es l (h.getD (rLen es))) .open, some (iCut l (h.getD (rLen es)) (rLen es))) else none
    | _, _, _, _ => none)
  | .slice t x lo hi (some mx) =>
    (match P.underlying t, ev ts L x, loV (lo.map (ev ts L)), hiV (hi.map (ev ts L)), hiV (some (ev ts L mx)) with
    | some (.slice e0), .slice el es _, some 0, some (some 0), some (some 0) => bif Nat.beq e0 el then some (.slice el [] .full, none) else none
    | some (.slice e0), .nils, some 0, some (some 0), some (some 0) => (sizeT P e0).map fun _ => (.nils, none)
    | _, _, _, _, _ => none)
  | .makeFunc (.func f) first caps =>
    (match first.toList, caps.toList.map (ev ts L) with
    | [], xs => bif xs.all isRptr then some (.fn f xs, none) else none
    | _, _ => none)
  | .entry x =>
    (match ev ts L x with
    | .it d m => (getI hs d).bind fun q => (getQ hs m).bind fun p => (mapE P p.1).bind fun e =>
        bif Nat.beq q.1 m then (loadV P e (eta P e ((rAt p.2 (lastI q.2.2)).drop 1)) 0).map fun v => (.tuple [.str (rStr (rAt p.2 (lastI q.2.2)) 0), v], some (bAnd (iEq q.2.1 (rLen p.2)) (iIn (lastI q.2.2) (rLen p.2))))
        else none
    | _ => none)
  | .lookup t x i ok =>
    (match mapE P t, ev ts L x, ev ts L i with
    | some e, .mref n, .str s => (getQ hs n).bind fun p => bif Nat.beq p.1 t then
        ((zeroV P e).bind (normL P (ctsOf P e))).bind fun z => (loadV P e (eta P e (mGet p.2 s z)) 0).map fun x => (bif ok then .tuple [x, .bool (mHas p.2 s)] else x, none)
      else none
    | _, _, _ => none)
  | .convert src dst x =>
    (match P.underlying src, P.underlying dst, ev ts L x with
    | some (.int _), some (.int k), .int _ n => some (.int k (iCv k n), none)
    | some .string, some .string, .str b => some (.str b, none)
    | some (.slice e0), some .string, .slice el es _ => (match P.underlying el with
      | some (.int .u8) => bif Nat.beq e0 el then some (.str (sRows es), none) else none
      | _ => none)
    | _, _, _ => none)
  | .call cl =>
    (match cl.callee, cl.args.toList.map (ev ts L) with
    | .builtin .len, [x] => (match (cl.argTypes[0]?).bind P.underlying, x with
      | some .string, .str b => some (.int .i64 (sLen b), none)
      | some (.slice _), .slice _ es _ => some (.int .i64 (rLen es), none)
      | some (.slice _), .nils => some (.int .i64 0, none)
      | some (.slice _), .aref _ _ _ _ len => some (.int .i64 len, none)
      | _, _ => none)
    | .builtin .max, [.int k a, .int k' b] => bif k == k' then some (.int k (iMax a b), none) else none
    | .builtin .min, [.int k a, .int k' b] => bif k == k' then some (.int k (iMin a b), none) else none
    | .builtin .max, [.int k a, .int k' b, .int k'' c] => bif k == k' && k == k'' then some (.int k (iMax (iMax a b) c), none) else none
    | .builtin .min, [.int k a, .int k' b, .int k'' c] => bif k == k' && k == k'' then some (.int k (iMin (iMin a b) c), none) else none
    | _, _ => none)
  | _ => none
/-- What two slices come to, appended: the rows, the slice's kind, the slot that turns. -/
def appV (hs : List (Option Blk)) (ms : List Nat) (d el : Nat) (fs : Rows) : V → Option (Rows × K × Nat × Nat × Int)
  | .nils => (match hs.getD d none with
    | none => some (fs, (bif natIn d ms then .open else .own d 0), d, 0, 0)
    | some _ => none)
  | .slice el' es (.fullq _) => (match hs.getD d none with
    | none => bif Nat.beq el el' then (bif natIn d ms then none else some (rCat es fs, .own d 0, d, 0, rLen es)) else none
    | some _ => none)
  | .slice el' es .full => (match hs.getD d none with
    | none => bif Nat.beq el el' then (bif natIn d ms then (match es with | [] => some (fs, .open, d, 0, 0) | _ => none) else some (rCat es fs, .own d 0, d, 0, rLen es)) else none
    | some _ => none)
  | .aref el' n v none len => (match hs.getD n none with
    | some (.arr el'' v' es) => bif Nat.beq v v' && Nat.beq el el' && Nat.beq el el'' then some (rCat (rTake es len) fs, .open, n, v + 1, len) else none
    | _ => none)
  | .slice el' es (.own n v) => (match hs.getD n none with
    | some (.tail v') => bif Nat.beq v v' && Nat.beq el el' then some (rCat es fs, .own n (v + 1), n, v + 1, rLen es) else none
    | _ => none)
  | _ => none
def fullT : V → Option Bool
  | .slice _ _ (.fullq b) => some b
  | _ => none
def testO {α : Type} : Option Bool → T α → T α
  | some b, x => .test b x .fail
  | none, x => x
def restV (el : Nat) : V → Option Rows
  | .nils => some []
  | .slice el' fs _ => bif Nat.beq el el' then some fs else none
  | _ => none
def isOwnK : K → Bool
  | .own _ _ => true
  | _ => false
def sameOp : Operand → Operand → Bool
  | .tmp a, .tmp b => Nat.beq a b
  | .const (.int _ a), .const (.int _ b) => a == b
  | _, _ => false
/-- A part of an array. -/
def partR (es : Rows) (lo : Option Int) (len : Int) : Rows :=
  match lo with
  | none => rTake es len
  | some l => rCut es l (iPlus l len)
/-- An array, as a call that only looks at it finds it. -/
def lend0 (hs : List (Option Blk)) : V → V
  | .aref t n v lo len => (match getA hs n with
    | some p => bif Nat.beq p.1 t && Nat.beq p.2.1 v then .slice t (partR p.2.2 lo len) .open else .dead
    | none => .dead)
  | x => x
def lendV (hs : List (Option Blk)) : V → V
  | .agg cs => .agg (cs.map (lend0 hs))
  | x => lend0 hs x
/-- The arrays of a value. -/
def slots0 : V → List Nat
  | .aref _ n _ _ _ => [n]
  | _ => []
def slotsV : V → List Nat
  | .agg cs => cs.flatMap slots0
  | x => slots0 x
def scalar1 : V → Bool
  | .bool _ | .int _ _ | .str _ => true
  | _ => false
def scalarV : V → Bool
  | .tuple l => l.all scalar1
  | x => scalar1 x
/-- The slot that a function with an array turns, its next edition, the rows that it finds, the other arguments. -/
def partM (P : Program) (hs : List (Option Blk)) (ms : List Nat) (d : Nat) (M : FunM) (xs caps : List V) : Option (Nat × Nat × Rows × List V) :=
  bif M.lent then
    (match xs with
    | .aref el n v none len :: rest => (match getA hs n with
      | some p => bif Nat.beq el M.el && Nat.beq p.1 el && Nat.beq p.2.1 v then (normAs P M.pts (rest ++ caps)).map fun as => (n, v + 1, rTake p.2.2 len, as) else none
      | none => none)
    | _ => none)
  else bif natIn d ms && Nat.blt d hs.length then
    (match hs.getD d none with
    | none => (normAs P M.pts (xs ++ caps)).map fun as => (d, 0, [], as)
    | some _ => none)
  else none
/-- What turns: the value of the operation's slot; an own slot's block. -/
structure Dl where
  x : V
  b : Option (Nat × Blk)
/-- The array that a call turns, where it is of a function with an array. -/
def armM (C : Cx) (s : St) (L : List (Nat × Bool)) (dst : Option Nat) (f : Nat) (xs caps : List V) : Option (FunM × (Nat × Nat × Rows × List V)) :=
  match L, dst with
  | [], some d => (C.fm (keyF f xs)).bind fun M => (partM C.P s.hs C.ms d M xs caps).map fun q => (M, q)
  | _, _ => none
/-- A call of a function. -/
def callV (C : Cx) (s : St) (L : List (Nat × Bool)) (c : Bool) (dst : Option Nat) (f : Nat) (xs caps : List V) : T Dl :=
  bif Nat.blt f 1000000 then
    (match armM C s L dst f xs caps with
    | some (M, q) => bif M.unit then
        (match getA s.hs q.1 with
        | some p => .test (iEq (rLen q.2.2.1) (rLen p.2.2)) ((M.den q.2.2.1 q.2.2.2).bind fun r => .ret ⟨.tuple [], some (q.1, .arr M.el p.2.1 r.1)⟩) .fail
        | none => .fail)
      else (M.den q.2.2.1 q.2.2.2).bind fun r => .ret ⟨.aref M.el q.1 q.2.1 none r.2, some (q.1, .arr M.el q.2.1 r.1)⟩
    | none => (match C.fn (keyF f xs) with
      | some F => (match normAs C.P F.pts (xs ++ caps) with
        | some as => (match L with
          | [] => (F.den as).bind fun r => .ret ⟨r, none⟩
          | _ => ((F.den as).under c).bind fun r => .ret ⟨r, none⟩)
        | none => (match L, normAs C.P F.pts (xs.map (lendV s.hs) ++ caps) with
          | [], some as => (F.den as).bind fun r => bif scalarV r then .ret ⟨r, none⟩ else .fail
          | _, _ => .fail))
      | none => .fail))
  else .fail
/-- The builtin clear. -/
def clearV (C : Cx) (s : St) (L : List (Nat × Bool)) (dst : Option Nat) (cl : Call) : T Dl :=
  match L, (cl.argTypes[0]?).bind (elemT C.P), cl.args.toList.map (ev s.ts []), dst with
  | [], some el, [.aref el' n v lo len], none =>
    (match getA s.hs n, sizeT C.P el, (zeroV C.P el).bind (normL C.P (ctsOf C.P el)) with
    | some p, some sz, some z =>
      bif Nat.beq el el' && Nat.beq p.1 el && Nat.beq p.2.1 v && Nat.beq (ctsOf C.P el).length sz && Nat.blt 0 sz && ctsOk C.P el then
        .ret ⟨.dead, some (n, .arr el v (rFill p.2.2 (lo.getD 0) (iPlus (lo.getD 0) len) z))⟩
      else .fail
    | _, _, _ => .fail)
  | _, _, _, _ => .fail
def isClear : Callee → Bool
  | .builtin .clear => true
  | _ => false
/-- The operations that turn maps. -/
def mapD (P : Program) (s : St) (L : List (Nat × Bool)) (dst : Option Nat) : Op → T Dl
  | .makeMap t none =>
    (match L, dst with
    | [], some d => (match s.hs.getD d none, mapE P t with
      | none, some _ => bif Nat.blt d s.hs.length then .ret ⟨.mref d, some (d, .obj (.mp t []))⟩ else .fail
      | _, _ => .fail)
    | _, _ => .fail)
  | .range t x =>
    (match L, dst with
    | [], some d => (match s.hs.getD d none, mapE P t, ev s.ts [] x with
      | none, some _, .mref m => (match getQ s.hs m with
        | some p => bif Nat.beq p.1 t && Nat.blt d s.hs.length then .ret ⟨.it d m, some (d, .obj (.it m (rLen p.2) []))⟩ else .fail
        | none => .fail)
      | _, _, _ => .fail)
    | _, _ => .fail)
  | .mapUpdate t m k x =>
    (match L, dst with
    | [], none => (match mapE P t, ev s.ts [] m, ev s.ts [] k with
      | some e, .mref n, .str ks => (match getQ s.hs n, (cellsV (ev s.ts [] x)).bind (normL P (ctsOf P e)) with
        | some p, some r => bif Nat.beq p.1 t && (isAggT P e == isAggV (ev s.ts [] x)) then .ret ⟨.dead, some (n, .obj (.mp t (mSet p.2 ks r)))⟩ else .fail
        | _, _ => .fail)
      | _, _, _ => .fail)
    | _, _ => .fail)
  | _ => .fail
/-- One operation. 'L': the labels under which it runs; 'c': their tests. -/
def opD (C : Cx) (ops : List Oper) (L : List (Nat × Bool)) (c : Bool) (s : St) (o : Oper) : T Dl :=
  match pureV C.P ops s.ts s.hs L o.op with
  | some x => hold L c x.2 (.ret ⟨x.1, none⟩)
  | none =>
  match o.op, L, o.dst with
  | .alloc t, [], some d => (match s.hs.getD d none, zeroV C.P t with
      | none, some cs => bif Nat.blt d s.hs.length then .ret ⟨.optr d 0, some (d, .box cs)⟩ else .fail
      | _, _ => .fail)
  | .box _ x, [], some d => (match s.hs.getD d none, cellsV (ev s.ts [] x) with
      | none, some cs => bif Nat.blt d s.hs.length then .ret ⟨.optr d 0, some (d, .box cs)⟩ else .fail
      | _, _ => .fail)
  | .buildSlice t len parts, L, _ =>
    (match elemT C.P t with
    | some el => (match sizeT C.P el, (zeroV C.P el).bind (normL C.P (ctsOf C.P el)) with
      | some sz, some z => bif Nat.ble (len * sz) 4096 && Nat.blt 0 sz && Nat.beq (ctsOf C.P el).length sz then
          (match rowsOf C.P el (parts.toList.map fun p => (p.1, ev s.ts L p.2)) (List.replicate len z) with
          | some rows => (match L, o.dst with
            | [], some d => bif natIn d C.ms then
                (match s.hs.getD d none with
                | none => bif Nat.blt d s.hs.length then .ret ⟨.sref el d len, some (d, .box rows.flatten)⟩ else .fail
                | some _ => .fail)
              else .ret ⟨.slice el rows .full, none⟩
            | _, _ => .ret ⟨.slice el rows .full, none⟩)
          | none => .fail)
        else .fail
      | _, _ => .fail)
    | none => .fail)
  | .store t a x, [], none =>
    (match ev s.ts [] a, sizeT C.P t, cellsV (ev s.ts [] x) with
    | .eptr el b v i off, some n, some c => (match getA s.hs b with
      | some p => bif Nat.beq p.1 el && Nat.beq p.2.1 v && Nat.beq c.length n && c.all isCell && Nat.blt 0 n then
          (match (setR (eta C.P el (rAt p.2.2 i)) off c).bind (normL C.P (ctsOf C.P el)) with
          | some r => .ret ⟨.dead, some (b, .arr el v (rSet p.2.2 i r))⟩
          | none => .fail)
        else .fail
      | none => .fail)
    | .optr b off, some n, some c => (match getB s.hs b with
      | some cs => bif Nat.beq c.length n && c.all isCell then
          (match setR cs off c with
          | some cs' => .ret ⟨.dead, some (b, .box cs')⟩
          | none => .fail)
        else .fail
      | none => .fail)
    | _, _, _ => .fail)
  | .makeSlice t len cap, [], some d =>
    (match elemT C.P t, ev s.ts [] len, ev s.ts [] cap, s.hs.getD d none with
    | some el, .int .i64 n, .int .i64 m, none =>
      (match bytesT C.P el, sizeT C.P el, (zeroV C.P el).bind (normL C.P (ctsOf C.P el)) with
      | some by_, some sz, some z =>
        bif Nat.blt 0 sz && Nat.beq (ctsOf C.P el).length sz && Nat.blt 0 by_ && Nat.blt d s.hs.length then
          (bif sameOp len cap then
            .test (rOk by_ 0 n) (.test (iLe 0 n) (.ret (bif natIn d C.ms then ⟨.aref el d 0 none n, some (d, .arr el 0 (rMake n z))⟩ else ⟨.slice el (rMake n z) .full, none⟩)) .fail) .fail
          else bif natIn d C.ms then
            .test (rOk by_ 0 m) (.test (bAnd (iLe 0 n) (iLe n m)) (.ret ⟨.aref el d 0 none n, some (d, .arr el 0 (rMake n z))⟩) .fail) .fail
          else .fail)
        else .fail
      | _, _, _ => .fail)
    | _, _, _, _ => .fail)
  | .call cl, L, _ =>
    (match cl.callee with
    | .builtin .append =>
      (match L, (cl.argTypes[0]?).bind (elemT C.P), (cl.argTypes[1]?).bind (elemT C.P), cl.args.toList.map (ev s.ts []), o.dst with
      | [], some el, some _, [x, y], some d =>
        (match bytesT C.P el, sizeT C.P el, restV el y, (restV el y).bind fun fs => appV s.hs C.ms d el fs x with
        | some by_, some sz, some fs, some r =>
          bif Nat.blt 0 sz && Nat.beq (ctsOf C.P el).length sz && ctsOk C.P el && Nat.blt r.2.2.1 s.hs.length && Nat.blt 0 by_ && Nat.beq ((zeroV C.P el).getD []).length sz then
            testO (fullT x) (bif isOwnK r.2.1 then .test (rOk by_ r.2.2.2.2 (rLen fs)) (.ret ⟨.slice el r.1 r.2.1, some (r.2.2.1, .tail r.2.2.2.1)⟩) .fail
            else .test (rOk by_ r.2.2.2.2 (rLen fs)) (.ret ⟨.aref el r.2.2.1 r.2.2.2.1 none (rLen r.1), some (r.2.2.1, .arr el r.2.2.2.1 r.1)⟩) .fail)
          else .fail
        | _, _, _, _ => .fail)
      | _, _, _, _, _ => .fail)
    | .value g =>
      (match ev s.ts L g with
      | .fn f caps => callV C s L c o.dst f (cl.args.toList.map (ev s.ts L)) caps
      | _ => .fail)
    | _ => bif isClear cl.callee then clearV C s L o.dst cl else .fail)
  | op, L, dst => mapD C.P s L dst op
def putD (L : List (Nat × Bool)) (c : Bool) (s : St) (o : Oper) (d : Dl) : St :=
  ⟨putV L c s.ts o.dst d.x, match d.b with | some p => s.hs.set p.1 (some p.2) | none => s.hs⟩
/-- The labels and the test of a guard. -/
def labOf (ops : List Oper) (ts : List V) (g : Option (Nat × Bool)) : Option (List (Nat × Bool) × Bool) :=
  match g with
  | none => some ([], true)
  | some (j, w) =>
    match (ops[j]?).bind (·.dst) with
    | none => none
    | some d =>
      match getV ts d with
      | .bool b => some ([(j, w)], bif w then b else bNot b)
      | .when c L (.bool b) => some ((j, w) :: L, bAnd c (bif w then b else bNot b))
      | _ => none
def stepV (C : Cx) (ops : List Oper) (s : St) (i : Nat) : T St :=
  match ops[i]? with
  | none => .fail
  | some o =>
    match labOf ops s.ts o.guard with
    | none => .fail
    | some p => (opD C ops p.1 p.2 s o).bind fun d => .ret (putD p.1 p.2 s o d)
def opsV (C : Cx) (ops : List Oper) : List Nat → St → T St
  | [], s => .ret s
  | i :: l, s => (stepV C ops s i).bind (opsV C ops l)
/-- The own slots that an operation looks at (false) or turns (true). -/
def fpO (L : List (Nat × Bool)) (ts : List V) (o : Oper) : List (Nat × Bool) :=
  match o.op with
  | .alloc _ | .box _ _ | .buildSlice _ _ _ => (match o.dst with | some d => [(d, true)] | none => [])
  | .load _ a => (match ev ts L a with | .optr b _ => [(b, false)] | .eptr _ b _ _ _ => [(b, false)] | _ => [])
  | .store _ a _ => (match ev ts [] a with | .optr b _ => [(b, true)] | .eptr _ b _ _ _ => [(b, true)] | _ => [])
  | .makeSlice _ _ _ | .makeMap _ _ => (match o.dst with | some d => [(d, true)] | none => [])
  | .entry x => (match ev ts L x with | .it d m => [(d, false), (m, false)] | _ => [])
  | .range _ x => (match ev ts [] x with | .mref m => [(m, false)] | _ => []) ++ (match o.dst with | some d => [(d, true)] | none => [])
  | .lookup _ x _ _ => (match ev ts L x with | .mref n => [(n, false)] | _ => [])
  | .mapUpdate _ m _ _ => (match ev ts [] m with | .mref n => [(n, true)] | _ => [])
  | .call cl =>
    (match cl.args.toList.map (ev ts []) with
    | [.slice _ _ (.own n _), _] => [(n, true)]
    | _ => []) ++ ((cl.args.toList.map (ev ts [])).flatMap slotsV).map (fun n => (n, true)) ++ (match o.dst with | some d => [(d, true)] | none => [])
  | _ => []
def fpV (ops : List Oper) (s : St) (i : Nat) : List (Nat × Bool) :=
  match ops[i]? with
  | none => []
  | some o =>
    match labOf ops s.ts o.guard with
    | none => []
    | some p => fpO p.1 s.ts o
def fpOk (f g : List (Nat × Bool)) : Bool := f.all fun p => g.all fun q => !Nat.beq p.1 q.1 || (!p.2 && !q.2)
def edgeB (o : Oper) (x : Nat) : Bool := o.after.toList.any fun e => Nat.beq e.on x && Region.binds .any e
/-- An operation that an edge, or a chain of edges, puts behind another. -/
def edgeT (ops : List Oper) : Nat → Oper → Nat → Bool
  | 0, o, x => edgeB o x
  | n + 1, o, x => edgeB o x || o.after.toList.any fun e => Region.binds .any e && (match ops[e.on]? with | some p => edgeT ops n p x | none => false)
def anyOk (ops : List Oper) (x : Nat × List (Nat × Bool)) (i : Nat) (f : List (Nat × Bool)) : Bool :=
  match ops[x.1]?, ops[i]? with
  | some a, some b => edgeB b x.1 || (Oper.apart ops.toArray a b && fpOk x.2 f) || edgeT ops 3 b x.1
  | _, _ => false
/-- A run of operations of which the order is left open: each two that no edge orders do not meet. -/
def opsA (C : Cx) (ops : List Oper) : List (Nat × List (Nat × Bool)) → List Nat → St → T St
  | _, [], s => .ret s
  | acc, i :: l, s =>
    let f := fpV ops s i
    bif acc.all (anyOk ops · i f) then (stepV C ops s i).bind (opsA C ops ((i, f) :: acc) l) else .fail
def edgesOk (ops : List Oper) : Bool := (List.range ops.length).all fun i => match ops[i]? with
  | some o => o.after.toList.all fun e => !Region.binds .any e || Nat.blt e.on i
  | none => true
/-- No other operation writes what a guard looks at. -/
def oneDst (ops : List Oper) (j : Nat) : Bool :=
  match (ops[j]?).bind (·.dst) with
  | none => false
  | some d => (List.range ops.length).all fun k => Nat.beq k j || (match (ops[k]?).bind (·.dst) with | some d' => !Nat.beq d d' | none => true)
def guardsOk (ops : List Oper) : Bool :=
  (List.range ops.length).all fun i => match (ops[i]?).bind (·.guard) with
    | none => true
    | some g => Nat.blt g.1 i && oneDst ops g.1 && (match ops[i]? with | some o => edgeB o g.1 | none => false)
inductive X where
  | normal
  | exit (id : Nat)
  | ret
/-- What a loop (by its first region) comes to. -/
abbrev Subs := Nat → Option (St → T (X × St))
def keyOf : Code → Nat
  | .region id _ _ => id
  | .seq a b => (match a with | .skip => keyOf b | a => keyOf a)
  | .block _ c | .loop c | .scope c => keyOf c
  | _ => 1000000
def anyGuard (ops : List Oper) : Bool := ops.any fun o => o.guard.isSome
/-- The cells of a box, as rows that stay. -/
def chunkV (P : Program) (el sz : Nat) : Nat → List V → Option Rows
  | 0, [] => some []
  | 0, _ :: _ => none
  | n + 1, cs => (normL P (ctsOf P el) (cs.take sz)).bind fun r => (chunkV P el sz n (cs.drop sz)).map (r :: ·)
/-- A cell as others may hold it, whatever its type. -/
def frzC : V → V
  | .bool b => .bool b
  | .int k m => .int k m
  | .str s => .str s
  | .nils => .nils
  | .slice t es _ => .slice t es .open
  | _ => .dead
/-- A cell that stays. -/
def stays : V → Bool
  | .bool _ | .int _ _ | .str _ | .nils | .dead => true
  | .slice _ _ .open => true
  | _ => false
def staysP : V → Bool
  | .rptr cs => cs.all stays
  | _ => false
/-- A value, after the slot n has become a row that stays. -/
def frz0 (P : Program) (hs : List (Option Blk)) (n : Nat) : V → V
  | .bool b => .bool b
  | .int k m => .int k m
  | .str s => .str s
  | .nils => .nils
  | .fn f caps => bif caps.all staysP then .fn f caps else .dead
  | .rptr cs => bif cs.all stays then .rptr cs else .dead
  | .slice t es _ => .slice t es .open
  | .aref t m v lo len => (match getA hs m with
    | some p => bif Nat.beq p.2.1 v && Nat.beq p.1 t then (bif Nat.beq m n then (.slice t (partR p.2.2 lo len) .open) else .aref t m v lo len) else .dead
    | none => .dead)
  | .eptr t m v i off => (match getA hs m with
    | some p => bif Nat.beq p.2.1 v && Nat.beq p.1 t && !Nat.beq m n then .eptr t m v i off else .dead
    | none => .dead)
  | .mref m => bif Nat.beq m n then .dead else .mref m
  | .it d m => bif Nat.beq d n then .dead else .it d m
  | .optr m off => bif Nat.beq m n then (match getB hs n with | some cs => .rptr ((cs.map frzC).drop off) | none => .dead) else .optr m off
  | .sref t m len => bif Nat.beq m n then (match (sizeT P t).bind fun sz => (getB hs n).bind fun cs => bif Nat.beq (ctsOf P t).length sz then chunkV P t sz len cs else none with | some rows => .slice t rows .open | none => .dead) else .sref t m len
  | _ => .dead
def frz1 (P : Program) (hs : List (Option Blk)) (n : Nat) : V → V
  | .agg cs => .agg (cs.map (frz0 P hs n))
  | x => frz0 P hs n x
def frzB (P : Program) (hs : List (Option Blk)) (n : Nat) : Option Blk → Option Blk
  | some (.box cs) => some (.box (cs.map (frz1 P hs n)))
  | some (.arr t v es) => some (.arr t v es)
  | some (.obj q) => some (.obj q)
  | _ => none
def frzS (P : Program) (n : Nat) (s : St) : St :=
  match getB s.hs n with
  | some _ => ⟨s.ts.map (frz1 P s.hs n), (s.hs.map (frzB P s.hs n)).set n none⟩
  | none => (match getA s.hs n with
    | some _ => ⟨s.ts.map (frz1 P s.hs n), (s.hs.map (frzB P s.hs n)).set n none⟩
    | none => s)
def frzL (P : Program) (id : Nat) : List (Nat × Nat) → St → St
  | [], s => s
  | p :: l, s => frzL P id l (bif Nat.beq p.1 id then frzS P p.2 s else s)
/-- The id of a function's end, for slots that stay only there. -/
def endId : Nat := 999999
def codeV (C : Cx) (S : Subs) : Code → St → T (X × St)
  | .skip, s => .ret (.normal, s)
  | .region id ops draw, s =>
    bif !anyGuard ops.toList || guardsOk ops.toList then
      (bif draw then (bif edgesOk ops.toList && C.P.follows .mixedOrders then opsA C ops.toList [] (List.range ops.size) (frzL C.P id C.fz s) else .fail) else opsV C ops.toList (List.range ops.size) (frzL C.P id C.fz s)).bind fun s =>
        .ret (.normal, bif anyGuard ops.toList then ⟨s.ts.map bare, s.hs⟩ else s)
    else .fail
  | .seq a b, s => (codeV C S a s).bind fun r =>
    match r with
    | (.normal, s) => codeV C S b s
    | r => .ret r
  | .cond c a b, s =>
    (match ev s.ts [] c with
    | .bool t => .test t (codeV C S a s) (codeV C S b s)
    | _ => .fail)
  | .block id c, s => (codeV C S c s).bind fun r =>
    match r with
    | (.exit i, s) => bif Nat.beq i id then .ret (.normal, s) else .ret (.exit i, s)
    | r => .ret r
  | .loop c, s => (match S (keyOf c) with
    | some f => f s
    | none => .fail)
  | .exit id, s => .ret (.exit id, s)
  | .ret, s => .ret (.ret, s)
  | .label _, s => .ret (.normal, s)
  | _, _ => .fail
def resV (P : Program) (s : St) : List ResultVar → Option (List V)
  | [] => some []
  | .tmp t :: l => (resV P s l).map (getV s.ts t :: ·)
  | .cell a t :: l =>
    match getV s.ts a with
    | .optr b off => (getB s.hs b).bind fun cs => (loadV P t cs off).bind fun x => (resV P s l).map (x :: ·)
    | _ => none
def oneV : List V → V
  | [x] => x
  | l => .tuple l
def startV (n : Nat) (args : List V) : St := ⟨args ++ List.replicate (n - args.length) .dead, List.replicate n none⟩
def funV (C : Cx) (S : Subs) (fn : Func) (args : List V) : T V :=
  match fn.body with
  | none => .fail
  | some c => (codeV C S c (startV fn.ntmps args)).bind fun r =>
    match r with
    | (.exit _, _) => .fail
    | (_, s) => ofOpt (((resV C.P (frzL C.P endId C.fz s) fn.results.toList).bind (normAs C.P (fn.resultTypes.toList.map .t))).map oneV)
/-- The first n statements of a body; what is behind them. -/
def headC : Nat → Code → Code
  | n + 1, .seq a b => .seq a (headC n b)
  | _, _ => .skip
def tailC : Nat → Code → Code
  | n + 1, .seq a b => tailC n b
  | _, c => c
def cutF (n : Nat) (fn : Func) : Func := { fn with body := some (headC n (fn.body.getD .skip)) }
/-- The entries of the map that a temporary holds, behind a body. -/
def funQV (C : Cx) (S : Subs) (fn : Func) (t : Nat) (args : List V) : T Rows :=
  (codeV C S (fn.body.getD .skip) (startV fn.ntmps args)).bind fun r =>
    match r with
    | (.normal, s) => ofOpt (match getV s.ts t with | .mref n => (getQ s.hs n).map (·.2) | _ => none)
    | _ => .fail
/-- A call that is lent an array, or makes one. -/
def startM (n el : Nat) (lent : Bool) (es : Rows) (args : List V) : St :=
  bif lent then ⟨(.aref el 0 0 none (rLen es) :: args) ++ List.replicate (n - (args.length + 1)) .dead, some (.arr el 0 es) :: List.replicate (n - 1) none⟩ else startV n args
def resM (P : Program) (el : Nat) (s : St) (fn : Func) : Option (Rows × Int) :=
  match resV P s fn.results.toList with
  | some [.aref el' n v none len] => (match getA s.hs n with
    | some p => bif Nat.beq el' el && Nat.beq p.1 el && Nat.beq p.2.1 v then some (p.2.2, len) else none
    | none => none)
  | some [.nils] => (match sizeT P el with
    | some sz => bif Nat.blt 0 sz then some ([], 0) else none
    | none => none)
  | _ => none
def funMV (C : Cx) (S : Subs) (fn : Func) (el : Nat) (lent : Bool) (es : Rows) (args : List V) : T (Rows × Int) :=
  match fn.body with
  | none => .fail
  | some c => (codeV C S c (startM fn.ntmps el lent es args)).bind fun r =>
    match r with
    | (.exit _, _) => .fail
    | (_, s) => ofOpt (resM C.P el (frzL C.P endId C.fz s) fn)
end Go.Proofs.YtolackmpfnndhaaGreatDoor.Ev
