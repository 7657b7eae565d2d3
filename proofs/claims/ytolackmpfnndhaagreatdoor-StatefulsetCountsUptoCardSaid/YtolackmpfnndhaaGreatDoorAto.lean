/- The words of the abstract run: plain operations on data. Conditions: stated at each. -/
import GoSem.Step
import Derived.KernelRfl
namespace Go.Proofs.YtolackmpfnndhaaGreatDoor.Ev
open Go
/-- The name of an own slice (a slot and its edition), a slice that is full, or one that may not be appended to. -/
inductive K where | full | own (n v : Nat) | open | nilq (b : Bool) | fullq (b : Bool)
/-- The values of the abstract run. -/
inductive V where
  | dead
  | bool (b : Bool)
  | int (k : IntKind) (n : Int)
  | str (s : ByteArray)
  | agg (cs : List V)
  | tuple (vs : List V)
  | nils
  | slice (t : Nat) (es : List (List V)) (k : K)
  | optr (n off : Nat)
  | sref (t n len : Nat)
  | rptr (cs : List V)
  | aref (t n v : Nat) (lo : Option Int) (len : Int)
  | eptr (t n v : Nat) (i : Int) (off : Nat)
  | when (c : Bool) (L : List (Nat × Bool)) (x : V)
  | fn (f : Nat) (caps : List V)
  | mref (n : Nat)
  | it (n m : Nat)
def kFull : K → Bool
  | .full => true
  | .fullq b => b
  | _ => false
abbrev Row := List V
abbrev Rows := List (List V)
def bNot (b : Bool) : Bool := !b
def bImp (c b : Bool) : Bool := !c || b
def bAnd (a b : Bool) : Bool := a && b
def bOr (a b : Bool) : Bool := a || b
def bIte (c a b : Bool) : Bool := bif c then a else b
def bEq (a b : Bool) : Bool := a == b
def iIte (c : Bool) (a b : Int) : Int := bif c then a else b
def sIte (c : Bool) (a b : ByteArray) : ByteArray := bif c then a else b
def rIte (c : Bool) (a b : Rows) : Rows := bif c then a else b
def iLt (a b : Int) : Bool := decide (a < b)
def iLe (a b : Int) : Bool := decide (a ≤ b)
def iEq (a b : Int) : Bool := a == b
def iAdd (k : IntKind) (a b : Int) : Int := k.wrap (a + b)
def iSub (k : IntKind) (a b : Int) : Int := k.wrap (a - b)
def iMul (k : IntKind) (a b : Int) : Int := k.wrap (a * b)
def iQuo (k : IntKind) (a b : Int) : Int := k.wrap (a.tdiv b)
def iRem (a b : Int) : Int := a.tmod b
def iAnd (k : IntKind) (a b : Int) : Int := k.wrap (((BitVec.ofInt k.bits a) &&& (BitVec.ofInt k.bits b)).toNat : Int)
def iXor (k : IntKind) (a b : Int) : Int := k.wrap (((BitVec.ofInt k.bits a) ^^^ (BitVec.ofInt k.bits b)).toNat : Int)
def iShr (k : IntKind) (a b : Int) : Int := a.fdiv (2 ^ (min b.toNat k.bits))
def iMax (a b : Int) : Int := if b > a then b else a
def iMin (a b : Int) : Int := if b < a then b else a
def iCv (k : IntKind) (a : Int) : Int := k.wrap a
def iPlus (a b : Int) : Int := a + b
def iMinus (a b : Int) : Int := a - b
def iIn (i n : Int) : Bool := decide (0 ≤ i ∧ i < n)
def iCut (l h n : Int) : Bool := decide (0 ≤ l ∧ l ≤ h ∧ h ≤ n)
def sEq (s t : ByteArray) : Bool := s.toList == t.toList
def sLt (s t : ByteArray) : Bool := Op.bytesLess s.toList t.toList
def sLen (s : ByteArray) : Int := (s.size : Int)
def sAt (s : ByteArray) (i : Int) : Int := ((s.data.getD i.toNat 0).toNat : Int)
def sCut (s : ByteArray) (l h : Int) : ByteArray := s.extract l.toNat h.toNat
def sCat (s t : ByteArray) : ByteArray := s ++ t
def sOk (n m : Int) : Bool := decide (n + m ≤ 9223372036854775807)
def rLen (es : Rows) : Int := (es.length : Int)
def rAt (es : Rows) (i : Int) : Row := es.getD i.toNat []
def rCat (es fs : Rows) : Rows := es ++ fs
def rCut (es : Rows) (l h : Int) : Rows := (es.take h.toNat).drop l.toNat
def rSet (es : Rows) (i : Int) (r : Row) : Rows := es.set i.toNat r
def rMake (n : Int) (r : Row) : Rows := List.replicate n.toNat r
def rFill (es : Rows) (l h : Int) (r : Row) : Rows := es.mapIdx fun i q => if l.toNat ≤ i ∧ i < h.toNat then r else q
def rTake (es : Rows) (n : Int) : Rows := es.take n.toNat
def rOk (bytes : Nat) (n m : Int) : Bool := decide ((n + m) * bytes ≤ 140737488355328)
def rBool (r : Row) (j : Nat) : Bool := match r.getD j .dead with | .bool b => b | _ => false
def rInt (r : Row) (j : Nat) : Int := match r.getD j .dead with | .int _ n => n | _ => 0
def rStr (r : Row) (j : Nat) : ByteArray := match r.getD j .dead with | .str s => s | _ => ⟨#[]⟩
def rSl (r : Row) (j : Nat) : Rows := match r.getD j .dead with | .slice _ es _ => es | _ => []
def rFull (r : Row) (j : Nat) : Bool := match r.getD j .dead with | .slice _ _ k => kFull k | _ => false
def sCmp (s t : ByteArray) : Int := bif Op.bytesLess s.toList t.toList then -1 else bif s.toList == t.toList then 0 else 1
def insC (q : Row) (es : Rows) : Rows := match es with | [] => [q] | a :: l => bif sLt (rStr a 0) (rStr q 0) then a :: insC q l else q :: a :: l
def sortC (es : Rows) : Rows := es.foldr insC []
def mHas (es : Rows) (s : ByteArray) : Bool := es.any fun r => sEq (rStr r 0) s
def mGet (es : Rows) (s : ByteArray) (z : Row) : Row := match es.find? fun r => sEq (rStr r 0) s with | some r => r.drop 1 | none => z
def mSet (es : Rows) (s : ByteArray) (r : Row) : Rows := match es.findIdx? fun r => sEq (rStr r 0) s with | some i => es.set i (.str s :: r) | none => es ++ [.str s :: r]
def mOk (es : Rows) : Bool := match es with | [] => true | q :: l => !mHas l (rStr q 0) && mOk l
def rBytes (s : ByteArray) : Rows := s.toList.map fun b => [.int .u8 b.toNat]
def sRows (es : Rows) : ByteArray := ⟨(es.map fun r => UInt8.ofNat (match r.getD 0 .dead with | .int _ n => n.toNat | _ => 0)).toArray⟩
def iByte (k : IntKind) (n : Int) : ByteArray := ⟨#[UInt8.ofNat n.toNat]⟩
end Go.Proofs.YtolackmpfnndhaaGreatDoor.Ev
