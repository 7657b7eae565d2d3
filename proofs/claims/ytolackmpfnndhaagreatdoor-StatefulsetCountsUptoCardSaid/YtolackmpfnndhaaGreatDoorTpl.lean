/- Templates of states: what stays known at a loop's head. Conditions: stated at each. -/
import Derived.Test.YtolackmpfnndhaaGreatDoorRun
namespace Go.Proofs.YtolackmpfnndhaaGreatDoor.Ev
open Go
set_option linter.unusedVariables false
/-- The shape of a temporary; the datum in it. -/
inductive Sh where
  | bool
  | int (k : IntKind)
  | str
  | sl (t : Nat) (own : Option Nat)
  | row (t : Nat)
  | ptr (n off : Nat)
  | aref (t n : Nat)
  | rptr (t : Nat)
  | fn (f : Nat) (es : List Nat)
  | mref (n : Nat)
inductive At where
  | u
  | b (x : Bool)
  | i (x : Int)
  | s (x : ByteArray)
  | r (x : Rows)
  | w (x : Row)
  | c (x : List Row)
/-- A slice of a temporary (or of a box's cell) made an own one. -/
inductive Ad where
  | tmp (t n e : Nat)
  | cell (b j n e : Nat)
structure Tpl where
  n : Nat
  ads : List Ad
  tmps : List (Nat × Sh)
  boxes : List (Nat × List Sh)
  rows : List (Nat × Nat)
  arrs : List (Nat × Nat) := []
def vPtr : V → Row
  | .rptr cs => cs
  | _ => []
def vCaps : V → List V
  | .fn _ xs => xs
  | _ => []
section
variable (P : Program)
def ownV (e n : Nat) (hs : List (Option Blk)) : V → Option (V × List (Option Blk))
  | .nils => (match hs.getD n none, sizeT P e with
    | none, some _ => bif Nat.blt n hs.length then some (.slice e [] (.own n 0), hs.set n (some (.tail 0))) else none
    | _, _ => none)
  | .slice e' es .full => (match hs.getD n none with
    | none => bif Nat.blt n hs.length then some (.slice e' es (.own n 0), hs.set n (some (.tail 0))) else none
    | _ => none)
  | x => some (x, hs)
def adV : Ad → St → Option St
  | .tmp t n e, s => (ownV P e n s.hs (getV s.ts t)).map fun p => ⟨s.ts.set t p.1, p.2⟩
  | .cell b j n e, s => (match s.hs.getD b none with
    | some (.box cs) => (match cs[j]? with
      | some x => (ownV P e n s.hs x).bind fun p => bif Nat.beq n b then none else some ⟨s.ts, p.2.set b (some (.box (cs.set j p.1)))⟩
      | none => none)
    | _ => none)
def adsV : List Ad → St → Option St
  | [], s => some s
  | a :: l, s => (adV P a s).bind (adsV l)
/-- A value's datum, by its shape. -/
def cutV (hs : List (Option Blk)) : Sh → V → Option At
  | .bool, .bool b => some (.b b)
  | .int k, .int k' n => bif k == k' then some (.i n) else none
  | .str, .str s => some (.s s)
  | .sl t none, .nils => (sizeT P t).map fun _ => .r []
  | .sl t none, .slice t' es _ => bif Nat.beq t t' then some (.r es) else none
  | .sl t (some n), .slice t' es (.own n' v) => (match hs.getD n none with
    | some (.tail v') => bif Nat.beq t t' && Nat.beq n n' && Nat.beq v v' then some (.r es) else none
    | _ => none)
  | .row t, .agg cs => (normL P (ctsOf P t) cs).map .w
  | .aref t n, .aref t' n' v none len => (match hs.getD n none with
    | some (.arr t'' v' _) => bif Nat.beq t t' && Nat.beq n n' && Nat.beq v v' && Nat.beq t t'' then some (.i len) else none
    | _ => none)
  | .rptr t, .rptr cs => (normL P (ctsOf P t) cs).map .w
  | .fn f es, .fn g xs => bif Nat.beq f g then (normCs P es xs).map fun ys => .c (ys.map vPtr) else none
  | .ptr n off, .optr n' off' => bif Nat.beq n n' && Nat.beq off off' then some .u else none
  | .mref n, .mref n' => bif Nat.beq n n' then some .u else none
  | _, _ => none
def fillC : List Nat → List Row → List V
  | e :: es, r :: rs => .rptr (eta P e r) :: fillC es rs
  | _, _ => []
def fillV1 : Sh → At → V
  | .bool, .b x => .bool x
  | .int k, .i n => .int k n
  | .str, .s x => .str x
  | .sl t none, .r es => .slice t es .open
  | .sl t (some n), .r es => .slice t es (.own n 0)
  | .row t, .w r => .agg (eta P t r)
  | .ptr n off, _ => .optr n off
  | .mref n, _ => .mref n
  | .aref t n, .i len => .aref t n 0 none len
  | .rptr t, .w r => .rptr (eta P t r)
  | .fn f es, .c rs => .fn f (fillC P es rs)
  | _, _ => .dead
def cutTs (s : St) : List (Nat × Sh) → Option (List At)
  | [] => some []
  | p :: l => (cutV P s.hs p.2 (getV s.ts p.1)).bind fun a => (cutTs s l).map (a :: ·)
def cutCs (hs : List (Option Blk)) : List Sh → List V → Option (List At)
  | [], [] => some []
  | p :: l, x :: xs => (cutV P hs p x).bind fun a => (cutCs hs l xs).map (a :: ·)
  | _, _ => none
def cutBs (hs : List (Option Blk)) : List (Nat × List Sh) → Option (List (List At))
  | [] => some []
  | p :: l => (getB hs p.1).bind fun cs => (cutCs P hs p.2 cs).bind fun a => (cutBs hs l).map (a :: ·)
def cutRs (hs : List (Option Blk)) : List (Nat × Nat) → Option (List Row)
  | [] => some []
  | p :: l => (getB hs p.1).bind fun cs => (normL P (ctsOf P p.2) cs).bind fun a => (cutRs hs l).map (a :: ·)
def cutMs (hs : List (Option Blk)) : List (Nat × Nat) → Option (List Rows)
  | [] => some []
  | p :: l => (match hs.getD p.1 none with
    | some (.arr t v es) => bif Nat.beq t p.2 && Nat.blt p.2 1000000 then (cutMs hs l).map (es :: ·) else none
    | some (.obj (.mp t es)) => bif Nat.beq (1000000 + t) p.2 then (cutMs hs l).map (es :: ·) else none
    | _ => none)
/-- An array of a template, or (from 1000000 on) a map. -/
def blkM (t : Nat) (es : Rows) : Blk := bif Nat.blt t 1000000 then .arr t 0 es else .obj (.mp (t - 1000000) es)
def fillTs (ts : List V) : List (Nat × Sh) → List At → List V
  | p :: l, a :: as => (fillTs ts l as).set p.1 (fillV1 P p.2 a)
  | _, _ => ts
def fillCs : List Sh → List At → List V
  | p :: l, a :: as => fillV1 P p a :: fillCs l as
  | _, _ => []
def fillBs (hs : List (Option Blk)) : List (Nat × List Sh) → List (List At) → List (Option Blk)
  | p :: l, a :: as => (fillBs hs l as).set p.1 (some (.box (fillCs P p.2 a)))
  | _, _ => hs
def fillRs (hs : List (Option Blk)) : List (Nat × Nat) → List Row → List (Option Blk)
  | p :: l, a :: as => (fillRs hs l as).set p.1 (some (.box (eta P p.2 a)))
  | _, _ => hs
def fillMs (hs : List (Option Blk)) : List (Nat × Nat) → List Rows → List (Option Blk)
  | p :: l, a :: as => (fillMs hs l as).set p.1 (some (blkM p.2 a))
  | _, _ => hs
def arefsOf : List Sh → List (Nat × Nat)
  | [] => []
  | .aref t n :: l => (t, n) :: arefsOf l
  | _ :: l => arefsOf l
def mrefsOf : List Sh → List Nat
  | [] => []
  | .mref n :: l => n :: mrefsOf l
  | _ :: l => mrefsOf l
def tailsOf : List Sh → List Nat
  | [] => []
  | .sl _ (some n) :: l => n :: tailsOf l
  | _ :: l => tailsOf l
def ptrsOf : List Sh → List Nat
  | [] => []
  | .ptr n _ :: l => n :: ptrsOf l
  | _ :: l => ptrsOf l
def setTails (hs : List (Option Blk)) : List Nat → List (Option Blk)
  | [] => hs
  | n :: l => (setTails hs l).set n (some (.tail 0))
def Tpl.shs (tp : Tpl) : List Sh := tp.tmps.map (·.2) ++ tp.boxes.flatMap (·.2)
/-- The data of a template: temporaries, boxes by cells, boxes by rows. -/
structure Dt where
  a : List At
  b : List (List At)
  r : List Row
  m : List Rows := []
def fillS (tp : Tpl) (d : Dt) : St :=
  ⟨fillTs P (List.replicate tp.n .dead) tp.tmps d.a, fillMs (fillRs P (fillBs P (setTails (List.replicate tp.n none) (tailsOf tp.shs)) tp.boxes d.b) tp.rows d.r) tp.arrs d.m⟩
def isTail (hs : List (Option Blk)) (n : Nat) : Bool := match hs.getD n none with | some (.tail 0) => true | _ => false
def isArr (hs : List (Option Blk)) (p : Nat × Nat) : Bool := match hs.getD p.2 none with | some (.arr t 0 _) => Nat.beq t p.1 | _ => false
def isObj (hs : List (Option Blk)) (n : Nat) : Bool := match hs.getD n none with | some (.obj _) => true | _ => false
def isBox (hs : List (Option Blk)) (n : Nat) : Bool := match hs.getD n none with | some (.box _) => true | _ => false
def cutS (tp : Tpl) (s : St) : Option Dt :=
  (adsV P tp.ads s).bind fun s => (cutTs P s tp.tmps).bind fun a => (cutBs P s.hs tp.boxes).bind fun b => (cutRs P s.hs tp.rows).bind fun r => (cutMs s.hs tp.arrs).bind fun m =>
    bif Nat.beq tp.n s.ts.length && (tailsOf tp.shs).all (isTail (fillS P tp ⟨a, b, r, m⟩).hs) && (ptrsOf tp.shs).all (isBox (fillS P tp ⟨a, b, r, m⟩).hs) && (arefsOf tp.shs).all (isArr (fillS P tp ⟨a, b, r, m⟩).hs) && (mrefsOf tp.shs).all (isObj (fillS P tp ⟨a, b, r, m⟩).hs) then some ⟨a, b, r, m⟩ else none
end
/-- Where a round may leave to, and in which shape. -/
structure LoopT where
  head : Tpl
  exits : X → Option Tpl
/-- One round: on (the head's data anew), or away. -/
def roundV (C : Cx) (S : Subs) (lt : LoopT) (c : Code) (d : Dt) : T (Dt ⊕ (X × Dt)) :=
  (codeV C S c (fillS C.P lt.head d)).bind fun p =>
    match p.1 with
    | .normal => ofOpt ((cutS C.P lt.head p.2).map .inl)
    | x => ofOpt ((lt.exits x).bind fun tp => (cutS C.P tp p.2).map fun d => .inr (x, d))
def aB : At → Bool
  | .b x => x
  | _ => false
def aI : At → Int
  | .i x => x
  | _ => 0
def aS : At → ByteArray
  | .s x => x
  | _ => ⟨#[]⟩
def aR : At → Rows
  | .r x => x
  | _ => []
def aW : At → Row
  | .w x => x
  | _ => []
def aC : At → List Row
  | .c x => x
  | _ => []
def aN (l : List At) (i : Nat) : At := l.getD i .u
section
variable (P : Program)
def canonC : List Nat → Nat → List Row → List Row
  | [], _, _ => []
  | e :: es, i, rs => eta P e (rs.getD i []) :: canonC es (i + 1) rs
def canonA : Sh → At → At
  | .bool, a => .b (aB a)
  | .int _, a => .i (aI a)
  | .str, a => .s (aS a)
  | .sl _ _, a => .r (aR a)
  | .row t, a => .w (eta P t (aW a))
  | .ptr _ _, _ => .u
  | .mref _, _ => .u
  | .aref _ _, a => .i (aI a)
  | .rptr t, a => .w (eta P t (aW a))
  | .fn _ es, a => .c (canonC P es 0 (aC a))
def canonTs : List Sh → Nat → List At → List At
  | [], _, _ => []
  | p :: l, i, as => canonA P p (aN as i) :: canonTs l (i + 1) as
def canonBs : List (Nat × List Sh) → Nat → List (List At) → List (List At)
  | [], _, _ => []
  | p :: l, i, as => canonTs P p.2 0 (as.getD i []) :: canonBs l (i + 1) as
def canonRs : List (Nat × Nat) → Nat → List Row → List Row
  | [], _, _ => []
  | p :: l, i, as => eta P p.2 (as.getD i []) :: canonRs l (i + 1) as
def canonMs : List (Nat × Nat) → Nat → List Rows → List Rows
  | [], _, _ => []
  | _ :: l, i, as => as.getD i [] :: canonMs l (i + 1) as
def canonD (tp : Tpl) (d : Dt) : Dt := ⟨canonTs P (tp.tmps.map (·.2)) 0 d.a, canonBs P tp.boxes 0 d.b, canonRs P tp.rows 0 d.r, canonMs tp.arrs 0 d.m⟩
end
/-- A loop: what its data come to, as the table holds it. -/
def loopV (P : Program) (lt : LoopT) (den : Dt → T (X × Dt)) (s : St) : T (X × St) :=
  match cutS P lt.head s with
  | none => .fail
  | some d => (den (canonD P lt.head d)).bind fun p => match lt.exits p.1 with
    | some tp => .ret (p.1, fillS P tp p.2)
    | none => .fail
def out1 {R : Type} (o : Option R) (d : R) (p : R → X × Dt) : T (X × Dt) := .bnd o d fun r => .ret (p r)
def out2 {R S : Type} (o : Option (R ⊕ S)) (p : R → X × Dt) (q : S → X × Dt) : T (X × Dt) := .cas o (fun r => .ret (p r)) (fun r => .ret (q r))
def out3 {R S U : Type} (o : Option (R ⊕ (S ⊕ U))) (p : R → X × Dt) (q : S → X × Dt) (t : U → X × Dt) : T (X × Dt) := .cas o (fun r => .ret (p r)) (fun r => .cas (some r) (fun r => .ret (q r)) (fun r => .ret (t r)))
/-- Rounds, by a number of them. -/
def iter {A R : Type} (step : A → T (A ⊕ R)) : Nat → A → Option R
  | 0, _ => none
  | k + 1, a => (step a).eval.bind fun | .inl b => iter step k b | .inr r => some r
def vBool : V → Bool
  | .bool b => b
  | _ => false
def vInt : V → Int
  | .int _ n => n
  | _ => 0
def vStr : V → ByteArray
  | .str s => s
  | _ => ⟨#[]⟩
def vRows : V → Rows
  | .slice _ es _ => es
  | _ => []
def vRow : V → Row
  | .agg cs => cs
  | _ => []
def vN (as : List V) (i : Nat) : V := as.getD i .dead
section
variable (P : Program)
def canonV (t : Nat) (x : V) : V :=
  match P.underlying t with
  | some .bool => .bool (vBool x)
  | some (.int k) => .int k (vInt x)
  | some .string => .str (vStr x)
  | some (.slice e) => .slice e (vRows x) .open
  | some (.struct _) | some (.array _ _) => .agg (eta P t (vRow x))
  | _ => .dead
def canonCs : List Nat → Nat → List V → List V
  | [], _, _ => []
  | e :: es, i, xs => .rptr (eta P e (vPtr (vN xs i))) :: canonCs es (i + 1) xs
def canonP : PT → V → V
  | .t n, x => canonV P n x
  | .p e, x => .rptr (eta P e (vPtr x))
  | .fn f es, x => .fn f (canonCs P es 0 (vCaps x))
def canonAs : List PT → Nat → List V → List V
  | [], _, _ => []
  | t :: ts, i, as => canonP P t (vN as i) :: canonAs ts (i + 1) as
end
/-- A function of the table, of what is printed for it. -/
def mkFun {R : Type} (pts : List PT) (g : List V → T R) (d : R) (enc : R → V) : Fun := ⟨pts, fun as => .bnd (g as).eval d fun r => .ret (enc r)⟩
/-- A table of functions, a row each. -/
def mkFunM (el : Nat) (lent : Bool) (pts : List PT) (g : Rows → List V → T (Rows × Int)) : FunM := ⟨el, lent, pts, fun es as => .bnd (g es as).eval default fun r => .ret r, false⟩
def mkFunU (el : Nat) (pts : List PT) (g : Rows → List V → T (Rows × Int)) : FunM := ⟨el, true, pts, fun es as => .bnd (g es as).eval default fun r => .ret r, true⟩
def tab.{u} {α : Type u} (l : List (Nat × α)) (f : Nat) : Option α :=
  match l with
  | [] => none
  | p :: l => bif Nat.beq p.1 f then some p.2 else tab l f
def bs (l : List Nat) : ByteArray := ⟨⟨l.map UInt8.ofNat⟩⟩
/-- Parts of a row, joined. -/
def rJ : List Row → Row
  | [] => []
  | r :: l => r ++ rJ l
/-- The loops of code, those in loops left out. -/
def loopsOf : Code → List Code
  | .seq a b => loopsOf a ++ loopsOf b
  | .cond _ a b => loopsOf a ++ loopsOf b
  | .block _ c => loopsOf c
  | .loop c => [c]
  | _ => []
def lp (c : Code) (i : Nat) : Code := (loopsOf c).getD i .skip
def bodyF (fn : Func) : Code := fn.body.getD .skip
def mapT.{u, v} {α : Type u} {β : Type v} (f : α → β) (t : T.{u} α) : T.{v} β := t.bind fun a => .ret (f a)
/-- slices.Clone. -/
def cloneM (t el by_ : Nat) : FunM := mkFunM el false [.t t] (fun _ as => .test (rOk by_ 0 (rLen (vRows (vN as 0)))) (.ret (vRows (vN as 0), rLen (vRows (vN as 0)))) .fail)
def cloneF (t el by_ : Nat) : Fun := mkFun [.t t] (fun as => .test (rOk by_ 0 (rLen (vRows (vN as 0)))) (.ret (vRows (vN as 0))) .fail) default (fun r => .slice el r .open)
end Go.Proofs.YtolackmpfnndhaaGreatDoor.Ev
