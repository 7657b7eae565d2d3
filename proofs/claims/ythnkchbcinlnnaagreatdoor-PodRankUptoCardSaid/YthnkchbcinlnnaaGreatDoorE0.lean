/- Go functions as Lean functions, printed by a program of this claim's author; each with its proof. Conditions: stated at each. -/
import Derived.Test.YthnkchbcinlnnaaGreatDoorBld
import Derived.Test.YthnkchbcinlnnaaGreatDoorSndE
import Derived.Test.YthnkchbcinlnnaaGreatDoorProg
namespace Go.Proofs.YthnkchbcinlnnaaGreatDoor.Ev
open Go
set_option linter.unusedVariables false
set_option maxRecDepth 100000
/-- A row in its type's form. -/
noncomputable abbrev et (t : Nat) (r : Row) : Row := eta Tryz.prog t r
/-- A part of a row, in its type's form. -/
noncomputable abbrev eo (t : Nat) (r : Row) (o : Nat) : Row := etaL Tryz.prog r o (ctsOf Tryz.prog t)
/-- Where the library's functions lie in this program. -/
def lay_ins_ren : Shelf.Ren := ⟨fun n => bif Nat.beq n 20 then 144 else n, fun n => bif Nat.beq n 24 then 103 else bif Nat.beq n 22 then 66 else bif Nat.beq n 3 then 3 else bif Nat.beq n 25 then 157 else bif Nat.beq n 4 then 4 else bif Nat.beq n 0 then 0 else n, fun n => n⟩
theorem lay_ins : SlLaysF0.n20 Tryz.prog lay_ins_ren where
  mixed := by kernel_rfl
  f20 := ⟨ "slices.insertionSortCmpFunc[orchestrator/api.Field]", by kernel_rfl, Tryz.func144.trans (congrArg some (by kernel_rfl))⟩
  t0 := by kernel_rfl
  a0 := fun w => by kernel_rfl
  z0 := fun w => by kernel_rfl
  v0 := fun w => by kernel_rfl
  t3 := by kernel_rfl
  a3 := fun w => by kernel_rfl
  z3 := fun w => by kernel_rfl
  v3 := fun w => by kernel_rfl
  t4 := by kernel_rfl
  a4 := fun w => by kernel_rfl
  z4 := fun w => by kernel_rfl
  v4 := fun w => by kernel_rfl
  t22 := by kernel_rfl
  a22 := fun w => by kernel_rfl
  z22 := fun w => by kernel_rfl
  v22 := fun w => by kernel_rfl
  t25 := by kernel_rfl
  a25 := fun w => by kernel_rfl
  z25 := fun w => by kernel_rfl
  v25 := fun w => by kernel_rfl
/-- Where the library's functions lie in this program. -/
def lay_cmp_ren : Shelf.Ren := ⟨fun n => bif Nat.beq n 106 then 94 else bif Nat.beq n 213 then 131 else bif Nat.beq n 265 then 146 else n, fun n => bif Nat.beq n 9 then 9 else bif Nat.beq n 3 then 3 else n, fun n => n⟩
theorem lay_cmp : Lays.n106 Tryz.prog lay_cmp_ren where
  mixed := by kernel_rfl
  f106 := by kernel_rfl
  f213 := by kernel_rfl
  f265 := by kernel_rfl
  t3 := by kernel_rfl
  a3 := fun w => by kernel_rfl
  z3 := fun w => by kernel_rfl
  v3 := fun w => by kernel_rfl
  t9 := by kernel_rfl
  a9 := fun w => by kernel_rfl
  z9 := fun w => by kernel_rfl
  v9 := fun w => by kernel_rfl
/-- Where the library's functions lie in this program. -/
def lay_wb_ren : Shelf.Ren := ⟨fun n => bif Nat.beq n 166 then 86 else bif Nat.beq n 167 then 90 else bif Nat.beq n 169 then 52 else bif Nat.beq n 170 then 51 else bif Nat.beq n 240 then 127 else bif Nat.beq n 276 then 142 else n, fun n => bif Nat.beq n 0 then 0 else bif Nat.beq n 3 then 3 else bif Nat.beq n 4 then 4 else bif Nat.beq n 5 then 5 else bif Nat.beq n 9 then 9 else bif Nat.beq n 20 then 20 else bif Nat.beq n 37 then 83 else bif Nat.beq n 70 then 95 else bif Nat.beq n 72 then 97 else bif Nat.beq n 75 then 146 else bif Nat.beq n 80 then 100 else bif Nat.beq n 127 then 153 else bif Nat.beq n 164 then 189 else n, fun n => n⟩
theorem lay_wb : Lays.n167 Tryz.prog lay_wb_ren where
  mixed := by kernel_rfl
  f167 := by kernel_rfl
  f240 := by kernel_rfl
  f276 := by kernel_rfl
  t0 := by kernel_rfl
  a0 := fun w => by kernel_rfl
  z0 := fun w => by kernel_rfl
  v0 := fun w => by kernel_rfl
  t4 := by kernel_rfl
  a4 := fun w => by kernel_rfl
  z4 := fun w => by kernel_rfl
  v4 := fun w => by kernel_rfl
  t5 := by kernel_rfl
  a5 := fun w => by kernel_rfl
  z5 := fun w => by kernel_rfl
  v5 := fun w => by kernel_rfl
  t9 := by kernel_rfl
  a9 := fun w => by kernel_rfl
  z9 := fun w => by kernel_rfl
  v9 := fun w => by kernel_rfl
  t20 := by kernel_rfl
  a20 := fun w => by kernel_rfl
  z20 := fun w => by kernel_rfl
  v20 := fun w => by kernel_rfl
  t37 := by kernel_rfl
  a37 := fun w => by kernel_rfl
  z37 := fun w => by kernel_rfl
  v37 := fun w => by kernel_rfl
  t70 := by kernel_rfl
  a70 := fun w => by kernel_rfl
  z70 := fun w => by kernel_rfl
  v70 := fun w => by kernel_rfl
  t72 := by kernel_rfl
  a72 := fun w => by kernel_rfl
  z72 := fun w => by kernel_rfl
  v72 := fun w => by kernel_rfl
  t75 := by kernel_rfl
  a75 := fun w => by kernel_rfl
  z75 := fun w => by kernel_rfl
  v75 := fun w => by kernel_rfl
  t164 := by kernel_rfl
  a164 := fun w => by kernel_rfl
  z164 := fun w => by kernel_rfl
  v164 := fun w => by kernel_rfl
/-- Where the library's functions lie in this program. -/
theorem lay_ws : Lays.n166 Tryz.prog lay_wb_ren where
  mixed := by kernel_rfl
  f166 := by kernel_rfl
  f240 := by kernel_rfl
  f276 := by kernel_rfl
  t0 := by kernel_rfl
  a0 := fun w => by kernel_rfl
  z0 := fun w => by kernel_rfl
  v0 := fun w => by kernel_rfl
  t3 := by kernel_rfl
  a3 := fun w => by kernel_rfl
  z3 := fun w => by kernel_rfl
  v3 := fun w => by kernel_rfl
  t4 := by kernel_rfl
  a4 := fun w => by kernel_rfl
  z4 := fun w => by kernel_rfl
  v4 := fun w => by kernel_rfl
  t9 := by kernel_rfl
  a9 := fun w => by kernel_rfl
  z9 := fun w => by kernel_rfl
  v9 := fun w => by kernel_rfl
  t20 := by kernel_rfl
  a20 := fun w => by kernel_rfl
  z20 := fun w => by kernel_rfl
  v20 := fun w => by kernel_rfl
  t37 := by kernel_rfl
  a37 := fun w => by kernel_rfl
  z37 := fun w => by kernel_rfl
  v37 := fun w => by kernel_rfl
  t70 := by kernel_rfl
  a70 := fun w => by kernel_rfl
  z70 := fun w => by kernel_rfl
  v70 := fun w => by kernel_rfl
  t72 := by kernel_rfl
  a72 := fun w => by kernel_rfl
  z72 := fun w => by kernel_rfl
  v72 := fun w => by kernel_rfl
  t75 := by kernel_rfl
  a75 := fun w => by kernel_rfl
  z75 := fun w => by kernel_rfl
  v75 := fun w => by kernel_rfl
  t164 := by kernel_rfl
  a164 := fun w => by kernel_rfl
  z164 := fun w => by kernel_rfl
  v164 := fun w => by kernel_rfl
/-- Where the library's functions lie in this program. -/
theorem lay_st : Lays.n169 Tryz.prog lay_wb_ren where
  mixed := by kernel_rfl
  f169 := by kernel_rfl
  t0 := by kernel_rfl
  a0 := fun w => by kernel_rfl
  z0 := fun w => by kernel_rfl
  v0 := fun w => by kernel_rfl
  t3 := by kernel_rfl
  a3 := fun w => by kernel_rfl
  z3 := fun w => by kernel_rfl
  v3 := fun w => by kernel_rfl
  t9 := by kernel_rfl
  a9 := fun w => by kernel_rfl
  z9 := fun w => by kernel_rfl
  v9 := fun w => by kernel_rfl
  t37 := by kernel_rfl
  a37 := fun w => by kernel_rfl
  z37 := fun w => by kernel_rfl
  v37 := fun w => by kernel_rfl
  t70 := by kernel_rfl
  a70 := fun w => by kernel_rfl
  z70 := fun w => by kernel_rfl
  v70 := fun w => by kernel_rfl
  t72 := by kernel_rfl
  a72 := fun w => by kernel_rfl
  z72 := fun w => by kernel_rfl
  v72 := fun w => by kernel_rfl
  t127 := by kernel_rfl
  a127 := fun w => by kernel_rfl
  z127 := fun w => by kernel_rfl
  v127 := fun w => by kernel_rfl
/-- Where the library's functions lie in this program. -/
theorem lay_len : Lays.n170 Tryz.prog lay_wb_ren where
  mixed := by kernel_rfl
  f170 := by kernel_rfl
  t0 := by kernel_rfl
  a0 := fun w => by kernel_rfl
  z0 := fun w => by kernel_rfl
  v0 := fun w => by kernel_rfl
  t3 := by kernel_rfl
  a3 := fun w => by kernel_rfl
  z3 := fun w => by kernel_rfl
  v3 := fun w => by kernel_rfl
  t37 := by kernel_rfl
  a37 := fun w => by kernel_rfl
  z37 := fun w => by kernel_rfl
  v37 := fun w => by kernel_rfl
  t70 := by kernel_rfl
  a70 := fun w => by kernel_rfl
  z70 := fun w => by kernel_rfl
  v70 := fun w => by kernel_rfl
  t72 := by kernel_rfl
  a72 := fun w => by kernel_rfl
  z72 := fun w => by kernel_rfl
  v72 := fun w => by kernel_rfl
theorem lay_bx : Builder.Extra Tryz.prog lay_wb_ren where
  sizeBuilder := by kernel_rfl
  liesBuilder := by kernel_rfl
  t5 := by kernel_rfl
  a5 := fun w => by kernel_rfl
  z5 := fun w => by kernel_rfl
  v5 := fun w => by kernel_rfl
  infoByte := by kernel_rfl
  cellsByte := by kernel_rfl
  sizeByte := by kernel_rfl
  neB5 := by decide
namespace value_text
noncomputable def C (k : Nat) : Cx := ⟨Tryz.prog, tab [], [], [], tab []⟩
noncomputable def t2 : LoopT := ⟨⟨29, [], [(0, .str), (5, .int .i64), (6, .int .i64)], [], [], []⟩, (fun | .ret => some ⟨29, [], [(2, .bool)], [], [], []⟩ | .exit 0 => some ⟨29, [], [(0, .str)], [], [], []⟩ | _ => none)⟩
noncomputable def s2 (k : Nat) (c0 : ByteArray) (c1 : Int) (x : Int) : T (Int ⊕ (Bool ⊕ Unit)) :=
  .test (iLt x c1)
   (.test (iIn x (sLen c0))
    (.test (bImp (bNot (iEq (sAt c0 x) (10))) (iIn x (sLen c0)))
     (.test (bImp (bAnd (bNot (iEq (sAt c0 x) (10))) (bNot (iLt (sAt c0 x) (32)))) (iIn x (sLen c0)))
      (.test (bIte (bNot (iEq (sAt c0 x) (10))) (bIte (iLt (sAt c0 x) (32)) true (iLt (126) (sAt c0 x))) false)
       (.ret (.inr (.inl false)))
       (.ret (.inl (iAdd .i64 x (1)))))
      (.fail))
     (.fail))
    (.fail))
   (.ret (.inr (.inr ())))
noncomputable def a2 (c0 : ByteArray) (c1 : Int) (x : Int) : Dt := ⟨[.s c0, .i c1, .i x], [], [], []⟩
noncomputable def o2_0 (c0 : ByteArray) (c1 : Int) (r : Bool) : X × Dt := (.ret, ⟨[.b r], [], [], []⟩)
noncomputable def o2_1 (c0 : ByteArray) (c1 : Int) (r : Unit) : X × Dt := (.exit 0, ⟨[.s c0], [], [], []⟩)
noncomputable def e2 (k : Nat) (d : Dt) : T (X × Dt) := out2 (iter (s2 k (aS (aN d.a 0)) (aI (aN d.a 1))) k (aI (aN d.a 2))) (o2_0 (aS (aN d.a 0)) (aI (aN d.a 1))) (o2_1 (aS (aN d.a 0)) (aI (aN d.a 1)))
noncomputable def S (k : Nat) : Subs := fun n => bif Nat.beq n 2 then some (loopV Tryz.prog t2 (e2 k)) else none
noncomputable def f (k : Nat) (a0 : ByteArray) : T Bool :=
  .cas (iter (value_text.s2 k a0 (sLen a0)) k (0)) (fun r0 =>
   .ret r0) (fun r1 =>
   .ret (iLe (sLen a0) (200)))
noncomputable def d (k : Nat) : Fun := mkFun [9] (fun as_ => f k (vStr (vN as_ 0))) default (fun r => .bool r)
theorem hC (k : Nat) : CxOk (C k) := CxOk.nil
theorem l2 (k : Nat) : LoopOk Tryz.prog (S k) (lp (bodyF (Go.Proofs.Tryz.f141)) 0) := loopOk_mk (C := C k) (hC k) (Loops.all (n := 0) (by kernel_rfl) trivial) (lt := t2) (den := e2 k) (by kernel_rfl) (N := (ByteArray × Int)) (A := Int) (R := (Bool ⊕ Unit))
 (fun n x => a2 n.1 n.2 x) (fun n r => Sum.elim (o2_0 n.1 n.2) (o2_1 n.1 n.2) r) (fun n x => s2 k n.1 n.2 x) k (fun d => ((aS (aN d.a 0)), (aI (aN d.a 1)))) (fun d => (aI (aN d.a 2))) (fun d y h => out2_eval h) (fun d => by kernel_rfl) (fun n x => by kernel_rfl) (fun n r => by rcases r with r | r <;> exact ⟨_, rfl⟩)
theorem ok (k : Nat) : FunOk Tryz.prog 141 (d k) := fun_mk (C := C k) (hC k) (S := S k) Tryz.func141 (by kernel_rfl) (by kernel_rfl) (Loops.all (n := 1) (by kernel_rfl) ⟨trivial, l2 k⟩) (fun as_ => by kernel_rfl)
end value_text
namespace value_scalar
noncomputable def C (k : Nat) : Cx := ⟨Tryz.prog, tab [(141, value_text.d k)], [], [], tab []⟩
noncomputable def S (k : Nat) : Subs := fun n => none
noncomputable def f (k : Nat) (a0 : Row) : T Bool :=
  .test (iEq (rInt a0 0) (1))
   (.ret (bIte (sEq (rStr a0 2) ByteArray.empty) (bIte (iEq (rInt a0 1) (0)) true (iEq (rInt a0 1) (1))) false))
   (.test (iEq (rInt a0 0) (2))
    (.ret (bIte (bIte (sEq (rStr a0 2) ByteArray.empty) (iLe (-1000000000000000) (rInt a0 1)) false) (iLe (rInt a0 1) (1000000000000000)) false))
    (.test (iEq (rInt a0 0) (3))
     (.opt (iEq (rInt a0 1) (0)) (value_text.f k (rStr a0 2)).eval default fun r0 =>
     .ret (bIte (iEq (rInt a0 1) (0)) r0 false))
     (.test (iEq (rInt a0 0) (0))
      (.test (iEq (rInt a0 0) (0))
       (.ret (bIte (iEq (rInt a0 1) (0)) (sEq (rStr a0 2) ByteArray.empty) false))
       (.ret false))
      (.test (iEq (rInt a0 0) (4))
       (.test (iEq (rInt a0 0) (4))
        (.ret (bIte (iEq (rInt a0 1) (0)) (sEq (rStr a0 2) ByteArray.empty) false))
        (.ret false))
       (.test (iEq (rInt a0 0) (5))
        (.ret (bIte (iEq (rInt a0 1) (0)) (sEq (rStr a0 2) ByteArray.empty) false))
        (.ret false))))))
noncomputable def d (k : Nat) : Fun := mkFun [68] (fun as_ => f k (vRow (vN as_ 0))) default (fun r => .bool r)
theorem hC (k : Nat) : CxOk (C k) := CxOk.cons (p := (141, value_text.d k)) (value_text.ok k) (CxOk.nil)
theorem ok (k : Nat) : FunOk Tryz.prog 125 (d k) := fun_mk (C := C k) (hC k) (S := S k) Tryz.func125 (by kernel_rfl) (by kernel_rfl) (Loops.all (n := 0) (by kernel_rfl) trivial) (fun as_ => by kernel_rfl)
end value_scalar
namespace value_name
noncomputable def C (k : Nat) : Cx := ⟨Tryz.prog, tab [], [], [], tab []⟩
noncomputable def t2 : LoopT := ⟨⟨57, [], [(0, .str), (6, .int .i64), (7, .int .i64)], [], [], []⟩, (fun | .ret => some ⟨57, [], [(2, .bool)], [], [], []⟩ | .exit 0 => some ⟨57, [], [(0, .str)], [], [], []⟩ | _ => none)⟩
noncomputable def s2 (k : Nat) (c0 : ByteArray) (c1 : Int) (x : Int) : T (Int ⊕ (Bool ⊕ Unit)) :=
  .test (iLt x c1)
   (.test (iIn x (sLen c0))
    (.test (bNot (bIte (bIte (bIte (bIte (bIte (bIte (iLe (97) (sAt c0 x)) (iLe (sAt c0 x) (122)) false) true (bIte (iLe (65) (sAt c0 x)) (iLe (sAt c0 x) (90)) false)) true (bIte (iLe (48) (sAt c0 x)) (iLe (sAt c0 x) (57)) false)) true (iEq (sAt c0 x) (45))) true (iEq (sAt c0 x) (95))) true (iEq (sAt c0 x) (47))))
     (.ret (.inr (.inl false)))
     (.ret (.inl (iAdd .i64 x (1)))))
    (.fail))
   (.ret (.inr (.inr ())))
noncomputable def a2 (c0 : ByteArray) (c1 : Int) (x : Int) : Dt := ⟨[.s c0, .i c1, .i x], [], [], []⟩
noncomputable def o2_0 (c0 : ByteArray) (c1 : Int) (r : Bool) : X × Dt := (.ret, ⟨[.b r], [], [], []⟩)
noncomputable def o2_1 (c0 : ByteArray) (c1 : Int) (r : Unit) : X × Dt := (.exit 0, ⟨[.s c0], [], [], []⟩)
noncomputable def e2 (k : Nat) (d : Dt) : T (X × Dt) := out2 (iter (s2 k (aS (aN d.a 0)) (aI (aN d.a 1))) k (aI (aN d.a 2))) (o2_0 (aS (aN d.a 0)) (aI (aN d.a 1))) (o2_1 (aS (aN d.a 0)) (aI (aN d.a 1)))
noncomputable def S (k : Nat) : Subs := fun n => bif Nat.beq n 2 then some (loopV Tryz.prog t2 (e2 k)) else none
noncomputable def f (k : Nat) (a0 : ByteArray) : T Bool :=
  .cas (iter (value_name.s2 k a0 (sLen a0)) k (0)) (fun r0 =>
   .ret r0) (fun r1 =>
   .ret (bIte (iLe (1) (sLen a0)) (iLe (sLen a0) (40)) false))
noncomputable def d (k : Nat) : Fun := mkFun [9] (fun as_ => f k (vStr (vN as_ 0))) default (fun r => .bool r)
theorem hC (k : Nat) : CxOk (C k) := CxOk.nil
theorem l2 (k : Nat) : LoopOk Tryz.prog (S k) (lp (bodyF (Go.Proofs.Tryz.f126)) 0) := loopOk_mk (C := C k) (hC k) (Loops.all (n := 0) (by kernel_rfl) trivial) (lt := t2) (den := e2 k) (by kernel_rfl) (N := (ByteArray × Int)) (A := Int) (R := (Bool ⊕ Unit))
 (fun n x => a2 n.1 n.2 x) (fun n r => Sum.elim (o2_0 n.1 n.2) (o2_1 n.1 n.2) r) (fun n x => s2 k n.1 n.2 x) k (fun d => ((aS (aN d.a 0)), (aI (aN d.a 1)))) (fun d => (aI (aN d.a 2))) (fun d y h => out2_eval h) (fun d => by kernel_rfl) (fun n x => by kernel_rfl) (fun n r => by rcases r with r | r <;> exact ⟨_, rfl⟩)
theorem ok (k : Nat) : FunOk Tryz.prog 126 (d k) := fun_mk (C := C k) (hC k) (S := S k) Tryz.func126 (by kernel_rfl) (by kernel_rfl) (Loops.all (n := 1) (by kernel_rfl) ⟨trivial, l2 k⟩) (fun as_ => by kernel_rfl)
end value_name
namespace value_valid
noncomputable def F (self : Row → Int → T Bool) : Fun := mkFun [68, 3] (fun as_ => self (vRow (vN as_ 0)) (vInt (vN as_ 1))) default (fun r => .bool r)
noncomputable def C (k : Nat) (self : Row → Int → T Bool) : Cx := ⟨Tryz.prog, tab [(125, value_scalar.d k), (126, value_name.d k), (84, F self)], [], [], tab []⟩
noncomputable def t4 : LoopT := ⟨⟨100, [], [(1, .int .i64), (2, .ptr 2 0), (51, .sl 68 none), (52, .int .i64), (53, .int .i64)], [], [(2, 68)], []⟩, (fun | .ret => some ⟨100, [], [(4, .bool)], [], [], []⟩ | .exit 0 => some ⟨100, [], [(1, .int .i64), (2, .ptr 2 0)], [], [(2, 68)], []⟩ | _ => none)⟩
noncomputable def s4 (k : Nat) (self : Row → Int → T Bool) (c0 : Int) (c1 : Rows) (c2 : Int) (c3 : Row) (x : Int) : T (Int ⊕ (Bool ⊕ Unit)) :=
  .test (iLt x c2)
   (.test (iIn x (rLen c1))
    (.bnd (self (et 68 (rAt c1 x)) (iSub .i64 c0 (1))).eval default fun r0 =>
    .test (bNot r0)
     (.ret (.inr (.inl false)))
     (.ret (.inl (iAdd .i64 x (1)))))
    (.fail))
   (.ret (.inr (.inr ())))
noncomputable def a4 (c0 : Int) (c1 : Rows) (c2 : Int) (c3 : Row) (x : Int) : Dt := ⟨[.i c0, .u, .r c1, .i c2, .i x], [], [et 68 c3], []⟩
noncomputable def o4_0 (c0 : Int) (c1 : Rows) (c2 : Int) (c3 : Row) (r : Bool) : X × Dt := (.ret, ⟨[.b r], [], [], []⟩)
noncomputable def o4_1 (c0 : Int) (c1 : Rows) (c2 : Int) (c3 : Row) (r : Unit) : X × Dt := (.exit 0, ⟨[.i c0, .u], [], [(et 68 c3)], []⟩)
noncomputable def e4 (k : Nat) (self : Row → Int → T Bool) (d : Dt) : T (X × Dt) := out2 (iter (s4 k self (aI (aN d.a 0)) (aR (aN d.a 2)) (aI (aN d.a 3)) (d.r.getD 0 [])) k (aI (aN d.a 4))) (o4_0 (aI (aN d.a 0)) (aR (aN d.a 2)) (aI (aN d.a 3)) (d.r.getD 0 [])) (o4_1 (aI (aN d.a 0)) (aR (aN d.a 2)) (aI (aN d.a 3)) (d.r.getD 0 []))
noncomputable def t10 : LoopT := ⟨⟨100, [], [(1, .int .i64), (2, .ptr 2 0), (64, .sl 103 none), (65, .int .i64), (66, .int .i64)], [], [(2, 68)], []⟩, (fun | .ret => some ⟨100, [], [(4, .bool)], [], [], []⟩ | .exit 2 => some ⟨100, [], [], [], [], []⟩ | _ => none)⟩
noncomputable def s10 (k : Nat) (self : Row → Int → T Bool) (c0 : Int) (c1 : Rows) (c2 : Int) (c3 : Row) (x : Int) : T (Int ⊕ (Bool ⊕ Unit)) :=
  .test (iLt x c2)
   (.test (iIn x (rLen c1))
    (.bnd (value_name.f k (rStr (rAt c1 x) 0)).eval default fun r0 =>
    .test (bImp (bAnd (bNot (bNot r0)) (iLt (0) x)) (iIn (iSub .i64 x (1)) (rLen (rSl c3 4))))
     (.opt (bNot (bIte (bNot r0) true (bIte (iLt (0) x) (bNot (sLt (rStr (rAt (rSl c3 4) (iSub .i64 x (1))) 0) (rStr (rAt c1 x) 0))) false))) (self (eo 68 (rAt c1 x) 1) (iSub .i64 c0 (1))).eval default fun r1 =>
     .test (bIte (bIte (bNot r0) true (bIte (iLt (0) x) (bNot (sLt (rStr (rAt (rSl c3 4) (iSub .i64 x (1))) 0) (rStr (rAt c1 x) 0))) false)) true (bNot r1))
      (.ret (.inr (.inl false)))
      (.ret (.inl (iAdd .i64 x (1)))))
     (.fail))
    (.fail))
   (.ret (.inr (.inr ())))
noncomputable def a10 (c0 : Int) (c1 : Rows) (c2 : Int) (c3 : Row) (x : Int) : Dt := ⟨[.i c0, .u, .r c1, .i c2, .i x], [], [et 68 c3], []⟩
noncomputable def o10_0 (c0 : Int) (c1 : Rows) (c2 : Int) (c3 : Row) (r : Bool) : X × Dt := (.ret, ⟨[.b r], [], [], []⟩)
noncomputable def o10_1 (c0 : Int) (c1 : Rows) (c2 : Int) (c3 : Row) (r : Unit) : X × Dt := (.exit 2, ⟨[], [], [], []⟩)
noncomputable def e10 (k : Nat) (self : Row → Int → T Bool) (d : Dt) : T (X × Dt) := out2 (iter (s10 k self (aI (aN d.a 0)) (aR (aN d.a 2)) (aI (aN d.a 3)) (d.r.getD 0 [])) k (aI (aN d.a 4))) (o10_0 (aI (aN d.a 0)) (aR (aN d.a 2)) (aI (aN d.a 3)) (d.r.getD 0 [])) (o10_1 (aI (aN d.a 0)) (aR (aN d.a 2)) (aI (aN d.a 3)) (d.r.getD 0 []))
noncomputable def S (k : Nat) (self : Row → Int → T Bool) : Subs := fun n => bif Nat.beq n 4 then some (loopV Tryz.prog t4 (e4 k self)) else bif Nat.beq n 10 then some (loopV Tryz.prog t10 (e10 k self)) else none
noncomputable def f : Nat → Row → Int → T Bool
  | 0, _, _ => .fail
  | k + 1, a0, a1 =>
  .opt (bNot (iEq a1 (0))) (value_scalar.f k (et 68 a0)).eval default fun r0 =>
  .test (bIte (bIte (bIte (bIte (bIte (iEq a1 (0)) true (bNot r0)) true (bIte (bNot (iEq (rInt a0 0) (4))) (iLt (0) (rLen (rSl a0 3))) false)) true (bIte (bNot (iEq (rInt a0 0) (5))) (iLt (0) (rLen (rSl a0 4))) false)) true (iLt (64) (rLen (rSl a0 3)))) true (iLt (64) (rLen (rSl a0 4))))
   (.ret false)
   (.cas (iter (value_valid.s4 k (f k) a1 (rSl a0 3) (rLen (rSl a0 3)) (et 68 a0)) k (0)) (fun r1 =>
    .ret r1) (fun r2 =>
    .cas (iter (value_valid.s10 k (f k) a1 (rSl a0 4) (rLen (rSl a0 4)) (et 68 a0)) k (0)) (fun r3 =>
     .ret r3) (fun r4 =>
     .ret true)))
noncomputable def d (k : Nat) : Fun := F (f k)
theorem hC (k : Nat) (self : Row → Int → T Bool) (ih : FunOk Tryz.prog 84 (F self)) : CxOk (C k self) := CxOk.cons (p := (125, value_scalar.d k)) (value_scalar.ok k) (CxOk.cons (p := (126, value_name.d k)) (value_name.ok k) (CxOk.cons (p := (84, F self)) ih (CxOk.nil)))
theorem l4 (k : Nat) (self : Row → Int → T Bool) (ih : FunOk Tryz.prog 84 (F self)) : LoopOk Tryz.prog (S k self) (lp (bodyF (Go.Proofs.Tryz.f84)) 0) := loopOk_mk (C := C k self) (hC k self ih) (Loops.all (n := 0) (by kernel_rfl) trivial) (lt := t4) (den := e4 k self) (by kernel_rfl) (N := (Int × Rows × Int × Row)) (A := Int) (R := (Bool ⊕ Unit))
 (fun n x => a4 n.1 n.2.1 n.2.2.1 n.2.2.2 x) (fun n r => Sum.elim (o4_0 n.1 n.2.1 n.2.2.1 n.2.2.2) (o4_1 n.1 n.2.1 n.2.2.1 n.2.2.2) r) (fun n x => s4 k self n.1 n.2.1 n.2.2.1 n.2.2.2 x) k (fun d => ((aI (aN d.a 0)), (aR (aN d.a 2)), (aI (aN d.a 3)), (d.r.getD 0 []))) (fun d => (aI (aN d.a 4))) (fun d y h => out2_eval h) (fun d => by kernel_rfl) (fun n x => by kernel_rfl) (fun n r => by rcases r with r | r <;> exact ⟨_, rfl⟩)
theorem l10 (k : Nat) (self : Row → Int → T Bool) (ih : FunOk Tryz.prog 84 (F self)) : LoopOk Tryz.prog (S k self) (lp (bodyF (Go.Proofs.Tryz.f84)) 1) := loopOk_mk (C := C k self) (hC k self ih) (Loops.all (n := 0) (by kernel_rfl) trivial) (lt := t10) (den := e10 k self) (by kernel_rfl) (N := (Int × Rows × Int × Row)) (A := Int) (R := (Bool ⊕ Unit))
 (fun n x => a10 n.1 n.2.1 n.2.2.1 n.2.2.2 x) (fun n r => Sum.elim (o10_0 n.1 n.2.1 n.2.2.1 n.2.2.2) (o10_1 n.1 n.2.1 n.2.2.1 n.2.2.2) r) (fun n x => s10 k self n.1 n.2.1 n.2.2.1 n.2.2.2 x) k (fun d => ((aI (aN d.a 0)), (aR (aN d.a 2)), (aI (aN d.a 3)), (d.r.getD 0 []))) (fun d => (aI (aN d.a 4))) (fun d y h => out2_eval h) (fun d => by kernel_rfl) (fun n x => by kernel_rfl) (fun n r => by rcases r with r | r <;> exact ⟨_, rfl⟩)
theorem ok : ∀ k, FunOk Tryz.prog 84 (d k)
  | 0 => fun_zero Tryz.func84 (by kernel_rfl) (by kernel_rfl) (fun _ => rfl)
  | k + 1 => fun_mk (C := C k (f k)) (hC k (f k) (ok k)) (S := S k (f k)) Tryz.func84 (by kernel_rfl) (by kernel_rfl) (Loops.all (n := 2) (by kernel_rfl) ⟨⟨trivial, l4 k (f k) (ok k)⟩, l10 k (f k) (ok k)⟩) (fun as_ => by kernel_rfl)
end value_valid
namespace value_Size
noncomputable def F (self : Row → T Int) : Fun := mkFun [68] (fun as_ => self (vRow (vN as_ 0))) default (fun r => .int .i64 r)
noncomputable def C (k : Nat) (self : Row → T Int) : Cx := ⟨Tryz.prog, tab [(85, F self)], [], [], tab []⟩
noncomputable def t3 : LoopT := ⟨⟨34, [], [(1, .ptr 1 0), (3, .int .i64), (9, .sl 68 none), (10, .int .i64), (11, .int .i64)], [], [(1, 68)], []⟩, (fun | .exit 0 => some ⟨34, [], [(1, .ptr 1 0), (3, .int .i64)], [], [(1, 68)], []⟩ | _ => none)⟩
noncomputable def s3 (k : Nat) (self : Row → T Int) (c0 : Rows) (c1 : Int) (c2 : Row) (x : (Int × Int)) : T ((Int × Int) ⊕ Int) :=
  .test (iLt x.2 c1)
   (.test (iIn x.2 (rLen c0))
    (.bnd (self (et 68 (rAt c0 x.2))).eval default fun r0 =>
    .ret (.inl ((iAdd .i64 x.1 r0), (iAdd .i64 x.2 (1)))))
    (.fail))
   (.ret (.inr x.1))
noncomputable def a3 (c0 : Rows) (c1 : Int) (c2 : Row) (x : (Int × Int)) : Dt := ⟨[.u, .i x.1, .r c0, .i c1, .i x.2], [], [et 68 c2], []⟩
noncomputable def o3_0 (c0 : Rows) (c1 : Int) (c2 : Row) (r : Int) : X × Dt := (.exit 0, ⟨[.u, .i r], [], [(et 68 c2)], []⟩)
noncomputable def e3 (k : Nat) (self : Row → T Int) (d : Dt) : T (X × Dt) := out1 (iter (s3 k self (aR (aN d.a 2)) (aI (aN d.a 3)) (d.r.getD 0 [])) k ((aI (aN d.a 1)), (aI (aN d.a 4)))) default (o3_0 (aR (aN d.a 2)) (aI (aN d.a 3)) (d.r.getD 0 []))
noncomputable def t8 : LoopT := ⟨⟨34, [], [(3, .int .i64), (21, .sl 103 none), (22, .int .i64), (23, .int .i64)], [], [], []⟩, (fun | .exit 2 => some ⟨34, [], [(3, .int .i64)], [], [], []⟩ | _ => none)⟩
noncomputable def s8 (k : Nat) (self : Row → T Int) (c0 : Rows) (c1 : Int) (x : (Int × Int)) : T ((Int × Int) ⊕ Int) :=
  .test (iLt x.2 c1)
   (.test (iIn x.2 (rLen c0))
    (.bnd (self (eo 68 (rAt c0 x.2) 1)).eval default fun r0 =>
    .ret (.inl ((iAdd .i64 x.1 r0), (iAdd .i64 x.2 (1)))))
    (.fail))
   (.ret (.inr x.1))
noncomputable def a8 (c0 : Rows) (c1 : Int) (x : (Int × Int)) : Dt := ⟨[.i x.1, .r c0, .i c1, .i x.2], [], [], []⟩
noncomputable def o8_0 (c0 : Rows) (c1 : Int) (r : Int) : X × Dt := (.exit 2, ⟨[.i r], [], [], []⟩)
noncomputable def e8 (k : Nat) (self : Row → T Int) (d : Dt) : T (X × Dt) := out1 (iter (s8 k self (aR (aN d.a 1)) (aI (aN d.a 2))) k ((aI (aN d.a 0)), (aI (aN d.a 3)))) default (o8_0 (aR (aN d.a 1)) (aI (aN d.a 2)))
noncomputable def S (k : Nat) (self : Row → T Int) : Subs := fun n => bif Nat.beq n 3 then some (loopV Tryz.prog t3 (e3 k self)) else bif Nat.beq n 8 then some (loopV Tryz.prog t8 (e8 k self)) else none
noncomputable def f : Nat → Row → T Int
  | 0, _ => .fail
  | k + 1, a0 =>
  .bnd (iter (value_Size.s3 k (f k) (rSl a0 3) (rLen (rSl a0 3)) (et 68 a0)) k ((1), (0))) default fun r0 =>
  .bnd (iter (value_Size.s8 k (f k) (rSl a0 4) (rLen (rSl a0 4))) k (r0, (0))) default fun r1 =>
  .ret r1
noncomputable def d (k : Nat) : Fun := F (f k)
theorem hC (k : Nat) (self : Row → T Int) (ih : FunOk Tryz.prog 85 (F self)) : CxOk (C k self) := CxOk.cons (p := (85, F self)) ih (CxOk.nil)
theorem l3 (k : Nat) (self : Row → T Int) (ih : FunOk Tryz.prog 85 (F self)) : LoopOk Tryz.prog (S k self) (lp (bodyF (Go.Proofs.Tryz.f85)) 0) := loopOk_mk (C := C k self) (hC k self ih) (Loops.all (n := 0) (by kernel_rfl) trivial) (lt := t3) (den := e3 k self) (by kernel_rfl) (N := (Rows × Int × Row)) (A := (Int × Int)) (R := Int)
 (fun n x => a3 n.1 n.2.1 n.2.2 x) (fun n r => o3_0 n.1 n.2.1 n.2.2 r) (fun n x => s3 k self n.1 n.2.1 n.2.2 x) k (fun d => ((aR (aN d.a 2)), (aI (aN d.a 3)), (d.r.getD 0 []))) (fun d => ((aI (aN d.a 1)), (aI (aN d.a 4)))) (fun d y h => out1_eval h) (fun d => by kernel_rfl) (fun n x => by kernel_rfl) (fun n r => ⟨_, rfl⟩)
theorem l8 (k : Nat) (self : Row → T Int) (ih : FunOk Tryz.prog 85 (F self)) : LoopOk Tryz.prog (S k self) (lp (bodyF (Go.Proofs.Tryz.f85)) 1) := loopOk_mk (C := C k self) (hC k self ih) (Loops.all (n := 0) (by kernel_rfl) trivial) (lt := t8) (den := e8 k self) (by kernel_rfl) (N := (Rows × Int)) (A := (Int × Int)) (R := Int)
 (fun n x => a8 n.1 n.2 x) (fun n r => o8_0 n.1 n.2 r) (fun n x => s8 k self n.1 n.2 x) k (fun d => ((aR (aN d.a 1)), (aI (aN d.a 2)))) (fun d => ((aI (aN d.a 0)), (aI (aN d.a 3)))) (fun d y h => out1_eval h) (fun d => by kernel_rfl) (fun n x => by kernel_rfl) (fun n r => ⟨_, rfl⟩)
theorem ok : ∀ k, FunOk Tryz.prog 85 (d k)
  | 0 => fun_zero Tryz.func85 (by kernel_rfl) (by kernel_rfl) (fun _ => rfl)
  | k + 1 => fun_mk (C := C k (f k)) (hC k (f k) (ok k)) (S := S k (f k)) Tryz.func85 (by kernel_rfl) (by kernel_rfl) (Loops.all (n := 2) (by kernel_rfl) ⟨⟨trivial, l3 k (f k) (ok k)⟩, l8 k (f k) (ok k)⟩) (fun as_ => by kernel_rfl)
end value_Size
namespace value_Valid
noncomputable def C (k : Nat) : Cx := ⟨Tryz.prog, tab [(84, value_valid.d k), (85, value_Size.d k)], [], [], tab []⟩
noncomputable def S (k : Nat) : Subs := fun n => none
noncomputable def f (k : Nat) (a0 : Row) : T Bool :=
  .bnd (value_valid.f k (et 68 a0) (12)).eval default fun r0 =>
  .opt r0 (value_Size.f k (et 68 a0)).eval default fun r1 =>
  .ret (bIte r0 (iLe r1 (600)) false)
noncomputable def d (k : Nat) : Fun := mkFun [68] (fun as_ => f k (vRow (vN as_ 0))) default (fun r => .bool r)
theorem hC (k : Nat) : CxOk (C k) := CxOk.cons (p := (84, value_valid.d k)) (value_valid.ok k) (CxOk.cons (p := (85, value_Size.d k)) (value_Size.ok k) (CxOk.nil))
theorem ok (k : Nat) : FunOk Tryz.prog 49 (d k) := fun_mk (C := C k) (hC k) (S := S k) Tryz.func49 (by kernel_rfl) (by kernel_rfl) (Loops.all (n := 0) (by kernel_rfl) trivial) (fun as_ => by kernel_rfl)
end value_Valid
namespace internal_strconv_FormatBool
noncomputable def C (k : Nat) : Cx := ⟨Tryz.prog, tab [], [], [], tab []⟩
noncomputable def S (k : Nat) : Subs := fun n => none
noncomputable def f (k : Nat) (a0 : Bool) : T ByteArray :=
  .test a0
   (.ret (bs [116, 114, 117, 101]))
   (.ret (bs [102, 97, 108, 115, 101]))
noncomputable def d (k : Nat) : Fun := mkFun [4] (fun as_ => f k (vBool (vN as_ 0))) default (fun r => .str r)
theorem hC (k : Nat) : CxOk (C k) := CxOk.nil
theorem ok (k : Nat) : FunOk Tryz.prog 128 (d k) := fun_mk (C := C k) (hC k) (S := S k) Tryz.func128 (by kernel_rfl) (by kernel_rfl) (Loops.all (n := 0) (by kernel_rfl) trivial) (fun as_ => by kernel_rfl)
end internal_strconv_FormatBool
namespace strconv_FormatBool
noncomputable def C (k : Nat) : Cx := ⟨Tryz.prog, tab [(128, internal_strconv_FormatBool.d k)], [], [], tab []⟩
noncomputable def S (k : Nat) : Subs := fun n => none
noncomputable def f (k : Nat) (a0 : Bool) : T ByteArray :=
  .bnd (internal_strconv_FormatBool.f k a0).eval default fun r0 =>
  .ret r0
noncomputable def d (k : Nat) : Fun := mkFun [4] (fun as_ => f k (vBool (vN as_ 0))) default (fun r => .str r)
theorem hC (k : Nat) : CxOk (C k) := CxOk.cons (p := (128, internal_strconv_FormatBool.d k)) (internal_strconv_FormatBool.ok k) (CxOk.nil)
theorem ok (k : Nat) : FunOk Tryz.prog 87 (d k) := fun_mk (C := C k) (hC k) (S := S k) Tryz.func87 (by kernel_rfl) (by kernel_rfl) (Loops.all (n := 0) (by kernel_rfl) trivial) (fun as_ => by kernel_rfl)
end strconv_FormatBool
namespace internal_strconv_small
noncomputable def C (k : Nat) : Cx := ⟨Tryz.prog, tab [], [], [], tab []⟩
noncomputable def S (k : Nat) : Subs := fun n => none
noncomputable def f (k : Nat) (a0 : Int) : T ByteArray :=
  .test (iLt a0 (10))
   (.test (iCut a0 (iAdd .i64 a0 (1)) (sLen (bs [48, 49, 50, 51, 52, 53, 54, 55, 56, 57, 97, 98, 99, 100, 101, 102, 103, 104, 105, 106, 107, 108, 109, 110, 111, 112, 113, 114, 115, 116, 117, 118, 119, 120, 121, 122])))
    (.ret (sCut (bs [48, 49, 50, 51, 52, 53, 54, 55, 56, 57, 97, 98, 99, 100, 101, 102, 103, 104, 105, 106, 107, 108, 109, 110, 111, 112, 113, 114, 115, 116, 117, 118, 119, 120, 121, 122]) a0 (iAdd .i64 a0 (1))))
    (.fail))
   (.test (iCut (iMul .i64 a0 (2)) (iAdd .i64 (iMul .i64 a0 (2)) (2)) (sLen (bs [48, 48, 48, 49, 48, 50, 48, 51, 48, 52, 48, 53, 48, 54, 48, 55, 48, 56, 48, 57, 49, 48, 49, 49, 49, 50, 49, 51, 49, 52, 49, 53, 49, 54, 49, 55, 49, 56, 49, 57, 50, 48, 50, 49, 50, 50, 50, 51, 50, 52, 50, 53, 50, 54, 50, 55, 50, 56, 50, 57, 51, 48, 51, 49, 51, 50, 51, 51, 51, 52, 51, 53, 51, 54, 51, 55, 51, 56, 51, 57, 52, 48, 52, 49, 52, 50, 52, 51, 52, 52, 52, 53, 52, 54, 52, 55, 52, 56, 52, 57, 53, 48, 53, 49, 53, 50, 53, 51, 53, 52, 53, 53, 53, 54, 53, 55, 53, 56, 53, 57, 54, 48, 54, 49, 54, 50, 54, 51, 54, 52, 54, 53, 54, 54, 54, 55, 54, 56, 54, 57, 55, 48, 55, 49, 55, 50, 55, 51, 55, 52, 55, 53, 55, 54, 55, 55, 55, 56, 55, 57, 56, 48, 56, 49, 56, 50, 56, 51, 56, 52, 56, 53, 56, 54, 56, 55, 56, 56, 56, 57, 57, 48, 57, 49, 57, 50, 57, 51, 57, 52, 57, 53, 57, 54, 57, 55, 57, 56, 57, 57])))
    (.ret (sCut (bs [48, 48, 48, 49, 48, 50, 48, 51, 48, 52, 48, 53, 48, 54, 48, 55, 48, 56, 48, 57, 49, 48, 49, 49, 49, 50, 49, 51, 49, 52, 49, 53, 49, 54, 49, 55, 49, 56, 49, 57, 50, 48, 50, 49, 50, 50, 50, 51, 50, 52, 50, 53, 50, 54, 50, 55, 50, 56, 50, 57, 51, 48, 51, 49, 51, 50, 51, 51, 51, 52, 51, 53, 51, 54, 51, 55, 51, 56, 51, 57, 52, 48, 52, 49, 52, 50, 52, 51, 52, 52, 52, 53, 52, 54, 52, 55, 52, 56, 52, 57, 53, 48, 53, 49, 53, 50, 53, 51, 53, 52, 53, 53, 53, 54, 53, 55, 53, 56, 53, 57, 54, 48, 54, 49, 54, 50, 54, 51, 54, 52, 54, 53, 54, 54, 54, 55, 54, 56, 54, 57, 55, 48, 55, 49, 55, 50, 55, 51, 55, 52, 55, 53, 55, 54, 55, 55, 55, 56, 55, 57, 56, 48, 56, 49, 56, 50, 56, 51, 56, 52, 56, 53, 56, 54, 56, 55, 56, 56, 56, 57, 57, 48, 57, 49, 57, 50, 57, 51, 57, 52, 57, 53, 57, 54, 57, 55, 57, 56, 57, 57]) (iMul .i64 a0 (2)) (iAdd .i64 (iMul .i64 a0 (2)) (2))))
    (.fail))
noncomputable def d (k : Nat) : Fun := mkFun [3] (fun as_ => f k (vInt (vN as_ 0))) default (fun r => .str r)
theorem hC (k : Nat) : CxOk (C k) := CxOk.nil
theorem ok (k : Nat) : FunOk Tryz.prog 149 (d k) := fun_mk (C := C k) (hC k) (S := S k) Tryz.func149 (by kernel_rfl) (by kernel_rfl) (Loops.all (n := 0) (by kernel_rfl) trivial) (fun as_ => by kernel_rfl)
end internal_strconv_small
namespace internal_strconv_FormatInt
noncomputable def C (k : Nat) : Cx := ⟨Tryz.prog, tab [(149, internal_strconv_small.d k)], [], [], tab []⟩
noncomputable def S (k : Nat) : Subs := fun n => none
noncomputable def f (k : Nat) (a0 : Int) (a1 : Int) : T ByteArray :=
  .test (iEq a1 (10))
   (.test (bIte (iLe (0) a0) (iLt a0 (100)) false)
    (.bnd (internal_strconv_small.f k a0).eval default fun r0 =>
    .ret r0)
    (.test (iLt a0 (0))
     (.fail)
     (.fail)))
   (.fail)
noncomputable def d (k : Nat) : Fun := mkFun [2, 3] (fun as_ => f k (vInt (vN as_ 0)) (vInt (vN as_ 1))) default (fun r => .str r)
theorem hC (k : Nat) : CxOk (C k) := CxOk.cons (p := (149, internal_strconv_small.d k)) (internal_strconv_small.ok k) (CxOk.nil)
theorem ok (k : Nat) : FunOk Tryz.prog 143 (d k) := fun_mk (C := C k) (hC k) (S := S k) Tryz.func143 (by kernel_rfl) (by kernel_rfl) (Loops.all (n := 0) (by kernel_rfl) trivial) (fun as_ => by kernel_rfl)
end internal_strconv_FormatInt
namespace internal_strconv_Itoa
noncomputable def C (k : Nat) : Cx := ⟨Tryz.prog, tab [(143, internal_strconv_FormatInt.d k)], [], [], tab []⟩
noncomputable def S (k : Nat) : Subs := fun n => none
noncomputable def f (k : Nat) (a0 : Int) : T ByteArray :=
  .bnd (internal_strconv_FormatInt.f k a0 (10)).eval default fun r0 =>
  .ret r0
noncomputable def d (k : Nat) : Fun := mkFun [3] (fun as_ => f k (vInt (vN as_ 0))) default (fun r => .str r)
theorem hC (k : Nat) : CxOk (C k) := CxOk.cons (p := (143, internal_strconv_FormatInt.d k)) (internal_strconv_FormatInt.ok k) (CxOk.nil)
theorem ok (k : Nat) : FunOk Tryz.prog 129 (d k) := fun_mk (C := C k) (hC k) (S := S k) Tryz.func129 (by kernel_rfl) (by kernel_rfl) (Loops.all (n := 0) (by kernel_rfl) trivial) (fun as_ => by kernel_rfl)
end internal_strconv_Itoa
namespace strconv_Itoa
noncomputable def C (k : Nat) : Cx := ⟨Tryz.prog, tab [(129, internal_strconv_Itoa.d k)], [], [], tab []⟩
noncomputable def S (k : Nat) : Subs := fun n => none
noncomputable def f (k : Nat) (a0 : Int) : T ByteArray :=
  .bnd (internal_strconv_Itoa.f k a0).eval default fun r0 =>
  .ret r0
noncomputable def d (k : Nat) : Fun := mkFun [3] (fun as_ => f k (vInt (vN as_ 0))) default (fun r => .str r)
theorem hC (k : Nat) : CxOk (C k) := CxOk.cons (p := (129, internal_strconv_Itoa.d k)) (internal_strconv_Itoa.ok k) (CxOk.nil)
theorem ok (k : Nat) : FunOk Tryz.prog 88 (d k) := fun_mk (C := C k) (hC k) (S := S k) Tryz.func88 (by kernel_rfl) (by kernel_rfl) (Loops.all (n := 0) (by kernel_rfl) trivial) (fun as_ => by kernel_rfl)
end strconv_Itoa
namespace ref19_str
noncomputable def C (k : Nat) : Cx := ⟨Tryz.prog, tab [], [], [], tab []⟩
noncomputable def S (k : Nat) : Subs := fun n => none
noncomputable def f (k : Nat) (a0 : ByteArray) : T Row :=
  .ret [.int .i64 (3), .int .i64 (0), .str a0, .slice 68 [] .open, .slice 103 [] .open]
noncomputable def d (k : Nat) : Fun := mkFun [9] (fun as_ => f k (vStr (vN as_ 0))) default (fun r => .agg (et 68 r))
theorem hC (k : Nat) : CxOk (C k) := CxOk.nil
theorem ok (k : Nat) : FunOk Tryz.prog 76 (d k) := fun_mk (C := C k) (hC k) (S := S k) Tryz.func76 (by kernel_rfl) (by kernel_rfl) (Loops.all (n := 0) (by kernel_rfl) trivial) (fun as_ => by kernel_rfl)
end ref19_str
namespace ref19_at
noncomputable def C (k : Nat) : Cx := ⟨Tryz.prog, tab [], [], [], tab []⟩
noncomputable def S (k : Nat) : Subs := fun n => none
noncomputable def f (k : Nat) (a0 : ByteArray) (a1 : Row) : T Row :=
  .ret (rJ [[.str a0], (et 68 a1)])
noncomputable def d (k : Nat) : Fun := mkFun [9, 68] (fun as_ => f k (vStr (vN as_ 0)) (vRow (vN as_ 1))) default (fun r => .agg (et 103 r))
theorem hC (k : Nat) : CxOk (C k) := CxOk.nil
theorem ok (k : Nat) : FunOk Tryz.prog 61 (d k) := fun_mk (C := C k) (hC k) (S := S k) Tryz.func61 (by kernel_rfl) (by kernel_rfl) (Loops.all (n := 0) (by kernel_rfl) trivial) (fun as_ => by kernel_rfl)
end ref19_at
namespace ref19_num
noncomputable def C (k : Nat) : Cx := ⟨Tryz.prog, tab [], [], [], tab []⟩
noncomputable def S (k : Nat) : Subs := fun n => none
noncomputable def f (k : Nat) (a0 : Int) : T Row :=
  .ret [.int .i64 (2), .int .i64 a0, .str ByteArray.empty, .slice 68 [] .open, .slice 103 [] .open]
noncomputable def d (k : Nat) : Fun := mkFun [3] (fun as_ => f k (vInt (vN as_ 0))) default (fun r => .agg (et 68 r))
theorem hC (k : Nat) : CxOk (C k) := CxOk.nil
theorem ok (k : Nat) : FunOk Tryz.prog 75 (d k) := fun_mk (C := C k) (hC k) (S := S k) Tryz.func75 (by kernel_rfl) (by kernel_rfl) (Loops.all (n := 0) (by kernel_rfl) trivial) (fun as_ => by kernel_rfl)
end ref19_num
namespace ref19_object
noncomputable def C (k : Nat) : Cx := ⟨Tryz.prog, tab [], [], [], tab []⟩
noncomputable def S (k : Nat) : Subs := fun n => none
noncomputable def f (k : Nat) (a0 : Rows) : T Row :=
  .ret [.int .i64 (5), .int .i64 (0), .str ByteArray.empty, .slice 68 [] .open, .slice 103 a0 .open]
noncomputable def d (k : Nat) : Fun := mkFun [66] (fun as_ => f k (vRows (vN as_ 0))) default (fun r => .agg (et 68 r))
theorem hC (k : Nat) : CxOk (C k) := CxOk.nil
theorem ok (k : Nat) : FunOk Tryz.prog 60 (d k) := fun_mk (C := C k) (hC k) (S := S k) Tryz.func60 (by kernel_rfl) (by kernel_rfl) (Loops.all (n := 0) (by kernel_rfl) trivial) (fun as_ => by kernel_rfl)
end ref19_object
namespace ref19_fromResources
noncomputable def C (k : Nat) : Cx := ⟨Tryz.prog, tab [(75, ref19_num.d k), (61, ref19_at.d k), (60, ref19_object.d k)], [], [], tab []⟩
noncomputable def S (k : Nat) : Subs := fun n => none
noncomputable def f (k : Nat) (a0 : Row) : T Row :=
  .bnd (ref19_num.f k (rInt a0 0)).eval default fun r0 =>
  .bnd (ref19_at.f k (bs [99, 112, 117]) (et 68 r0)).eval default fun r1 =>
  .bnd (ref19_num.f k (rInt a0 2)).eval default fun r2 =>
  .bnd (ref19_at.f k (bs [100, 105, 115, 107]) (et 68 r2)).eval default fun r3 =>
  .bnd (ref19_num.f k (rInt a0 1)).eval default fun r4 =>
  .bnd (ref19_at.f k (bs [109, 101, 109, 111, 114, 121]) (et 68 r4)).eval default fun r5 =>
  .bnd (ref19_object.f k [(et 103 r1), (et 103 r3), (et 103 r5)]).eval default fun r6 =>
  .ret (et 68 r6)
noncomputable def d (k : Nat) : Fun := mkFun [113] (fun as_ => f k (vRow (vN as_ 0))) default (fun r => .agg (et 68 r))
theorem hC (k : Nat) : CxOk (C k) := CxOk.cons (p := (75, ref19_num.d k)) (ref19_num.ok k) (CxOk.cons (p := (61, ref19_at.d k)) (ref19_at.ok k) (CxOk.cons (p := (60, ref19_object.d k)) (ref19_object.ok k) (CxOk.nil)))
theorem ok (k : Nat) : FunOk Tryz.prog 122 (d k) := fun_mk (C := C k) (hC k) (S := S k) Tryz.func122 (by kernel_rfl) (by kernel_rfl) (Loops.all (n := 0) (by kernel_rfl) trivial) (fun as_ => by kernel_rfl)
end ref19_fromResources
namespace ref19_list
noncomputable def C (k : Nat) : Cx := ⟨Tryz.prog, tab [], [], [], tab []⟩
noncomputable def S (k : Nat) : Subs := fun n => none
noncomputable def f (k : Nat) (a0 : Rows) : T Row :=
  .ret [.int .i64 (4), .int .i64 (0), .str ByteArray.empty, .slice 68 a0 .open, .slice 103 [] .open]
noncomputable def d (k : Nat) : Fun := mkFun [65] (fun as_ => f k (vRows (vN as_ 0))) default (fun r => .agg (et 68 r))
theorem hC (k : Nat) : CxOk (C k) := CxOk.nil
theorem ok (k : Nat) : FunOk Tryz.prog 115 (d k) := fun_mk (C := C k) (hC k) (S := S k) Tryz.func115 (by kernel_rfl) (by kernel_rfl) (Loops.all (n := 0) (by kernel_rfl) trivial) (fun as_ => by kernel_rfl)
end ref19_list
namespace ref19_fromProbes
noncomputable def C (k : Nat) : Cx := ⟨Tryz.prog, tab [(75, ref19_num.d k), (61, ref19_at.d k), (60, ref19_object.d k), (115, ref19_list.d k)], [], [], tab []⟩
noncomputable def t3 : LoopT := ⟨⟨46, [.tmp 3 43 68], [(0, .sl 119 none), (2, .ptr 2 0), (3, .sl 68 (some 43)), (4, .int .i64)], [], [(2, 68)], []⟩, (fun | .exit 0 => some ⟨46, [], [(2, .ptr 2 0), (3, .sl 68 (some 43))], [], [(2, 68)], []⟩ | _ => none)⟩
noncomputable def s3 (k : Nat) (c0 : Rows) (c1 : Row) (x : (Rows × Int)) : T ((Rows × Int) ⊕ Rows) :=
  .test (iLt x.2 (rLen c0))
   (.test (iIn x.2 (rLen c0))
    (.bnd (ref19_num.f k (rInt (rAt c0 x.2) 0)).eval default fun r0 =>
    .bnd (ref19_at.f k (bs [100, 101, 108, 97, 121]) (et 68 r0)).eval default fun r1 =>
    .test (iIn x.2 (rLen c0))
     (.bnd (ref19_num.f k (rInt (rAt c0 x.2) 3)).eval default fun r2 =>
     .bnd (ref19_at.f k (bs [102, 97, 105, 108, 117, 114, 101]) (et 68 r2)).eval default fun r3 =>
     .test (iIn x.2 (rLen c0))
      (.bnd (ref19_num.f k (rInt (rAt c0 x.2) 1)).eval default fun r4 =>
      .bnd (ref19_at.f k (bs [112, 101, 114, 105, 111, 100]) (et 68 r4)).eval default fun r5 =>
      .test (iIn x.2 (rLen c0))
       (.bnd (ref19_num.f k (rInt (rAt c0 x.2) 2)).eval default fun r6 =>
       .bnd (ref19_at.f k (bs [115, 117, 99, 99, 101, 115, 115]) (et 68 r6)).eval default fun r7 =>
       .bnd (ref19_object.f k [(et 103 r1), (et 103 r3), (et 103 r5), (et 103 r7)]).eval default fun r8 =>
       .test (rOk 80 (rLen x.1) (rLen [(et 68 r8)]))
        (.ret (.inl ((rCat x.1 [(et 68 r8)]), (iAdd .i64 x.2 (1)))))
        (.fail))
       (.fail))
      (.fail))
     (.fail))
    (.fail))
   (.ret (.inr x.1))
noncomputable def a3 (c0 : Rows) (c1 : Row) (x : (Rows × Int)) : Dt := ⟨[.r c0, .u, .r x.1, .i x.2], [], [et 68 c1], []⟩
noncomputable def o3_0 (c0 : Rows) (c1 : Row) (r : Rows) : X × Dt := (.exit 0, ⟨[.u, .r r], [], [(et 68 c1)], []⟩)
noncomputable def e3 (k : Nat) (d : Dt) : T (X × Dt) := out1 (iter (s3 k (aR (aN d.a 0)) (d.r.getD 0 [])) k ((aR (aN d.a 2)), (aI (aN d.a 3)))) default (o3_0 (aR (aN d.a 0)) (d.r.getD 0 []))
noncomputable def S (k : Nat) : Subs := fun n => bif Nat.beq n 3 then some (loopV Tryz.prog t3 (e3 k)) else none
noncomputable def f (k : Nat) (a0 : Rows) : T Row :=
  .bnd (iter (ref19_fromProbes.s3 k a0 [.int .i64 (0), .int .i64 (0), .str ByteArray.empty, .slice 68 [] .open, .slice 103 [] .open]) k ([], (0))) default fun r0 =>
  .bnd (ref19_list.f k r0).eval default fun r1 =>
  .ret (et 68 r1)
noncomputable def d (k : Nat) : Fun := mkFun [114] (fun as_ => f k (vRows (vN as_ 0))) default (fun r => .agg (et 68 r))
theorem hC (k : Nat) : CxOk (C k) := CxOk.cons (p := (75, ref19_num.d k)) (ref19_num.ok k) (CxOk.cons (p := (61, ref19_at.d k)) (ref19_at.ok k) (CxOk.cons (p := (60, ref19_object.d k)) (ref19_object.ok k) (CxOk.cons (p := (115, ref19_list.d k)) (ref19_list.ok k) (CxOk.nil))))
theorem l3 (k : Nat) : LoopOk Tryz.prog (S k) (lp (bodyF (Go.Proofs.Tryz.f123)) 0) := loopOk_mk (C := C k) (hC k) (Loops.all (n := 0) (by kernel_rfl) trivial) (lt := t3) (den := e3 k) (by kernel_rfl) (N := (Rows × Row)) (A := (Rows × Int)) (R := Rows)
 (fun n x => a3 n.1 n.2 x) (fun n r => o3_0 n.1 n.2 r) (fun n x => s3 k n.1 n.2 x) k (fun d => ((aR (aN d.a 0)), (d.r.getD 0 []))) (fun d => ((aR (aN d.a 2)), (aI (aN d.a 3)))) (fun d y h => out1_eval h) (fun d => by kernel_rfl) (fun n x => by kernel_rfl) (fun n r => ⟨_, rfl⟩)
theorem ok (k : Nat) : FunOk Tryz.prog 123 (d k) := fun_mk (C := C k) (hC k) (S := S k) Tryz.func123 (by kernel_rfl) (by kernel_rfl) (Loops.all (n := 1) (by kernel_rfl) ⟨trivial, l3 k⟩) (fun as_ => by kernel_rfl)
end ref19_fromProbes
namespace ref19_fromContainers
noncomputable def C (k : Nat) : Cx := ⟨Tryz.prog, tab [(76, ref19_str.d k), (61, ref19_at.d k), (122, ref19_fromResources.d k), (123, ref19_fromProbes.d k), (60, ref19_object.d k), (115, ref19_list.d k)], [], [], tab []⟩
noncomputable def t3 : LoopT := ⟨⟨51, [.tmp 3 48 68], [(0, .sl 116 none), (2, .ptr 2 0), (3, .sl 68 (some 48)), (4, .int .i64)], [], [(2, 68)], []⟩, (fun | .exit 0 => some ⟨51, [], [(2, .ptr 2 0), (3, .sl 68 (some 48))], [], [(2, 68)], []⟩ | _ => none)⟩
noncomputable def s3 (k : Nat) (c0 : Rows) (c1 : Row) (x : (Rows × Int)) : T ((Rows × Int) ⊕ Rows) :=
  .test (iLt x.2 (rLen c0))
   (.test (iIn x.2 (rLen c0))
    (.bnd (ref19_str.f k (rStr (rAt c0 x.2) 1)).eval default fun r0 =>
    .bnd (ref19_at.f k (bs [105, 109, 97, 103, 101]) (et 68 r0)).eval default fun r1 =>
    .bnd (ref19_fromResources.f k (eo 113 (rAt c0 x.2) 5)).eval default fun r2 =>
    .bnd (ref19_at.f k (bs [108, 105, 109, 105, 116]) (et 68 r2)).eval default fun r3 =>
    .bnd (ref19_fromProbes.f k (rSl (rAt c0 x.2) 8)).eval default fun r4 =>
    .bnd (ref19_at.f k (bs [108, 105, 118, 101]) (et 68 r4)).eval default fun r5 =>
    .bnd (ref19_str.f k (rStr (rAt c0 x.2) 0)).eval default fun r6 =>
    .bnd (ref19_at.f k (bs [110, 97, 109, 101]) (et 68 r6)).eval default fun r7 =>
    .bnd (ref19_fromProbes.f k (rSl (rAt c0 x.2) 9)).eval default fun r8 =>
    .bnd (ref19_at.f k (bs [114, 101, 97, 100, 121]) (et 68 r8)).eval default fun r9 =>
    .bnd (ref19_fromResources.f k (eo 113 (rAt c0 x.2) 2)).eval default fun r10 =>
    .bnd (ref19_at.f k (bs [114, 101, 113, 117, 101, 115, 116]) (et 68 r10)).eval default fun r11 =>
    .bnd (ref19_fromProbes.f k (rSl (rAt c0 x.2) 10)).eval default fun r12 =>
    .bnd (ref19_at.f k (bs [115, 116, 97, 114, 116, 117, 112]) (et 68 r12)).eval default fun r13 =>
    .bnd (ref19_object.f k [(et 103 r1), (et 103 r3), (et 103 r5), (et 103 r7), (et 103 r9), (et 103 r11), (et 103 r13)]).eval default fun r14 =>
    .test (rOk 80 (rLen x.1) (rLen [(et 68 r14)]))
     (.ret (.inl ((rCat x.1 [(et 68 r14)]), (iAdd .i64 x.2 (1)))))
     (.fail))
    (.fail))
   (.ret (.inr x.1))
noncomputable def a3 (c0 : Rows) (c1 : Row) (x : (Rows × Int)) : Dt := ⟨[.r c0, .u, .r x.1, .i x.2], [], [et 68 c1], []⟩
noncomputable def o3_0 (c0 : Rows) (c1 : Row) (r : Rows) : X × Dt := (.exit 0, ⟨[.u, .r r], [], [(et 68 c1)], []⟩)
noncomputable def e3 (k : Nat) (d : Dt) : T (X × Dt) := out1 (iter (s3 k (aR (aN d.a 0)) (d.r.getD 0 [])) k ((aR (aN d.a 2)), (aI (aN d.a 3)))) default (o3_0 (aR (aN d.a 0)) (d.r.getD 0 []))
noncomputable def S (k : Nat) : Subs := fun n => bif Nat.beq n 3 then some (loopV Tryz.prog t3 (e3 k)) else none
noncomputable def f (k : Nat) (a0 : Rows) : T Row :=
  .bnd (iter (ref19_fromContainers.s3 k a0 [.int .i64 (0), .int .i64 (0), .str ByteArray.empty, .slice 68 [] .open, .slice 103 [] .open]) k ([], (0))) default fun r0 =>
  .bnd (ref19_list.f k r0).eval default fun r1 =>
  .ret (et 68 r1)
noncomputable def d (k : Nat) : Fun := mkFun [29] (fun as_ => f k (vRows (vN as_ 0))) default (fun r => .agg (et 68 r))
theorem hC (k : Nat) : CxOk (C k) := CxOk.cons (p := (76, ref19_str.d k)) (ref19_str.ok k) (CxOk.cons (p := (61, ref19_at.d k)) (ref19_at.ok k) (CxOk.cons (p := (122, ref19_fromResources.d k)) (ref19_fromResources.ok k) (CxOk.cons (p := (123, ref19_fromProbes.d k)) (ref19_fromProbes.ok k) (CxOk.cons (p := (60, ref19_object.d k)) (ref19_object.ok k) (CxOk.cons (p := (115, ref19_list.d k)) (ref19_list.ok k) (CxOk.nil))))))
theorem l3 (k : Nat) : LoopOk Tryz.prog (S k) (lp (bodyF (Go.Proofs.Tryz.f74)) 0) := loopOk_mk (C := C k) (hC k) (Loops.all (n := 0) (by kernel_rfl) trivial) (lt := t3) (den := e3 k) (by kernel_rfl) (N := (Rows × Row)) (A := (Rows × Int)) (R := Rows)
 (fun n x => a3 n.1 n.2 x) (fun n r => o3_0 n.1 n.2 r) (fun n x => s3 k n.1 n.2 x) k (fun d => ((aR (aN d.a 0)), (d.r.getD 0 []))) (fun d => ((aR (aN d.a 2)), (aI (aN d.a 3)))) (fun d y h => out1_eval h) (fun d => by kernel_rfl) (fun n x => by kernel_rfl) (fun n r => ⟨_, rfl⟩)
theorem ok (k : Nat) : FunOk Tryz.prog 74 (d k) := fun_mk (C := C k) (hC k) (S := S k) Tryz.func74 (by kernel_rfl) (by kernel_rfl) (Loops.all (n := 1) (by kernel_rfl) ⟨trivial, l3 k⟩) (fun as_ => by kernel_rfl)
end ref19_fromContainers
namespace ref19_FromStrings
noncomputable def C (k : Nat) : Cx := ⟨Tryz.prog, tab [(76, ref19_str.d k), (115, ref19_list.d k)], [], [], tab []⟩
noncomputable def t3 : LoopT := ⟨⟨21, [.tmp 3 18 68], [(0, .sl 9 none), (2, .ptr 2 0), (3, .sl 68 (some 18)), (4, .int .i64)], [], [(2, 68)], []⟩, (fun | .exit 0 => some ⟨21, [], [(2, .ptr 2 0), (3, .sl 68 (some 18))], [], [(2, 68)], []⟩ | _ => none)⟩
noncomputable def s3 (k : Nat) (c0 : Rows) (c1 : Row) (x : (Rows × Int)) : T ((Rows × Int) ⊕ Rows) :=
  .test (iLt x.2 (rLen c0))
   (.test (iIn x.2 (rLen c0))
    (.bnd (ref19_str.f k (rStr (rAt c0 x.2) 0)).eval default fun r0 =>
    .test (rOk 80 (rLen x.1) (rLen [(et 68 r0)]))
     (.ret (.inl ((rCat x.1 [(et 68 r0)]), (iAdd .i64 x.2 (1)))))
     (.fail))
    (.fail))
   (.ret (.inr x.1))
noncomputable def a3 (c0 : Rows) (c1 : Row) (x : (Rows × Int)) : Dt := ⟨[.r c0, .u, .r x.1, .i x.2], [], [et 68 c1], []⟩
noncomputable def o3_0 (c0 : Rows) (c1 : Row) (r : Rows) : X × Dt := (.exit 0, ⟨[.u, .r r], [], [(et 68 c1)], []⟩)
noncomputable def e3 (k : Nat) (d : Dt) : T (X × Dt) := out1 (iter (s3 k (aR (aN d.a 0)) (d.r.getD 0 [])) k ((aR (aN d.a 2)), (aI (aN d.a 3)))) default (o3_0 (aR (aN d.a 0)) (d.r.getD 0 []))
noncomputable def S (k : Nat) : Subs := fun n => bif Nat.beq n 3 then some (loopV Tryz.prog t3 (e3 k)) else none
noncomputable def f (k : Nat) (a0 : Rows) : T Row :=
  .bnd (iter (ref19_FromStrings.s3 k a0 [.int .i64 (0), .int .i64 (0), .str ByteArray.empty, .slice 68 [] .open, .slice 103 [] .open]) k ([], (0))) default fun r0 =>
  .bnd (ref19_list.f k r0).eval default fun r1 =>
  .ret (et 68 r1)
noncomputable def d (k : Nat) : Fun := mkFun [25] (fun as_ => f k (vRows (vN as_ 0))) default (fun r => .agg (et 68 r))
theorem hC (k : Nat) : CxOk (C k) := CxOk.cons (p := (76, ref19_str.d k)) (ref19_str.ok k) (CxOk.cons (p := (115, ref19_list.d k)) (ref19_list.ok k) (CxOk.nil))
theorem l3 (k : Nat) : LoopOk Tryz.prog (S k) (lp (bodyF (Go.Proofs.Tryz.f124)) 0) := loopOk_mk (C := C k) (hC k) (Loops.all (n := 0) (by kernel_rfl) trivial) (lt := t3) (den := e3 k) (by kernel_rfl) (N := (Rows × Row)) (A := (Rows × Int)) (R := Rows)
 (fun n x => a3 n.1 n.2 x) (fun n r => o3_0 n.1 n.2 r) (fun n x => s3 k n.1 n.2 x) k (fun d => ((aR (aN d.a 0)), (d.r.getD 0 []))) (fun d => ((aR (aN d.a 2)), (aI (aN d.a 3)))) (fun d y h => out1_eval h) (fun d => by kernel_rfl) (fun n x => by kernel_rfl) (fun n r => ⟨_, rfl⟩)
theorem ok (k : Nat) : FunOk Tryz.prog 124 (d k) := fun_mk (C := C k) (hC k) (S := S k) Tryz.func124 (by kernel_rfl) (by kernel_rfl) (Loops.all (n := 1) (by kernel_rfl) ⟨trivial, l3 k⟩) (fun as_ => by kernel_rfl)
end ref19_FromStrings
namespace ref19_FromSelector
noncomputable def C (k : Nat) : Cx := ⟨Tryz.prog, tab [(76, ref19_str.d k), (61, ref19_at.d k), (75, ref19_num.d k), (124, ref19_FromStrings.d k), (60, ref19_object.d k), (115, ref19_list.d k)], [], [], tab []⟩
noncomputable def t3 : LoopT := ⟨⟨39, [.tmp 3 36 68], [(0, .sl 164 none), (2, .ptr 2 0), (3, .sl 68 (some 36)), (4, .int .i64)], [], [(2, 68)], []⟩, (fun | .exit 0 => some ⟨39, [], [(2, .ptr 2 0), (3, .sl 68 (some 36))], [], [(2, 68)], []⟩ | _ => none)⟩
noncomputable def s3 (k : Nat) (c0 : Rows) (c1 : Row) (x : (Rows × Int)) : T ((Rows × Int) ⊕ Rows) :=
  .test (iLt x.2 (rLen c0))
   (.test (iIn x.2 (rLen c0))
    (.bnd (ref19_str.f k (rStr (rAt c0 x.2) 0)).eval default fun r0 =>
    .bnd (ref19_at.f k (bs [107, 101, 121]) (et 68 r0)).eval default fun r1 =>
    .test (iIn x.2 (rLen c0))
     (.bnd (ref19_num.f k (rInt (rAt c0 x.2) 1)).eval default fun r2 =>
     .bnd (ref19_at.f k (bs [111, 112]) (et 68 r2)).eval default fun r3 =>
     .test (iIn x.2 (rLen c0))
      (.bnd (ref19_FromStrings.f k (rSl (rAt c0 x.2) 2)).eval default fun r4 =>
      .bnd (ref19_at.f k (bs [118, 97, 108, 117, 101, 115]) (et 68 r4)).eval default fun r5 =>
      .bnd (ref19_object.f k [(et 103 r1), (et 103 r3), (et 103 r5)]).eval default fun r6 =>
      .test (rOk 80 (rLen x.1) (rLen [(et 68 r6)]))
       (.ret (.inl ((rCat x.1 [(et 68 r6)]), (iAdd .i64 x.2 (1)))))
       (.fail))
      (.fail))
     (.fail))
    (.fail))
   (.ret (.inr x.1))
noncomputable def a3 (c0 : Rows) (c1 : Row) (x : (Rows × Int)) : Dt := ⟨[.r c0, .u, .r x.1, .i x.2], [], [et 68 c1], []⟩
noncomputable def o3_0 (c0 : Rows) (c1 : Row) (r : Rows) : X × Dt := (.exit 0, ⟨[.u, .r r], [], [(et 68 c1)], []⟩)
noncomputable def e3 (k : Nat) (d : Dt) : T (X × Dt) := out1 (iter (s3 k (aR (aN d.a 0)) (d.r.getD 0 [])) k ((aR (aN d.a 2)), (aI (aN d.a 3)))) default (o3_0 (aR (aN d.a 0)) (d.r.getD 0 []))
noncomputable def S (k : Nat) : Subs := fun n => bif Nat.beq n 3 then some (loopV Tryz.prog t3 (e3 k)) else none
noncomputable def f (k : Nat) (a0 : Rows) : T Row :=
  .bnd (iter (ref19_FromSelector.s3 k a0 [.int .i64 (0), .int .i64 (0), .str ByteArray.empty, .slice 68 [] .open, .slice 103 [] .open]) k ([], (0))) default fun r0 =>
  .bnd (ref19_list.f k r0).eval default fun r1 =>
  .ret (et 68 r1)
noncomputable def d (k : Nat) : Fun := mkFun [30] (fun as_ => f k (vRows (vN as_ 0))) default (fun r => .agg (et 68 r))
theorem hC (k : Nat) : CxOk (C k) := CxOk.cons (p := (76, ref19_str.d k)) (ref19_str.ok k) (CxOk.cons (p := (61, ref19_at.d k)) (ref19_at.ok k) (CxOk.cons (p := (75, ref19_num.d k)) (ref19_num.ok k) (CxOk.cons (p := (124, ref19_FromStrings.d k)) (ref19_FromStrings.ok k) (CxOk.cons (p := (60, ref19_object.d k)) (ref19_object.ok k) (CxOk.cons (p := (115, ref19_list.d k)) (ref19_list.ok k) (CxOk.nil))))))
theorem l3 (k : Nat) : LoopOk Tryz.prog (S k) (lp (bodyF (Go.Proofs.Tryz.f77)) 0) := loopOk_mk (C := C k) (hC k) (Loops.all (n := 0) (by kernel_rfl) trivial) (lt := t3) (den := e3 k) (by kernel_rfl) (N := (Rows × Row)) (A := (Rows × Int)) (R := Rows)
 (fun n x => a3 n.1 n.2 x) (fun n r => o3_0 n.1 n.2 r) (fun n x => s3 k n.1 n.2 x) k (fun d => ((aR (aN d.a 0)), (d.r.getD 0 []))) (fun d => ((aR (aN d.a 2)), (aI (aN d.a 3)))) (fun d y h => out1_eval h) (fun d => by kernel_rfl) (fun n x => by kernel_rfl) (fun n r => ⟨_, rfl⟩)
theorem ok (k : Nat) : FunOk Tryz.prog 77 (d k) := fun_mk (C := C k) (hC k) (S := S k) Tryz.func77 (by kernel_rfl) (by kernel_rfl) (Loops.all (n := 1) (by kernel_rfl) ⟨trivial, l3 k⟩) (fun as_ => by kernel_rfl)
end ref19_FromSelector
namespace ref19_truth
noncomputable def C (k : Nat) : Cx := ⟨Tryz.prog, tab [], [], [], tab []⟩
noncomputable def S (k : Nat) : Subs := fun n => none
noncomputable def f (k : Nat) (a0 : Bool) : T Row :=
  .test a0
   (.ret [.int .i64 (1), .int .i64 (1), .str ByteArray.empty, .slice 68 [] .open, .slice 103 [] .open])
   (.ret [.int .i64 (1), .int .i64 (0), .str ByteArray.empty, .slice 68 [] .open, .slice 103 [] .open])
noncomputable def d (k : Nat) : Fun := mkFun [4] (fun as_ => f k (vBool (vN as_ 0))) default (fun r => .agg (et 68 r))
theorem hC (k : Nat) : CxOk (C k) := CxOk.nil
theorem ok (k : Nat) : FunOk Tryz.prog 83 (d k) := fun_mk (C := C k) (hC k) (S := S k) Tryz.func83 (by kernel_rfl) (by kernel_rfl) (Loops.all (n := 0) (by kernel_rfl) trivial) (fun as_ => by kernel_rfl)
end ref19_truth
namespace ref19_fromNodeTerms
noncomputable def C (k : Nat) : Cx := ⟨Tryz.prog, tab [(83, ref19_truth.d k), (61, ref19_at.d k), (77, ref19_FromSelector.d k), (75, ref19_num.d k), (60, ref19_object.d k), (115, ref19_list.d k)], [], [], tab []⟩
noncomputable def t3 : LoopT := ⟨⟨39, [.tmp 3 36 68], [(0, .sl 123 none), (2, .ptr 2 0), (3, .sl 68 (some 36)), (4, .int .i64)], [], [(2, 68)], []⟩, (fun | .exit 0 => some ⟨39, [], [(2, .ptr 2 0), (3, .sl 68 (some 36))], [], [(2, 68)], []⟩ | _ => none)⟩
noncomputable def s3 (k : Nat) (c0 : Rows) (c1 : Row) (x : (Rows × Int)) : T ((Rows × Int) ⊕ Rows) :=
  .test (iLt x.2 (rLen c0))
   (.test (iIn x.2 (rLen c0))
    (.bnd (ref19_truth.f k (rBool (rAt c0 x.2) 0)).eval default fun r0 =>
    .bnd (ref19_at.f k (bs [114, 101, 113, 117, 105, 114, 101, 100]) (et 68 r0)).eval default fun r1 =>
    .test (iIn x.2 (rLen c0))
     (.bnd (ref19_FromSelector.f k (rSl (rAt c0 x.2) 1)).eval default fun r2 =>
     .bnd (ref19_at.f k (bs [115, 101, 108, 101, 99, 116, 111, 114]) (et 68 r2)).eval default fun r3 =>
     .test (iIn x.2 (rLen c0))
      (.bnd (ref19_num.f k (rInt (rAt c0 x.2) 2)).eval default fun r4 =>
      .bnd (ref19_at.f k (bs [119, 101, 105, 103, 104, 116]) (et 68 r4)).eval default fun r5 =>
      .bnd (ref19_object.f k [(et 103 r1), (et 103 r3), (et 103 r5)]).eval default fun r6 =>
      .test (rOk 80 (rLen x.1) (rLen [(et 68 r6)]))
       (.ret (.inl ((rCat x.1 [(et 68 r6)]), (iAdd .i64 x.2 (1)))))
       (.fail))
      (.fail))
     (.fail))
    (.fail))
   (.ret (.inr x.1))
noncomputable def a3 (c0 : Rows) (c1 : Row) (x : (Rows × Int)) : Dt := ⟨[.r c0, .u, .r x.1, .i x.2], [], [et 68 c1], []⟩
noncomputable def o3_0 (c0 : Rows) (c1 : Row) (r : Rows) : X × Dt := (.exit 0, ⟨[.u, .r r], [], [(et 68 c1)], []⟩)
noncomputable def e3 (k : Nat) (d : Dt) : T (X × Dt) := out1 (iter (s3 k (aR (aN d.a 0)) (d.r.getD 0 [])) k ((aR (aN d.a 2)), (aI (aN d.a 3)))) default (o3_0 (aR (aN d.a 0)) (d.r.getD 0 []))
noncomputable def S (k : Nat) : Subs := fun n => bif Nat.beq n 3 then some (loopV Tryz.prog t3 (e3 k)) else none
noncomputable def f (k : Nat) (a0 : Rows) : T Row :=
  .bnd (iter (ref19_fromNodeTerms.s3 k a0 [.int .i64 (0), .int .i64 (0), .str ByteArray.empty, .slice 68 [] .open, .slice 103 [] .open]) k ([], (0))) default fun r0 =>
  .bnd (ref19_list.f k r0).eval default fun r1 =>
  .ret (et 68 r1)
noncomputable def d (k : Nat) : Fun := mkFun [31] (fun as_ => f k (vRows (vN as_ 0))) default (fun r => .agg (et 68 r))
theorem hC (k : Nat) : CxOk (C k) := CxOk.cons (p := (83, ref19_truth.d k)) (ref19_truth.ok k) (CxOk.cons (p := (61, ref19_at.d k)) (ref19_at.ok k) (CxOk.cons (p := (77, ref19_FromSelector.d k)) (ref19_FromSelector.ok k) (CxOk.cons (p := (75, ref19_num.d k)) (ref19_num.ok k) (CxOk.cons (p := (60, ref19_object.d k)) (ref19_object.ok k) (CxOk.cons (p := (115, ref19_list.d k)) (ref19_list.ok k) (CxOk.nil))))))
theorem l3 (k : Nat) : LoopOk Tryz.prog (S k) (lp (bodyF (Go.Proofs.Tryz.f78)) 0) := loopOk_mk (C := C k) (hC k) (Loops.all (n := 0) (by kernel_rfl) trivial) (lt := t3) (den := e3 k) (by kernel_rfl) (N := (Rows × Row)) (A := (Rows × Int)) (R := Rows)
 (fun n x => a3 n.1 n.2 x) (fun n r => o3_0 n.1 n.2 r) (fun n x => s3 k n.1 n.2 x) k (fun d => ((aR (aN d.a 0)), (d.r.getD 0 []))) (fun d => ((aR (aN d.a 2)), (aI (aN d.a 3)))) (fun d y h => out1_eval h) (fun d => by kernel_rfl) (fun n x => by kernel_rfl) (fun n r => ⟨_, rfl⟩)
theorem ok (k : Nat) : FunOk Tryz.prog 78 (d k) := fun_mk (C := C k) (hC k) (S := S k) Tryz.func78 (by kernel_rfl) (by kernel_rfl) (Loops.all (n := 1) (by kernel_rfl) ⟨trivial, l3 k⟩) (fun as_ => by kernel_rfl)
end ref19_fromNodeTerms
namespace ref19_fromPodTerms
noncomputable def C (k : Nat) : Cx := ⟨Tryz.prog, tab [(83, ref19_truth.d k), (61, ref19_at.d k), (77, ref19_FromSelector.d k), (76, ref19_str.d k), (75, ref19_num.d k), (60, ref19_object.d k), (115, ref19_list.d k)], [], [], tab []⟩
noncomputable def t3 : LoopT := ⟨⟨53, [.tmp 3 50 68], [(0, .sl 126 none), (2, .ptr 2 0), (3, .sl 68 (some 50)), (4, .int .i64)], [], [(2, 68)], []⟩, (fun | .exit 0 => some ⟨53, [], [(2, .ptr 2 0), (3, .sl 68 (some 50))], [], [(2, 68)], []⟩ | _ => none)⟩
noncomputable def s3 (k : Nat) (c0 : Rows) (c1 : Row) (x : (Rows × Int)) : T ((Rows × Int) ⊕ Rows) :=
  .test (iLt x.2 (rLen c0))
   (.test (iIn x.2 (rLen c0))
    (.bnd (ref19_truth.f k (rBool (rAt c0 x.2) 1)).eval default fun r0 =>
    .bnd (ref19_at.f k (bs [97, 110, 116, 105]) (et 68 r0)).eval default fun r1 =>
    .test (iIn x.2 (rLen c0))
     (.bnd (ref19_truth.f k (rBool (rAt c0 x.2) 0)).eval default fun r2 =>
     .bnd (ref19_at.f k (bs [114, 101, 113, 117, 105, 114, 101, 100]) (et 68 r2)).eval default fun r3 =>
     .test (iIn x.2 (rLen c0))
      (.bnd (ref19_FromSelector.f k (rSl (rAt c0 x.2) 2)).eval default fun r4 =>
      .bnd (ref19_at.f k (bs [115, 101, 108, 101, 99, 116, 111, 114]) (et 68 r4)).eval default fun r5 =>
      .test (iIn x.2 (rLen c0))
       (.bnd (ref19_str.f k (rStr (rAt c0 x.2) 3)).eval default fun r6 =>
       .bnd (ref19_at.f k (bs [116, 111, 112, 111, 108, 111, 103, 121]) (et 68 r6)).eval default fun r7 =>
       .test (iIn x.2 (rLen c0))
        (.bnd (ref19_num.f k (rInt (rAt c0 x.2) 4)).eval default fun r8 =>
        .bnd (ref19_at.f k (bs [119, 101, 105, 103, 104, 116]) (et 68 r8)).eval default fun r9 =>
        .bnd (ref19_object.f k [(et 103 r1), (et 103 r3), (et 103 r5), (et 103 r7), (et 103 r9)]).eval default fun r10 =>
        .test (rOk 80 (rLen x.1) (rLen [(et 68 r10)]))
         (.ret (.inl ((rCat x.1 [(et 68 r10)]), (iAdd .i64 x.2 (1)))))
         (.fail))
        (.fail))
       (.fail))
      (.fail))
     (.fail))
    (.fail))
   (.ret (.inr x.1))
noncomputable def a3 (c0 : Rows) (c1 : Row) (x : (Rows × Int)) : Dt := ⟨[.r c0, .u, .r x.1, .i x.2], [], [et 68 c1], []⟩
noncomputable def o3_0 (c0 : Rows) (c1 : Row) (r : Rows) : X × Dt := (.exit 0, ⟨[.u, .r r], [], [(et 68 c1)], []⟩)
noncomputable def e3 (k : Nat) (d : Dt) : T (X × Dt) := out1 (iter (s3 k (aR (aN d.a 0)) (d.r.getD 0 [])) k ((aR (aN d.a 2)), (aI (aN d.a 3)))) default (o3_0 (aR (aN d.a 0)) (d.r.getD 0 []))
noncomputable def S (k : Nat) : Subs := fun n => bif Nat.beq n 3 then some (loopV Tryz.prog t3 (e3 k)) else none
noncomputable def f (k : Nat) (a0 : Rows) : T Row :=
  .bnd (iter (ref19_fromPodTerms.s3 k a0 [.int .i64 (0), .int .i64 (0), .str ByteArray.empty, .slice 68 [] .open, .slice 103 [] .open]) k ([], (0))) default fun r0 =>
  .bnd (ref19_list.f k r0).eval default fun r1 =>
  .ret (et 68 r1)
noncomputable def d (k : Nat) : Fun := mkFun [32] (fun as_ => f k (vRows (vN as_ 0))) default (fun r => .agg (et 68 r))
theorem hC (k : Nat) : CxOk (C k) := CxOk.cons (p := (83, ref19_truth.d k)) (ref19_truth.ok k) (CxOk.cons (p := (61, ref19_at.d k)) (ref19_at.ok k) (CxOk.cons (p := (77, ref19_FromSelector.d k)) (ref19_FromSelector.ok k) (CxOk.cons (p := (76, ref19_str.d k)) (ref19_str.ok k) (CxOk.cons (p := (75, ref19_num.d k)) (ref19_num.ok k) (CxOk.cons (p := (60, ref19_object.d k)) (ref19_object.ok k) (CxOk.cons (p := (115, ref19_list.d k)) (ref19_list.ok k) (CxOk.nil)))))))
theorem l3 (k : Nat) : LoopOk Tryz.prog (S k) (lp (bodyF (Go.Proofs.Tryz.f79)) 0) := loopOk_mk (C := C k) (hC k) (Loops.all (n := 0) (by kernel_rfl) trivial) (lt := t3) (den := e3 k) (by kernel_rfl) (N := (Rows × Row)) (A := (Rows × Int)) (R := Rows)
 (fun n x => a3 n.1 n.2 x) (fun n r => o3_0 n.1 n.2 r) (fun n x => s3 k n.1 n.2 x) k (fun d => ((aR (aN d.a 0)), (d.r.getD 0 []))) (fun d => ((aR (aN d.a 2)), (aI (aN d.a 3)))) (fun d y h => out1_eval h) (fun d => by kernel_rfl) (fun n x => by kernel_rfl) (fun n r => ⟨_, rfl⟩)
theorem ok (k : Nat) : FunOk Tryz.prog 79 (d k) := fun_mk (C := C k) (hC k) (S := S k) Tryz.func79 (by kernel_rfl) (by kernel_rfl) (Loops.all (n := 1) (by kernel_rfl) ⟨trivial, l3 k⟩) (fun as_ => by kernel_rfl)
end ref19_fromPodTerms
namespace ref19_fromSpread
noncomputable def C (k : Nat) : Cx := ⟨Tryz.prog, tab [(75, ref19_num.d k), (61, ref19_at.d k), (83, ref19_truth.d k), (77, ref19_FromSelector.d k), (76, ref19_str.d k), (60, ref19_object.d k), (115, ref19_list.d k)], [], [], tab []⟩
noncomputable def t3 : LoopT := ⟨⟨46, [.tmp 3 43 68], [(0, .sl 129 none), (2, .ptr 2 0), (3, .sl 68 (some 43)), (4, .int .i64)], [], [(2, 68)], []⟩, (fun | .exit 0 => some ⟨46, [], [(2, .ptr 2 0), (3, .sl 68 (some 43))], [], [(2, 68)], []⟩ | _ => none)⟩
noncomputable def s3 (k : Nat) (c0 : Rows) (c1 : Row) (x : (Rows × Int)) : T ((Rows × Int) ⊕ Rows) :=
  .test (iLt x.2 (rLen c0))
   (.test (iIn x.2 (rLen c0))
    (.bnd (ref19_num.f k (rInt (rAt c0 x.2) 0)).eval default fun r0 =>
    .bnd (ref19_at.f k (bs [109, 97, 120, 83, 107, 101, 119]) (et 68 r0)).eval default fun r1 =>
    .test (iIn x.2 (rLen c0))
     (.bnd (ref19_truth.f k (rBool (rAt c0 x.2) 3)).eval default fun r2 =>
     .bnd (ref19_at.f k (bs [114, 101, 113, 117, 105, 114, 101, 100]) (et 68 r2)).eval default fun r3 =>
     .test (iIn x.2 (rLen c0))
      (.bnd (ref19_FromSelector.f k (rSl (rAt c0 x.2) 2)).eval default fun r4 =>
      .bnd (ref19_at.f k (bs [115, 101, 108, 101, 99, 116, 111, 114]) (et 68 r4)).eval default fun r5 =>
      .test (iIn x.2 (rLen c0))
       (.bnd (ref19_str.f k (rStr (rAt c0 x.2) 1)).eval default fun r6 =>
       .bnd (ref19_at.f k (bs [116, 111, 112, 111, 108, 111, 103, 121]) (et 68 r6)).eval default fun r7 =>
       .bnd (ref19_object.f k [(et 103 r1), (et 103 r3), (et 103 r5), (et 103 r7)]).eval default fun r8 =>
       .test (rOk 80 (rLen x.1) (rLen [(et 68 r8)]))
        (.ret (.inl ((rCat x.1 [(et 68 r8)]), (iAdd .i64 x.2 (1)))))
        (.fail))
       (.fail))
      (.fail))
     (.fail))
    (.fail))
   (.ret (.inr x.1))
noncomputable def a3 (c0 : Rows) (c1 : Row) (x : (Rows × Int)) : Dt := ⟨[.r c0, .u, .r x.1, .i x.2], [], [et 68 c1], []⟩
noncomputable def o3_0 (c0 : Rows) (c1 : Row) (r : Rows) : X × Dt := (.exit 0, ⟨[.u, .r r], [], [(et 68 c1)], []⟩)
noncomputable def e3 (k : Nat) (d : Dt) : T (X × Dt) := out1 (iter (s3 k (aR (aN d.a 0)) (d.r.getD 0 [])) k ((aR (aN d.a 2)), (aI (aN d.a 3)))) default (o3_0 (aR (aN d.a 0)) (d.r.getD 0 []))
noncomputable def S (k : Nat) : Subs := fun n => bif Nat.beq n 3 then some (loopV Tryz.prog t3 (e3 k)) else none
noncomputable def f (k : Nat) (a0 : Rows) : T Row :=
  .bnd (iter (ref19_fromSpread.s3 k a0 [.int .i64 (0), .int .i64 (0), .str ByteArray.empty, .slice 68 [] .open, .slice 103 [] .open]) k ([], (0))) default fun r0 =>
  .bnd (ref19_list.f k r0).eval default fun r1 =>
  .ret (et 68 r1)
noncomputable def d (k : Nat) : Fun := mkFun [33] (fun as_ => f k (vRows (vN as_ 0))) default (fun r => .agg (et 68 r))
theorem hC (k : Nat) : CxOk (C k) := CxOk.cons (p := (75, ref19_num.d k)) (ref19_num.ok k) (CxOk.cons (p := (61, ref19_at.d k)) (ref19_at.ok k) (CxOk.cons (p := (83, ref19_truth.d k)) (ref19_truth.ok k) (CxOk.cons (p := (77, ref19_FromSelector.d k)) (ref19_FromSelector.ok k) (CxOk.cons (p := (76, ref19_str.d k)) (ref19_str.ok k) (CxOk.cons (p := (60, ref19_object.d k)) (ref19_object.ok k) (CxOk.cons (p := (115, ref19_list.d k)) (ref19_list.ok k) (CxOk.nil)))))))
theorem l3 (k : Nat) : LoopOk Tryz.prog (S k) (lp (bodyF (Go.Proofs.Tryz.f80)) 0) := loopOk_mk (C := C k) (hC k) (Loops.all (n := 0) (by kernel_rfl) trivial) (lt := t3) (den := e3 k) (by kernel_rfl) (N := (Rows × Row)) (A := (Rows × Int)) (R := Rows)
 (fun n x => a3 n.1 n.2 x) (fun n r => o3_0 n.1 n.2 r) (fun n x => s3 k n.1 n.2 x) k (fun d => ((aR (aN d.a 0)), (d.r.getD 0 []))) (fun d => ((aR (aN d.a 2)), (aI (aN d.a 3)))) (fun d y h => out1_eval h) (fun d => by kernel_rfl) (fun n x => by kernel_rfl) (fun n r => ⟨_, rfl⟩)
theorem ok (k : Nat) : FunOk Tryz.prog 80 (d k) := fun_mk (C := C k) (hC k) (S := S k) Tryz.func80 (by kernel_rfl) (by kernel_rfl) (Loops.all (n := 1) (by kernel_rfl) ⟨trivial, l3 k⟩) (fun as_ => by kernel_rfl)
end ref19_fromSpread
namespace ref19_fromTolerations
noncomputable def C (k : Nat) : Cx := ⟨Tryz.prog, tab [(75, ref19_num.d k), (61, ref19_at.d k), (83, ref19_truth.d k), (76, ref19_str.d k), (60, ref19_object.d k), (115, ref19_list.d k)], [], [], tab []⟩
noncomputable def t3 : LoopT := ⟨⟨53, [.tmp 3 50 68], [(0, .sl 132 none), (2, .ptr 2 0), (3, .sl 68 (some 50)), (4, .int .i64)], [], [(2, 68)], []⟩, (fun | .exit 0 => some ⟨53, [], [(2, .ptr 2 0), (3, .sl 68 (some 50))], [], [(2, 68)], []⟩ | _ => none)⟩
noncomputable def s3 (k : Nat) (c0 : Rows) (c1 : Row) (x : (Rows × Int)) : T ((Rows × Int) ⊕ Rows) :=
  .test (iLt x.2 (rLen c0))
   (.test (iIn x.2 (rLen c0))
    (.bnd (ref19_num.f k (rInt (rAt c0 x.2) 3)).eval default fun r0 =>
    .bnd (ref19_at.f k (bs [101, 102, 102, 101, 99, 116]) (et 68 r0)).eval default fun r1 =>
    .test (iIn x.2 (rLen c0))
     (.bnd (ref19_truth.f k (rBool (rAt c0 x.2) 2)).eval default fun r2 =>
     .bnd (ref19_at.f k (bs [101, 120, 105, 115, 116, 115]) (et 68 r2)).eval default fun r3 =>
     .test (iIn x.2 (rLen c0))
      (.bnd (ref19_str.f k (rStr (rAt c0 x.2) 0)).eval default fun r4 =>
      .bnd (ref19_at.f k (bs [107, 101, 121]) (et 68 r4)).eval default fun r5 =>
      .test (iIn x.2 (rLen c0))
       (.bnd (ref19_num.f k (rInt (rAt c0 x.2) 4)).eval default fun r6 =>
       .bnd (ref19_at.f k (bs [115, 101, 99, 111, 110, 100, 115]) (et 68 r6)).eval default fun r7 =>
       .test (iIn x.2 (rLen c0))
        (.bnd (ref19_str.f k (rStr (rAt c0 x.2) 1)).eval default fun r8 =>
        .bnd (ref19_at.f k (bs [118, 97, 108, 117, 101]) (et 68 r8)).eval default fun r9 =>
        .bnd (ref19_object.f k [(et 103 r1), (et 103 r3), (et 103 r5), (et 103 r7), (et 103 r9)]).eval default fun r10 =>
        .test (rOk 80 (rLen x.1) (rLen [(et 68 r10)]))
         (.ret (.inl ((rCat x.1 [(et 68 r10)]), (iAdd .i64 x.2 (1)))))
         (.fail))
        (.fail))
       (.fail))
      (.fail))
     (.fail))
    (.fail))
   (.ret (.inr x.1))
noncomputable def a3 (c0 : Rows) (c1 : Row) (x : (Rows × Int)) : Dt := ⟨[.r c0, .u, .r x.1, .i x.2], [], [et 68 c1], []⟩
noncomputable def o3_0 (c0 : Rows) (c1 : Row) (r : Rows) : X × Dt := (.exit 0, ⟨[.u, .r r], [], [(et 68 c1)], []⟩)
noncomputable def e3 (k : Nat) (d : Dt) : T (X × Dt) := out1 (iter (s3 k (aR (aN d.a 0)) (d.r.getD 0 [])) k ((aR (aN d.a 2)), (aI (aN d.a 3)))) default (o3_0 (aR (aN d.a 0)) (d.r.getD 0 []))
noncomputable def S (k : Nat) : Subs := fun n => bif Nat.beq n 3 then some (loopV Tryz.prog t3 (e3 k)) else none
noncomputable def f (k : Nat) (a0 : Rows) : T Row :=
  .bnd (iter (ref19_fromTolerations.s3 k a0 [.int .i64 (0), .int .i64 (0), .str ByteArray.empty, .slice 68 [] .open, .slice 103 [] .open]) k ([], (0))) default fun r0 =>
  .bnd (ref19_list.f k r0).eval default fun r1 =>
  .ret (et 68 r1)
noncomputable def d (k : Nat) : Fun := mkFun [34] (fun as_ => f k (vRows (vN as_ 0))) default (fun r => .agg (et 68 r))
theorem hC (k : Nat) : CxOk (C k) := CxOk.cons (p := (75, ref19_num.d k)) (ref19_num.ok k) (CxOk.cons (p := (61, ref19_at.d k)) (ref19_at.ok k) (CxOk.cons (p := (83, ref19_truth.d k)) (ref19_truth.ok k) (CxOk.cons (p := (76, ref19_str.d k)) (ref19_str.ok k) (CxOk.cons (p := (60, ref19_object.d k)) (ref19_object.ok k) (CxOk.cons (p := (115, ref19_list.d k)) (ref19_list.ok k) (CxOk.nil))))))
theorem l3 (k : Nat) : LoopOk Tryz.prog (S k) (lp (bodyF (Go.Proofs.Tryz.f81)) 0) := loopOk_mk (C := C k) (hC k) (Loops.all (n := 0) (by kernel_rfl) trivial) (lt := t3) (den := e3 k) (by kernel_rfl) (N := (Rows × Row)) (A := (Rows × Int)) (R := Rows)
 (fun n x => a3 n.1 n.2 x) (fun n r => o3_0 n.1 n.2 r) (fun n x => s3 k n.1 n.2 x) k (fun d => ((aR (aN d.a 0)), (d.r.getD 0 []))) (fun d => ((aR (aN d.a 2)), (aI (aN d.a 3)))) (fun d y h => out1_eval h) (fun d => by kernel_rfl) (fun n x => by kernel_rfl) (fun n r => ⟨_, rfl⟩)
theorem ok (k : Nat) : FunOk Tryz.prog 81 (d k) := fun_mk (C := C k) (hC k) (S := S k) Tryz.func81 (by kernel_rfl) (by kernel_rfl) (Loops.all (n := 1) (by kernel_rfl) ⟨trivial, l3 k⟩) (fun as_ => by kernel_rfl)
end ref19_fromTolerations
namespace ref19_FromSpec
noncomputable def C (k : Nat) : Cx := ⟨Tryz.prog, tab [(74, ref19_fromContainers.d k), (61, ref19_at.d k), (75, ref19_num.d k), (76, ref19_str.d k), (77, ref19_FromSelector.d k), (78, ref19_fromNodeTerms.d k), (79, ref19_fromPodTerms.d k), (80, ref19_fromSpread.d k), (81, ref19_fromTolerations.d k), (60, ref19_object.d k)], [], [], tab []⟩
noncomputable def S (k : Nat) : Subs := fun n => none
noncomputable def f (k : Nat) (a0 : Row) : T Row :=
  .bnd (ref19_fromContainers.f k (rSl a0 4)).eval default fun r0 =>
  .bnd (ref19_at.f k (bs [99, 111, 110, 116, 97, 105, 110, 101, 114, 115]) (et 68 r0)).eval default fun r1 =>
  .bnd (ref19_num.f k (rInt a0 3)).eval default fun r2 =>
  .bnd (ref19_at.f k (bs [103, 114, 97, 99, 101]) (et 68 r2)).eval default fun r3 =>
  .bnd (ref19_str.f k (rStr a0 0)).eval default fun r4 =>
  .bnd (ref19_at.f k (bs [110, 111, 100, 101]) (et 68 r4)).eval default fun r5 =>
  .bnd (ref19_FromSelector.f k (rSl a0 5)).eval default fun r6 =>
  .bnd (ref19_at.f k (bs [110, 111, 100, 101, 83, 101, 108, 101, 99, 116, 111, 114]) (et 68 r6)).eval default fun r7 =>
  .bnd (ref19_fromNodeTerms.f k (rSl a0 6)).eval default fun r8 =>
  .bnd (ref19_at.f k (bs [110, 111, 100, 101, 84, 101, 114, 109, 115]) (et 68 r8)).eval default fun r9 =>
  .bnd (ref19_fromPodTerms.f k (rSl a0 7)).eval default fun r10 =>
  .bnd (ref19_at.f k (bs [112, 111, 100, 84, 101, 114, 109, 115]) (et 68 r10)).eval default fun r11 =>
  .bnd (ref19_num.f k (rInt a0 1)).eval default fun r12 =>
  .bnd (ref19_at.f k (bs [112, 114, 105, 111, 114, 105, 116, 121]) (et 68 r12)).eval default fun r13 =>
  .bnd (ref19_num.f k (rInt a0 2)).eval default fun r14 =>
  .bnd (ref19_at.f k (bs [114, 101, 115, 116, 97, 114, 116]) (et 68 r14)).eval default fun r15 =>
  .bnd (ref19_fromSpread.f k (rSl a0 8)).eval default fun r16 =>
  .bnd (ref19_at.f k (bs [115, 112, 114, 101, 97, 100]) (et 68 r16)).eval default fun r17 =>
  .bnd (ref19_fromTolerations.f k (rSl a0 9)).eval default fun r18 =>
  .bnd (ref19_at.f k (bs [116, 111, 108, 101, 114, 97, 116, 105, 111, 110, 115]) (et 68 r18)).eval default fun r19 =>
  .bnd (ref19_object.f k [(et 103 r1), (et 103 r3), (et 103 r5), (et 103 r7), (et 103 r9), (et 103 r11), (et 103 r13), (et 103 r15), (et 103 r17), (et 103 r19)]).eval default fun r20 =>
  .ret (et 68 r20)
noncomputable def d (k : Nat) : Fun := mkFun [36] (fun as_ => f k (vRow (vN as_ 0))) default (fun r => .agg (et 68 r))
theorem hC (k : Nat) : CxOk (C k) := CxOk.cons (p := (74, ref19_fromContainers.d k)) (ref19_fromContainers.ok k) (CxOk.cons (p := (61, ref19_at.d k)) (ref19_at.ok k) (CxOk.cons (p := (75, ref19_num.d k)) (ref19_num.ok k) (CxOk.cons (p := (76, ref19_str.d k)) (ref19_str.ok k) (CxOk.cons (p := (77, ref19_FromSelector.d k)) (ref19_FromSelector.ok k) (CxOk.cons (p := (78, ref19_fromNodeTerms.d k)) (ref19_fromNodeTerms.ok k) (CxOk.cons (p := (79, ref19_fromPodTerms.d k)) (ref19_fromPodTerms.ok k) (CxOk.cons (p := (80, ref19_fromSpread.d k)) (ref19_fromSpread.ok k) (CxOk.cons (p := (81, ref19_fromTolerations.d k)) (ref19_fromTolerations.ok k) (CxOk.cons (p := (60, ref19_object.d k)) (ref19_object.ok k) (CxOk.nil))))))))))
theorem ok (k : Nat) : FunOk Tryz.prog 46 (d k) := fun_mk (C := C k) (hC k) (S := S k) Tryz.func46 (by kernel_rfl) (by kernel_rfl) (Loops.all (n := 0) (by kernel_rfl) trivial) (fun as_ => by kernel_rfl)
end ref19_FromSpec
namespace ref19_fromStatuses
noncomputable def C (k : Nat) : Cx := ⟨Tryz.prog, tab [(75, ref19_num.d k), (61, ref19_at.d k), (76, ref19_str.d k), (83, ref19_truth.d k), (60, ref19_object.d k), (115, ref19_list.d k)], [], [], tab []⟩
noncomputable def t3 : LoopT := ⟨⟨51, [.tmp 3 48 68], [(0, .sl 63 none), (2, .ptr 2 0), (3, .sl 68 (some 48)), (4, .int .i64)], [], [(2, 68)], []⟩, (fun | .exit 0 => some ⟨51, [], [(2, .ptr 2 0), (3, .sl 68 (some 48))], [], [(2, 68)], []⟩ | _ => none)⟩
noncomputable def s3 (k : Nat) (c0 : Rows) (c1 : Row) (x : (Rows × Int)) : T ((Rows × Int) ⊕ Rows) :=
  .test (iLt x.2 (rLen c0))
   (.test (iIn x.2 (rLen c0))
    (.bnd (ref19_num.f k (rInt (rAt c0 x.2) 3)).eval default fun r0 =>
    .bnd (ref19_at.f k (bs [101, 120, 105, 116, 67, 111, 100, 101]) (et 68 r0)).eval default fun r1 =>
    .bnd (ref19_str.f k (rStr (rAt c0 x.2) 0)).eval default fun r2 =>
    .bnd (ref19_at.f k (bs [110, 97, 109, 101]) (et 68 r2)).eval default fun r3 =>
    .bnd (ref19_truth.f k (rBool (rAt c0 x.2) 5)).eval default fun r4 =>
    .bnd (ref19_at.f k (bs [114, 101, 97, 100, 121]) (et 68 r4)).eval default fun r5 =>
    .bnd (ref19_num.f k (rInt (rAt c0 x.2) 2)).eval default fun r6 =>
    .bnd (ref19_at.f k (bs [114, 101, 115, 116, 97, 114, 116, 115]) (et 68 r6)).eval default fun r7 =>
    .bnd (ref19_num.f k (rInt (rAt c0 x.2) 4)).eval default fun r8 =>
    .bnd (ref19_at.f k (bs [115, 105, 110, 99, 101]) (et 68 r8)).eval default fun r9 =>
    .bnd (ref19_truth.f k (rBool (rAt c0 x.2) 6)).eval default fun r10 =>
    .bnd (ref19_at.f k (bs [115, 116, 97, 114, 116, 101, 100]) (et 68 r10)).eval default fun r11 =>
    .bnd (ref19_num.f k (rInt (rAt c0 x.2) 1)).eval default fun r12 =>
    .bnd (ref19_at.f k (bs [115, 116, 97, 116, 101]) (et 68 r12)).eval default fun r13 =>
    .bnd (ref19_object.f k [(et 103 r1), (et 103 r3), (et 103 r5), (et 103 r7), (et 103 r9), (et 103 r11), (et 103 r13)]).eval default fun r14 =>
    .test (rOk 80 (rLen x.1) (rLen [(et 68 r14)]))
     (.ret (.inl ((rCat x.1 [(et 68 r14)]), (iAdd .i64 x.2 (1)))))
     (.fail))
    (.fail))
   (.ret (.inr x.1))
noncomputable def a3 (c0 : Rows) (c1 : Row) (x : (Rows × Int)) : Dt := ⟨[.r c0, .u, .r x.1, .i x.2], [], [et 68 c1], []⟩
noncomputable def o3_0 (c0 : Rows) (c1 : Row) (r : Rows) : X × Dt := (.exit 0, ⟨[.u, .r r], [], [(et 68 c1)], []⟩)
noncomputable def e3 (k : Nat) (d : Dt) : T (X × Dt) := out1 (iter (s3 k (aR (aN d.a 0)) (d.r.getD 0 [])) k ((aR (aN d.a 2)), (aI (aN d.a 3)))) default (o3_0 (aR (aN d.a 0)) (d.r.getD 0 []))
noncomputable def S (k : Nat) : Subs := fun n => bif Nat.beq n 3 then some (loopV Tryz.prog t3 (e3 k)) else none
noncomputable def f (k : Nat) (a0 : Rows) : T Row :=
  .bnd (iter (ref19_fromStatuses.s3 k a0 [.int .i64 (0), .int .i64 (0), .str ByteArray.empty, .slice 68 [] .open, .slice 103 [] .open]) k ([], (0))) default fun r0 =>
  .bnd (ref19_list.f k r0).eval default fun r1 =>
  .ret (et 68 r1)
noncomputable def d (k : Nat) : Fun := mkFun [22] (fun as_ => f k (vRows (vN as_ 0))) default (fun r => .agg (et 68 r))
theorem hC (k : Nat) : CxOk (C k) := CxOk.cons (p := (75, ref19_num.d k)) (ref19_num.ok k) (CxOk.cons (p := (61, ref19_at.d k)) (ref19_at.ok k) (CxOk.cons (p := (76, ref19_str.d k)) (ref19_str.ok k) (CxOk.cons (p := (83, ref19_truth.d k)) (ref19_truth.ok k) (CxOk.cons (p := (60, ref19_object.d k)) (ref19_object.ok k) (CxOk.cons (p := (115, ref19_list.d k)) (ref19_list.ok k) (CxOk.nil))))))
theorem l3 (k : Nat) : LoopOk Tryz.prog (S k) (lp (bodyF (Go.Proofs.Tryz.f82)) 0) := loopOk_mk (C := C k) (hC k) (Loops.all (n := 0) (by kernel_rfl) trivial) (lt := t3) (den := e3 k) (by kernel_rfl) (N := (Rows × Row)) (A := (Rows × Int)) (R := Rows)
 (fun n x => a3 n.1 n.2 x) (fun n r => o3_0 n.1 n.2 r) (fun n x => s3 k n.1 n.2 x) k (fun d => ((aR (aN d.a 0)), (d.r.getD 0 []))) (fun d => ((aR (aN d.a 2)), (aI (aN d.a 3)))) (fun d y h => out1_eval h) (fun d => by kernel_rfl) (fun n x => by kernel_rfl) (fun n r => ⟨_, rfl⟩)
theorem ok (k : Nat) : FunOk Tryz.prog 82 (d k) := fun_mk (C := C k) (hC k) (S := S k) Tryz.func82 (by kernel_rfl) (by kernel_rfl) (Loops.all (n := 1) (by kernel_rfl) ⟨trivial, l3 k⟩) (fun as_ => by kernel_rfl)
end ref19_fromStatuses
namespace ref19_fromStatus
noncomputable def C (k : Nat) : Cx := ⟨Tryz.prog, tab [(75, ref19_num.d k), (61, ref19_at.d k), (82, ref19_fromStatuses.d k), (76, ref19_str.d k), (83, ref19_truth.d k), (60, ref19_object.d k)], [], [], tab []⟩
noncomputable def S (k : Nat) : Subs := fun n => none
noncomputable def f (k : Nat) (a0 : Row) : T Row :=
  .bnd (ref19_num.f k (rInt a0 6)).eval default fun r0 =>
  .bnd (ref19_at.f k (bs [97, 100, 100, 114, 101, 115, 115]) (et 68 r0)).eval default fun r1 =>
  .bnd (ref19_fromStatuses.f k (rSl a0 5)).eval default fun r2 =>
  .bnd (ref19_at.f k (bs [99, 111, 110, 116, 97, 105, 110, 101, 114, 115]) (et 68 r2)).eval default fun r3 =>
  .bnd (ref19_num.f k (rInt a0 4)).eval default fun r4 =>
  .bnd (ref19_at.f k (bs [102, 105, 110, 105, 115, 104, 101, 100]) (et 68 r4)).eval default fun r5 =>
  .bnd (ref19_str.f k (rStr a0 7)).eval default fun r6 =>
  .bnd (ref19_at.f k (bs [110, 111, 109, 105, 110, 97, 116, 101, 100]) (et 68 r6)).eval default fun r7 =>
  .bnd (ref19_num.f k (rInt a0 0)).eval default fun r8 =>
  .bnd (ref19_at.f k (bs [112, 104, 97, 115, 101]) (et 68 r8)).eval default fun r9 =>
  .bnd (ref19_truth.f k (rBool a0 1)).eval default fun r10 =>
  .bnd (ref19_at.f k (bs [114, 101, 97, 100, 121]) (et 68 r10)).eval default fun r11 =>
  .bnd (ref19_num.f k (rInt a0 2)).eval default fun r12 =>
  .bnd (ref19_at.f k (bs [114, 101, 97, 100, 121, 83, 105, 110, 99, 101]) (et 68 r12)).eval default fun r13 =>
  .bnd (ref19_str.f k (rStr a0 8)).eval default fun r14 =>
  .bnd (ref19_at.f k (bs [114, 101, 97, 115, 111, 110]) (et 68 r14)).eval default fun r15 =>
  .bnd (ref19_num.f k (rInt a0 3)).eval default fun r16 =>
  .bnd (ref19_at.f k (bs [115, 116, 97, 114, 116, 101, 100]) (et 68 r16)).eval default fun r17 =>
  .bnd (ref19_object.f k [(et 103 r1), (et 103 r3), (et 103 r5), (et 103 r7), (et 103 r9), (et 103 r11), (et 103 r13), (et 103 r15), (et 103 r17)]).eval default fun r18 =>
  .ret (et 68 r18)
noncomputable def d (k : Nat) : Fun := mkFun [38] (fun as_ => f k (vRow (vN as_ 0))) default (fun r => .agg (et 68 r))
theorem hC (k : Nat) : CxOk (C k) := CxOk.cons (p := (75, ref19_num.d k)) (ref19_num.ok k) (CxOk.cons (p := (61, ref19_at.d k)) (ref19_at.ok k) (CxOk.cons (p := (82, ref19_fromStatuses.d k)) (ref19_fromStatuses.ok k) (CxOk.cons (p := (76, ref19_str.d k)) (ref19_str.ok k) (CxOk.cons (p := (83, ref19_truth.d k)) (ref19_truth.ok k) (CxOk.cons (p := (60, ref19_object.d k)) (ref19_object.ok k) (CxOk.nil))))))
theorem ok (k : Nat) : FunOk Tryz.prog 47 (d k) := fun_mk (C := C k) (hC k) (S := S k) Tryz.func47 (by kernel_rfl) (by kernel_rfl) (Loops.all (n := 0) (by kernel_rfl) trivial) (fun as_ => by kernel_rfl)
end ref19_fromStatus
namespace ref19_FromPod
noncomputable def C (k : Nat) : Cx := ⟨Tryz.prog, tab [(46, ref19_FromSpec.d k), (47, ref19_fromStatus.d k)], [], [], tab []⟩
noncomputable def S (k : Nat) : Subs := fun n => none
noncomputable def f (k : Nat) (a0 : Row) : T Row :=
  .bnd (ref19_FromSpec.f k (eo 36 a0 13)).eval default fun r0 =>
  .bnd (ref19_fromStatus.f k (eo 38 a0 23)).eval default fun r1 =>
  .ret (rJ [[.str (bs [80, 111, 100]), .str (rStr a0 1), .str (rStr a0 2), .int .i64 (rInt a0 3), .int .i64 (rInt a0 4), .int .i64 (rInt a0 5), .int .i64 (rInt a0 6), .bool (rBool a0 7), .int .i64 (rInt a0 8), .slice 60 (rSl a0 9) .open, .slice 49 (rSl a0 10) .open, .slice 9 (rSl a0 11) .open, .slice 92 (rSl a0 12) .open], (et 68 r0), (et 68 r1)])
noncomputable def d (k : Nat) : Fun := mkFun [40] (fun as_ => f k (vRow (vN as_ 0))) default (fun r => .agg (et 70 r))
theorem hC (k : Nat) : CxOk (C k) := CxOk.cons (p := (46, ref19_FromSpec.d k)) (ref19_FromSpec.ok k) (CxOk.cons (p := (47, ref19_fromStatus.d k)) (ref19_fromStatus.ok k) (CxOk.nil))
theorem ok (k : Nat) : FunOk Tryz.prog 26 (d k) := fun_mk (C := C k) (hC k) (S := S k) Tryz.func26 (by kernel_rfl) (by kernel_rfl) (Loops.all (n := 0) (by kernel_rfl) trivial) (fun as_ => by kernel_rfl)
end ref19_FromPod
namespace law19_SmallMeta
noncomputable def C (k : Nat) : Cx := ⟨Tryz.prog, tab [], [], [], tab []⟩
noncomputable def t4 : LoopT := ⟨⟨121, [], [(1, .ptr 1 0), (50, .sl 60 none), (51, .int .i64), (52, .int .i64)], [], [(1, 28)], []⟩, (fun | .ret => some ⟨121, [], [(2, .bool)], [], [], []⟩ | .exit 0 => some ⟨121, [], [(1, .ptr 1 0)], [], [(1, 28)], []⟩ | _ => none)⟩
noncomputable def s4 (k : Nat) (c0 : Rows) (c1 : Int) (c2 : Row) (x : Int) : T (Int ⊕ (Bool ⊕ Unit)) :=
  .test (iLt x c1)
   (.test (iIn x (rLen c0))
    (.test (iLt (400) (iAdd .i64 (sLen (rStr (rAt c0 x) 0)) (sLen (rStr (rAt c0 x) 1))))
     (.ret (.inr (.inl false)))
     (.ret (.inl (iAdd .i64 x (1)))))
    (.fail))
   (.ret (.inr (.inr ())))
noncomputable def a4 (c0 : Rows) (c1 : Int) (c2 : Row) (x : Int) : Dt := ⟨[.u, .r c0, .i c1, .i x], [], [et 28 c2], []⟩
noncomputable def o4_0 (c0 : Rows) (c1 : Int) (c2 : Row) (r : Bool) : X × Dt := (.ret, ⟨[.b r], [], [], []⟩)
noncomputable def o4_1 (c0 : Rows) (c1 : Int) (c2 : Row) (r : Unit) : X × Dt := (.exit 0, ⟨[.u], [], [(et 28 c2)], []⟩)
noncomputable def e4 (k : Nat) (d : Dt) : T (X × Dt) := out2 (iter (s4 k (aR (aN d.a 1)) (aI (aN d.a 2)) (d.r.getD 0 [])) k (aI (aN d.a 3))) (o4_0 (aR (aN d.a 1)) (aI (aN d.a 2)) (d.r.getD 0 [])) (o4_1 (aR (aN d.a 1)) (aI (aN d.a 2)) (d.r.getD 0 []))
noncomputable def t10 : LoopT := ⟨⟨121, [], [(1, .ptr 1 0), (66, .sl 49 none), (67, .int .i64), (68, .int .i64)], [], [(1, 28)], []⟩, (fun | .ret => some ⟨121, [], [(2, .bool)], [], [], []⟩ | .exit 2 => some ⟨121, [], [(1, .ptr 1 0)], [], [(1, 28)], []⟩ | _ => none)⟩
noncomputable def s10 (k : Nat) (c0 : Rows) (c1 : Int) (c2 : Row) (x : Int) : T (Int ⊕ (Bool ⊕ Unit)) :=
  .test (iLt x c1)
   (.test (iIn x (rLen c0))
    (.test (iLt (400) (iAdd .i64 (sLen (rStr (rAt c0 x) 0)) (sLen (rStr (rAt c0 x) 1))))
     (.ret (.inr (.inl false)))
     (.ret (.inl (iAdd .i64 x (1)))))
    (.fail))
   (.ret (.inr (.inr ())))
noncomputable def a10 (c0 : Rows) (c1 : Int) (c2 : Row) (x : Int) : Dt := ⟨[.u, .r c0, .i c1, .i x], [], [et 28 c2], []⟩
noncomputable def o10_0 (c0 : Rows) (c1 : Int) (c2 : Row) (r : Bool) : X × Dt := (.ret, ⟨[.b r], [], [], []⟩)
noncomputable def o10_1 (c0 : Rows) (c1 : Int) (c2 : Row) (r : Unit) : X × Dt := (.exit 2, ⟨[.u], [], [(et 28 c2)], []⟩)
noncomputable def e10 (k : Nat) (d : Dt) : T (X × Dt) := out2 (iter (s10 k (aR (aN d.a 1)) (aI (aN d.a 2)) (d.r.getD 0 [])) k (aI (aN d.a 3))) (o10_0 (aR (aN d.a 1)) (aI (aN d.a 2)) (d.r.getD 0 [])) (o10_1 (aR (aN d.a 1)) (aI (aN d.a 2)) (d.r.getD 0 []))
noncomputable def t16 : LoopT := ⟨⟨121, [], [(1, .ptr 1 0), (82, .sl 9 none), (83, .int .i64), (84, .int .i64)], [], [(1, 28)], []⟩, (fun | .ret => some ⟨121, [], [(2, .bool)], [], [], []⟩ | .exit 4 => some ⟨121, [], [(1, .ptr 1 0)], [], [(1, 28)], []⟩ | _ => none)⟩
noncomputable def s16 (k : Nat) (c0 : Rows) (c1 : Int) (c2 : Row) (x : Int) : T (Int ⊕ (Bool ⊕ Unit)) :=
  .test (iLt x c1)
   (.test (iIn x (rLen c0))
    (.test (iLt (400) (sLen (rStr (rAt c0 x) 0)))
     (.ret (.inr (.inl false)))
     (.ret (.inl (iAdd .i64 x (1)))))
    (.fail))
   (.ret (.inr (.inr ())))
noncomputable def a16 (c0 : Rows) (c1 : Int) (c2 : Row) (x : Int) : Dt := ⟨[.u, .r c0, .i c1, .i x], [], [et 28 c2], []⟩
noncomputable def o16_0 (c0 : Rows) (c1 : Int) (c2 : Row) (r : Bool) : X × Dt := (.ret, ⟨[.b r], [], [], []⟩)
noncomputable def o16_1 (c0 : Rows) (c1 : Int) (c2 : Row) (r : Unit) : X × Dt := (.exit 4, ⟨[.u], [], [(et 28 c2)], []⟩)
noncomputable def e16 (k : Nat) (d : Dt) : T (X × Dt) := out2 (iter (s16 k (aR (aN d.a 1)) (aI (aN d.a 2)) (d.r.getD 0 [])) k (aI (aN d.a 3))) (o16_0 (aR (aN d.a 1)) (aI (aN d.a 2)) (d.r.getD 0 [])) (o16_1 (aR (aN d.a 1)) (aI (aN d.a 2)) (d.r.getD 0 []))
noncomputable def t27 : LoopT := ⟨⟨121, [], [(93, .sl 92 none), (94, .int .i64), (95, .int .i64), (110, .sl 9 none), (111, .int .i64), (112, .int .i64)], [], [], []⟩, (fun | .ret => some ⟨121, [], [(2, .bool)], [], [], []⟩ | .exit 8 => some ⟨121, [], [(93, .sl 92 none), (94, .int .i64), (95, .int .i64)], [], [], []⟩ | _ => none)⟩
noncomputable def s27 (k : Nat) (c0 : Rows) (c1 : Int) (c2 : Int) (c3 : Rows) (c4 : Int) (x : Int) : T (Int ⊕ (Bool ⊕ Unit)) :=
  .test (iLt x c4)
   (.test (iIn x (rLen c3))
    (.test (iLt (2000) (sLen (rStr (rAt c3 x) 0)))
     (.ret (.inr (.inl false)))
     (.ret (.inl (iAdd .i64 x (1)))))
    (.fail))
   (.ret (.inr (.inr ())))
noncomputable def a27 (c0 : Rows) (c1 : Int) (c2 : Int) (c3 : Rows) (c4 : Int) (x : Int) : Dt := ⟨[.r c0, .i c1, .i c2, .r c3, .i c4, .i x], [], [], []⟩
noncomputable def o27_0 (c0 : Rows) (c1 : Int) (c2 : Int) (c3 : Rows) (c4 : Int) (r : Bool) : X × Dt := (.ret, ⟨[.b r], [], [], []⟩)
noncomputable def o27_1 (c0 : Rows) (c1 : Int) (c2 : Int) (c3 : Rows) (c4 : Int) (r : Unit) : X × Dt := (.exit 8, ⟨[.r c0, .i c1, .i c2], [], [], []⟩)
noncomputable def e27 (k : Nat) (d : Dt) : T (X × Dt) := out2 (iter (s27 k (aR (aN d.a 0)) (aI (aN d.a 1)) (aI (aN d.a 2)) (aR (aN d.a 3)) (aI (aN d.a 4))) k (aI (aN d.a 5))) (o27_0 (aR (aN d.a 0)) (aI (aN d.a 1)) (aI (aN d.a 2)) (aR (aN d.a 3)) (aI (aN d.a 4))) (o27_1 (aR (aN d.a 0)) (aI (aN d.a 1)) (aI (aN d.a 2)) (aR (aN d.a 3)) (aI (aN d.a 4)))
noncomputable def t22 : LoopT := ⟨⟨121, [], [(93, .sl 92 none), (94, .int .i64), (95, .int .i64)], [], [], []⟩, (fun | .ret => some ⟨121, [], [(2, .bool)], [], [], []⟩ | .exit 6 => some ⟨121, [], [], [], [], []⟩ | _ => none)⟩
noncomputable def s22 (k : Nat) (c0 : Rows) (c1 : Int) (x : Int) : T (Int ⊕ (Bool ⊕ Unit)) :=
  .test (iLt x c1)
   (.test (iIn x (rLen c0))
    (.test (bIte (iLt (400) (sLen (rStr (rAt c0 x) 0))) true (iLt (200) (rLen (rSl (rAt c0 x) 1))))
     (.ret (.inr (.inl false)))
     (.cas (iter (law19_SmallMeta.s27 k c0 c1 x (rSl (rAt c0 x) 1) (rLen (rSl (rAt c0 x) 1))) k (0)) (fun r0 =>
      .ret (.inr (.inl r0))) (fun r1 =>
      .ret (.inl (iAdd .i64 x (1))))))
    (.fail))
   (.ret (.inr (.inr ())))
noncomputable def a22 (c0 : Rows) (c1 : Int) (x : Int) : Dt := ⟨[.r c0, .i c1, .i x], [], [], []⟩
noncomputable def o22_0 (c0 : Rows) (c1 : Int) (r : Bool) : X × Dt := (.ret, ⟨[.b r], [], [], []⟩)
noncomputable def o22_1 (c0 : Rows) (c1 : Int) (r : Unit) : X × Dt := (.exit 6, ⟨[], [], [], []⟩)
noncomputable def e22 (k : Nat) (d : Dt) : T (X × Dt) := out2 (iter (s22 k (aR (aN d.a 0)) (aI (aN d.a 1))) k (aI (aN d.a 2))) (o22_0 (aR (aN d.a 0)) (aI (aN d.a 1))) (o22_1 (aR (aN d.a 0)) (aI (aN d.a 1)))
noncomputable def S (k : Nat) : Subs := fun n => bif Nat.beq n 4 then some (loopV Tryz.prog t4 (e4 k)) else bif Nat.beq n 10 then some (loopV Tryz.prog t10 (e10 k)) else bif Nat.beq n 16 then some (loopV Tryz.prog t16 (e16 k)) else bif Nat.beq n 27 then some (loopV Tryz.prog t27 (e27 k)) else bif Nat.beq n 22 then some (loopV Tryz.prog t22 (e22 k)) else none
noncomputable def f (k : Nat) (a0 : Row) : T Bool :=
  .test (bIte (bIte (bIte (bIte (iLt (60) (rLen (rSl a0 9))) true (iLt (60) (rLen (rSl a0 10)))) true (iLt (60) (rLen (rSl a0 11)))) true (iLt (60) (rLen (rSl a0 12)))) true (iLt (400) (iAdd .i64 (iAdd .i64 (sLen (rStr a0 0)) (sLen (rStr a0 1))) (sLen (rStr a0 2)))))
   (.ret false)
   (.cas (iter (law19_SmallMeta.s4 k (rSl a0 9) (rLen (rSl a0 9)) (et 28 a0)) k (0)) (fun r0 =>
    .ret r0) (fun r1 =>
    .cas (iter (law19_SmallMeta.s10 k (rSl a0 10) (rLen (rSl a0 10)) (et 28 a0)) k (0)) (fun r2 =>
     .ret r2) (fun r3 =>
     .cas (iter (law19_SmallMeta.s16 k (rSl a0 11) (rLen (rSl a0 11)) (et 28 a0)) k (0)) (fun r4 =>
      .ret r4) (fun r5 =>
      .cas (iter (law19_SmallMeta.s22 k (rSl a0 12) (rLen (rSl a0 12))) k (0)) (fun r6 =>
       .ret r6) (fun r7 =>
       .ret true)))))
noncomputable def d (k : Nat) : Fun := mkFun [28] (fun as_ => f k (vRow (vN as_ 0))) default (fun r => .bool r)
theorem hC (k : Nat) : CxOk (C k) := CxOk.nil
theorem l4 (k : Nat) : LoopOk Tryz.prog (S k) (lp (bodyF (Go.Proofs.Tryz.f27)) 0) := loopOk_mk (C := C k) (hC k) (Loops.all (n := 0) (by kernel_rfl) trivial) (lt := t4) (den := e4 k) (by kernel_rfl) (N := (Rows × Int × Row)) (A := Int) (R := (Bool ⊕ Unit))
 (fun n x => a4 n.1 n.2.1 n.2.2 x) (fun n r => Sum.elim (o4_0 n.1 n.2.1 n.2.2) (o4_1 n.1 n.2.1 n.2.2) r) (fun n x => s4 k n.1 n.2.1 n.2.2 x) k (fun d => ((aR (aN d.a 1)), (aI (aN d.a 2)), (d.r.getD 0 []))) (fun d => (aI (aN d.a 3))) (fun d y h => out2_eval h) (fun d => by kernel_rfl) (fun n x => by kernel_rfl) (fun n r => by rcases r with r | r <;> exact ⟨_, rfl⟩)
theorem l10 (k : Nat) : LoopOk Tryz.prog (S k) (lp (bodyF (Go.Proofs.Tryz.f27)) 1) := loopOk_mk (C := C k) (hC k) (Loops.all (n := 0) (by kernel_rfl) trivial) (lt := t10) (den := e10 k) (by kernel_rfl) (N := (Rows × Int × Row)) (A := Int) (R := (Bool ⊕ Unit))
 (fun n x => a10 n.1 n.2.1 n.2.2 x) (fun n r => Sum.elim (o10_0 n.1 n.2.1 n.2.2) (o10_1 n.1 n.2.1 n.2.2) r) (fun n x => s10 k n.1 n.2.1 n.2.2 x) k (fun d => ((aR (aN d.a 1)), (aI (aN d.a 2)), (d.r.getD 0 []))) (fun d => (aI (aN d.a 3))) (fun d y h => out2_eval h) (fun d => by kernel_rfl) (fun n x => by kernel_rfl) (fun n r => by rcases r with r | r <;> exact ⟨_, rfl⟩)
theorem l16 (k : Nat) : LoopOk Tryz.prog (S k) (lp (bodyF (Go.Proofs.Tryz.f27)) 2) := loopOk_mk (C := C k) (hC k) (Loops.all (n := 0) (by kernel_rfl) trivial) (lt := t16) (den := e16 k) (by kernel_rfl) (N := (Rows × Int × Row)) (A := Int) (R := (Bool ⊕ Unit))
 (fun n x => a16 n.1 n.2.1 n.2.2 x) (fun n r => Sum.elim (o16_0 n.1 n.2.1 n.2.2) (o16_1 n.1 n.2.1 n.2.2) r) (fun n x => s16 k n.1 n.2.1 n.2.2 x) k (fun d => ((aR (aN d.a 1)), (aI (aN d.a 2)), (d.r.getD 0 []))) (fun d => (aI (aN d.a 3))) (fun d y h => out2_eval h) (fun d => by kernel_rfl) (fun n x => by kernel_rfl) (fun n r => by rcases r with r | r <;> exact ⟨_, rfl⟩)
theorem l27 (k : Nat) : LoopOk Tryz.prog (S k) (lp (lp (bodyF (Go.Proofs.Tryz.f27)) 3) 0) := loopOk_mk (C := C k) (hC k) (Loops.all (n := 0) (by kernel_rfl) trivial) (lt := t27) (den := e27 k) (by kernel_rfl) (N := (Rows × Int × Int × Rows × Int)) (A := Int) (R := (Bool ⊕ Unit))
 (fun n x => a27 n.1 n.2.1 n.2.2.1 n.2.2.2.1 n.2.2.2.2 x) (fun n r => Sum.elim (o27_0 n.1 n.2.1 n.2.2.1 n.2.2.2.1 n.2.2.2.2) (o27_1 n.1 n.2.1 n.2.2.1 n.2.2.2.1 n.2.2.2.2) r) (fun n x => s27 k n.1 n.2.1 n.2.2.1 n.2.2.2.1 n.2.2.2.2 x) k (fun d => ((aR (aN d.a 0)), (aI (aN d.a 1)), (aI (aN d.a 2)), (aR (aN d.a 3)), (aI (aN d.a 4)))) (fun d => (aI (aN d.a 5))) (fun d y h => out2_eval h) (fun d => by kernel_rfl) (fun n x => by kernel_rfl) (fun n r => by rcases r with r | r <;> exact ⟨_, rfl⟩)
theorem l22 (k : Nat) : LoopOk Tryz.prog (S k) (lp (bodyF (Go.Proofs.Tryz.f27)) 3) := loopOk_mk (C := C k) (hC k) (Loops.all (n := 1) (by kernel_rfl) ⟨trivial, l27 k⟩) (lt := t22) (den := e22 k) (by kernel_rfl) (N := (Rows × Int)) (A := Int) (R := (Bool ⊕ Unit))
 (fun n x => a22 n.1 n.2 x) (fun n r => Sum.elim (o22_0 n.1 n.2) (o22_1 n.1 n.2) r) (fun n x => s22 k n.1 n.2 x) k (fun d => ((aR (aN d.a 0)), (aI (aN d.a 1)))) (fun d => (aI (aN d.a 2))) (fun d y h => out2_eval h) (fun d => by kernel_rfl) (fun n x => by kernel_rfl) (fun n r => by rcases r with r | r <;> exact ⟨_, rfl⟩)
theorem ok (k : Nat) : FunOk Tryz.prog 27 (d k) := fun_mk (C := C k) (hC k) (S := S k) Tryz.func27 (by kernel_rfl) (by kernel_rfl) (Loops.all (n := 4) (by kernel_rfl) ⟨⟨⟨⟨trivial, l4 k⟩, l10 k⟩, l16 k⟩, l22 k⟩) (fun as_ => by kernel_rfl)
end law19_SmallMeta
namespace ref06_left
noncomputable def F (self : Row → Int → T Int) : Fun := mkFun [68, 3] (fun as_ => self (vRow (vN as_ 0)) (vInt (vN as_ 1))) default (fun r => .int .i64 r)
noncomputable def C (k : Nat) (self : Row → Int → T Int) : Cx := ⟨Tryz.prog, tab [(48, F self)], [], [], tab []⟩
noncomputable def t3 : LoopT := ⟨⟨59, [], [(1, .int .i64), (2, .ptr 2 0), (5, .int .i64)], [], [(2, 68)], []⟩, (fun | .exit 0 => some ⟨59, [], [(1, .int .i64), (2, .ptr 2 0)], [], [(2, 68)], []⟩ | _ => none)⟩
noncomputable def s3 (k : Nat) (self : Row → Int → T Int) (c0 : Row) (x : (Int × Int)) : T ((Int × Int) ⊕ Int) :=
  .test (bIte (iLt x.2 (rLen (rSl c0 3))) (iLe (0) x.1) false)
   (.test (iIn x.2 (rLen (rSl c0 3)))
    (.bnd (self (et 68 (rAt (rSl c0 3) x.2)) x.1).eval default fun r0 =>
    .ret (.inl (r0, (iAdd .i64 x.2 (1)))))
    (.fail))
   (.ret (.inr x.1))
noncomputable def a3 (c0 : Row) (x : (Int × Int)) : Dt := ⟨[.i x.1, .u, .i x.2], [], [et 68 c0], []⟩
noncomputable def o3_0 (c0 : Row) (r : Int) : X × Dt := (.exit 0, ⟨[.i r, .u], [], [(et 68 c0)], []⟩)
noncomputable def e3 (k : Nat) (self : Row → Int → T Int) (d : Dt) : T (X × Dt) := out1 (iter (s3 k self (d.r.getD 0 [])) k ((aI (aN d.a 0)), (aI (aN d.a 2)))) default (o3_0 (d.r.getD 0 []))
noncomputable def t7 : LoopT := ⟨⟨59, [], [(1, .int .i64), (2, .ptr 2 0), (6, .int .i64)], [], [(2, 68)], []⟩, (fun | .exit 2 => some ⟨59, [], [(1, .int .i64)], [], [], []⟩ | _ => none)⟩
noncomputable def s7 (k : Nat) (self : Row → Int → T Int) (c0 : Row) (x : (Int × Int)) : T ((Int × Int) ⊕ Int) :=
  .test (bIte (iLt x.2 (rLen (rSl c0 4))) (iLe (0) x.1) false)
   (.test (iIn x.2 (rLen (rSl c0 4)))
    (.test (iIn x.2 (rLen (rSl c0 4)))
     (.bnd (self (eo 68 (rAt (rSl c0 4) x.2) 1) (iSub .i64 x.1 (sLen (rStr (rAt (rSl c0 4) x.2) 0)))).eval default fun r0 =>
     .ret (.inl (r0, (iAdd .i64 x.2 (1)))))
     (.fail))
    (.fail))
   (.ret (.inr x.1))
noncomputable def a7 (c0 : Row) (x : (Int × Int)) : Dt := ⟨[.i x.1, .u, .i x.2], [], [et 68 c0], []⟩
noncomputable def o7_0 (c0 : Row) (r : Int) : X × Dt := (.exit 2, ⟨[.i r], [], [], []⟩)
noncomputable def e7 (k : Nat) (self : Row → Int → T Int) (d : Dt) : T (X × Dt) := out1 (iter (s7 k self (d.r.getD 0 [])) k ((aI (aN d.a 0)), (aI (aN d.a 2)))) default (o7_0 (d.r.getD 0 []))
noncomputable def S (k : Nat) (self : Row → Int → T Int) : Subs := fun n => bif Nat.beq n 3 then some (loopV Tryz.prog t3 (e3 k self)) else bif Nat.beq n 7 then some (loopV Tryz.prog t7 (e7 k self)) else none
noncomputable def f : Nat → Row → Int → T Int
  | 0, _, _ => .fail
  | k + 1, a0, a1 =>
  .bnd (iter (ref06_left.s3 k (f k) (et 68 a0)) k ((iSub .i64 (iSub .i64 a1 (1)) (sLen (rStr a0 2))), (0))) default fun r0 =>
  .bnd (iter (ref06_left.s7 k (f k) (et 68 a0)) k (r0, (0))) default fun r1 =>
  .ret r1
noncomputable def d (k : Nat) : Fun := F (f k)
theorem hC (k : Nat) (self : Row → Int → T Int) (ih : FunOk Tryz.prog 48 (F self)) : CxOk (C k self) := CxOk.cons (p := (48, F self)) ih (CxOk.nil)
theorem l3 (k : Nat) (self : Row → Int → T Int) (ih : FunOk Tryz.prog 48 (F self)) : LoopOk Tryz.prog (S k self) (lp (bodyF (Go.Proofs.Tryz.f48)) 0) := loopOk_mk (C := C k self) (hC k self ih) (Loops.all (n := 0) (by kernel_rfl) trivial) (lt := t3) (den := e3 k self) (by kernel_rfl) (N := Row) (A := (Int × Int)) (R := Int)
 (fun n x => a3 n x) (fun n r => o3_0 n r) (fun n x => s3 k self n x) k (fun d => (d.r.getD 0 [])) (fun d => ((aI (aN d.a 0)), (aI (aN d.a 2)))) (fun d y h => out1_eval h) (fun d => by kernel_rfl) (fun n x => by kernel_rfl) (fun n r => ⟨_, rfl⟩)
theorem l7 (k : Nat) (self : Row → Int → T Int) (ih : FunOk Tryz.prog 48 (F self)) : LoopOk Tryz.prog (S k self) (lp (bodyF (Go.Proofs.Tryz.f48)) 1) := loopOk_mk (C := C k self) (hC k self ih) (Loops.all (n := 0) (by kernel_rfl) trivial) (lt := t7) (den := e7 k self) (by kernel_rfl) (N := Row) (A := (Int × Int)) (R := Int)
 (fun n x => a7 n x) (fun n r => o7_0 n r) (fun n x => s7 k self n x) k (fun d => (d.r.getD 0 [])) (fun d => ((aI (aN d.a 0)), (aI (aN d.a 2)))) (fun d y h => out1_eval h) (fun d => by kernel_rfl) (fun n x => by kernel_rfl) (fun n r => ⟨_, rfl⟩)
theorem ok : ∀ k, FunOk Tryz.prog 48 (d k)
  | 0 => fun_zero Tryz.func48 (by kernel_rfl) (by kernel_rfl) (fun _ => rfl)
  | k + 1 => fun_mk (C := C k (f k)) (hC k (f k) (ok k)) (S := S k (f k)) Tryz.func48 (by kernel_rfl) (by kernel_rfl) (Loops.all (n := 2) (by kernel_rfl) ⟨⟨trivial, l3 k (f k) (ok k)⟩, l7 k (f k) (ok k)⟩) (fun as_ => by kernel_rfl)
end ref06_left
namespace ref06_Few
noncomputable def C (k : Nat) : Cx := ⟨Tryz.prog, tab [(48, ref06_left.d k)], [], [], tab []⟩
noncomputable def S (k : Nat) : Subs := fun n => none
noncomputable def f (k : Nat) (a0 : Row) (a1 : Int) : T Bool :=
  .bnd (ref06_left.f k (et 68 a0) a1).eval default fun r0 =>
  .ret (iLe (0) r0)
noncomputable def d (k : Nat) : Fun := mkFun [68, 3] (fun as_ => f k (vRow (vN as_ 0)) (vInt (vN as_ 1))) default (fun r => .bool r)
theorem hC (k : Nat) : CxOk (C k) := CxOk.cons (p := (48, ref06_left.d k)) (ref06_left.ok k) (CxOk.nil)
theorem ok (k : Nat) : FunOk Tryz.prog 28 (d k) := fun_mk (C := C k) (hC k) (S := S k) Tryz.func28 (by kernel_rfl) (by kernel_rfl) (Loops.all (n := 0) (by kernel_rfl) trivial) (fun as_ => by kernel_rfl)
end ref06_Few
namespace law19_SmallPod
noncomputable def C (k : Nat) : Cx := ⟨Tryz.prog, tab [(26, ref19_FromPod.d k), (27, law19_SmallMeta.d k), (28, ref06_Few.d k)], [], [], tab []⟩
noncomputable def S (k : Nat) : Subs := fun n => none
noncomputable def f (k : Nat) (a0 : Row) : T Bool :=
  .bnd (ref19_FromPod.f k (et 40 a0)).eval default fun r0 =>
  .bnd (law19_SmallMeta.f k (et 28 a0)).eval default fun r1 =>
  .opt r1 (ref06_Few.f k (eo 68 r0 13) (20000)).eval default fun r2 =>
  .opt (bIte r1 r2 false) (ref06_Few.f k (eo 68 r0 18) (20000)).eval default fun r3 =>
  .ret (bIte (bIte r1 r2 false) r3 false)
noncomputable def d (k : Nat) : Fun := mkFun [40] (fun as_ => f k (vRow (vN as_ 0))) default (fun r => .bool r)
theorem hC (k : Nat) : CxOk (C k) := CxOk.cons (p := (26, ref19_FromPod.d k)) (ref19_FromPod.ok k) (CxOk.cons (p := (27, law19_SmallMeta.d k)) (law19_SmallMeta.ok k) (CxOk.cons (p := (28, ref06_Few.d k)) (ref06_Few.ok k) (CxOk.nil)))
theorem ok (k : Nat) : FunOk Tryz.prog 9 (d k) := fun_mk (C := C k) (hC k) (S := S k) Tryz.func9 (by kernel_rfl) (by kernel_rfl) (Loops.all (n := 0) (by kernel_rfl) trivial) (fun as_ => by kernel_rfl)
end law19_SmallPod
namespace law33_exited
noncomputable def C (k : Nat) : Cx := ⟨Tryz.prog, tab [], [], [], tab []⟩
noncomputable def S (k : Nat) : Subs := fun n => none
noncomputable def f (k : Nat) (a0 : Int) : T Row :=
  .ret [.str ByteArray.empty, .int .i64 (2), .int .i64 (0), .int .i64 a0, .int .i64 (0), .bool false, .bool false]
noncomputable def d (k : Nat) : Fun := mkFun [3] (fun as_ => f k (vInt (vN as_ 0))) default (fun r => .agg (et 63 r))
theorem hC (k : Nat) : CxOk (C k) := CxOk.nil
theorem ok (k : Nat) : FunOk Tryz.prog 29 (d k) := fun_mk (C := C k) (hC k) (S := S k) Tryz.func29 (by kernel_rfl) (by kernel_rfl) (Loops.all (n := 0) (by kernel_rfl) trivial) (fun as_ => by kernel_rfl)
end law33_exited
namespace slices_Clone_api_Container_api_Container
noncomputable def C (k : Nat) : Cx := ⟨Tryz.prog, tab [], [7], [], tab []⟩
noncomputable def f (k : Nat) (a0 : Rows) : T Rows :=
  .test (rOk 152 (0) (rLen a0))
   (.ret a0)
   (.fail)
noncomputable def d (k : Nat) : Fun := mkFun [29] (fun as_ => f k (vRows (vN as_ 0))) default (fun r => .slice 116 r .open)
noncomputable def fm (k : Nat) (a0 : Rows) : T (Rows × Int) :=
  .test (rOk 152 (0) (rLen a0))
   (.ret (a0, (rLen a0)))
   (.fail)
noncomputable def dm (k : Nat) : FunM := mkFunM 116 false [29] (fun _ as_ => fm k (vRows (vN as_ 0)))
theorem okM (k : Nat) : FunOkM Tryz.prog 65 (dm k) := clone_okM (C := C k) CxOk.nil (S := fun n => none) Tryz.func65 (by kernel_rfl) (by kernel_rfl) (Loops.all (n := 0) (by kernel_rfl) trivial) (t := 29) (el := 116) (by_ := 152) (by kernel_rfl) (fun es b => by kernel_rfl)
theorem ok (k : Nat) : FunOk Tryz.prog 65 (d k) := clone_ok (okM k)
end slices_Clone_api_Container_api_Container
namespace slices_Clone_api_Probe_api_Probe
noncomputable def C (k : Nat) : Cx := ⟨Tryz.prog, tab [], [7], [], tab []⟩
noncomputable def f (k : Nat) (a0 : Rows) : T Rows :=
  .test (rOk 32 (0) (rLen a0))
   (.ret a0)
   (.fail)
noncomputable def d (k : Nat) : Fun := mkFun [114] (fun as_ => f k (vRows (vN as_ 0))) default (fun r => .slice 119 r .open)
noncomputable def fm (k : Nat) (a0 : Rows) : T (Rows × Int) :=
  .test (rOk 32 (0) (rLen a0))
   (.ret (a0, (rLen a0)))
   (.fail)
noncomputable def dm (k : Nat) : FunM := mkFunM 119 false [114] (fun _ as_ => fm k (vRows (vN as_ 0)))
theorem okM (k : Nat) : FunOkM Tryz.prog 66 (dm k) := clone_okM (C := C k) CxOk.nil (S := fun n => none) Tryz.func66 (by kernel_rfl) (by kernel_rfl) (Loops.all (n := 0) (by kernel_rfl) trivial) (t := 114) (el := 119) (by_ := 32) (by kernel_rfl) (fun es b => by kernel_rfl)
theorem ok (k : Nat) : FunOk Tryz.prog 66 (d k) := clone_ok (okM k)
end slices_Clone_api_Probe_api_Probe
namespace slices_Clone_api_Requirement_api_Requirement
noncomputable def C (k : Nat) : Cx := ⟨Tryz.prog, tab [], [7], [], tab []⟩
noncomputable def f (k : Nat) (a0 : Rows) : T Rows :=
  .test (rOk 48 (0) (rLen a0))
   (.ret a0)
   (.fail)
noncomputable def d (k : Nat) : Fun := mkFun [30] (fun as_ => f k (vRows (vN as_ 0))) default (fun r => .slice 164 r .open)
noncomputable def fm (k : Nat) (a0 : Rows) : T (Rows × Int) :=
  .test (rOk 48 (0) (rLen a0))
   (.ret (a0, (rLen a0)))
   (.fail)
noncomputable def dm (k : Nat) : FunM := mkFunM 164 false [30] (fun _ as_ => fm k (vRows (vN as_ 0)))
theorem okM (k : Nat) : FunOkM Tryz.prog 118 (dm k) := clone_okM (C := C k) CxOk.nil (S := fun n => none) Tryz.func118 (by kernel_rfl) (by kernel_rfl) (Loops.all (n := 0) (by kernel_rfl) trivial) (t := 30) (el := 164) (by_ := 48) (by kernel_rfl) (fun es b => by kernel_rfl)
theorem ok (k : Nat) : FunOk Tryz.prog 118 (d k) := clone_ok (okM k)
end slices_Clone_api_Requirement_api_Requirement
namespace slices_Clone_string_string
noncomputable def C (k : Nat) : Cx := ⟨Tryz.prog, tab [], [7], [], tab []⟩
noncomputable def f (k : Nat) (a0 : Rows) : T Rows :=
  .test (rOk 16 (0) (rLen a0))
   (.ret a0)
   (.fail)
noncomputable def d (k : Nat) : Fun := mkFun [25] (fun as_ => f k (vRows (vN as_ 0))) default (fun r => .slice 9 r .open)
noncomputable def fm (k : Nat) (a0 : Rows) : T (Rows × Int) :=
  .test (rOk 16 (0) (rLen a0))
   (.ret (a0, (rLen a0)))
   (.fail)
noncomputable def dm (k : Nat) : FunM := mkFunM 9 false [25] (fun _ as_ => fm k (vRows (vN as_ 0)))
theorem okM (k : Nat) : FunOkM Tryz.prog 119 (dm k) := clone_okM (C := C k) CxOk.nil (S := fun n => none) Tryz.func119 (by kernel_rfl) (by kernel_rfl) (Loops.all (n := 0) (by kernel_rfl) trivial) (t := 25) (el := 9) (by_ := 16) (by kernel_rfl) (fun es b => by kernel_rfl)
theorem ok (k : Nat) : FunOk Tryz.prog 119 (d k) := clone_ok (okM k)
end slices_Clone_string_string
namespace pod_selector
noncomputable def C (k : Nat) : Cx := ⟨Tryz.prog, tab [(118, slices_Clone_api_Requirement_api_Requirement.d k), (119, slices_Clone_string_string.d k)], [6], [(7, 6)], tab [(118, slices_Clone_api_Requirement_api_Requirement.dm k), (119, slices_Clone_string_string.dm k)]⟩
noncomputable def t3 : LoopT := ⟨⟨24, [], [(3, .aref 164 6), (8, .int .i64), (9, .int .i64)], [], [], [(6, 164)]⟩, (fun | .exit 0 => some ⟨24, [], [(3, .aref 164 6)], [], [], [(6, 164)]⟩ | _ => none)⟩
noncomputable def s3 (k : Nat) (c0 : Int) (c1 : Int) (x : (Int × Rows)) : T ((Int × Rows) ⊕ Rows) :=
  .test (iLt x.1 c1)
   (.test (iIn x.1 c0)
    (.bnd (slices_Clone_string_string.f k (rSl (rAt x.2 x.1) 2)).eval default fun r0 =>
    .test (iIn x.1 c0)
     (.ret (.inl ((iAdd .i64 x.1 (1)), (rSet x.2 x.1 [.str (rStr (rAt x.2 x.1) 0), .int .i64 (rInt (rAt x.2 x.1) 1), .slice 9 r0 .open]))))
     (.fail))
    (.fail))
   (.ret (.inr x.2))
noncomputable def a3 (c0 : Int) (c1 : Int) (x : (Int × Rows)) : Dt := ⟨[.i c0, .i c1, .i x.1], [], [], [x.2]⟩
noncomputable def o3_0 (c0 : Int) (c1 : Int) (r : Rows) : X × Dt := (.exit 0, ⟨[.i c0], [], [], [r]⟩)
noncomputable def e3 (k : Nat) (d : Dt) : T (X × Dt) := out1 (iter (s3 k (aI (aN d.a 0)) (aI (aN d.a 1))) k ((aI (aN d.a 2)), (d.m.getD 0 []))) default (o3_0 (aI (aN d.a 0)) (aI (aN d.a 1)))
noncomputable def S (k : Nat) : Subs := fun n => bif Nat.beq n 3 then some (loopV Tryz.prog t3 (e3 k)) else none
noncomputable def f (k : Nat) (a0 : Rows) : T Rows :=
  .bnd (slices_Clone_api_Requirement_api_Requirement.fm k a0).eval default fun r0 =>
  .bnd (iter (pod_selector.s3 k r0.2 r0.2) k ((0), r0.1)) default fun r1 =>
  .ret (rTake r1 r0.2)
noncomputable def d (k : Nat) : Fun := mkFun [30] (fun as_ => f k (vRows (vN as_ 0))) default (fun r => .slice 164 r .open)
theorem hC (k : Nat) : CxOk (C k) := CxOk.cons (p := (118, slices_Clone_api_Requirement_api_Requirement.d k)) (slices_Clone_api_Requirement_api_Requirement.ok k) (CxOk.cons (p := (119, slices_Clone_string_string.d k)) (slices_Clone_string_string.ok k) (CxOk.consM (p := (118, slices_Clone_api_Requirement_api_Requirement.dm k)) (slices_Clone_api_Requirement_api_Requirement.okM k) (CxOk.consM (p := (119, slices_Clone_string_string.dm k)) (slices_Clone_string_string.okM k) (CxOk.nil))))
theorem l3 (k : Nat) : LoopOk Tryz.prog (S k) (lp (bodyF (Go.Proofs.Tryz.f67)) 0) := loopOk_mk (C := C k) (hC k) (Loops.all (n := 0) (by kernel_rfl) trivial) (lt := t3) (den := e3 k) (by kernel_rfl) (N := (Int × Int)) (A := (Int × Rows)) (R := Rows)
 (fun n x => a3 n.1 n.2 x) (fun n r => o3_0 n.1 n.2 r) (fun n x => s3 k n.1 n.2 x) k (fun d => ((aI (aN d.a 0)), (aI (aN d.a 1)))) (fun d => ((aI (aN d.a 2)), (d.m.getD 0 []))) (fun d y h => out1_eval h) (fun d => by kernel_rfl) (fun n x => by kernel_rfl) (fun n r => ⟨_, rfl⟩)
theorem ok (k : Nat) : FunOk Tryz.prog 67 (d k) := fun_mk (C := C k) (hC k) (S := S k) Tryz.func67 (by kernel_rfl) (by kernel_rfl) (Loops.all (n := 1) (by kernel_rfl) ⟨trivial, l3 k⟩) (fun as_ => by kernel_rfl)
end pod_selector
namespace slices_Clone_api_NodeTerm_api_NodeTerm
noncomputable def C (k : Nat) : Cx := ⟨Tryz.prog, tab [], [7], [], tab []⟩
noncomputable def f (k : Nat) (a0 : Rows) : T Rows :=
  .test (rOk 40 (0) (rLen a0))
   (.ret a0)
   (.fail)
noncomputable def d (k : Nat) : Fun := mkFun [31] (fun as_ => f k (vRows (vN as_ 0))) default (fun r => .slice 123 r .open)
noncomputable def fm (k : Nat) (a0 : Rows) : T (Rows × Int) :=
  .test (rOk 40 (0) (rLen a0))
   (.ret (a0, (rLen a0)))
   (.fail)
noncomputable def dm (k : Nat) : FunM := mkFunM 123 false [31] (fun _ as_ => fm k (vRows (vN as_ 0)))
theorem okM (k : Nat) : FunOkM Tryz.prog 68 (dm k) := clone_okM (C := C k) CxOk.nil (S := fun n => none) Tryz.func68 (by kernel_rfl) (by kernel_rfl) (Loops.all (n := 0) (by kernel_rfl) trivial) (t := 31) (el := 123) (by_ := 40) (by kernel_rfl) (fun es b => by kernel_rfl)
theorem ok (k : Nat) : FunOk Tryz.prog 68 (d k) := clone_ok (okM k)
end slices_Clone_api_NodeTerm_api_NodeTerm
namespace slices_Clone_api_PodTerm_api_PodTerm
noncomputable def C (k : Nat) : Cx := ⟨Tryz.prog, tab [], [7], [], tab []⟩
noncomputable def f (k : Nat) (a0 : Rows) : T Rows :=
  .test (rOk 56 (0) (rLen a0))
   (.ret a0)
   (.fail)
noncomputable def d (k : Nat) : Fun := mkFun [32] (fun as_ => f k (vRows (vN as_ 0))) default (fun r => .slice 126 r .open)
noncomputable def fm (k : Nat) (a0 : Rows) : T (Rows × Int) :=
  .test (rOk 56 (0) (rLen a0))
   (.ret (a0, (rLen a0)))
   (.fail)
noncomputable def dm (k : Nat) : FunM := mkFunM 126 false [32] (fun _ as_ => fm k (vRows (vN as_ 0)))
theorem okM (k : Nat) : FunOkM Tryz.prog 69 (dm k) := clone_okM (C := C k) CxOk.nil (S := fun n => none) Tryz.func69 (by kernel_rfl) (by kernel_rfl) (Loops.all (n := 0) (by kernel_rfl) trivial) (t := 32) (el := 126) (by_ := 56) (by kernel_rfl) (fun es b => by kernel_rfl)
theorem ok (k : Nat) : FunOk Tryz.prog 69 (d k) := clone_ok (okM k)
end slices_Clone_api_PodTerm_api_PodTerm
namespace slices_Clone_api_SpreadRule_api_SpreadRule
noncomputable def C (k : Nat) : Cx := ⟨Tryz.prog, tab [], [7], [], tab []⟩
noncomputable def f (k : Nat) (a0 : Rows) : T Rows :=
  .test (rOk 56 (0) (rLen a0))
   (.ret a0)
   (.fail)
noncomputable def d (k : Nat) : Fun := mkFun [33] (fun as_ => f k (vRows (vN as_ 0))) default (fun r => .slice 129 r .open)
noncomputable def fm (k : Nat) (a0 : Rows) : T (Rows × Int) :=
  .test (rOk 56 (0) (rLen a0))
   (.ret (a0, (rLen a0)))
   (.fail)
noncomputable def dm (k : Nat) : FunM := mkFunM 129 false [33] (fun _ as_ => fm k (vRows (vN as_ 0)))
theorem okM (k : Nat) : FunOkM Tryz.prog 70 (dm k) := clone_okM (C := C k) CxOk.nil (S := fun n => none) Tryz.func70 (by kernel_rfl) (by kernel_rfl) (Loops.all (n := 0) (by kernel_rfl) trivial) (t := 33) (el := 129) (by_ := 56) (by kernel_rfl) (fun es b => by kernel_rfl)
theorem ok (k : Nat) : FunOk Tryz.prog 70 (d k) := clone_ok (okM k)
end slices_Clone_api_SpreadRule_api_SpreadRule
namespace slices_Clone_api_Toleration_api_Toleration
noncomputable def C (k : Nat) : Cx := ⟨Tryz.prog, tab [], [7], [], tab []⟩
noncomputable def f (k : Nat) (a0 : Rows) : T Rows :=
  .test (rOk 56 (0) (rLen a0))
   (.ret a0)
   (.fail)
noncomputable def d (k : Nat) : Fun := mkFun [34] (fun as_ => f k (vRows (vN as_ 0))) default (fun r => .slice 132 r .open)
noncomputable def fm (k : Nat) (a0 : Rows) : T (Rows × Int) :=
  .test (rOk 56 (0) (rLen a0))
   (.ret (a0, (rLen a0)))
   (.fail)
noncomputable def dm (k : Nat) : FunM := mkFunM 132 false [34] (fun _ as_ => fm k (vRows (vN as_ 0)))
theorem okM (k : Nat) : FunOkM Tryz.prog 71 (dm k) := clone_okM (C := C k) CxOk.nil (S := fun n => none) Tryz.func71 (by kernel_rfl) (by kernel_rfl) (Loops.all (n := 0) (by kernel_rfl) trivial) (t := 34) (el := 132) (by_ := 56) (by kernel_rfl) (fun es b => by kernel_rfl)
theorem ok (k : Nat) : FunOk Tryz.prog 71 (d k) := clone_ok (okM k)
end slices_Clone_api_Toleration_api_Toleration
namespace pod_copied
noncomputable def C (k : Nat) : Cx := ⟨Tryz.prog, tab [(65, slices_Clone_api_Container_api_Container.d k), (66, slices_Clone_api_Probe_api_Probe.d k), (67, pod_selector.d k), (68, slices_Clone_api_NodeTerm_api_NodeTerm.d k), (69, slices_Clone_api_PodTerm_api_PodTerm.d k), (70, slices_Clone_api_SpreadRule_api_SpreadRule.d k), (71, slices_Clone_api_Toleration_api_Toleration.d k)], [13, 47, 50, 55], [(9, 13), (17, 47), (22, 50), (27, 55)], tab [(65, slices_Clone_api_Container_api_Container.dm k), (66, slices_Clone_api_Probe_api_Probe.dm k), (68, slices_Clone_api_NodeTerm_api_NodeTerm.dm k), (69, slices_Clone_api_PodTerm_api_PodTerm.dm k), (70, slices_Clone_api_SpreadRule_api_SpreadRule.dm k), (71, slices_Clone_api_Toleration_api_Toleration.dm k)]⟩
noncomputable def t4 : LoopT := ⟨⟨120, [], [(2, .ptr 2 0), (3, .ptr 3 0), (16, .aref 116 13), (17, .int .i64), (18, .int .i64)], [(3, [.str, .int .i64, .int .i64, .int .i64, .aref 116 13, .sl 164 none, .sl 123 none, .sl 126 none, .sl 129 none, .sl 132 none])], [(2, 40)], [(13, 116)]⟩, (fun | .exit 0 => some ⟨120, [], [(2, .ptr 2 0), (3, .ptr 3 0)], [(3, [.str, .int .i64, .int .i64, .int .i64, .aref 116 13, .sl 164 none, .sl 123 none, .sl 126 none, .sl 129 none, .sl 132 none])], [(2, 40)], [(13, 116)]⟩ | _ => none)⟩
noncomputable def s4 (k : Nat) (c0 : Int) (c1 : Int) (c2 : ByteArray) (c3 : Int) (c4 : Int) (c5 : Int) (c6 : Int) (c7 : Rows) (c8 : Rows) (c9 : Rows) (c10 : Rows) (c11 : Rows) (c12 : Row) (x : (Int × Rows)) : T ((Int × Rows) ⊕ Rows) :=
  .test (iLt x.1 c1)
   (.test (iIn x.1 c0)
    (.bnd (slices_Clone_api_Probe_api_Probe.f k (rSl (rAt x.2 x.1) 8)).eval default fun r0 =>
    .bnd (slices_Clone_api_Probe_api_Probe.f k (rSl (rAt x.2 x.1) 9)).eval default fun r1 =>
    .bnd (slices_Clone_api_Probe_api_Probe.f k (rSl (rAt x.2 x.1) 10)).eval default fun r2 =>
    .test (iIn x.1 c6)
     (.ret (.inl ((iAdd .i64 x.1 (1)), (rSet x.2 x.1 [.str (rStr (rAt x.2 x.1) 0), .str (rStr (rAt x.2 x.1) 1), .int .i64 (rInt (rAt x.2 x.1) 2), .int .i64 (rInt (rAt x.2 x.1) 3), .int .i64 (rInt (rAt x.2 x.1) 4), .int .i64 (rInt (rAt x.2 x.1) 5), .int .i64 (rInt (rAt x.2 x.1) 6), .int .i64 (rInt (rAt x.2 x.1) 7), .slice 119 r0 .open, .slice 119 r1 .open, .slice 119 r2 .open]))))
     (.fail))
    (.fail))
   (.ret (.inr x.2))
noncomputable def a4 (c0 : Int) (c1 : Int) (c2 : ByteArray) (c3 : Int) (c4 : Int) (c5 : Int) (c6 : Int) (c7 : Rows) (c8 : Rows) (c9 : Rows) (c10 : Rows) (c11 : Rows) (c12 : Row) (x : (Int × Rows)) : Dt := ⟨[.u, .u, .i c0, .i c1, .i x.1], [[.s c2, .i c3, .i c4, .i c5, .i c6, .r c7, .r c8, .r c9, .r c10, .r c11]], [et 40 c12], [x.2]⟩
noncomputable def o4_0 (c0 : Int) (c1 : Int) (c2 : ByteArray) (c3 : Int) (c4 : Int) (c5 : Int) (c6 : Int) (c7 : Rows) (c8 : Rows) (c9 : Rows) (c10 : Rows) (c11 : Rows) (c12 : Row) (r : Rows) : X × Dt := (.exit 0, ⟨[.u, .u], [[.s c2, .i c3, .i c4, .i c5, .i c6, .r c7, .r c8, .r c9, .r c10, .r c11]], [(et 40 c12)], [r]⟩)
noncomputable def e4 (k : Nat) (d : Dt) : T (X × Dt) := out1 (iter (s4 k (aI (aN d.a 2)) (aI (aN d.a 3)) (aS (aN (d.b.getD 0 []) 0)) (aI (aN (d.b.getD 0 []) 1)) (aI (aN (d.b.getD 0 []) 2)) (aI (aN (d.b.getD 0 []) 3)) (aI (aN (d.b.getD 0 []) 4)) (aR (aN (d.b.getD 0 []) 5)) (aR (aN (d.b.getD 0 []) 6)) (aR (aN (d.b.getD 0 []) 7)) (aR (aN (d.b.getD 0 []) 8)) (aR (aN (d.b.getD 0 []) 9)) (d.r.getD 0 [])) k ((aI (aN d.a 4)), (d.m.getD 0 []))) default (o4_0 (aI (aN d.a 2)) (aI (aN d.a 3)) (aS (aN (d.b.getD 0 []) 0)) (aI (aN (d.b.getD 0 []) 1)) (aI (aN (d.b.getD 0 []) 2)) (aI (aN (d.b.getD 0 []) 3)) (aI (aN (d.b.getD 0 []) 4)) (aR (aN (d.b.getD 0 []) 5)) (aR (aN (d.b.getD 0 []) 6)) (aR (aN (d.b.getD 0 []) 7)) (aR (aN (d.b.getD 0 []) 8)) (aR (aN (d.b.getD 0 []) 9)) (d.r.getD 0 []))
noncomputable def t13 : LoopT := ⟨⟨120, [], [(2, .ptr 2 0), (3, .ptr 3 0), (63, .int .i64), (64, .int .i64)], [(3, [.str, .int .i64, .int .i64, .int .i64, .sl 116 none, .sl 164 none, .aref 123 47, .aref 126 50, .aref 129 55, .sl 132 none])], [(2, 40)], [(47, 123), (50, 126), (55, 129)]⟩, (fun | .exit 2 => some ⟨120, [], [(2, .ptr 2 0), (3, .ptr 3 0)], [(3, [.str, .int .i64, .int .i64, .int .i64, .sl 116 none, .sl 164 none, .aref 123 47, .aref 126 50, .aref 129 55, .sl 132 none])], [(2, 40)], [(47, 123), (50, 126), (55, 129)]⟩ | _ => none)⟩
noncomputable def s13 (k : Nat) (c0 : Int) (c1 : ByteArray) (c2 : Int) (c3 : Int) (c4 : Int) (c5 : Rows) (c6 : Rows) (c7 : Int) (c8 : Int) (c9 : Int) (c10 : Rows) (c11 : Row) (c12 : Rows) (c13 : Rows) (x : (Int × Rows)) : T ((Int × Rows) ⊕ Rows) :=
  .test (iLt x.1 c0)
   (.test (iIn x.1 c7)
    (.bnd (pod_selector.f k (rSl (rAt x.2 x.1) 1)).eval default fun r0 =>
    .test (iIn x.1 c7)
     (.ret (.inl ((iAdd .i64 x.1 (1)), (rSet x.2 x.1 [.bool (rBool (rAt x.2 x.1) 0), .slice 164 r0 .open, .int .i64 (rInt (rAt x.2 x.1) 2)]))))
     (.fail))
    (.fail))
   (.ret (.inr x.2))
noncomputable def a13 (c0 : Int) (c1 : ByteArray) (c2 : Int) (c3 : Int) (c4 : Int) (c5 : Rows) (c6 : Rows) (c7 : Int) (c8 : Int) (c9 : Int) (c10 : Rows) (c11 : Row) (c12 : Rows) (c13 : Rows) (x : (Int × Rows)) : Dt := ⟨[.u, .u, .i c0, .i x.1], [[.s c1, .i c2, .i c3, .i c4, .r c5, .r c6, .i c7, .i c8, .i c9, .r c10]], [et 40 c11], [x.2, c12, c13]⟩
noncomputable def o13_0 (c0 : Int) (c1 : ByteArray) (c2 : Int) (c3 : Int) (c4 : Int) (c5 : Rows) (c6 : Rows) (c7 : Int) (c8 : Int) (c9 : Int) (c10 : Rows) (c11 : Row) (c12 : Rows) (c13 : Rows) (r : Rows) : X × Dt := (.exit 2, ⟨[.u, .u], [[.s c1, .i c2, .i c3, .i c4, .r c5, .r c6, .i c7, .i c8, .i c9, .r c10]], [(et 40 c11)], [r, c12, c13]⟩)
noncomputable def e13 (k : Nat) (d : Dt) : T (X × Dt) := out1 (iter (s13 k (aI (aN d.a 2)) (aS (aN (d.b.getD 0 []) 0)) (aI (aN (d.b.getD 0 []) 1)) (aI (aN (d.b.getD 0 []) 2)) (aI (aN (d.b.getD 0 []) 3)) (aR (aN (d.b.getD 0 []) 4)) (aR (aN (d.b.getD 0 []) 5)) (aI (aN (d.b.getD 0 []) 6)) (aI (aN (d.b.getD 0 []) 7)) (aI (aN (d.b.getD 0 []) 8)) (aR (aN (d.b.getD 0 []) 9)) (d.r.getD 0 []) (d.m.getD 1 []) (d.m.getD 2 [])) k ((aI (aN d.a 3)), (d.m.getD 0 []))) default (o13_0 (aI (aN d.a 2)) (aS (aN (d.b.getD 0 []) 0)) (aI (aN (d.b.getD 0 []) 1)) (aI (aN (d.b.getD 0 []) 2)) (aI (aN (d.b.getD 0 []) 3)) (aR (aN (d.b.getD 0 []) 4)) (aR (aN (d.b.getD 0 []) 5)) (aI (aN (d.b.getD 0 []) 6)) (aI (aN (d.b.getD 0 []) 7)) (aI (aN (d.b.getD 0 []) 8)) (aR (aN (d.b.getD 0 []) 9)) (d.r.getD 0 []) (d.m.getD 1 []) (d.m.getD 2 []))
noncomputable def t18 : LoopT := ⟨⟨120, [], [(2, .ptr 2 0), (3, .ptr 3 0), (82, .int .i64), (83, .int .i64)], [(3, [.str, .int .i64, .int .i64, .int .i64, .sl 116 none, .sl 164 none, .sl 123 none, .aref 126 50, .aref 129 55, .sl 132 none])], [(2, 40)], [(50, 126), (55, 129)]⟩, (fun | .exit 4 => some ⟨120, [], [(2, .ptr 2 0), (3, .ptr 3 0)], [(3, [.str, .int .i64, .int .i64, .int .i64, .sl 116 none, .sl 164 none, .sl 123 none, .aref 126 50, .aref 129 55, .sl 132 none])], [(2, 40)], [(50, 126), (55, 129)]⟩ | _ => none)⟩
noncomputable def s18 (k : Nat) (c0 : Int) (c1 : ByteArray) (c2 : Int) (c3 : Int) (c4 : Int) (c5 : Rows) (c6 : Rows) (c7 : Rows) (c8 : Int) (c9 : Int) (c10 : Rows) (c11 : Row) (c12 : Rows) (x : (Int × Rows)) : T ((Int × Rows) ⊕ Rows) :=
  .test (iLt x.1 c0)
   (.test (iIn x.1 c8)
    (.bnd (pod_selector.f k (rSl (rAt x.2 x.1) 2)).eval default fun r0 =>
    .test (iIn x.1 c8)
     (.ret (.inl ((iAdd .i64 x.1 (1)), (rSet x.2 x.1 [.bool (rBool (rAt x.2 x.1) 0), .bool (rBool (rAt x.2 x.1) 1), .slice 164 r0 .open, .str (rStr (rAt x.2 x.1) 3), .int .i64 (rInt (rAt x.2 x.1) 4)]))))
     (.fail))
    (.fail))
   (.ret (.inr x.2))
noncomputable def a18 (c0 : Int) (c1 : ByteArray) (c2 : Int) (c3 : Int) (c4 : Int) (c5 : Rows) (c6 : Rows) (c7 : Rows) (c8 : Int) (c9 : Int) (c10 : Rows) (c11 : Row) (c12 : Rows) (x : (Int × Rows)) : Dt := ⟨[.u, .u, .i c0, .i x.1], [[.s c1, .i c2, .i c3, .i c4, .r c5, .r c6, .r c7, .i c8, .i c9, .r c10]], [et 40 c11], [x.2, c12]⟩
noncomputable def o18_0 (c0 : Int) (c1 : ByteArray) (c2 : Int) (c3 : Int) (c4 : Int) (c5 : Rows) (c6 : Rows) (c7 : Rows) (c8 : Int) (c9 : Int) (c10 : Rows) (c11 : Row) (c12 : Rows) (r : Rows) : X × Dt := (.exit 4, ⟨[.u, .u], [[.s c1, .i c2, .i c3, .i c4, .r c5, .r c6, .r c7, .i c8, .i c9, .r c10]], [(et 40 c11)], [r, c12]⟩)
noncomputable def e18 (k : Nat) (d : Dt) : T (X × Dt) := out1 (iter (s18 k (aI (aN d.a 2)) (aS (aN (d.b.getD 0 []) 0)) (aI (aN (d.b.getD 0 []) 1)) (aI (aN (d.b.getD 0 []) 2)) (aI (aN (d.b.getD 0 []) 3)) (aR (aN (d.b.getD 0 []) 4)) (aR (aN (d.b.getD 0 []) 5)) (aR (aN (d.b.getD 0 []) 6)) (aI (aN (d.b.getD 0 []) 7)) (aI (aN (d.b.getD 0 []) 8)) (aR (aN (d.b.getD 0 []) 9)) (d.r.getD 0 []) (d.m.getD 1 [])) k ((aI (aN d.a 3)), (d.m.getD 0 []))) default (o18_0 (aI (aN d.a 2)) (aS (aN (d.b.getD 0 []) 0)) (aI (aN (d.b.getD 0 []) 1)) (aI (aN (d.b.getD 0 []) 2)) (aI (aN (d.b.getD 0 []) 3)) (aR (aN (d.b.getD 0 []) 4)) (aR (aN (d.b.getD 0 []) 5)) (aR (aN (d.b.getD 0 []) 6)) (aI (aN (d.b.getD 0 []) 7)) (aI (aN (d.b.getD 0 []) 8)) (aR (aN (d.b.getD 0 []) 9)) (d.r.getD 0 []) (d.m.getD 1 []))
noncomputable def t23 : LoopT := ⟨⟨120, [], [(2, .ptr 2 0), (3, .ptr 3 0), (101, .int .i64), (102, .int .i64)], [(3, [.str, .int .i64, .int .i64, .int .i64, .sl 116 none, .sl 164 none, .sl 123 none, .sl 126 none, .aref 129 55, .sl 132 none])], [(2, 40)], [(55, 129)]⟩, (fun | .exit 6 => some ⟨120, [], [(2, .ptr 2 0), (3, .ptr 3 0)], [(3, [.str, .int .i64, .int .i64, .int .i64, .sl 116 none, .sl 164 none, .sl 123 none, .sl 126 none, .aref 129 55, .sl 132 none])], [(2, 40)], [(55, 129)]⟩ | _ => none)⟩
noncomputable def s23 (k : Nat) (c0 : Int) (c1 : ByteArray) (c2 : Int) (c3 : Int) (c4 : Int) (c5 : Rows) (c6 : Rows) (c7 : Rows) (c8 : Rows) (c9 : Int) (c10 : Rows) (c11 : Row) (x : (Int × Rows)) : T ((Int × Rows) ⊕ Rows) :=
  .test (iLt x.1 c0)
   (.test (iIn x.1 c9)
    (.bnd (pod_selector.f k (rSl (rAt x.2 x.1) 2)).eval default fun r0 =>
    .test (iIn x.1 c9)
     (.ret (.inl ((iAdd .i64 x.1 (1)), (rSet x.2 x.1 [.int .i64 (rInt (rAt x.2 x.1) 0), .str (rStr (rAt x.2 x.1) 1), .slice 164 r0 .open, .bool (rBool (rAt x.2 x.1) 3)]))))
     (.fail))
    (.fail))
   (.ret (.inr x.2))
noncomputable def a23 (c0 : Int) (c1 : ByteArray) (c2 : Int) (c3 : Int) (c4 : Int) (c5 : Rows) (c6 : Rows) (c7 : Rows) (c8 : Rows) (c9 : Int) (c10 : Rows) (c11 : Row) (x : (Int × Rows)) : Dt := ⟨[.u, .u, .i c0, .i x.1], [[.s c1, .i c2, .i c3, .i c4, .r c5, .r c6, .r c7, .r c8, .i c9, .r c10]], [et 40 c11], [x.2]⟩
noncomputable def o23_0 (c0 : Int) (c1 : ByteArray) (c2 : Int) (c3 : Int) (c4 : Int) (c5 : Rows) (c6 : Rows) (c7 : Rows) (c8 : Rows) (c9 : Int) (c10 : Rows) (c11 : Row) (r : Rows) : X × Dt := (.exit 6, ⟨[.u, .u], [[.s c1, .i c2, .i c3, .i c4, .r c5, .r c6, .r c7, .r c8, .i c9, .r c10]], [(et 40 c11)], [r]⟩)
noncomputable def e23 (k : Nat) (d : Dt) : T (X × Dt) := out1 (iter (s23 k (aI (aN d.a 2)) (aS (aN (d.b.getD 0 []) 0)) (aI (aN (d.b.getD 0 []) 1)) (aI (aN (d.b.getD 0 []) 2)) (aI (aN (d.b.getD 0 []) 3)) (aR (aN (d.b.getD 0 []) 4)) (aR (aN (d.b.getD 0 []) 5)) (aR (aN (d.b.getD 0 []) 6)) (aR (aN (d.b.getD 0 []) 7)) (aI (aN (d.b.getD 0 []) 8)) (aR (aN (d.b.getD 0 []) 9)) (d.r.getD 0 [])) k ((aI (aN d.a 3)), (d.m.getD 0 []))) default (o23_0 (aI (aN d.a 2)) (aS (aN (d.b.getD 0 []) 0)) (aI (aN (d.b.getD 0 []) 1)) (aI (aN (d.b.getD 0 []) 2)) (aI (aN (d.b.getD 0 []) 3)) (aR (aN (d.b.getD 0 []) 4)) (aR (aN (d.b.getD 0 []) 5)) (aR (aN (d.b.getD 0 []) 6)) (aR (aN (d.b.getD 0 []) 7)) (aI (aN (d.b.getD 0 []) 8)) (aR (aN (d.b.getD 0 []) 9)) (d.r.getD 0 []))
noncomputable def S (k : Nat) : Subs := fun n => bif Nat.beq n 4 then some (loopV Tryz.prog t4 (e4 k)) else bif Nat.beq n 13 then some (loopV Tryz.prog t13 (e13 k)) else bif Nat.beq n 18 then some (loopV Tryz.prog t18 (e18 k)) else bif Nat.beq n 23 then some (loopV Tryz.prog t23 (e23 k)) else none
noncomputable def f (k : Nat) (a0 : Row) : T Row :=
  .bnd (slices_Clone_api_Container_api_Container.fm k (rSl a0 5)).eval default fun r0 =>
  .bnd (iter (pod_copied.s4 k r0.2 r0.2 (rStr a0 1) (rInt a0 2) (rInt a0 3) (rInt a0 4) r0.2 (rSl a0 6) (rSl a0 7) (rSl a0 8) (rSl a0 9) (rSl a0 10) [.str ByteArray.empty, .str ByteArray.empty, .str ByteArray.empty, .int .i64 (0), .int .i64 (0), .int .i64 (0), .int .i64 (0), .bool false, .int .i64 (0), .slice 60 [] .open, .slice 49 [] .open, .slice 9 [] .open, .slice 92 [] .open, .str ByteArray.empty, .int .i64 (0), .int .i64 (0), .int .i64 (0), .slice 116 [] .open, .slice 164 [] .open, .slice 123 [] .open, .slice 126 [] .open, .slice 129 [] .open, .slice 132 [] .open, .int .i64 (0), .bool false, .int .i64 (0), .int .i64 (0), .int .i64 (0), .slice 63 [] .open, .int .i64 (0), .str ByteArray.empty, .str ByteArray.empty]) k ((0), r0.1)) default fun r1 =>
  .bnd (pod_selector.f k (rSl a0 6)).eval default fun r2 =>
  .bnd (slices_Clone_api_NodeTerm_api_NodeTerm.fm k (rSl a0 7)).eval default fun r3 =>
  .bnd (slices_Clone_api_PodTerm_api_PodTerm.fm k (rSl a0 8)).eval default fun r4 =>
  .bnd (slices_Clone_api_SpreadRule_api_SpreadRule.fm k (rSl a0 9)).eval default fun r5 =>
  .bnd (slices_Clone_api_Toleration_api_Toleration.f k (rSl a0 10)).eval default fun r6 =>
  .bnd (iter (pod_copied.s13 k r3.2 (rStr a0 1) (rInt a0 2) (rInt a0 3) (rInt a0 4) (rTake r1 r0.2) r2 r3.2 r4.2 r5.2 r6 [.str ByteArray.empty, .str ByteArray.empty, .str ByteArray.empty, .int .i64 (0), .int .i64 (0), .int .i64 (0), .int .i64 (0), .bool false, .int .i64 (0), .slice 60 [] .open, .slice 49 [] .open, .slice 9 [] .open, .slice 92 [] .open, .str ByteArray.empty, .int .i64 (0), .int .i64 (0), .int .i64 (0), .slice 116 [] .open, .slice 164 [] .open, .slice 123 [] .open, .slice 126 [] .open, .slice 129 [] .open, .slice 132 [] .open, .int .i64 (0), .bool false, .int .i64 (0), .int .i64 (0), .int .i64 (0), .slice 63 [] .open, .int .i64 (0), .str ByteArray.empty, .str ByteArray.empty] r4.1 r5.1) k ((0), r3.1)) default fun r7 =>
  .bnd (iter (pod_copied.s18 k r4.2 (rStr a0 1) (rInt a0 2) (rInt a0 3) (rInt a0 4) (rTake r1 r0.2) r2 (rTake r7 r3.2) r4.2 r5.2 r6 [.str ByteArray.empty, .str ByteArray.empty, .str ByteArray.empty, .int .i64 (0), .int .i64 (0), .int .i64 (0), .int .i64 (0), .bool false, .int .i64 (0), .slice 60 [] .open, .slice 49 [] .open, .slice 9 [] .open, .slice 92 [] .open, .str ByteArray.empty, .int .i64 (0), .int .i64 (0), .int .i64 (0), .slice 116 [] .open, .slice 164 [] .open, .slice 123 [] .open, .slice 126 [] .open, .slice 129 [] .open, .slice 132 [] .open, .int .i64 (0), .bool false, .int .i64 (0), .int .i64 (0), .int .i64 (0), .slice 63 [] .open, .int .i64 (0), .str ByteArray.empty, .str ByteArray.empty] r5.1) k ((0), r4.1)) default fun r8 =>
  .bnd (iter (pod_copied.s23 k r5.2 (rStr a0 1) (rInt a0 2) (rInt a0 3) (rInt a0 4) (rTake r1 r0.2) r2 (rTake r7 r3.2) (rTake r8 r4.2) r5.2 r6 [.str ByteArray.empty, .str ByteArray.empty, .str ByteArray.empty, .int .i64 (0), .int .i64 (0), .int .i64 (0), .int .i64 (0), .bool false, .int .i64 (0), .slice 60 [] .open, .slice 49 [] .open, .slice 9 [] .open, .slice 92 [] .open, .str ByteArray.empty, .int .i64 (0), .int .i64 (0), .int .i64 (0), .slice 116 [] .open, .slice 164 [] .open, .slice 123 [] .open, .slice 126 [] .open, .slice 129 [] .open, .slice 132 [] .open, .int .i64 (0), .bool false, .int .i64 (0), .int .i64 (0), .int .i64 (0), .slice 63 [] .open, .int .i64 (0), .str ByteArray.empty, .str ByteArray.empty]) k ((0), r5.1)) default fun r9 =>
  .ret [.str ByteArray.empty, .str ByteArray.empty, .str ByteArray.empty, .int .i64 (0), .int .i64 (0), .int .i64 (0), .int .i64 (0), .bool false, .int .i64 (0), .slice 60 [] .open, .slice 49 [] .open, .slice 9 [] .open, .slice 92 [] .open, .str (rStr a0 1), .int .i64 (rInt a0 2), .int .i64 (rInt a0 3), .int .i64 (rInt a0 4), .slice 116 (rTake r1 r0.2) .open, .slice 164 r2 .open, .slice 123 (rTake r7 r3.2) .open, .slice 126 (rTake r8 r4.2) .open, .slice 129 (rTake r9 r5.2) .open, .slice 132 r6 .open, .int .i64 (0), .bool false, .int .i64 (0), .int .i64 (0), .int .i64 (0), .slice 63 [] .open, .int .i64 (0), .str ByteArray.empty, .str ByteArray.empty]
noncomputable def d (k : Nat) : Fun := mkFun [47] (fun as_ => f k (vRow (vN as_ 0))) default (fun r => .agg (et 40 r))
theorem hC (k : Nat) : CxOk (C k) := CxOk.cons (p := (65, slices_Clone_api_Container_api_Container.d k)) (slices_Clone_api_Container_api_Container.ok k) (CxOk.cons (p := (66, slices_Clone_api_Probe_api_Probe.d k)) (slices_Clone_api_Probe_api_Probe.ok k) (CxOk.cons (p := (67, pod_selector.d k)) (pod_selector.ok k) (CxOk.cons (p := (68, slices_Clone_api_NodeTerm_api_NodeTerm.d k)) (slices_Clone_api_NodeTerm_api_NodeTerm.ok k) (CxOk.cons (p := (69, slices_Clone_api_PodTerm_api_PodTerm.d k)) (slices_Clone_api_PodTerm_api_PodTerm.ok k) (CxOk.cons (p := (70, slices_Clone_api_SpreadRule_api_SpreadRule.d k)) (slices_Clone_api_SpreadRule_api_SpreadRule.ok k) (CxOk.cons (p := (71, slices_Clone_api_Toleration_api_Toleration.d k)) (slices_Clone_api_Toleration_api_Toleration.ok k) (CxOk.consM (p := (65, slices_Clone_api_Container_api_Container.dm k)) (slices_Clone_api_Container_api_Container.okM k) (CxOk.consM (p := (66, slices_Clone_api_Probe_api_Probe.dm k)) (slices_Clone_api_Probe_api_Probe.okM k) (CxOk.consM (p := (68, slices_Clone_api_NodeTerm_api_NodeTerm.dm k)) (slices_Clone_api_NodeTerm_api_NodeTerm.okM k) (CxOk.consM (p := (69, slices_Clone_api_PodTerm_api_PodTerm.dm k)) (slices_Clone_api_PodTerm_api_PodTerm.okM k) (CxOk.consM (p := (70, slices_Clone_api_SpreadRule_api_SpreadRule.dm k)) (slices_Clone_api_SpreadRule_api_SpreadRule.okM k) (CxOk.consM (p := (71, slices_Clone_api_Toleration_api_Toleration.dm k)) (slices_Clone_api_Toleration_api_Toleration.okM k) (CxOk.nil)))))))))))))
theorem l4 (k : Nat) : LoopOk Tryz.prog (S k) (lp (bodyF (Go.Proofs.Tryz.f39)) 0) := loopOk_mk (C := C k) (hC k) (Loops.all (n := 0) (by kernel_rfl) trivial) (lt := t4) (den := e4 k) (by kernel_rfl) (N := (Int × Int × ByteArray × Int × Int × Int × Int × Rows × Rows × Rows × Rows × Rows × Row)) (A := (Int × Rows)) (R := Rows)
 (fun n x => a4 n.1 n.2.1 n.2.2.1 n.2.2.2.1 n.2.2.2.2.1 n.2.2.2.2.2.1 n.2.2.2.2.2.2.1 n.2.2.2.2.2.2.2.1 n.2.2.2.2.2.2.2.2.1 n.2.2.2.2.2.2.2.2.2.1 n.2.2.2.2.2.2.2.2.2.2.1 n.2.2.2.2.2.2.2.2.2.2.2.1 n.2.2.2.2.2.2.2.2.2.2.2.2 x) (fun n r => o4_0 n.1 n.2.1 n.2.2.1 n.2.2.2.1 n.2.2.2.2.1 n.2.2.2.2.2.1 n.2.2.2.2.2.2.1 n.2.2.2.2.2.2.2.1 n.2.2.2.2.2.2.2.2.1 n.2.2.2.2.2.2.2.2.2.1 n.2.2.2.2.2.2.2.2.2.2.1 n.2.2.2.2.2.2.2.2.2.2.2.1 n.2.2.2.2.2.2.2.2.2.2.2.2 r) (fun n x => s4 k n.1 n.2.1 n.2.2.1 n.2.2.2.1 n.2.2.2.2.1 n.2.2.2.2.2.1 n.2.2.2.2.2.2.1 n.2.2.2.2.2.2.2.1 n.2.2.2.2.2.2.2.2.1 n.2.2.2.2.2.2.2.2.2.1 n.2.2.2.2.2.2.2.2.2.2.1 n.2.2.2.2.2.2.2.2.2.2.2.1 n.2.2.2.2.2.2.2.2.2.2.2.2 x) k (fun d => ((aI (aN d.a 2)), (aI (aN d.a 3)), (aS (aN (d.b.getD 0 []) 0)), (aI (aN (d.b.getD 0 []) 1)), (aI (aN (d.b.getD 0 []) 2)), (aI (aN (d.b.getD 0 []) 3)), (aI (aN (d.b.getD 0 []) 4)), (aR (aN (d.b.getD 0 []) 5)), (aR (aN (d.b.getD 0 []) 6)), (aR (aN (d.b.getD 0 []) 7)), (aR (aN (d.b.getD 0 []) 8)), (aR (aN (d.b.getD 0 []) 9)), (d.r.getD 0 []))) (fun d => ((aI (aN d.a 4)), (d.m.getD 0 []))) (fun d y h => out1_eval h) (fun d => by kernel_rfl) (fun n x => by kernel_rfl) (fun n r => ⟨_, rfl⟩)
theorem l13 (k : Nat) : LoopOk Tryz.prog (S k) (lp (bodyF (Go.Proofs.Tryz.f39)) 1) := loopOk_mk (C := C k) (hC k) (Loops.all (n := 0) (by kernel_rfl) trivial) (lt := t13) (den := e13 k) (by kernel_rfl) (N := (Int × ByteArray × Int × Int × Int × Rows × Rows × Int × Int × Int × Rows × Row × Rows × Rows)) (A := (Int × Rows)) (R := Rows)
 (fun n x => a13 n.1 n.2.1 n.2.2.1 n.2.2.2.1 n.2.2.2.2.1 n.2.2.2.2.2.1 n.2.2.2.2.2.2.1 n.2.2.2.2.2.2.2.1 n.2.2.2.2.2.2.2.2.1 n.2.2.2.2.2.2.2.2.2.1 n.2.2.2.2.2.2.2.2.2.2.1 n.2.2.2.2.2.2.2.2.2.2.2.1 n.2.2.2.2.2.2.2.2.2.2.2.2.1 n.2.2.2.2.2.2.2.2.2.2.2.2.2 x) (fun n r => o13_0 n.1 n.2.1 n.2.2.1 n.2.2.2.1 n.2.2.2.2.1 n.2.2.2.2.2.1 n.2.2.2.2.2.2.1 n.2.2.2.2.2.2.2.1 n.2.2.2.2.2.2.2.2.1 n.2.2.2.2.2.2.2.2.2.1 n.2.2.2.2.2.2.2.2.2.2.1 n.2.2.2.2.2.2.2.2.2.2.2.1 n.2.2.2.2.2.2.2.2.2.2.2.2.1 n.2.2.2.2.2.2.2.2.2.2.2.2.2 r) (fun n x => s13 k n.1 n.2.1 n.2.2.1 n.2.2.2.1 n.2.2.2.2.1 n.2.2.2.2.2.1 n.2.2.2.2.2.2.1 n.2.2.2.2.2.2.2.1 n.2.2.2.2.2.2.2.2.1 n.2.2.2.2.2.2.2.2.2.1 n.2.2.2.2.2.2.2.2.2.2.1 n.2.2.2.2.2.2.2.2.2.2.2.1 n.2.2.2.2.2.2.2.2.2.2.2.2.1 n.2.2.2.2.2.2.2.2.2.2.2.2.2 x) k (fun d => ((aI (aN d.a 2)), (aS (aN (d.b.getD 0 []) 0)), (aI (aN (d.b.getD 0 []) 1)), (aI (aN (d.b.getD 0 []) 2)), (aI (aN (d.b.getD 0 []) 3)), (aR (aN (d.b.getD 0 []) 4)), (aR (aN (d.b.getD 0 []) 5)), (aI (aN (d.b.getD 0 []) 6)), (aI (aN (d.b.getD 0 []) 7)), (aI (aN (d.b.getD 0 []) 8)), (aR (aN (d.b.getD 0 []) 9)), (d.r.getD 0 []), (d.m.getD 1 []), (d.m.getD 2 []))) (fun d => ((aI (aN d.a 3)), (d.m.getD 0 []))) (fun d y h => out1_eval h) (fun d => by kernel_rfl) (fun n x => by kernel_rfl) (fun n r => ⟨_, rfl⟩)
theorem l18 (k : Nat) : LoopOk Tryz.prog (S k) (lp (bodyF (Go.Proofs.Tryz.f39)) 2) := loopOk_mk (C := C k) (hC k) (Loops.all (n := 0) (by kernel_rfl) trivial) (lt := t18) (den := e18 k) (by kernel_rfl) (N := (Int × ByteArray × Int × Int × Int × Rows × Rows × Rows × Int × Int × Rows × Row × Rows)) (A := (Int × Rows)) (R := Rows)
 (fun n x => a18 n.1 n.2.1 n.2.2.1 n.2.2.2.1 n.2.2.2.2.1 n.2.2.2.2.2.1 n.2.2.2.2.2.2.1 n.2.2.2.2.2.2.2.1 n.2.2.2.2.2.2.2.2.1 n.2.2.2.2.2.2.2.2.2.1 n.2.2.2.2.2.2.2.2.2.2.1 n.2.2.2.2.2.2.2.2.2.2.2.1 n.2.2.2.2.2.2.2.2.2.2.2.2 x) (fun n r => o18_0 n.1 n.2.1 n.2.2.1 n.2.2.2.1 n.2.2.2.2.1 n.2.2.2.2.2.1 n.2.2.2.2.2.2.1 n.2.2.2.2.2.2.2.1 n.2.2.2.2.2.2.2.2.1 n.2.2.2.2.2.2.2.2.2.1 n.2.2.2.2.2.2.2.2.2.2.1 n.2.2.2.2.2.2.2.2.2.2.2.1 n.2.2.2.2.2.2.2.2.2.2.2.2 r) (fun n x => s18 k n.1 n.2.1 n.2.2.1 n.2.2.2.1 n.2.2.2.2.1 n.2.2.2.2.2.1 n.2.2.2.2.2.2.1 n.2.2.2.2.2.2.2.1 n.2.2.2.2.2.2.2.2.1 n.2.2.2.2.2.2.2.2.2.1 n.2.2.2.2.2.2.2.2.2.2.1 n.2.2.2.2.2.2.2.2.2.2.2.1 n.2.2.2.2.2.2.2.2.2.2.2.2 x) k (fun d => ((aI (aN d.a 2)), (aS (aN (d.b.getD 0 []) 0)), (aI (aN (d.b.getD 0 []) 1)), (aI (aN (d.b.getD 0 []) 2)), (aI (aN (d.b.getD 0 []) 3)), (aR (aN (d.b.getD 0 []) 4)), (aR (aN (d.b.getD 0 []) 5)), (aR (aN (d.b.getD 0 []) 6)), (aI (aN (d.b.getD 0 []) 7)), (aI (aN (d.b.getD 0 []) 8)), (aR (aN (d.b.getD 0 []) 9)), (d.r.getD 0 []), (d.m.getD 1 []))) (fun d => ((aI (aN d.a 3)), (d.m.getD 0 []))) (fun d y h => out1_eval h) (fun d => by kernel_rfl) (fun n x => by kernel_rfl) (fun n r => ⟨_, rfl⟩)
theorem l23 (k : Nat) : LoopOk Tryz.prog (S k) (lp (bodyF (Go.Proofs.Tryz.f39)) 3) := loopOk_mk (C := C k) (hC k) (Loops.all (n := 0) (by kernel_rfl) trivial) (lt := t23) (den := e23 k) (by kernel_rfl) (N := (Int × ByteArray × Int × Int × Int × Rows × Rows × Rows × Rows × Int × Rows × Row)) (A := (Int × Rows)) (R := Rows)
 (fun n x => a23 n.1 n.2.1 n.2.2.1 n.2.2.2.1 n.2.2.2.2.1 n.2.2.2.2.2.1 n.2.2.2.2.2.2.1 n.2.2.2.2.2.2.2.1 n.2.2.2.2.2.2.2.2.1 n.2.2.2.2.2.2.2.2.2.1 n.2.2.2.2.2.2.2.2.2.2.1 n.2.2.2.2.2.2.2.2.2.2.2 x) (fun n r => o23_0 n.1 n.2.1 n.2.2.1 n.2.2.2.1 n.2.2.2.2.1 n.2.2.2.2.2.1 n.2.2.2.2.2.2.1 n.2.2.2.2.2.2.2.1 n.2.2.2.2.2.2.2.2.1 n.2.2.2.2.2.2.2.2.2.1 n.2.2.2.2.2.2.2.2.2.2.1 n.2.2.2.2.2.2.2.2.2.2.2 r) (fun n x => s23 k n.1 n.2.1 n.2.2.1 n.2.2.2.1 n.2.2.2.2.1 n.2.2.2.2.2.1 n.2.2.2.2.2.2.1 n.2.2.2.2.2.2.2.1 n.2.2.2.2.2.2.2.2.1 n.2.2.2.2.2.2.2.2.2.1 n.2.2.2.2.2.2.2.2.2.2.1 n.2.2.2.2.2.2.2.2.2.2.2 x) k (fun d => ((aI (aN d.a 2)), (aS (aN (d.b.getD 0 []) 0)), (aI (aN (d.b.getD 0 []) 1)), (aI (aN (d.b.getD 0 []) 2)), (aI (aN (d.b.getD 0 []) 3)), (aR (aN (d.b.getD 0 []) 4)), (aR (aN (d.b.getD 0 []) 5)), (aR (aN (d.b.getD 0 []) 6)), (aR (aN (d.b.getD 0 []) 7)), (aI (aN (d.b.getD 0 []) 8)), (aR (aN (d.b.getD 0 []) 9)), (d.r.getD 0 []))) (fun d => ((aI (aN d.a 3)), (d.m.getD 0 []))) (fun d y h => out1_eval h) (fun d => by kernel_rfl) (fun n x => by kernel_rfl) (fun n r => ⟨_, rfl⟩)
theorem ok (k : Nat) : FunOk Tryz.prog 39 (d k) := fun_mk (C := C k) (hC k) (S := S k) Tryz.func39 (by kernel_rfl) (by kernel_rfl) (Loops.all (n := 4) (by kernel_rfl) ⟨⟨⟨⟨trivial, l4 k⟩, l13 k⟩, l18 k⟩, l23 k⟩) (fun as_ => by kernel_rfl)
end pod_copied
namespace value_String
noncomputable def C (k : Nat) : Cx := ⟨Tryz.prog, tab [], [], [], tab []⟩
noncomputable def S (k : Nat) : Subs := fun n => none
noncomputable def f (k : Nat) (a0 : ByteArray) : T Row :=
  .ret [.int .i64 (3), .int .i64 (0), .str a0, .slice 68 [] .open, .slice 103 [] .open]
noncomputable def d (k : Nat) : Fun := mkFun [9] (fun as_ => f k (vStr (vN as_ 0))) default (fun r => .agg (et 68 r))
theorem hC (k : Nat) : CxOk (C k) := CxOk.nil
theorem ok (k : Nat) : FunOk Tryz.prog 97 (d k) := fun_mk (C := C k) (hC k) (S := S k) Tryz.func97 (by kernel_rfl) (by kernel_rfl) (Loops.all (n := 0) (by kernel_rfl) trivial) (fun as_ => by kernel_rfl)
end value_String
namespace podcodec_field
noncomputable def C (k : Nat) : Cx := ⟨Tryz.prog, tab [], [], [], tab []⟩
noncomputable def S (k : Nat) : Subs := fun n => none
noncomputable def f (k : Nat) (a0 : ByteArray) (a1 : Row) : T Row :=
  .ret (rJ [[.str a0], (et 68 a1)])
noncomputable def d (k : Nat) : Fun := mkFun [9, 68] (fun as_ => f k (vStr (vN as_ 0)) (vRow (vN as_ 1))) default (fun r => .agg (et 103 r))
theorem hC (k : Nat) : CxOk (C k) := CxOk.nil
theorem ok (k : Nat) : FunOk Tryz.prog 54 (d k) := fun_mk (C := C k) (hC k) (S := S k) Tryz.func54 (by kernel_rfl) (by kernel_rfl) (Loops.all (n := 0) (by kernel_rfl) trivial) (fun as_ => by kernel_rfl)
end podcodec_field
namespace slices_Clone_api_Field_api_Field
noncomputable def C (k : Nat) : Cx := ⟨Tryz.prog, tab [], [7], [], tab []⟩
noncomputable def f (k : Nat) (a0 : Rows) : T Rows :=
  .test (rOk 96 (0) (rLen a0))
   (.ret a0)
   (.fail)
noncomputable def d (k : Nat) : Fun := mkFun [66] (fun as_ => f k (vRows (vN as_ 0))) default (fun r => .slice 103 r .open)
noncomputable def fm (k : Nat) (a0 : Rows) : T (Rows × Int) :=
  .test (rOk 96 (0) (rLen a0))
   (.ret (a0, (rLen a0)))
   (.fail)
noncomputable def dm (k : Nat) : FunM := mkFunM 103 false [66] (fun _ as_ => fm k (vRows (vN as_ 0)))
theorem okM (k : Nat) : FunOkM Tryz.prog 91 (dm k) := clone_okM (C := C k) CxOk.nil (S := fun n => none) Tryz.func91 (by kernel_rfl) (by kernel_rfl) (Loops.all (n := 0) (by kernel_rfl) trivial) (t := 66) (el := 103) (by_ := 96) (by kernel_rfl) (fun es b => by kernel_rfl)
theorem ok (k : Nat) : FunOk Tryz.prog 91 (d k) := clone_ok (okM k)
end slices_Clone_api_Field_api_Field
namespace slices_SortStableFunc_api_Field_api_Field
noncomputable def f (k : Nat) (a0 : Rows) : T (Rows × Int) :=
  .test (iLt (rLen a0) 20)
   (.ret ((sortC a0), (rLen a0)))
   (.fail)
noncomputable def dm (k : Nat) : FunM := mkFunU 103 [.fn 93 []] (fun es_ as_ => f k es_)
theorem clo (s t : ByteArray) (c1 c2 c3 c4 c5 d1 d2 d3 d4 d5 : Value) (W : World) : Calls Tryz.prog 93 #[.agg #[.string s, c1, c2, c3, c4, c5], .agg #[.string t, d1, d2, d3, d4, d5]] W fun e w' => e = .returned (.int .i64 (Lib.compareBytes s.data.toList t.data.toList)) ∧ ∃ q os', w' = Go.Sort.grow (W.drewN q) os' := by
  have hcon := fun W' => Any.strings_Compare lay_cmp s t W'
  change ∀ W', Calls Tryz.prog 94 _ _ _ at hcon
  generalize Lib.compareBytes s.data.toList t.data.toList = r at hcon ⊢
  go_enter Tryz.func93, Tryz.ntmps93
  go_wp2_with (go_at_call 94; refine (hcon _).mono ?_; rintro e w' ⟨rfl, rfl⟩)
  go_ret
  exact ⟨rfl, 0, _, by rw [Go.Sort.alloc_eq_grow, Go.Sort.alloc_eq_grow, Go.Sort.grow_grow]; rfl⟩
theorem clo' (s t : ByteArray) (cs ds : List Value) (W : World) (hc : cs.length = 5) (hd : ds.length = 5) : Calls Tryz.prog 93 #[.agg (.string s :: cs).toArray, .agg (.string t :: ds).toArray] W fun e w' => e = .returned (.int .i64 (Lib.compareBytes s.data.toList t.data.toList)) ∧ ∃ q os', w' = Go.Sort.grow (W.drewN q) os' := by
  match cs, hc, ds, hd with
  | [c1, c2, c3, c4, c5], _, [d1, d2, d3, d4, d5], _ => exact clo s t c1 c2 c3 c4 c5 d1 d2 d3 d4 d5 W
theorem ins (blk cap nn : Nat) (enc : Nat → List Value) (key : Nat → ByteArray) (W : World) (h0 : 0 < nn) (h1 : nn < 20) (he : ∀ x, ∃ cs : List Value, enc x = .string (key x) :: cs ∧ cs.length + 1 = 6) (ho : ∀ x, ∀ v ∈ enc x, v.oneCell' = true) (hH : Go.Sort.HoldsK enc 6 W blk 0 (Array.range nn)) (hb : blk < W.heap.size) :
    Calls Tryz.prog 144 #[.slice (some ⟨blk, 0, none⟩) nn cap, .int .i64 0, .int .i64 nn, .func (.func 93) #[] #[]] W fun e w' => e = .returned (.tuple #[]) ∧ ∃ m os, w' = Go.Proofs.sortWorldK enc 6 W blk 0 m (Go.Sort.insertionSort (fun x y => sLt (key x) (key y)) (Array.range nn) 0 nn) os := by
  have hk : ∀ x, (enc x).length = 6 := fun x => by obtain ⟨cs, h1, h2⟩ := he x; rw [h1]; simpa using h2
  have h := AnyQ.insertionSortCmpFunc lay_ins 6 (fun w => by kernel_rfl) (fun w => by kernel_rfl) enc hk ho (fun x y => Lib.compareBytes (key x).data.toList (key y).data.toList) 93 #[] blk 0 cap 0 nn (Array.range nn) W
    (enters_of Tryz.func93 (by kernel_rfl) rfl) (fun m os dk _ x y => by
      obtain ⟨cs, e1, e2⟩ := he x
      obtain ⟨ds, e3, e4⟩ := he y
      rw [e1, e3]
      exact clo' _ _ cs ds _ (by omega) (by omega)) hH hb (Nat.zero_le _) (by simp) (by simp; omega)
  rw [Array.size_range] at h
  have hlt : Go.Proofs.ltOf (fun x y => Lib.compareBytes (key x).data.toList (key y).data.toList) = fun x y => sLt (key x) (key y) := by
    funext x y
    show decide (Lib.compareBytes (key x).data.toList (key y).data.toList < 0) = _
    rw [sCmp_eq]
    unfold sCmp sLt
    cases Op.bytesLess (key x).toList (key y).toList with
    | true => rfl
    | false => cases (key x).toList == (key y).toList <;> rfl
  rw [hlt] at h
  exact h
theorem stable (nn : Nat) (v fv : Value) (W : World) (Q : World → Prop) (h1 : nn < 20) (h : Calls Tryz.prog 144 #[v, .int .i64 0, .int .i64 nn, fv] W fun e w' => e = .returned (.tuple #[]) ∧ Q w') :
    Calls Tryz.prog 130 #[v, .int .i64 nn, fv] W fun e w' => e = .returned (.tuple #[]) ∧ Q w' := by
  have hz : ¬ ((20 : Int) ≤ (nn : Int)) := by omega
  have hz2 : ¬ ((20 : Int) < (nn : Int)) := by omega
  go_enter Tryz.func130, Tryz.ntmps130
  go_wp2
  refine wp_loop_rounds 1 ?_
  rw [rounds_succ]
  go_wp2_with (go_at_call 144; refine h.mono ?_; rintro e w' ⟨rfl, hq⟩)
  refine wp_loop_rounds 1 ?_
  rw [rounds_succ]
  go_wp2
  go_end0
  exact ⟨rfl, hq⟩
theorem whole (nn : Nat) (p : Option Addr) (cap : Nat) (fv : Value) (W : World) (Q : World → Prop) (h1 : nn < 20) (h : Calls Tryz.prog 144 #[.slice p nn cap, .int .i64 0, .int .i64 nn, fv] W fun e w' => e = .returned (.tuple #[]) ∧ Q w') :
    Calls Tryz.prog 92 #[.slice p nn cap, fv] W fun e w' => e = .returned (.tuple #[]) ∧ Q w' := by
  have hs := stable nn (.slice p nn cap) fv W Q h1 h
  go_enter Tryz.func92, Tryz.ntmps92
  go_wp2_with (go_at_call 130; refine hs.mono ?_; rintro e w' ⟨rfl, hq⟩)
  go_end0
  exact ⟨rfl, hq⟩
theorem ins0 (p : Option Addr) (cap : Nat) (fv : Value) (W : World) : Calls Tryz.prog 144 #[.slice p 0 cap, .int .i64 0, .int .i64 0, fv] W fun e w' => e = .returned (.tuple #[]) ∧ w' = W := by
  go_enter Tryz.func144, Tryz.ntmps144
  go_wp2
  refine wp_loop_rounds 1 ?_
  rw [rounds_succ]
  go_wp2
  go_end0
  exact ⟨rfl, rfl⟩
theorem okM (k : Nat) : FunOkM Tryz.prog 92 (dm k) :=
  stab_okM (sz := 6) ⟨_, Tryz.func92, by kernel_rfl, by kernel_rfl⟩ rfl (by kernel_rfl) (by kernel_rfl) (fun r => ⟨(eta Tryz.prog 103 r).drop 1, by kernel_rfl⟩)
    (fun blk cap nn enc key W h0 h1 he ho hH hb => whole nn _ cap _ W (fun w' => ∃ m os, w' = Go.Proofs.sortWorldK enc 6 W blk 0 m (Go.Sort.insertionSort (fun x y => sLt (key x) (key y)) (Array.range nn) 0 nn) os) h1 (ins blk cap nn enc key W h0 h1 he ho hH hb))
    (fun p cap W => whole 0 p cap _ W (fun w' => w' = W) (by omega) (ins0 p cap _ W))
end slices_SortStableFunc_api_Field_api_Field
namespace slices_Clone_api_Value_api_Value
noncomputable def C (k : Nat) : Cx := ⟨Tryz.prog, tab [], [7], [], tab []⟩
noncomputable def f (k : Nat) (a0 : Rows) : T Rows :=
  .test (rOk 80 (0) (rLen a0))
   (.ret a0)
   (.fail)
noncomputable def d (k : Nat) : Fun := mkFun [65] (fun as_ => f k (vRows (vN as_ 0))) default (fun r => .slice 68 r .open)
noncomputable def fm (k : Nat) (a0 : Rows) : T (Rows × Int) :=
  .test (rOk 80 (0) (rLen a0))
   (.ret (a0, (rLen a0)))
   (.fail)
noncomputable def dm (k : Nat) : FunM := mkFunM 68 false [65] (fun _ as_ => fm k (vRows (vN as_ 0)))
theorem okM (k : Nat) : FunOkM Tryz.prog 132 (dm k) := clone_okM (C := C k) CxOk.nil (S := fun n => none) Tryz.func132 (by kernel_rfl) (by kernel_rfl) (Loops.all (n := 0) (by kernel_rfl) trivial) (t := 65) (el := 68) (by_ := 80) (by kernel_rfl) (fun es b => by kernel_rfl)
theorem ok (k : Nat) : FunOk Tryz.prog 132 (d k) := clone_ok (okM k)
end slices_Clone_api_Value_api_Value
namespace value_clone
noncomputable def F (self : Row → T Row) : Fun := mkFun [68] (fun as_ => self (vRow (vN as_ 0))) default (fun r => .agg (et 68 r))
noncomputable def C (k : Nat) (self : Row → T Row) : Cx := ⟨Tryz.prog, tab [(132, slices_Clone_api_Value_api_Value.d k), (91, slices_Clone_api_Field_api_Field.d k), (95, F self)], [9, 28], [(7, 9), (13, 28)], tab [(132, slices_Clone_api_Value_api_Value.dm k), (91, slices_Clone_api_Field_api_Field.dm k)]⟩
noncomputable def t3 : LoopT := ⟨⟨48, [], [(1, .ptr 1 0), (2, .ptr 2 0), (12, .aref 68 9), (13, .int .i64), (14, .int .i64)], [(1, [.int .i64, .int .i64, .str, .aref 68 9, .sl 103 none])], [(2, 68)], [(9, 68)]⟩, (fun | .exit 0 => some ⟨48, [], [(1, .ptr 1 0), (2, .ptr 2 0)], [(1, [.int .i64, .int .i64, .str, .aref 68 9, .sl 103 none])], [(2, 68)], [(9, 68)]⟩ | _ => none)⟩
noncomputable def s3 (k : Nat) (self : Row → T Row) (c0 : Int) (c1 : Int) (c2 : Int) (c3 : Int) (c4 : ByteArray) (c5 : Int) (c6 : Rows) (c7 : Row) (x : (Int × Rows)) : T ((Int × Rows) ⊕ Rows) :=
  .test (iLt x.1 c1)
   (.test (iIn x.1 c0)
    (.bnd (self (et 68 (rAt x.2 x.1))).eval default fun r0 =>
    .test (iIn x.1 c5)
     (.ret (.inl ((iAdd .i64 x.1 (1)), (rSet x.2 x.1 (et 68 r0)))))
     (.fail))
    (.fail))
   (.ret (.inr x.2))
noncomputable def a3 (c0 : Int) (c1 : Int) (c2 : Int) (c3 : Int) (c4 : ByteArray) (c5 : Int) (c6 : Rows) (c7 : Row) (x : (Int × Rows)) : Dt := ⟨[.u, .u, .i c0, .i c1, .i x.1], [[.i c2, .i c3, .s c4, .i c5, .r c6]], [et 68 c7], [x.2]⟩
noncomputable def o3_0 (c0 : Int) (c1 : Int) (c2 : Int) (c3 : Int) (c4 : ByteArray) (c5 : Int) (c6 : Rows) (c7 : Row) (r : Rows) : X × Dt := (.exit 0, ⟨[.u, .u], [[.i c2, .i c3, .s c4, .i c5, .r c6]], [(et 68 c7)], [r]⟩)
noncomputable def e3 (k : Nat) (self : Row → T Row) (d : Dt) : T (X × Dt) := out1 (iter (s3 k self (aI (aN d.a 2)) (aI (aN d.a 3)) (aI (aN (d.b.getD 0 []) 0)) (aI (aN (d.b.getD 0 []) 1)) (aS (aN (d.b.getD 0 []) 2)) (aI (aN (d.b.getD 0 []) 3)) (aR (aN (d.b.getD 0 []) 4)) (d.r.getD 0 [])) k ((aI (aN d.a 4)), (d.m.getD 0 []))) default (o3_0 (aI (aN d.a 2)) (aI (aN d.a 3)) (aI (aN (d.b.getD 0 []) 0)) (aI (aN (d.b.getD 0 []) 1)) (aS (aN (d.b.getD 0 []) 2)) (aI (aN (d.b.getD 0 []) 3)) (aR (aN (d.b.getD 0 []) 4)) (d.r.getD 0 []))
noncomputable def t9 : LoopT := ⟨⟨48, [], [(1, .ptr 1 0), (2, .ptr 2 0), (31, .aref 103 28), (32, .int .i64), (33, .int .i64)], [(1, [.int .i64, .int .i64, .str, .sl 68 none, .aref 103 28])], [(2, 68)], [(28, 103)]⟩, (fun | .exit 2 => some ⟨48, [], [(1, .ptr 1 0), (2, .ptr 2 0)], [(1, [.int .i64, .int .i64, .str, .sl 68 none, .aref 103 28])], [(2, 68)], [(28, 103)]⟩ | _ => none)⟩
noncomputable def s9 (k : Nat) (self : Row → T Row) (c0 : Int) (c1 : Int) (c2 : Int) (c3 : Int) (c4 : ByteArray) (c5 : Rows) (c6 : Int) (c7 : Row) (x : (Int × Rows)) : T ((Int × Rows) ⊕ Rows) :=
  .test (iLt x.1 c1)
   (.test (iIn x.1 c0)
    (.bnd (self (eo 68 (rAt x.2 x.1) 1)).eval default fun r0 =>
    .test (iIn x.1 c6)
     (.ret (.inl ((iAdd .i64 x.1 (1)), (rSet x.2 x.1 (rJ [[.str (rStr (rAt x.2 x.1) 0)], (et 68 r0)])))))
     (.fail))
    (.fail))
   (.ret (.inr x.2))
noncomputable def a9 (c0 : Int) (c1 : Int) (c2 : Int) (c3 : Int) (c4 : ByteArray) (c5 : Rows) (c6 : Int) (c7 : Row) (x : (Int × Rows)) : Dt := ⟨[.u, .u, .i c0, .i c1, .i x.1], [[.i c2, .i c3, .s c4, .r c5, .i c6]], [et 68 c7], [x.2]⟩
noncomputable def o9_0 (c0 : Int) (c1 : Int) (c2 : Int) (c3 : Int) (c4 : ByteArray) (c5 : Rows) (c6 : Int) (c7 : Row) (r : Rows) : X × Dt := (.exit 2, ⟨[.u, .u], [[.i c2, .i c3, .s c4, .r c5, .i c6]], [(et 68 c7)], [r]⟩)
noncomputable def e9 (k : Nat) (self : Row → T Row) (d : Dt) : T (X × Dt) := out1 (iter (s9 k self (aI (aN d.a 2)) (aI (aN d.a 3)) (aI (aN (d.b.getD 0 []) 0)) (aI (aN (d.b.getD 0 []) 1)) (aS (aN (d.b.getD 0 []) 2)) (aR (aN (d.b.getD 0 []) 3)) (aI (aN (d.b.getD 0 []) 4)) (d.r.getD 0 [])) k ((aI (aN d.a 4)), (d.m.getD 0 []))) default (o9_0 (aI (aN d.a 2)) (aI (aN d.a 3)) (aI (aN (d.b.getD 0 []) 0)) (aI (aN (d.b.getD 0 []) 1)) (aS (aN (d.b.getD 0 []) 2)) (aR (aN (d.b.getD 0 []) 3)) (aI (aN (d.b.getD 0 []) 4)) (d.r.getD 0 []))
noncomputable def S (k : Nat) (self : Row → T Row) : Subs := fun n => bif Nat.beq n 3 then some (loopV Tryz.prog t3 (e3 k self)) else bif Nat.beq n 9 then some (loopV Tryz.prog t9 (e9 k self)) else none
noncomputable def f : Nat → Row → T Row
  | 0, _ => .fail
  | k + 1, a0 =>
  .bnd (slices_Clone_api_Value_api_Value.fm k (rSl a0 3)).eval default fun r0 =>
  .bnd (iter (value_clone.s3 k (f k) r0.2 r0.2 (rInt a0 0) (rInt a0 1) (rStr a0 2) r0.2 (rSl a0 4) [.int .i64 (0), .int .i64 (0), .str ByteArray.empty, .slice 68 [] .open, .slice 103 [] .open]) k ((0), r0.1)) default fun r1 =>
  .bnd (slices_Clone_api_Field_api_Field.fm k (rSl a0 4)).eval default fun r2 =>
  .bnd (iter (value_clone.s9 k (f k) r2.2 r2.2 (rInt a0 0) (rInt a0 1) (rStr a0 2) (rTake r1 r0.2) r2.2 [.int .i64 (0), .int .i64 (0), .str ByteArray.empty, .slice 68 [] .open, .slice 103 [] .open]) k ((0), r2.1)) default fun r3 =>
  .ret [.int .i64 (rInt a0 0), .int .i64 (rInt a0 1), .str (rStr a0 2), .slice 68 (rTake r1 r0.2) .open, .slice 103 (rTake r3 r2.2) .open]
noncomputable def d (k : Nat) : Fun := F (f k)
theorem hC (k : Nat) (self : Row → T Row) (ih : FunOk Tryz.prog 95 (F self)) : CxOk (C k self) := CxOk.cons (p := (132, slices_Clone_api_Value_api_Value.d k)) (slices_Clone_api_Value_api_Value.ok k) (CxOk.cons (p := (91, slices_Clone_api_Field_api_Field.d k)) (slices_Clone_api_Field_api_Field.ok k) (CxOk.cons (p := (95, F self)) ih (CxOk.consM (p := (132, slices_Clone_api_Value_api_Value.dm k)) (slices_Clone_api_Value_api_Value.okM k) (CxOk.consM (p := (91, slices_Clone_api_Field_api_Field.dm k)) (slices_Clone_api_Field_api_Field.okM k) (CxOk.nil)))))
theorem l3 (k : Nat) (self : Row → T Row) (ih : FunOk Tryz.prog 95 (F self)) : LoopOk Tryz.prog (S k self) (lp (bodyF (Go.Proofs.Tryz.f95)) 0) := loopOk_mk (C := C k self) (hC k self ih) (Loops.all (n := 0) (by kernel_rfl) trivial) (lt := t3) (den := e3 k self) (by kernel_rfl) (N := (Int × Int × Int × Int × ByteArray × Int × Rows × Row)) (A := (Int × Rows)) (R := Rows)
 (fun n x => a3 n.1 n.2.1 n.2.2.1 n.2.2.2.1 n.2.2.2.2.1 n.2.2.2.2.2.1 n.2.2.2.2.2.2.1 n.2.2.2.2.2.2.2 x) (fun n r => o3_0 n.1 n.2.1 n.2.2.1 n.2.2.2.1 n.2.2.2.2.1 n.2.2.2.2.2.1 n.2.2.2.2.2.2.1 n.2.2.2.2.2.2.2 r) (fun n x => s3 k self n.1 n.2.1 n.2.2.1 n.2.2.2.1 n.2.2.2.2.1 n.2.2.2.2.2.1 n.2.2.2.2.2.2.1 n.2.2.2.2.2.2.2 x) k (fun d => ((aI (aN d.a 2)), (aI (aN d.a 3)), (aI (aN (d.b.getD 0 []) 0)), (aI (aN (d.b.getD 0 []) 1)), (aS (aN (d.b.getD 0 []) 2)), (aI (aN (d.b.getD 0 []) 3)), (aR (aN (d.b.getD 0 []) 4)), (d.r.getD 0 []))) (fun d => ((aI (aN d.a 4)), (d.m.getD 0 []))) (fun d y h => out1_eval h) (fun d => by kernel_rfl) (fun n x => by kernel_rfl) (fun n r => ⟨_, rfl⟩)
theorem l9 (k : Nat) (self : Row → T Row) (ih : FunOk Tryz.prog 95 (F self)) : LoopOk Tryz.prog (S k self) (lp (bodyF (Go.Proofs.Tryz.f95)) 1) := loopOk_mk (C := C k self) (hC k self ih) (Loops.all (n := 0) (by kernel_rfl) trivial) (lt := t9) (den := e9 k self) (by kernel_rfl) (N := (Int × Int × Int × Int × ByteArray × Rows × Int × Row)) (A := (Int × Rows)) (R := Rows)
 (fun n x => a9 n.1 n.2.1 n.2.2.1 n.2.2.2.1 n.2.2.2.2.1 n.2.2.2.2.2.1 n.2.2.2.2.2.2.1 n.2.2.2.2.2.2.2 x) (fun n r => o9_0 n.1 n.2.1 n.2.2.1 n.2.2.2.1 n.2.2.2.2.1 n.2.2.2.2.2.1 n.2.2.2.2.2.2.1 n.2.2.2.2.2.2.2 r) (fun n x => s9 k self n.1 n.2.1 n.2.2.1 n.2.2.2.1 n.2.2.2.2.1 n.2.2.2.2.2.1 n.2.2.2.2.2.2.1 n.2.2.2.2.2.2.2 x) k (fun d => ((aI (aN d.a 2)), (aI (aN d.a 3)), (aI (aN (d.b.getD 0 []) 0)), (aI (aN (d.b.getD 0 []) 1)), (aS (aN (d.b.getD 0 []) 2)), (aR (aN (d.b.getD 0 []) 3)), (aI (aN (d.b.getD 0 []) 4)), (d.r.getD 0 []))) (fun d => ((aI (aN d.a 4)), (d.m.getD 0 []))) (fun d y h => out1_eval h) (fun d => by kernel_rfl) (fun n x => by kernel_rfl) (fun n r => ⟨_, rfl⟩)
theorem ok : ∀ k, FunOk Tryz.prog 95 (d k)
  | 0 => fun_zero Tryz.func95 (by kernel_rfl) (by kernel_rfl) (fun _ => rfl)
  | k + 1 => fun_mk (C := C k (f k)) (hC k (f k) (ok k)) (S := S k (f k)) Tryz.func95 (by kernel_rfl) (by kernel_rfl) (Loops.all (n := 2) (by kernel_rfl) ⟨⟨trivial, l3 k (f k) (ok k)⟩, l9 k (f k) (ok k)⟩) (fun as_ => by kernel_rfl)
end value_clone
namespace value_Map
noncomputable def C (k : Nat) : Cx := ⟨Tryz.prog, tab [(91, slices_Clone_api_Field_api_Field.d k), (95, value_clone.d k)], [8], [(3, 8)], tab [(91, slices_Clone_api_Field_api_Field.dm k), (94000092, slices_SortStableFunc_api_Field_api_Field.dm k)]⟩
noncomputable def t5 : LoopT := ⟨⟨44, [.cell 4 4 39 103], [(2, .ptr 2 0), (3, .sl 103 none), (4, .ptr 4 0), (12, .sl 103 none), (13, .int .i64), (14, .int .i64)], [(4, [.int .i64, .int .i64, .str, .sl 68 none, .sl 103 (some 39)])], [(2, 68)], []⟩, (fun | .exit 0 => some ⟨44, [], [(2, .ptr 2 0), (4, .ptr 4 0)], [(4, [.int .i64, .int .i64, .str, .sl 68 none, .sl 103 (some 39)])], [(2, 68)], []⟩ | _ => none)⟩
noncomputable def s5 (k : Nat) (c0 : Rows) (c1 : Rows) (c2 : Int) (c3 : Int) (c4 : Int) (c5 : ByteArray) (c6 : Rows) (c7 : Row) (x : (Int × Rows)) : T ((Int × Rows) ⊕ Rows) :=
  .test (iLt x.1 c2)
   (.test (iIn x.1 (rLen c1))
    (.test (bImp (bNot (iEq (iAdd .i64 x.1 (1)) (rLen c0))) (iIn (iAdd .i64 x.1 (1)) (rLen c0)))
     (.test (bIte (iEq (iAdd .i64 x.1 (1)) (rLen c0)) true (bNot (sEq (rStr (rAt c0 (iAdd .i64 x.1 (1))) 0) (rStr (rAt c1 x.1) 0))))
      (.test (rOk 96 (rLen x.2) (rLen [(rJ [[.str (rStr (rAt c1 x.1) 0)], (eo 68 (rAt c1 x.1) 1)])]))
       (.ret (.inl ((iAdd .i64 x.1 (1)), (rCat x.2 [(rJ [[.str (rStr (rAt c1 x.1) 0)], (eo 68 (rAt c1 x.1) 1)])]))))
       (.fail))
      (.ret (.inl ((iAdd .i64 x.1 (1)), x.2))))
     (.fail))
    (.fail))
   (.ret (.inr x.2))
noncomputable def a5 (c0 : Rows) (c1 : Rows) (c2 : Int) (c3 : Int) (c4 : Int) (c5 : ByteArray) (c6 : Rows) (c7 : Row) (x : (Int × Rows)) : Dt := ⟨[.u, .r c0, .u, .r c1, .i c2, .i x.1], [[.i c3, .i c4, .s c5, .r c6, .r x.2]], [et 68 c7], []⟩
noncomputable def o5_0 (c0 : Rows) (c1 : Rows) (c2 : Int) (c3 : Int) (c4 : Int) (c5 : ByteArray) (c6 : Rows) (c7 : Row) (r : Rows) : X × Dt := (.exit 0, ⟨[.u, .u], [[.i c3, .i c4, .s c5, .r c6, .r r]], [(et 68 c7)], []⟩)
noncomputable def e5 (k : Nat) (d : Dt) : T (X × Dt) := out1 (iter (s5 k (aR (aN d.a 1)) (aR (aN d.a 3)) (aI (aN d.a 4)) (aI (aN (d.b.getD 0 []) 0)) (aI (aN (d.b.getD 0 []) 1)) (aS (aN (d.b.getD 0 []) 2)) (aR (aN (d.b.getD 0 []) 3)) (d.r.getD 0 [])) k ((aI (aN d.a 5)), (aR (aN (d.b.getD 0 []) 4)))) default (o5_0 (aR (aN d.a 1)) (aR (aN d.a 3)) (aI (aN d.a 4)) (aI (aN (d.b.getD 0 []) 0)) (aI (aN (d.b.getD 0 []) 1)) (aS (aN (d.b.getD 0 []) 2)) (aR (aN (d.b.getD 0 []) 3)) (d.r.getD 0 []))
noncomputable def S (k : Nat) : Subs := fun n => bif Nat.beq n 5 then some (loopV Tryz.prog t5 (e5 k)) else none
noncomputable def f (k : Nat) (a0 : Rows) : T Row :=
  .bnd (slices_Clone_api_Field_api_Field.fm k a0).eval default fun r0 =>
  .test (iEq (rLen (rTake r0.1 r0.2)) (rLen r0.1))
   (.bnd (slices_SortStableFunc_api_Field_api_Field.f k (rTake r0.1 r0.2)).eval default fun r1 =>
   .bnd (iter (value_Map.s5 k (rTake r1.1 r0.2) (rTake r1.1 r0.2) (rLen (rTake r1.1 r0.2)) (5) (0) ByteArray.empty [] [.int .i64 (0), .int .i64 (0), .str ByteArray.empty, .slice 68 [] .open, .slice 103 [] .open]) k ((0), [])) default fun r2 =>
   .bnd (value_clone.f k [.int .i64 (5), .int .i64 (0), .str ByteArray.empty, .slice 68 [] .open, .slice 103 r2 .open]).eval default fun r3 =>
   .ret (et 68 r3))
   (.fail)
noncomputable def d (k : Nat) : Fun := mkFun [66] (fun as_ => f k (vRows (vN as_ 0))) default (fun r => .agg (et 68 r))
theorem hC (k : Nat) : CxOk (C k) := CxOk.cons (p := (91, slices_Clone_api_Field_api_Field.d k)) (slices_Clone_api_Field_api_Field.ok k) (CxOk.cons (p := (95, value_clone.d k)) (value_clone.ok k) (CxOk.consM (p := (91, slices_Clone_api_Field_api_Field.dm k)) (slices_Clone_api_Field_api_Field.okM k) (CxOk.consMK (p := (94000092, slices_SortStableFunc_api_Field_api_Field.dm k)) (by kernel_rfl) (slices_SortStableFunc_api_Field_api_Field.okM k) (CxOk.nil))))
theorem l5 (k : Nat) : LoopOk Tryz.prog (S k) (lp (bodyF (Go.Proofs.Tryz.f53)) 0) := loopOk_mk (C := C k) (hC k) (Loops.all (n := 0) (by kernel_rfl) trivial) (lt := t5) (den := e5 k) (by kernel_rfl) (N := (Rows × Rows × Int × Int × Int × ByteArray × Rows × Row)) (A := (Int × Rows)) (R := Rows)
 (fun n x => a5 n.1 n.2.1 n.2.2.1 n.2.2.2.1 n.2.2.2.2.1 n.2.2.2.2.2.1 n.2.2.2.2.2.2.1 n.2.2.2.2.2.2.2 x) (fun n r => o5_0 n.1 n.2.1 n.2.2.1 n.2.2.2.1 n.2.2.2.2.1 n.2.2.2.2.2.1 n.2.2.2.2.2.2.1 n.2.2.2.2.2.2.2 r) (fun n x => s5 k n.1 n.2.1 n.2.2.1 n.2.2.2.1 n.2.2.2.2.1 n.2.2.2.2.2.1 n.2.2.2.2.2.2.1 n.2.2.2.2.2.2.2 x) k (fun d => ((aR (aN d.a 1)), (aR (aN d.a 3)), (aI (aN d.a 4)), (aI (aN (d.b.getD 0 []) 0)), (aI (aN (d.b.getD 0 []) 1)), (aS (aN (d.b.getD 0 []) 2)), (aR (aN (d.b.getD 0 []) 3)), (d.r.getD 0 []))) (fun d => ((aI (aN d.a 5)), (aR (aN (d.b.getD 0 []) 4)))) (fun d y h => out1_eval h) (fun d => by kernel_rfl) (fun n x => by kernel_rfl) (fun n r => ⟨_, rfl⟩)
theorem ok (k : Nat) : FunOk Tryz.prog 53 (d k) := fun_mk (C := C k) (hC k) (S := S k) Tryz.func53 (by kernel_rfl) (by kernel_rfl) (Loops.all (n := 1) (by kernel_rfl) ⟨trivial, l5 k⟩) (fun as_ => by kernel_rfl)
end value_Map
namespace podcodec_encodeLabel
noncomputable def C (k : Nat) : Cx := ⟨Tryz.prog, tab [(97, value_String.d k), (54, podcodec_field.d k), (53, value_Map.d k)], [], [], tab []⟩
noncomputable def S (k : Nat) : Subs := fun n => none
noncomputable def f (k : Nat) (a0 : Row) : T Row :=
  .bnd (value_String.f k (rStr a0 0)).eval default fun r0 =>
  .bnd (podcodec_field.f k (bs [107, 101, 121]) (et 68 r0)).eval default fun r1 =>
  .bnd (value_String.f k (rStr a0 1)).eval default fun r2 =>
  .bnd (podcodec_field.f k (bs [118, 97, 108, 117, 101]) (et 68 r2)).eval default fun r3 =>
  .bnd (value_Map.f k [(et 103 r1), (et 103 r3)]).eval default fun r4 =>
  .ret (et 68 r4)
noncomputable def d (k : Nat) : Fun := mkFun [60] (fun as_ => f k (vRow (vN as_ 0))) default (fun r => .agg (et 68 r))
theorem hC (k : Nat) : CxOk (C k) := CxOk.cons (p := (97, value_String.d k)) (value_String.ok k) (CxOk.cons (p := (54, podcodec_field.d k)) (podcodec_field.ok k) (CxOk.cons (p := (53, value_Map.d k)) (value_Map.ok k) (CxOk.nil)))
theorem ok (k : Nat) : FunOk Tryz.prog 56 (d k) := fun_mk (C := C k) (hC k) (S := S k) Tryz.func56 (by kernel_rfl) (by kernel_rfl) (Loops.all (n := 0) (by kernel_rfl) trivial) (fun as_ => by kernel_rfl)
end podcodec_encodeLabel
namespace value_List
noncomputable def C (k : Nat) : Cx := ⟨Tryz.prog, tab [(95, value_clone.d k)], [], [], tab []⟩
noncomputable def S (k : Nat) : Subs := fun n => none
noncomputable def f (k : Nat) (a0 : Rows) : T Row :=
  .bnd (value_clone.f k [.int .i64 (4), .int .i64 (0), .str ByteArray.empty, .slice 68 a0 .open, .slice 103 [] .open]).eval default fun r0 =>
  .ret (et 68 r0)
noncomputable def d (k : Nat) : Fun := mkFun [65] (fun as_ => f k (vRows (vN as_ 0))) default (fun r => .agg (et 68 r))
theorem hC (k : Nat) : CxOk (C k) := CxOk.cons (p := (95, value_clone.d k)) (value_clone.ok k) (CxOk.nil)
theorem ok (k : Nat) : FunOk Tryz.prog 96 (d k) := fun_mk (C := C k) (hC k) (S := S k) Tryz.func96 (by kernel_rfl) (by kernel_rfl) (Loops.all (n := 0) (by kernel_rfl) trivial) (fun as_ => by kernel_rfl)
end value_List
namespace podcodec_list_api_Label_c56
noncomputable def C (k : Nat) : Cx := ⟨Tryz.prog, tab [(56, podcodec_encodeLabel.d k), (96, value_List.d k)], [], [], tab []⟩
noncomputable def t3 : LoopT := ⟨⟨23, [.tmp 5 19 68], [(1, .fn 56 []), (4, .ptr 4 0), (5, .sl 68 (some 19)), (8, .sl 60 none), (9, .int .i64), (10, .int .i64)], [], [(4, 68)], []⟩, (fun | .exit 0 => some ⟨23, [], [(4, .ptr 4 0), (5, .sl 68 (some 19))], [], [(4, 68)], []⟩ | _ => none)⟩
noncomputable def s3 (k : Nat) (c0 : Rows) (c1 : Int) (c2 : Row) (x : (Rows × Int)) : T ((Rows × Int) ⊕ Rows) :=
  .test (iLt x.2 c1)
   (.test (iIn x.2 (rLen c0))
    (.bnd (podcodec_encodeLabel.f k (et 60 (rAt c0 x.2))).eval default fun r0 =>
    .test (rOk 80 (rLen x.1) (rLen [(et 68 r0)]))
     (.ret (.inl ((rCat x.1 [(et 68 r0)]), (iAdd .i64 x.2 (1)))))
     (.fail))
    (.fail))
   (.ret (.inr x.1))
noncomputable def a3 (c0 : Rows) (c1 : Int) (c2 : Row) (x : (Rows × Int)) : Dt := ⟨[.c [], .u, .r x.1, .r c0, .i c1, .i x.2], [], [et 68 c2], []⟩
noncomputable def o3_0 (c0 : Rows) (c1 : Int) (c2 : Row) (r : Rows) : X × Dt := (.exit 0, ⟨[.u, .r r], [], [(et 68 c2)], []⟩)
noncomputable def e3 (k : Nat) (d : Dt) : T (X × Dt) := out1 (iter (s3 k (aR (aN d.a 3)) (aI (aN d.a 4)) (d.r.getD 0 [])) k ((aR (aN d.a 2)), (aI (aN d.a 5)))) default (o3_0 (aR (aN d.a 3)) (aI (aN d.a 4)) (d.r.getD 0 []))
noncomputable def S (k : Nat) : Subs := fun n => bif Nat.beq n 3 then some (loopV Tryz.prog t3 (e3 k)) else none
noncomputable def f (k : Nat) (a0 : Rows) : T Row :=
  .bnd (iter (podcodec_list_api_Label_c56.s3 k a0 (rLen a0) [.int .i64 (0), .int .i64 (0), .str ByteArray.empty, .slice 68 [] .open, .slice 103 [] .open]) k ([], (0))) default fun r0 =>
  .bnd (value_List.f k r0).eval default fun r1 =>
  .ret (et 68 r1)
noncomputable def d (k : Nat) : Fun := mkFun [23, .fn 56 []] (fun as_ => f k (vRows (vN as_ 0))) default (fun r => .agg (et 68 r))
theorem hC (k : Nat) : CxOk (C k) := CxOk.cons (p := (56, podcodec_encodeLabel.d k)) (podcodec_encodeLabel.ok k) (CxOk.cons (p := (96, value_List.d k)) (value_List.ok k) (CxOk.nil))
theorem l3 (k : Nat) : LoopOk Tryz.prog (S k) (lp (bodyF (Go.Proofs.Tryz.f55)) 0) := loopOk_mk (C := C k) (hC k) (Loops.all (n := 0) (by kernel_rfl) trivial) (lt := t3) (den := e3 k) (by kernel_rfl) (N := (Rows × Int × Row)) (A := (Rows × Int)) (R := Rows)
 (fun n x => a3 n.1 n.2.1 n.2.2 x) (fun n r => o3_0 n.1 n.2.1 n.2.2 r) (fun n x => s3 k n.1 n.2.1 n.2.2 x) k (fun d => ((aR (aN d.a 3)), (aI (aN d.a 4)), (d.r.getD 0 []))) (fun d => ((aR (aN d.a 2)), (aI (aN d.a 5)))) (fun d y h => out1_eval h) (fun d => by kernel_rfl) (fun n x => by kernel_rfl) (fun n r => ⟨_, rfl⟩)
theorem ok (k : Nat) : FunOk Tryz.prog 55 (d k) := fun_mk (C := C k) (hC k) (S := S k) Tryz.func55 (by kernel_rfl) (by kernel_rfl) (Loops.all (n := 1) (by kernel_rfl) ⟨trivial, l3 k⟩) (fun as_ => by kernel_rfl)
end podcodec_list_api_Label_c56
namespace value_Int
noncomputable def C (k : Nat) : Cx := ⟨Tryz.prog, tab [], [], [], tab []⟩
noncomputable def S (k : Nat) : Subs := fun n => none
noncomputable def f (k : Nat) (a0 : Int) : T Row :=
  .ret [.int .i64 (2), .int .i64 a0, .str ByteArray.empty, .slice 68 [] .open, .slice 103 [] .open]
noncomputable def d (k : Nat) : Fun := mkFun [3] (fun as_ => f k (vInt (vN as_ 0))) default (fun r => .agg (et 68 r))
theorem hC (k : Nat) : CxOk (C k) := CxOk.nil
theorem ok (k : Nat) : FunOk Tryz.prog 100 (d k) := fun_mk (C := C k) (hC k) (S := S k) Tryz.func100 (by kernel_rfl) (by kernel_rfl) (Loops.all (n := 0) (by kernel_rfl) trivial) (fun as_ => by kernel_rfl)
end value_Int
namespace podcodec_encodeResources
noncomputable def C (k : Nat) : Cx := ⟨Tryz.prog, tab [(100, value_Int.d k), (54, podcodec_field.d k), (53, value_Map.d k)], [], [], tab []⟩
noncomputable def S (k : Nat) : Subs := fun n => none
noncomputable def f (k : Nat) (a0 : Row) : T Row :=
  .bnd (value_Int.f k (rInt a0 0)).eval default fun r0 =>
  .bnd (podcodec_field.f k (bs [99, 112, 117]) (et 68 r0)).eval default fun r1 =>
  .bnd (value_Int.f k (rInt a0 2)).eval default fun r2 =>
  .bnd (podcodec_field.f k (bs [100, 105, 115, 107]) (et 68 r2)).eval default fun r3 =>
  .bnd (value_Int.f k (rInt a0 1)).eval default fun r4 =>
  .bnd (podcodec_field.f k (bs [109, 101, 109, 111, 114, 121]) (et 68 r4)).eval default fun r5 =>
  .bnd (value_Map.f k [(et 103 r1), (et 103 r3), (et 103 r5)]).eval default fun r6 =>
  .ret (et 68 r6)
noncomputable def d (k : Nat) : Fun := mkFun [113] (fun as_ => f k (vRow (vN as_ 0))) default (fun r => .agg (et 68 r))
theorem hC (k : Nat) : CxOk (C k) := CxOk.cons (p := (100, value_Int.d k)) (value_Int.ok k) (CxOk.cons (p := (54, podcodec_field.d k)) (podcodec_field.ok k) (CxOk.cons (p := (53, value_Map.d k)) (value_Map.ok k) (CxOk.nil)))
theorem ok (k : Nat) : FunOk Tryz.prog 133 (d k) := fun_mk (C := C k) (hC k) (S := S k) Tryz.func133 (by kernel_rfl) (by kernel_rfl) (Loops.all (n := 0) (by kernel_rfl) trivial) (fun as_ => by kernel_rfl)
end podcodec_encodeResources
namespace podcodec_encodeProbe
noncomputable def C (k : Nat) : Cx := ⟨Tryz.prog, tab [(100, value_Int.d k), (54, podcodec_field.d k), (53, value_Map.d k)], [], [], tab []⟩
noncomputable def S (k : Nat) : Subs := fun n => none
noncomputable def f (k : Nat) (a0 : Row) : T Row :=
  .bnd (value_Int.f k (rInt a0 0)).eval default fun r0 =>
  .bnd (podcodec_field.f k (bs [100, 101, 108, 97, 121]) (et 68 r0)).eval default fun r1 =>
  .bnd (value_Int.f k (rInt a0 3)).eval default fun r2 =>
  .bnd (podcodec_field.f k (bs [102, 97, 105, 108, 117, 114, 101]) (et 68 r2)).eval default fun r3 =>
  .bnd (value_Int.f k (rInt a0 1)).eval default fun r4 =>
  .bnd (podcodec_field.f k (bs [112, 101, 114, 105, 111, 100]) (et 68 r4)).eval default fun r5 =>
  .bnd (value_Int.f k (rInt a0 2)).eval default fun r6 =>
  .bnd (podcodec_field.f k (bs [115, 117, 99, 99, 101, 115, 115]) (et 68 r6)).eval default fun r7 =>
  .bnd (value_Map.f k [(et 103 r1), (et 103 r3), (et 103 r5), (et 103 r7)]).eval default fun r8 =>
  .ret (et 68 r8)
noncomputable def d (k : Nat) : Fun := mkFun [119] (fun as_ => f k (vRow (vN as_ 0))) default (fun r => .agg (et 68 r))
theorem hC (k : Nat) : CxOk (C k) := CxOk.cons (p := (100, value_Int.d k)) (value_Int.ok k) (CxOk.cons (p := (54, podcodec_field.d k)) (podcodec_field.ok k) (CxOk.cons (p := (53, value_Map.d k)) (value_Map.ok k) (CxOk.nil)))
theorem ok (k : Nat) : FunOk Tryz.prog 135 (d k) := fun_mk (C := C k) (hC k) (S := S k) Tryz.func135 (by kernel_rfl) (by kernel_rfl) (Loops.all (n := 0) (by kernel_rfl) trivial) (fun as_ => by kernel_rfl)
end podcodec_encodeProbe
namespace podcodec_list_api_Probe_c135
noncomputable def C (k : Nat) : Cx := ⟨Tryz.prog, tab [(135, podcodec_encodeProbe.d k), (96, value_List.d k)], [], [], tab []⟩
noncomputable def t3 : LoopT := ⟨⟨23, [.tmp 5 19 68], [(1, .fn 135 []), (4, .ptr 4 0), (5, .sl 68 (some 19)), (8, .sl 119 none), (9, .int .i64), (10, .int .i64)], [], [(4, 68)], []⟩, (fun | .exit 0 => some ⟨23, [], [(4, .ptr 4 0), (5, .sl 68 (some 19))], [], [(4, 68)], []⟩ | _ => none)⟩
noncomputable def s3 (k : Nat) (c0 : Rows) (c1 : Int) (c2 : Row) (x : (Rows × Int)) : T ((Rows × Int) ⊕ Rows) :=
  .test (iLt x.2 c1)
   (.test (iIn x.2 (rLen c0))
    (.bnd (podcodec_encodeProbe.f k (et 119 (rAt c0 x.2))).eval default fun r0 =>
    .test (rOk 80 (rLen x.1) (rLen [(et 68 r0)]))
     (.ret (.inl ((rCat x.1 [(et 68 r0)]), (iAdd .i64 x.2 (1)))))
     (.fail))
    (.fail))
   (.ret (.inr x.1))
noncomputable def a3 (c0 : Rows) (c1 : Int) (c2 : Row) (x : (Rows × Int)) : Dt := ⟨[.c [], .u, .r x.1, .r c0, .i c1, .i x.2], [], [et 68 c2], []⟩
noncomputable def o3_0 (c0 : Rows) (c1 : Int) (c2 : Row) (r : Rows) : X × Dt := (.exit 0, ⟨[.u, .r r], [], [(et 68 c2)], []⟩)
noncomputable def e3 (k : Nat) (d : Dt) : T (X × Dt) := out1 (iter (s3 k (aR (aN d.a 3)) (aI (aN d.a 4)) (d.r.getD 0 [])) k ((aR (aN d.a 2)), (aI (aN d.a 5)))) default (o3_0 (aR (aN d.a 3)) (aI (aN d.a 4)) (d.r.getD 0 []))
noncomputable def S (k : Nat) : Subs := fun n => bif Nat.beq n 3 then some (loopV Tryz.prog t3 (e3 k)) else none
noncomputable def f (k : Nat) (a0 : Rows) : T Row :=
  .bnd (iter (podcodec_list_api_Probe_c135.s3 k a0 (rLen a0) [.int .i64 (0), .int .i64 (0), .str ByteArray.empty, .slice 68 [] .open, .slice 103 [] .open]) k ([], (0))) default fun r0 =>
  .bnd (value_List.f k r0).eval default fun r1 =>
  .ret (et 68 r1)
noncomputable def d (k : Nat) : Fun := mkFun [114, .fn 135 []] (fun as_ => f k (vRows (vN as_ 0))) default (fun r => .agg (et 68 r))
theorem hC (k : Nat) : CxOk (C k) := CxOk.cons (p := (135, podcodec_encodeProbe.d k)) (podcodec_encodeProbe.ok k) (CxOk.cons (p := (96, value_List.d k)) (value_List.ok k) (CxOk.nil))
theorem l3 (k : Nat) : LoopOk Tryz.prog (S k) (lp (bodyF (Go.Proofs.Tryz.f134)) 0) := loopOk_mk (C := C k) (hC k) (Loops.all (n := 0) (by kernel_rfl) trivial) (lt := t3) (den := e3 k) (by kernel_rfl) (N := (Rows × Int × Row)) (A := (Rows × Int)) (R := Rows)
 (fun n x => a3 n.1 n.2.1 n.2.2 x) (fun n r => o3_0 n.1 n.2.1 n.2.2 r) (fun n x => s3 k n.1 n.2.1 n.2.2 x) k (fun d => ((aR (aN d.a 3)), (aI (aN d.a 4)), (d.r.getD 0 []))) (fun d => ((aR (aN d.a 2)), (aI (aN d.a 5)))) (fun d y h => out1_eval h) (fun d => by kernel_rfl) (fun n x => by kernel_rfl) (fun n r => ⟨_, rfl⟩)
theorem ok (k : Nat) : FunOk Tryz.prog 134 (d k) := fun_mk (C := C k) (hC k) (S := S k) Tryz.func134 (by kernel_rfl) (by kernel_rfl) (Loops.all (n := 1) (by kernel_rfl) ⟨trivial, l3 k⟩) (fun as_ => by kernel_rfl)
end podcodec_list_api_Probe_c135
namespace podcodec_encodeContainer
noncomputable def C (k : Nat) : Cx := ⟨Tryz.prog, tab [(97, value_String.d k), (54, podcodec_field.d k), (133, podcodec_encodeResources.d k), (136000134, podcodec_list_api_Probe_c135.d k), (53, value_Map.d k)], [], [], tab []⟩
noncomputable def S (k : Nat) : Subs := fun n => none
noncomputable def f (k : Nat) (a0 : Row) : T Row :=
  .bnd (value_String.f k (rStr a0 1)).eval default fun r0 =>
  .bnd (podcodec_field.f k (bs [105, 109, 97, 103, 101]) (et 68 r0)).eval default fun r1 =>
  .bnd (podcodec_encodeResources.f k (eo 113 a0 5)).eval default fun r2 =>
  .bnd (podcodec_field.f k (bs [108, 105, 109, 105, 116]) (et 68 r2)).eval default fun r3 =>
  .bnd (podcodec_list_api_Probe_c135.f k (rSl a0 8)).eval default fun r4 =>
  .bnd (podcodec_field.f k (bs [108, 105, 118, 101]) (et 68 r4)).eval default fun r5 =>
  .bnd (value_String.f k (rStr a0 0)).eval default fun r6 =>
  .bnd (podcodec_field.f k (bs [110, 97, 109, 101]) (et 68 r6)).eval default fun r7 =>
  .bnd (podcodec_list_api_Probe_c135.f k (rSl a0 9)).eval default fun r8 =>
  .bnd (podcodec_field.f k (bs [114, 101, 97, 100, 121]) (et 68 r8)).eval default fun r9 =>
  .bnd (podcodec_encodeResources.f k (eo 113 a0 2)).eval default fun r10 =>
  .bnd (podcodec_field.f k (bs [114, 101, 113, 117, 101, 115, 116]) (et 68 r10)).eval default fun r11 =>
  .bnd (podcodec_list_api_Probe_c135.f k (rSl a0 10)).eval default fun r12 =>
  .bnd (podcodec_field.f k (bs [115, 116, 97, 114, 116, 117, 112]) (et 68 r12)).eval default fun r13 =>
  .bnd (value_Map.f k [(et 103 r1), (et 103 r3), (et 103 r5), (et 103 r7), (et 103 r9), (et 103 r11), (et 103 r13)]).eval default fun r14 =>
  .ret (et 68 r14)
noncomputable def d (k : Nat) : Fun := mkFun [116] (fun as_ => f k (vRow (vN as_ 0))) default (fun r => .agg (et 68 r))
theorem hC (k : Nat) : CxOk (C k) := CxOk.cons (p := (97, value_String.d k)) (value_String.ok k) (CxOk.cons (p := (54, podcodec_field.d k)) (podcodec_field.ok k) (CxOk.cons (p := (133, podcodec_encodeResources.d k)) (podcodec_encodeResources.ok k) (CxOk.consK (p := (136000134, podcodec_list_api_Probe_c135.d k)) (by kernel_rfl) (podcodec_list_api_Probe_c135.ok k) (CxOk.cons (p := (53, value_Map.d k)) (value_Map.ok k) (CxOk.nil)))))
theorem ok (k : Nat) : FunOk Tryz.prog 99 (d k) := fun_mk (C := C k) (hC k) (S := S k) Tryz.func99 (by kernel_rfl) (by kernel_rfl) (Loops.all (n := 0) (by kernel_rfl) trivial) (fun as_ => by kernel_rfl)
end podcodec_encodeContainer
namespace podcodec_list_api_Container_c99
noncomputable def C (k : Nat) : Cx := ⟨Tryz.prog, tab [(99, podcodec_encodeContainer.d k), (96, value_List.d k)], [], [], tab []⟩
noncomputable def t3 : LoopT := ⟨⟨23, [.tmp 5 19 68], [(1, .fn 99 []), (4, .ptr 4 0), (5, .sl 68 (some 19)), (8, .sl 116 none), (9, .int .i64), (10, .int .i64)], [], [(4, 68)], []⟩, (fun | .exit 0 => some ⟨23, [], [(4, .ptr 4 0), (5, .sl 68 (some 19))], [], [(4, 68)], []⟩ | _ => none)⟩
noncomputable def s3 (k : Nat) (c0 : Rows) (c1 : Int) (c2 : Row) (x : (Rows × Int)) : T ((Rows × Int) ⊕ Rows) :=
  .test (iLt x.2 c1)
   (.test (iIn x.2 (rLen c0))
    (.bnd (podcodec_encodeContainer.f k (et 116 (rAt c0 x.2))).eval default fun r0 =>
    .test (rOk 80 (rLen x.1) (rLen [(et 68 r0)]))
     (.ret (.inl ((rCat x.1 [(et 68 r0)]), (iAdd .i64 x.2 (1)))))
     (.fail))
    (.fail))
   (.ret (.inr x.1))
noncomputable def a3 (c0 : Rows) (c1 : Int) (c2 : Row) (x : (Rows × Int)) : Dt := ⟨[.c [], .u, .r x.1, .r c0, .i c1, .i x.2], [], [et 68 c2], []⟩
noncomputable def o3_0 (c0 : Rows) (c1 : Int) (c2 : Row) (r : Rows) : X × Dt := (.exit 0, ⟨[.u, .r r], [], [(et 68 c2)], []⟩)
noncomputable def e3 (k : Nat) (d : Dt) : T (X × Dt) := out1 (iter (s3 k (aR (aN d.a 3)) (aI (aN d.a 4)) (d.r.getD 0 [])) k ((aR (aN d.a 2)), (aI (aN d.a 5)))) default (o3_0 (aR (aN d.a 3)) (aI (aN d.a 4)) (d.r.getD 0 []))
noncomputable def S (k : Nat) : Subs := fun n => bif Nat.beq n 3 then some (loopV Tryz.prog t3 (e3 k)) else none
noncomputable def f (k : Nat) (a0 : Rows) : T Row :=
  .bnd (iter (podcodec_list_api_Container_c99.s3 k a0 (rLen a0) [.int .i64 (0), .int .i64 (0), .str ByteArray.empty, .slice 68 [] .open, .slice 103 [] .open]) k ([], (0))) default fun r0 =>
  .bnd (value_List.f k r0).eval default fun r1 =>
  .ret (et 68 r1)
noncomputable def d (k : Nat) : Fun := mkFun [29, .fn 99 []] (fun as_ => f k (vRows (vN as_ 0))) default (fun r => .agg (et 68 r))
theorem hC (k : Nat) : CxOk (C k) := CxOk.cons (p := (99, podcodec_encodeContainer.d k)) (podcodec_encodeContainer.ok k) (CxOk.cons (p := (96, value_List.d k)) (value_List.ok k) (CxOk.nil))
theorem l3 (k : Nat) : LoopOk Tryz.prog (S k) (lp (bodyF (Go.Proofs.Tryz.f98)) 0) := loopOk_mk (C := C k) (hC k) (Loops.all (n := 0) (by kernel_rfl) trivial) (lt := t3) (den := e3 k) (by kernel_rfl) (N := (Rows × Int × Row)) (A := (Rows × Int)) (R := Rows)
 (fun n x => a3 n.1 n.2.1 n.2.2 x) (fun n r => o3_0 n.1 n.2.1 n.2.2 r) (fun n x => s3 k n.1 n.2.1 n.2.2 x) k (fun d => ((aR (aN d.a 3)), (aI (aN d.a 4)), (d.r.getD 0 []))) (fun d => ((aR (aN d.a 2)), (aI (aN d.a 5)))) (fun d y h => out1_eval h) (fun d => by kernel_rfl) (fun n x => by kernel_rfl) (fun n r => ⟨_, rfl⟩)
theorem ok (k : Nat) : FunOk Tryz.prog 98 (d k) := fun_mk (C := C k) (hC k) (S := S k) Tryz.func98 (by kernel_rfl) (by kernel_rfl) (Loops.all (n := 1) (by kernel_rfl) ⟨trivial, l3 k⟩) (fun as_ => by kernel_rfl)
end podcodec_list_api_Container_c99
namespace podcodec_list_string_c97
noncomputable def C (k : Nat) : Cx := ⟨Tryz.prog, tab [(97, value_String.d k), (96, value_List.d k)], [], [], tab []⟩
noncomputable def t3 : LoopT := ⟨⟨23, [.tmp 5 19 68], [(1, .fn 97 []), (4, .ptr 4 0), (5, .sl 68 (some 19)), (8, .sl 9 none), (9, .int .i64), (10, .int .i64)], [], [(4, 68)], []⟩, (fun | .exit 0 => some ⟨23, [], [(4, .ptr 4 0), (5, .sl 68 (some 19))], [], [(4, 68)], []⟩ | _ => none)⟩
noncomputable def s3 (k : Nat) (c0 : Rows) (c1 : Int) (c2 : Row) (x : (Rows × Int)) : T ((Rows × Int) ⊕ Rows) :=
  .test (iLt x.2 c1)
   (.test (iIn x.2 (rLen c0))
    (.bnd (value_String.f k (rStr (rAt c0 x.2) 0)).eval default fun r0 =>
    .test (rOk 80 (rLen x.1) (rLen [(et 68 r0)]))
     (.ret (.inl ((rCat x.1 [(et 68 r0)]), (iAdd .i64 x.2 (1)))))
     (.fail))
    (.fail))
   (.ret (.inr x.1))
noncomputable def a3 (c0 : Rows) (c1 : Int) (c2 : Row) (x : (Rows × Int)) : Dt := ⟨[.c [], .u, .r x.1, .r c0, .i c1, .i x.2], [], [et 68 c2], []⟩
noncomputable def o3_0 (c0 : Rows) (c1 : Int) (c2 : Row) (r : Rows) : X × Dt := (.exit 0, ⟨[.u, .r r], [], [(et 68 c2)], []⟩)
noncomputable def e3 (k : Nat) (d : Dt) : T (X × Dt) := out1 (iter (s3 k (aR (aN d.a 3)) (aI (aN d.a 4)) (d.r.getD 0 [])) k ((aR (aN d.a 2)), (aI (aN d.a 5)))) default (o3_0 (aR (aN d.a 3)) (aI (aN d.a 4)) (d.r.getD 0 []))
noncomputable def S (k : Nat) : Subs := fun n => bif Nat.beq n 3 then some (loopV Tryz.prog t3 (e3 k)) else none
noncomputable def f (k : Nat) (a0 : Rows) : T Row :=
  .bnd (iter (podcodec_list_string_c97.s3 k a0 (rLen a0) [.int .i64 (0), .int .i64 (0), .str ByteArray.empty, .slice 68 [] .open, .slice 103 [] .open]) k ([], (0))) default fun r0 =>
  .bnd (value_List.f k r0).eval default fun r1 =>
  .ret (et 68 r1)
noncomputable def d (k : Nat) : Fun := mkFun [25, .fn 97 []] (fun as_ => f k (vRows (vN as_ 0))) default (fun r => .agg (et 68 r))
theorem hC (k : Nat) : CxOk (C k) := CxOk.cons (p := (97, value_String.d k)) (value_String.ok k) (CxOk.cons (p := (96, value_List.d k)) (value_List.ok k) (CxOk.nil))
theorem l3 (k : Nat) : LoopOk Tryz.prog (S k) (lp (bodyF (Go.Proofs.Tryz.f136)) 0) := loopOk_mk (C := C k) (hC k) (Loops.all (n := 0) (by kernel_rfl) trivial) (lt := t3) (den := e3 k) (by kernel_rfl) (N := (Rows × Int × Row)) (A := (Rows × Int)) (R := Rows)
 (fun n x => a3 n.1 n.2.1 n.2.2 x) (fun n r => o3_0 n.1 n.2.1 n.2.2 r) (fun n x => s3 k n.1 n.2.1 n.2.2 x) k (fun d => ((aR (aN d.a 3)), (aI (aN d.a 4)), (d.r.getD 0 []))) (fun d => ((aR (aN d.a 2)), (aI (aN d.a 5)))) (fun d y h => out1_eval h) (fun d => by kernel_rfl) (fun n x => by kernel_rfl) (fun n r => ⟨_, rfl⟩)
theorem ok (k : Nat) : FunOk Tryz.prog 136 (d k) := fun_mk (C := C k) (hC k) (S := S k) Tryz.func136 (by kernel_rfl) (by kernel_rfl) (Loops.all (n := 1) (by kernel_rfl) ⟨trivial, l3 k⟩) (fun as_ => by kernel_rfl)
end podcodec_list_string_c97
namespace podcodec_encodeRequirement
noncomputable def C (k : Nat) : Cx := ⟨Tryz.prog, tab [(97, value_String.d k), (54, podcodec_field.d k), (100, value_Int.d k), (98000136, podcodec_list_string_c97.d k), (53, value_Map.d k)], [], [], tab []⟩
noncomputable def S (k : Nat) : Subs := fun n => none
noncomputable def f (k : Nat) (a0 : Row) : T Row :=
  .bnd (value_String.f k (rStr a0 0)).eval default fun r0 =>
  .bnd (podcodec_field.f k (bs [107, 101, 121]) (et 68 r0)).eval default fun r1 =>
  .bnd (value_Int.f k (rInt a0 1)).eval default fun r2 =>
  .bnd (podcodec_field.f k (bs [111, 112]) (et 68 r2)).eval default fun r3 =>
  .bnd (podcodec_list_string_c97.f k (rSl a0 2)).eval default fun r4 =>
  .bnd (podcodec_field.f k (bs [118, 97, 108, 117, 101, 115]) (et 68 r4)).eval default fun r5 =>
  .bnd (value_Map.f k [(et 103 r1), (et 103 r3), (et 103 r5)]).eval default fun r6 =>
  .ret (et 68 r6)
noncomputable def d (k : Nat) : Fun := mkFun [164] (fun as_ => f k (vRow (vN as_ 0))) default (fun r => .agg (et 68 r))
theorem hC (k : Nat) : CxOk (C k) := CxOk.cons (p := (97, value_String.d k)) (value_String.ok k) (CxOk.cons (p := (54, podcodec_field.d k)) (podcodec_field.ok k) (CxOk.cons (p := (100, value_Int.d k)) (value_Int.ok k) (CxOk.consK (p := (98000136, podcodec_list_string_c97.d k)) (by kernel_rfl) (podcodec_list_string_c97.ok k) (CxOk.cons (p := (53, value_Map.d k)) (value_Map.ok k) (CxOk.nil)))))
theorem ok (k : Nat) : FunOk Tryz.prog 102 (d k) := fun_mk (C := C k) (hC k) (S := S k) Tryz.func102 (by kernel_rfl) (by kernel_rfl) (Loops.all (n := 0) (by kernel_rfl) trivial) (fun as_ => by kernel_rfl)
end podcodec_encodeRequirement
namespace podcodec_list_api_Requirement_c102
noncomputable def C (k : Nat) : Cx := ⟨Tryz.prog, tab [(102, podcodec_encodeRequirement.d k), (96, value_List.d k)], [], [], tab []⟩
noncomputable def t3 : LoopT := ⟨⟨23, [.tmp 5 19 68], [(1, .fn 102 []), (4, .ptr 4 0), (5, .sl 68 (some 19)), (8, .sl 164 none), (9, .int .i64), (10, .int .i64)], [], [(4, 68)], []⟩, (fun | .exit 0 => some ⟨23, [], [(4, .ptr 4 0), (5, .sl 68 (some 19))], [], [(4, 68)], []⟩ | _ => none)⟩
noncomputable def s3 (k : Nat) (c0 : Rows) (c1 : Int) (c2 : Row) (x : (Rows × Int)) : T ((Rows × Int) ⊕ Rows) :=
  .test (iLt x.2 c1)
   (.test (iIn x.2 (rLen c0))
    (.bnd (podcodec_encodeRequirement.f k (et 164 (rAt c0 x.2))).eval default fun r0 =>
    .test (rOk 80 (rLen x.1) (rLen [(et 68 r0)]))
     (.ret (.inl ((rCat x.1 [(et 68 r0)]), (iAdd .i64 x.2 (1)))))
     (.fail))
    (.fail))
   (.ret (.inr x.1))
noncomputable def a3 (c0 : Rows) (c1 : Int) (c2 : Row) (x : (Rows × Int)) : Dt := ⟨[.c [], .u, .r x.1, .r c0, .i c1, .i x.2], [], [et 68 c2], []⟩
noncomputable def o3_0 (c0 : Rows) (c1 : Int) (c2 : Row) (r : Rows) : X × Dt := (.exit 0, ⟨[.u, .r r], [], [(et 68 c2)], []⟩)
noncomputable def e3 (k : Nat) (d : Dt) : T (X × Dt) := out1 (iter (s3 k (aR (aN d.a 3)) (aI (aN d.a 4)) (d.r.getD 0 [])) k ((aR (aN d.a 2)), (aI (aN d.a 5)))) default (o3_0 (aR (aN d.a 3)) (aI (aN d.a 4)) (d.r.getD 0 []))
noncomputable def S (k : Nat) : Subs := fun n => bif Nat.beq n 3 then some (loopV Tryz.prog t3 (e3 k)) else none
noncomputable def f (k : Nat) (a0 : Rows) : T Row :=
  .bnd (iter (podcodec_list_api_Requirement_c102.s3 k a0 (rLen a0) [.int .i64 (0), .int .i64 (0), .str ByteArray.empty, .slice 68 [] .open, .slice 103 [] .open]) k ([], (0))) default fun r0 =>
  .bnd (value_List.f k r0).eval default fun r1 =>
  .ret (et 68 r1)
noncomputable def d (k : Nat) : Fun := mkFun [30, .fn 102 []] (fun as_ => f k (vRows (vN as_ 0))) default (fun r => .agg (et 68 r))
theorem hC (k : Nat) : CxOk (C k) := CxOk.cons (p := (102, podcodec_encodeRequirement.d k)) (podcodec_encodeRequirement.ok k) (CxOk.cons (p := (96, value_List.d k)) (value_List.ok k) (CxOk.nil))
theorem l3 (k : Nat) : LoopOk Tryz.prog (S k) (lp (bodyF (Go.Proofs.Tryz.f101)) 0) := loopOk_mk (C := C k) (hC k) (Loops.all (n := 0) (by kernel_rfl) trivial) (lt := t3) (den := e3 k) (by kernel_rfl) (N := (Rows × Int × Row)) (A := (Rows × Int)) (R := Rows)
 (fun n x => a3 n.1 n.2.1 n.2.2 x) (fun n r => o3_0 n.1 n.2.1 n.2.2 r) (fun n x => s3 k n.1 n.2.1 n.2.2 x) k (fun d => ((aR (aN d.a 3)), (aI (aN d.a 4)), (d.r.getD 0 []))) (fun d => ((aR (aN d.a 2)), (aI (aN d.a 5)))) (fun d y h => out1_eval h) (fun d => by kernel_rfl) (fun n x => by kernel_rfl) (fun n r => ⟨_, rfl⟩)
theorem ok (k : Nat) : FunOk Tryz.prog 101 (d k) := fun_mk (C := C k) (hC k) (S := S k) Tryz.func101 (by kernel_rfl) (by kernel_rfl) (Loops.all (n := 1) (by kernel_rfl) ⟨trivial, l3 k⟩) (fun as_ => by kernel_rfl)
end podcodec_list_api_Requirement_c102
namespace value_Bool
noncomputable def C (k : Nat) : Cx := ⟨Tryz.prog, tab [], [], [], tab []⟩
noncomputable def S (k : Nat) : Subs := fun n => none
noncomputable def f (k : Nat) (a0 : Bool) : T Row :=
  .test a0
   (.ret [.int .i64 (1), .int .i64 (1), .str ByteArray.empty, .slice 68 [] .open, .slice 103 [] .open])
   (.ret [.int .i64 (1), .int .i64 (0), .str ByteArray.empty, .slice 68 [] .open, .slice 103 [] .open])
noncomputable def d (k : Nat) : Fun := mkFun [4] (fun as_ => f k (vBool (vN as_ 0))) default (fun r => .agg (et 68 r))
theorem hC (k : Nat) : CxOk (C k) := CxOk.nil
theorem ok (k : Nat) : FunOk Tryz.prog 137 (d k) := fun_mk (C := C k) (hC k) (S := S k) Tryz.func137 (by kernel_rfl) (by kernel_rfl) (Loops.all (n := 0) (by kernel_rfl) trivial) (fun as_ => by kernel_rfl)
end value_Bool
namespace podcodec_encodeNodeTerm
noncomputable def C (k : Nat) : Cx := ⟨Tryz.prog, tab [(137, value_Bool.d k), (54, podcodec_field.d k), (103000101, podcodec_list_api_Requirement_c102.d k), (100, value_Int.d k), (53, value_Map.d k)], [], [], tab []⟩
noncomputable def S (k : Nat) : Subs := fun n => none
noncomputable def f (k : Nat) (a0 : Row) : T Row :=
  .bnd (value_Bool.f k (rBool a0 0)).eval default fun r0 =>
  .bnd (podcodec_field.f k (bs [114, 101, 113, 117, 105, 114, 101, 100]) (et 68 r0)).eval default fun r1 =>
  .bnd (podcodec_list_api_Requirement_c102.f k (rSl a0 1)).eval default fun r2 =>
  .bnd (podcodec_field.f k (bs [115, 101, 108, 101, 99, 116, 111, 114]) (et 68 r2)).eval default fun r3 =>
  .bnd (value_Int.f k (rInt a0 2)).eval default fun r4 =>
  .bnd (podcodec_field.f k (bs [119, 101, 105, 103, 104, 116]) (et 68 r4)).eval default fun r5 =>
  .bnd (value_Map.f k [(et 103 r1), (et 103 r3), (et 103 r5)]).eval default fun r6 =>
  .ret (et 68 r6)
noncomputable def d (k : Nat) : Fun := mkFun [123] (fun as_ => f k (vRow (vN as_ 0))) default (fun r => .agg (et 68 r))
theorem hC (k : Nat) : CxOk (C k) := CxOk.cons (p := (137, value_Bool.d k)) (value_Bool.ok k) (CxOk.cons (p := (54, podcodec_field.d k)) (podcodec_field.ok k) (CxOk.consK (p := (103000101, podcodec_list_api_Requirement_c102.d k)) (by kernel_rfl) (podcodec_list_api_Requirement_c102.ok k) (CxOk.cons (p := (100, value_Int.d k)) (value_Int.ok k) (CxOk.cons (p := (53, value_Map.d k)) (value_Map.ok k) (CxOk.nil)))))
theorem ok (k : Nat) : FunOk Tryz.prog 104 (d k) := fun_mk (C := C k) (hC k) (S := S k) Tryz.func104 (by kernel_rfl) (by kernel_rfl) (Loops.all (n := 0) (by kernel_rfl) trivial) (fun as_ => by kernel_rfl)
end podcodec_encodeNodeTerm
namespace podcodec_list_api_NodeTerm_c104
noncomputable def C (k : Nat) : Cx := ⟨Tryz.prog, tab [(104, podcodec_encodeNodeTerm.d k), (96, value_List.d k)], [], [], tab []⟩
noncomputable def t3 : LoopT := ⟨⟨23, [.tmp 5 19 68], [(1, .fn 104 []), (4, .ptr 4 0), (5, .sl 68 (some 19)), (8, .sl 123 none), (9, .int .i64), (10, .int .i64)], [], [(4, 68)], []⟩, (fun | .exit 0 => some ⟨23, [], [(4, .ptr 4 0), (5, .sl 68 (some 19))], [], [(4, 68)], []⟩ | _ => none)⟩
noncomputable def s3 (k : Nat) (c0 : Rows) (c1 : Int) (c2 : Row) (x : (Rows × Int)) : T ((Rows × Int) ⊕ Rows) :=
  .test (iLt x.2 c1)
   (.test (iIn x.2 (rLen c0))
    (.bnd (podcodec_encodeNodeTerm.f k (et 123 (rAt c0 x.2))).eval default fun r0 =>
    .test (rOk 80 (rLen x.1) (rLen [(et 68 r0)]))
     (.ret (.inl ((rCat x.1 [(et 68 r0)]), (iAdd .i64 x.2 (1)))))
     (.fail))
    (.fail))
   (.ret (.inr x.1))
noncomputable def a3 (c0 : Rows) (c1 : Int) (c2 : Row) (x : (Rows × Int)) : Dt := ⟨[.c [], .u, .r x.1, .r c0, .i c1, .i x.2], [], [et 68 c2], []⟩
noncomputable def o3_0 (c0 : Rows) (c1 : Int) (c2 : Row) (r : Rows) : X × Dt := (.exit 0, ⟨[.u, .r r], [], [(et 68 c2)], []⟩)
noncomputable def e3 (k : Nat) (d : Dt) : T (X × Dt) := out1 (iter (s3 k (aR (aN d.a 3)) (aI (aN d.a 4)) (d.r.getD 0 [])) k ((aR (aN d.a 2)), (aI (aN d.a 5)))) default (o3_0 (aR (aN d.a 3)) (aI (aN d.a 4)) (d.r.getD 0 []))
noncomputable def S (k : Nat) : Subs := fun n => bif Nat.beq n 3 then some (loopV Tryz.prog t3 (e3 k)) else none
noncomputable def f (k : Nat) (a0 : Rows) : T Row :=
  .bnd (iter (podcodec_list_api_NodeTerm_c104.s3 k a0 (rLen a0) [.int .i64 (0), .int .i64 (0), .str ByteArray.empty, .slice 68 [] .open, .slice 103 [] .open]) k ([], (0))) default fun r0 =>
  .bnd (value_List.f k r0).eval default fun r1 =>
  .ret (et 68 r1)
noncomputable def d (k : Nat) : Fun := mkFun [31, .fn 104 []] (fun as_ => f k (vRows (vN as_ 0))) default (fun r => .agg (et 68 r))
theorem hC (k : Nat) : CxOk (C k) := CxOk.cons (p := (104, podcodec_encodeNodeTerm.d k)) (podcodec_encodeNodeTerm.ok k) (CxOk.cons (p := (96, value_List.d k)) (value_List.ok k) (CxOk.nil))
theorem l3 (k : Nat) : LoopOk Tryz.prog (S k) (lp (bodyF (Go.Proofs.Tryz.f103)) 0) := loopOk_mk (C := C k) (hC k) (Loops.all (n := 0) (by kernel_rfl) trivial) (lt := t3) (den := e3 k) (by kernel_rfl) (N := (Rows × Int × Row)) (A := (Rows × Int)) (R := Rows)
 (fun n x => a3 n.1 n.2.1 n.2.2 x) (fun n r => o3_0 n.1 n.2.1 n.2.2 r) (fun n x => s3 k n.1 n.2.1 n.2.2 x) k (fun d => ((aR (aN d.a 3)), (aI (aN d.a 4)), (d.r.getD 0 []))) (fun d => ((aR (aN d.a 2)), (aI (aN d.a 5)))) (fun d y h => out1_eval h) (fun d => by kernel_rfl) (fun n x => by kernel_rfl) (fun n r => ⟨_, rfl⟩)
theorem ok (k : Nat) : FunOk Tryz.prog 103 (d k) := fun_mk (C := C k) (hC k) (S := S k) Tryz.func103 (by kernel_rfl) (by kernel_rfl) (Loops.all (n := 1) (by kernel_rfl) ⟨trivial, l3 k⟩) (fun as_ => by kernel_rfl)
end podcodec_list_api_NodeTerm_c104
namespace podcodec_encodePodTerm
noncomputable def C (k : Nat) : Cx := ⟨Tryz.prog, tab [(137, value_Bool.d k), (54, podcodec_field.d k), (103000101, podcodec_list_api_Requirement_c102.d k), (97, value_String.d k), (100, value_Int.d k), (53, value_Map.d k)], [], [], tab []⟩
noncomputable def S (k : Nat) : Subs := fun n => none
noncomputable def f (k : Nat) (a0 : Row) : T Row :=
  .bnd (value_Bool.f k (rBool a0 1)).eval default fun r0 =>
  .bnd (podcodec_field.f k (bs [97, 110, 116, 105]) (et 68 r0)).eval default fun r1 =>
  .bnd (value_Bool.f k (rBool a0 0)).eval default fun r2 =>
  .bnd (podcodec_field.f k (bs [114, 101, 113, 117, 105, 114, 101, 100]) (et 68 r2)).eval default fun r3 =>
  .bnd (podcodec_list_api_Requirement_c102.f k (rSl a0 2)).eval default fun r4 =>
  .bnd (podcodec_field.f k (bs [115, 101, 108, 101, 99, 116, 111, 114]) (et 68 r4)).eval default fun r5 =>
  .bnd (value_String.f k (rStr a0 3)).eval default fun r6 =>
  .bnd (podcodec_field.f k (bs [116, 111, 112, 111, 108, 111, 103, 121]) (et 68 r6)).eval default fun r7 =>
  .bnd (value_Int.f k (rInt a0 4)).eval default fun r8 =>
  .bnd (podcodec_field.f k (bs [119, 101, 105, 103, 104, 116]) (et 68 r8)).eval default fun r9 =>
  .bnd (value_Map.f k [(et 103 r1), (et 103 r3), (et 103 r5), (et 103 r7), (et 103 r9)]).eval default fun r10 =>
  .ret (et 68 r10)
noncomputable def d (k : Nat) : Fun := mkFun [126] (fun as_ => f k (vRow (vN as_ 0))) default (fun r => .agg (et 68 r))
theorem hC (k : Nat) : CxOk (C k) := CxOk.cons (p := (137, value_Bool.d k)) (value_Bool.ok k) (CxOk.cons (p := (54, podcodec_field.d k)) (podcodec_field.ok k) (CxOk.consK (p := (103000101, podcodec_list_api_Requirement_c102.d k)) (by kernel_rfl) (podcodec_list_api_Requirement_c102.ok k) (CxOk.cons (p := (97, value_String.d k)) (value_String.ok k) (CxOk.cons (p := (100, value_Int.d k)) (value_Int.ok k) (CxOk.cons (p := (53, value_Map.d k)) (value_Map.ok k) (CxOk.nil))))))
theorem ok (k : Nat) : FunOk Tryz.prog 106 (d k) := fun_mk (C := C k) (hC k) (S := S k) Tryz.func106 (by kernel_rfl) (by kernel_rfl) (Loops.all (n := 0) (by kernel_rfl) trivial) (fun as_ => by kernel_rfl)
end podcodec_encodePodTerm
namespace podcodec_list_api_PodTerm_c106
noncomputable def C (k : Nat) : Cx := ⟨Tryz.prog, tab [(106, podcodec_encodePodTerm.d k), (96, value_List.d k)], [], [], tab []⟩
noncomputable def t3 : LoopT := ⟨⟨23, [.tmp 5 19 68], [(1, .fn 106 []), (4, .ptr 4 0), (5, .sl 68 (some 19)), (8, .sl 126 none), (9, .int .i64), (10, .int .i64)], [], [(4, 68)], []⟩, (fun | .exit 0 => some ⟨23, [], [(4, .ptr 4 0), (5, .sl 68 (some 19))], [], [(4, 68)], []⟩ | _ => none)⟩
noncomputable def s3 (k : Nat) (c0 : Rows) (c1 : Int) (c2 : Row) (x : (Rows × Int)) : T ((Rows × Int) ⊕ Rows) :=
  .test (iLt x.2 c1)
   (.test (iIn x.2 (rLen c0))
    (.bnd (podcodec_encodePodTerm.f k (et 126 (rAt c0 x.2))).eval default fun r0 =>
    .test (rOk 80 (rLen x.1) (rLen [(et 68 r0)]))
     (.ret (.inl ((rCat x.1 [(et 68 r0)]), (iAdd .i64 x.2 (1)))))
     (.fail))
    (.fail))
   (.ret (.inr x.1))
noncomputable def a3 (c0 : Rows) (c1 : Int) (c2 : Row) (x : (Rows × Int)) : Dt := ⟨[.c [], .u, .r x.1, .r c0, .i c1, .i x.2], [], [et 68 c2], []⟩
noncomputable def o3_0 (c0 : Rows) (c1 : Int) (c2 : Row) (r : Rows) : X × Dt := (.exit 0, ⟨[.u, .r r], [], [(et 68 c2)], []⟩)
noncomputable def e3 (k : Nat) (d : Dt) : T (X × Dt) := out1 (iter (s3 k (aR (aN d.a 3)) (aI (aN d.a 4)) (d.r.getD 0 [])) k ((aR (aN d.a 2)), (aI (aN d.a 5)))) default (o3_0 (aR (aN d.a 3)) (aI (aN d.a 4)) (d.r.getD 0 []))
noncomputable def S (k : Nat) : Subs := fun n => bif Nat.beq n 3 then some (loopV Tryz.prog t3 (e3 k)) else none
noncomputable def f (k : Nat) (a0 : Rows) : T Row :=
  .bnd (iter (podcodec_list_api_PodTerm_c106.s3 k a0 (rLen a0) [.int .i64 (0), .int .i64 (0), .str ByteArray.empty, .slice 68 [] .open, .slice 103 [] .open]) k ([], (0))) default fun r0 =>
  .bnd (value_List.f k r0).eval default fun r1 =>
  .ret (et 68 r1)
noncomputable def d (k : Nat) : Fun := mkFun [32, .fn 106 []] (fun as_ => f k (vRows (vN as_ 0))) default (fun r => .agg (et 68 r))
theorem hC (k : Nat) : CxOk (C k) := CxOk.cons (p := (106, podcodec_encodePodTerm.d k)) (podcodec_encodePodTerm.ok k) (CxOk.cons (p := (96, value_List.d k)) (value_List.ok k) (CxOk.nil))
theorem l3 (k : Nat) : LoopOk Tryz.prog (S k) (lp (bodyF (Go.Proofs.Tryz.f105)) 0) := loopOk_mk (C := C k) (hC k) (Loops.all (n := 0) (by kernel_rfl) trivial) (lt := t3) (den := e3 k) (by kernel_rfl) (N := (Rows × Int × Row)) (A := (Rows × Int)) (R := Rows)
 (fun n x => a3 n.1 n.2.1 n.2.2 x) (fun n r => o3_0 n.1 n.2.1 n.2.2 r) (fun n x => s3 k n.1 n.2.1 n.2.2 x) k (fun d => ((aR (aN d.a 3)), (aI (aN d.a 4)), (d.r.getD 0 []))) (fun d => ((aR (aN d.a 2)), (aI (aN d.a 5)))) (fun d y h => out1_eval h) (fun d => by kernel_rfl) (fun n x => by kernel_rfl) (fun n r => ⟨_, rfl⟩)
theorem ok (k : Nat) : FunOk Tryz.prog 105 (d k) := fun_mk (C := C k) (hC k) (S := S k) Tryz.func105 (by kernel_rfl) (by kernel_rfl) (Loops.all (n := 1) (by kernel_rfl) ⟨trivial, l3 k⟩) (fun as_ => by kernel_rfl)
end podcodec_list_api_PodTerm_c106
namespace podcodec_encodeSpread
noncomputable def C (k : Nat) : Cx := ⟨Tryz.prog, tab [(100, value_Int.d k), (54, podcodec_field.d k), (137, value_Bool.d k), (103000101, podcodec_list_api_Requirement_c102.d k), (97, value_String.d k), (53, value_Map.d k)], [], [], tab []⟩
noncomputable def S (k : Nat) : Subs := fun n => none
noncomputable def f (k : Nat) (a0 : Row) : T Row :=
  .bnd (value_Int.f k (rInt a0 0)).eval default fun r0 =>
  .bnd (podcodec_field.f k (bs [109, 97, 120, 83, 107, 101, 119]) (et 68 r0)).eval default fun r1 =>
  .bnd (value_Bool.f k (rBool a0 3)).eval default fun r2 =>
  .bnd (podcodec_field.f k (bs [114, 101, 113, 117, 105, 114, 101, 100]) (et 68 r2)).eval default fun r3 =>
  .bnd (podcodec_list_api_Requirement_c102.f k (rSl a0 2)).eval default fun r4 =>
  .bnd (podcodec_field.f k (bs [115, 101, 108, 101, 99, 116, 111, 114]) (et 68 r4)).eval default fun r5 =>
  .bnd (value_String.f k (rStr a0 1)).eval default fun r6 =>
  .bnd (podcodec_field.f k (bs [116, 111, 112, 111, 108, 111, 103, 121]) (et 68 r6)).eval default fun r7 =>
  .bnd (value_Map.f k [(et 103 r1), (et 103 r3), (et 103 r5), (et 103 r7)]).eval default fun r8 =>
  .ret (et 68 r8)
noncomputable def d (k : Nat) : Fun := mkFun [129] (fun as_ => f k (vRow (vN as_ 0))) default (fun r => .agg (et 68 r))
theorem hC (k : Nat) : CxOk (C k) := CxOk.cons (p := (100, value_Int.d k)) (value_Int.ok k) (CxOk.cons (p := (54, podcodec_field.d k)) (podcodec_field.ok k) (CxOk.cons (p := (137, value_Bool.d k)) (value_Bool.ok k) (CxOk.consK (p := (103000101, podcodec_list_api_Requirement_c102.d k)) (by kernel_rfl) (podcodec_list_api_Requirement_c102.ok k) (CxOk.cons (p := (97, value_String.d k)) (value_String.ok k) (CxOk.cons (p := (53, value_Map.d k)) (value_Map.ok k) (CxOk.nil))))))
theorem ok (k : Nat) : FunOk Tryz.prog 108 (d k) := fun_mk (C := C k) (hC k) (S := S k) Tryz.func108 (by kernel_rfl) (by kernel_rfl) (Loops.all (n := 0) (by kernel_rfl) trivial) (fun as_ => by kernel_rfl)
end podcodec_encodeSpread
namespace podcodec_list_api_SpreadRule_c108
noncomputable def C (k : Nat) : Cx := ⟨Tryz.prog, tab [(108, podcodec_encodeSpread.d k), (96, value_List.d k)], [], [], tab []⟩
noncomputable def t3 : LoopT := ⟨⟨23, [.tmp 5 19 68], [(1, .fn 108 []), (4, .ptr 4 0), (5, .sl 68 (some 19)), (8, .sl 129 none), (9, .int .i64), (10, .int .i64)], [], [(4, 68)], []⟩, (fun | .exit 0 => some ⟨23, [], [(4, .ptr 4 0), (5, .sl 68 (some 19))], [], [(4, 68)], []⟩ | _ => none)⟩
noncomputable def s3 (k : Nat) (c0 : Rows) (c1 : Int) (c2 : Row) (x : (Rows × Int)) : T ((Rows × Int) ⊕ Rows) :=
  .test (iLt x.2 c1)
   (.test (iIn x.2 (rLen c0))
    (.bnd (podcodec_encodeSpread.f k (et 129 (rAt c0 x.2))).eval default fun r0 =>
    .test (rOk 80 (rLen x.1) (rLen [(et 68 r0)]))
     (.ret (.inl ((rCat x.1 [(et 68 r0)]), (iAdd .i64 x.2 (1)))))
     (.fail))
    (.fail))
   (.ret (.inr x.1))
noncomputable def a3 (c0 : Rows) (c1 : Int) (c2 : Row) (x : (Rows × Int)) : Dt := ⟨[.c [], .u, .r x.1, .r c0, .i c1, .i x.2], [], [et 68 c2], []⟩
noncomputable def o3_0 (c0 : Rows) (c1 : Int) (c2 : Row) (r : Rows) : X × Dt := (.exit 0, ⟨[.u, .r r], [], [(et 68 c2)], []⟩)
noncomputable def e3 (k : Nat) (d : Dt) : T (X × Dt) := out1 (iter (s3 k (aR (aN d.a 3)) (aI (aN d.a 4)) (d.r.getD 0 [])) k ((aR (aN d.a 2)), (aI (aN d.a 5)))) default (o3_0 (aR (aN d.a 3)) (aI (aN d.a 4)) (d.r.getD 0 []))
noncomputable def S (k : Nat) : Subs := fun n => bif Nat.beq n 3 then some (loopV Tryz.prog t3 (e3 k)) else none
noncomputable def f (k : Nat) (a0 : Rows) : T Row :=
  .bnd (iter (podcodec_list_api_SpreadRule_c108.s3 k a0 (rLen a0) [.int .i64 (0), .int .i64 (0), .str ByteArray.empty, .slice 68 [] .open, .slice 103 [] .open]) k ([], (0))) default fun r0 =>
  .bnd (value_List.f k r0).eval default fun r1 =>
  .ret (et 68 r1)
noncomputable def d (k : Nat) : Fun := mkFun [33, .fn 108 []] (fun as_ => f k (vRows (vN as_ 0))) default (fun r => .agg (et 68 r))
theorem hC (k : Nat) : CxOk (C k) := CxOk.cons (p := (108, podcodec_encodeSpread.d k)) (podcodec_encodeSpread.ok k) (CxOk.cons (p := (96, value_List.d k)) (value_List.ok k) (CxOk.nil))
theorem l3 (k : Nat) : LoopOk Tryz.prog (S k) (lp (bodyF (Go.Proofs.Tryz.f107)) 0) := loopOk_mk (C := C k) (hC k) (Loops.all (n := 0) (by kernel_rfl) trivial) (lt := t3) (den := e3 k) (by kernel_rfl) (N := (Rows × Int × Row)) (A := (Rows × Int)) (R := Rows)
 (fun n x => a3 n.1 n.2.1 n.2.2 x) (fun n r => o3_0 n.1 n.2.1 n.2.2 r) (fun n x => s3 k n.1 n.2.1 n.2.2 x) k (fun d => ((aR (aN d.a 3)), (aI (aN d.a 4)), (d.r.getD 0 []))) (fun d => ((aR (aN d.a 2)), (aI (aN d.a 5)))) (fun d y h => out1_eval h) (fun d => by kernel_rfl) (fun n x => by kernel_rfl) (fun n r => ⟨_, rfl⟩)
theorem ok (k : Nat) : FunOk Tryz.prog 107 (d k) := fun_mk (C := C k) (hC k) (S := S k) Tryz.func107 (by kernel_rfl) (by kernel_rfl) (Loops.all (n := 1) (by kernel_rfl) ⟨trivial, l3 k⟩) (fun as_ => by kernel_rfl)
end podcodec_list_api_SpreadRule_c108
namespace podcodec_encodeToleration
noncomputable def C (k : Nat) : Cx := ⟨Tryz.prog, tab [(100, value_Int.d k), (54, podcodec_field.d k), (137, value_Bool.d k), (97, value_String.d k), (53, value_Map.d k)], [], [], tab []⟩
noncomputable def S (k : Nat) : Subs := fun n => none
noncomputable def f (k : Nat) (a0 : Row) : T Row :=
  .bnd (value_Int.f k (rInt a0 3)).eval default fun r0 =>
  .bnd (podcodec_field.f k (bs [101, 102, 102, 101, 99, 116]) (et 68 r0)).eval default fun r1 =>
  .bnd (value_Bool.f k (rBool a0 2)).eval default fun r2 =>
  .bnd (podcodec_field.f k (bs [101, 120, 105, 115, 116, 115]) (et 68 r2)).eval default fun r3 =>
  .bnd (value_String.f k (rStr a0 0)).eval default fun r4 =>
  .bnd (podcodec_field.f k (bs [107, 101, 121]) (et 68 r4)).eval default fun r5 =>
  .bnd (value_Int.f k (rInt a0 4)).eval default fun r6 =>
  .bnd (podcodec_field.f k (bs [115, 101, 99, 111, 110, 100, 115]) (et 68 r6)).eval default fun r7 =>
  .bnd (value_String.f k (rStr a0 1)).eval default fun r8 =>
  .bnd (podcodec_field.f k (bs [118, 97, 108, 117, 101]) (et 68 r8)).eval default fun r9 =>
  .bnd (value_Map.f k [(et 103 r1), (et 103 r3), (et 103 r5), (et 103 r7), (et 103 r9)]).eval default fun r10 =>
  .ret (et 68 r10)
noncomputable def d (k : Nat) : Fun := mkFun [132] (fun as_ => f k (vRow (vN as_ 0))) default (fun r => .agg (et 68 r))
theorem hC (k : Nat) : CxOk (C k) := CxOk.cons (p := (100, value_Int.d k)) (value_Int.ok k) (CxOk.cons (p := (54, podcodec_field.d k)) (podcodec_field.ok k) (CxOk.cons (p := (137, value_Bool.d k)) (value_Bool.ok k) (CxOk.cons (p := (97, value_String.d k)) (value_String.ok k) (CxOk.cons (p := (53, value_Map.d k)) (value_Map.ok k) (CxOk.nil)))))
theorem ok (k : Nat) : FunOk Tryz.prog 110 (d k) := fun_mk (C := C k) (hC k) (S := S k) Tryz.func110 (by kernel_rfl) (by kernel_rfl) (Loops.all (n := 0) (by kernel_rfl) trivial) (fun as_ => by kernel_rfl)
end podcodec_encodeToleration
namespace podcodec_list_api_Toleration_c110
noncomputable def C (k : Nat) : Cx := ⟨Tryz.prog, tab [(110, podcodec_encodeToleration.d k), (96, value_List.d k)], [], [], tab []⟩
noncomputable def t3 : LoopT := ⟨⟨23, [.tmp 5 19 68], [(1, .fn 110 []), (4, .ptr 4 0), (5, .sl 68 (some 19)), (8, .sl 132 none), (9, .int .i64), (10, .int .i64)], [], [(4, 68)], []⟩, (fun | .exit 0 => some ⟨23, [], [(4, .ptr 4 0), (5, .sl 68 (some 19))], [], [(4, 68)], []⟩ | _ => none)⟩
noncomputable def s3 (k : Nat) (c0 : Rows) (c1 : Int) (c2 : Row) (x : (Rows × Int)) : T ((Rows × Int) ⊕ Rows) :=
  .test (iLt x.2 c1)
   (.test (iIn x.2 (rLen c0))
    (.bnd (podcodec_encodeToleration.f k (et 132 (rAt c0 x.2))).eval default fun r0 =>
    .test (rOk 80 (rLen x.1) (rLen [(et 68 r0)]))
     (.ret (.inl ((rCat x.1 [(et 68 r0)]), (iAdd .i64 x.2 (1)))))
     (.fail))
    (.fail))
   (.ret (.inr x.1))
noncomputable def a3 (c0 : Rows) (c1 : Int) (c2 : Row) (x : (Rows × Int)) : Dt := ⟨[.c [], .u, .r x.1, .r c0, .i c1, .i x.2], [], [et 68 c2], []⟩
noncomputable def o3_0 (c0 : Rows) (c1 : Int) (c2 : Row) (r : Rows) : X × Dt := (.exit 0, ⟨[.u, .r r], [], [(et 68 c2)], []⟩)
noncomputable def e3 (k : Nat) (d : Dt) : T (X × Dt) := out1 (iter (s3 k (aR (aN d.a 3)) (aI (aN d.a 4)) (d.r.getD 0 [])) k ((aR (aN d.a 2)), (aI (aN d.a 5)))) default (o3_0 (aR (aN d.a 3)) (aI (aN d.a 4)) (d.r.getD 0 []))
noncomputable def S (k : Nat) : Subs := fun n => bif Nat.beq n 3 then some (loopV Tryz.prog t3 (e3 k)) else none
noncomputable def f (k : Nat) (a0 : Rows) : T Row :=
  .bnd (iter (podcodec_list_api_Toleration_c110.s3 k a0 (rLen a0) [.int .i64 (0), .int .i64 (0), .str ByteArray.empty, .slice 68 [] .open, .slice 103 [] .open]) k ([], (0))) default fun r0 =>
  .bnd (value_List.f k r0).eval default fun r1 =>
  .ret (et 68 r1)
noncomputable def d (k : Nat) : Fun := mkFun [34, .fn 110 []] (fun as_ => f k (vRows (vN as_ 0))) default (fun r => .agg (et 68 r))
theorem hC (k : Nat) : CxOk (C k) := CxOk.cons (p := (110, podcodec_encodeToleration.d k)) (podcodec_encodeToleration.ok k) (CxOk.cons (p := (96, value_List.d k)) (value_List.ok k) (CxOk.nil))
theorem l3 (k : Nat) : LoopOk Tryz.prog (S k) (lp (bodyF (Go.Proofs.Tryz.f109)) 0) := loopOk_mk (C := C k) (hC k) (Loops.all (n := 0) (by kernel_rfl) trivial) (lt := t3) (den := e3 k) (by kernel_rfl) (N := (Rows × Int × Row)) (A := (Rows × Int)) (R := Rows)
 (fun n x => a3 n.1 n.2.1 n.2.2 x) (fun n r => o3_0 n.1 n.2.1 n.2.2 r) (fun n x => s3 k n.1 n.2.1 n.2.2 x) k (fun d => ((aR (aN d.a 3)), (aI (aN d.a 4)), (d.r.getD 0 []))) (fun d => ((aR (aN d.a 2)), (aI (aN d.a 5)))) (fun d y h => out1_eval h) (fun d => by kernel_rfl) (fun n x => by kernel_rfl) (fun n r => ⟨_, rfl⟩)
theorem ok (k : Nat) : FunOk Tryz.prog 109 (d k) := fun_mk (C := C k) (hC k) (S := S k) Tryz.func109 (by kernel_rfl) (by kernel_rfl) (Loops.all (n := 1) (by kernel_rfl) ⟨trivial, l3 k⟩) (fun as_ => by kernel_rfl)
end podcodec_list_api_Toleration_c110
namespace podcodec_encodeSpec
noncomputable def C (k : Nat) : Cx := ⟨Tryz.prog, tab [(100000098, podcodec_list_api_Container_c99.d k), (54, podcodec_field.d k), (100, value_Int.d k), (97, value_String.d k), (103000101, podcodec_list_api_Requirement_c102.d k), (105000103, podcodec_list_api_NodeTerm_c104.d k), (107000105, podcodec_list_api_PodTerm_c106.d k), (109000107, podcodec_list_api_SpreadRule_c108.d k), (111000109, podcodec_list_api_Toleration_c110.d k), (53, value_Map.d k)], [], [], tab []⟩
noncomputable def S (k : Nat) : Subs := fun n => none
noncomputable def f (k : Nat) (a0 : Row) : T Row :=
  .bnd (podcodec_list_api_Container_c99.f k (rSl a0 4)).eval default fun r0 =>
  .bnd (podcodec_field.f k (bs [99, 111, 110, 116, 97, 105, 110, 101, 114, 115]) (et 68 r0)).eval default fun r1 =>
  .bnd (value_Int.f k (rInt a0 3)).eval default fun r2 =>
  .bnd (podcodec_field.f k (bs [103, 114, 97, 99, 101]) (et 68 r2)).eval default fun r3 =>
  .bnd (value_String.f k (rStr a0 0)).eval default fun r4 =>
  .bnd (podcodec_field.f k (bs [110, 111, 100, 101]) (et 68 r4)).eval default fun r5 =>
  .bnd (podcodec_list_api_Requirement_c102.f k (rSl a0 5)).eval default fun r6 =>
  .bnd (podcodec_field.f k (bs [110, 111, 100, 101, 83, 101, 108, 101, 99, 116, 111, 114]) (et 68 r6)).eval default fun r7 =>
  .bnd (podcodec_list_api_NodeTerm_c104.f k (rSl a0 6)).eval default fun r8 =>
  .bnd (podcodec_field.f k (bs [110, 111, 100, 101, 84, 101, 114, 109, 115]) (et 68 r8)).eval default fun r9 =>
  .bnd (podcodec_list_api_PodTerm_c106.f k (rSl a0 7)).eval default fun r10 =>
  .bnd (podcodec_field.f k (bs [112, 111, 100, 84, 101, 114, 109, 115]) (et 68 r10)).eval default fun r11 =>
  .bnd (value_Int.f k (rInt a0 1)).eval default fun r12 =>
  .bnd (podcodec_field.f k (bs [112, 114, 105, 111, 114, 105, 116, 121]) (et 68 r12)).eval default fun r13 =>
  .bnd (value_Int.f k (rInt a0 2)).eval default fun r14 =>
  .bnd (podcodec_field.f k (bs [114, 101, 115, 116, 97, 114, 116]) (et 68 r14)).eval default fun r15 =>
  .bnd (podcodec_list_api_SpreadRule_c108.f k (rSl a0 8)).eval default fun r16 =>
  .bnd (podcodec_field.f k (bs [115, 112, 114, 101, 97, 100]) (et 68 r16)).eval default fun r17 =>
  .bnd (podcodec_list_api_Toleration_c110.f k (rSl a0 9)).eval default fun r18 =>
  .bnd (podcodec_field.f k (bs [116, 111, 108, 101, 114, 97, 116, 105, 111, 110, 115]) (et 68 r18)).eval default fun r19 =>
  .bnd (value_Map.f k [(et 103 r1), (et 103 r3), (et 103 r5), (et 103 r7), (et 103 r9), (et 103 r11), (et 103 r13), (et 103 r15), (et 103 r17), (et 103 r19)]).eval default fun r20 =>
  .ret (et 68 r20)
noncomputable def d (k : Nat) : Fun := mkFun [36] (fun as_ => f k (vRow (vN as_ 0))) default (fun r => .agg (et 68 r))
theorem hC (k : Nat) : CxOk (C k) := CxOk.consK (p := (100000098, podcodec_list_api_Container_c99.d k)) (by kernel_rfl) (podcodec_list_api_Container_c99.ok k) (CxOk.cons (p := (54, podcodec_field.d k)) (podcodec_field.ok k) (CxOk.cons (p := (100, value_Int.d k)) (value_Int.ok k) (CxOk.cons (p := (97, value_String.d k)) (value_String.ok k) (CxOk.consK (p := (103000101, podcodec_list_api_Requirement_c102.d k)) (by kernel_rfl) (podcodec_list_api_Requirement_c102.ok k) (CxOk.consK (p := (105000103, podcodec_list_api_NodeTerm_c104.d k)) (by kernel_rfl) (podcodec_list_api_NodeTerm_c104.ok k) (CxOk.consK (p := (107000105, podcodec_list_api_PodTerm_c106.d k)) (by kernel_rfl) (podcodec_list_api_PodTerm_c106.ok k) (CxOk.consK (p := (109000107, podcodec_list_api_SpreadRule_c108.d k)) (by kernel_rfl) (podcodec_list_api_SpreadRule_c108.ok k) (CxOk.consK (p := (111000109, podcodec_list_api_Toleration_c110.d k)) (by kernel_rfl) (podcodec_list_api_Toleration_c110.ok k) (CxOk.cons (p := (53, value_Map.d k)) (value_Map.ok k) (CxOk.nil))))))))))
theorem ok (k : Nat) : FunOk Tryz.prog 57 (d k) := fun_mk (C := C k) (hC k) (S := S k) Tryz.func57 (by kernel_rfl) (by kernel_rfl) (Loops.all (n := 0) (by kernel_rfl) trivial) (fun as_ => by kernel_rfl)
end podcodec_encodeSpec
namespace podcodec_FromTemplate
noncomputable def C (k : Nat) : Cx := ⟨Tryz.prog, tab [(57000055, podcodec_list_api_Label_c56.d k), (54, podcodec_field.d k), (57, podcodec_encodeSpec.d k), (53, value_Map.d k)], [], [], tab []⟩
noncomputable def S (k : Nat) : Subs := fun n => none
noncomputable def f (k : Nat) (a0 : Row) : T Row :=
  .bnd (podcodec_list_api_Label_c56.f k (rSl a0 0)).eval default fun r0 =>
  .bnd (podcodec_field.f k (bs [108, 97, 98, 101, 108, 115]) (et 68 r0)).eval default fun r1 =>
  .bnd (podcodec_encodeSpec.f k (eo 36 a0 1)).eval default fun r2 =>
  .bnd (podcodec_field.f k (bs [115, 112, 101, 99]) (et 68 r2)).eval default fun r3 =>
  .bnd (value_Map.f k [(et 103 r1), (et 103 r3)]).eval default fun r4 =>
  .ret (et 68 r4)
noncomputable def d (k : Nat) : Fun := mkFun [47] (fun as_ => f k (vRow (vN as_ 0))) default (fun r => .agg (et 68 r))
theorem hC (k : Nat) : CxOk (C k) := CxOk.consK (p := (57000055, podcodec_list_api_Label_c56.d k)) (by kernel_rfl) (podcodec_list_api_Label_c56.ok k) (CxOk.cons (p := (54, podcodec_field.d k)) (podcodec_field.ok k) (CxOk.cons (p := (57, podcodec_encodeSpec.d k)) (podcodec_encodeSpec.ok k) (CxOk.cons (p := (53, value_Map.d k)) (value_Map.ok k) (CxOk.nil))))
theorem ok (k : Nat) : FunOk Tryz.prog 35 (d k) := fun_mk (C := C k) (hC k) (S := S k) Tryz.func35 (by kernel_rfl) (by kernel_rfl) (Loops.all (n := 0) (by kernel_rfl) trivial) (fun as_ => by kernel_rfl)
end podcodec_FromTemplate
end Go.Proofs.YthnkchbcinlnnaaGreatDoor.Ev
