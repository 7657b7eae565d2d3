/- Go functions as Lean functions, printed by a program of this claim's author; each with its proof. Conditions: stated at each. -/
import Derived.Test.YtolackmpfnndhaaGreatDoorBld
import Derived.Test.YtolackmpfnndhaaGreatDoorSndE
import Derived.Test.YtolackmpfnndhaaGreatDoorProg
namespace Go.Proofs.YtolackmpfnndhaaGreatDoor.Ev
open Go
set_option linter.unusedVariables false
set_option maxRecDepth 100000
/-- A row in its type's form. -/
noncomputable abbrev et (t : Nat) (r : Row) : Row := eta Tryz.prog t r
/-- A part of a row, in its type's form. -/
noncomputable abbrev eo (t : Nat) (r : Row) (o : Nat) : Row := etaL Tryz.prog r o (ctsOf Tryz.prog t)
/-- Where the library's functions lie in this program. -/
def lay_ins_ren : Shelf.Ren := ⟨fun n => bif Nat.beq n 20 then 152 else n, fun n => bif Nat.beq n 24 then 120 else bif Nat.beq n 22 then 108 else bif Nat.beq n 3 then 3 else bif Nat.beq n 25 then 156 else bif Nat.beq n 4 then 4 else bif Nat.beq n 0 then 0 else n, fun n => n⟩
theorem lay_ins : SlLaysF0.n20 Tryz.prog lay_ins_ren where
  mixed := by kernel_rfl
  f20 := ⟨ "slices.insertionSortCmpFunc[orchestrator/api.Field]", by kernel_rfl, Tryz.func152.trans (congrArg some (by kernel_rfl))⟩
  t0 := by kernel_rfl
  a0 := fun w => by kernel_rfl
  z0 := fun w => by kernel_rfl
  v0 := fun w => by kernel_rfl
  t3 := by kernel_rfl
  a3 := fun w => by kernel_rfl
  z3 := fun w => by kernel_rfl
  v3 := fun w => by kernel_rfl
  t4 := by kernel_rfl
  a4 := fun w => by kernel_rfl
  z4 := fun w => by kernel_rfl
  v4 := fun w => by kernel_rfl
  t22 := by kernel_rfl
  a22 := fun w => by kernel_rfl
  z22 := fun w => by kernel_rfl
  v22 := fun w => by kernel_rfl
  t25 := by kernel_rfl
  a25 := fun w => by kernel_rfl
  z25 := fun w => by kernel_rfl
  v25 := fun w => by kernel_rfl
/-- Where the library's functions lie in this program. -/
def lay_cmp_ren : Shelf.Ren := ⟨fun n => bif Nat.beq n 106 then 105 else bif Nat.beq n 213 then 137 else bif Nat.beq n 265 then 154 else n, fun n => bif Nat.beq n 9 then 9 else bif Nat.beq n 3 then 3 else n, fun n => n⟩
theorem lay_cmp : Lays.n106 Tryz.prog lay_cmp_ren where
  mixed := by kernel_rfl
  f106 := by kernel_rfl
  f213 := by kernel_rfl
  f265 := by kernel_rfl
  t3 := by kernel_rfl
  a3 := fun w => by kernel_rfl
  z3 := fun w => by kernel_rfl
  v3 := fun w => by kernel_rfl
  t9 := by kernel_rfl
  a9 := fun w => by kernel_rfl
  z9 := fun w => by kernel_rfl
  v9 := fun w => by kernel_rfl
/-- Where the library's functions lie in this program. -/
def lay_itoa_ren : Shelf.Ren := ⟨fun n => bif Nat.beq n 171 then 55 else bif Nat.beq n 243 then 66 else bif Nat.beq n 246 then 82 else bif Nat.beq n 283 then 122 else bif Nat.beq n 284 then 123 else bif Nat.beq n 285 then 124 else bif Nat.beq n 286 then 125 else bif Nat.beq n 129 then 145 else bif Nat.beq n 317 then 144 else bif Nat.beq n 318 then 146 else bif Nat.beq n 319 then 147 else bif Nat.beq n 320 then 148 else bif Nat.beq n 337 then 155 else bif Nat.beq n 338 then 156 else n, fun n => bif Nat.beq n 3 then 3 else bif Nat.beq n 9 then 9 else bif Nat.beq n 2 then 2 else bif Nat.beq n 4 then 4 else bif Nat.beq n 171 then 186 else bif Nat.beq n 0 then 0 else bif Nat.beq n 53 then 187 else bif Nat.beq n 37 then 113 else bif Nat.beq n 5 then 5 else bif Nat.beq n 173 then 190 else bif Nat.beq n 212 then 205 else bif Nat.beq n 51 then 112 else bif Nat.beq n 20 then 20 else bif Nat.beq n 213 then 206 else bif Nat.beq n 46 then 68 else bif Nat.beq n 232 then 214 else bif Nat.beq n 233 then 215 else n, fun n => bif Nat.beq n 17 then 0 else bif Nat.beq n 18 then 2 else bif Nat.beq n 19 then 3 else n⟩
theorem lay_itoa : LaysM.n171 Tryz.prog lay_itoa_ren where
  mixed := by kernel_rfl
  f129 := by kernel_rfl
  f171 := by kernel_rfl
  f243 := by kernel_rfl
  f246 := by kernel_rfl
  f283 := by kernel_rfl
  f284 := by kernel_rfl
  f285 := by kernel_rfl
  f286 := by kernel_rfl
  f317 := by kernel_rfl
  f318 := by kernel_rfl
  f319 := by kernel_rfl
  f320 := by kernel_rfl
  f337 := by kernel_rfl
  f338 := by kernel_rfl
  t0 := by kernel_rfl
  a0 := fun w => by kernel_rfl
  z0 := fun w => by kernel_rfl
  v0 := fun w => by kernel_rfl
  t2 := by kernel_rfl
  a2 := fun w => by kernel_rfl
  z2 := fun w => by kernel_rfl
  v2 := fun w => by kernel_rfl
  t3 := by kernel_rfl
  a3 := fun w => by kernel_rfl
  z3 := fun w => by kernel_rfl
  v3 := fun w => by kernel_rfl
  t4 := by kernel_rfl
  a4 := fun w => by kernel_rfl
  z4 := fun w => by kernel_rfl
  v4 := fun w => by kernel_rfl
  t5 := by kernel_rfl
  a5 := fun w => by kernel_rfl
  z5 := fun w => by kernel_rfl
  v5 := fun w => by kernel_rfl
  t9 := by kernel_rfl
  a9 := fun w => by kernel_rfl
  z9 := fun w => by kernel_rfl
  v9 := fun w => by kernel_rfl
  t20 := by kernel_rfl
  a20 := fun w => by kernel_rfl
  z20 := fun w => by kernel_rfl
  v20 := fun w => by kernel_rfl
  t37 := by kernel_rfl
  a37 := fun w => by kernel_rfl
  z37 := fun w => by kernel_rfl
  v37 := fun w => by kernel_rfl
  t46 := by kernel_rfl
  a46 := fun w => by kernel_rfl
  z46 := fun w => by kernel_rfl
  v46 := fun w => by kernel_rfl
  t51 := by kernel_rfl
  a51 := fun w => by kernel_rfl
  z51 := fun w => by kernel_rfl
  v51 := fun w => by kernel_rfl
  t53 := by kernel_rfl
  a53 := fun w => by kernel_rfl
  z53 := fun w => by kernel_rfl
  v53 := fun w => by kernel_rfl
  t171 := by kernel_rfl
  a171 := fun w => by kernel_rfl
  z171 := fun w => by kernel_rfl
  v171 := fun w => by kernel_rfl
  t173 := by kernel_rfl
  a173 := fun w => by kernel_rfl
  z173 := fun w => by kernel_rfl
  v173 := fun w => by kernel_rfl
  t212 := by kernel_rfl
  a212 := fun w => by kernel_rfl
  z212 := fun w => by kernel_rfl
  v212 := fun w => by kernel_rfl
  t213 := by kernel_rfl
  a213 := fun w => by kernel_rfl
  z213 := fun w => by kernel_rfl
  t232 := by kernel_rfl
  a232 := fun w => by kernel_rfl
  z232 := fun w => by kernel_rfl
  v232 := fun w => by kernel_rfl
  t233 := by kernel_rfl
  a233 := fun w => by kernel_rfl
  z233 := fun w => by kernel_rfl
  v233 := fun w => by kernel_rfl
  g17 := by kernel_rfl
  g18 := by kernel_rfl
  g19 := by kernel_rfl
  i0 := by kernel_rfl
  i2 := by kernel_rfl
  i3 := by kernel_rfl
  i4 := by kernel_rfl
  i5 := by kernel_rfl
  i9 := by kernel_rfl
  i20 := by kernel_rfl
  i37 := by kernel_rfl
  i46 := by kernel_rfl
  i51 := by kernel_rfl
  i53 := by kernel_rfl
  i171 := by kernel_rfl
  i173 := by kernel_rfl
  i212 := by kernel_rfl
  i232 := by kernel_rfl
  i233 := by kernel_rfl
  m17 := by kernel_rfl
  m18 := by kernel_rfl
  m19 := by kernel_rfl
/-- Where the library's functions lie in this program. -/
def lay_wb_ren : Shelf.Ren := ⟨fun n => bif Nat.beq n 166 then 98 else bif Nat.beq n 167 then 101 else bif Nat.beq n 169 then 76 else bif Nat.beq n 170 then 75 else bif Nat.beq n 240 then 134 else bif Nat.beq n 276 then 151 else n, fun n => bif Nat.beq n 0 then 0 else bif Nat.beq n 3 then 3 else bif Nat.beq n 4 then 4 else bif Nat.beq n 5 then 5 else bif Nat.beq n 9 then 9 else bif Nat.beq n 20 then 20 else bif Nat.beq n 37 then 113 else bif Nat.beq n 70 then 124 else bif Nat.beq n 72 then 126 else bif Nat.beq n 75 then 146 else bif Nat.beq n 80 then 129 else bif Nat.beq n 127 then 152 else bif Nat.beq n 164 then 209 else n, fun n => n⟩
theorem lay_wb : Lays.n167 Tryz.prog lay_wb_ren where
  mixed := by kernel_rfl
  f167 := by kernel_rfl
  f240 := by kernel_rfl
  f276 := by kernel_rfl
  t0 := by kernel_rfl
  a0 := fun w => by kernel_rfl
  z0 := fun w => by kernel_rfl
  v0 := fun w => by kernel_rfl
  t4 := by kernel_rfl
  a4 := fun w => by kernel_rfl
  z4 := fun w => by kernel_rfl
  v4 := fun w => by kernel_rfl
  t5 := by kernel_rfl
  a5 := fun w => by kernel_rfl
  z5 := fun w => by kernel_rfl
  v5 := fun w => by kernel_rfl
  t9 := by kernel_rfl
  a9 := fun w => by kernel_rfl
  z9 := fun w => by kernel_rfl
  v9 := fun w => by kernel_rfl
  t20 := by kernel_rfl
  a20 := fun w => by kernel_rfl
  z20 := fun w => by kernel_rfl
  v20 := fun w => by kernel_rfl
  t37 := by kernel_rfl
  a37 := fun w => by kernel_rfl
  z37 := fun w => by kernel_rfl
  v37 := fun w => by kernel_rfl
  t70 := by kernel_rfl
  a70 := fun w => by kernel_rfl
  z70 := fun w => by kernel_rfl
  v70 := fun w => by kernel_rfl
  t72 := by kernel_rfl
  a72 := fun w => by kernel_rfl
  z72 := fun w => by kernel_rfl
  v72 := fun w => by kernel_rfl
  t75 := by kernel_rfl
  a75 := fun w => by kernel_rfl
  z75 := fun w => by kernel_rfl
  v75 := fun w => by kernel_rfl
  t164 := by kernel_rfl
  a164 := fun w => by kernel_rfl
  z164 := fun w => by kernel_rfl
  v164 := fun w => by kernel_rfl
/-- Where the library's functions lie in this program. -/
theorem lay_ws : Lays.n166 Tryz.prog lay_wb_ren where
  mixed := by kernel_rfl
  f166 := by kernel_rfl
  f240 := by kernel_rfl
  f276 := by kernel_rfl
  t0 := by kernel_rfl
  a0 := fun w => by kernel_rfl
  z0 := fun w => by kernel_rfl
  v0 := fun w => by kernel_rfl
  t3 := by kernel_rfl
  a3 := fun w => by kernel_rfl
  z3 := fun w => by kernel_rfl
  v3 := fun w => by kernel_rfl
  t4 := by kernel_rfl
  a4 := fun w => by kernel_rfl
  z4 := fun w => by kernel_rfl
  v4 := fun w => by kernel_rfl
  t9 := by kernel_rfl
  a9 := fun w => by kernel_rfl
  z9 := fun w => by kernel_rfl
  v9 := fun w => by kernel_rfl
  t20 := by kernel_rfl
  a20 := fun w => by kernel_rfl
  z20 := fun w => by kernel_rfl
  v20 := fun w => by kernel_rfl
  t37 := by kernel_rfl
  a37 := fun w => by kernel_rfl
  z37 := fun w => by kernel_rfl
  v37 := fun w => by kernel_rfl
  t70 := by kernel_rfl
  a70 := fun w => by kernel_rfl
  z70 := fun w => by kernel_rfl
  v70 := fun w => by kernel_rfl
  t72 := by kernel_rfl
  a72 := fun w => by kernel_rfl
  z72 := fun w => by kernel_rfl
  v72 := fun w => by kernel_rfl
  t75 := by kernel_rfl
  a75 := fun w => by kernel_rfl
  z75 := fun w => by kernel_rfl
  v75 := fun w => by kernel_rfl
  t164 := by kernel_rfl
  a164 := fun w => by kernel_rfl
  z164 := fun w => by kernel_rfl
  v164 := fun w => by kernel_rfl
/-- Where the library's functions lie in this program. -/
theorem lay_st : Lays.n169 Tryz.prog lay_wb_ren where
  mixed := by kernel_rfl
  f169 := by kernel_rfl
  t0 := by kernel_rfl
  a0 := fun w => by kernel_rfl
  z0 := fun w => by kernel_rfl
  v0 := fun w => by kernel_rfl
  t3 := by kernel_rfl
  a3 := fun w => by kernel_rfl
  z3 := fun w => by kernel_rfl
  v3 := fun w => by kernel_rfl
  t9 := by kernel_rfl
  a9 := fun w => by kernel_rfl
  z9 := fun w => by kernel_rfl
  v9 := fun w => by kernel_rfl
  t37 := by kernel_rfl
  a37 := fun w => by kernel_rfl
  z37 := fun w => by kernel_rfl
  v37 := fun w => by kernel_rfl
  t70 := by kernel_rfl
  a70 := fun w => by kernel_rfl
  z70 := fun w => by kernel_rfl
  v70 := fun w => by kernel_rfl
  t72 := by kernel_rfl
  a72 := fun w => by kernel_rfl
  z72 := fun w => by kernel_rfl
  v72 := fun w => by kernel_rfl
  t127 := by kernel_rfl
  a127 := fun w => by kernel_rfl
  z127 := fun w => by kernel_rfl
  v127 := fun w => by kernel_rfl
/-- Where the library's functions lie in this program. -/
theorem lay_len : Lays.n170 Tryz.prog lay_wb_ren where
  mixed := by kernel_rfl
  f170 := by kernel_rfl
  t0 := by kernel_rfl
  a0 := fun w => by kernel_rfl
  z0 := fun w => by kernel_rfl
  v0 := fun w => by kernel_rfl
  t3 := by kernel_rfl
  a3 := fun w => by kernel_rfl
  z3 := fun w => by kernel_rfl
  v3 := fun w => by kernel_rfl
  t37 := by kernel_rfl
  a37 := fun w => by kernel_rfl
  z37 := fun w => by kernel_rfl
  v37 := fun w => by kernel_rfl
  t70 := by kernel_rfl
  a70 := fun w => by kernel_rfl
  z70 := fun w => by kernel_rfl
  v70 := fun w => by kernel_rfl
  t72 := by kernel_rfl
  a72 := fun w => by kernel_rfl
  z72 := fun w => by kernel_rfl
  v72 := fun w => by kernel_rfl
theorem lay_bx : Builder.Extra Tryz.prog lay_wb_ren where
  sizeBuilder := by kernel_rfl
  liesBuilder := by kernel_rfl
  t5 := by kernel_rfl
  a5 := fun w => by kernel_rfl
  z5 := fun w => by kernel_rfl
  v5 := fun w => by kernel_rfl
  infoByte := by kernel_rfl
  cellsByte := by kernel_rfl
  sizeByte := by kernel_rfl
  neB5 := by decide
namespace value_text
noncomputable def C (k : Nat) : Cx := ⟨Tryz.prog, tab [], [], [], tab []⟩
noncomputable def t2 : LoopT := ⟨⟨29, [], [(0, .str), (5, .int .i64), (6, .int .i64)], [], [], []⟩, (fun | .ret => some ⟨29, [], [(2, .bool)], [], [], []⟩ | .exit 0 => some ⟨29, [], [(0, .str)], [], [], []⟩ | _ => none)⟩
noncomputable def s2 (k : Nat) (c0 : ByteArray) (c1 : Int) (x : Int) : T (Int ⊕ (Bool ⊕ Unit)) :=
  .test (iLt x c1)
   (.test (iIn x (sLen c0))
    (.test (bImp (bNot (iEq (sAt c0 x) (10))) (iIn x (sLen c0)))
     (.test (bImp (bAnd (bNot (iEq (sAt c0 x) (10))) (bNot (iLt (sAt c0 x) (32)))) (iIn x (sLen c0)))
      (.test (bIte (bNot (iEq (sAt c0 x) (10))) (bIte (iLt (sAt c0 x) (32)) true (iLt (126) (sAt c0 x))) false)
       (.ret (.inr (.inl false)))
       (.ret (.inl (iAdd .i64 x (1)))))
      (.fail))
     (.fail))
    (.fail))
   (.ret (.inr (.inr ())))
noncomputable def a2 (c0 : ByteArray) (c1 : Int) (x : Int) : Dt := ⟨[.s c0, .i c1, .i x], [], [], []⟩
noncomputable def o2_0 (c0 : ByteArray) (c1 : Int) (r : Bool) : X × Dt := (.ret, ⟨[.b r], [], [], []⟩)
noncomputable def o2_1 (c0 : ByteArray) (c1 : Int) (r : Unit) : X × Dt := (.exit 0, ⟨[.s c0], [], [], []⟩)
noncomputable def e2 (k : Nat) (d : Dt) : T (X × Dt) := out2 (iter (s2 k (aS (aN d.a 0)) (aI (aN d.a 1))) k (aI (aN d.a 2))) (o2_0 (aS (aN d.a 0)) (aI (aN d.a 1))) (o2_1 (aS (aN d.a 0)) (aI (aN d.a 1)))
noncomputable def S (k : Nat) : Subs := fun n => bif Nat.beq n 2 then some (loopV Tryz.prog t2 (e2 k)) else none
noncomputable def f (k : Nat) (a0 : ByteArray) : T Bool :=
  .cas (iter (value_text.s2 k a0 (sLen a0)) k (0)) (fun r0 =>
   .ret r0) (fun r1 =>
   .ret (iLe (sLen a0) (200)))
noncomputable def d (k : Nat) : Fun := mkFun [9] (fun as_ => f k (vStr (vN as_ 0))) default (fun r => .bool r)
theorem hC (k : Nat) : CxOk (C k) := CxOk.nil
theorem l2 (k : Nat) : LoopOk Tryz.prog (S k) (lp (bodyF (Go.Proofs.Tryz.f150)) 0) := loopOk_mk (C := C k) (hC k) (Loops.all (n := 0) (by kernel_rfl) trivial) (lt := t2) (den := e2 k) (by kernel_rfl) (N := (ByteArray × Int)) (A := Int) (R := (Bool ⊕ Unit))
 (fun n x => a2 n.1 n.2 x) (fun n r => Sum.elim (o2_0 n.1 n.2) (o2_1 n.1 n.2) r) (fun n x => s2 k n.1 n.2 x) k (fun d => ((aS (aN d.a 0)), (aI (aN d.a 1)))) (fun d => (aI (aN d.a 2))) (fun d y h => out2_eval h) (fun d => by kernel_rfl) (fun n x => by kernel_rfl) (fun n r => by rcases r with r | r <;> exact ⟨_, rfl⟩)
theorem ok (k : Nat) : FunOk Tryz.prog 150 (d k) := fun_mk (C := C k) (hC k) (S := S k) Tryz.func150 (by kernel_rfl) (by kernel_rfl) (Loops.all (n := 1) (by kernel_rfl) ⟨trivial, l2 k⟩) (fun as_ => by kernel_rfl)
end value_text
namespace value_scalar
noncomputable def C (k : Nat) : Cx := ⟨Tryz.prog, tab [(150, value_text.d k)], [], [], tab []⟩
noncomputable def S (k : Nat) : Subs := fun n => none
noncomputable def f (k : Nat) (a0 : Row) : T Bool :=
  .test (iEq (rInt a0 0) (1))
   (.ret (bIte (sEq (rStr a0 2) ByteArray.empty) (bIte (iEq (rInt a0 1) (0)) true (iEq (rInt a0 1) (1))) false))
   (.test (iEq (rInt a0 0) (2))
    (.ret (bIte (bIte (sEq (rStr a0 2) ByteArray.empty) (iLe (-1000000000000000) (rInt a0 1)) false) (iLe (rInt a0 1) (1000000000000000)) false))
    (.test (iEq (rInt a0 0) (3))
     (.opt (iEq (rInt a0 1) (0)) (value_text.f k (rStr a0 2)).eval default fun r0 =>
     .ret (bIte (iEq (rInt a0 1) (0)) r0 false))
     (.test (iEq (rInt a0 0) (0))
      (.test (iEq (rInt a0 0) (0))
       (.ret (bIte (iEq (rInt a0 1) (0)) (sEq (rStr a0 2) ByteArray.empty) false))
       (.ret false))
      (.test (iEq (rInt a0 0) (4))
       (.test (iEq (rInt a0 0) (4))
        (.ret (bIte (iEq (rInt a0 1) (0)) (sEq (rStr a0 2) ByteArray.empty) false))
        (.ret false))
       (.test (iEq (rInt a0 0) (5))
        (.ret (bIte (iEq (rInt a0 1) (0)) (sEq (rStr a0 2) ByteArray.empty) false))
        (.ret false))))))
noncomputable def d (k : Nat) : Fun := mkFun [110] (fun as_ => f k (vRow (vN as_ 0))) default (fun r => .bool r)
theorem hC (k : Nat) : CxOk (C k) := CxOk.cons (p := (150, value_text.d k)) (value_text.ok k) (CxOk.nil)
theorem ok (k : Nat) : FunOk Tryz.prog 132 (d k) := fun_mk (C := C k) (hC k) (S := S k) Tryz.func132 (by kernel_rfl) (by kernel_rfl) (Loops.all (n := 0) (by kernel_rfl) trivial) (fun as_ => by kernel_rfl)
end value_scalar
namespace value_name
noncomputable def C (k : Nat) : Cx := ⟨Tryz.prog, tab [], [], [], tab []⟩
noncomputable def t2 : LoopT := ⟨⟨57, [], [(0, .str), (6, .int .i64), (7, .int .i64)], [], [], []⟩, (fun | .ret => some ⟨57, [], [(2, .bool)], [], [], []⟩ | .exit 0 => some ⟨57, [], [(0, .str)], [], [], []⟩ | _ => none)⟩
noncomputable def s2 (k : Nat) (c0 : ByteArray) (c1 : Int) (x : Int) : T (Int ⊕ (Bool ⊕ Unit)) :=
  .test (iLt x c1)
   (.test (iIn x (sLen c0))
    (.test (bNot (bIte (bIte (bIte (bIte (bIte (bIte (iLe (97) (sAt c0 x)) (iLe (sAt c0 x) (122)) false) true (bIte (iLe (65) (sAt c0 x)) (iLe (sAt c0 x) (90)) false)) true (bIte (iLe (48) (sAt c0 x)) (iLe (sAt c0 x) (57)) false)) true (iEq (sAt c0 x) (45))) true (iEq (sAt c0 x) (95))) true (iEq (sAt c0 x) (47))))
     (.ret (.inr (.inl false)))
     (.ret (.inl (iAdd .i64 x (1)))))
    (.fail))
   (.ret (.inr (.inr ())))
noncomputable def a2 (c0 : ByteArray) (c1 : Int) (x : Int) : Dt := ⟨[.s c0, .i c1, .i x], [], [], []⟩
noncomputable def o2_0 (c0 : ByteArray) (c1 : Int) (r : Bool) : X × Dt := (.ret, ⟨[.b r], [], [], []⟩)
noncomputable def o2_1 (c0 : ByteArray) (c1 : Int) (r : Unit) : X × Dt := (.exit 0, ⟨[.s c0], [], [], []⟩)
noncomputable def e2 (k : Nat) (d : Dt) : T (X × Dt) := out2 (iter (s2 k (aS (aN d.a 0)) (aI (aN d.a 1))) k (aI (aN d.a 2))) (o2_0 (aS (aN d.a 0)) (aI (aN d.a 1))) (o2_1 (aS (aN d.a 0)) (aI (aN d.a 1)))
noncomputable def S (k : Nat) : Subs := fun n => bif Nat.beq n 2 then some (loopV Tryz.prog t2 (e2 k)) else none
noncomputable def f (k : Nat) (a0 : ByteArray) : T Bool :=
  .cas (iter (value_name.s2 k a0 (sLen a0)) k (0)) (fun r0 =>
   .ret r0) (fun r1 =>
   .ret (bIte (iLe (1) (sLen a0)) (iLe (sLen a0) (40)) false))
noncomputable def d (k : Nat) : Fun := mkFun [9] (fun as_ => f k (vStr (vN as_ 0))) default (fun r => .bool r)
theorem hC (k : Nat) : CxOk (C k) := CxOk.nil
theorem l2 (k : Nat) : LoopOk Tryz.prog (S k) (lp (bodyF (Go.Proofs.Tryz.f133)) 0) := loopOk_mk (C := C k) (hC k) (Loops.all (n := 0) (by kernel_rfl) trivial) (lt := t2) (den := e2 k) (by kernel_rfl) (N := (ByteArray × Int)) (A := Int) (R := (Bool ⊕ Unit))
 (fun n x => a2 n.1 n.2 x) (fun n r => Sum.elim (o2_0 n.1 n.2) (o2_1 n.1 n.2) r) (fun n x => s2 k n.1 n.2 x) k (fun d => ((aS (aN d.a 0)), (aI (aN d.a 1)))) (fun d => (aI (aN d.a 2))) (fun d y h => out2_eval h) (fun d => by kernel_rfl) (fun n x => by kernel_rfl) (fun n r => by rcases r with r | r <;> exact ⟨_, rfl⟩)
theorem ok (k : Nat) : FunOk Tryz.prog 133 (d k) := fun_mk (C := C k) (hC k) (S := S k) Tryz.func133 (by kernel_rfl) (by kernel_rfl) (Loops.all (n := 1) (by kernel_rfl) ⟨trivial, l2 k⟩) (fun as_ => by kernel_rfl)
end value_name
namespace value_valid
noncomputable def F (self : Row → Int → T Bool) : Fun := mkFun [110, 3] (fun as_ => self (vRow (vN as_ 0)) (vInt (vN as_ 1))) default (fun r => .bool r)
noncomputable def C (k : Nat) (self : Row → Int → T Bool) : Cx := ⟨Tryz.prog, tab [(132, value_scalar.d k), (133, value_name.d k), (96, F self)], [], [], tab []⟩
noncomputable def t4 : LoopT := ⟨⟨100, [], [(1, .int .i64), (2, .ptr 2 0), (51, .sl 110 none), (52, .int .i64), (53, .int .i64)], [], [(2, 110)], []⟩, (fun | .ret => some ⟨100, [], [(4, .bool)], [], [], []⟩ | .exit 0 => some ⟨100, [], [(1, .int .i64), (2, .ptr 2 0)], [], [(2, 110)], []⟩ | _ => none)⟩
noncomputable def s4 (k : Nat) (self : Row → Int → T Bool) (c0 : Int) (c1 : Rows) (c2 : Int) (c3 : Row) (x : Int) : T (Int ⊕ (Bool ⊕ Unit)) :=
  .test (iLt x c2)
   (.test (iIn x (rLen c1))
    (.bnd (self (et 110 (rAt c1 x)) (iSub .i64 c0 (1))).eval default fun r0 =>
    .test (bNot r0)
     (.ret (.inr (.inl false)))
     (.ret (.inl (iAdd .i64 x (1)))))
    (.fail))
   (.ret (.inr (.inr ())))
noncomputable def a4 (c0 : Int) (c1 : Rows) (c2 : Int) (c3 : Row) (x : Int) : Dt := ⟨[.i c0, .u, .r c1, .i c2, .i x], [], [et 110 c3], []⟩
noncomputable def o4_0 (c0 : Int) (c1 : Rows) (c2 : Int) (c3 : Row) (r : Bool) : X × Dt := (.ret, ⟨[.b r], [], [], []⟩)
noncomputable def o4_1 (c0 : Int) (c1 : Rows) (c2 : Int) (c3 : Row) (r : Unit) : X × Dt := (.exit 0, ⟨[.i c0, .u], [], [(et 110 c3)], []⟩)
noncomputable def e4 (k : Nat) (self : Row → Int → T Bool) (d : Dt) : T (X × Dt) := out2 (iter (s4 k self (aI (aN d.a 0)) (aR (aN d.a 2)) (aI (aN d.a 3)) (d.r.getD 0 [])) k (aI (aN d.a 4))) (o4_0 (aI (aN d.a 0)) (aR (aN d.a 2)) (aI (aN d.a 3)) (d.r.getD 0 [])) (o4_1 (aI (aN d.a 0)) (aR (aN d.a 2)) (aI (aN d.a 3)) (d.r.getD 0 []))
noncomputable def t10 : LoopT := ⟨⟨100, [], [(1, .int .i64), (2, .ptr 2 0), (64, .sl 120 none), (65, .int .i64), (66, .int .i64)], [], [(2, 110)], []⟩, (fun | .ret => some ⟨100, [], [(4, .bool)], [], [], []⟩ | .exit 2 => some ⟨100, [], [], [], [], []⟩ | _ => none)⟩
noncomputable def s10 (k : Nat) (self : Row → Int → T Bool) (c0 : Int) (c1 : Rows) (c2 : Int) (c3 : Row) (x : Int) : T (Int ⊕ (Bool ⊕ Unit)) :=
  .test (iLt x c2)
   (.test (iIn x (rLen c1))
    (.bnd (value_name.f k (rStr (rAt c1 x) 0)).eval default fun r0 =>
    .test (bImp (bAnd (bNot (bNot r0)) (iLt (0) x)) (iIn (iSub .i64 x (1)) (rLen (rSl c3 4))))
     (.opt (bNot (bIte (bNot r0) true (bIte (iLt (0) x) (bNot (sLt (rStr (rAt (rSl c3 4) (iSub .i64 x (1))) 0) (rStr (rAt c1 x) 0))) false))) (self (eo 110 (rAt c1 x) 1) (iSub .i64 c0 (1))).eval default fun r1 =>
     .test (bIte (bIte (bNot r0) true (bIte (iLt (0) x) (bNot (sLt (rStr (rAt (rSl c3 4) (iSub .i64 x (1))) 0) (rStr (rAt c1 x) 0))) false)) true (bNot r1))
      (.ret (.inr (.inl false)))
      (.ret (.inl (iAdd .i64 x (1)))))
     (.fail))
    (.fail))
   (.ret (.inr (.inr ())))
noncomputable def a10 (c0 : Int) (c1 : Rows) (c2 : Int) (c3 : Row) (x : Int) : Dt := ⟨[.i c0, .u, .r c1, .i c2, .i x], [], [et 110 c3], []⟩
noncomputable def o10_0 (c0 : Int) (c1 : Rows) (c2 : Int) (c3 : Row) (r : Bool) : X × Dt := (.ret, ⟨[.b r], [], [], []⟩)
noncomputable def o10_1 (c0 : Int) (c1 : Rows) (c2 : Int) (c3 : Row) (r : Unit) : X × Dt := (.exit 2, ⟨[], [], [], []⟩)
noncomputable def e10 (k : Nat) (self : Row → Int → T Bool) (d : Dt) : T (X × Dt) := out2 (iter (s10 k self (aI (aN d.a 0)) (aR (aN d.a 2)) (aI (aN d.a 3)) (d.r.getD 0 [])) k (aI (aN d.a 4))) (o10_0 (aI (aN d.a 0)) (aR (aN d.a 2)) (aI (aN d.a 3)) (d.r.getD 0 [])) (o10_1 (aI (aN d.a 0)) (aR (aN d.a 2)) (aI (aN d.a 3)) (d.r.getD 0 []))
noncomputable def S (k : Nat) (self : Row → Int → T Bool) : Subs := fun n => bif Nat.beq n 4 then some (loopV Tryz.prog t4 (e4 k self)) else bif Nat.beq n 10 then some (loopV Tryz.prog t10 (e10 k self)) else none
noncomputable def f : Nat → Row → Int → T Bool
  | 0, _, _ => .fail
  | k + 1, a0, a1 =>
  .opt (bNot (iEq a1 (0))) (value_scalar.f k (et 110 a0)).eval default fun r0 =>
  .test (bIte (bIte (bIte (bIte (bIte (iEq a1 (0)) true (bNot r0)) true (bIte (bNot (iEq (rInt a0 0) (4))) (iLt (0) (rLen (rSl a0 3))) false)) true (bIte (bNot (iEq (rInt a0 0) (5))) (iLt (0) (rLen (rSl a0 4))) false)) true (iLt (64) (rLen (rSl a0 3)))) true (iLt (64) (rLen (rSl a0 4))))
   (.ret false)
   (.cas (iter (value_valid.s4 k (f k) a1 (rSl a0 3) (rLen (rSl a0 3)) (et 110 a0)) k (0)) (fun r1 =>
    .ret r1) (fun r2 =>
    .cas (iter (value_valid.s10 k (f k) a1 (rSl a0 4) (rLen (rSl a0 4)) (et 110 a0)) k (0)) (fun r3 =>
     .ret r3) (fun r4 =>
     .ret true)))
noncomputable def d (k : Nat) : Fun := F (f k)
theorem hC (k : Nat) (self : Row → Int → T Bool) (ih : FunOk Tryz.prog 96 (F self)) : CxOk (C k self) := CxOk.cons (p := (132, value_scalar.d k)) (value_scalar.ok k) (CxOk.cons (p := (133, value_name.d k)) (value_name.ok k) (CxOk.cons (p := (96, F self)) ih (CxOk.nil)))
theorem l4 (k : Nat) (self : Row → Int → T Bool) (ih : FunOk Tryz.prog 96 (F self)) : LoopOk Tryz.prog (S k self) (lp (bodyF (Go.Proofs.Tryz.f96)) 0) := loopOk_mk (C := C k self) (hC k self ih) (Loops.all (n := 0) (by kernel_rfl) trivial) (lt := t4) (den := e4 k self) (by kernel_rfl) (N := (Int × Rows × Int × Row)) (A := Int) (R := (Bool ⊕ Unit))
 (fun n x => a4 n.1 n.2.1 n.2.2.1 n.2.2.2 x) (fun n r => Sum.elim (o4_0 n.1 n.2.1 n.2.2.1 n.2.2.2) (o4_1 n.1 n.2.1 n.2.2.1 n.2.2.2) r) (fun n x => s4 k self n.1 n.2.1 n.2.2.1 n.2.2.2 x) k (fun d => ((aI (aN d.a 0)), (aR (aN d.a 2)), (aI (aN d.a 3)), (d.r.getD 0 []))) (fun d => (aI (aN d.a 4))) (fun d y h => out2_eval h) (fun d => by kernel_rfl) (fun n x => by kernel_rfl) (fun n r => by rcases r with r | r <;> exact ⟨_, rfl⟩)
theorem l10 (k : Nat) (self : Row → Int → T Bool) (ih : FunOk Tryz.prog 96 (F self)) : LoopOk Tryz.prog (S k self) (lp (bodyF (Go.Proofs.Tryz.f96)) 1) := loopOk_mk (C := C k self) (hC k self ih) (Loops.all (n := 0) (by kernel_rfl) trivial) (lt := t10) (den := e10 k self) (by kernel_rfl) (N := (Int × Rows × Int × Row)) (A := Int) (R := (Bool ⊕ Unit))
 (fun n x => a10 n.1 n.2.1 n.2.2.1 n.2.2.2 x) (fun n r => Sum.elim (o10_0 n.1 n.2.1 n.2.2.1 n.2.2.2) (o10_1 n.1 n.2.1 n.2.2.1 n.2.2.2) r) (fun n x => s10 k self n.1 n.2.1 n.2.2.1 n.2.2.2 x) k (fun d => ((aI (aN d.a 0)), (aR (aN d.a 2)), (aI (aN d.a 3)), (d.r.getD 0 []))) (fun d => (aI (aN d.a 4))) (fun d y h => out2_eval h) (fun d => by kernel_rfl) (fun n x => by kernel_rfl) (fun n r => by rcases r with r | r <;> exact ⟨_, rfl⟩)
theorem ok : ∀ k, FunOk Tryz.prog 96 (d k)
  | 0 => fun_zero Tryz.func96 (by kernel_rfl) (by kernel_rfl) (fun _ => rfl)
  | k + 1 => fun_mk (C := C k (f k)) (hC k (f k) (ok k)) (S := S k (f k)) Tryz.func96 (by kernel_rfl) (by kernel_rfl) (Loops.all (n := 2) (by kernel_rfl) ⟨⟨trivial, l4 k (f k) (ok k)⟩, l10 k (f k) (ok k)⟩) (fun as_ => by kernel_rfl)
end value_valid
namespace value_Size
noncomputable def F (self : Row → T Int) : Fun := mkFun [110] (fun as_ => self (vRow (vN as_ 0))) default (fun r => .int .i64 r)
noncomputable def C (k : Nat) (self : Row → T Int) : Cx := ⟨Tryz.prog, tab [(97, F self)], [], [], tab []⟩
noncomputable def t3 : LoopT := ⟨⟨34, [], [(1, .ptr 1 0), (3, .int .i64), (9, .sl 110 none), (10, .int .i64), (11, .int .i64)], [], [(1, 110)], []⟩, (fun | .exit 0 => some ⟨34, [], [(1, .ptr 1 0), (3, .int .i64)], [], [(1, 110)], []⟩ | _ => none)⟩
noncomputable def s3 (k : Nat) (self : Row → T Int) (c0 : Rows) (c1 : Int) (c2 : Row) (x : (Int × Int)) : T ((Int × Int) ⊕ Int) :=
  .test (iLt x.2 c1)
   (.test (iIn x.2 (rLen c0))
    (.bnd (self (et 110 (rAt c0 x.2))).eval default fun r0 =>
    .ret (.inl ((iAdd .i64 x.1 r0), (iAdd .i64 x.2 (1)))))
    (.fail))
   (.ret (.inr x.1))
noncomputable def a3 (c0 : Rows) (c1 : Int) (c2 : Row) (x : (Int × Int)) : Dt := ⟨[.u, .i x.1, .r c0, .i c1, .i x.2], [], [et 110 c2], []⟩
noncomputable def o3_0 (c0 : Rows) (c1 : Int) (c2 : Row) (r : Int) : X × Dt := (.exit 0, ⟨[.u, .i r], [], [(et 110 c2)], []⟩)
noncomputable def e3 (k : Nat) (self : Row → T Int) (d : Dt) : T (X × Dt) := out1 (iter (s3 k self (aR (aN d.a 2)) (aI (aN d.a 3)) (d.r.getD 0 [])) k ((aI (aN d.a 1)), (aI (aN d.a 4)))) default (o3_0 (aR (aN d.a 2)) (aI (aN d.a 3)) (d.r.getD 0 []))
noncomputable def t8 : LoopT := ⟨⟨34, [], [(3, .int .i64), (21, .sl 120 none), (22, .int .i64), (23, .int .i64)], [], [], []⟩, (fun | .exit 2 => some ⟨34, [], [(3, .int .i64)], [], [], []⟩ | _ => none)⟩
noncomputable def s8 (k : Nat) (self : Row → T Int) (c0 : Rows) (c1 : Int) (x : (Int × Int)) : T ((Int × Int) ⊕ Int) :=
  .test (iLt x.2 c1)
   (.test (iIn x.2 (rLen c0))
    (.bnd (self (eo 110 (rAt c0 x.2) 1)).eval default fun r0 =>
    .ret (.inl ((iAdd .i64 x.1 r0), (iAdd .i64 x.2 (1)))))
    (.fail))
   (.ret (.inr x.1))
noncomputable def a8 (c0 : Rows) (c1 : Int) (x : (Int × Int)) : Dt := ⟨[.i x.1, .r c0, .i c1, .i x.2], [], [], []⟩
noncomputable def o8_0 (c0 : Rows) (c1 : Int) (r : Int) : X × Dt := (.exit 2, ⟨[.i r], [], [], []⟩)
noncomputable def e8 (k : Nat) (self : Row → T Int) (d : Dt) : T (X × Dt) := out1 (iter (s8 k self (aR (aN d.a 1)) (aI (aN d.a 2))) k ((aI (aN d.a 0)), (aI (aN d.a 3)))) default (o8_0 (aR (aN d.a 1)) (aI (aN d.a 2)))
noncomputable def S (k : Nat) (self : Row → T Int) : Subs := fun n => bif Nat.beq n 3 then some (loopV Tryz.prog t3 (e3 k self)) else bif Nat.beq n 8 then some (loopV Tryz.prog t8 (e8 k self)) else none
noncomputable def f : Nat → Row → T Int
  | 0, _ => .fail
  | k + 1, a0 =>
  .bnd (iter (value_Size.s3 k (f k) (rSl a0 3) (rLen (rSl a0 3)) (et 110 a0)) k ((1), (0))) default fun r0 =>
  .bnd (iter (value_Size.s8 k (f k) (rSl a0 4) (rLen (rSl a0 4))) k (r0, (0))) default fun r1 =>
  .ret r1
noncomputable def d (k : Nat) : Fun := F (f k)
theorem hC (k : Nat) (self : Row → T Int) (ih : FunOk Tryz.prog 97 (F self)) : CxOk (C k self) := CxOk.cons (p := (97, F self)) ih (CxOk.nil)
theorem l3 (k : Nat) (self : Row → T Int) (ih : FunOk Tryz.prog 97 (F self)) : LoopOk Tryz.prog (S k self) (lp (bodyF (Go.Proofs.Tryz.f97)) 0) := loopOk_mk (C := C k self) (hC k self ih) (Loops.all (n := 0) (by kernel_rfl) trivial) (lt := t3) (den := e3 k self) (by kernel_rfl) (N := (Rows × Int × Row)) (A := (Int × Int)) (R := Int)
 (fun n x => a3 n.1 n.2.1 n.2.2 x) (fun n r => o3_0 n.1 n.2.1 n.2.2 r) (fun n x => s3 k self n.1 n.2.1 n.2.2 x) k (fun d => ((aR (aN d.a 2)), (aI (aN d.a 3)), (d.r.getD 0 []))) (fun d => ((aI (aN d.a 1)), (aI (aN d.a 4)))) (fun d y h => out1_eval h) (fun d => by kernel_rfl) (fun n x => by kernel_rfl) (fun n r => ⟨_, rfl⟩)
theorem l8 (k : Nat) (self : Row → T Int) (ih : FunOk Tryz.prog 97 (F self)) : LoopOk Tryz.prog (S k self) (lp (bodyF (Go.Proofs.Tryz.f97)) 1) := loopOk_mk (C := C k self) (hC k self ih) (Loops.all (n := 0) (by kernel_rfl) trivial) (lt := t8) (den := e8 k self) (by kernel_rfl) (N := (Rows × Int)) (A := (Int × Int)) (R := Int)
 (fun n x => a8 n.1 n.2 x) (fun n r => o8_0 n.1 n.2 r) (fun n x => s8 k self n.1 n.2 x) k (fun d => ((aR (aN d.a 1)), (aI (aN d.a 2)))) (fun d => ((aI (aN d.a 0)), (aI (aN d.a 3)))) (fun d y h => out1_eval h) (fun d => by kernel_rfl) (fun n x => by kernel_rfl) (fun n r => ⟨_, rfl⟩)
theorem ok : ∀ k, FunOk Tryz.prog 97 (d k)
  | 0 => fun_zero Tryz.func97 (by kernel_rfl) (by kernel_rfl) (fun _ => rfl)
  | k + 1 => fun_mk (C := C k (f k)) (hC k (f k) (ok k)) (S := S k (f k)) Tryz.func97 (by kernel_rfl) (by kernel_rfl) (Loops.all (n := 2) (by kernel_rfl) ⟨⟨trivial, l3 k (f k) (ok k)⟩, l8 k (f k) (ok k)⟩) (fun as_ => by kernel_rfl)
end value_Size
namespace value_Valid
noncomputable def C (k : Nat) : Cx := ⟨Tryz.prog, tab [(96, value_valid.d k), (97, value_Size.d k)], [], [], tab []⟩
noncomputable def S (k : Nat) : Subs := fun n => none
noncomputable def f (k : Nat) (a0 : Row) : T Bool :=
  .bnd (value_valid.f k (et 110 a0) (12)).eval default fun r0 =>
  .opt r0 (value_Size.f k (et 110 a0)).eval default fun r1 =>
  .ret (bIte r0 (iLe r1 (600)) false)
noncomputable def d (k : Nat) : Fun := mkFun [110] (fun as_ => f k (vRow (vN as_ 0))) default (fun r => .bool r)
theorem hC (k : Nat) : CxOk (C k) := CxOk.cons (p := (96, value_valid.d k)) (value_valid.ok k) (CxOk.cons (p := (97, value_Size.d k)) (value_Size.ok k) (CxOk.nil))
theorem ok (k : Nat) : FunOk Tryz.prog 73 (d k) := fun_mk (C := C k) (hC k) (S := S k) Tryz.func73 (by kernel_rfl) (by kernel_rfl) (Loops.all (n := 0) (by kernel_rfl) trivial) (fun as_ => by kernel_rfl)
end value_Valid
namespace internal_strconv_FormatBool
noncomputable def C (k : Nat) : Cx := ⟨Tryz.prog, tab [], [], [], tab []⟩
noncomputable def S (k : Nat) : Subs := fun n => none
noncomputable def f (k : Nat) (a0 : Bool) : T ByteArray :=
  .test a0
   (.ret (bs [116, 114, 117, 101]))
   (.ret (bs [102, 97, 108, 115, 101]))
noncomputable def d (k : Nat) : Fun := mkFun [4] (fun as_ => f k (vBool (vN as_ 0))) default (fun r => .str r)
theorem hC (k : Nat) : CxOk (C k) := CxOk.nil
theorem ok (k : Nat) : FunOk Tryz.prog 135 (d k) := fun_mk (C := C k) (hC k) (S := S k) Tryz.func135 (by kernel_rfl) (by kernel_rfl) (Loops.all (n := 0) (by kernel_rfl) trivial) (fun as_ => by kernel_rfl)
end internal_strconv_FormatBool
namespace strconv_FormatBool
noncomputable def C (k : Nat) : Cx := ⟨Tryz.prog, tab [(135, internal_strconv_FormatBool.d k)], [], [], tab []⟩
noncomputable def S (k : Nat) : Subs := fun n => none
noncomputable def f (k : Nat) (a0 : Bool) : T ByteArray :=
  .bnd (internal_strconv_FormatBool.f k a0).eval default fun r0 =>
  .ret r0
noncomputable def d (k : Nat) : Fun := mkFun [4] (fun as_ => f k (vBool (vN as_ 0))) default (fun r => .str r)
theorem hC (k : Nat) : CxOk (C k) := CxOk.cons (p := (135, internal_strconv_FormatBool.d k)) (internal_strconv_FormatBool.ok k) (CxOk.nil)
theorem ok (k : Nat) : FunOk Tryz.prog 99 (d k) := fun_mk (C := C k) (hC k) (S := S k) Tryz.func99 (by kernel_rfl) (by kernel_rfl) (Loops.all (n := 0) (by kernel_rfl) trivial) (fun as_ => by kernel_rfl)
end strconv_FormatBool
namespace strconv_Itoa
noncomputable def iR (n : Int) : Bool := decide (-9223372036854775808 ≤ n) && decide (n ≤ 9223372036854775807)
noncomputable def dgs : Nat → Nat → List UInt8
  | 0, u => [UInt8.ofNat (48 + u % 10)]
  | f + 1, u => bif Nat.blt u 10 then [UInt8.ofNat (48 + u)] else dgs f (u / 10) ++ [UInt8.ofNat (48 + u % 10)]
noncomputable def itz (n : Int) : List UInt8 := bif iLt n 0 then 45 :: dgs 24 n.natAbs else dgs 24 n.toNat
noncomputable def f (k : Nat) (a0 : Int) : T ByteArray :=
  .test (iR a0) (.ret ⟨(itz a0).toArray⟩) (.fail)
noncomputable def d (k : Nat) : Fun := mkFun [3] (fun as_ => f k (vInt (vN as_ 0))) default (fun r => .str r)
theorem tab_is {w : World} (h : GOk w (fun _ => False)) : Lib.TabIs Tryz.prog w "internal/strconv.uint64pow10" .u64 Lib.pow10Tab := by
  obtain ⟨⟨t, fz, h1⟩, _⟩ := h _ (List.mem_cons_self ..)
  have hg : Tryz.prog.globalNamed "internal/strconv.uint64pow10" = some 0 := by kernel_rfl
  unfold Lib.TabIs World.var?
  rw [hg]
  show (match w.heap[0]? with | some (Obj.cells cs _ _) => some cs | _ => none) = _
  rw [show w.heap[0]? = _ from h1]
  kernel_rfl
theorem dgs_eq : ∀ (f u : Nat), u < 10 ^ (f + 1) → dgs f u = Lib.decDigits u
  | 0, u, h => by
    have h : u < 10 := by simpa using h
    rw [Lib.decDigits, dif_pos h]
    show [UInt8.ofNat (48 + u % 10)] = _
    rw [Nat.mod_eq_of_lt h]
  | f + 1, u, h => by
    rw [Lib.decDigits]
    show (bif Nat.blt u 10 then [UInt8.ofNat (48 + u)] else dgs f (u / 10) ++ [UInt8.ofNat (48 + u % 10)]) = _
    by_cases h1 : u < 10
    · rw [dif_pos h1]
      have : Nat.blt u 10 = true := Nat.ble_eq_true_of_le h1
      rw [this]; rfl
    · rw [dif_neg h1]
      have : Nat.blt u 10 = false := by
        cases hb : Nat.blt u 10 with
        | false => rfl
        | true => exact absurd (Nat.le_of_ble_eq_true hb) h1
      rw [this, ← dgs_eq f (u / 10) (by rw [Nat.pow_succ] at h; omega)]
      rfl
theorem itz_eq (n : Int) (h0 : -9223372036854775808 ≤ n) (h1 : n ≤ 9223372036854775807) : Lib.itoa n = itz n := by
  unfold Lib.itoa itz
  by_cases h : n < 0
  · have e : iLt n 0 = true := decide_eq_true h
    rw [if_pos h, e, ← dgs_eq 24 n.natAbs (by omega)]; rfl
  · have e : iLt n 0 = false := decide_eq_false h
    rw [if_neg h, e, ← dgs_eq 24 n.toNat (by omega)]; rfl
/-- strconv.Itoa. -/
theorem ok (k : Nat) : FunOk Tryz.prog 55 (d k) := by
  refine ⟨⟨_, Tryz.func55, by kernel_rfl, by kernel_rfl⟩, fun w Fz hF hG args xs ys r hsz hn hrep hr => ?_⟩
  obtain ⟨h1, h2⟩ := normAs_get hn
  match ys, h1 with
  | [y], _ =>
    obtain ⟨x, hx⟩ := h2 0 (.t 3) y rfl rfl
    have hu : Tryz.prog.underlying 3 = some (.int .i64) := by kernel_rfl
    have hy : ∃ n, y = .int .i64 n := by
      have hx' : normA Tryz.prog 3 x = some y := hx
      unfold normA at hx'
      rw [hu] at hx'
      simp only [] at hx'
      unfold norm1 at hx'
      rw [hu] at hx'
      cases x <;> simp at hx'
      all_goals first | (obtain ⟨_, rfl⟩ := hx'; exact ⟨_, rfl⟩) | (rw [cond_eq_ite] at hx'; split at hx' <;> first | (cases hx'; done) | (injection hx' with hx'; exact ⟨_, hx'.symm⟩))
    obtain ⟨n, rfl⟩ := hy
    have hr' : ((f k n).eval.bind fun q => some (V.str q)) = some r := hr
    obtain ⟨q, hq, hqr⟩ := Option.bind_eq_some_iff.1 hr'
    injection hqr with hqr
    obtain ⟨hi, hq⟩ := T.test_eval hq
    simp [T.eval] at hq
    have hi := Bool.and_eq_true_iff.1 hi
    match args, hsz with
    | ⟨[v]⟩, _ =>
      have ev := rep_int_inv (hrep 0 _ rfl)
      simp at ev
      subst ev
      refine (Any.strconv_Itoa lay_itoa n (of_decide_eq_true hi.1) (of_decide_eq_true hi.2) w (tab_is hG)).mono ?_
      rintro e w' ⟨rfl, m, os, rfl⟩
      have hb : RowKit.Below w.heap.size w (Go.Sort.grow (w.drewN m) os) := ⟨rfl, rfl, rfl, by show w.heap.size ≤ (w.heap ++ os).size; simp, fun j hj => by show (w.heap ++ os)[j]? = _; rw [Array.getElem?_append_left hj]⟩
      refine ⟨_, Fz, rfl, hb, fun _ _ h => h, fun _ _ h => .inl h, fun b o h => Nat.lt_of_lt_of_le (hF b o h) hb.size, ?_⟩
      rw [← hqr, ← hq, itz_eq n (of_decide_eq_true hi.1) (of_decide_eq_true hi.2)]
      exact .str _
end strconv_Itoa
namespace law47_heavy
noncomputable def C (k : Nat) : Cx := ⟨Tryz.prog, tab [], [], [], tab []⟩
noncomputable def t2 : LoopT := ⟨⟨72, [], [(1, .sl 61 none), (2, .ptr 2 0), (5, .int .i64)], [], [(2, 41)], []⟩, (fun | .ret => some ⟨72, [], [(4, .bool)], [], [], []⟩ | .exit 0 => some ⟨72, [], [(1, .sl 61 none), (2, .ptr 2 0)], [], [(2, 41)], []⟩ | _ => none)⟩
noncomputable def s2 (k : Nat) (c0 : Rows) (c1 : Row) (x : Int) : T (Int ⊕ (Bool ⊕ Unit)) :=
  .test (iLt x (rLen c0))
   (.test (iIn x (rLen c0))
    (.test (bImp (bNot (iLt (30) (rLen (rSl (rAt c0 x) 9)))) (iIn x (rLen c0)))
     (.test (bIte (iLt (30) (rLen (rSl (rAt c0 x) 9))) true (iLt (30) (rLen (rSl (rAt c0 x) 10))))
      (.ret (.inr (.inl true)))
      (.ret (.inl (iAdd .i64 x (1)))))
     (.fail))
    (.fail))
   (.ret (.inr (.inr ())))
noncomputable def a2 (c0 : Rows) (c1 : Row) (x : Int) : Dt := ⟨[.r c0, .u, .i x], [], [et 41 c1], []⟩
noncomputable def o2_0 (c0 : Rows) (c1 : Row) (r : Bool) : X × Dt := (.ret, ⟨[.b r], [], [], []⟩)
noncomputable def o2_1 (c0 : Rows) (c1 : Row) (r : Unit) : X × Dt := (.exit 0, ⟨[.r c0, .u], [], [(et 41 c1)], []⟩)
noncomputable def e2 (k : Nat) (d : Dt) : T (X × Dt) := out2 (iter (s2 k (aR (aN d.a 0)) (d.r.getD 0 [])) k (aI (aN d.a 2))) (o2_0 (aR (aN d.a 0)) (d.r.getD 0 [])) (o2_1 (aR (aN d.a 0)) (d.r.getD 0 []))
noncomputable def S (k : Nat) : Subs := fun n => bif Nat.beq n 2 then some (loopV Tryz.prog t2 (e2 k)) else none
noncomputable def f (k : Nat) (a0 : Row) (a1 : Rows) : T Bool :=
  .cas (iter (law47_heavy.s2 k a1 (et 41 a0)) k (0)) (fun r0 =>
   .ret r0) (fun r1 =>
   .ret (bIte (bIte (bIte (iLt (60) (rLen a1)) true (iLt (16) (rLen (rSl a0 18)))) true (iLt (6) (rLen (rSl a0 23)))) true (iLt (20) (iAdd .i64 (iAdd .i64 (iAdd .i64 (iAdd .i64 (rLen (rSl a0 24)) (rLen (rSl a0 25))) (rLen (rSl a0 26))) (rLen (rSl a0 27))) (rLen (rSl a0 28))))))
noncomputable def d (k : Nat) : Fun := mkFun [41, 42] (fun as_ => f k (vRow (vN as_ 0)) (vRows (vN as_ 1))) default (fun r => .bool r)
theorem hC (k : Nat) : CxOk (C k) := CxOk.nil
theorem l2 (k : Nat) : LoopOk Tryz.prog (S k) (lp (bodyF (Go.Proofs.Tryz.f8)) 0) := loopOk_mk (C := C k) (hC k) (Loops.all (n := 0) (by kernel_rfl) trivial) (lt := t2) (den := e2 k) (by kernel_rfl) (N := (Rows × Row)) (A := Int) (R := (Bool ⊕ Unit))
 (fun n x => a2 n.1 n.2 x) (fun n r => Sum.elim (o2_0 n.1 n.2) (o2_1 n.1 n.2) r) (fun n x => s2 k n.1 n.2 x) k (fun d => ((aR (aN d.a 0)), (d.r.getD 0 []))) (fun d => (aI (aN d.a 2))) (fun d y h => out2_eval h) (fun d => by kernel_rfl) (fun n x => by kernel_rfl) (fun n r => by rcases r with r | r <;> exact ⟨_, rfl⟩)
theorem ok (k : Nat) : FunOk Tryz.prog 8 (d k) := fun_mk (C := C k) (hC k) (S := S k) Tryz.func8 (by kernel_rfl) (by kernel_rfl) (Loops.all (n := 1) (by kernel_rfl) ⟨trivial, l2 k⟩) (fun as_ => by kernel_rfl)
end law47_heavy
namespace law47_small
noncomputable def C (k : Nat) : Cx := ⟨Tryz.prog, tab [], [], [], tab []⟩
noncomputable def S (k : Nat) : Subs := fun n => none
noncomputable def f (k : Nat) (a0 : Int) : T Row :=
  .ret [.str (bs [83, 116, 97, 116, 101, 102, 117, 108, 83, 101, 116]), .str (bs [110, 115]), .str (bs [100, 98]), .int .i64 (7), .int .i64 (0), .int .i64 (0), .int .i64 (0), .bool false, .int .i64 (0), .slice 89 [] .open, .slice 86 [] .open, .slice 9 [] .open, .slice 229 [] .open, .int .i64 a0, .int .i64 (0), .int .i64 (0), .bool false, .slice 168 [] .open, .slice 89 [] .open, .str ByteArray.empty, .int .i64 (0), .int .i64 (0), .int .i64 (0), .slice 164 [] .open, .slice 168 [] .open, .slice 172 [] .open, .slice 176 [] .open, .slice 180 [] .open, .slice 184 [] .open, .int .i64 (0), .int .i64 (0), .int .i64 (0), .int .i64 (0), .int .i64 (0), .int .i64 (0), .bool false]
noncomputable def d (k : Nat) : Fun := mkFun [3] (fun as_ => f k (vInt (vN as_ 0))) default (fun r => .agg (et 41 r))
theorem hC (k : Nat) : CxOk (C k) := CxOk.nil
theorem ok (k : Nat) : FunOk Tryz.prog 26 (d k) := fun_mk (C := C k) (hC k) (S := S k) Tryz.func26 (by kernel_rfl) (by kernel_rfl) (Loops.all (n := 0) (by kernel_rfl) trivial) (fun as_ => by kernel_rfl)
end law47_small
namespace ref13_digits
noncomputable def C (k : Nat) : Cx := ⟨Tryz.prog, tab [], [], [], tab []⟩
noncomputable def t2 : LoopT := ⟨⟨23, [], [(0, .int .i64), (3, .str)], [], [], []⟩, (fun | .exit 0 => some ⟨23, [], [(3, .str)], [], [], []⟩ | _ => none)⟩
noncomputable def s2 (k : Nat) (x : (Int × ByteArray)) : T ((Int × ByteArray) ⊕ ByteArray) :=
  .test (iLe (10) x.1)
   (.test (bNot (iEq (10) (0)))
    (.test (bNot (iEq (10) (0)))
     (.test (sOk (sLen (sRows [[.int .u8 (iCv .u8 (iAdd .i64 (48) (iRem (iQuo .i64 x.1 (10)) (10))))]])) (sLen x.2))
      (.ret (.inl ((iQuo .i64 x.1 (10)), (sCat (sRows [[.int .u8 (iCv .u8 (iAdd .i64 (48) (iRem (iQuo .i64 x.1 (10)) (10))))]]) x.2))))
      (.fail))
     (.fail))
    (.fail))
   (.ret (.inr x.2))
noncomputable def a2 (x : (Int × ByteArray)) : Dt := ⟨[.i x.1, .s x.2], [], [], []⟩
noncomputable def o2_0 (r : ByteArray) : X × Dt := (.exit 0, ⟨[.s r], [], [], []⟩)
noncomputable def e2 (k : Nat) (d : Dt) : T (X × Dt) := out1 (iter (s2 k) k ((aI (aN d.a 0)), (aS (aN d.a 1)))) default (o2_0)
noncomputable def S (k : Nat) : Subs := fun n => bif Nat.beq n 2 then some (loopV Tryz.prog t2 (e2 k)) else none
noncomputable def f (k : Nat) (a0 : Int) : T ByteArray :=
  .test (bNot (iEq (10) (0)))
   (.bnd (iter (ref13_digits.s2 k) k (a0, (sRows [[.int .u8 (iCv .u8 (iAdd .i64 (48) (iRem a0 (10))))]]))) default fun r0 =>
   .ret r0)
   (.fail)
noncomputable def d (k : Nat) : Fun := mkFun [3] (fun as_ => f k (vInt (vN as_ 0))) default (fun r => .str r)
theorem hC (k : Nat) : CxOk (C k) := CxOk.nil
theorem l2 (k : Nat) : LoopOk Tryz.prog (S k) (lp (bodyF (Go.Proofs.Tryz.f56)) 0) := loopOk_mk (C := C k) (hC k) (Loops.all (n := 0) (by kernel_rfl) trivial) (lt := t2) (den := e2 k) (by kernel_rfl) (N := Unit) (A := (Int × ByteArray)) (R := ByteArray)
 (fun n x => a2 x) (fun n r => o2_0 r) (fun n x => s2 k x) k (fun d => ()) (fun d => ((aI (aN d.a 0)), (aS (aN d.a 1)))) (fun d y h => out1_eval h) (fun d => by kernel_rfl) (fun n x => by kernel_rfl) (fun n r => ⟨_, rfl⟩)
theorem ok (k : Nat) : FunOk Tryz.prog 56 (d k) := fun_mk (C := C k) (hC k) (S := S k) Tryz.func56 (by kernel_rfl) (by kernel_rfl) (Loops.all (n := 1) (by kernel_rfl) ⟨trivial, l2 k⟩) (fun as_ => by kernel_rfl)
end ref13_digits
namespace ref13_Child
noncomputable def C (k : Nat) : Cx := ⟨Tryz.prog, tab [(56, ref13_digits.d k)], [], [], tab []⟩
noncomputable def S (k : Nat) : Subs := fun n => none
noncomputable def f (k : Nat) (a0 : ByteArray) (a1 : Int) : T ByteArray :=
  .bnd (ref13_digits.f k (iMax a1 (0))).eval default fun r0 =>
  .test (sOk (sLen (bs [45])) (sLen r0))
   (.test (iCut (0) (iMin (sLen a0) (iSub .i64 (40) (sLen (sCat (bs [45]) r0)))) (sLen a0))
    (.test (sOk (sLen (sCut a0 (0) (iMin (sLen a0) (iSub .i64 (40) (sLen (sCat (bs [45]) r0)))))) (sLen (sCat (bs [45]) r0)))
     (.ret (sCat (sCut a0 (0) (iMin (sLen a0) (iSub .i64 (40) (sLen (sCat (bs [45]) r0))))) (sCat (bs [45]) r0)))
     (.fail))
    (.fail))
   (.fail)
noncomputable def d (k : Nat) : Fun := mkFun [9, 3] (fun as_ => f k (vStr (vN as_ 0)) (vInt (vN as_ 1))) default (fun r => .str r)
theorem hC (k : Nat) : CxOk (C k) := CxOk.cons (p := (56, ref13_digits.d k)) (ref13_digits.ok k) (CxOk.nil)
theorem ok (k : Nat) : FunOk Tryz.prog 34 (d k) := fun_mk (C := C k) (hC k) (S := S k) Tryz.func34 (by kernel_rfl) (by kernel_rfl) (Loops.all (n := 0) (by kernel_rfl) trivial) (fun as_ => by kernel_rfl)
end ref13_Child
namespace ref19_str
noncomputable def C (k : Nat) : Cx := ⟨Tryz.prog, tab [], [], [], tab []⟩
noncomputable def S (k : Nat) : Subs := fun n => none
noncomputable def f (k : Nat) (a0 : ByteArray) : T Row :=
  .ret [.int .i64 (3), .int .i64 (0), .str a0, .slice 110 [] .open, .slice 120 [] .open]
noncomputable def d (k : Nat) : Fun := mkFun [9] (fun as_ => f k (vStr (vN as_ 0))) default (fun r => .agg (et 110 r))
theorem hC (k : Nat) : CxOk (C k) := CxOk.nil
theorem ok (k : Nat) : FunOk Tryz.prog 87 (d k) := fun_mk (C := C k) (hC k) (S := S k) Tryz.func87 (by kernel_rfl) (by kernel_rfl) (Loops.all (n := 0) (by kernel_rfl) trivial) (fun as_ => by kernel_rfl)
end ref19_str
namespace ref19_at
noncomputable def C (k : Nat) : Cx := ⟨Tryz.prog, tab [], [], [], tab []⟩
noncomputable def S (k : Nat) : Subs := fun n => none
noncomputable def f (k : Nat) (a0 : ByteArray) (a1 : Row) : T Row :=
  .ret (rJ [[.str a0], (et 110 a1)])
noncomputable def d (k : Nat) : Fun := mkFun [9, 110] (fun as_ => f k (vStr (vN as_ 0)) (vRow (vN as_ 1))) default (fun r => .agg (et 120 r))
theorem hC (k : Nat) : CxOk (C k) := CxOk.nil
theorem ok (k : Nat) : FunOk Tryz.prog 70 (d k) := fun_mk (C := C k) (hC k) (S := S k) Tryz.func70 (by kernel_rfl) (by kernel_rfl) (Loops.all (n := 0) (by kernel_rfl) trivial) (fun as_ => by kernel_rfl)
end ref19_at
namespace ref19_object
noncomputable def C (k : Nat) : Cx := ⟨Tryz.prog, tab [], [], [], tab []⟩
noncomputable def S (k : Nat) : Subs := fun n => none
noncomputable def f (k : Nat) (a0 : Rows) : T Row :=
  .ret [.int .i64 (5), .int .i64 (0), .str ByteArray.empty, .slice 110 [] .open, .slice 120 a0 .open]
noncomputable def d (k : Nat) : Fun := mkFun [108] (fun as_ => f k (vRows (vN as_ 0))) default (fun r => .agg (et 110 r))
theorem hC (k : Nat) : CxOk (C k) := CxOk.nil
theorem ok (k : Nat) : FunOk Tryz.prog 69 (d k) := fun_mk (C := C k) (hC k) (S := S k) Tryz.func69 (by kernel_rfl) (by kernel_rfl) (Loops.all (n := 0) (by kernel_rfl) trivial) (fun as_ => by kernel_rfl)
end ref19_object
namespace ref19_list
noncomputable def C (k : Nat) : Cx := ⟨Tryz.prog, tab [], [], [], tab []⟩
noncomputable def S (k : Nat) : Subs := fun n => none
noncomputable def f (k : Nat) (a0 : Rows) : T Row :=
  .ret [.int .i64 (4), .int .i64 (0), .str ByteArray.empty, .slice 110 a0 .open, .slice 120 [] .open]
noncomputable def d (k : Nat) : Fun := mkFun [107] (fun as_ => f k (vRows (vN as_ 0))) default (fun r => .agg (et 110 r))
theorem hC (k : Nat) : CxOk (C k) := CxOk.nil
theorem ok (k : Nat) : FunOk Tryz.prog 88 (d k) := fun_mk (C := C k) (hC k) (S := S k) Tryz.func88 (by kernel_rfl) (by kernel_rfl) (Loops.all (n := 0) (by kernel_rfl) trivial) (fun as_ => by kernel_rfl)
end ref19_list
namespace ref19_fromLabels
noncomputable def C (k : Nat) : Cx := ⟨Tryz.prog, tab [(87, ref19_str.d k), (70, ref19_at.d k), (69, ref19_object.d k), (88, ref19_list.d k)], [], [], tab []⟩
noncomputable def t3 : LoopT := ⟨⟨32, [.tmp 3 29 110], [(0, .sl 89 none), (2, .ptr 2 0), (3, .sl 110 (some 29)), (4, .int .i64)], [], [(2, 110)], []⟩, (fun | .exit 0 => some ⟨32, [], [(2, .ptr 2 0), (3, .sl 110 (some 29))], [], [(2, 110)], []⟩ | _ => none)⟩
noncomputable def s3 (k : Nat) (c0 : Rows) (c1 : Row) (x : (Rows × Int)) : T ((Rows × Int) ⊕ Rows) :=
  .test (iLt x.2 (rLen c0))
   (.test (iIn x.2 (rLen c0))
    (.bnd (ref19_str.f k (rStr (rAt c0 x.2) 0)).eval default fun r0 =>
    .bnd (ref19_at.f k (bs [107, 101, 121]) (et 110 r0)).eval default fun r1 =>
    .test (iIn x.2 (rLen c0))
     (.bnd (ref19_str.f k (rStr (rAt c0 x.2) 1)).eval default fun r2 =>
     .bnd (ref19_at.f k (bs [118, 97, 108, 117, 101]) (et 110 r2)).eval default fun r3 =>
     .bnd (ref19_object.f k [(et 120 r1), (et 120 r3)]).eval default fun r4 =>
     .test (rOk 80 (rLen x.1) (rLen [(et 110 r4)]))
      (.ret (.inl ((rCat x.1 [(et 110 r4)]), (iAdd .i64 x.2 (1)))))
      (.fail))
     (.fail))
    (.fail))
   (.ret (.inr x.1))
noncomputable def a3 (c0 : Rows) (c1 : Row) (x : (Rows × Int)) : Dt := ⟨[.r c0, .u, .r x.1, .i x.2], [], [et 110 c1], []⟩
noncomputable def o3_0 (c0 : Rows) (c1 : Row) (r : Rows) : X × Dt := (.exit 0, ⟨[.u, .r r], [], [(et 110 c1)], []⟩)
noncomputable def e3 (k : Nat) (d : Dt) : T (X × Dt) := out1 (iter (s3 k (aR (aN d.a 0)) (d.r.getD 0 [])) k ((aR (aN d.a 2)), (aI (aN d.a 3)))) default (o3_0 (aR (aN d.a 0)) (d.r.getD 0 []))
noncomputable def S (k : Nat) : Subs := fun n => bif Nat.beq n 3 then some (loopV Tryz.prog t3 (e3 k)) else none
noncomputable def f (k : Nat) (a0 : Rows) : T Row :=
  .bnd (iter (ref19_fromLabels.s3 k a0 [.int .i64 (0), .int .i64 (0), .str ByteArray.empty, .slice 110 [] .open, .slice 120 [] .open]) k ([], (0))) default fun r0 =>
  .bnd (ref19_list.f k r0).eval default fun r1 =>
  .ret (et 110 r1)
noncomputable def d (k : Nat) : Fun := mkFun [22] (fun as_ => f k (vRows (vN as_ 0))) default (fun r => .agg (et 110 r))
theorem hC (k : Nat) : CxOk (C k) := CxOk.cons (p := (87, ref19_str.d k)) (ref19_str.ok k) (CxOk.cons (p := (70, ref19_at.d k)) (ref19_at.ok k) (CxOk.cons (p := (69, ref19_object.d k)) (ref19_object.ok k) (CxOk.cons (p := (88, ref19_list.d k)) (ref19_list.ok k) (CxOk.nil))))
theorem l3 (k : Nat) : LoopOk Tryz.prog (S k) (lp (bodyF (Go.Proofs.Tryz.f71)) 0) := loopOk_mk (C := C k) (hC k) (Loops.all (n := 0) (by kernel_rfl) trivial) (lt := t3) (den := e3 k) (by kernel_rfl) (N := (Rows × Row)) (A := (Rows × Int)) (R := Rows)
 (fun n x => a3 n.1 n.2 x) (fun n r => o3_0 n.1 n.2 r) (fun n x => s3 k n.1 n.2 x) k (fun d => ((aR (aN d.a 0)), (d.r.getD 0 []))) (fun d => ((aR (aN d.a 2)), (aI (aN d.a 3)))) (fun d y h => out1_eval h) (fun d => by kernel_rfl) (fun n x => by kernel_rfl) (fun n r => ⟨_, rfl⟩)
theorem ok (k : Nat) : FunOk Tryz.prog 71 (d k) := fun_mk (C := C k) (hC k) (S := S k) Tryz.func71 (by kernel_rfl) (by kernel_rfl) (Loops.all (n := 1) (by kernel_rfl) ⟨trivial, l3 k⟩) (fun as_ => by kernel_rfl)
end ref19_fromLabels
namespace ref19_num
noncomputable def C (k : Nat) : Cx := ⟨Tryz.prog, tab [], [], [], tab []⟩
noncomputable def S (k : Nat) : Subs := fun n => none
noncomputable def f (k : Nat) (a0 : Int) : T Row :=
  .ret [.int .i64 (2), .int .i64 a0, .str ByteArray.empty, .slice 110 [] .open, .slice 120 [] .open]
noncomputable def d (k : Nat) : Fun := mkFun [3] (fun as_ => f k (vInt (vN as_ 0))) default (fun r => .agg (et 110 r))
theorem hC (k : Nat) : CxOk (C k) := CxOk.nil
theorem ok (k : Nat) : FunOk Tryz.prog 90 (d k) := fun_mk (C := C k) (hC k) (S := S k) Tryz.func90 (by kernel_rfl) (by kernel_rfl) (Loops.all (n := 0) (by kernel_rfl) trivial) (fun as_ => by kernel_rfl)
end ref19_num
namespace ref19_fromResources
noncomputable def C (k : Nat) : Cx := ⟨Tryz.prog, tab [(90, ref19_num.d k), (70, ref19_at.d k), (69, ref19_object.d k)], [], [], tab []⟩
noncomputable def S (k : Nat) : Subs := fun n => none
noncomputable def f (k : Nat) (a0 : Row) : T Row :=
  .bnd (ref19_num.f k (rInt a0 0)).eval default fun r0 =>
  .bnd (ref19_at.f k (bs [99, 112, 117]) (et 110 r0)).eval default fun r1 =>
  .bnd (ref19_num.f k (rInt a0 2)).eval default fun r2 =>
  .bnd (ref19_at.f k (bs [100, 105, 115, 107]) (et 110 r2)).eval default fun r3 =>
  .bnd (ref19_num.f k (rInt a0 1)).eval default fun r4 =>
  .bnd (ref19_at.f k (bs [109, 101, 109, 111, 114, 121]) (et 110 r4)).eval default fun r5 =>
  .bnd (ref19_object.f k [(et 120 r1), (et 120 r3), (et 120 r5)]).eval default fun r6 =>
  .ret (et 110 r6)
noncomputable def d (k : Nat) : Fun := mkFun [161] (fun as_ => f k (vRow (vN as_ 0))) default (fun r => .agg (et 110 r))
theorem hC (k : Nat) : CxOk (C k) := CxOk.cons (p := (90, ref19_num.d k)) (ref19_num.ok k) (CxOk.cons (p := (70, ref19_at.d k)) (ref19_at.ok k) (CxOk.cons (p := (69, ref19_object.d k)) (ref19_object.ok k) (CxOk.nil)))
theorem ok (k : Nat) : FunOk Tryz.prog 128 (d k) := fun_mk (C := C k) (hC k) (S := S k) Tryz.func128 (by kernel_rfl) (by kernel_rfl) (Loops.all (n := 0) (by kernel_rfl) trivial) (fun as_ => by kernel_rfl)
end ref19_fromResources
namespace ref19_fromProbes
noncomputable def C (k : Nat) : Cx := ⟨Tryz.prog, tab [(90, ref19_num.d k), (70, ref19_at.d k), (69, ref19_object.d k), (88, ref19_list.d k)], [], [], tab []⟩
noncomputable def t3 : LoopT := ⟨⟨46, [.tmp 3 43 110], [(0, .sl 201 none), (2, .ptr 2 0), (3, .sl 110 (some 43)), (4, .int .i64)], [], [(2, 110)], []⟩, (fun | .exit 0 => some ⟨46, [], [(2, .ptr 2 0), (3, .sl 110 (some 43))], [], [(2, 110)], []⟩ | _ => none)⟩
noncomputable def s3 (k : Nat) (c0 : Rows) (c1 : Row) (x : (Rows × Int)) : T ((Rows × Int) ⊕ Rows) :=
  .test (iLt x.2 (rLen c0))
   (.test (iIn x.2 (rLen c0))
    (.bnd (ref19_num.f k (rInt (rAt c0 x.2) 0)).eval default fun r0 =>
    .bnd (ref19_at.f k (bs [100, 101, 108, 97, 121]) (et 110 r0)).eval default fun r1 =>
    .test (iIn x.2 (rLen c0))
     (.bnd (ref19_num.f k (rInt (rAt c0 x.2) 3)).eval default fun r2 =>
     .bnd (ref19_at.f k (bs [102, 97, 105, 108, 117, 114, 101]) (et 110 r2)).eval default fun r3 =>
     .test (iIn x.2 (rLen c0))
      (.bnd (ref19_num.f k (rInt (rAt c0 x.2) 1)).eval default fun r4 =>
      .bnd (ref19_at.f k (bs [112, 101, 114, 105, 111, 100]) (et 110 r4)).eval default fun r5 =>
      .test (iIn x.2 (rLen c0))
       (.bnd (ref19_num.f k (rInt (rAt c0 x.2) 2)).eval default fun r6 =>
       .bnd (ref19_at.f k (bs [115, 117, 99, 99, 101, 115, 115]) (et 110 r6)).eval default fun r7 =>
       .bnd (ref19_object.f k [(et 120 r1), (et 120 r3), (et 120 r5), (et 120 r7)]).eval default fun r8 =>
       .test (rOk 80 (rLen x.1) (rLen [(et 110 r8)]))
        (.ret (.inl ((rCat x.1 [(et 110 r8)]), (iAdd .i64 x.2 (1)))))
        (.fail))
       (.fail))
      (.fail))
     (.fail))
    (.fail))
   (.ret (.inr x.1))
noncomputable def a3 (c0 : Rows) (c1 : Row) (x : (Rows × Int)) : Dt := ⟨[.r c0, .u, .r x.1, .i x.2], [], [et 110 c1], []⟩
noncomputable def o3_0 (c0 : Rows) (c1 : Row) (r : Rows) : X × Dt := (.exit 0, ⟨[.u, .r r], [], [(et 110 c1)], []⟩)
noncomputable def e3 (k : Nat) (d : Dt) : T (X × Dt) := out1 (iter (s3 k (aR (aN d.a 0)) (d.r.getD 0 [])) k ((aR (aN d.a 2)), (aI (aN d.a 3)))) default (o3_0 (aR (aN d.a 0)) (d.r.getD 0 []))
noncomputable def S (k : Nat) : Subs := fun n => bif Nat.beq n 3 then some (loopV Tryz.prog t3 (e3 k)) else none
noncomputable def f (k : Nat) (a0 : Rows) : T Row :=
  .bnd (iter (ref19_fromProbes.s3 k a0 [.int .i64 (0), .int .i64 (0), .str ByteArray.empty, .slice 110 [] .open, .slice 120 [] .open]) k ([], (0))) default fun r0 =>
  .bnd (ref19_list.f k r0).eval default fun r1 =>
  .ret (et 110 r1)
noncomputable def d (k : Nat) : Fun := mkFun [162] (fun as_ => f k (vRows (vN as_ 0))) default (fun r => .agg (et 110 r))
theorem hC (k : Nat) : CxOk (C k) := CxOk.cons (p := (90, ref19_num.d k)) (ref19_num.ok k) (CxOk.cons (p := (70, ref19_at.d k)) (ref19_at.ok k) (CxOk.cons (p := (69, ref19_object.d k)) (ref19_object.ok k) (CxOk.cons (p := (88, ref19_list.d k)) (ref19_list.ok k) (CxOk.nil))))
theorem l3 (k : Nat) : LoopOk Tryz.prog (S k) (lp (bodyF (Go.Proofs.Tryz.f129)) 0) := loopOk_mk (C := C k) (hC k) (Loops.all (n := 0) (by kernel_rfl) trivial) (lt := t3) (den := e3 k) (by kernel_rfl) (N := (Rows × Row)) (A := (Rows × Int)) (R := Rows)
 (fun n x => a3 n.1 n.2 x) (fun n r => o3_0 n.1 n.2 r) (fun n x => s3 k n.1 n.2 x) k (fun d => ((aR (aN d.a 0)), (d.r.getD 0 []))) (fun d => ((aR (aN d.a 2)), (aI (aN d.a 3)))) (fun d y h => out1_eval h) (fun d => by kernel_rfl) (fun n x => by kernel_rfl) (fun n r => ⟨_, rfl⟩)
theorem ok (k : Nat) : FunOk Tryz.prog 129 (d k) := fun_mk (C := C k) (hC k) (S := S k) Tryz.func129 (by kernel_rfl) (by kernel_rfl) (Loops.all (n := 1) (by kernel_rfl) ⟨trivial, l3 k⟩) (fun as_ => by kernel_rfl)
end ref19_fromProbes
namespace ref19_fromContainers
noncomputable def C (k : Nat) : Cx := ⟨Tryz.prog, tab [(87, ref19_str.d k), (70, ref19_at.d k), (128, ref19_fromResources.d k), (129, ref19_fromProbes.d k), (69, ref19_object.d k), (88, ref19_list.d k)], [], [], tab []⟩
noncomputable def t3 : LoopT := ⟨⟨51, [.tmp 3 48 110], [(0, .sl 164 none), (2, .ptr 2 0), (3, .sl 110 (some 48)), (4, .int .i64)], [], [(2, 110)], []⟩, (fun | .exit 0 => some ⟨51, [], [(2, .ptr 2 0), (3, .sl 110 (some 48))], [], [(2, 110)], []⟩ | _ => none)⟩
noncomputable def s3 (k : Nat) (c0 : Rows) (c1 : Row) (x : (Rows × Int)) : T ((Rows × Int) ⊕ Rows) :=
  .test (iLt x.2 (rLen c0))
   (.test (iIn x.2 (rLen c0))
    (.bnd (ref19_str.f k (rStr (rAt c0 x.2) 1)).eval default fun r0 =>
    .bnd (ref19_at.f k (bs [105, 109, 97, 103, 101]) (et 110 r0)).eval default fun r1 =>
    .bnd (ref19_fromResources.f k (eo 161 (rAt c0 x.2) 5)).eval default fun r2 =>
    .bnd (ref19_at.f k (bs [108, 105, 109, 105, 116]) (et 110 r2)).eval default fun r3 =>
    .bnd (ref19_fromProbes.f k (rSl (rAt c0 x.2) 8)).eval default fun r4 =>
    .bnd (ref19_at.f k (bs [108, 105, 118, 101]) (et 110 r4)).eval default fun r5 =>
    .bnd (ref19_str.f k (rStr (rAt c0 x.2) 0)).eval default fun r6 =>
    .bnd (ref19_at.f k (bs [110, 97, 109, 101]) (et 110 r6)).eval default fun r7 =>
    .bnd (ref19_fromProbes.f k (rSl (rAt c0 x.2) 9)).eval default fun r8 =>
    .bnd (ref19_at.f k (bs [114, 101, 97, 100, 121]) (et 110 r8)).eval default fun r9 =>
    .bnd (ref19_fromResources.f k (eo 161 (rAt c0 x.2) 2)).eval default fun r10 =>
    .bnd (ref19_at.f k (bs [114, 101, 113, 117, 101, 115, 116]) (et 110 r10)).eval default fun r11 =>
    .bnd (ref19_fromProbes.f k (rSl (rAt c0 x.2) 10)).eval default fun r12 =>
    .bnd (ref19_at.f k (bs [115, 116, 97, 114, 116, 117, 112]) (et 110 r12)).eval default fun r13 =>
    .bnd (ref19_object.f k [(et 120 r1), (et 120 r3), (et 120 r5), (et 120 r7), (et 120 r9), (et 120 r11), (et 120 r13)]).eval default fun r14 =>
    .test (rOk 80 (rLen x.1) (rLen [(et 110 r14)]))
     (.ret (.inl ((rCat x.1 [(et 110 r14)]), (iAdd .i64 x.2 (1)))))
     (.fail))
    (.fail))
   (.ret (.inr x.1))
noncomputable def a3 (c0 : Rows) (c1 : Row) (x : (Rows × Int)) : Dt := ⟨[.r c0, .u, .r x.1, .i x.2], [], [et 110 c1], []⟩
noncomputable def o3_0 (c0 : Rows) (c1 : Row) (r : Rows) : X × Dt := (.exit 0, ⟨[.u, .r r], [], [(et 110 c1)], []⟩)
noncomputable def e3 (k : Nat) (d : Dt) : T (X × Dt) := out1 (iter (s3 k (aR (aN d.a 0)) (d.r.getD 0 [])) k ((aR (aN d.a 2)), (aI (aN d.a 3)))) default (o3_0 (aR (aN d.a 0)) (d.r.getD 0 []))
noncomputable def S (k : Nat) : Subs := fun n => bif Nat.beq n 3 then some (loopV Tryz.prog t3 (e3 k)) else none
noncomputable def f (k : Nat) (a0 : Rows) : T Row :=
  .bnd (iter (ref19_fromContainers.s3 k a0 [.int .i64 (0), .int .i64 (0), .str ByteArray.empty, .slice 110 [] .open, .slice 120 [] .open]) k ([], (0))) default fun r0 =>
  .bnd (ref19_list.f k r0).eval default fun r1 =>
  .ret (et 110 r1)
noncomputable def d (k : Nat) : Fun := mkFun [29] (fun as_ => f k (vRows (vN as_ 0))) default (fun r => .agg (et 110 r))
theorem hC (k : Nat) : CxOk (C k) := CxOk.cons (p := (87, ref19_str.d k)) (ref19_str.ok k) (CxOk.cons (p := (70, ref19_at.d k)) (ref19_at.ok k) (CxOk.cons (p := (128, ref19_fromResources.d k)) (ref19_fromResources.ok k) (CxOk.cons (p := (129, ref19_fromProbes.d k)) (ref19_fromProbes.ok k) (CxOk.cons (p := (69, ref19_object.d k)) (ref19_object.ok k) (CxOk.cons (p := (88, ref19_list.d k)) (ref19_list.ok k) (CxOk.nil))))))
theorem l3 (k : Nat) : LoopOk Tryz.prog (S k) (lp (bodyF (Go.Proofs.Tryz.f89)) 0) := loopOk_mk (C := C k) (hC k) (Loops.all (n := 0) (by kernel_rfl) trivial) (lt := t3) (den := e3 k) (by kernel_rfl) (N := (Rows × Row)) (A := (Rows × Int)) (R := Rows)
 (fun n x => a3 n.1 n.2 x) (fun n r => o3_0 n.1 n.2 r) (fun n x => s3 k n.1 n.2 x) k (fun d => ((aR (aN d.a 0)), (d.r.getD 0 []))) (fun d => ((aR (aN d.a 2)), (aI (aN d.a 3)))) (fun d y h => out1_eval h) (fun d => by kernel_rfl) (fun n x => by kernel_rfl) (fun n r => ⟨_, rfl⟩)
theorem ok (k : Nat) : FunOk Tryz.prog 89 (d k) := fun_mk (C := C k) (hC k) (S := S k) Tryz.func89 (by kernel_rfl) (by kernel_rfl) (Loops.all (n := 1) (by kernel_rfl) ⟨trivial, l3 k⟩) (fun as_ => by kernel_rfl)
end ref19_fromContainers
namespace ref19_FromStrings
noncomputable def C (k : Nat) : Cx := ⟨Tryz.prog, tab [(87, ref19_str.d k), (88, ref19_list.d k)], [], [], tab []⟩
noncomputable def t3 : LoopT := ⟨⟨21, [.tmp 3 18 110], [(0, .sl 9 none), (2, .ptr 2 0), (3, .sl 110 (some 18)), (4, .int .i64)], [], [(2, 110)], []⟩, (fun | .exit 0 => some ⟨21, [], [(2, .ptr 2 0), (3, .sl 110 (some 18))], [], [(2, 110)], []⟩ | _ => none)⟩
noncomputable def s3 (k : Nat) (c0 : Rows) (c1 : Row) (x : (Rows × Int)) : T ((Rows × Int) ⊕ Rows) :=
  .test (iLt x.2 (rLen c0))
   (.test (iIn x.2 (rLen c0))
    (.bnd (ref19_str.f k (rStr (rAt c0 x.2) 0)).eval default fun r0 =>
    .test (rOk 80 (rLen x.1) (rLen [(et 110 r0)]))
     (.ret (.inl ((rCat x.1 [(et 110 r0)]), (iAdd .i64 x.2 (1)))))
     (.fail))
    (.fail))
   (.ret (.inr x.1))
noncomputable def a3 (c0 : Rows) (c1 : Row) (x : (Rows × Int)) : Dt := ⟨[.r c0, .u, .r x.1, .i x.2], [], [et 110 c1], []⟩
noncomputable def o3_0 (c0 : Rows) (c1 : Row) (r : Rows) : X × Dt := (.exit 0, ⟨[.u, .r r], [], [(et 110 c1)], []⟩)
noncomputable def e3 (k : Nat) (d : Dt) : T (X × Dt) := out1 (iter (s3 k (aR (aN d.a 0)) (d.r.getD 0 [])) k ((aR (aN d.a 2)), (aI (aN d.a 3)))) default (o3_0 (aR (aN d.a 0)) (d.r.getD 0 []))
noncomputable def S (k : Nat) : Subs := fun n => bif Nat.beq n 3 then some (loopV Tryz.prog t3 (e3 k)) else none
noncomputable def f (k : Nat) (a0 : Rows) : T Row :=
  .bnd (iter (ref19_FromStrings.s3 k a0 [.int .i64 (0), .int .i64 (0), .str ByteArray.empty, .slice 110 [] .open, .slice 120 [] .open]) k ([], (0))) default fun r0 =>
  .bnd (ref19_list.f k r0).eval default fun r1 =>
  .ret (et 110 r1)
noncomputable def d (k : Nat) : Fun := mkFun [24] (fun as_ => f k (vRows (vN as_ 0))) default (fun r => .agg (et 110 r))
theorem hC (k : Nat) : CxOk (C k) := CxOk.cons (p := (87, ref19_str.d k)) (ref19_str.ok k) (CxOk.cons (p := (88, ref19_list.d k)) (ref19_list.ok k) (CxOk.nil))
theorem l3 (k : Nat) : LoopOk Tryz.prog (S k) (lp (bodyF (Go.Proofs.Tryz.f130)) 0) := loopOk_mk (C := C k) (hC k) (Loops.all (n := 0) (by kernel_rfl) trivial) (lt := t3) (den := e3 k) (by kernel_rfl) (N := (Rows × Row)) (A := (Rows × Int)) (R := Rows)
 (fun n x => a3 n.1 n.2 x) (fun n r => o3_0 n.1 n.2 r) (fun n x => s3 k n.1 n.2 x) k (fun d => ((aR (aN d.a 0)), (d.r.getD 0 []))) (fun d => ((aR (aN d.a 2)), (aI (aN d.a 3)))) (fun d y h => out1_eval h) (fun d => by kernel_rfl) (fun n x => by kernel_rfl) (fun n r => ⟨_, rfl⟩)
theorem ok (k : Nat) : FunOk Tryz.prog 130 (d k) := fun_mk (C := C k) (hC k) (S := S k) Tryz.func130 (by kernel_rfl) (by kernel_rfl) (Loops.all (n := 1) (by kernel_rfl) ⟨trivial, l3 k⟩) (fun as_ => by kernel_rfl)
end ref19_FromStrings
namespace ref19_FromSelector
noncomputable def C (k : Nat) : Cx := ⟨Tryz.prog, tab [(87, ref19_str.d k), (70, ref19_at.d k), (90, ref19_num.d k), (130, ref19_FromStrings.d k), (69, ref19_object.d k), (88, ref19_list.d k)], [], [], tab []⟩
noncomputable def t3 : LoopT := ⟨⟨39, [.tmp 3 36 110], [(0, .sl 168 none), (2, .ptr 2 0), (3, .sl 110 (some 36)), (4, .int .i64)], [], [(2, 110)], []⟩, (fun | .exit 0 => some ⟨39, [], [(2, .ptr 2 0), (3, .sl 110 (some 36))], [], [(2, 110)], []⟩ | _ => none)⟩
noncomputable def s3 (k : Nat) (c0 : Rows) (c1 : Row) (x : (Rows × Int)) : T ((Rows × Int) ⊕ Rows) :=
  .test (iLt x.2 (rLen c0))
   (.test (iIn x.2 (rLen c0))
    (.bnd (ref19_str.f k (rStr (rAt c0 x.2) 0)).eval default fun r0 =>
    .bnd (ref19_at.f k (bs [107, 101, 121]) (et 110 r0)).eval default fun r1 =>
    .test (iIn x.2 (rLen c0))
     (.bnd (ref19_num.f k (rInt (rAt c0 x.2) 1)).eval default fun r2 =>
     .bnd (ref19_at.f k (bs [111, 112]) (et 110 r2)).eval default fun r3 =>
     .test (iIn x.2 (rLen c0))
      (.bnd (ref19_FromStrings.f k (rSl (rAt c0 x.2) 2)).eval default fun r4 =>
      .bnd (ref19_at.f k (bs [118, 97, 108, 117, 101, 115]) (et 110 r4)).eval default fun r5 =>
      .bnd (ref19_object.f k [(et 120 r1), (et 120 r3), (et 120 r5)]).eval default fun r6 =>
      .test (rOk 80 (rLen x.1) (rLen [(et 110 r6)]))
       (.ret (.inl ((rCat x.1 [(et 110 r6)]), (iAdd .i64 x.2 (1)))))
       (.fail))
      (.fail))
     (.fail))
    (.fail))
   (.ret (.inr x.1))
noncomputable def a3 (c0 : Rows) (c1 : Row) (x : (Rows × Int)) : Dt := ⟨[.r c0, .u, .r x.1, .i x.2], [], [et 110 c1], []⟩
noncomputable def o3_0 (c0 : Rows) (c1 : Row) (r : Rows) : X × Dt := (.exit 0, ⟨[.u, .r r], [], [(et 110 c1)], []⟩)
noncomputable def e3 (k : Nat) (d : Dt) : T (X × Dt) := out1 (iter (s3 k (aR (aN d.a 0)) (d.r.getD 0 [])) k ((aR (aN d.a 2)), (aI (aN d.a 3)))) default (o3_0 (aR (aN d.a 0)) (d.r.getD 0 []))
noncomputable def S (k : Nat) : Subs := fun n => bif Nat.beq n 3 then some (loopV Tryz.prog t3 (e3 k)) else none
noncomputable def f (k : Nat) (a0 : Rows) : T Row :=
  .bnd (iter (ref19_FromSelector.s3 k a0 [.int .i64 (0), .int .i64 (0), .str ByteArray.empty, .slice 110 [] .open, .slice 120 [] .open]) k ([], (0))) default fun r0 =>
  .bnd (ref19_list.f k r0).eval default fun r1 =>
  .ret (et 110 r1)
noncomputable def d (k : Nat) : Fun := mkFun [28] (fun as_ => f k (vRows (vN as_ 0))) default (fun r => .agg (et 110 r))
theorem hC (k : Nat) : CxOk (C k) := CxOk.cons (p := (87, ref19_str.d k)) (ref19_str.ok k) (CxOk.cons (p := (70, ref19_at.d k)) (ref19_at.ok k) (CxOk.cons (p := (90, ref19_num.d k)) (ref19_num.ok k) (CxOk.cons (p := (130, ref19_FromStrings.d k)) (ref19_FromStrings.ok k) (CxOk.cons (p := (69, ref19_object.d k)) (ref19_object.ok k) (CxOk.cons (p := (88, ref19_list.d k)) (ref19_list.ok k) (CxOk.nil))))))
theorem l3 (k : Nat) : LoopOk Tryz.prog (S k) (lp (bodyF (Go.Proofs.Tryz.f91)) 0) := loopOk_mk (C := C k) (hC k) (Loops.all (n := 0) (by kernel_rfl) trivial) (lt := t3) (den := e3 k) (by kernel_rfl) (N := (Rows × Row)) (A := (Rows × Int)) (R := Rows)
 (fun n x => a3 n.1 n.2 x) (fun n r => o3_0 n.1 n.2 r) (fun n x => s3 k n.1 n.2 x) k (fun d => ((aR (aN d.a 0)), (d.r.getD 0 []))) (fun d => ((aR (aN d.a 2)), (aI (aN d.a 3)))) (fun d y h => out1_eval h) (fun d => by kernel_rfl) (fun n x => by kernel_rfl) (fun n r => ⟨_, rfl⟩)
theorem ok (k : Nat) : FunOk Tryz.prog 91 (d k) := fun_mk (C := C k) (hC k) (S := S k) Tryz.func91 (by kernel_rfl) (by kernel_rfl) (Loops.all (n := 1) (by kernel_rfl) ⟨trivial, l3 k⟩) (fun as_ => by kernel_rfl)
end ref19_FromSelector
namespace ref19_truth
noncomputable def C (k : Nat) : Cx := ⟨Tryz.prog, tab [], [], [], tab []⟩
noncomputable def S (k : Nat) : Subs := fun n => none
noncomputable def f (k : Nat) (a0 : Bool) : T Row :=
  .test a0
   (.ret [.int .i64 (1), .int .i64 (1), .str ByteArray.empty, .slice 110 [] .open, .slice 120 [] .open])
   (.ret [.int .i64 (1), .int .i64 (0), .str ByteArray.empty, .slice 110 [] .open, .slice 120 [] .open])
noncomputable def d (k : Nat) : Fun := mkFun [4] (fun as_ => f k (vBool (vN as_ 0))) default (fun r => .agg (et 110 r))
theorem hC (k : Nat) : CxOk (C k) := CxOk.nil
theorem ok (k : Nat) : FunOk Tryz.prog 131 (d k) := fun_mk (C := C k) (hC k) (S := S k) Tryz.func131 (by kernel_rfl) (by kernel_rfl) (Loops.all (n := 0) (by kernel_rfl) trivial) (fun as_ => by kernel_rfl)
end ref19_truth
namespace ref19_fromNodeTerms
noncomputable def C (k : Nat) : Cx := ⟨Tryz.prog, tab [(131, ref19_truth.d k), (70, ref19_at.d k), (91, ref19_FromSelector.d k), (90, ref19_num.d k), (69, ref19_object.d k), (88, ref19_list.d k)], [], [], tab []⟩
noncomputable def t3 : LoopT := ⟨⟨39, [.tmp 3 36 110], [(0, .sl 172 none), (2, .ptr 2 0), (3, .sl 110 (some 36)), (4, .int .i64)], [], [(2, 110)], []⟩, (fun | .exit 0 => some ⟨39, [], [(2, .ptr 2 0), (3, .sl 110 (some 36))], [], [(2, 110)], []⟩ | _ => none)⟩
noncomputable def s3 (k : Nat) (c0 : Rows) (c1 : Row) (x : (Rows × Int)) : T ((Rows × Int) ⊕ Rows) :=
  .test (iLt x.2 (rLen c0))
   (.test (iIn x.2 (rLen c0))
    (.bnd (ref19_truth.f k (rBool (rAt c0 x.2) 0)).eval default fun r0 =>
    .bnd (ref19_at.f k (bs [114, 101, 113, 117, 105, 114, 101, 100]) (et 110 r0)).eval default fun r1 =>
    .test (iIn x.2 (rLen c0))
     (.bnd (ref19_FromSelector.f k (rSl (rAt c0 x.2) 1)).eval default fun r2 =>
     .bnd (ref19_at.f k (bs [115, 101, 108, 101, 99, 116, 111, 114]) (et 110 r2)).eval default fun r3 =>
     .test (iIn x.2 (rLen c0))
      (.bnd (ref19_num.f k (rInt (rAt c0 x.2) 2)).eval default fun r4 =>
      .bnd (ref19_at.f k (bs [119, 101, 105, 103, 104, 116]) (et 110 r4)).eval default fun r5 =>
      .bnd (ref19_object.f k [(et 120 r1), (et 120 r3), (et 120 r5)]).eval default fun r6 =>
      .test (rOk 80 (rLen x.1) (rLen [(et 110 r6)]))
       (.ret (.inl ((rCat x.1 [(et 110 r6)]), (iAdd .i64 x.2 (1)))))
       (.fail))
      (.fail))
     (.fail))
    (.fail))
   (.ret (.inr x.1))
noncomputable def a3 (c0 : Rows) (c1 : Row) (x : (Rows × Int)) : Dt := ⟨[.r c0, .u, .r x.1, .i x.2], [], [et 110 c1], []⟩
noncomputable def o3_0 (c0 : Rows) (c1 : Row) (r : Rows) : X × Dt := (.exit 0, ⟨[.u, .r r], [], [(et 110 c1)], []⟩)
noncomputable def e3 (k : Nat) (d : Dt) : T (X × Dt) := out1 (iter (s3 k (aR (aN d.a 0)) (d.r.getD 0 [])) k ((aR (aN d.a 2)), (aI (aN d.a 3)))) default (o3_0 (aR (aN d.a 0)) (d.r.getD 0 []))
noncomputable def S (k : Nat) : Subs := fun n => bif Nat.beq n 3 then some (loopV Tryz.prog t3 (e3 k)) else none
noncomputable def f (k : Nat) (a0 : Rows) : T Row :=
  .bnd (iter (ref19_fromNodeTerms.s3 k a0 [.int .i64 (0), .int .i64 (0), .str ByteArray.empty, .slice 110 [] .open, .slice 120 [] .open]) k ([], (0))) default fun r0 =>
  .bnd (ref19_list.f k r0).eval default fun r1 =>
  .ret (et 110 r1)
noncomputable def d (k : Nat) : Fun := mkFun [30] (fun as_ => f k (vRows (vN as_ 0))) default (fun r => .agg (et 110 r))
theorem hC (k : Nat) : CxOk (C k) := CxOk.cons (p := (131, ref19_truth.d k)) (ref19_truth.ok k) (CxOk.cons (p := (70, ref19_at.d k)) (ref19_at.ok k) (CxOk.cons (p := (91, ref19_FromSelector.d k)) (ref19_FromSelector.ok k) (CxOk.cons (p := (90, ref19_num.d k)) (ref19_num.ok k) (CxOk.cons (p := (69, ref19_object.d k)) (ref19_object.ok k) (CxOk.cons (p := (88, ref19_list.d k)) (ref19_list.ok k) (CxOk.nil))))))
theorem l3 (k : Nat) : LoopOk Tryz.prog (S k) (lp (bodyF (Go.Proofs.Tryz.f92)) 0) := loopOk_mk (C := C k) (hC k) (Loops.all (n := 0) (by kernel_rfl) trivial) (lt := t3) (den := e3 k) (by kernel_rfl) (N := (Rows × Row)) (A := (Rows × Int)) (R := Rows)
 (fun n x => a3 n.1 n.2 x) (fun n r => o3_0 n.1 n.2 r) (fun n x => s3 k n.1 n.2 x) k (fun d => ((aR (aN d.a 0)), (d.r.getD 0 []))) (fun d => ((aR (aN d.a 2)), (aI (aN d.a 3)))) (fun d y h => out1_eval h) (fun d => by kernel_rfl) (fun n x => by kernel_rfl) (fun n r => ⟨_, rfl⟩)
theorem ok (k : Nat) : FunOk Tryz.prog 92 (d k) := fun_mk (C := C k) (hC k) (S := S k) Tryz.func92 (by kernel_rfl) (by kernel_rfl) (Loops.all (n := 1) (by kernel_rfl) ⟨trivial, l3 k⟩) (fun as_ => by kernel_rfl)
end ref19_fromNodeTerms
namespace ref19_fromPodTerms
noncomputable def C (k : Nat) : Cx := ⟨Tryz.prog, tab [(131, ref19_truth.d k), (70, ref19_at.d k), (91, ref19_FromSelector.d k), (87, ref19_str.d k), (90, ref19_num.d k), (69, ref19_object.d k), (88, ref19_list.d k)], [], [], tab []⟩
noncomputable def t3 : LoopT := ⟨⟨53, [.tmp 3 50 110], [(0, .sl 176 none), (2, .ptr 2 0), (3, .sl 110 (some 50)), (4, .int .i64)], [], [(2, 110)], []⟩, (fun | .exit 0 => some ⟨53, [], [(2, .ptr 2 0), (3, .sl 110 (some 50))], [], [(2, 110)], []⟩ | _ => none)⟩
noncomputable def s3 (k : Nat) (c0 : Rows) (c1 : Row) (x : (Rows × Int)) : T ((Rows × Int) ⊕ Rows) :=
  .test (iLt x.2 (rLen c0))
   (.test (iIn x.2 (rLen c0))
    (.bnd (ref19_truth.f k (rBool (rAt c0 x.2) 1)).eval default fun r0 =>
    .bnd (ref19_at.f k (bs [97, 110, 116, 105]) (et 110 r0)).eval default fun r1 =>
    .test (iIn x.2 (rLen c0))
     (.bnd (ref19_truth.f k (rBool (rAt c0 x.2) 0)).eval default fun r2 =>
     .bnd (ref19_at.f k (bs [114, 101, 113, 117, 105, 114, 101, 100]) (et 110 r2)).eval default fun r3 =>
     .test (iIn x.2 (rLen c0))
      (.bnd (ref19_FromSelector.f k (rSl (rAt c0 x.2) 2)).eval default fun r4 =>
      .bnd (ref19_at.f k (bs [115, 101, 108, 101, 99, 116, 111, 114]) (et 110 r4)).eval default fun r5 =>
      .test (iIn x.2 (rLen c0))
       (.bnd (ref19_str.f k (rStr (rAt c0 x.2) 3)).eval default fun r6 =>
       .bnd (ref19_at.f k (bs [116, 111, 112, 111, 108, 111, 103, 121]) (et 110 r6)).eval default fun r7 =>
       .test (iIn x.2 (rLen c0))
        (.bnd (ref19_num.f k (rInt (rAt c0 x.2) 4)).eval default fun r8 =>
        .bnd (ref19_at.f k (bs [119, 101, 105, 103, 104, 116]) (et 110 r8)).eval default fun r9 =>
        .bnd (ref19_object.f k [(et 120 r1), (et 120 r3), (et 120 r5), (et 120 r7), (et 120 r9)]).eval default fun r10 =>
        .test (rOk 80 (rLen x.1) (rLen [(et 110 r10)]))
         (.ret (.inl ((rCat x.1 [(et 110 r10)]), (iAdd .i64 x.2 (1)))))
         (.fail))
        (.fail))
       (.fail))
      (.fail))
     (.fail))
    (.fail))
   (.ret (.inr x.1))
noncomputable def a3 (c0 : Rows) (c1 : Row) (x : (Rows × Int)) : Dt := ⟨[.r c0, .u, .r x.1, .i x.2], [], [et 110 c1], []⟩
noncomputable def o3_0 (c0 : Rows) (c1 : Row) (r : Rows) : X × Dt := (.exit 0, ⟨[.u, .r r], [], [(et 110 c1)], []⟩)
noncomputable def e3 (k : Nat) (d : Dt) : T (X × Dt) := out1 (iter (s3 k (aR (aN d.a 0)) (d.r.getD 0 [])) k ((aR (aN d.a 2)), (aI (aN d.a 3)))) default (o3_0 (aR (aN d.a 0)) (d.r.getD 0 []))
noncomputable def S (k : Nat) : Subs := fun n => bif Nat.beq n 3 then some (loopV Tryz.prog t3 (e3 k)) else none
noncomputable def f (k : Nat) (a0 : Rows) : T Row :=
  .bnd (iter (ref19_fromPodTerms.s3 k a0 [.int .i64 (0), .int .i64 (0), .str ByteArray.empty, .slice 110 [] .open, .slice 120 [] .open]) k ([], (0))) default fun r0 =>
  .bnd (ref19_list.f k r0).eval default fun r1 =>
  .ret (et 110 r1)
noncomputable def d (k : Nat) : Fun := mkFun [31] (fun as_ => f k (vRows (vN as_ 0))) default (fun r => .agg (et 110 r))
theorem hC (k : Nat) : CxOk (C k) := CxOk.cons (p := (131, ref19_truth.d k)) (ref19_truth.ok k) (CxOk.cons (p := (70, ref19_at.d k)) (ref19_at.ok k) (CxOk.cons (p := (91, ref19_FromSelector.d k)) (ref19_FromSelector.ok k) (CxOk.cons (p := (87, ref19_str.d k)) (ref19_str.ok k) (CxOk.cons (p := (90, ref19_num.d k)) (ref19_num.ok k) (CxOk.cons (p := (69, ref19_object.d k)) (ref19_object.ok k) (CxOk.cons (p := (88, ref19_list.d k)) (ref19_list.ok k) (CxOk.nil)))))))
theorem l3 (k : Nat) : LoopOk Tryz.prog (S k) (lp (bodyF (Go.Proofs.Tryz.f93)) 0) := loopOk_mk (C := C k) (hC k) (Loops.all (n := 0) (by kernel_rfl) trivial) (lt := t3) (den := e3 k) (by kernel_rfl) (N := (Rows × Row)) (A := (Rows × Int)) (R := Rows)
 (fun n x => a3 n.1 n.2 x) (fun n r => o3_0 n.1 n.2 r) (fun n x => s3 k n.1 n.2 x) k (fun d => ((aR (aN d.a 0)), (d.r.getD 0 []))) (fun d => ((aR (aN d.a 2)), (aI (aN d.a 3)))) (fun d y h => out1_eval h) (fun d => by kernel_rfl) (fun n x => by kernel_rfl) (fun n r => ⟨_, rfl⟩)
theorem ok (k : Nat) : FunOk Tryz.prog 93 (d k) := fun_mk (C := C k) (hC k) (S := S k) Tryz.func93 (by kernel_rfl) (by kernel_rfl) (Loops.all (n := 1) (by kernel_rfl) ⟨trivial, l3 k⟩) (fun as_ => by kernel_rfl)
end ref19_fromPodTerms
namespace ref19_fromSpread
noncomputable def C (k : Nat) : Cx := ⟨Tryz.prog, tab [(90, ref19_num.d k), (70, ref19_at.d k), (131, ref19_truth.d k), (91, ref19_FromSelector.d k), (87, ref19_str.d k), (69, ref19_object.d k), (88, ref19_list.d k)], [], [], tab []⟩
noncomputable def t3 : LoopT := ⟨⟨46, [.tmp 3 43 110], [(0, .sl 180 none), (2, .ptr 2 0), (3, .sl 110 (some 43)), (4, .int .i64)], [], [(2, 110)], []⟩, (fun | .exit 0 => some ⟨46, [], [(2, .ptr 2 0), (3, .sl 110 (some 43))], [], [(2, 110)], []⟩ | _ => none)⟩
noncomputable def s3 (k : Nat) (c0 : Rows) (c1 : Row) (x : (Rows × Int)) : T ((Rows × Int) ⊕ Rows) :=
  .test (iLt x.2 (rLen c0))
   (.test (iIn x.2 (rLen c0))
    (.bnd (ref19_num.f k (rInt (rAt c0 x.2) 0)).eval default fun r0 =>
    .bnd (ref19_at.f k (bs [109, 97, 120, 83, 107, 101, 119]) (et 110 r0)).eval default fun r1 =>
    .test (iIn x.2 (rLen c0))
     (.bnd (ref19_truth.f k (rBool (rAt c0 x.2) 3)).eval default fun r2 =>
     .bnd (ref19_at.f k (bs [114, 101, 113, 117, 105, 114, 101, 100]) (et 110 r2)).eval default fun r3 =>
     .test (iIn x.2 (rLen c0))
      (.bnd (ref19_FromSelector.f k (rSl (rAt c0 x.2) 2)).eval default fun r4 =>
      .bnd (ref19_at.f k (bs [115, 101, 108, 101, 99, 116, 111, 114]) (et 110 r4)).eval default fun r5 =>
      .test (iIn x.2 (rLen c0))
       (.bnd (ref19_str.f k (rStr (rAt c0 x.2) 1)).eval default fun r6 =>
       .bnd (ref19_at.f k (bs [116, 111, 112, 111, 108, 111, 103, 121]) (et 110 r6)).eval default fun r7 =>
       .bnd (ref19_object.f k [(et 120 r1), (et 120 r3), (et 120 r5), (et 120 r7)]).eval default fun r8 =>
       .test (rOk 80 (rLen x.1) (rLen [(et 110 r8)]))
        (.ret (.inl ((rCat x.1 [(et 110 r8)]), (iAdd .i64 x.2 (1)))))
        (.fail))
       (.fail))
      (.fail))
     (.fail))
    (.fail))
   (.ret (.inr x.1))
noncomputable def a3 (c0 : Rows) (c1 : Row) (x : (Rows × Int)) : Dt := ⟨[.r c0, .u, .r x.1, .i x.2], [], [et 110 c1], []⟩
noncomputable def o3_0 (c0 : Rows) (c1 : Row) (r : Rows) : X × Dt := (.exit 0, ⟨[.u, .r r], [], [(et 110 c1)], []⟩)
noncomputable def e3 (k : Nat) (d : Dt) : T (X × Dt) := out1 (iter (s3 k (aR (aN d.a 0)) (d.r.getD 0 [])) k ((aR (aN d.a 2)), (aI (aN d.a 3)))) default (o3_0 (aR (aN d.a 0)) (d.r.getD 0 []))
noncomputable def S (k : Nat) : Subs := fun n => bif Nat.beq n 3 then some (loopV Tryz.prog t3 (e3 k)) else none
noncomputable def f (k : Nat) (a0 : Rows) : T Row :=
  .bnd (iter (ref19_fromSpread.s3 k a0 [.int .i64 (0), .int .i64 (0), .str ByteArray.empty, .slice 110 [] .open, .slice 120 [] .open]) k ([], (0))) default fun r0 =>
  .bnd (ref19_list.f k r0).eval default fun r1 =>
  .ret (et 110 r1)
noncomputable def d (k : Nat) : Fun := mkFun [32] (fun as_ => f k (vRows (vN as_ 0))) default (fun r => .agg (et 110 r))
theorem hC (k : Nat) : CxOk (C k) := CxOk.cons (p := (90, ref19_num.d k)) (ref19_num.ok k) (CxOk.cons (p := (70, ref19_at.d k)) (ref19_at.ok k) (CxOk.cons (p := (131, ref19_truth.d k)) (ref19_truth.ok k) (CxOk.cons (p := (91, ref19_FromSelector.d k)) (ref19_FromSelector.ok k) (CxOk.cons (p := (87, ref19_str.d k)) (ref19_str.ok k) (CxOk.cons (p := (69, ref19_object.d k)) (ref19_object.ok k) (CxOk.cons (p := (88, ref19_list.d k)) (ref19_list.ok k) (CxOk.nil)))))))
theorem l3 (k : Nat) : LoopOk Tryz.prog (S k) (lp (bodyF (Go.Proofs.Tryz.f94)) 0) := loopOk_mk (C := C k) (hC k) (Loops.all (n := 0) (by kernel_rfl) trivial) (lt := t3) (den := e3 k) (by kernel_rfl) (N := (Rows × Row)) (A := (Rows × Int)) (R := Rows)
 (fun n x => a3 n.1 n.2 x) (fun n r => o3_0 n.1 n.2 r) (fun n x => s3 k n.1 n.2 x) k (fun d => ((aR (aN d.a 0)), (d.r.getD 0 []))) (fun d => ((aR (aN d.a 2)), (aI (aN d.a 3)))) (fun d y h => out1_eval h) (fun d => by kernel_rfl) (fun n x => by kernel_rfl) (fun n r => ⟨_, rfl⟩)
theorem ok (k : Nat) : FunOk Tryz.prog 94 (d k) := fun_mk (C := C k) (hC k) (S := S k) Tryz.func94 (by kernel_rfl) (by kernel_rfl) (Loops.all (n := 1) (by kernel_rfl) ⟨trivial, l3 k⟩) (fun as_ => by kernel_rfl)
end ref19_fromSpread
namespace ref19_fromTolerations
noncomputable def C (k : Nat) : Cx := ⟨Tryz.prog, tab [(90, ref19_num.d k), (70, ref19_at.d k), (131, ref19_truth.d k), (87, ref19_str.d k), (69, ref19_object.d k), (88, ref19_list.d k)], [], [], tab []⟩
noncomputable def t3 : LoopT := ⟨⟨53, [.tmp 3 50 110], [(0, .sl 184 none), (2, .ptr 2 0), (3, .sl 110 (some 50)), (4, .int .i64)], [], [(2, 110)], []⟩, (fun | .exit 0 => some ⟨53, [], [(2, .ptr 2 0), (3, .sl 110 (some 50))], [], [(2, 110)], []⟩ | _ => none)⟩
noncomputable def s3 (k : Nat) (c0 : Rows) (c1 : Row) (x : (Rows × Int)) : T ((Rows × Int) ⊕ Rows) :=
  .test (iLt x.2 (rLen c0))
   (.test (iIn x.2 (rLen c0))
    (.bnd (ref19_num.f k (rInt (rAt c0 x.2) 3)).eval default fun r0 =>
    .bnd (ref19_at.f k (bs [101, 102, 102, 101, 99, 116]) (et 110 r0)).eval default fun r1 =>
    .test (iIn x.2 (rLen c0))
     (.bnd (ref19_truth.f k (rBool (rAt c0 x.2) 2)).eval default fun r2 =>
     .bnd (ref19_at.f k (bs [101, 120, 105, 115, 116, 115]) (et 110 r2)).eval default fun r3 =>
     .test (iIn x.2 (rLen c0))
      (.bnd (ref19_str.f k (rStr (rAt c0 x.2) 0)).eval default fun r4 =>
      .bnd (ref19_at.f k (bs [107, 101, 121]) (et 110 r4)).eval default fun r5 =>
      .test (iIn x.2 (rLen c0))
       (.bnd (ref19_num.f k (rInt (rAt c0 x.2) 4)).eval default fun r6 =>
       .bnd (ref19_at.f k (bs [115, 101, 99, 111, 110, 100, 115]) (et 110 r6)).eval default fun r7 =>
       .test (iIn x.2 (rLen c0))
        (.bnd (ref19_str.f k (rStr (rAt c0 x.2) 1)).eval default fun r8 =>
        .bnd (ref19_at.f k (bs [118, 97, 108, 117, 101]) (et 110 r8)).eval default fun r9 =>
        .bnd (ref19_object.f k [(et 120 r1), (et 120 r3), (et 120 r5), (et 120 r7), (et 120 r9)]).eval default fun r10 =>
        .test (rOk 80 (rLen x.1) (rLen [(et 110 r10)]))
         (.ret (.inl ((rCat x.1 [(et 110 r10)]), (iAdd .i64 x.2 (1)))))
         (.fail))
        (.fail))
       (.fail))
      (.fail))
     (.fail))
    (.fail))
   (.ret (.inr x.1))
noncomputable def a3 (c0 : Rows) (c1 : Row) (x : (Rows × Int)) : Dt := ⟨[.r c0, .u, .r x.1, .i x.2], [], [et 110 c1], []⟩
noncomputable def o3_0 (c0 : Rows) (c1 : Row) (r : Rows) : X × Dt := (.exit 0, ⟨[.u, .r r], [], [(et 110 c1)], []⟩)
noncomputable def e3 (k : Nat) (d : Dt) : T (X × Dt) := out1 (iter (s3 k (aR (aN d.a 0)) (d.r.getD 0 [])) k ((aR (aN d.a 2)), (aI (aN d.a 3)))) default (o3_0 (aR (aN d.a 0)) (d.r.getD 0 []))
noncomputable def S (k : Nat) : Subs := fun n => bif Nat.beq n 3 then some (loopV Tryz.prog t3 (e3 k)) else none
noncomputable def f (k : Nat) (a0 : Rows) : T Row :=
  .bnd (iter (ref19_fromTolerations.s3 k a0 [.int .i64 (0), .int .i64 (0), .str ByteArray.empty, .slice 110 [] .open, .slice 120 [] .open]) k ([], (0))) default fun r0 =>
  .bnd (ref19_list.f k r0).eval default fun r1 =>
  .ret (et 110 r1)
noncomputable def d (k : Nat) : Fun := mkFun [33] (fun as_ => f k (vRows (vN as_ 0))) default (fun r => .agg (et 110 r))
theorem hC (k : Nat) : CxOk (C k) := CxOk.cons (p := (90, ref19_num.d k)) (ref19_num.ok k) (CxOk.cons (p := (70, ref19_at.d k)) (ref19_at.ok k) (CxOk.cons (p := (131, ref19_truth.d k)) (ref19_truth.ok k) (CxOk.cons (p := (87, ref19_str.d k)) (ref19_str.ok k) (CxOk.cons (p := (69, ref19_object.d k)) (ref19_object.ok k) (CxOk.cons (p := (88, ref19_list.d k)) (ref19_list.ok k) (CxOk.nil))))))
theorem l3 (k : Nat) : LoopOk Tryz.prog (S k) (lp (bodyF (Go.Proofs.Tryz.f95)) 0) := loopOk_mk (C := C k) (hC k) (Loops.all (n := 0) (by kernel_rfl) trivial) (lt := t3) (den := e3 k) (by kernel_rfl) (N := (Rows × Row)) (A := (Rows × Int)) (R := Rows)
 (fun n x => a3 n.1 n.2 x) (fun n r => o3_0 n.1 n.2 r) (fun n x => s3 k n.1 n.2 x) k (fun d => ((aR (aN d.a 0)), (d.r.getD 0 []))) (fun d => ((aR (aN d.a 2)), (aI (aN d.a 3)))) (fun d y h => out1_eval h) (fun d => by kernel_rfl) (fun n x => by kernel_rfl) (fun n r => ⟨_, rfl⟩)
theorem ok (k : Nat) : FunOk Tryz.prog 95 (d k) := fun_mk (C := C k) (hC k) (S := S k) Tryz.func95 (by kernel_rfl) (by kernel_rfl) (Loops.all (n := 1) (by kernel_rfl) ⟨trivial, l3 k⟩) (fun as_ => by kernel_rfl)
end ref19_fromTolerations
namespace ref19_FromSpec
noncomputable def C (k : Nat) : Cx := ⟨Tryz.prog, tab [(89, ref19_fromContainers.d k), (70, ref19_at.d k), (90, ref19_num.d k), (87, ref19_str.d k), (91, ref19_FromSelector.d k), (92, ref19_fromNodeTerms.d k), (93, ref19_fromPodTerms.d k), (94, ref19_fromSpread.d k), (95, ref19_fromTolerations.d k), (69, ref19_object.d k)], [], [], tab []⟩
noncomputable def S (k : Nat) : Subs := fun n => none
noncomputable def f (k : Nat) (a0 : Row) : T Row :=
  .bnd (ref19_fromContainers.f k (rSl a0 4)).eval default fun r0 =>
  .bnd (ref19_at.f k (bs [99, 111, 110, 116, 97, 105, 110, 101, 114, 115]) (et 110 r0)).eval default fun r1 =>
  .bnd (ref19_num.f k (rInt a0 3)).eval default fun r2 =>
  .bnd (ref19_at.f k (bs [103, 114, 97, 99, 101]) (et 110 r2)).eval default fun r3 =>
  .bnd (ref19_str.f k (rStr a0 0)).eval default fun r4 =>
  .bnd (ref19_at.f k (bs [110, 111, 100, 101]) (et 110 r4)).eval default fun r5 =>
  .bnd (ref19_FromSelector.f k (rSl a0 5)).eval default fun r6 =>
  .bnd (ref19_at.f k (bs [110, 111, 100, 101, 83, 101, 108, 101, 99, 116, 111, 114]) (et 110 r6)).eval default fun r7 =>
  .bnd (ref19_fromNodeTerms.f k (rSl a0 6)).eval default fun r8 =>
  .bnd (ref19_at.f k (bs [110, 111, 100, 101, 84, 101, 114, 109, 115]) (et 110 r8)).eval default fun r9 =>
  .bnd (ref19_fromPodTerms.f k (rSl a0 7)).eval default fun r10 =>
  .bnd (ref19_at.f k (bs [112, 111, 100, 84, 101, 114, 109, 115]) (et 110 r10)).eval default fun r11 =>
  .bnd (ref19_num.f k (rInt a0 1)).eval default fun r12 =>
  .bnd (ref19_at.f k (bs [112, 114, 105, 111, 114, 105, 116, 121]) (et 110 r12)).eval default fun r13 =>
  .bnd (ref19_num.f k (rInt a0 2)).eval default fun r14 =>
  .bnd (ref19_at.f k (bs [114, 101, 115, 116, 97, 114, 116]) (et 110 r14)).eval default fun r15 =>
  .bnd (ref19_fromSpread.f k (rSl a0 8)).eval default fun r16 =>
  .bnd (ref19_at.f k (bs [115, 112, 114, 101, 97, 100]) (et 110 r16)).eval default fun r17 =>
  .bnd (ref19_fromTolerations.f k (rSl a0 9)).eval default fun r18 =>
  .bnd (ref19_at.f k (bs [116, 111, 108, 101, 114, 97, 116, 105, 111, 110, 115]) (et 110 r18)).eval default fun r19 =>
  .bnd (ref19_object.f k [(et 120 r1), (et 120 r3), (et 120 r5), (et 120 r7), (et 120 r9), (et 120 r11), (et 120 r13), (et 120 r15), (et 120 r17), (et 120 r19)]).eval default fun r20 =>
  .ret (et 110 r20)
noncomputable def d (k : Nat) : Fun := mkFun [35] (fun as_ => f k (vRow (vN as_ 0))) default (fun r => .agg (et 110 r))
theorem hC (k : Nat) : CxOk (C k) := CxOk.cons (p := (89, ref19_fromContainers.d k)) (ref19_fromContainers.ok k) (CxOk.cons (p := (70, ref19_at.d k)) (ref19_at.ok k) (CxOk.cons (p := (90, ref19_num.d k)) (ref19_num.ok k) (CxOk.cons (p := (87, ref19_str.d k)) (ref19_str.ok k) (CxOk.cons (p := (91, ref19_FromSelector.d k)) (ref19_FromSelector.ok k) (CxOk.cons (p := (92, ref19_fromNodeTerms.d k)) (ref19_fromNodeTerms.ok k) (CxOk.cons (p := (93, ref19_fromPodTerms.d k)) (ref19_fromPodTerms.ok k) (CxOk.cons (p := (94, ref19_fromSpread.d k)) (ref19_fromSpread.ok k) (CxOk.cons (p := (95, ref19_fromTolerations.d k)) (ref19_fromTolerations.ok k) (CxOk.cons (p := (69, ref19_object.d k)) (ref19_object.ok k) (CxOk.nil))))))))))
theorem ok (k : Nat) : FunOk Tryz.prog 72 (d k) := fun_mk (C := C k) (hC k) (S := S k) Tryz.func72 (by kernel_rfl) (by kernel_rfl) (Loops.all (n := 0) (by kernel_rfl) trivial) (fun as_ => by kernel_rfl)
end ref19_FromSpec
namespace ref19_FromTemplate
noncomputable def C (k : Nat) : Cx := ⟨Tryz.prog, tab [(71, ref19_fromLabels.d k), (70, ref19_at.d k), (72, ref19_FromSpec.d k), (69, ref19_object.d k)], [], [], tab []⟩
noncomputable def S (k : Nat) : Subs := fun n => none
noncomputable def f (k : Nat) (a0 : Row) : T Row :=
  .bnd (ref19_fromLabels.f k (rSl a0 0)).eval default fun r0 =>
  .bnd (ref19_at.f k (bs [108, 97, 98, 101, 108, 115]) (et 110 r0)).eval default fun r1 =>
  .bnd (ref19_FromSpec.f k (eo 35 a0 1)).eval default fun r2 =>
  .bnd (ref19_at.f k (bs [115, 112, 101, 99]) (et 110 r2)).eval default fun r3 =>
  .bnd (ref19_object.f k [(et 120 r1), (et 120 r3)]).eval default fun r4 =>
  .ret (et 110 r4)
noncomputable def d (k : Nat) : Fun := mkFun [37] (fun as_ => f k (vRow (vN as_ 0))) default (fun r => .agg (et 110 r))
theorem hC (k : Nat) : CxOk (C k) := CxOk.cons (p := (71, ref19_fromLabels.d k)) (ref19_fromLabels.ok k) (CxOk.cons (p := (70, ref19_at.d k)) (ref19_at.ok k) (CxOk.cons (p := (72, ref19_FromSpec.d k)) (ref19_FromSpec.ok k) (CxOk.cons (p := (69, ref19_object.d k)) (ref19_object.ok k) (CxOk.nil))))
theorem ok (k : Nat) : FunOk Tryz.prog 59 (d k) := fun_mk (C := C k) (hC k) (S := S k) Tryz.func59 (by kernel_rfl) (by kernel_rfl) (Loops.all (n := 0) (by kernel_rfl) trivial) (fun as_ => by kernel_rfl)
end ref19_FromTemplate
namespace ref04_ValidString
noncomputable def C (k : Nat) : Cx := ⟨Tryz.prog, tab [], [], [], tab []⟩
noncomputable def t2 : LoopT := ⟨⟨29, [], [(0, .str), (3, .int .i64)], [], [], []⟩, (fun | .ret => some ⟨29, [], [(2, .bool)], [], [], []⟩ | .exit 0 => some ⟨29, [], [(0, .str)], [], [], []⟩ | _ => none)⟩
noncomputable def s2 (k : Nat) (c0 : ByteArray) (x : Int) : T (Int ⊕ (Bool ⊕ Unit)) :=
  .test (iLt x (sLen c0))
   (.test (iIn x (sLen c0))
    (.test (bImp (bNot (iEq (sAt c0 x) (10))) (iIn x (sLen c0)))
     (.test (bImp (bAnd (bNot (iEq (sAt c0 x) (10))) (bNot (iLt (sAt c0 x) (32)))) (iIn x (sLen c0)))
      (.test (bIte (bNot (iEq (sAt c0 x) (10))) (bIte (iLt (sAt c0 x) (32)) true (iLt (126) (sAt c0 x))) false)
       (.ret (.inr (.inl false)))
       (.ret (.inl (iAdd .i64 x (1)))))
      (.fail))
     (.fail))
    (.fail))
   (.ret (.inr (.inr ())))
noncomputable def a2 (c0 : ByteArray) (x : Int) : Dt := ⟨[.s c0, .i x], [], [], []⟩
noncomputable def o2_0 (c0 : ByteArray) (r : Bool) : X × Dt := (.ret, ⟨[.b r], [], [], []⟩)
noncomputable def o2_1 (c0 : ByteArray) (r : Unit) : X × Dt := (.exit 0, ⟨[.s c0], [], [], []⟩)
noncomputable def e2 (k : Nat) (d : Dt) : T (X × Dt) := out2 (iter (s2 k (aS (aN d.a 0))) k (aI (aN d.a 1))) (o2_0 (aS (aN d.a 0))) (o2_1 (aS (aN d.a 0)))
noncomputable def S (k : Nat) : Subs := fun n => bif Nat.beq n 2 then some (loopV Tryz.prog t2 (e2 k)) else none
noncomputable def f (k : Nat) (a0 : ByteArray) : T Bool :=
  .cas (iter (ref04_ValidString.s2 k a0) k (0)) (fun r0 =>
   .ret r0) (fun r1 =>
   .ret (iLe (sLen a0) (200)))
noncomputable def d (k : Nat) : Fun := mkFun [9] (fun as_ => f k (vStr (vN as_ 0))) default (fun r => .bool r)
theorem hC (k : Nat) : CxOk (C k) := CxOk.nil
theorem l2 (k : Nat) : LoopOk Tryz.prog (S k) (lp (bodyF (Go.Proofs.Tryz.f149)) 0) := loopOk_mk (C := C k) (hC k) (Loops.all (n := 0) (by kernel_rfl) trivial) (lt := t2) (den := e2 k) (by kernel_rfl) (N := ByteArray) (A := Int) (R := (Bool ⊕ Unit))
 (fun n x => a2 n x) (fun n r => Sum.elim (o2_0 n) (o2_1 n) r) (fun n x => s2 k n x) k (fun d => (aS (aN d.a 0))) (fun d => (aI (aN d.a 1))) (fun d y h => out2_eval h) (fun d => by kernel_rfl) (fun n x => by kernel_rfl) (fun n r => by rcases r with r | r <;> exact ⟨_, rfl⟩)
theorem ok (k : Nat) : FunOk Tryz.prog 149 (d k) := fun_mk (C := C k) (hC k) (S := S k) Tryz.func149 (by kernel_rfl) (by kernel_rfl) (Loops.all (n := 1) (by kernel_rfl) ⟨trivial, l2 k⟩) (fun as_ => by kernel_rfl)
end ref04_ValidString
namespace ref04_scalar
noncomputable def C (k : Nat) : Cx := ⟨Tryz.prog, tab [(149, ref04_ValidString.d k)], [], [], tab []⟩
noncomputable def S (k : Nat) : Subs := fun n => none
noncomputable def f (k : Nat) (a0 : Row) : T Bool :=
  .test (iEq (rInt a0 0) (1))
   (.ret (bIte (bIte (iEq (rInt a0 1) (0)) true (iEq (rInt a0 1) (1))) (sEq (rStr a0 2) ByteArray.empty) false))
   (.test (iEq (rInt a0 0) (2))
    (.ret (bIte (bIte (iLe (-1000000000000000) (rInt a0 1)) (iLe (rInt a0 1) (1000000000000000)) false) (sEq (rStr a0 2) ByteArray.empty) false))
    (.test (iEq (rInt a0 0) (3))
     (.opt (iEq (rInt a0 1) (0)) (ref04_ValidString.f k (rStr a0 2)).eval default fun r0 =>
     .ret (bIte (iEq (rInt a0 1) (0)) r0 false))
     (.test (iEq (rInt a0 0) (0))
      (.test (iEq (rInt a0 0) (0))
       (.ret (bIte (iEq (rInt a0 1) (0)) (sEq (rStr a0 2) ByteArray.empty) false))
       (.ret false))
      (.test (iEq (rInt a0 0) (4))
       (.test (iEq (rInt a0 0) (4))
        (.ret (bIte (iEq (rInt a0 1) (0)) (sEq (rStr a0 2) ByteArray.empty) false))
        (.ret false))
       (.test (iEq (rInt a0 0) (5))
        (.ret (bIte (iEq (rInt a0 1) (0)) (sEq (rStr a0 2) ByteArray.empty) false))
        (.ret false))))))
noncomputable def d (k : Nat) : Fun := mkFun [110] (fun as_ => f k (vRow (vN as_ 0))) default (fun r => .bool r)
theorem hC (k : Nat) : CxOk (C k) := CxOk.cons (p := (149, ref04_ValidString.d k)) (ref04_ValidString.ok k) (CxOk.nil)
theorem ok (k : Nat) : FunOk Tryz.prog 126 (d k) := fun_mk (C := C k) (hC k) (S := S k) Tryz.func126 (by kernel_rfl) (by kernel_rfl) (Loops.all (n := 0) (by kernel_rfl) trivial) (fun as_ => by kernel_rfl)
end ref04_scalar
namespace ref04_ValidField
noncomputable def C (k : Nat) : Cx := ⟨Tryz.prog, tab [], [], [], tab []⟩
noncomputable def t2 : LoopT := ⟨⟨60, [], [(0, .str), (3, .int .i64)], [], [], []⟩, (fun | .ret => some ⟨60, [], [(2, .bool)], [], [], []⟩ | .exit 0 => some ⟨60, [], [(0, .str)], [], [], []⟩ | _ => none)⟩
noncomputable def s2 (k : Nat) (c0 : ByteArray) (x : Int) : T (Int ⊕ (Bool ⊕ Unit)) :=
  .test (iLt x (sLen c0))
   (.test (iIn x (sLen c0))
    (.test (bIte (bIte (bIte (bIte (bNot (bIte (bIte (iLe (97) (sAt c0 x)) (iLe (sAt c0 x) (122)) false) true (bIte (iLe (65) (sAt c0 x)) (iLe (sAt c0 x) (90)) false))) (bNot (bIte (iLe (48) (sAt c0 x)) (iLe (sAt c0 x) (57)) false)) false) (bNot (iEq (sAt c0 x) (45))) false) (bNot (iEq (sAt c0 x) (95))) false) (bNot (iEq (sAt c0 x) (47))) false)
     (.ret (.inr (.inl false)))
     (.ret (.inl (iAdd .i64 x (1)))))
    (.fail))
   (.ret (.inr (.inr ())))
noncomputable def a2 (c0 : ByteArray) (x : Int) : Dt := ⟨[.s c0, .i x], [], [], []⟩
noncomputable def o2_0 (c0 : ByteArray) (r : Bool) : X × Dt := (.ret, ⟨[.b r], [], [], []⟩)
noncomputable def o2_1 (c0 : ByteArray) (r : Unit) : X × Dt := (.exit 0, ⟨[.s c0], [], [], []⟩)
noncomputable def e2 (k : Nat) (d : Dt) : T (X × Dt) := out2 (iter (s2 k (aS (aN d.a 0))) k (aI (aN d.a 1))) (o2_0 (aS (aN d.a 0))) (o2_1 (aS (aN d.a 0)))
noncomputable def S (k : Nat) : Subs := fun n => bif Nat.beq n 2 then some (loopV Tryz.prog t2 (e2 k)) else none
noncomputable def f (k : Nat) (a0 : ByteArray) : T Bool :=
  .cas (iter (ref04_ValidField.s2 k a0) k (0)) (fun r0 =>
   .ret r0) (fun r1 =>
   .ret (bIte (iLe (1) (sLen a0)) (iLe (sLen a0) (40)) false))
noncomputable def d (k : Nat) : Fun := mkFun [9] (fun as_ => f k (vStr (vN as_ 0))) default (fun r => .bool r)
theorem hC (k : Nat) : CxOk (C k) := CxOk.nil
theorem l2 (k : Nat) : LoopOk Tryz.prog (S k) (lp (bodyF (Go.Proofs.Tryz.f127)) 0) := loopOk_mk (C := C k) (hC k) (Loops.all (n := 0) (by kernel_rfl) trivial) (lt := t2) (den := e2 k) (by kernel_rfl) (N := ByteArray) (A := Int) (R := (Bool ⊕ Unit))
 (fun n x => a2 n x) (fun n r => Sum.elim (o2_0 n) (o2_1 n) r) (fun n x => s2 k n x) k (fun d => (aS (aN d.a 0))) (fun d => (aI (aN d.a 1))) (fun d y h => out2_eval h) (fun d => by kernel_rfl) (fun n x => by kernel_rfl) (fun n r => by rcases r with r | r <;> exact ⟨_, rfl⟩)
theorem ok (k : Nat) : FunOk Tryz.prog 127 (d k) := fun_mk (C := C k) (hC k) (S := S k) Tryz.func127 (by kernel_rfl) (by kernel_rfl) (Loops.all (n := 1) (by kernel_rfl) ⟨trivial, l2 k⟩) (fun as_ => by kernel_rfl)
end ref04_ValidField
namespace ref04_valid
noncomputable def F (self : Row → Int → T Bool) : Fun := mkFun [110, 3] (fun as_ => self (vRow (vN as_ 0)) (vInt (vN as_ 1))) default (fun r => .bool r)
noncomputable def C (k : Nat) (self : Row → Int → T Bool) : Cx := ⟨Tryz.prog, tab [(126, ref04_scalar.d k), (127, ref04_ValidField.d k), (83, F self)], [], [], tab []⟩
noncomputable def t6 : LoopT := ⟨⟨109, [], [(1, .int .i64), (2, .ptr 2 0), (5, .int .i64)], [], [(2, 110)], []⟩, (fun | .ret => some ⟨109, [], [(4, .bool)], [], [], []⟩ | .exit 0 => some ⟨109, [], [(1, .int .i64), (2, .ptr 2 0)], [], [(2, 110)], []⟩ | _ => none)⟩
noncomputable def s6 (k : Nat) (self : Row → Int → T Bool) (c0 : Int) (c1 : Row) (x : Int) : T (Int ⊕ (Bool ⊕ Unit)) :=
  .test (iLt x (rLen (rSl c1 3)))
   (.test (iIn x (rLen (rSl c1 3)))
    (.bnd (self (et 110 (rAt (rSl c1 3) x)) (iSub .i64 c0 (1))).eval default fun r0 =>
    .test (bNot r0)
     (.ret (.inr (.inl false)))
     (.ret (.inl (iAdd .i64 x (1)))))
    (.fail))
   (.ret (.inr (.inr ())))
noncomputable def a6 (c0 : Int) (c1 : Row) (x : Int) : Dt := ⟨[.i c0, .u, .i x], [], [et 110 c1], []⟩
noncomputable def o6_0 (c0 : Int) (c1 : Row) (r : Bool) : X × Dt := (.ret, ⟨[.b r], [], [], []⟩)
noncomputable def o6_1 (c0 : Int) (c1 : Row) (r : Unit) : X × Dt := (.exit 0, ⟨[.i c0, .u], [], [(et 110 c1)], []⟩)
noncomputable def e6 (k : Nat) (self : Row → Int → T Bool) (d : Dt) : T (X × Dt) := out2 (iter (s6 k self (aI (aN d.a 0)) (d.r.getD 0 [])) k (aI (aN d.a 2))) (o6_0 (aI (aN d.a 0)) (d.r.getD 0 [])) (o6_1 (aI (aN d.a 0)) (d.r.getD 0 []))
noncomputable def t11 : LoopT := ⟨⟨109, [], [(1, .int .i64), (2, .ptr 2 0), (6, .int .i64)], [], [(2, 110)], []⟩, (fun | .ret => some ⟨109, [], [(4, .bool)], [], [], []⟩ | .exit 2 => some ⟨109, [], [], [], [], []⟩ | _ => none)⟩
noncomputable def s11 (k : Nat) (self : Row → Int → T Bool) (c0 : Int) (c1 : Row) (x : Int) : T (Int ⊕ (Bool ⊕ Unit)) :=
  .test (iLt x (rLen (rSl c1 4)))
   (.test (iIn x (rLen (rSl c1 4)))
    (.bnd (ref04_ValidField.f k (rStr (rAt (rSl c1 4) x) 0)).eval default fun r0 =>
    .test (bImp (bAnd (bNot (bNot r0)) (iLt (0) x)) (iIn x (rLen (rSl c1 4))))
     (.test (bImp (bAnd (bNot (bNot r0)) (iLt (0) x)) (iIn (iSub .i64 x (1)) (rLen (rSl c1 4))))
      (.test (bImp (bNot (bIte (bNot r0) true (bIte (iLt (0) x) (bOr (sLt (rStr (rAt (rSl c1 4) x) 0) (rStr (rAt (rSl c1 4) (iSub .i64 x (1))) 0)) (sEq (rStr (rAt (rSl c1 4) x) 0) (rStr (rAt (rSl c1 4) (iSub .i64 x (1))) 0))) false))) (iIn x (rLen (rSl c1 4))))
       (.opt (bNot (bIte (bNot r0) true (bIte (iLt (0) x) (bOr (sLt (rStr (rAt (rSl c1 4) x) 0) (rStr (rAt (rSl c1 4) (iSub .i64 x (1))) 0)) (sEq (rStr (rAt (rSl c1 4) x) 0) (rStr (rAt (rSl c1 4) (iSub .i64 x (1))) 0))) false))) (self (eo 110 (rAt (rSl c1 4) x) 1) (iSub .i64 c0 (1))).eval default fun r1 =>
       .test (bIte (bIte (bNot r0) true (bIte (iLt (0) x) (bOr (sLt (rStr (rAt (rSl c1 4) x) 0) (rStr (rAt (rSl c1 4) (iSub .i64 x (1))) 0)) (sEq (rStr (rAt (rSl c1 4) x) 0) (rStr (rAt (rSl c1 4) (iSub .i64 x (1))) 0))) false)) true (bNot r1))
        (.ret (.inr (.inl false)))
        (.ret (.inl (iAdd .i64 x (1)))))
       (.fail))
      (.fail))
     (.fail))
    (.fail))
   (.ret (.inr (.inr ())))
noncomputable def a11 (c0 : Int) (c1 : Row) (x : Int) : Dt := ⟨[.i c0, .u, .i x], [], [et 110 c1], []⟩
noncomputable def o11_0 (c0 : Int) (c1 : Row) (r : Bool) : X × Dt := (.ret, ⟨[.b r], [], [], []⟩)
noncomputable def o11_1 (c0 : Int) (c1 : Row) (r : Unit) : X × Dt := (.exit 2, ⟨[], [], [], []⟩)
noncomputable def e11 (k : Nat) (self : Row → Int → T Bool) (d : Dt) : T (X × Dt) := out2 (iter (s11 k self (aI (aN d.a 0)) (d.r.getD 0 [])) k (aI (aN d.a 2))) (o11_0 (aI (aN d.a 0)) (d.r.getD 0 [])) (o11_1 (aI (aN d.a 0)) (d.r.getD 0 []))
noncomputable def S (k : Nat) (self : Row → Int → T Bool) : Subs := fun n => bif Nat.beq n 6 then some (loopV Tryz.prog t6 (e6 k self)) else bif Nat.beq n 11 then some (loopV Tryz.prog t11 (e11 k self)) else none
noncomputable def f : Nat → Row → Int → T Bool
  | 0, _, _ => .fail
  | k + 1, a0, a1 =>
  .opt (bNot (iEq a1 (0))) (ref04_scalar.f k (et 110 a0)).eval default fun r0 =>
  .test (bIte (bIte (bIte (iEq a1 (0)) true (bNot r0)) true (iLt (64) (rLen (rSl a0 3)))) true (iLt (64) (rLen (rSl a0 4))))
   (.ret false)
   (.test (bIte (bIte (bNot (iEq (rInt a0 0) (4))) (iLt (0) (rLen (rSl a0 3))) false) true (bIte (bNot (iEq (rInt a0 0) (5))) (iLt (0) (rLen (rSl a0 4))) false))
    (.ret false)
    (.cas (iter (ref04_valid.s6 k (f k) a1 (et 110 a0)) k (0)) (fun r1 =>
     .ret r1) (fun r2 =>
     .cas (iter (ref04_valid.s11 k (f k) a1 (et 110 a0)) k (0)) (fun r3 =>
      .ret r3) (fun r4 =>
      .ret true))))
noncomputable def d (k : Nat) : Fun := F (f k)
theorem hC (k : Nat) (self : Row → Int → T Bool) (ih : FunOk Tryz.prog 83 (F self)) : CxOk (C k self) := CxOk.cons (p := (126, ref04_scalar.d k)) (ref04_scalar.ok k) (CxOk.cons (p := (127, ref04_ValidField.d k)) (ref04_ValidField.ok k) (CxOk.cons (p := (83, F self)) ih (CxOk.nil)))
theorem l6 (k : Nat) (self : Row → Int → T Bool) (ih : FunOk Tryz.prog 83 (F self)) : LoopOk Tryz.prog (S k self) (lp (bodyF (Go.Proofs.Tryz.f83)) 0) := loopOk_mk (C := C k self) (hC k self ih) (Loops.all (n := 0) (by kernel_rfl) trivial) (lt := t6) (den := e6 k self) (by kernel_rfl) (N := (Int × Row)) (A := Int) (R := (Bool ⊕ Unit))
 (fun n x => a6 n.1 n.2 x) (fun n r => Sum.elim (o6_0 n.1 n.2) (o6_1 n.1 n.2) r) (fun n x => s6 k self n.1 n.2 x) k (fun d => ((aI (aN d.a 0)), (d.r.getD 0 []))) (fun d => (aI (aN d.a 2))) (fun d y h => out2_eval h) (fun d => by kernel_rfl) (fun n x => by kernel_rfl) (fun n r => by rcases r with r | r <;> exact ⟨_, rfl⟩)
theorem l11 (k : Nat) (self : Row → Int → T Bool) (ih : FunOk Tryz.prog 83 (F self)) : LoopOk Tryz.prog (S k self) (lp (bodyF (Go.Proofs.Tryz.f83)) 1) := loopOk_mk (C := C k self) (hC k self ih) (Loops.all (n := 0) (by kernel_rfl) trivial) (lt := t11) (den := e11 k self) (by kernel_rfl) (N := (Int × Row)) (A := Int) (R := (Bool ⊕ Unit))
 (fun n x => a11 n.1 n.2 x) (fun n r => Sum.elim (o11_0 n.1 n.2) (o11_1 n.1 n.2) r) (fun n x => s11 k self n.1 n.2 x) k (fun d => ((aI (aN d.a 0)), (d.r.getD 0 []))) (fun d => (aI (aN d.a 2))) (fun d y h => out2_eval h) (fun d => by kernel_rfl) (fun n x => by kernel_rfl) (fun n r => by rcases r with r | r <;> exact ⟨_, rfl⟩)
theorem ok : ∀ k, FunOk Tryz.prog 83 (d k)
  | 0 => fun_zero Tryz.func83 (by kernel_rfl) (by kernel_rfl) (fun _ => rfl)
  | k + 1 => fun_mk (C := C k (f k)) (hC k (f k) (ok k)) (S := S k (f k)) Tryz.func83 (by kernel_rfl) (by kernel_rfl) (Loops.all (n := 2) (by kernel_rfl) ⟨⟨trivial, l6 k (f k) (ok k)⟩, l11 k (f k) (ok k)⟩) (fun as_ => by kernel_rfl)
end ref04_valid
namespace ref04_Size
noncomputable def F (self : Row → T Int) : Fun := mkFun [110] (fun as_ => self (vRow (vN as_ 0))) default (fun r => .int .i64 r)
noncomputable def C (k : Nat) (self : Row → T Int) : Cx := ⟨Tryz.prog, tab [(84, F self)], [], [], tab []⟩
noncomputable def t3 : LoopT := ⟨⟨38, [], [(1, .ptr 1 0), (3, .int .i64), (4, .int .i64)], [], [(1, 110)], []⟩, (fun | .exit 0 => some ⟨38, [], [(1, .ptr 1 0), (3, .int .i64)], [], [(1, 110)], []⟩ | _ => none)⟩
noncomputable def s3 (k : Nat) (self : Row → T Int) (c0 : Row) (x : (Int × Int)) : T ((Int × Int) ⊕ Int) :=
  .test (iLt x.2 (rLen (rSl c0 3)))
   (.test (iIn x.2 (rLen (rSl c0 3)))
    (.bnd (self (et 110 (rAt (rSl c0 3) x.2))).eval default fun r0 =>
    .ret (.inl ((iAdd .i64 x.1 r0), (iAdd .i64 x.2 (1)))))
    (.fail))
   (.ret (.inr x.1))
noncomputable def a3 (c0 : Row) (x : (Int × Int)) : Dt := ⟨[.u, .i x.1, .i x.2], [], [et 110 c0], []⟩
noncomputable def o3_0 (c0 : Row) (r : Int) : X × Dt := (.exit 0, ⟨[.u, .i r], [], [(et 110 c0)], []⟩)
noncomputable def e3 (k : Nat) (self : Row → T Int) (d : Dt) : T (X × Dt) := out1 (iter (s3 k self (d.r.getD 0 [])) k ((aI (aN d.a 1)), (aI (aN d.a 2)))) default (o3_0 (d.r.getD 0 []))
noncomputable def t7 : LoopT := ⟨⟨38, [], [(1, .ptr 1 0), (3, .int .i64), (5, .int .i64)], [], [(1, 110)], []⟩, (fun | .exit 2 => some ⟨38, [], [(3, .int .i64)], [], [], []⟩ | _ => none)⟩
noncomputable def s7 (k : Nat) (self : Row → T Int) (c0 : Row) (x : (Int × Int)) : T ((Int × Int) ⊕ Int) :=
  .test (iLt x.2 (rLen (rSl c0 4)))
   (.test (iIn x.2 (rLen (rSl c0 4)))
    (.bnd (self (eo 110 (rAt (rSl c0 4) x.2) 1)).eval default fun r0 =>
    .ret (.inl ((iAdd .i64 x.1 r0), (iAdd .i64 x.2 (1)))))
    (.fail))
   (.ret (.inr x.1))
noncomputable def a7 (c0 : Row) (x : (Int × Int)) : Dt := ⟨[.u, .i x.1, .i x.2], [], [et 110 c0], []⟩
noncomputable def o7_0 (c0 : Row) (r : Int) : X × Dt := (.exit 2, ⟨[.i r], [], [], []⟩)
noncomputable def e7 (k : Nat) (self : Row → T Int) (d : Dt) : T (X × Dt) := out1 (iter (s7 k self (d.r.getD 0 [])) k ((aI (aN d.a 1)), (aI (aN d.a 2)))) default (o7_0 (d.r.getD 0 []))
noncomputable def S (k : Nat) (self : Row → T Int) : Subs := fun n => bif Nat.beq n 3 then some (loopV Tryz.prog t3 (e3 k self)) else bif Nat.beq n 7 then some (loopV Tryz.prog t7 (e7 k self)) else none
noncomputable def f : Nat → Row → T Int
  | 0, _ => .fail
  | k + 1, a0 =>
  .bnd (iter (ref04_Size.s3 k (f k) (et 110 a0)) k ((1), (0))) default fun r0 =>
  .bnd (iter (ref04_Size.s7 k (f k) (et 110 a0)) k (r0, (0))) default fun r1 =>
  .ret r1
noncomputable def d (k : Nat) : Fun := F (f k)
theorem hC (k : Nat) (self : Row → T Int) (ih : FunOk Tryz.prog 84 (F self)) : CxOk (C k self) := CxOk.cons (p := (84, F self)) ih (CxOk.nil)
theorem l3 (k : Nat) (self : Row → T Int) (ih : FunOk Tryz.prog 84 (F self)) : LoopOk Tryz.prog (S k self) (lp (bodyF (Go.Proofs.Tryz.f84)) 0) := loopOk_mk (C := C k self) (hC k self ih) (Loops.all (n := 0) (by kernel_rfl) trivial) (lt := t3) (den := e3 k self) (by kernel_rfl) (N := Row) (A := (Int × Int)) (R := Int)
 (fun n x => a3 n x) (fun n r => o3_0 n r) (fun n x => s3 k self n x) k (fun d => (d.r.getD 0 [])) (fun d => ((aI (aN d.a 1)), (aI (aN d.a 2)))) (fun d y h => out1_eval h) (fun d => by kernel_rfl) (fun n x => by kernel_rfl) (fun n r => ⟨_, rfl⟩)
theorem l7 (k : Nat) (self : Row → T Int) (ih : FunOk Tryz.prog 84 (F self)) : LoopOk Tryz.prog (S k self) (lp (bodyF (Go.Proofs.Tryz.f84)) 1) := loopOk_mk (C := C k self) (hC k self ih) (Loops.all (n := 0) (by kernel_rfl) trivial) (lt := t7) (den := e7 k self) (by kernel_rfl) (N := Row) (A := (Int × Int)) (R := Int)
 (fun n x => a7 n x) (fun n r => o7_0 n r) (fun n x => s7 k self n x) k (fun d => (d.r.getD 0 [])) (fun d => ((aI (aN d.a 1)), (aI (aN d.a 2)))) (fun d y h => out1_eval h) (fun d => by kernel_rfl) (fun n x => by kernel_rfl) (fun n r => ⟨_, rfl⟩)
theorem ok : ∀ k, FunOk Tryz.prog 84 (d k)
  | 0 => fun_zero Tryz.func84 (by kernel_rfl) (by kernel_rfl) (fun _ => rfl)
  | k + 1 => fun_mk (C := C k (f k)) (hC k (f k) (ok k)) (S := S k (f k)) Tryz.func84 (by kernel_rfl) (by kernel_rfl) (Loops.all (n := 2) (by kernel_rfl) ⟨⟨trivial, l3 k (f k) (ok k)⟩, l7 k (f k) (ok k)⟩) (fun as_ => by kernel_rfl)
end ref04_Size
namespace ref04_Valid
noncomputable def C (k : Nat) : Cx := ⟨Tryz.prog, tab [(83, ref04_valid.d k), (84, ref04_Size.d k)], [], [], tab []⟩
noncomputable def S (k : Nat) : Subs := fun n => none
noncomputable def f (k : Nat) (a0 : Row) : T Bool :=
  .bnd (ref04_valid.f k (et 110 a0) (12)).eval default fun r0 =>
  .opt r0 (ref04_Size.f k (et 110 a0)).eval default fun r1 =>
  .ret (bIte r0 (iLe r1 (600)) false)
noncomputable def d (k : Nat) : Fun := mkFun [110] (fun as_ => f k (vRow (vN as_ 0))) default (fun r => .bool r)
theorem hC (k : Nat) : CxOk (C k) := CxOk.cons (p := (83, ref04_valid.d k)) (ref04_valid.ok k) (CxOk.cons (p := (84, ref04_Size.d k)) (ref04_Size.ok k) (CxOk.nil))
theorem ok (k : Nat) : FunOk Tryz.prog 67 (d k) := fun_mk (C := C k) (hC k) (S := S k) Tryz.func67 (by kernel_rfl) (by kernel_rfl) (Loops.all (n := 0) (by kernel_rfl) trivial) (fun as_ => by kernel_rfl)
end ref04_Valid
namespace ref05_digits
noncomputable def C (k : Nat) : Cx := ⟨Tryz.prog, tab [], [], [], tab []⟩
noncomputable def t2 : LoopT := ⟨⟨23, [], [(0, .int .i64), (3, .str)], [], [], []⟩, (fun | .exit 0 => some ⟨23, [], [(3, .str)], [], [], []⟩ | _ => none)⟩
noncomputable def s2 (k : Nat) (x : (Int × ByteArray)) : T ((Int × ByteArray) ⊕ ByteArray) :=
  .test (iLe (10) x.1)
   (.test (bNot (iEq (10) (0)))
    (.test (bNot (iEq (10) (0)))
     (.test (sOk (sLen (sRows [[.int .u8 (iCv .u8 (iAdd .i64 (48) (iRem (iQuo .i64 x.1 (10)) (10))))]])) (sLen x.2))
      (.ret (.inl ((iQuo .i64 x.1 (10)), (sCat (sRows [[.int .u8 (iCv .u8 (iAdd .i64 (48) (iRem (iQuo .i64 x.1 (10)) (10))))]]) x.2))))
      (.fail))
     (.fail))
    (.fail))
   (.ret (.inr x.2))
noncomputable def a2 (x : (Int × ByteArray)) : Dt := ⟨[.i x.1, .s x.2], [], [], []⟩
noncomputable def o2_0 (r : ByteArray) : X × Dt := (.exit 0, ⟨[.s r], [], [], []⟩)
noncomputable def e2 (k : Nat) (d : Dt) : T (X × Dt) := out1 (iter (s2 k) k ((aI (aN d.a 0)), (aS (aN d.a 1)))) default (o2_0)
noncomputable def S (k : Nat) : Subs := fun n => bif Nat.beq n 2 then some (loopV Tryz.prog t2 (e2 k)) else none
noncomputable def f (k : Nat) (a0 : Int) : T ByteArray :=
  .test (bNot (iEq (10) (0)))
   (.bnd (iter (ref05_digits.s2 k) k (a0, (sRows [[.int .u8 (iCv .u8 (iAdd .i64 (48) (iRem a0 (10))))]]))) default fun r0 =>
   .ret r0)
   (.fail)
noncomputable def d (k : Nat) : Fun := mkFun [3] (fun as_ => f k (vInt (vN as_ 0))) default (fun r => .str r)
theorem hC (k : Nat) : CxOk (C k) := CxOk.nil
theorem l2 (k : Nat) : LoopOk Tryz.prog (S k) (lp (bodyF (Go.Proofs.Tryz.f85)) 0) := loopOk_mk (C := C k) (hC k) (Loops.all (n := 0) (by kernel_rfl) trivial) (lt := t2) (den := e2 k) (by kernel_rfl) (N := Unit) (A := (Int × ByteArray)) (R := ByteArray)
 (fun n x => a2 x) (fun n r => o2_0 r) (fun n x => s2 k x) k (fun d => ()) (fun d => ((aI (aN d.a 0)), (aS (aN d.a 1)))) (fun d y h => out1_eval h) (fun d => by kernel_rfl) (fun n x => by kernel_rfl) (fun n r => ⟨_, rfl⟩)
theorem ok (k : Nat) : FunOk Tryz.prog 85 (d k) := fun_mk (C := C k) (hC k) (S := S k) Tryz.func85 (by kernel_rfl) (by kernel_rfl) (Loops.all (n := 1) (by kernel_rfl) ⟨trivial, l2 k⟩) (fun as_ => by kernel_rfl)
end ref05_digits
namespace ref05_quoted
noncomputable def C (k : Nat) : Cx := ⟨Tryz.prog, tab [], [], [], tab []⟩
noncomputable def t4 : LoopT := ⟨⟨45, [], [(0, .str), (3, .sl 5 (some 7)), (4, .int .i64)], [], [], []⟩, (fun | .exit 0 => some ⟨45, [], [(3, .sl 5 (some 7))], [], [], []⟩ | _ => none)⟩
noncomputable def s4 (k : Nat) (c0 : ByteArray) (x : (Rows × Int)) : T ((Rows × Int) ⊕ Rows) :=
  .test (iLt x.2 (sLen c0))
   (.test (iIn x.2 (sLen c0))
    (.test (iEq (sAt c0 x.2) (10))
     (.test (rOk 1 (rLen x.1) (rLen [[.int .u8 (92)], [.int .u8 (110)]]))
      (.ret (.inl ((rCat x.1 [[.int .u8 (92)], [.int .u8 (110)]]), (iAdd .i64 x.2 (1)))))
      (.fail))
     (.test (iIn x.2 (sLen c0))
      (.test (bImp (bNot (iEq (sAt c0 x.2) (34))) (iIn x.2 (sLen c0)))
       (.test (bIte (iEq (sAt c0 x.2) (34)) true (iEq (sAt c0 x.2) (92)))
        (.test (rOk 1 (rLen x.1) (rLen [[.int .u8 (92)]]))
         (.test (iIn x.2 (sLen c0))
          (.test (rOk 1 (rLen (rCat x.1 [[.int .u8 (92)]])) (rLen [[.int .u8 (sAt c0 x.2)]]))
           (.ret (.inl ((rCat (rCat x.1 [[.int .u8 (92)]]) [[.int .u8 (sAt c0 x.2)]]), (iAdd .i64 x.2 (1)))))
           (.fail))
          (.fail))
         (.fail))
        (.test (iIn x.2 (sLen c0))
         (.test (rOk 1 (rLen x.1) (rLen [[.int .u8 (sAt c0 x.2)]]))
          (.ret (.inl ((rCat x.1 [[.int .u8 (sAt c0 x.2)]]), (iAdd .i64 x.2 (1)))))
          (.fail))
         (.fail)))
       (.fail))
      (.fail)))
    (.fail))
   (.ret (.inr x.1))
noncomputable def a4 (c0 : ByteArray) (x : (Rows × Int)) : Dt := ⟨[.s c0, .r x.1, .i x.2], [], [], []⟩
noncomputable def o4_0 (c0 : ByteArray) (r : Rows) : X × Dt := (.exit 0, ⟨[.r r], [], [], []⟩)
noncomputable def e4 (k : Nat) (d : Dt) : T (X × Dt) := out1 (iter (s4 k (aS (aN d.a 0))) k ((aR (aN d.a 1)), (aI (aN d.a 2)))) default (o4_0 (aS (aN d.a 0)))
noncomputable def S (k : Nat) : Subs := fun n => bif Nat.beq n 4 then some (loopV Tryz.prog t4 (e4 k)) else none
noncomputable def f (k : Nat) (a0 : ByteArray) : T ByteArray :=
  .test (rOk 1 (0) (rLen [[.int .u8 (34)]]))
   (.bnd (iter (ref05_quoted.s4 k a0) k ([[.int .u8 (34)]], (0))) default fun r0 =>
   .test (rOk 1 (rLen r0) (rLen [[.int .u8 (34)]]))
    (.ret (sRows (rCat r0 [[.int .u8 (34)]])))
    (.fail))
   (.fail)
noncomputable def d (k : Nat) : Fun := mkFun [9] (fun as_ => f k (vStr (vN as_ 0))) default (fun r => .str r)
theorem hC (k : Nat) : CxOk (C k) := CxOk.nil
theorem l4 (k : Nat) : LoopOk Tryz.prog (S k) (lp (bodyF (Go.Proofs.Tryz.f86)) 0) := loopOk_mk (C := C k) (hC k) (Loops.all (n := 0) (by kernel_rfl) trivial) (lt := t4) (den := e4 k) (by kernel_rfl) (N := ByteArray) (A := (Rows × Int)) (R := Rows)
 (fun n x => a4 n x) (fun n r => o4_0 n r) (fun n x => s4 k n x) k (fun d => (aS (aN d.a 0))) (fun d => ((aR (aN d.a 1)), (aI (aN d.a 2)))) (fun d y h => out1_eval h) (fun d => by kernel_rfl) (fun n x => by kernel_rfl) (fun n r => ⟨_, rfl⟩)
theorem ok (k : Nat) : FunOk Tryz.prog 86 (d k) := fun_mk (C := C k) (hC k) (S := S k) Tryz.func86 (by kernel_rfl) (by kernel_rfl) (Loops.all (n := 1) (by kernel_rfl) ⟨trivial, l4 k⟩) (fun as_ => by kernel_rfl)
end ref05_quoted
namespace ref05_text
noncomputable def F (self : Row → T ByteArray) : Fun := mkFun [110] (fun as_ => self (vRow (vN as_ 0))) default (fun r => .str r)
noncomputable def C (k : Nat) (self : Row → T ByteArray) : Cx := ⟨Tryz.prog, tab [(85, ref05_digits.d k), (86, ref05_quoted.d k), (68, F self)], [], [], tab []⟩
noncomputable def t16 : LoopT := ⟨⟨92, [], [(1, .ptr 1 0), (3, .str), (4, .int .i64)], [], [(1, 110)], []⟩, (fun | .exit 0 => some ⟨92, [], [(3, .str)], [], [], []⟩ | _ => none)⟩
noncomputable def s16 (k : Nat) (self : Row → T ByteArray) (c0 : Row) (x : (ByteArray × Int)) : T ((ByteArray × Int) ⊕ ByteArray) :=
  .test (iLt x.2 (rLen (rSl c0 3)))
   (.test (iLt (0) x.2)
    (.test (sOk (sLen x.1) (sLen (bs [44])))
     (.test (iIn x.2 (rLen (rSl c0 3)))
      (.bnd (self (et 110 (rAt (rSl c0 3) x.2))).eval default fun r0 =>
      .test (sOk (sLen (sCat x.1 (bs [44]))) (sLen r0))
       (.ret (.inl ((sCat (sCat x.1 (bs [44])) r0), (iAdd .i64 x.2 (1)))))
       (.fail))
      (.fail))
     (.fail))
    (.test (iIn x.2 (rLen (rSl c0 3)))
     (.bnd (self (et 110 (rAt (rSl c0 3) x.2))).eval default fun r1 =>
     .test (sOk (sLen x.1) (sLen r1))
      (.ret (.inl ((sCat x.1 r1), (iAdd .i64 x.2 (1)))))
      (.fail))
     (.fail)))
   (.ret (.inr x.1))
noncomputable def a16 (c0 : Row) (x : (ByteArray × Int)) : Dt := ⟨[.u, .s x.1, .i x.2], [], [et 110 c0], []⟩
noncomputable def o16_0 (c0 : Row) (r : ByteArray) : X × Dt := (.exit 0, ⟨[.s r], [], [], []⟩)
noncomputable def e16 (k : Nat) (self : Row → T ByteArray) (d : Dt) : T (X × Dt) := out1 (iter (s16 k self (d.r.getD 0 [])) k ((aS (aN d.a 1)), (aI (aN d.a 2)))) default (o16_0 (d.r.getD 0 []))
noncomputable def t23 : LoopT := ⟨⟨92, [], [(1, .ptr 1 0), (3, .str), (5, .int .i64)], [], [(1, 110)], []⟩, (fun | .exit 2 => some ⟨92, [], [(3, .str)], [], [], []⟩ | _ => none)⟩
noncomputable def s23 (k : Nat) (self : Row → T ByteArray) (c0 : Row) (x : (ByteArray × Int)) : T ((ByteArray × Int) ⊕ ByteArray) :=
  .test (iLt x.2 (rLen (rSl c0 4)))
   (.test (iLt (0) x.2)
    (.test (sOk (sLen x.1) (sLen (bs [44])))
     (.test (iIn x.2 (rLen (rSl c0 4)))
      (.bnd (ref05_quoted.f k (rStr (rAt (rSl c0 4) x.2) 0)).eval default fun r0 =>
      .test (sOk (sLen (sCat x.1 (bs [44]))) (sLen r0))
       (.test (sOk (sLen (sCat (sCat x.1 (bs [44])) r0)) (sLen (bs [58])))
        (.test (iIn x.2 (rLen (rSl c0 4)))
         (.bnd (self (eo 110 (rAt (rSl c0 4) x.2) 1)).eval default fun r1 =>
         .test (sOk (sLen (sCat (sCat (sCat x.1 (bs [44])) r0) (bs [58]))) (sLen r1))
          (.ret (.inl ((sCat (sCat (sCat (sCat x.1 (bs [44])) r0) (bs [58])) r1), (iAdd .i64 x.2 (1)))))
          (.fail))
         (.fail))
        (.fail))
       (.fail))
      (.fail))
     (.fail))
    (.test (iIn x.2 (rLen (rSl c0 4)))
     (.bnd (ref05_quoted.f k (rStr (rAt (rSl c0 4) x.2) 0)).eval default fun r2 =>
     .test (sOk (sLen x.1) (sLen r2))
      (.test (sOk (sLen (sCat x.1 r2)) (sLen (bs [58])))
       (.test (iIn x.2 (rLen (rSl c0 4)))
        (.bnd (self (eo 110 (rAt (rSl c0 4) x.2) 1)).eval default fun r3 =>
        .test (sOk (sLen (sCat (sCat x.1 r2) (bs [58]))) (sLen r3))
         (.ret (.inl ((sCat (sCat (sCat x.1 r2) (bs [58])) r3), (iAdd .i64 x.2 (1)))))
         (.fail))
        (.fail))
       (.fail))
      (.fail))
     (.fail)))
   (.ret (.inr x.1))
noncomputable def a23 (c0 : Row) (x : (ByteArray × Int)) : Dt := ⟨[.u, .s x.1, .i x.2], [], [et 110 c0], []⟩
noncomputable def o23_0 (c0 : Row) (r : ByteArray) : X × Dt := (.exit 2, ⟨[.s r], [], [], []⟩)
noncomputable def e23 (k : Nat) (self : Row → T ByteArray) (d : Dt) : T (X × Dt) := out1 (iter (s23 k self (d.r.getD 0 [])) k ((aS (aN d.a 1)), (aI (aN d.a 2)))) default (o23_0 (d.r.getD 0 []))
noncomputable def S (k : Nat) (self : Row → T ByteArray) : Subs := fun n => bif Nat.beq n 16 then some (loopV Tryz.prog t16 (e16 k self)) else bif Nat.beq n 23 then some (loopV Tryz.prog t23 (e23 k self)) else none
noncomputable def f : Nat → Row → T ByteArray
  | 0, _ => .fail
  | k + 1, a0 =>
  .test (iEq (rInt a0 0) (0))
   (.ret (bs [110, 117, 108, 108]))
   (.test (iEq (rInt a0 0) (1))
    (.test (iEq (rInt a0 1) (1))
     (.ret (bs [116, 114, 117, 101]))
     (.ret (bs [102, 97, 108, 115, 101])))
    (.test (iEq (rInt a0 0) (2))
     (.test (iLt (rInt a0 1) (0))
      (.bnd (ref05_digits.f k (iSub .i64 (0) (rInt a0 1))).eval default fun r0 =>
      .test (sOk (sLen (bs [45])) (sLen r0))
       (.ret (sCat (bs [45]) r0))
       (.fail))
      (.bnd (ref05_digits.f k (rInt a0 1)).eval default fun r1 =>
      .ret r1))
     (.test (iEq (rInt a0 0) (3))
      (.bnd (ref05_quoted.f k (rStr a0 2)).eval default fun r2 =>
      .ret r2)
      (.test (iEq (rInt a0 0) (4))
       (.bnd (iter (ref05_text.s16 k (f k) (et 110 a0)) k (ByteArray.empty, (0))) default fun r3 =>
       .test (sOk (sLen (bs [91])) (sLen r3))
        (.test (sOk (sLen (sCat (bs [91]) r3)) (sLen (bs [93])))
         (.ret (sCat (sCat (bs [91]) r3) (bs [93])))
         (.fail))
        (.fail))
       (.bnd (iter (ref05_text.s23 k (f k) (et 110 a0)) k (ByteArray.empty, (0))) default fun r4 =>
       .test (sOk (sLen (bs [123])) (sLen r4))
        (.test (sOk (sLen (sCat (bs [123]) r4)) (sLen (bs [125])))
         (.ret (sCat (sCat (bs [123]) r4) (bs [125])))
         (.fail))
        (.fail))))))
noncomputable def d (k : Nat) : Fun := F (f k)
theorem hC (k : Nat) (self : Row → T ByteArray) (ih : FunOk Tryz.prog 68 (F self)) : CxOk (C k self) := CxOk.cons (p := (85, ref05_digits.d k)) (ref05_digits.ok k) (CxOk.cons (p := (86, ref05_quoted.d k)) (ref05_quoted.ok k) (CxOk.cons (p := (68, F self)) ih (CxOk.nil)))
theorem l16 (k : Nat) (self : Row → T ByteArray) (ih : FunOk Tryz.prog 68 (F self)) : LoopOk Tryz.prog (S k self) (lp (bodyF (Go.Proofs.Tryz.f68)) 0) := loopOk_mk (C := C k self) (hC k self ih) (Loops.all (n := 0) (by kernel_rfl) trivial) (lt := t16) (den := e16 k self) (by kernel_rfl) (N := Row) (A := (ByteArray × Int)) (R := ByteArray)
 (fun n x => a16 n x) (fun n r => o16_0 n r) (fun n x => s16 k self n x) k (fun d => (d.r.getD 0 [])) (fun d => ((aS (aN d.a 1)), (aI (aN d.a 2)))) (fun d y h => out1_eval h) (fun d => by kernel_rfl) (fun n x => by kernel_rfl) (fun n r => ⟨_, rfl⟩)
theorem l23 (k : Nat) (self : Row → T ByteArray) (ih : FunOk Tryz.prog 68 (F self)) : LoopOk Tryz.prog (S k self) (lp (bodyF (Go.Proofs.Tryz.f68)) 1) := loopOk_mk (C := C k self) (hC k self ih) (Loops.all (n := 0) (by kernel_rfl) trivial) (lt := t23) (den := e23 k self) (by kernel_rfl) (N := Row) (A := (ByteArray × Int)) (R := ByteArray)
 (fun n x => a23 n x) (fun n r => o23_0 n r) (fun n x => s23 k self n x) k (fun d => (d.r.getD 0 [])) (fun d => ((aS (aN d.a 1)), (aI (aN d.a 2)))) (fun d y h => out1_eval h) (fun d => by kernel_rfl) (fun n x => by kernel_rfl) (fun n r => ⟨_, rfl⟩)
theorem ok : ∀ k, FunOk Tryz.prog 68 (d k)
  | 0 => fun_zero Tryz.func68 (by kernel_rfl) (by kernel_rfl) (fun _ => rfl)
  | k + 1 => fun_mk (C := C k (f k)) (hC k (f k) (ok k)) (S := S k (f k)) Tryz.func68 (by kernel_rfl) (by kernel_rfl) (Loops.all (n := 2) (by kernel_rfl) ⟨⟨trivial, l16 k (f k) (ok k)⟩, l23 k (f k) (ok k)⟩) (fun as_ => by kernel_rfl)
end ref05_text
namespace ref05_Print
noncomputable def C (k : Nat) : Cx := ⟨Tryz.prog, tab [(67, ref04_Valid.d k), (68, ref05_text.d k)], [], [], tab []⟩
noncomputable def S (k : Nat) : Subs := fun n => none
noncomputable def f (k : Nat) (a0 : Row) : T (ByteArray × Int) :=
  .bnd (ref04_Valid.f k (et 110 a0)).eval default fun r0 =>
  .test (bNot r0)
   (.ret (ByteArray.empty, (1)))
   (.bnd (ref05_text.f k (et 110 a0)).eval default fun r1 =>
   .test (iLt (20000) (sLen r1))
    (.ret (ByteArray.empty, (4)))
    (.ret (r1, (0))))
noncomputable def d (k : Nat) : Fun := mkFun [110] (fun as_ => f k (vRow (vN as_ 0))) default (fun r => .tuple [.str r.1, .int .i64 r.2])
theorem hC (k : Nat) : CxOk (C k) := CxOk.cons (p := (67, ref04_Valid.d k)) (ref04_Valid.ok k) (CxOk.cons (p := (68, ref05_text.d k)) (ref05_text.ok k) (CxOk.nil))
theorem ok (k : Nat) : FunOk Tryz.prog 58 (d k) := fun_mk (C := C k) (hC k) (S := S k) Tryz.func58 (by kernel_rfl) (by kernel_rfl) (Loops.all (n := 0) (by kernel_rfl) trivial) (fun as_ => by kernel_rfl)
end ref05_Print
namespace ref33_Hash
noncomputable def C (k : Nat) : Cx := ⟨Tryz.prog, tab [(59, ref19_FromTemplate.d k), (58, ref05_Print.d k)], [], [], tab []⟩
noncomputable def t4 : LoopT := ⟨⟨47, [], [(3, .str), (5, .int .u32), (6, .int .i64)], [], [], []⟩, (fun | .exit 0 => some ⟨47, [], [(5, .int .u32)], [], [], []⟩ | _ => none)⟩
noncomputable def s4 (k : Nat) (c0 : ByteArray) (x : (Int × Int)) : T ((Int × Int) ⊕ Int) :=
  .test (iLt x.2 (sLen c0))
   (.test (iIn x.2 (sLen c0))
    (.ret (.inl ((iMul .u32 (iXor .u32 x.1 (iCv .u32 (sAt c0 x.2))) (16777619)), (iAdd .i64 x.2 (1)))))
    (.fail))
   (.ret (.inr x.1))
noncomputable def a4 (c0 : ByteArray) (x : (Int × Int)) : Dt := ⟨[.s c0, .i x.1, .i x.2], [], [], []⟩
noncomputable def o4_0 (c0 : ByteArray) (r : Int) : X × Dt := (.exit 0, ⟨[.i r], [], [], []⟩)
noncomputable def e4 (k : Nat) (d : Dt) : T (X × Dt) := out1 (iter (s4 k (aS (aN d.a 0))) k ((aI (aN d.a 1)), (aI (aN d.a 2)))) default (o4_0 (aS (aN d.a 0)))
noncomputable def t10 : LoopT := ⟨⟨47, [], [(5, .int .u32), (7, .str), (8, .str), (9, .int .i64)], [], [], []⟩, (fun | .exit 2 => some ⟨47, [], [(8, .str)], [], [], []⟩ | _ => none)⟩
noncomputable def s10 (k : Nat) (c0 : ByteArray) (x : (Int × ByteArray × Int)) : T ((Int × ByteArray × Int) ⊕ ByteArray) :=
  .test (iLt x.2.2 (8))
   (.test (bNot (iEq (268435456) (0)))
    (.test (iCut (iCv .i64 (iQuo .u32 x.1 (268435456))) (iAdd .i64 (iCv .i64 (iQuo .u32 x.1 (268435456))) (1)) (sLen c0))
     (.test (sOk (sLen x.2.1) (sLen (sCut c0 (iCv .i64 (iQuo .u32 x.1 (268435456))) (iAdd .i64 (iCv .i64 (iQuo .u32 x.1 (268435456))) (1)))))
      (.ret (.inl ((iMul .u32 x.1 (16)), (sCat x.2.1 (sCut c0 (iCv .i64 (iQuo .u32 x.1 (268435456))) (iAdd .i64 (iCv .i64 (iQuo .u32 x.1 (268435456))) (1)))), (iAdd .i64 x.2.2 (1)))))
      (.fail))
     (.fail))
    (.fail))
   (.ret (.inr x.2.1))
noncomputable def a10 (c0 : ByteArray) (x : (Int × ByteArray × Int)) : Dt := ⟨[.i x.1, .s c0, .s x.2.1, .i x.2.2], [], [], []⟩
noncomputable def o10_0 (c0 : ByteArray) (r : ByteArray) : X × Dt := (.exit 2, ⟨[.s r], [], [], []⟩)
noncomputable def e10 (k : Nat) (d : Dt) : T (X × Dt) := out1 (iter (s10 k (aS (aN d.a 1))) k ((aI (aN d.a 0)), (aS (aN d.a 2)), (aI (aN d.a 3)))) default (o10_0 (aS (aN d.a 1)))
noncomputable def S (k : Nat) : Subs := fun n => bif Nat.beq n 4 then some (loopV Tryz.prog t4 (e4 k)) else bif Nat.beq n 10 then some (loopV Tryz.prog t10 (e10 k)) else none
noncomputable def f (k : Nat) (a0 : Row) : T ByteArray :=
  .bnd (ref19_FromTemplate.f k (et 37 a0)).eval default fun r0 =>
  .bnd (ref05_Print.f k (et 110 r0)).eval default fun r1 =>
  .bnd (iter (ref33_Hash.s4 k r1.1) k ((2166136261), (0))) default fun r2 =>
  .bnd (iter (ref33_Hash.s10 k (bs [97, 98, 99, 100, 101, 102, 103, 104, 105, 106, 107, 108, 109, 110, 111, 112])) k (r2, (ByteArray.empty, (0)))) default fun r3 =>
  .ret r3
noncomputable def d (k : Nat) : Fun := mkFun [37] (fun as_ => f k (vRow (vN as_ 0))) default (fun r => .str r)
theorem hC (k : Nat) : CxOk (C k) := CxOk.cons (p := (59, ref19_FromTemplate.d k)) (ref19_FromTemplate.ok k) (CxOk.cons (p := (58, ref05_Print.d k)) (ref05_Print.ok k) (CxOk.nil))
theorem l4 (k : Nat) : LoopOk Tryz.prog (S k) (lp (bodyF (Go.Proofs.Tryz.f41)) 0) := loopOk_mk (C := C k) (hC k) (Loops.all (n := 0) (by kernel_rfl) trivial) (lt := t4) (den := e4 k) (by kernel_rfl) (N := ByteArray) (A := (Int × Int)) (R := Int)
 (fun n x => a4 n x) (fun n r => o4_0 n r) (fun n x => s4 k n x) k (fun d => (aS (aN d.a 0))) (fun d => ((aI (aN d.a 1)), (aI (aN d.a 2)))) (fun d y h => out1_eval h) (fun d => by kernel_rfl) (fun n x => by kernel_rfl) (fun n r => ⟨_, rfl⟩)
theorem l10 (k : Nat) : LoopOk Tryz.prog (S k) (lp (bodyF (Go.Proofs.Tryz.f41)) 1) := loopOk_mk (C := C k) (hC k) (Loops.all (n := 0) (by kernel_rfl) trivial) (lt := t10) (den := e10 k) (by kernel_rfl) (N := ByteArray) (A := (Int × ByteArray × Int)) (R := ByteArray)
 (fun n x => a10 n x) (fun n r => o10_0 n r) (fun n x => s10 k n x) k (fun d => (aS (aN d.a 1))) (fun d => ((aI (aN d.a 0)), (aS (aN d.a 2)), (aI (aN d.a 3)))) (fun d y h => out1_eval h) (fun d => by kernel_rfl) (fun n x => by kernel_rfl) (fun n r => ⟨_, rfl⟩)
theorem ok (k : Nat) : FunOk Tryz.prog 41 (d k) := fun_mk (C := C k) (hC k) (S := S k) Tryz.func41 (by kernel_rfl) (by kernel_rfl) (Loops.all (n := 2) (by kernel_rfl) ⟨⟨trivial, l4 k⟩, l10 k⟩) (fun as_ => by kernel_rfl)
end ref33_Hash
namespace law47_member
noncomputable def C (k : Nat) : Cx := ⟨Tryz.prog, tab [(34, ref13_Child.d k), (41, ref33_Hash.d k)], [], [], tab []⟩
noncomputable def S (k : Nat) : Subs := fun n => none
noncomputable def f (k : Nat) (a0 : Row) (a1 : Int) (a2 : Bool) : T Row :=
  .bnd (ref13_Child.f k (rStr a0 2) a1).eval default fun r0 =>
  .bnd (ref33_Hash.f k (eo 37 a0 18)).eval default fun r1 =>
  .test a2
   (.ret [.str (bs [80, 111, 100]), .str (rStr a0 1), .str r0, .int .i64 (0), .int .i64 (0), .int .i64 (0), .int .i64 (0), .bool false, .int .i64 (0), .slice 89 [[.str (bs [116, 101, 109, 112, 108, 97, 116, 101, 45, 104, 97, 115, 104]), .str r1]] .open, .slice 86 [[.str (bs [83, 116, 97, 116, 101, 102, 117, 108, 83, 101, 116]), .str (bs [100, 98]), .int .i64 (rInt a0 3), .bool true, .bool false]] .open, .slice 9 [] .open, .slice 229 [] .open, .str (bs [110]), .int .i64 (0), .int .i64 (0), .int .i64 (0), .slice 164 [] .open, .slice 168 [] .open, .slice 172 [] .open, .slice 176 [] .open, .slice 180 [] .open, .slice 184 [] .open, .int .i64 (1), .bool true, .int .i64 (0), .int .i64 (0), .int .i64 (0), .slice 231 [] .open, .int .i64 (0), .str ByteArray.empty, .str ByteArray.empty])
   (.ret [.str (bs [80, 111, 100]), .str (rStr a0 1), .str r0, .int .i64 (0), .int .i64 (0), .int .i64 (0), .int .i64 (0), .bool false, .int .i64 (0), .slice 89 [[.str (bs [116, 101, 109, 112, 108, 97, 116, 101, 45, 104, 97, 115, 104]), .str r1]] .open, .slice 86 [[.str (bs [83, 116, 97, 116, 101, 102, 117, 108, 83, 101, 116]), .str (bs [100, 98]), .int .i64 (rInt a0 3), .bool true, .bool false]] .open, .slice 9 [] .open, .slice 229 [] .open, .str (bs [110]), .int .i64 (0), .int .i64 (0), .int .i64 (0), .slice 164 [] .open, .slice 168 [] .open, .slice 172 [] .open, .slice 176 [] .open, .slice 180 [] .open, .slice 184 [] .open, .int .i64 (0), .bool false, .int .i64 (0), .int .i64 (0), .int .i64 (0), .slice 231 [] .open, .int .i64 (0), .str ByteArray.empty, .str ByteArray.empty])
noncomputable def d (k : Nat) : Fun := mkFun [41, 3, 4] (fun as_ => f k (vRow (vN as_ 0)) (vInt (vN as_ 1)) (vBool (vN as_ 2))) default (fun r => .agg (et 61 r))
theorem hC (k : Nat) : CxOk (C k) := CxOk.cons (p := (34, ref13_Child.d k)) (ref13_Child.ok k) (CxOk.cons (p := (41, ref33_Hash.d k)) (ref33_Hash.ok k) (CxOk.nil))
theorem ok (k : Nat) : FunOk Tryz.prog 24 (d k) := fun_mk (C := C k) (hC k) (S := S k) Tryz.func24 (by kernel_rfl) (by kernel_rfl) (Loops.all (n := 0) (by kernel_rfl) trivial) (fun as_ => by kernel_rfl)
end law47_member
namespace meta_Controller
noncomputable def C (k : Nat) : Cx := ⟨Tryz.prog, tab [], [], [], tab []⟩
noncomputable def t2 : LoopT := ⟨⟨18, [], [(2, .ptr 2 0), (7, .sl 86 none), (8, .int .i64), (9, .int .i64)], [], [(2, 86)], []⟩, (fun | .ret => some ⟨18, [], [(2, .ptr 2 0), (3, .bool)], [], [(2, 86)], []⟩ | .exit 0 => some ⟨18, [], [(2, .ptr 2 0)], [], [(2, 86)], []⟩ | _ => none)⟩
noncomputable def s2 (k : Nat) (c0 : Rows) (c1 : Int) (c2 : Row) (x : Int) : T (Int ⊕ ((Bool × Row) ⊕ Unit)) :=
  .test (iLt x c1)
   (.test (iIn x (rLen c0))
    (.test (rBool (rAt c0 x) 3)
     (.ret (.inr (.inl (true, (et 86 (rAt c0 x))))))
     (.ret (.inl (iAdd .i64 x (1)))))
    (.fail))
   (.ret (.inr (.inr ())))
noncomputable def a2 (c0 : Rows) (c1 : Int) (c2 : Row) (x : Int) : Dt := ⟨[.u, .r c0, .i c1, .i x], [], [et 86 c2], []⟩
noncomputable def o2_0 (c0 : Rows) (c1 : Int) (c2 : Row) (r : (Bool × Row)) : X × Dt := (.ret, ⟨[.u, .b r.1], [], [r.2], []⟩)
noncomputable def o2_1 (c0 : Rows) (c1 : Int) (c2 : Row) (r : Unit) : X × Dt := (.exit 0, ⟨[.u], [], [(et 86 c2)], []⟩)
noncomputable def e2 (k : Nat) (d : Dt) : T (X × Dt) := out2 (iter (s2 k (aR (aN d.a 1)) (aI (aN d.a 2)) (d.r.getD 0 [])) k (aI (aN d.a 3))) (o2_0 (aR (aN d.a 1)) (aI (aN d.a 2)) (d.r.getD 0 [])) (o2_1 (aR (aN d.a 1)) (aI (aN d.a 2)) (d.r.getD 0 []))
noncomputable def S (k : Nat) : Subs := fun n => bif Nat.beq n 2 then some (loopV Tryz.prog t2 (e2 k)) else none
noncomputable def f (k : Nat) (a0 : Row) : T (Row × Bool) :=
  .cas (iter (meta_Controller.s2 k (rSl a0 10) (rLen (rSl a0 10)) [.str ByteArray.empty, .str ByteArray.empty, .int .i64 (0), .bool false, .bool false]) k (0)) (fun r0 =>
   .ret ((et 86 r0.2), r0.1)) (fun r1 =>
   .ret ([.str ByteArray.empty, .str ByteArray.empty, .int .i64 (0), .bool false, .bool false], false))
noncomputable def d (k : Nat) : Fun := mkFun [27] (fun as_ => f k (vRow (vN as_ 0))) default (fun r => .tuple [.agg (et 86 r.1), .bool r.2])
theorem hC (k : Nat) : CxOk (C k) := CxOk.nil
theorem l2 (k : Nat) : LoopOk Tryz.prog (S k) (lp (bodyF (Go.Proofs.Tryz.f43)) 0) := loopOk_mk (C := C k) (hC k) (Loops.all (n := 0) (by kernel_rfl) trivial) (lt := t2) (den := e2 k) (by kernel_rfl) (N := (Rows × Int × Row)) (A := Int) (R := ((Bool × Row) ⊕ Unit))
 (fun n x => a2 n.1 n.2.1 n.2.2 x) (fun n r => Sum.elim (o2_0 n.1 n.2.1 n.2.2) (o2_1 n.1 n.2.1 n.2.2) r) (fun n x => s2 k n.1 n.2.1 n.2.2 x) k (fun d => ((aR (aN d.a 1)), (aI (aN d.a 2)), (d.r.getD 0 []))) (fun d => (aI (aN d.a 3))) (fun d y h => out2_eval h) (fun d => by kernel_rfl) (fun n x => by kernel_rfl) (fun n r => by rcases r with r | r <;> exact ⟨_, rfl⟩)
theorem ok (k : Nat) : FunOk Tryz.prog 43 (d k) := fun_mk (C := C k) (hC k) (S := S k) Tryz.func43 (by kernel_rfl) (by kernel_rfl) (Loops.all (n := 1) (by kernel_rfl) ⟨trivial, l2 k⟩) (fun as_ => by kernel_rfl)
end meta_Controller
namespace value_String
noncomputable def C (k : Nat) : Cx := ⟨Tryz.prog, tab [], [], [], tab []⟩
noncomputable def S (k : Nat) : Subs := fun n => none
noncomputable def f (k : Nat) (a0 : ByteArray) : T Row :=
  .ret [.int .i64 (3), .int .i64 (0), .str a0, .slice 110 [] .open, .slice 120 [] .open]
noncomputable def d (k : Nat) : Fun := mkFun [9] (fun as_ => f k (vStr (vN as_ 0))) default (fun r => .agg (et 110 r))
theorem hC (k : Nat) : CxOk (C k) := CxOk.nil
theorem ok (k : Nat) : FunOk Tryz.prog 108 (d k) := fun_mk (C := C k) (hC k) (S := S k) Tryz.func108 (by kernel_rfl) (by kernel_rfl) (Loops.all (n := 0) (by kernel_rfl) trivial) (fun as_ => by kernel_rfl)
end value_String
namespace podcodec_field
noncomputable def C (k : Nat) : Cx := ⟨Tryz.prog, tab [], [], [], tab []⟩
noncomputable def S (k : Nat) : Subs := fun n => none
noncomputable def f (k : Nat) (a0 : ByteArray) (a1 : Row) : T Row :=
  .ret (rJ [[.str a0], (et 110 a1)])
noncomputable def d (k : Nat) : Fun := mkFun [9, 110] (fun as_ => f k (vStr (vN as_ 0)) (vRow (vN as_ 1))) default (fun r => .agg (et 120 r))
theorem hC (k : Nat) : CxOk (C k) := CxOk.nil
theorem ok (k : Nat) : FunOk Tryz.prog 78 (d k) := fun_mk (C := C k) (hC k) (S := S k) Tryz.func78 (by kernel_rfl) (by kernel_rfl) (Loops.all (n := 0) (by kernel_rfl) trivial) (fun as_ => by kernel_rfl)
end podcodec_field
namespace slices_Clone_api_Field_api_Field
noncomputable def C (k : Nat) : Cx := ⟨Tryz.prog, tab [], [7], [], tab []⟩
noncomputable def f (k : Nat) (a0 : Rows) : T Rows :=
  .test (rOk 96 (0) (rLen a0))
   (.ret a0)
   (.fail)
noncomputable def d (k : Nat) : Fun := mkFun [108] (fun as_ => f k (vRows (vN as_ 0))) default (fun r => .slice 120 r .open)
noncomputable def fm (k : Nat) (a0 : Rows) : T (Rows × Int) :=
  .test (rOk 96 (0) (rLen a0))
   (.ret (a0, (rLen a0)))
   (.fail)
noncomputable def dm (k : Nat) : FunM := mkFunM 120 false [108] (fun _ as_ => fm k (vRows (vN as_ 0)))
theorem okM (k : Nat) : FunOkM Tryz.prog 102 (dm k) := clone_okM (C := C k) CxOk.nil (S := fun n => none) Tryz.func102 (by kernel_rfl) (by kernel_rfl) (Loops.all (n := 0) (by kernel_rfl) trivial) (t := 108) (el := 120) (by_ := 96) (by kernel_rfl) (fun es b => by kernel_rfl)
theorem ok (k : Nat) : FunOk Tryz.prog 102 (d k) := clone_ok (okM k)
end slices_Clone_api_Field_api_Field
namespace slices_SortStableFunc_api_Field_api_Field
noncomputable def f (k : Nat) (a0 : Rows) : T (Rows × Int) :=
  .test (iLt (rLen a0) 20)
   (.ret ((sortC a0), (rLen a0)))
   (.fail)
noncomputable def dm (k : Nat) : FunM := mkFunU 120 [.fn 104 []] (fun es_ as_ => f k es_)
theorem clo (s t : ByteArray) (c1 c2 c3 c4 c5 d1 d2 d3 d4 d5 : Value) (W : World) : Calls Tryz.prog 104 #[.agg #[.string s, c1, c2, c3, c4, c5], .agg #[.string t, d1, d2, d3, d4, d5]] W fun e w' => e = .returned (.int .i64 (Lib.compareBytes s.data.toList t.data.toList)) ∧ ∃ q os', w' = Go.Sort.grow (W.drewN q) os' := by
  have hcon := fun W' => Any.strings_Compare lay_cmp s t W'
  change ∀ W', Calls Tryz.prog 105 _ _ _ at hcon
  generalize Lib.compareBytes s.data.toList t.data.toList = r at hcon ⊢
  go_enter Tryz.func104, Tryz.ntmps104
  go_wp2_with (go_at_call 105; refine (hcon _).mono ?_; rintro e w' ⟨rfl, rfl⟩)
  go_ret
  exact ⟨rfl, 0, _, by rw [Go.Sort.alloc_eq_grow, Go.Sort.alloc_eq_grow, Go.Sort.grow_grow]; rfl⟩
theorem clo' (s t : ByteArray) (cs ds : List Value) (W : World) (hc : cs.length = 5) (hd : ds.length = 5) : Calls Tryz.prog 104 #[.agg (.string s :: cs).toArray, .agg (.string t :: ds).toArray] W fun e w' => e = .returned (.int .i64 (Lib.compareBytes s.data.toList t.data.toList)) ∧ ∃ q os', w' = Go.Sort.grow (W.drewN q) os' := by
  match cs, hc, ds, hd with
  | [c1, c2, c3, c4, c5], _, [d1, d2, d3, d4, d5], _ => exact clo s t c1 c2 c3 c4 c5 d1 d2 d3 d4 d5 W
theorem ins (blk cap nn : Nat) (enc : Nat → List Value) (key : Nat → ByteArray) (W : World) (h0 : 0 < nn) (h1 : nn < 20) (he : ∀ x, ∃ cs : List Value, enc x = .string (key x) :: cs ∧ cs.length + 1 = 6) (ho : ∀ x, ∀ v ∈ enc x, v.oneCell' = true) (hH : Go.Sort.HoldsK enc 6 W blk 0 (Array.range nn)) (hb : blk < W.heap.size) :
    Calls Tryz.prog 152 #[.slice (some ⟨blk, 0, none⟩) nn cap, .int .i64 0, .int .i64 nn, .func (.func 104) #[] #[]] W fun e w' => e = .returned (.tuple #[]) ∧ ∃ m os, w' = Go.Proofs.sortWorldK enc 6 W blk 0 m (Go.Sort.insertionSort (fun x y => sLt (key x) (key y)) (Array.range nn) 0 nn) os := by
  have hk : ∀ x, (enc x).length = 6 := fun x => by obtain ⟨cs, h1, h2⟩ := he x; rw [h1]; simpa using h2
  have h := AnyQ.insertionSortCmpFunc lay_ins 6 (fun w => by kernel_rfl) (fun w => by kernel_rfl) enc hk ho (fun x y => Lib.compareBytes (key x).data.toList (key y).data.toList) 104 #[] blk 0 cap 0 nn (Array.range nn) W
    (enters_of Tryz.func104 (by kernel_rfl) rfl) (fun m os dk _ x y => by
      obtain ⟨cs, e1, e2⟩ := he x
      obtain ⟨ds, e3, e4⟩ := he y
      rw [e1, e3]
      exact clo' _ _ cs ds _ (by omega) (by omega)) hH hb (Nat.zero_le _) (by simp) (by simp; omega)
  rw [Array.size_range] at h
  have hlt : Go.Proofs.ltOf (fun x y => Lib.compareBytes (key x).data.toList (key y).data.toList) = fun x y => sLt (key x) (key y) := by
    funext x y
    show decide (Lib.compareBytes (key x).data.toList (key y).data.toList < 0) = _
    rw [sCmp_eq]
    unfold sCmp sLt
    cases Op.bytesLess (key x).toList (key y).toList with
    | true => rfl
    | false => cases (key x).toList == (key y).toList <;> rfl
  rw [hlt] at h
  exact h
theorem stable (nn : Nat) (v fv : Value) (W : World) (Q : World → Prop) (h1 : nn < 20) (h : Calls Tryz.prog 152 #[v, .int .i64 0, .int .i64 nn, fv] W fun e w' => e = .returned (.tuple #[]) ∧ Q w') :
    Calls Tryz.prog 136 #[v, .int .i64 nn, fv] W fun e w' => e = .returned (.tuple #[]) ∧ Q w' := by
  have hz : ¬ ((20 : Int) ≤ (nn : Int)) := by omega
  have hz2 : ¬ ((20 : Int) < (nn : Int)) := by omega
  go_enter Tryz.func136, Tryz.ntmps136
  go_wp2
  refine wp_loop_rounds 1 ?_
  rw [rounds_succ]
  go_wp2_with (go_at_call 152; refine h.mono ?_; rintro e w' ⟨rfl, hq⟩)
  refine wp_loop_rounds 1 ?_
  rw [rounds_succ]
  go_wp2
  go_end0
  exact ⟨rfl, hq⟩
theorem whole (nn : Nat) (p : Option Addr) (cap : Nat) (fv : Value) (W : World) (Q : World → Prop) (h1 : nn < 20) (h : Calls Tryz.prog 152 #[.slice p nn cap, .int .i64 0, .int .i64 nn, fv] W fun e w' => e = .returned (.tuple #[]) ∧ Q w') :
    Calls Tryz.prog 103 #[.slice p nn cap, fv] W fun e w' => e = .returned (.tuple #[]) ∧ Q w' := by
  have hs := stable nn (.slice p nn cap) fv W Q h1 h
  go_enter Tryz.func103, Tryz.ntmps103
  go_wp2_with (go_at_call 136; refine hs.mono ?_; rintro e w' ⟨rfl, hq⟩)
  go_end0
  exact ⟨rfl, hq⟩
theorem ins0 (p : Option Addr) (cap : Nat) (fv : Value) (W : World) : Calls Tryz.prog 152 #[.slice p 0 cap, .int .i64 0, .int .i64 0, fv] W fun e w' => e = .returned (.tuple #[]) ∧ w' = W := by
  go_enter Tryz.func152, Tryz.ntmps152
  go_wp2
  refine wp_loop_rounds 1 ?_
  rw [rounds_succ]
  go_wp2
  go_end0
  exact ⟨rfl, rfl⟩
theorem okM (k : Nat) : FunOkM Tryz.prog 103 (dm k) :=
  stab_okM (sz := 6) ⟨_, Tryz.func103, by kernel_rfl, by kernel_rfl⟩ rfl (by kernel_rfl) (by kernel_rfl) (fun r => ⟨(eta Tryz.prog 120 r).drop 1, by kernel_rfl⟩)
    (fun blk cap nn enc key W h0 h1 he ho hH hb => whole nn _ cap _ W (fun w' => ∃ m os, w' = Go.Proofs.sortWorldK enc 6 W blk 0 m (Go.Sort.insertionSort (fun x y => sLt (key x) (key y)) (Array.range nn) 0 nn) os) h1 (ins blk cap nn enc key W h0 h1 he ho hH hb))
    (fun p cap W => whole 0 p cap _ W (fun w' => w' = W) (by omega) (ins0 p cap _ W))
end slices_SortStableFunc_api_Field_api_Field
namespace slices_Clone_api_Value_api_Value
noncomputable def C (k : Nat) : Cx := ⟨Tryz.prog, tab [], [7], [], tab []⟩
noncomputable def f (k : Nat) (a0 : Rows) : T Rows :=
  .test (rOk 80 (0) (rLen a0))
   (.ret a0)
   (.fail)
noncomputable def d (k : Nat) : Fun := mkFun [107] (fun as_ => f k (vRows (vN as_ 0))) default (fun r => .slice 110 r .open)
noncomputable def fm (k : Nat) (a0 : Rows) : T (Rows × Int) :=
  .test (rOk 80 (0) (rLen a0))
   (.ret (a0, (rLen a0)))
   (.fail)
noncomputable def dm (k : Nat) : FunM := mkFunM 110 false [107] (fun _ as_ => fm k (vRows (vN as_ 0)))
theorem okM (k : Nat) : FunOkM Tryz.prog 138 (dm k) := clone_okM (C := C k) CxOk.nil (S := fun n => none) Tryz.func138 (by kernel_rfl) (by kernel_rfl) (Loops.all (n := 0) (by kernel_rfl) trivial) (t := 107) (el := 110) (by_ := 80) (by kernel_rfl) (fun es b => by kernel_rfl)
theorem ok (k : Nat) : FunOk Tryz.prog 138 (d k) := clone_ok (okM k)
end slices_Clone_api_Value_api_Value
namespace value_clone
noncomputable def F (self : Row → T Row) : Fun := mkFun [110] (fun as_ => self (vRow (vN as_ 0))) default (fun r => .agg (et 110 r))
noncomputable def C (k : Nat) (self : Row → T Row) : Cx := ⟨Tryz.prog, tab [(138, slices_Clone_api_Value_api_Value.d k), (102, slices_Clone_api_Field_api_Field.d k), (106, F self)], [9, 28], [(7, 9), (13, 28)], tab [(138, slices_Clone_api_Value_api_Value.dm k), (102, slices_Clone_api_Field_api_Field.dm k)]⟩
noncomputable def t3 : LoopT := ⟨⟨48, [], [(1, .ptr 1 0), (2, .ptr 2 0), (12, .aref 110 9), (13, .int .i64), (14, .int .i64)], [(1, [.int .i64, .int .i64, .str, .aref 110 9, .sl 120 none])], [(2, 110)], [(9, 110)]⟩, (fun | .exit 0 => some ⟨48, [], [(1, .ptr 1 0), (2, .ptr 2 0)], [(1, [.int .i64, .int .i64, .str, .aref 110 9, .sl 120 none])], [(2, 110)], [(9, 110)]⟩ | _ => none)⟩
noncomputable def s3 (k : Nat) (self : Row → T Row) (c0 : Int) (c1 : Int) (c2 : Int) (c3 : Int) (c4 : ByteArray) (c5 : Int) (c6 : Rows) (c7 : Row) (x : (Int × Rows)) : T ((Int × Rows) ⊕ Rows) :=
  .test (iLt x.1 c1)
   (.test (iIn x.1 c0)
    (.bnd (self (et 110 (rAt x.2 x.1))).eval default fun r0 =>
    .test (iIn x.1 c5)
     (.ret (.inl ((iAdd .i64 x.1 (1)), (rSet x.2 x.1 (et 110 r0)))))
     (.fail))
    (.fail))
   (.ret (.inr x.2))
noncomputable def a3 (c0 : Int) (c1 : Int) (c2 : Int) (c3 : Int) (c4 : ByteArray) (c5 : Int) (c6 : Rows) (c7 : Row) (x : (Int × Rows)) : Dt := ⟨[.u, .u, .i c0, .i c1, .i x.1], [[.i c2, .i c3, .s c4, .i c5, .r c6]], [et 110 c7], [x.2]⟩
noncomputable def o3_0 (c0 : Int) (c1 : Int) (c2 : Int) (c3 : Int) (c4 : ByteArray) (c5 : Int) (c6 : Rows) (c7 : Row) (r : Rows) : X × Dt := (.exit 0, ⟨[.u, .u], [[.i c2, .i c3, .s c4, .i c5, .r c6]], [(et 110 c7)], [r]⟩)
noncomputable def e3 (k : Nat) (self : Row → T Row) (d : Dt) : T (X × Dt) := out1 (iter (s3 k self (aI (aN d.a 2)) (aI (aN d.a 3)) (aI (aN (d.b.getD 0 []) 0)) (aI (aN (d.b.getD 0 []) 1)) (aS (aN (d.b.getD 0 []) 2)) (aI (aN (d.b.getD 0 []) 3)) (aR (aN (d.b.getD 0 []) 4)) (d.r.getD 0 [])) k ((aI (aN d.a 4)), (d.m.getD 0 []))) default (o3_0 (aI (aN d.a 2)) (aI (aN d.a 3)) (aI (aN (d.b.getD 0 []) 0)) (aI (aN (d.b.getD 0 []) 1)) (aS (aN (d.b.getD 0 []) 2)) (aI (aN (d.b.getD 0 []) 3)) (aR (aN (d.b.getD 0 []) 4)) (d.r.getD 0 []))
noncomputable def t9 : LoopT := ⟨⟨48, [], [(1, .ptr 1 0), (2, .ptr 2 0), (31, .aref 120 28), (32, .int .i64), (33, .int .i64)], [(1, [.int .i64, .int .i64, .str, .sl 110 none, .aref 120 28])], [(2, 110)], [(28, 120)]⟩, (fun | .exit 2 => some ⟨48, [], [(1, .ptr 1 0), (2, .ptr 2 0)], [(1, [.int .i64, .int .i64, .str, .sl 110 none, .aref 120 28])], [(2, 110)], [(28, 120)]⟩ | _ => none)⟩
noncomputable def s9 (k : Nat) (self : Row → T Row) (c0 : Int) (c1 : Int) (c2 : Int) (c3 : Int) (c4 : ByteArray) (c5 : Rows) (c6 : Int) (c7 : Row) (x : (Int × Rows)) : T ((Int × Rows) ⊕ Rows) :=
  .test (iLt x.1 c1)
   (.test (iIn x.1 c0)
    (.bnd (self (eo 110 (rAt x.2 x.1) 1)).eval default fun r0 =>
    .test (iIn x.1 c6)
     (.ret (.inl ((iAdd .i64 x.1 (1)), (rSet x.2 x.1 (rJ [[.str (rStr (rAt x.2 x.1) 0)], (et 110 r0)])))))
     (.fail))
    (.fail))
   (.ret (.inr x.2))
noncomputable def a9 (c0 : Int) (c1 : Int) (c2 : Int) (c3 : Int) (c4 : ByteArray) (c5 : Rows) (c6 : Int) (c7 : Row) (x : (Int × Rows)) : Dt := ⟨[.u, .u, .i c0, .i c1, .i x.1], [[.i c2, .i c3, .s c4, .r c5, .i c6]], [et 110 c7], [x.2]⟩
noncomputable def o9_0 (c0 : Int) (c1 : Int) (c2 : Int) (c3 : Int) (c4 : ByteArray) (c5 : Rows) (c6 : Int) (c7 : Row) (r : Rows) : X × Dt := (.exit 2, ⟨[.u, .u], [[.i c2, .i c3, .s c4, .r c5, .i c6]], [(et 110 c7)], [r]⟩)
noncomputable def e9 (k : Nat) (self : Row → T Row) (d : Dt) : T (X × Dt) := out1 (iter (s9 k self (aI (aN d.a 2)) (aI (aN d.a 3)) (aI (aN (d.b.getD 0 []) 0)) (aI (aN (d.b.getD 0 []) 1)) (aS (aN (d.b.getD 0 []) 2)) (aR (aN (d.b.getD 0 []) 3)) (aI (aN (d.b.getD 0 []) 4)) (d.r.getD 0 [])) k ((aI (aN d.a 4)), (d.m.getD 0 []))) default (o9_0 (aI (aN d.a 2)) (aI (aN d.a 3)) (aI (aN (d.b.getD 0 []) 0)) (aI (aN (d.b.getD 0 []) 1)) (aS (aN (d.b.getD 0 []) 2)) (aR (aN (d.b.getD 0 []) 3)) (aI (aN (d.b.getD 0 []) 4)) (d.r.getD 0 []))
noncomputable def S (k : Nat) (self : Row → T Row) : Subs := fun n => bif Nat.beq n 3 then some (loopV Tryz.prog t3 (e3 k self)) else bif Nat.beq n 9 then some (loopV Tryz.prog t9 (e9 k self)) else none
noncomputable def f : Nat → Row → T Row
  | 0, _ => .fail
  | k + 1, a0 =>
  .bnd (slices_Clone_api_Value_api_Value.fm k (rSl a0 3)).eval default fun r0 =>
  .bnd (iter (value_clone.s3 k (f k) r0.2 r0.2 (rInt a0 0) (rInt a0 1) (rStr a0 2) r0.2 (rSl a0 4) [.int .i64 (0), .int .i64 (0), .str ByteArray.empty, .slice 110 [] .open, .slice 120 [] .open]) k ((0), r0.1)) default fun r1 =>
  .bnd (slices_Clone_api_Field_api_Field.fm k (rSl a0 4)).eval default fun r2 =>
  .bnd (iter (value_clone.s9 k (f k) r2.2 r2.2 (rInt a0 0) (rInt a0 1) (rStr a0 2) (rTake r1 r0.2) r2.2 [.int .i64 (0), .int .i64 (0), .str ByteArray.empty, .slice 110 [] .open, .slice 120 [] .open]) k ((0), r2.1)) default fun r3 =>
  .ret [.int .i64 (rInt a0 0), .int .i64 (rInt a0 1), .str (rStr a0 2), .slice 110 (rTake r1 r0.2) .open, .slice 120 (rTake r3 r2.2) .open]
noncomputable def d (k : Nat) : Fun := F (f k)
theorem hC (k : Nat) (self : Row → T Row) (ih : FunOk Tryz.prog 106 (F self)) : CxOk (C k self) := CxOk.cons (p := (138, slices_Clone_api_Value_api_Value.d k)) (slices_Clone_api_Value_api_Value.ok k) (CxOk.cons (p := (102, slices_Clone_api_Field_api_Field.d k)) (slices_Clone_api_Field_api_Field.ok k) (CxOk.cons (p := (106, F self)) ih (CxOk.consM (p := (138, slices_Clone_api_Value_api_Value.dm k)) (slices_Clone_api_Value_api_Value.okM k) (CxOk.consM (p := (102, slices_Clone_api_Field_api_Field.dm k)) (slices_Clone_api_Field_api_Field.okM k) (CxOk.nil)))))
theorem l3 (k : Nat) (self : Row → T Row) (ih : FunOk Tryz.prog 106 (F self)) : LoopOk Tryz.prog (S k self) (lp (bodyF (Go.Proofs.Tryz.f106)) 0) := loopOk_mk (C := C k self) (hC k self ih) (Loops.all (n := 0) (by kernel_rfl) trivial) (lt := t3) (den := e3 k self) (by kernel_rfl) (N := (Int × Int × Int × Int × ByteArray × Int × Rows × Row)) (A := (Int × Rows)) (R := Rows)
 (fun n x => a3 n.1 n.2.1 n.2.2.1 n.2.2.2.1 n.2.2.2.2.1 n.2.2.2.2.2.1 n.2.2.2.2.2.2.1 n.2.2.2.2.2.2.2 x) (fun n r => o3_0 n.1 n.2.1 n.2.2.1 n.2.2.2.1 n.2.2.2.2.1 n.2.2.2.2.2.1 n.2.2.2.2.2.2.1 n.2.2.2.2.2.2.2 r) (fun n x => s3 k self n.1 n.2.1 n.2.2.1 n.2.2.2.1 n.2.2.2.2.1 n.2.2.2.2.2.1 n.2.2.2.2.2.2.1 n.2.2.2.2.2.2.2 x) k (fun d => ((aI (aN d.a 2)), (aI (aN d.a 3)), (aI (aN (d.b.getD 0 []) 0)), (aI (aN (d.b.getD 0 []) 1)), (aS (aN (d.b.getD 0 []) 2)), (aI (aN (d.b.getD 0 []) 3)), (aR (aN (d.b.getD 0 []) 4)), (d.r.getD 0 []))) (fun d => ((aI (aN d.a 4)), (d.m.getD 0 []))) (fun d y h => out1_eval h) (fun d => by kernel_rfl) (fun n x => by kernel_rfl) (fun n r => ⟨_, rfl⟩)
theorem l9 (k : Nat) (self : Row → T Row) (ih : FunOk Tryz.prog 106 (F self)) : LoopOk Tryz.prog (S k self) (lp (bodyF (Go.Proofs.Tryz.f106)) 1) := loopOk_mk (C := C k self) (hC k self ih) (Loops.all (n := 0) (by kernel_rfl) trivial) (lt := t9) (den := e9 k self) (by kernel_rfl) (N := (Int × Int × Int × Int × ByteArray × Rows × Int × Row)) (A := (Int × Rows)) (R := Rows)
 (fun n x => a9 n.1 n.2.1 n.2.2.1 n.2.2.2.1 n.2.2.2.2.1 n.2.2.2.2.2.1 n.2.2.2.2.2.2.1 n.2.2.2.2.2.2.2 x) (fun n r => o9_0 n.1 n.2.1 n.2.2.1 n.2.2.2.1 n.2.2.2.2.1 n.2.2.2.2.2.1 n.2.2.2.2.2.2.1 n.2.2.2.2.2.2.2 r) (fun n x => s9 k self n.1 n.2.1 n.2.2.1 n.2.2.2.1 n.2.2.2.2.1 n.2.2.2.2.2.1 n.2.2.2.2.2.2.1 n.2.2.2.2.2.2.2 x) k (fun d => ((aI (aN d.a 2)), (aI (aN d.a 3)), (aI (aN (d.b.getD 0 []) 0)), (aI (aN (d.b.getD 0 []) 1)), (aS (aN (d.b.getD 0 []) 2)), (aR (aN (d.b.getD 0 []) 3)), (aI (aN (d.b.getD 0 []) 4)), (d.r.getD 0 []))) (fun d => ((aI (aN d.a 4)), (d.m.getD 0 []))) (fun d y h => out1_eval h) (fun d => by kernel_rfl) (fun n x => by kernel_rfl) (fun n r => ⟨_, rfl⟩)
theorem ok : ∀ k, FunOk Tryz.prog 106 (d k)
  | 0 => fun_zero Tryz.func106 (by kernel_rfl) (by kernel_rfl) (fun _ => rfl)
  | k + 1 => fun_mk (C := C k (f k)) (hC k (f k) (ok k)) (S := S k (f k)) Tryz.func106 (by kernel_rfl) (by kernel_rfl) (Loops.all (n := 2) (by kernel_rfl) ⟨⟨trivial, l3 k (f k) (ok k)⟩, l9 k (f k) (ok k)⟩) (fun as_ => by kernel_rfl)
end value_clone
namespace value_Map
noncomputable def C (k : Nat) : Cx := ⟨Tryz.prog, tab [(102, slices_Clone_api_Field_api_Field.d k), (106, value_clone.d k)], [8], [(3, 8)], tab [(102, slices_Clone_api_Field_api_Field.dm k), (105000103, slices_SortStableFunc_api_Field_api_Field.dm k)]⟩
noncomputable def t5 : LoopT := ⟨⟨44, [.cell 4 4 39 120], [(2, .ptr 2 0), (3, .sl 120 none), (4, .ptr 4 0), (12, .sl 120 none), (13, .int .i64), (14, .int .i64)], [(4, [.int .i64, .int .i64, .str, .sl 110 none, .sl 120 (some 39)])], [(2, 110)], []⟩, (fun | .exit 0 => some ⟨44, [], [(2, .ptr 2 0), (4, .ptr 4 0)], [(4, [.int .i64, .int .i64, .str, .sl 110 none, .sl 120 (some 39)])], [(2, 110)], []⟩ | _ => none)⟩
noncomputable def s5 (k : Nat) (c0 : Rows) (c1 : Rows) (c2 : Int) (c3 : Int) (c4 : Int) (c5 : ByteArray) (c6 : Rows) (c7 : Row) (x : (Int × Rows)) : T ((Int × Rows) ⊕ Rows) :=
  .test (iLt x.1 c2)
   (.test (iIn x.1 (rLen c1))
    (.test (bImp (bNot (iEq (iAdd .i64 x.1 (1)) (rLen c0))) (iIn (iAdd .i64 x.1 (1)) (rLen c0)))
     (.test (bIte (iEq (iAdd .i64 x.1 (1)) (rLen c0)) true (bNot (sEq (rStr (rAt c0 (iAdd .i64 x.1 (1))) 0) (rStr (rAt c1 x.1) 0))))
      (.test (rOk 96 (rLen x.2) (rLen [(rJ [[.str (rStr (rAt c1 x.1) 0)], (eo 110 (rAt c1 x.1) 1)])]))
       (.ret (.inl ((iAdd .i64 x.1 (1)), (rCat x.2 [(rJ [[.str (rStr (rAt c1 x.1) 0)], (eo 110 (rAt c1 x.1) 1)])]))))
       (.fail))
      (.ret (.inl ((iAdd .i64 x.1 (1)), x.2))))
     (.fail))
    (.fail))
   (.ret (.inr x.2))
noncomputable def a5 (c0 : Rows) (c1 : Rows) (c2 : Int) (c3 : Int) (c4 : Int) (c5 : ByteArray) (c6 : Rows) (c7 : Row) (x : (Int × Rows)) : Dt := ⟨[.u, .r c0, .u, .r c1, .i c2, .i x.1], [[.i c3, .i c4, .s c5, .r c6, .r x.2]], [et 110 c7], []⟩
noncomputable def o5_0 (c0 : Rows) (c1 : Rows) (c2 : Int) (c3 : Int) (c4 : Int) (c5 : ByteArray) (c6 : Rows) (c7 : Row) (r : Rows) : X × Dt := (.exit 0, ⟨[.u, .u], [[.i c3, .i c4, .s c5, .r c6, .r r]], [(et 110 c7)], []⟩)
noncomputable def e5 (k : Nat) (d : Dt) : T (X × Dt) := out1 (iter (s5 k (aR (aN d.a 1)) (aR (aN d.a 3)) (aI (aN d.a 4)) (aI (aN (d.b.getD 0 []) 0)) (aI (aN (d.b.getD 0 []) 1)) (aS (aN (d.b.getD 0 []) 2)) (aR (aN (d.b.getD 0 []) 3)) (d.r.getD 0 [])) k ((aI (aN d.a 5)), (aR (aN (d.b.getD 0 []) 4)))) default (o5_0 (aR (aN d.a 1)) (aR (aN d.a 3)) (aI (aN d.a 4)) (aI (aN (d.b.getD 0 []) 0)) (aI (aN (d.b.getD 0 []) 1)) (aS (aN (d.b.getD 0 []) 2)) (aR (aN (d.b.getD 0 []) 3)) (d.r.getD 0 []))
noncomputable def S (k : Nat) : Subs := fun n => bif Nat.beq n 5 then some (loopV Tryz.prog t5 (e5 k)) else none
noncomputable def f (k : Nat) (a0 : Rows) : T Row :=
  .bnd (slices_Clone_api_Field_api_Field.fm k a0).eval default fun r0 =>
  .test (iEq (rLen (rTake r0.1 r0.2)) (rLen r0.1))
   (.bnd (slices_SortStableFunc_api_Field_api_Field.f k (rTake r0.1 r0.2)).eval default fun r1 =>
   .bnd (iter (value_Map.s5 k (rTake r1.1 r0.2) (rTake r1.1 r0.2) (rLen (rTake r1.1 r0.2)) (5) (0) ByteArray.empty [] [.int .i64 (0), .int .i64 (0), .str ByteArray.empty, .slice 110 [] .open, .slice 120 [] .open]) k ((0), [])) default fun r2 =>
   .bnd (value_clone.f k [.int .i64 (5), .int .i64 (0), .str ByteArray.empty, .slice 110 [] .open, .slice 120 r2 .open]).eval default fun r3 =>
   .ret (et 110 r3))
   (.fail)
noncomputable def d (k : Nat) : Fun := mkFun [108] (fun as_ => f k (vRows (vN as_ 0))) default (fun r => .agg (et 110 r))
theorem hC (k : Nat) : CxOk (C k) := CxOk.cons (p := (102, slices_Clone_api_Field_api_Field.d k)) (slices_Clone_api_Field_api_Field.ok k) (CxOk.cons (p := (106, value_clone.d k)) (value_clone.ok k) (CxOk.consM (p := (102, slices_Clone_api_Field_api_Field.dm k)) (slices_Clone_api_Field_api_Field.okM k) (CxOk.consMK (p := (105000103, slices_SortStableFunc_api_Field_api_Field.dm k)) (by kernel_rfl) (slices_SortStableFunc_api_Field_api_Field.okM k) (CxOk.nil))))
theorem l5 (k : Nat) : LoopOk Tryz.prog (S k) (lp (bodyF (Go.Proofs.Tryz.f77)) 0) := loopOk_mk (C := C k) (hC k) (Loops.all (n := 0) (by kernel_rfl) trivial) (lt := t5) (den := e5 k) (by kernel_rfl) (N := (Rows × Rows × Int × Int × Int × ByteArray × Rows × Row)) (A := (Int × Rows)) (R := Rows)
 (fun n x => a5 n.1 n.2.1 n.2.2.1 n.2.2.2.1 n.2.2.2.2.1 n.2.2.2.2.2.1 n.2.2.2.2.2.2.1 n.2.2.2.2.2.2.2 x) (fun n r => o5_0 n.1 n.2.1 n.2.2.1 n.2.2.2.1 n.2.2.2.2.1 n.2.2.2.2.2.1 n.2.2.2.2.2.2.1 n.2.2.2.2.2.2.2 r) (fun n x => s5 k n.1 n.2.1 n.2.2.1 n.2.2.2.1 n.2.2.2.2.1 n.2.2.2.2.2.1 n.2.2.2.2.2.2.1 n.2.2.2.2.2.2.2 x) k (fun d => ((aR (aN d.a 1)), (aR (aN d.a 3)), (aI (aN d.a 4)), (aI (aN (d.b.getD 0 []) 0)), (aI (aN (d.b.getD 0 []) 1)), (aS (aN (d.b.getD 0 []) 2)), (aR (aN (d.b.getD 0 []) 3)), (d.r.getD 0 []))) (fun d => ((aI (aN d.a 5)), (aR (aN (d.b.getD 0 []) 4)))) (fun d y h => out1_eval h) (fun d => by kernel_rfl) (fun n x => by kernel_rfl) (fun n r => ⟨_, rfl⟩)
theorem ok (k : Nat) : FunOk Tryz.prog 77 (d k) := fun_mk (C := C k) (hC k) (S := S k) Tryz.func77 (by kernel_rfl) (by kernel_rfl) (Loops.all (n := 1) (by kernel_rfl) ⟨trivial, l5 k⟩) (fun as_ => by kernel_rfl)
end value_Map
namespace podcodec_encodeLabel
noncomputable def C (k : Nat) : Cx := ⟨Tryz.prog, tab [(108, value_String.d k), (78, podcodec_field.d k), (77, value_Map.d k)], [], [], tab []⟩
noncomputable def S (k : Nat) : Subs := fun n => none
noncomputable def f (k : Nat) (a0 : Row) : T Row :=
  .bnd (value_String.f k (rStr a0 0)).eval default fun r0 =>
  .bnd (podcodec_field.f k (bs [107, 101, 121]) (et 110 r0)).eval default fun r1 =>
  .bnd (value_String.f k (rStr a0 1)).eval default fun r2 =>
  .bnd (podcodec_field.f k (bs [118, 97, 108, 117, 101]) (et 110 r2)).eval default fun r3 =>
  .bnd (value_Map.f k [(et 120 r1), (et 120 r3)]).eval default fun r4 =>
  .ret (et 110 r4)
noncomputable def d (k : Nat) : Fun := mkFun [89] (fun as_ => f k (vRow (vN as_ 0))) default (fun r => .agg (et 110 r))
theorem hC (k : Nat) : CxOk (C k) := CxOk.cons (p := (108, value_String.d k)) (value_String.ok k) (CxOk.cons (p := (78, podcodec_field.d k)) (podcodec_field.ok k) (CxOk.cons (p := (77, value_Map.d k)) (value_Map.ok k) (CxOk.nil)))
theorem ok (k : Nat) : FunOk Tryz.prog 80 (d k) := fun_mk (C := C k) (hC k) (S := S k) Tryz.func80 (by kernel_rfl) (by kernel_rfl) (Loops.all (n := 0) (by kernel_rfl) trivial) (fun as_ => by kernel_rfl)
end podcodec_encodeLabel
namespace value_List
noncomputable def C (k : Nat) : Cx := ⟨Tryz.prog, tab [(106, value_clone.d k)], [], [], tab []⟩
noncomputable def S (k : Nat) : Subs := fun n => none
noncomputable def f (k : Nat) (a0 : Rows) : T Row :=
  .bnd (value_clone.f k [.int .i64 (4), .int .i64 (0), .str ByteArray.empty, .slice 110 a0 .open, .slice 120 [] .open]).eval default fun r0 =>
  .ret (et 110 r0)
noncomputable def d (k : Nat) : Fun := mkFun [107] (fun as_ => f k (vRows (vN as_ 0))) default (fun r => .agg (et 110 r))
theorem hC (k : Nat) : CxOk (C k) := CxOk.cons (p := (106, value_clone.d k)) (value_clone.ok k) (CxOk.nil)
theorem ok (k : Nat) : FunOk Tryz.prog 107 (d k) := fun_mk (C := C k) (hC k) (S := S k) Tryz.func107 (by kernel_rfl) (by kernel_rfl) (Loops.all (n := 0) (by kernel_rfl) trivial) (fun as_ => by kernel_rfl)
end value_List
namespace podcodec_list_api_Label_c80
noncomputable def C (k : Nat) : Cx := ⟨Tryz.prog, tab [(80, podcodec_encodeLabel.d k), (107, value_List.d k)], [], [], tab []⟩
noncomputable def t3 : LoopT := ⟨⟨23, [.tmp 5 19 110], [(1, .fn 80 []), (4, .ptr 4 0), (5, .sl 110 (some 19)), (8, .sl 89 none), (9, .int .i64), (10, .int .i64)], [], [(4, 110)], []⟩, (fun | .exit 0 => some ⟨23, [], [(4, .ptr 4 0), (5, .sl 110 (some 19))], [], [(4, 110)], []⟩ | _ => none)⟩
noncomputable def s3 (k : Nat) (c0 : Rows) (c1 : Int) (c2 : Row) (x : (Rows × Int)) : T ((Rows × Int) ⊕ Rows) :=
  .test (iLt x.2 c1)
   (.test (iIn x.2 (rLen c0))
    (.bnd (podcodec_encodeLabel.f k (et 89 (rAt c0 x.2))).eval default fun r0 =>
    .test (rOk 80 (rLen x.1) (rLen [(et 110 r0)]))
     (.ret (.inl ((rCat x.1 [(et 110 r0)]), (iAdd .i64 x.2 (1)))))
     (.fail))
    (.fail))
   (.ret (.inr x.1))
noncomputable def a3 (c0 : Rows) (c1 : Int) (c2 : Row) (x : (Rows × Int)) : Dt := ⟨[.c [], .u, .r x.1, .r c0, .i c1, .i x.2], [], [et 110 c2], []⟩
noncomputable def o3_0 (c0 : Rows) (c1 : Int) (c2 : Row) (r : Rows) : X × Dt := (.exit 0, ⟨[.u, .r r], [], [(et 110 c2)], []⟩)
noncomputable def e3 (k : Nat) (d : Dt) : T (X × Dt) := out1 (iter (s3 k (aR (aN d.a 3)) (aI (aN d.a 4)) (d.r.getD 0 [])) k ((aR (aN d.a 2)), (aI (aN d.a 5)))) default (o3_0 (aR (aN d.a 3)) (aI (aN d.a 4)) (d.r.getD 0 []))
noncomputable def S (k : Nat) : Subs := fun n => bif Nat.beq n 3 then some (loopV Tryz.prog t3 (e3 k)) else none
noncomputable def f (k : Nat) (a0 : Rows) : T Row :=
  .bnd (iter (podcodec_list_api_Label_c80.s3 k a0 (rLen a0) [.int .i64 (0), .int .i64 (0), .str ByteArray.empty, .slice 110 [] .open, .slice 120 [] .open]) k ([], (0))) default fun r0 =>
  .bnd (value_List.f k r0).eval default fun r1 =>
  .ret (et 110 r1)
noncomputable def d (k : Nat) : Fun := mkFun [22, .fn 80 []] (fun as_ => f k (vRows (vN as_ 0))) default (fun r => .agg (et 110 r))
theorem hC (k : Nat) : CxOk (C k) := CxOk.cons (p := (80, podcodec_encodeLabel.d k)) (podcodec_encodeLabel.ok k) (CxOk.cons (p := (107, value_List.d k)) (value_List.ok k) (CxOk.nil))
theorem l3 (k : Nat) : LoopOk Tryz.prog (S k) (lp (bodyF (Go.Proofs.Tryz.f79)) 0) := loopOk_mk (C := C k) (hC k) (Loops.all (n := 0) (by kernel_rfl) trivial) (lt := t3) (den := e3 k) (by kernel_rfl) (N := (Rows × Int × Row)) (A := (Rows × Int)) (R := Rows)
 (fun n x => a3 n.1 n.2.1 n.2.2 x) (fun n r => o3_0 n.1 n.2.1 n.2.2 r) (fun n x => s3 k n.1 n.2.1 n.2.2 x) k (fun d => ((aR (aN d.a 3)), (aI (aN d.a 4)), (d.r.getD 0 []))) (fun d => ((aR (aN d.a 2)), (aI (aN d.a 5)))) (fun d y h => out1_eval h) (fun d => by kernel_rfl) (fun n x => by kernel_rfl) (fun n r => ⟨_, rfl⟩)
theorem ok (k : Nat) : FunOk Tryz.prog 79 (d k) := fun_mk (C := C k) (hC k) (S := S k) Tryz.func79 (by kernel_rfl) (by kernel_rfl) (Loops.all (n := 1) (by kernel_rfl) ⟨trivial, l3 k⟩) (fun as_ => by kernel_rfl)
end podcodec_list_api_Label_c80
namespace value_Int
noncomputable def C (k : Nat) : Cx := ⟨Tryz.prog, tab [], [], [], tab []⟩
noncomputable def S (k : Nat) : Subs := fun n => none
noncomputable def f (k : Nat) (a0 : Int) : T Row :=
  .ret [.int .i64 (2), .int .i64 a0, .str ByteArray.empty, .slice 110 [] .open, .slice 120 [] .open]
noncomputable def d (k : Nat) : Fun := mkFun [3] (fun as_ => f k (vInt (vN as_ 0))) default (fun r => .agg (et 110 r))
theorem hC (k : Nat) : CxOk (C k) := CxOk.nil
theorem ok (k : Nat) : FunOk Tryz.prog 111 (d k) := fun_mk (C := C k) (hC k) (S := S k) Tryz.func111 (by kernel_rfl) (by kernel_rfl) (Loops.all (n := 0) (by kernel_rfl) trivial) (fun as_ => by kernel_rfl)
end value_Int
namespace podcodec_encodeResources
noncomputable def C (k : Nat) : Cx := ⟨Tryz.prog, tab [(111, value_Int.d k), (78, podcodec_field.d k), (77, value_Map.d k)], [], [], tab []⟩
noncomputable def S (k : Nat) : Subs := fun n => none
noncomputable def f (k : Nat) (a0 : Row) : T Row :=
  .bnd (value_Int.f k (rInt a0 0)).eval default fun r0 =>
  .bnd (podcodec_field.f k (bs [99, 112, 117]) (et 110 r0)).eval default fun r1 =>
  .bnd (value_Int.f k (rInt a0 2)).eval default fun r2 =>
  .bnd (podcodec_field.f k (bs [100, 105, 115, 107]) (et 110 r2)).eval default fun r3 =>
  .bnd (value_Int.f k (rInt a0 1)).eval default fun r4 =>
  .bnd (podcodec_field.f k (bs [109, 101, 109, 111, 114, 121]) (et 110 r4)).eval default fun r5 =>
  .bnd (value_Map.f k [(et 120 r1), (et 120 r3), (et 120 r5)]).eval default fun r6 =>
  .ret (et 110 r6)
noncomputable def d (k : Nat) : Fun := mkFun [161] (fun as_ => f k (vRow (vN as_ 0))) default (fun r => .agg (et 110 r))
theorem hC (k : Nat) : CxOk (C k) := CxOk.cons (p := (111, value_Int.d k)) (value_Int.ok k) (CxOk.cons (p := (78, podcodec_field.d k)) (podcodec_field.ok k) (CxOk.cons (p := (77, value_Map.d k)) (value_Map.ok k) (CxOk.nil)))
theorem ok (k : Nat) : FunOk Tryz.prog 139 (d k) := fun_mk (C := C k) (hC k) (S := S k) Tryz.func139 (by kernel_rfl) (by kernel_rfl) (Loops.all (n := 0) (by kernel_rfl) trivial) (fun as_ => by kernel_rfl)
end podcodec_encodeResources
namespace podcodec_encodeProbe
noncomputable def C (k : Nat) : Cx := ⟨Tryz.prog, tab [(111, value_Int.d k), (78, podcodec_field.d k), (77, value_Map.d k)], [], [], tab []⟩
noncomputable def S (k : Nat) : Subs := fun n => none
noncomputable def f (k : Nat) (a0 : Row) : T Row :=
  .bnd (value_Int.f k (rInt a0 0)).eval default fun r0 =>
  .bnd (podcodec_field.f k (bs [100, 101, 108, 97, 121]) (et 110 r0)).eval default fun r1 =>
  .bnd (value_Int.f k (rInt a0 3)).eval default fun r2 =>
  .bnd (podcodec_field.f k (bs [102, 97, 105, 108, 117, 114, 101]) (et 110 r2)).eval default fun r3 =>
  .bnd (value_Int.f k (rInt a0 1)).eval default fun r4 =>
  .bnd (podcodec_field.f k (bs [112, 101, 114, 105, 111, 100]) (et 110 r4)).eval default fun r5 =>
  .bnd (value_Int.f k (rInt a0 2)).eval default fun r6 =>
  .bnd (podcodec_field.f k (bs [115, 117, 99, 99, 101, 115, 115]) (et 110 r6)).eval default fun r7 =>
  .bnd (value_Map.f k [(et 120 r1), (et 120 r3), (et 120 r5), (et 120 r7)]).eval default fun r8 =>
  .ret (et 110 r8)
noncomputable def d (k : Nat) : Fun := mkFun [201] (fun as_ => f k (vRow (vN as_ 0))) default (fun r => .agg (et 110 r))
theorem hC (k : Nat) : CxOk (C k) := CxOk.cons (p := (111, value_Int.d k)) (value_Int.ok k) (CxOk.cons (p := (78, podcodec_field.d k)) (podcodec_field.ok k) (CxOk.cons (p := (77, value_Map.d k)) (value_Map.ok k) (CxOk.nil)))
theorem ok (k : Nat) : FunOk Tryz.prog 141 (d k) := fun_mk (C := C k) (hC k) (S := S k) Tryz.func141 (by kernel_rfl) (by kernel_rfl) (Loops.all (n := 0) (by kernel_rfl) trivial) (fun as_ => by kernel_rfl)
end podcodec_encodeProbe
namespace podcodec_list_api_Probe_c141
noncomputable def C (k : Nat) : Cx := ⟨Tryz.prog, tab [(141, podcodec_encodeProbe.d k), (107, value_List.d k)], [], [], tab []⟩
noncomputable def t3 : LoopT := ⟨⟨23, [.tmp 5 19 110], [(1, .fn 141 []), (4, .ptr 4 0), (5, .sl 110 (some 19)), (8, .sl 201 none), (9, .int .i64), (10, .int .i64)], [], [(4, 110)], []⟩, (fun | .exit 0 => some ⟨23, [], [(4, .ptr 4 0), (5, .sl 110 (some 19))], [], [(4, 110)], []⟩ | _ => none)⟩
noncomputable def s3 (k : Nat) (c0 : Rows) (c1 : Int) (c2 : Row) (x : (Rows × Int)) : T ((Rows × Int) ⊕ Rows) :=
  .test (iLt x.2 c1)
   (.test (iIn x.2 (rLen c0))
    (.bnd (podcodec_encodeProbe.f k (et 201 (rAt c0 x.2))).eval default fun r0 =>
    .test (rOk 80 (rLen x.1) (rLen [(et 110 r0)]))
     (.ret (.inl ((rCat x.1 [(et 110 r0)]), (iAdd .i64 x.2 (1)))))
     (.fail))
    (.fail))
   (.ret (.inr x.1))
noncomputable def a3 (c0 : Rows) (c1 : Int) (c2 : Row) (x : (Rows × Int)) : Dt := ⟨[.c [], .u, .r x.1, .r c0, .i c1, .i x.2], [], [et 110 c2], []⟩
noncomputable def o3_0 (c0 : Rows) (c1 : Int) (c2 : Row) (r : Rows) : X × Dt := (.exit 0, ⟨[.u, .r r], [], [(et 110 c2)], []⟩)
noncomputable def e3 (k : Nat) (d : Dt) : T (X × Dt) := out1 (iter (s3 k (aR (aN d.a 3)) (aI (aN d.a 4)) (d.r.getD 0 [])) k ((aR (aN d.a 2)), (aI (aN d.a 5)))) default (o3_0 (aR (aN d.a 3)) (aI (aN d.a 4)) (d.r.getD 0 []))
noncomputable def S (k : Nat) : Subs := fun n => bif Nat.beq n 3 then some (loopV Tryz.prog t3 (e3 k)) else none
noncomputable def f (k : Nat) (a0 : Rows) : T Row :=
  .bnd (iter (podcodec_list_api_Probe_c141.s3 k a0 (rLen a0) [.int .i64 (0), .int .i64 (0), .str ByteArray.empty, .slice 110 [] .open, .slice 120 [] .open]) k ([], (0))) default fun r0 =>
  .bnd (value_List.f k r0).eval default fun r1 =>
  .ret (et 110 r1)
noncomputable def d (k : Nat) : Fun := mkFun [162, .fn 141 []] (fun as_ => f k (vRows (vN as_ 0))) default (fun r => .agg (et 110 r))
theorem hC (k : Nat) : CxOk (C k) := CxOk.cons (p := (141, podcodec_encodeProbe.d k)) (podcodec_encodeProbe.ok k) (CxOk.cons (p := (107, value_List.d k)) (value_List.ok k) (CxOk.nil))
theorem l3 (k : Nat) : LoopOk Tryz.prog (S k) (lp (bodyF (Go.Proofs.Tryz.f140)) 0) := loopOk_mk (C := C k) (hC k) (Loops.all (n := 0) (by kernel_rfl) trivial) (lt := t3) (den := e3 k) (by kernel_rfl) (N := (Rows × Int × Row)) (A := (Rows × Int)) (R := Rows)
 (fun n x => a3 n.1 n.2.1 n.2.2 x) (fun n r => o3_0 n.1 n.2.1 n.2.2 r) (fun n x => s3 k n.1 n.2.1 n.2.2 x) k (fun d => ((aR (aN d.a 3)), (aI (aN d.a 4)), (d.r.getD 0 []))) (fun d => ((aR (aN d.a 2)), (aI (aN d.a 5)))) (fun d y h => out1_eval h) (fun d => by kernel_rfl) (fun n x => by kernel_rfl) (fun n r => ⟨_, rfl⟩)
theorem ok (k : Nat) : FunOk Tryz.prog 140 (d k) := fun_mk (C := C k) (hC k) (S := S k) Tryz.func140 (by kernel_rfl) (by kernel_rfl) (Loops.all (n := 1) (by kernel_rfl) ⟨trivial, l3 k⟩) (fun as_ => by kernel_rfl)
end podcodec_list_api_Probe_c141
namespace podcodec_encodeContainer
noncomputable def C (k : Nat) : Cx := ⟨Tryz.prog, tab [(108, value_String.d k), (78, podcodec_field.d k), (139, podcodec_encodeResources.d k), (142000140, podcodec_list_api_Probe_c141.d k), (77, value_Map.d k)], [], [], tab []⟩
noncomputable def S (k : Nat) : Subs := fun n => none
noncomputable def f (k : Nat) (a0 : Row) : T Row :=
  .bnd (value_String.f k (rStr a0 1)).eval default fun r0 =>
  .bnd (podcodec_field.f k (bs [105, 109, 97, 103, 101]) (et 110 r0)).eval default fun r1 =>
  .bnd (podcodec_encodeResources.f k (eo 161 a0 5)).eval default fun r2 =>
  .bnd (podcodec_field.f k (bs [108, 105, 109, 105, 116]) (et 110 r2)).eval default fun r3 =>
  .bnd (podcodec_list_api_Probe_c141.f k (rSl a0 8)).eval default fun r4 =>
  .bnd (podcodec_field.f k (bs [108, 105, 118, 101]) (et 110 r4)).eval default fun r5 =>
  .bnd (value_String.f k (rStr a0 0)).eval default fun r6 =>
  .bnd (podcodec_field.f k (bs [110, 97, 109, 101]) (et 110 r6)).eval default fun r7 =>
  .bnd (podcodec_list_api_Probe_c141.f k (rSl a0 9)).eval default fun r8 =>
  .bnd (podcodec_field.f k (bs [114, 101, 97, 100, 121]) (et 110 r8)).eval default fun r9 =>
  .bnd (podcodec_encodeResources.f k (eo 161 a0 2)).eval default fun r10 =>
  .bnd (podcodec_field.f k (bs [114, 101, 113, 117, 101, 115, 116]) (et 110 r10)).eval default fun r11 =>
  .bnd (podcodec_list_api_Probe_c141.f k (rSl a0 10)).eval default fun r12 =>
  .bnd (podcodec_field.f k (bs [115, 116, 97, 114, 116, 117, 112]) (et 110 r12)).eval default fun r13 =>
  .bnd (value_Map.f k [(et 120 r1), (et 120 r3), (et 120 r5), (et 120 r7), (et 120 r9), (et 120 r11), (et 120 r13)]).eval default fun r14 =>
  .ret (et 110 r14)
noncomputable def d (k : Nat) : Fun := mkFun [164] (fun as_ => f k (vRow (vN as_ 0))) default (fun r => .agg (et 110 r))
theorem hC (k : Nat) : CxOk (C k) := CxOk.cons (p := (108, value_String.d k)) (value_String.ok k) (CxOk.cons (p := (78, podcodec_field.d k)) (podcodec_field.ok k) (CxOk.cons (p := (139, podcodec_encodeResources.d k)) (podcodec_encodeResources.ok k) (CxOk.consK (p := (142000140, podcodec_list_api_Probe_c141.d k)) (by kernel_rfl) (podcodec_list_api_Probe_c141.ok k) (CxOk.cons (p := (77, value_Map.d k)) (value_Map.ok k) (CxOk.nil)))))
theorem ok (k : Nat) : FunOk Tryz.prog 110 (d k) := fun_mk (C := C k) (hC k) (S := S k) Tryz.func110 (by kernel_rfl) (by kernel_rfl) (Loops.all (n := 0) (by kernel_rfl) trivial) (fun as_ => by kernel_rfl)
end podcodec_encodeContainer
namespace podcodec_list_api_Container_c110
noncomputable def C (k : Nat) : Cx := ⟨Tryz.prog, tab [(110, podcodec_encodeContainer.d k), (107, value_List.d k)], [], [], tab []⟩
noncomputable def t3 : LoopT := ⟨⟨23, [.tmp 5 19 110], [(1, .fn 110 []), (4, .ptr 4 0), (5, .sl 110 (some 19)), (8, .sl 164 none), (9, .int .i64), (10, .int .i64)], [], [(4, 110)], []⟩, (fun | .exit 0 => some ⟨23, [], [(4, .ptr 4 0), (5, .sl 110 (some 19))], [], [(4, 110)], []⟩ | _ => none)⟩
noncomputable def s3 (k : Nat) (c0 : Rows) (c1 : Int) (c2 : Row) (x : (Rows × Int)) : T ((Rows × Int) ⊕ Rows) :=
  .test (iLt x.2 c1)
   (.test (iIn x.2 (rLen c0))
    (.bnd (podcodec_encodeContainer.f k (et 164 (rAt c0 x.2))).eval default fun r0 =>
    .test (rOk 80 (rLen x.1) (rLen [(et 110 r0)]))
     (.ret (.inl ((rCat x.1 [(et 110 r0)]), (iAdd .i64 x.2 (1)))))
     (.fail))
    (.fail))
   (.ret (.inr x.1))
noncomputable def a3 (c0 : Rows) (c1 : Int) (c2 : Row) (x : (Rows × Int)) : Dt := ⟨[.c [], .u, .r x.1, .r c0, .i c1, .i x.2], [], [et 110 c2], []⟩
noncomputable def o3_0 (c0 : Rows) (c1 : Int) (c2 : Row) (r : Rows) : X × Dt := (.exit 0, ⟨[.u, .r r], [], [(et 110 c2)], []⟩)
noncomputable def e3 (k : Nat) (d : Dt) : T (X × Dt) := out1 (iter (s3 k (aR (aN d.a 3)) (aI (aN d.a 4)) (d.r.getD 0 [])) k ((aR (aN d.a 2)), (aI (aN d.a 5)))) default (o3_0 (aR (aN d.a 3)) (aI (aN d.a 4)) (d.r.getD 0 []))
noncomputable def S (k : Nat) : Subs := fun n => bif Nat.beq n 3 then some (loopV Tryz.prog t3 (e3 k)) else none
noncomputable def f (k : Nat) (a0 : Rows) : T Row :=
  .bnd (iter (podcodec_list_api_Container_c110.s3 k a0 (rLen a0) [.int .i64 (0), .int .i64 (0), .str ByteArray.empty, .slice 110 [] .open, .slice 120 [] .open]) k ([], (0))) default fun r0 =>
  .bnd (value_List.f k r0).eval default fun r1 =>
  .ret (et 110 r1)
noncomputable def d (k : Nat) : Fun := mkFun [29, .fn 110 []] (fun as_ => f k (vRows (vN as_ 0))) default (fun r => .agg (et 110 r))
theorem hC (k : Nat) : CxOk (C k) := CxOk.cons (p := (110, podcodec_encodeContainer.d k)) (podcodec_encodeContainer.ok k) (CxOk.cons (p := (107, value_List.d k)) (value_List.ok k) (CxOk.nil))
theorem l3 (k : Nat) : LoopOk Tryz.prog (S k) (lp (bodyF (Go.Proofs.Tryz.f109)) 0) := loopOk_mk (C := C k) (hC k) (Loops.all (n := 0) (by kernel_rfl) trivial) (lt := t3) (den := e3 k) (by kernel_rfl) (N := (Rows × Int × Row)) (A := (Rows × Int)) (R := Rows)
 (fun n x => a3 n.1 n.2.1 n.2.2 x) (fun n r => o3_0 n.1 n.2.1 n.2.2 r) (fun n x => s3 k n.1 n.2.1 n.2.2 x) k (fun d => ((aR (aN d.a 3)), (aI (aN d.a 4)), (d.r.getD 0 []))) (fun d => ((aR (aN d.a 2)), (aI (aN d.a 5)))) (fun d y h => out1_eval h) (fun d => by kernel_rfl) (fun n x => by kernel_rfl) (fun n r => ⟨_, rfl⟩)
theorem ok (k : Nat) : FunOk Tryz.prog 109 (d k) := fun_mk (C := C k) (hC k) (S := S k) Tryz.func109 (by kernel_rfl) (by kernel_rfl) (Loops.all (n := 1) (by kernel_rfl) ⟨trivial, l3 k⟩) (fun as_ => by kernel_rfl)
end podcodec_list_api_Container_c110
namespace podcodec_list_string_c108
noncomputable def C (k : Nat) : Cx := ⟨Tryz.prog, tab [(108, value_String.d k), (107, value_List.d k)], [], [], tab []⟩
noncomputable def t3 : LoopT := ⟨⟨23, [.tmp 5 19 110], [(1, .fn 108 []), (4, .ptr 4 0), (5, .sl 110 (some 19)), (8, .sl 9 none), (9, .int .i64), (10, .int .i64)], [], [(4, 110)], []⟩, (fun | .exit 0 => some ⟨23, [], [(4, .ptr 4 0), (5, .sl 110 (some 19))], [], [(4, 110)], []⟩ | _ => none)⟩
noncomputable def s3 (k : Nat) (c0 : Rows) (c1 : Int) (c2 : Row) (x : (Rows × Int)) : T ((Rows × Int) ⊕ Rows) :=
  .test (iLt x.2 c1)
   (.test (iIn x.2 (rLen c0))
    (.bnd (value_String.f k (rStr (rAt c0 x.2) 0)).eval default fun r0 =>
    .test (rOk 80 (rLen x.1) (rLen [(et 110 r0)]))
     (.ret (.inl ((rCat x.1 [(et 110 r0)]), (iAdd .i64 x.2 (1)))))
     (.fail))
    (.fail))
   (.ret (.inr x.1))
noncomputable def a3 (c0 : Rows) (c1 : Int) (c2 : Row) (x : (Rows × Int)) : Dt := ⟨[.c [], .u, .r x.1, .r c0, .i c1, .i x.2], [], [et 110 c2], []⟩
noncomputable def o3_0 (c0 : Rows) (c1 : Int) (c2 : Row) (r : Rows) : X × Dt := (.exit 0, ⟨[.u, .r r], [], [(et 110 c2)], []⟩)
noncomputable def e3 (k : Nat) (d : Dt) : T (X × Dt) := out1 (iter (s3 k (aR (aN d.a 3)) (aI (aN d.a 4)) (d.r.getD 0 [])) k ((aR (aN d.a 2)), (aI (aN d.a 5)))) default (o3_0 (aR (aN d.a 3)) (aI (aN d.a 4)) (d.r.getD 0 []))
noncomputable def S (k : Nat) : Subs := fun n => bif Nat.beq n 3 then some (loopV Tryz.prog t3 (e3 k)) else none
noncomputable def f (k : Nat) (a0 : Rows) : T Row :=
  .bnd (iter (podcodec_list_string_c108.s3 k a0 (rLen a0) [.int .i64 (0), .int .i64 (0), .str ByteArray.empty, .slice 110 [] .open, .slice 120 [] .open]) k ([], (0))) default fun r0 =>
  .bnd (value_List.f k r0).eval default fun r1 =>
  .ret (et 110 r1)
noncomputable def d (k : Nat) : Fun := mkFun [24, .fn 108 []] (fun as_ => f k (vRows (vN as_ 0))) default (fun r => .agg (et 110 r))
theorem hC (k : Nat) : CxOk (C k) := CxOk.cons (p := (108, value_String.d k)) (value_String.ok k) (CxOk.cons (p := (107, value_List.d k)) (value_List.ok k) (CxOk.nil))
theorem l3 (k : Nat) : LoopOk Tryz.prog (S k) (lp (bodyF (Go.Proofs.Tryz.f142)) 0) := loopOk_mk (C := C k) (hC k) (Loops.all (n := 0) (by kernel_rfl) trivial) (lt := t3) (den := e3 k) (by kernel_rfl) (N := (Rows × Int × Row)) (A := (Rows × Int)) (R := Rows)
 (fun n x => a3 n.1 n.2.1 n.2.2 x) (fun n r => o3_0 n.1 n.2.1 n.2.2 r) (fun n x => s3 k n.1 n.2.1 n.2.2 x) k (fun d => ((aR (aN d.a 3)), (aI (aN d.a 4)), (d.r.getD 0 []))) (fun d => ((aR (aN d.a 2)), (aI (aN d.a 5)))) (fun d y h => out1_eval h) (fun d => by kernel_rfl) (fun n x => by kernel_rfl) (fun n r => ⟨_, rfl⟩)
theorem ok (k : Nat) : FunOk Tryz.prog 142 (d k) := fun_mk (C := C k) (hC k) (S := S k) Tryz.func142 (by kernel_rfl) (by kernel_rfl) (Loops.all (n := 1) (by kernel_rfl) ⟨trivial, l3 k⟩) (fun as_ => by kernel_rfl)
end podcodec_list_string_c108
namespace podcodec_encodeRequirement
noncomputable def C (k : Nat) : Cx := ⟨Tryz.prog, tab [(108, value_String.d k), (78, podcodec_field.d k), (111, value_Int.d k), (109000142, podcodec_list_string_c108.d k), (77, value_Map.d k)], [], [], tab []⟩
noncomputable def S (k : Nat) : Subs := fun n => none
noncomputable def f (k : Nat) (a0 : Row) : T Row :=
  .bnd (value_String.f k (rStr a0 0)).eval default fun r0 =>
  .bnd (podcodec_field.f k (bs [107, 101, 121]) (et 110 r0)).eval default fun r1 =>
  .bnd (value_Int.f k (rInt a0 1)).eval default fun r2 =>
  .bnd (podcodec_field.f k (bs [111, 112]) (et 110 r2)).eval default fun r3 =>
  .bnd (podcodec_list_string_c108.f k (rSl a0 2)).eval default fun r4 =>
  .bnd (podcodec_field.f k (bs [118, 97, 108, 117, 101, 115]) (et 110 r4)).eval default fun r5 =>
  .bnd (value_Map.f k [(et 120 r1), (et 120 r3), (et 120 r5)]).eval default fun r6 =>
  .ret (et 110 r6)
noncomputable def d (k : Nat) : Fun := mkFun [168] (fun as_ => f k (vRow (vN as_ 0))) default (fun r => .agg (et 110 r))
theorem hC (k : Nat) : CxOk (C k) := CxOk.cons (p := (108, value_String.d k)) (value_String.ok k) (CxOk.cons (p := (78, podcodec_field.d k)) (podcodec_field.ok k) (CxOk.cons (p := (111, value_Int.d k)) (value_Int.ok k) (CxOk.consK (p := (109000142, podcodec_list_string_c108.d k)) (by kernel_rfl) (podcodec_list_string_c108.ok k) (CxOk.cons (p := (77, value_Map.d k)) (value_Map.ok k) (CxOk.nil)))))
theorem ok (k : Nat) : FunOk Tryz.prog 113 (d k) := fun_mk (C := C k) (hC k) (S := S k) Tryz.func113 (by kernel_rfl) (by kernel_rfl) (Loops.all (n := 0) (by kernel_rfl) trivial) (fun as_ => by kernel_rfl)
end podcodec_encodeRequirement
namespace podcodec_list_api_Requirement_c113
noncomputable def C (k : Nat) : Cx := ⟨Tryz.prog, tab [(113, podcodec_encodeRequirement.d k), (107, value_List.d k)], [], [], tab []⟩
noncomputable def t3 : LoopT := ⟨⟨23, [.tmp 5 19 110], [(1, .fn 113 []), (4, .ptr 4 0), (5, .sl 110 (some 19)), (8, .sl 168 none), (9, .int .i64), (10, .int .i64)], [], [(4, 110)], []⟩, (fun | .exit 0 => some ⟨23, [], [(4, .ptr 4 0), (5, .sl 110 (some 19))], [], [(4, 110)], []⟩ | _ => none)⟩
noncomputable def s3 (k : Nat) (c0 : Rows) (c1 : Int) (c2 : Row) (x : (Rows × Int)) : T ((Rows × Int) ⊕ Rows) :=
  .test (iLt x.2 c1)
   (.test (iIn x.2 (rLen c0))
    (.bnd (podcodec_encodeRequirement.f k (et 168 (rAt c0 x.2))).eval default fun r0 =>
    .test (rOk 80 (rLen x.1) (rLen [(et 110 r0)]))
     (.ret (.inl ((rCat x.1 [(et 110 r0)]), (iAdd .i64 x.2 (1)))))
     (.fail))
    (.fail))
   (.ret (.inr x.1))
noncomputable def a3 (c0 : Rows) (c1 : Int) (c2 : Row) (x : (Rows × Int)) : Dt := ⟨[.c [], .u, .r x.1, .r c0, .i c1, .i x.2], [], [et 110 c2], []⟩
noncomputable def o3_0 (c0 : Rows) (c1 : Int) (c2 : Row) (r : Rows) : X × Dt := (.exit 0, ⟨[.u, .r r], [], [(et 110 c2)], []⟩)
noncomputable def e3 (k : Nat) (d : Dt) : T (X × Dt) := out1 (iter (s3 k (aR (aN d.a 3)) (aI (aN d.a 4)) (d.r.getD 0 [])) k ((aR (aN d.a 2)), (aI (aN d.a 5)))) default (o3_0 (aR (aN d.a 3)) (aI (aN d.a 4)) (d.r.getD 0 []))
noncomputable def S (k : Nat) : Subs := fun n => bif Nat.beq n 3 then some (loopV Tryz.prog t3 (e3 k)) else none
noncomputable def f (k : Nat) (a0 : Rows) : T Row :=
  .bnd (iter (podcodec_list_api_Requirement_c113.s3 k a0 (rLen a0) [.int .i64 (0), .int .i64 (0), .str ByteArray.empty, .slice 110 [] .open, .slice 120 [] .open]) k ([], (0))) default fun r0 =>
  .bnd (value_List.f k r0).eval default fun r1 =>
  .ret (et 110 r1)
noncomputable def d (k : Nat) : Fun := mkFun [28, .fn 113 []] (fun as_ => f k (vRows (vN as_ 0))) default (fun r => .agg (et 110 r))
theorem hC (k : Nat) : CxOk (C k) := CxOk.cons (p := (113, podcodec_encodeRequirement.d k)) (podcodec_encodeRequirement.ok k) (CxOk.cons (p := (107, value_List.d k)) (value_List.ok k) (CxOk.nil))
theorem l3 (k : Nat) : LoopOk Tryz.prog (S k) (lp (bodyF (Go.Proofs.Tryz.f112)) 0) := loopOk_mk (C := C k) (hC k) (Loops.all (n := 0) (by kernel_rfl) trivial) (lt := t3) (den := e3 k) (by kernel_rfl) (N := (Rows × Int × Row)) (A := (Rows × Int)) (R := Rows)
 (fun n x => a3 n.1 n.2.1 n.2.2 x) (fun n r => o3_0 n.1 n.2.1 n.2.2 r) (fun n x => s3 k n.1 n.2.1 n.2.2 x) k (fun d => ((aR (aN d.a 3)), (aI (aN d.a 4)), (d.r.getD 0 []))) (fun d => ((aR (aN d.a 2)), (aI (aN d.a 5)))) (fun d y h => out1_eval h) (fun d => by kernel_rfl) (fun n x => by kernel_rfl) (fun n r => ⟨_, rfl⟩)
theorem ok (k : Nat) : FunOk Tryz.prog 112 (d k) := fun_mk (C := C k) (hC k) (S := S k) Tryz.func112 (by kernel_rfl) (by kernel_rfl) (Loops.all (n := 1) (by kernel_rfl) ⟨trivial, l3 k⟩) (fun as_ => by kernel_rfl)
end podcodec_list_api_Requirement_c113
namespace value_Bool
noncomputable def C (k : Nat) : Cx := ⟨Tryz.prog, tab [], [], [], tab []⟩
noncomputable def S (k : Nat) : Subs := fun n => none
noncomputable def f (k : Nat) (a0 : Bool) : T Row :=
  .test a0
   (.ret [.int .i64 (1), .int .i64 (1), .str ByteArray.empty, .slice 110 [] .open, .slice 120 [] .open])
   (.ret [.int .i64 (1), .int .i64 (0), .str ByteArray.empty, .slice 110 [] .open, .slice 120 [] .open])
noncomputable def d (k : Nat) : Fun := mkFun [4] (fun as_ => f k (vBool (vN as_ 0))) default (fun r => .agg (et 110 r))
theorem hC (k : Nat) : CxOk (C k) := CxOk.nil
theorem ok (k : Nat) : FunOk Tryz.prog 143 (d k) := fun_mk (C := C k) (hC k) (S := S k) Tryz.func143 (by kernel_rfl) (by kernel_rfl) (Loops.all (n := 0) (by kernel_rfl) trivial) (fun as_ => by kernel_rfl)
end value_Bool
namespace podcodec_encodeNodeTerm
noncomputable def C (k : Nat) : Cx := ⟨Tryz.prog, tab [(143, value_Bool.d k), (78, podcodec_field.d k), (114000112, podcodec_list_api_Requirement_c113.d k), (111, value_Int.d k), (77, value_Map.d k)], [], [], tab []⟩
noncomputable def S (k : Nat) : Subs := fun n => none
noncomputable def f (k : Nat) (a0 : Row) : T Row :=
  .bnd (value_Bool.f k (rBool a0 0)).eval default fun r0 =>
  .bnd (podcodec_field.f k (bs [114, 101, 113, 117, 105, 114, 101, 100]) (et 110 r0)).eval default fun r1 =>
  .bnd (podcodec_list_api_Requirement_c113.f k (rSl a0 1)).eval default fun r2 =>
  .bnd (podcodec_field.f k (bs [115, 101, 108, 101, 99, 116, 111, 114]) (et 110 r2)).eval default fun r3 =>
  .bnd (value_Int.f k (rInt a0 2)).eval default fun r4 =>
  .bnd (podcodec_field.f k (bs [119, 101, 105, 103, 104, 116]) (et 110 r4)).eval default fun r5 =>
  .bnd (value_Map.f k [(et 120 r1), (et 120 r3), (et 120 r5)]).eval default fun r6 =>
  .ret (et 110 r6)
noncomputable def d (k : Nat) : Fun := mkFun [172] (fun as_ => f k (vRow (vN as_ 0))) default (fun r => .agg (et 110 r))
theorem hC (k : Nat) : CxOk (C k) := CxOk.cons (p := (143, value_Bool.d k)) (value_Bool.ok k) (CxOk.cons (p := (78, podcodec_field.d k)) (podcodec_field.ok k) (CxOk.consK (p := (114000112, podcodec_list_api_Requirement_c113.d k)) (by kernel_rfl) (podcodec_list_api_Requirement_c113.ok k) (CxOk.cons (p := (111, value_Int.d k)) (value_Int.ok k) (CxOk.cons (p := (77, value_Map.d k)) (value_Map.ok k) (CxOk.nil)))))
theorem ok (k : Nat) : FunOk Tryz.prog 115 (d k) := fun_mk (C := C k) (hC k) (S := S k) Tryz.func115 (by kernel_rfl) (by kernel_rfl) (Loops.all (n := 0) (by kernel_rfl) trivial) (fun as_ => by kernel_rfl)
end podcodec_encodeNodeTerm
namespace podcodec_list_api_NodeTerm_c115
noncomputable def C (k : Nat) : Cx := ⟨Tryz.prog, tab [(115, podcodec_encodeNodeTerm.d k), (107, value_List.d k)], [], [], tab []⟩
noncomputable def t3 : LoopT := ⟨⟨23, [.tmp 5 19 110], [(1, .fn 115 []), (4, .ptr 4 0), (5, .sl 110 (some 19)), (8, .sl 172 none), (9, .int .i64), (10, .int .i64)], [], [(4, 110)], []⟩, (fun | .exit 0 => some ⟨23, [], [(4, .ptr 4 0), (5, .sl 110 (some 19))], [], [(4, 110)], []⟩ | _ => none)⟩
noncomputable def s3 (k : Nat) (c0 : Rows) (c1 : Int) (c2 : Row) (x : (Rows × Int)) : T ((Rows × Int) ⊕ Rows) :=
  .test (iLt x.2 c1)
   (.test (iIn x.2 (rLen c0))
    (.bnd (podcodec_encodeNodeTerm.f k (et 172 (rAt c0 x.2))).eval default fun r0 =>
    .test (rOk 80 (rLen x.1) (rLen [(et 110 r0)]))
     (.ret (.inl ((rCat x.1 [(et 110 r0)]), (iAdd .i64 x.2 (1)))))
     (.fail))
    (.fail))
   (.ret (.inr x.1))
noncomputable def a3 (c0 : Rows) (c1 : Int) (c2 : Row) (x : (Rows × Int)) : Dt := ⟨[.c [], .u, .r x.1, .r c0, .i c1, .i x.2], [], [et 110 c2], []⟩
noncomputable def o3_0 (c0 : Rows) (c1 : Int) (c2 : Row) (r : Rows) : X × Dt := (.exit 0, ⟨[.u, .r r], [], [(et 110 c2)], []⟩)
noncomputable def e3 (k : Nat) (d : Dt) : T (X × Dt) := out1 (iter (s3 k (aR (aN d.a 3)) (aI (aN d.a 4)) (d.r.getD 0 [])) k ((aR (aN d.a 2)), (aI (aN d.a 5)))) default (o3_0 (aR (aN d.a 3)) (aI (aN d.a 4)) (d.r.getD 0 []))
noncomputable def S (k : Nat) : Subs := fun n => bif Nat.beq n 3 then some (loopV Tryz.prog t3 (e3 k)) else none
noncomputable def f (k : Nat) (a0 : Rows) : T Row :=
  .bnd (iter (podcodec_list_api_NodeTerm_c115.s3 k a0 (rLen a0) [.int .i64 (0), .int .i64 (0), .str ByteArray.empty, .slice 110 [] .open, .slice 120 [] .open]) k ([], (0))) default fun r0 =>
  .bnd (value_List.f k r0).eval default fun r1 =>
  .ret (et 110 r1)
noncomputable def d (k : Nat) : Fun := mkFun [30, .fn 115 []] (fun as_ => f k (vRows (vN as_ 0))) default (fun r => .agg (et 110 r))
theorem hC (k : Nat) : CxOk (C k) := CxOk.cons (p := (115, podcodec_encodeNodeTerm.d k)) (podcodec_encodeNodeTerm.ok k) (CxOk.cons (p := (107, value_List.d k)) (value_List.ok k) (CxOk.nil))
theorem l3 (k : Nat) : LoopOk Tryz.prog (S k) (lp (bodyF (Go.Proofs.Tryz.f114)) 0) := loopOk_mk (C := C k) (hC k) (Loops.all (n := 0) (by kernel_rfl) trivial) (lt := t3) (den := e3 k) (by kernel_rfl) (N := (Rows × Int × Row)) (A := (Rows × Int)) (R := Rows)
 (fun n x => a3 n.1 n.2.1 n.2.2 x) (fun n r => o3_0 n.1 n.2.1 n.2.2 r) (fun n x => s3 k n.1 n.2.1 n.2.2 x) k (fun d => ((aR (aN d.a 3)), (aI (aN d.a 4)), (d.r.getD 0 []))) (fun d => ((aR (aN d.a 2)), (aI (aN d.a 5)))) (fun d y h => out1_eval h) (fun d => by kernel_rfl) (fun n x => by kernel_rfl) (fun n r => ⟨_, rfl⟩)
theorem ok (k : Nat) : FunOk Tryz.prog 114 (d k) := fun_mk (C := C k) (hC k) (S := S k) Tryz.func114 (by kernel_rfl) (by kernel_rfl) (Loops.all (n := 1) (by kernel_rfl) ⟨trivial, l3 k⟩) (fun as_ => by kernel_rfl)
end podcodec_list_api_NodeTerm_c115
namespace podcodec_encodePodTerm
noncomputable def C (k : Nat) : Cx := ⟨Tryz.prog, tab [(143, value_Bool.d k), (78, podcodec_field.d k), (114000112, podcodec_list_api_Requirement_c113.d k), (108, value_String.d k), (111, value_Int.d k), (77, value_Map.d k)], [], [], tab []⟩
noncomputable def S (k : Nat) : Subs := fun n => none
noncomputable def f (k : Nat) (a0 : Row) : T Row :=
  .bnd (value_Bool.f k (rBool a0 1)).eval default fun r0 =>
  .bnd (podcodec_field.f k (bs [97, 110, 116, 105]) (et 110 r0)).eval default fun r1 =>
  .bnd (value_Bool.f k (rBool a0 0)).eval default fun r2 =>
  .bnd (podcodec_field.f k (bs [114, 101, 113, 117, 105, 114, 101, 100]) (et 110 r2)).eval default fun r3 =>
  .bnd (podcodec_list_api_Requirement_c113.f k (rSl a0 2)).eval default fun r4 =>
  .bnd (podcodec_field.f k (bs [115, 101, 108, 101, 99, 116, 111, 114]) (et 110 r4)).eval default fun r5 =>
  .bnd (value_String.f k (rStr a0 3)).eval default fun r6 =>
  .bnd (podcodec_field.f k (bs [116, 111, 112, 111, 108, 111, 103, 121]) (et 110 r6)).eval default fun r7 =>
  .bnd (value_Int.f k (rInt a0 4)).eval default fun r8 =>
  .bnd (podcodec_field.f k (bs [119, 101, 105, 103, 104, 116]) (et 110 r8)).eval default fun r9 =>
  .bnd (value_Map.f k [(et 120 r1), (et 120 r3), (et 120 r5), (et 120 r7), (et 120 r9)]).eval default fun r10 =>
  .ret (et 110 r10)
noncomputable def d (k : Nat) : Fun := mkFun [176] (fun as_ => f k (vRow (vN as_ 0))) default (fun r => .agg (et 110 r))
theorem hC (k : Nat) : CxOk (C k) := CxOk.cons (p := (143, value_Bool.d k)) (value_Bool.ok k) (CxOk.cons (p := (78, podcodec_field.d k)) (podcodec_field.ok k) (CxOk.consK (p := (114000112, podcodec_list_api_Requirement_c113.d k)) (by kernel_rfl) (podcodec_list_api_Requirement_c113.ok k) (CxOk.cons (p := (108, value_String.d k)) (value_String.ok k) (CxOk.cons (p := (111, value_Int.d k)) (value_Int.ok k) (CxOk.cons (p := (77, value_Map.d k)) (value_Map.ok k) (CxOk.nil))))))
theorem ok (k : Nat) : FunOk Tryz.prog 117 (d k) := fun_mk (C := C k) (hC k) (S := S k) Tryz.func117 (by kernel_rfl) (by kernel_rfl) (Loops.all (n := 0) (by kernel_rfl) trivial) (fun as_ => by kernel_rfl)
end podcodec_encodePodTerm
namespace podcodec_list_api_PodTerm_c117
noncomputable def C (k : Nat) : Cx := ⟨Tryz.prog, tab [(117, podcodec_encodePodTerm.d k), (107, value_List.d k)], [], [], tab []⟩
noncomputable def t3 : LoopT := ⟨⟨23, [.tmp 5 19 110], [(1, .fn 117 []), (4, .ptr 4 0), (5, .sl 110 (some 19)), (8, .sl 176 none), (9, .int .i64), (10, .int .i64)], [], [(4, 110)], []⟩, (fun | .exit 0 => some ⟨23, [], [(4, .ptr 4 0), (5, .sl 110 (some 19))], [], [(4, 110)], []⟩ | _ => none)⟩
noncomputable def s3 (k : Nat) (c0 : Rows) (c1 : Int) (c2 : Row) (x : (Rows × Int)) : T ((Rows × Int) ⊕ Rows) :=
  .test (iLt x.2 c1)
   (.test (iIn x.2 (rLen c0))
    (.bnd (podcodec_encodePodTerm.f k (et 176 (rAt c0 x.2))).eval default fun r0 =>
    .test (rOk 80 (rLen x.1) (rLen [(et 110 r0)]))
     (.ret (.inl ((rCat x.1 [(et 110 r0)]), (iAdd .i64 x.2 (1)))))
     (.fail))
    (.fail))
   (.ret (.inr x.1))
noncomputable def a3 (c0 : Rows) (c1 : Int) (c2 : Row) (x : (Rows × Int)) : Dt := ⟨[.c [], .u, .r x.1, .r c0, .i c1, .i x.2], [], [et 110 c2], []⟩
noncomputable def o3_0 (c0 : Rows) (c1 : Int) (c2 : Row) (r : Rows) : X × Dt := (.exit 0, ⟨[.u, .r r], [], [(et 110 c2)], []⟩)
noncomputable def e3 (k : Nat) (d : Dt) : T (X × Dt) := out1 (iter (s3 k (aR (aN d.a 3)) (aI (aN d.a 4)) (d.r.getD 0 [])) k ((aR (aN d.a 2)), (aI (aN d.a 5)))) default (o3_0 (aR (aN d.a 3)) (aI (aN d.a 4)) (d.r.getD 0 []))
noncomputable def S (k : Nat) : Subs := fun n => bif Nat.beq n 3 then some (loopV Tryz.prog t3 (e3 k)) else none
noncomputable def f (k : Nat) (a0 : Rows) : T Row :=
  .bnd (iter (podcodec_list_api_PodTerm_c117.s3 k a0 (rLen a0) [.int .i64 (0), .int .i64 (0), .str ByteArray.empty, .slice 110 [] .open, .slice 120 [] .open]) k ([], (0))) default fun r0 =>
  .bnd (value_List.f k r0).eval default fun r1 =>
  .ret (et 110 r1)
noncomputable def d (k : Nat) : Fun := mkFun [31, .fn 117 []] (fun as_ => f k (vRows (vN as_ 0))) default (fun r => .agg (et 110 r))
theorem hC (k : Nat) : CxOk (C k) := CxOk.cons (p := (117, podcodec_encodePodTerm.d k)) (podcodec_encodePodTerm.ok k) (CxOk.cons (p := (107, value_List.d k)) (value_List.ok k) (CxOk.nil))
theorem l3 (k : Nat) : LoopOk Tryz.prog (S k) (lp (bodyF (Go.Proofs.Tryz.f116)) 0) := loopOk_mk (C := C k) (hC k) (Loops.all (n := 0) (by kernel_rfl) trivial) (lt := t3) (den := e3 k) (by kernel_rfl) (N := (Rows × Int × Row)) (A := (Rows × Int)) (R := Rows)
 (fun n x => a3 n.1 n.2.1 n.2.2 x) (fun n r => o3_0 n.1 n.2.1 n.2.2 r) (fun n x => s3 k n.1 n.2.1 n.2.2 x) k (fun d => ((aR (aN d.a 3)), (aI (aN d.a 4)), (d.r.getD 0 []))) (fun d => ((aR (aN d.a 2)), (aI (aN d.a 5)))) (fun d y h => out1_eval h) (fun d => by kernel_rfl) (fun n x => by kernel_rfl) (fun n r => ⟨_, rfl⟩)
theorem ok (k : Nat) : FunOk Tryz.prog 116 (d k) := fun_mk (C := C k) (hC k) (S := S k) Tryz.func116 (by kernel_rfl) (by kernel_rfl) (Loops.all (n := 1) (by kernel_rfl) ⟨trivial, l3 k⟩) (fun as_ => by kernel_rfl)
end podcodec_list_api_PodTerm_c117
namespace podcodec_encodeSpread
noncomputable def C (k : Nat) : Cx := ⟨Tryz.prog, tab [(111, value_Int.d k), (78, podcodec_field.d k), (143, value_Bool.d k), (114000112, podcodec_list_api_Requirement_c113.d k), (108, value_String.d k), (77, value_Map.d k)], [], [], tab []⟩
noncomputable def S (k : Nat) : Subs := fun n => none
noncomputable def f (k : Nat) (a0 : Row) : T Row :=
  .bnd (value_Int.f k (rInt a0 0)).eval default fun r0 =>
  .bnd (podcodec_field.f k (bs [109, 97, 120, 83, 107, 101, 119]) (et 110 r0)).eval default fun r1 =>
  .bnd (value_Bool.f k (rBool a0 3)).eval default fun r2 =>
  .bnd (podcodec_field.f k (bs [114, 101, 113, 117, 105, 114, 101, 100]) (et 110 r2)).eval default fun r3 =>
  .bnd (podcodec_list_api_Requirement_c113.f k (rSl a0 2)).eval default fun r4 =>
  .bnd (podcodec_field.f k (bs [115, 101, 108, 101, 99, 116, 111, 114]) (et 110 r4)).eval default fun r5 =>
  .bnd (value_String.f k (rStr a0 1)).eval default fun r6 =>
  .bnd (podcodec_field.f k (bs [116, 111, 112, 111, 108, 111, 103, 121]) (et 110 r6)).eval default fun r7 =>
  .bnd (value_Map.f k [(et 120 r1), (et 120 r3), (et 120 r5), (et 120 r7)]).eval default fun r8 =>
  .ret (et 110 r8)
noncomputable def d (k : Nat) : Fun := mkFun [180] (fun as_ => f k (vRow (vN as_ 0))) default (fun r => .agg (et 110 r))
theorem hC (k : Nat) : CxOk (C k) := CxOk.cons (p := (111, value_Int.d k)) (value_Int.ok k) (CxOk.cons (p := (78, podcodec_field.d k)) (podcodec_field.ok k) (CxOk.cons (p := (143, value_Bool.d k)) (value_Bool.ok k) (CxOk.consK (p := (114000112, podcodec_list_api_Requirement_c113.d k)) (by kernel_rfl) (podcodec_list_api_Requirement_c113.ok k) (CxOk.cons (p := (108, value_String.d k)) (value_String.ok k) (CxOk.cons (p := (77, value_Map.d k)) (value_Map.ok k) (CxOk.nil))))))
theorem ok (k : Nat) : FunOk Tryz.prog 119 (d k) := fun_mk (C := C k) (hC k) (S := S k) Tryz.func119 (by kernel_rfl) (by kernel_rfl) (Loops.all (n := 0) (by kernel_rfl) trivial) (fun as_ => by kernel_rfl)
end podcodec_encodeSpread
namespace podcodec_list_api_SpreadRule_c119
noncomputable def C (k : Nat) : Cx := ⟨Tryz.prog, tab [(119, podcodec_encodeSpread.d k), (107, value_List.d k)], [], [], tab []⟩
noncomputable def t3 : LoopT := ⟨⟨23, [.tmp 5 19 110], [(1, .fn 119 []), (4, .ptr 4 0), (5, .sl 110 (some 19)), (8, .sl 180 none), (9, .int .i64), (10, .int .i64)], [], [(4, 110)], []⟩, (fun | .exit 0 => some ⟨23, [], [(4, .ptr 4 0), (5, .sl 110 (some 19))], [], [(4, 110)], []⟩ | _ => none)⟩
noncomputable def s3 (k : Nat) (c0 : Rows) (c1 : Int) (c2 : Row) (x : (Rows × Int)) : T ((Rows × Int) ⊕ Rows) :=
  .test (iLt x.2 c1)
   (.test (iIn x.2 (rLen c0))
    (.bnd (podcodec_encodeSpread.f k (et 180 (rAt c0 x.2))).eval default fun r0 =>
    .test (rOk 80 (rLen x.1) (rLen [(et 110 r0)]))
     (.ret (.inl ((rCat x.1 [(et 110 r0)]), (iAdd .i64 x.2 (1)))))
     (.fail))
    (.fail))
   (.ret (.inr x.1))
noncomputable def a3 (c0 : Rows) (c1 : Int) (c2 : Row) (x : (Rows × Int)) : Dt := ⟨[.c [], .u, .r x.1, .r c0, .i c1, .i x.2], [], [et 110 c2], []⟩
noncomputable def o3_0 (c0 : Rows) (c1 : Int) (c2 : Row) (r : Rows) : X × Dt := (.exit 0, ⟨[.u, .r r], [], [(et 110 c2)], []⟩)
noncomputable def e3 (k : Nat) (d : Dt) : T (X × Dt) := out1 (iter (s3 k (aR (aN d.a 3)) (aI (aN d.a 4)) (d.r.getD 0 [])) k ((aR (aN d.a 2)), (aI (aN d.a 5)))) default (o3_0 (aR (aN d.a 3)) (aI (aN d.a 4)) (d.r.getD 0 []))
noncomputable def S (k : Nat) : Subs := fun n => bif Nat.beq n 3 then some (loopV Tryz.prog t3 (e3 k)) else none
noncomputable def f (k : Nat) (a0 : Rows) : T Row :=
  .bnd (iter (podcodec_list_api_SpreadRule_c119.s3 k a0 (rLen a0) [.int .i64 (0), .int .i64 (0), .str ByteArray.empty, .slice 110 [] .open, .slice 120 [] .open]) k ([], (0))) default fun r0 =>
  .bnd (value_List.f k r0).eval default fun r1 =>
  .ret (et 110 r1)
noncomputable def d (k : Nat) : Fun := mkFun [32, .fn 119 []] (fun as_ => f k (vRows (vN as_ 0))) default (fun r => .agg (et 110 r))
theorem hC (k : Nat) : CxOk (C k) := CxOk.cons (p := (119, podcodec_encodeSpread.d k)) (podcodec_encodeSpread.ok k) (CxOk.cons (p := (107, value_List.d k)) (value_List.ok k) (CxOk.nil))
theorem l3 (k : Nat) : LoopOk Tryz.prog (S k) (lp (bodyF (Go.Proofs.Tryz.f118)) 0) := loopOk_mk (C := C k) (hC k) (Loops.all (n := 0) (by kernel_rfl) trivial) (lt := t3) (den := e3 k) (by kernel_rfl) (N := (Rows × Int × Row)) (A := (Rows × Int)) (R := Rows)
 (fun n x => a3 n.1 n.2.1 n.2.2 x) (fun n r => o3_0 n.1 n.2.1 n.2.2 r) (fun n x => s3 k n.1 n.2.1 n.2.2 x) k (fun d => ((aR (aN d.a 3)), (aI (aN d.a 4)), (d.r.getD 0 []))) (fun d => ((aR (aN d.a 2)), (aI (aN d.a 5)))) (fun d y h => out1_eval h) (fun d => by kernel_rfl) (fun n x => by kernel_rfl) (fun n r => ⟨_, rfl⟩)
theorem ok (k : Nat) : FunOk Tryz.prog 118 (d k) := fun_mk (C := C k) (hC k) (S := S k) Tryz.func118 (by kernel_rfl) (by kernel_rfl) (Loops.all (n := 1) (by kernel_rfl) ⟨trivial, l3 k⟩) (fun as_ => by kernel_rfl)
end podcodec_list_api_SpreadRule_c119
namespace podcodec_encodeToleration
noncomputable def C (k : Nat) : Cx := ⟨Tryz.prog, tab [(111, value_Int.d k), (78, podcodec_field.d k), (143, value_Bool.d k), (108, value_String.d k), (77, value_Map.d k)], [], [], tab []⟩
noncomputable def S (k : Nat) : Subs := fun n => none
noncomputable def f (k : Nat) (a0 : Row) : T Row :=
  .bnd (value_Int.f k (rInt a0 3)).eval default fun r0 =>
  .bnd (podcodec_field.f k (bs [101, 102, 102, 101, 99, 116]) (et 110 r0)).eval default fun r1 =>
  .bnd (value_Bool.f k (rBool a0 2)).eval default fun r2 =>
  .bnd (podcodec_field.f k (bs [101, 120, 105, 115, 116, 115]) (et 110 r2)).eval default fun r3 =>
  .bnd (value_String.f k (rStr a0 0)).eval default fun r4 =>
  .bnd (podcodec_field.f k (bs [107, 101, 121]) (et 110 r4)).eval default fun r5 =>
  .bnd (value_Int.f k (rInt a0 4)).eval default fun r6 =>
  .bnd (podcodec_field.f k (bs [115, 101, 99, 111, 110, 100, 115]) (et 110 r6)).eval default fun r7 =>
  .bnd (value_String.f k (rStr a0 1)).eval default fun r8 =>
  .bnd (podcodec_field.f k (bs [118, 97, 108, 117, 101]) (et 110 r8)).eval default fun r9 =>
  .bnd (value_Map.f k [(et 120 r1), (et 120 r3), (et 120 r5), (et 120 r7), (et 120 r9)]).eval default fun r10 =>
  .ret (et 110 r10)
noncomputable def d (k : Nat) : Fun := mkFun [184] (fun as_ => f k (vRow (vN as_ 0))) default (fun r => .agg (et 110 r))
theorem hC (k : Nat) : CxOk (C k) := CxOk.cons (p := (111, value_Int.d k)) (value_Int.ok k) (CxOk.cons (p := (78, podcodec_field.d k)) (podcodec_field.ok k) (CxOk.cons (p := (143, value_Bool.d k)) (value_Bool.ok k) (CxOk.cons (p := (108, value_String.d k)) (value_String.ok k) (CxOk.cons (p := (77, value_Map.d k)) (value_Map.ok k) (CxOk.nil)))))
theorem ok (k : Nat) : FunOk Tryz.prog 121 (d k) := fun_mk (C := C k) (hC k) (S := S k) Tryz.func121 (by kernel_rfl) (by kernel_rfl) (Loops.all (n := 0) (by kernel_rfl) trivial) (fun as_ => by kernel_rfl)
end podcodec_encodeToleration
namespace podcodec_list_api_Toleration_c121
noncomputable def C (k : Nat) : Cx := ⟨Tryz.prog, tab [(121, podcodec_encodeToleration.d k), (107, value_List.d k)], [], [], tab []⟩
noncomputable def t3 : LoopT := ⟨⟨23, [.tmp 5 19 110], [(1, .fn 121 []), (4, .ptr 4 0), (5, .sl 110 (some 19)), (8, .sl 184 none), (9, .int .i64), (10, .int .i64)], [], [(4, 110)], []⟩, (fun | .exit 0 => some ⟨23, [], [(4, .ptr 4 0), (5, .sl 110 (some 19))], [], [(4, 110)], []⟩ | _ => none)⟩
noncomputable def s3 (k : Nat) (c0 : Rows) (c1 : Int) (c2 : Row) (x : (Rows × Int)) : T ((Rows × Int) ⊕ Rows) :=
  .test (iLt x.2 c1)
   (.test (iIn x.2 (rLen c0))
    (.bnd (podcodec_encodeToleration.f k (et 184 (rAt c0 x.2))).eval default fun r0 =>
    .test (rOk 80 (rLen x.1) (rLen [(et 110 r0)]))
     (.ret (.inl ((rCat x.1 [(et 110 r0)]), (iAdd .i64 x.2 (1)))))
     (.fail))
    (.fail))
   (.ret (.inr x.1))
noncomputable def a3 (c0 : Rows) (c1 : Int) (c2 : Row) (x : (Rows × Int)) : Dt := ⟨[.c [], .u, .r x.1, .r c0, .i c1, .i x.2], [], [et 110 c2], []⟩
noncomputable def o3_0 (c0 : Rows) (c1 : Int) (c2 : Row) (r : Rows) : X × Dt := (.exit 0, ⟨[.u, .r r], [], [(et 110 c2)], []⟩)
noncomputable def e3 (k : Nat) (d : Dt) : T (X × Dt) := out1 (iter (s3 k (aR (aN d.a 3)) (aI (aN d.a 4)) (d.r.getD 0 [])) k ((aR (aN d.a 2)), (aI (aN d.a 5)))) default (o3_0 (aR (aN d.a 3)) (aI (aN d.a 4)) (d.r.getD 0 []))
noncomputable def S (k : Nat) : Subs := fun n => bif Nat.beq n 3 then some (loopV Tryz.prog t3 (e3 k)) else none
noncomputable def f (k : Nat) (a0 : Rows) : T Row :=
  .bnd (iter (podcodec_list_api_Toleration_c121.s3 k a0 (rLen a0) [.int .i64 (0), .int .i64 (0), .str ByteArray.empty, .slice 110 [] .open, .slice 120 [] .open]) k ([], (0))) default fun r0 =>
  .bnd (value_List.f k r0).eval default fun r1 =>
  .ret (et 110 r1)
noncomputable def d (k : Nat) : Fun := mkFun [33, .fn 121 []] (fun as_ => f k (vRows (vN as_ 0))) default (fun r => .agg (et 110 r))
theorem hC (k : Nat) : CxOk (C k) := CxOk.cons (p := (121, podcodec_encodeToleration.d k)) (podcodec_encodeToleration.ok k) (CxOk.cons (p := (107, value_List.d k)) (value_List.ok k) (CxOk.nil))
theorem l3 (k : Nat) : LoopOk Tryz.prog (S k) (lp (bodyF (Go.Proofs.Tryz.f120)) 0) := loopOk_mk (C := C k) (hC k) (Loops.all (n := 0) (by kernel_rfl) trivial) (lt := t3) (den := e3 k) (by kernel_rfl) (N := (Rows × Int × Row)) (A := (Rows × Int)) (R := Rows)
 (fun n x => a3 n.1 n.2.1 n.2.2 x) (fun n r => o3_0 n.1 n.2.1 n.2.2 r) (fun n x => s3 k n.1 n.2.1 n.2.2 x) k (fun d => ((aR (aN d.a 3)), (aI (aN d.a 4)), (d.r.getD 0 []))) (fun d => ((aR (aN d.a 2)), (aI (aN d.a 5)))) (fun d y h => out1_eval h) (fun d => by kernel_rfl) (fun n x => by kernel_rfl) (fun n r => ⟨_, rfl⟩)
theorem ok (k : Nat) : FunOk Tryz.prog 120 (d k) := fun_mk (C := C k) (hC k) (S := S k) Tryz.func120 (by kernel_rfl) (by kernel_rfl) (Loops.all (n := 1) (by kernel_rfl) ⟨trivial, l3 k⟩) (fun as_ => by kernel_rfl)
end podcodec_list_api_Toleration_c121
namespace podcodec_encodeSpec
noncomputable def C (k : Nat) : Cx := ⟨Tryz.prog, tab [(111000109, podcodec_list_api_Container_c110.d k), (78, podcodec_field.d k), (111, value_Int.d k), (108, value_String.d k), (114000112, podcodec_list_api_Requirement_c113.d k), (116000114, podcodec_list_api_NodeTerm_c115.d k), (118000116, podcodec_list_api_PodTerm_c117.d k), (120000118, podcodec_list_api_SpreadRule_c119.d k), (122000120, podcodec_list_api_Toleration_c121.d k), (77, value_Map.d k)], [], [], tab []⟩
noncomputable def S (k : Nat) : Subs := fun n => none
noncomputable def f (k : Nat) (a0 : Row) : T Row :=
  .bnd (podcodec_list_api_Container_c110.f k (rSl a0 4)).eval default fun r0 =>
  .bnd (podcodec_field.f k (bs [99, 111, 110, 116, 97, 105, 110, 101, 114, 115]) (et 110 r0)).eval default fun r1 =>
  .bnd (value_Int.f k (rInt a0 3)).eval default fun r2 =>
  .bnd (podcodec_field.f k (bs [103, 114, 97, 99, 101]) (et 110 r2)).eval default fun r3 =>
  .bnd (value_String.f k (rStr a0 0)).eval default fun r4 =>
  .bnd (podcodec_field.f k (bs [110, 111, 100, 101]) (et 110 r4)).eval default fun r5 =>
  .bnd (podcodec_list_api_Requirement_c113.f k (rSl a0 5)).eval default fun r6 =>
  .bnd (podcodec_field.f k (bs [110, 111, 100, 101, 83, 101, 108, 101, 99, 116, 111, 114]) (et 110 r6)).eval default fun r7 =>
  .bnd (podcodec_list_api_NodeTerm_c115.f k (rSl a0 6)).eval default fun r8 =>
  .bnd (podcodec_field.f k (bs [110, 111, 100, 101, 84, 101, 114, 109, 115]) (et 110 r8)).eval default fun r9 =>
  .bnd (podcodec_list_api_PodTerm_c117.f k (rSl a0 7)).eval default fun r10 =>
  .bnd (podcodec_field.f k (bs [112, 111, 100, 84, 101, 114, 109, 115]) (et 110 r10)).eval default fun r11 =>
  .bnd (value_Int.f k (rInt a0 1)).eval default fun r12 =>
  .bnd (podcodec_field.f k (bs [112, 114, 105, 111, 114, 105, 116, 121]) (et 110 r12)).eval default fun r13 =>
  .bnd (value_Int.f k (rInt a0 2)).eval default fun r14 =>
  .bnd (podcodec_field.f k (bs [114, 101, 115, 116, 97, 114, 116]) (et 110 r14)).eval default fun r15 =>
  .bnd (podcodec_list_api_SpreadRule_c119.f k (rSl a0 8)).eval default fun r16 =>
  .bnd (podcodec_field.f k (bs [115, 112, 114, 101, 97, 100]) (et 110 r16)).eval default fun r17 =>
  .bnd (podcodec_list_api_Toleration_c121.f k (rSl a0 9)).eval default fun r18 =>
  .bnd (podcodec_field.f k (bs [116, 111, 108, 101, 114, 97, 116, 105, 111, 110, 115]) (et 110 r18)).eval default fun r19 =>
  .bnd (value_Map.f k [(et 120 r1), (et 120 r3), (et 120 r5), (et 120 r7), (et 120 r9), (et 120 r11), (et 120 r13), (et 120 r15), (et 120 r17), (et 120 r19)]).eval default fun r20 =>
  .ret (et 110 r20)
noncomputable def d (k : Nat) : Fun := mkFun [35] (fun as_ => f k (vRow (vN as_ 0))) default (fun r => .agg (et 110 r))
theorem hC (k : Nat) : CxOk (C k) := CxOk.consK (p := (111000109, podcodec_list_api_Container_c110.d k)) (by kernel_rfl) (podcodec_list_api_Container_c110.ok k) (CxOk.cons (p := (78, podcodec_field.d k)) (podcodec_field.ok k) (CxOk.cons (p := (111, value_Int.d k)) (value_Int.ok k) (CxOk.cons (p := (108, value_String.d k)) (value_String.ok k) (CxOk.consK (p := (114000112, podcodec_list_api_Requirement_c113.d k)) (by kernel_rfl) (podcodec_list_api_Requirement_c113.ok k) (CxOk.consK (p := (116000114, podcodec_list_api_NodeTerm_c115.d k)) (by kernel_rfl) (podcodec_list_api_NodeTerm_c115.ok k) (CxOk.consK (p := (118000116, podcodec_list_api_PodTerm_c117.d k)) (by kernel_rfl) (podcodec_list_api_PodTerm_c117.ok k) (CxOk.consK (p := (120000118, podcodec_list_api_SpreadRule_c119.d k)) (by kernel_rfl) (podcodec_list_api_SpreadRule_c119.ok k) (CxOk.consK (p := (122000120, podcodec_list_api_Toleration_c121.d k)) (by kernel_rfl) (podcodec_list_api_Toleration_c121.ok k) (CxOk.cons (p := (77, value_Map.d k)) (value_Map.ok k) (CxOk.nil))))))))))
theorem ok (k : Nat) : FunOk Tryz.prog 81 (d k) := fun_mk (C := C k) (hC k) (S := S k) Tryz.func81 (by kernel_rfl) (by kernel_rfl) (Loops.all (n := 0) (by kernel_rfl) trivial) (fun as_ => by kernel_rfl)
end podcodec_encodeSpec
namespace podcodec_FromTemplate
noncomputable def C (k : Nat) : Cx := ⟨Tryz.prog, tab [(81000079, podcodec_list_api_Label_c80.d k), (78, podcodec_field.d k), (81, podcodec_encodeSpec.d k), (77, value_Map.d k)], [], [], tab []⟩
noncomputable def S (k : Nat) : Subs := fun n => none
noncomputable def f (k : Nat) (a0 : Row) : T Row :=
  .bnd (podcodec_list_api_Label_c80.f k (rSl a0 0)).eval default fun r0 =>
  .bnd (podcodec_field.f k (bs [108, 97, 98, 101, 108, 115]) (et 110 r0)).eval default fun r1 =>
  .bnd (podcodec_encodeSpec.f k (eo 35 a0 1)).eval default fun r2 =>
  .bnd (podcodec_field.f k (bs [115, 112, 101, 99]) (et 110 r2)).eval default fun r3 =>
  .bnd (value_Map.f k [(et 120 r1), (et 120 r3)]).eval default fun r4 =>
  .ret (et 110 r4)
noncomputable def d (k : Nat) : Fun := mkFun [37] (fun as_ => f k (vRow (vN as_ 0))) default (fun r => .agg (et 110 r))
theorem hC (k : Nat) : CxOk (C k) := CxOk.consK (p := (81000079, podcodec_list_api_Label_c80.d k)) (by kernel_rfl) (podcodec_list_api_Label_c80.ok k) (CxOk.cons (p := (78, podcodec_field.d k)) (podcodec_field.ok k) (CxOk.cons (p := (81, podcodec_encodeSpec.d k)) (podcodec_encodeSpec.ok k) (CxOk.cons (p := (77, value_Map.d k)) (value_Map.ok k) (CxOk.nil))))
theorem ok (k : Nat) : FunOk Tryz.prog 61 (d k) := fun_mk (C := C k) (hC k) (S := S k) Tryz.func61 (by kernel_rfl) (by kernel_rfl) (Loops.all (n := 0) (by kernel_rfl) trivial) (fun as_ => by kernel_rfl)
end podcodec_FromTemplate
end Go.Proofs.YtolackmpfnndhaaGreatDoor.Ev
