/- Go functions as Lean functions, printed by a program of this claim's author; each with its proof. Conditions: stated at each. -/
import Derived.Test.YtbmpglgnoaildaaSndD
import Derived.Test.YtbmpglgnoaildaaProg
namespace Go.Proofs.Ytbmpglgnoaildaa.Ev
open Go
set_option linter.unusedVariables false
set_option maxRecDepth 100000
/-- A row in its type's form. -/
noncomputable abbrev et (t : Nat) (r : Row) : Row := eta Try.prog t r
/-- A part of a row, in its type's form. -/
noncomputable abbrev eo (t : Nat) (r : Row) (o : Nat) : Row := etaL Try.prog r o (ctsOf Try.prog t)
namespace law19_SmallMeta
noncomputable def C (k : Nat) : Cx := ⟨Try.prog, tab [], [], [], tab []⟩
noncomputable def t4 : LoopT := ⟨⟨121, [], [(1, .ptr 1 0), (50, .sl 94 none), (51, .int .i64), (52, .int .i64)], [], [(1, 27)], []⟩, (fun | .ret => some ⟨121, [], [(2, .bool)], [], [], []⟩ | .exit 0 => some ⟨121, [], [(1, .ptr 1 0)], [], [(1, 27)], []⟩ | _ => none)⟩
noncomputable def s4 (k : Nat) (c0 : Rows) (c1 : Int) (c2 : Row) (x : Int) : T (Int ⊕ (Bool ⊕ Unit)) :=
  .test (iLt x c1)
   (.test (iIn x (rLen c0))
    (.test (iLt (400) (iAdd .i64 (sLen (rStr (rAt c0 x) 0)) (sLen (rStr (rAt c0 x) 1))))
     (.ret (.inr (.inl false)))
     (.ret (.inl (iAdd .i64 x (1)))))
    (.fail))
   (.ret (.inr (.inr ())))
noncomputable def a4 (c0 : Rows) (c1 : Int) (c2 : Row) (x : Int) : Dt := ⟨[.u, .r c0, .i c1, .i x], [], [et 27 c2], []⟩
noncomputable def o4_0 (c0 : Rows) (c1 : Int) (c2 : Row) (r : Bool) : X × Dt := (.ret, ⟨[.b r], [], [], []⟩)
noncomputable def o4_1 (c0 : Rows) (c1 : Int) (c2 : Row) (r : Unit) : X × Dt := (.exit 0, ⟨[.u], [], [(et 27 c2)], []⟩)
noncomputable def e4 (k : Nat) (d : Dt) : T (X × Dt) := out2 (iter (s4 k (aR (aN d.a 1)) (aI (aN d.a 2)) (d.r.getD 0 [])) k (aI (aN d.a 3))) (o4_0 (aR (aN d.a 1)) (aI (aN d.a 2)) (d.r.getD 0 [])) (o4_1 (aR (aN d.a 1)) (aI (aN d.a 2)) (d.r.getD 0 []))
noncomputable def t10 : LoopT := ⟨⟨121, [], [(1, .ptr 1 0), (66, .sl 96 none), (67, .int .i64), (68, .int .i64)], [], [(1, 27)], []⟩, (fun | .ret => some ⟨121, [], [(2, .bool)], [], [], []⟩ | .exit 2 => some ⟨121, [], [(1, .ptr 1 0)], [], [(1, 27)], []⟩ | _ => none)⟩
noncomputable def s10 (k : Nat) (c0 : Rows) (c1 : Int) (c2 : Row) (x : Int) : T (Int ⊕ (Bool ⊕ Unit)) :=
  .test (iLt x c1)
   (.test (iIn x (rLen c0))
    (.test (iLt (400) (iAdd .i64 (sLen (rStr (rAt c0 x) 0)) (sLen (rStr (rAt c0 x) 1))))
     (.ret (.inr (.inl false)))
     (.ret (.inl (iAdd .i64 x (1)))))
    (.fail))
   (.ret (.inr (.inr ())))
noncomputable def a10 (c0 : Rows) (c1 : Int) (c2 : Row) (x : Int) : Dt := ⟨[.u, .r c0, .i c1, .i x], [], [et 27 c2], []⟩
noncomputable def o10_0 (c0 : Rows) (c1 : Int) (c2 : Row) (r : Bool) : X × Dt := (.ret, ⟨[.b r], [], [], []⟩)
noncomputable def o10_1 (c0 : Rows) (c1 : Int) (c2 : Row) (r : Unit) : X × Dt := (.exit 2, ⟨[.u], [], [(et 27 c2)], []⟩)
noncomputable def e10 (k : Nat) (d : Dt) : T (X × Dt) := out2 (iter (s10 k (aR (aN d.a 1)) (aI (aN d.a 2)) (d.r.getD 0 [])) k (aI (aN d.a 3))) (o10_0 (aR (aN d.a 1)) (aI (aN d.a 2)) (d.r.getD 0 [])) (o10_1 (aR (aN d.a 1)) (aI (aN d.a 2)) (d.r.getD 0 []))
noncomputable def t16 : LoopT := ⟨⟨121, [], [(1, .ptr 1 0), (82, .sl 9 none), (83, .int .i64), (84, .int .i64)], [], [(1, 27)], []⟩, (fun | .ret => some ⟨121, [], [(2, .bool)], [], [], []⟩ | .exit 4 => some ⟨121, [], [(1, .ptr 1 0)], [], [(1, 27)], []⟩ | _ => none)⟩
noncomputable def s16 (k : Nat) (c0 : Rows) (c1 : Int) (c2 : Row) (x : Int) : T (Int ⊕ (Bool ⊕ Unit)) :=
  .test (iLt x c1)
   (.test (iIn x (rLen c0))
    (.test (iLt (400) (sLen (rStr (rAt c0 x) 0)))
     (.ret (.inr (.inl false)))
     (.ret (.inl (iAdd .i64 x (1)))))
    (.fail))
   (.ret (.inr (.inr ())))
noncomputable def a16 (c0 : Rows) (c1 : Int) (c2 : Row) (x : Int) : Dt := ⟨[.u, .r c0, .i c1, .i x], [], [et 27 c2], []⟩
noncomputable def o16_0 (c0 : Rows) (c1 : Int) (c2 : Row) (r : Bool) : X × Dt := (.ret, ⟨[.b r], [], [], []⟩)
noncomputable def o16_1 (c0 : Rows) (c1 : Int) (c2 : Row) (r : Unit) : X × Dt := (.exit 4, ⟨[.u], [], [(et 27 c2)], []⟩)
noncomputable def e16 (k : Nat) (d : Dt) : T (X × Dt) := out2 (iter (s16 k (aR (aN d.a 1)) (aI (aN d.a 2)) (d.r.getD 0 [])) k (aI (aN d.a 3))) (o16_0 (aR (aN d.a 1)) (aI (aN d.a 2)) (d.r.getD 0 [])) (o16_1 (aR (aN d.a 1)) (aI (aN d.a 2)) (d.r.getD 0 []))
noncomputable def t27 : LoopT := ⟨⟨121, [], [(93, .sl 98 none), (94, .int .i64), (95, .int .i64), (110, .sl 9 none), (111, .int .i64), (112, .int .i64)], [], [], []⟩, (fun | .ret => some ⟨121, [], [(2, .bool)], [], [], []⟩ | .exit 8 => some ⟨121, [], [(93, .sl 98 none), (94, .int .i64), (95, .int .i64)], [], [], []⟩ | _ => none)⟩
noncomputable def s27 (k : Nat) (c0 : Rows) (c1 : Int) (c2 : Int) (c3 : Rows) (c4 : Int) (x : Int) : T (Int ⊕ (Bool ⊕ Unit)) :=
  .test (iLt x c4)
   (.test (iIn x (rLen c3))
    (.test (iLt (2000) (sLen (rStr (rAt c3 x) 0)))
     (.ret (.inr (.inl false)))
     (.ret (.inl (iAdd .i64 x (1)))))
    (.fail))
   (.ret (.inr (.inr ())))
noncomputable def a27 (c0 : Rows) (c1 : Int) (c2 : Int) (c3 : Rows) (c4 : Int) (x : Int) : Dt := ⟨[.r c0, .i c1, .i c2, .r c3, .i c4, .i x], [], [], []⟩
noncomputable def o27_0 (c0 : Rows) (c1 : Int) (c2 : Int) (c3 : Rows) (c4 : Int) (r : Bool) : X × Dt := (.ret, ⟨[.b r], [], [], []⟩)
noncomputable def o27_1 (c0 : Rows) (c1 : Int) (c2 : Int) (c3 : Rows) (c4 : Int) (r : Unit) : X × Dt := (.exit 8, ⟨[.r c0, .i c1, .i c2], [], [], []⟩)
noncomputable def e27 (k : Nat) (d : Dt) : T (X × Dt) := out2 (iter (s27 k (aR (aN d.a 0)) (aI (aN d.a 1)) (aI (aN d.a 2)) (aR (aN d.a 3)) (aI (aN d.a 4))) k (aI (aN d.a 5))) (o27_0 (aR (aN d.a 0)) (aI (aN d.a 1)) (aI (aN d.a 2)) (aR (aN d.a 3)) (aI (aN d.a 4))) (o27_1 (aR (aN d.a 0)) (aI (aN d.a 1)) (aI (aN d.a 2)) (aR (aN d.a 3)) (aI (aN d.a 4)))
noncomputable def t22 : LoopT := ⟨⟨121, [], [(93, .sl 98 none), (94, .int .i64), (95, .int .i64)], [], [], []⟩, (fun | .ret => some ⟨121, [], [(2, .bool)], [], [], []⟩ | .exit 6 => some ⟨121, [], [], [], [], []⟩ | _ => none)⟩
noncomputable def s22 (k : Nat) (c0 : Rows) (c1 : Int) (x : Int) : T (Int ⊕ (Bool ⊕ Unit)) :=
  .test (iLt x c1)
   (.test (iIn x (rLen c0))
    (.test (bIte (iLt (400) (sLen (rStr (rAt c0 x) 0))) true (iLt (200) (rLen (rSl (rAt c0 x) 1))))
     (.ret (.inr (.inl false)))
     (.cas (iter (law19_SmallMeta.s27 k c0 c1 x (rSl (rAt c0 x) 1) (rLen (rSl (rAt c0 x) 1))) k (0)) (fun r0 =>
      .ret (.inr (.inl r0))) (fun r1 =>
      .ret (.inl (iAdd .i64 x (1))))))
    (.fail))
   (.ret (.inr (.inr ())))
noncomputable def a22 (c0 : Rows) (c1 : Int) (x : Int) : Dt := ⟨[.r c0, .i c1, .i x], [], [], []⟩
noncomputable def o22_0 (c0 : Rows) (c1 : Int) (r : Bool) : X × Dt := (.ret, ⟨[.b r], [], [], []⟩)
noncomputable def o22_1 (c0 : Rows) (c1 : Int) (r : Unit) : X × Dt := (.exit 6, ⟨[], [], [], []⟩)
noncomputable def e22 (k : Nat) (d : Dt) : T (X × Dt) := out2 (iter (s22 k (aR (aN d.a 0)) (aI (aN d.a 1))) k (aI (aN d.a 2))) (o22_0 (aR (aN d.a 0)) (aI (aN d.a 1))) (o22_1 (aR (aN d.a 0)) (aI (aN d.a 1)))
noncomputable def S (k : Nat) : Subs := fun n => bif Nat.beq n 4 then some (loopV Try.prog t4 (e4 k)) else bif Nat.beq n 10 then some (loopV Try.prog t10 (e10 k)) else bif Nat.beq n 16 then some (loopV Try.prog t16 (e16 k)) else bif Nat.beq n 27 then some (loopV Try.prog t27 (e27 k)) else bif Nat.beq n 22 then some (loopV Try.prog t22 (e22 k)) else none
noncomputable def f (k : Nat) (a0 : Row) : T Bool :=
  .test (bIte (bIte (bIte (bIte (iLt (60) (rLen (rSl a0 9))) true (iLt (60) (rLen (rSl a0 10)))) true (iLt (60) (rLen (rSl a0 11)))) true (iLt (60) (rLen (rSl a0 12)))) true (iLt (400) (iAdd .i64 (iAdd .i64 (sLen (rStr a0 0)) (sLen (rStr a0 1))) (sLen (rStr a0 2)))))
   (.ret false)
   (.cas (iter (law19_SmallMeta.s4 k (rSl a0 9) (rLen (rSl a0 9)) (et 27 a0)) k (0)) (fun r0 =>
    .ret r0) (fun r1 =>
    .cas (iter (law19_SmallMeta.s10 k (rSl a0 10) (rLen (rSl a0 10)) (et 27 a0)) k (0)) (fun r2 =>
     .ret r2) (fun r3 =>
     .cas (iter (law19_SmallMeta.s16 k (rSl a0 11) (rLen (rSl a0 11)) (et 27 a0)) k (0)) (fun r4 =>
      .ret r4) (fun r5 =>
      .cas (iter (law19_SmallMeta.s22 k (rSl a0 12) (rLen (rSl a0 12))) k (0)) (fun r6 =>
       .ret r6) (fun r7 =>
       .ret true)))))
noncomputable def d (k : Nat) : Fun := mkFun [27] (fun as_ => f k (vRow (vN as_ 0))) default (fun r => .bool r)
theorem hC (k : Nat) : CxOk (C k) := CxOk.nil
theorem l4 (k : Nat) : LoopOk Try.prog (S k) (lp (bodyF Go.Proofs.Try.f27) 0) := loopOk_mk (C := C k) (hC k) (Loops.all (n := 0) (by kernel_rfl) trivial) (lt := t4) (den := e4 k) (by kernel_rfl) (N := (Rows × Int × Row)) (A := Int) (R := (Bool ⊕ Unit))
 (fun n x => a4 n.1 n.2.1 n.2.2 x) (fun n r => Sum.elim (o4_0 n.1 n.2.1 n.2.2) (o4_1 n.1 n.2.1 n.2.2) r) (fun n x => s4 k n.1 n.2.1 n.2.2 x) k (fun d => ((aR (aN d.a 1)), (aI (aN d.a 2)), (d.r.getD 0 []))) (fun d => (aI (aN d.a 3))) (fun d y h => out2_eval h) (fun d => by kernel_rfl) (fun n x => by kernel_rfl) (fun n r => by rcases r with r | r <;> exact ⟨_, rfl⟩)
theorem l10 (k : Nat) : LoopOk Try.prog (S k) (lp (bodyF Go.Proofs.Try.f27) 1) := loopOk_mk (C := C k) (hC k) (Loops.all (n := 0) (by kernel_rfl) trivial) (lt := t10) (den := e10 k) (by kernel_rfl) (N := (Rows × Int × Row)) (A := Int) (R := (Bool ⊕ Unit))
 (fun n x => a10 n.1 n.2.1 n.2.2 x) (fun n r => Sum.elim (o10_0 n.1 n.2.1 n.2.2) (o10_1 n.1 n.2.1 n.2.2) r) (fun n x => s10 k n.1 n.2.1 n.2.2 x) k (fun d => ((aR (aN d.a 1)), (aI (aN d.a 2)), (d.r.getD 0 []))) (fun d => (aI (aN d.a 3))) (fun d y h => out2_eval h) (fun d => by kernel_rfl) (fun n x => by kernel_rfl) (fun n r => by rcases r with r | r <;> exact ⟨_, rfl⟩)
theorem l16 (k : Nat) : LoopOk Try.prog (S k) (lp (bodyF Go.Proofs.Try.f27) 2) := loopOk_mk (C := C k) (hC k) (Loops.all (n := 0) (by kernel_rfl) trivial) (lt := t16) (den := e16 k) (by kernel_rfl) (N := (Rows × Int × Row)) (A := Int) (R := (Bool ⊕ Unit))
 (fun n x => a16 n.1 n.2.1 n.2.2 x) (fun n r => Sum.elim (o16_0 n.1 n.2.1 n.2.2) (o16_1 n.1 n.2.1 n.2.2) r) (fun n x => s16 k n.1 n.2.1 n.2.2 x) k (fun d => ((aR (aN d.a 1)), (aI (aN d.a 2)), (d.r.getD 0 []))) (fun d => (aI (aN d.a 3))) (fun d y h => out2_eval h) (fun d => by kernel_rfl) (fun n x => by kernel_rfl) (fun n r => by rcases r with r | r <;> exact ⟨_, rfl⟩)
theorem l27 (k : Nat) : LoopOk Try.prog (S k) (lp (lp (bodyF Go.Proofs.Try.f27) 3) 0) := loopOk_mk (C := C k) (hC k) (Loops.all (n := 0) (by kernel_rfl) trivial) (lt := t27) (den := e27 k) (by kernel_rfl) (N := (Rows × Int × Int × Rows × Int)) (A := Int) (R := (Bool ⊕ Unit))
 (fun n x => a27 n.1 n.2.1 n.2.2.1 n.2.2.2.1 n.2.2.2.2 x) (fun n r => Sum.elim (o27_0 n.1 n.2.1 n.2.2.1 n.2.2.2.1 n.2.2.2.2) (o27_1 n.1 n.2.1 n.2.2.1 n.2.2.2.1 n.2.2.2.2) r) (fun n x => s27 k n.1 n.2.1 n.2.2.1 n.2.2.2.1 n.2.2.2.2 x) k (fun d => ((aR (aN d.a 0)), (aI (aN d.a 1)), (aI (aN d.a 2)), (aR (aN d.a 3)), (aI (aN d.a 4)))) (fun d => (aI (aN d.a 5))) (fun d y h => out2_eval h) (fun d => by kernel_rfl) (fun n x => by kernel_rfl) (fun n r => by rcases r with r | r <;> exact ⟨_, rfl⟩)
theorem l22 (k : Nat) : LoopOk Try.prog (S k) (lp (bodyF Go.Proofs.Try.f27) 3) := loopOk_mk (C := C k) (hC k) (Loops.all (n := 1) (by kernel_rfl) ⟨trivial, l27 k⟩) (lt := t22) (den := e22 k) (by kernel_rfl) (N := (Rows × Int)) (A := Int) (R := (Bool ⊕ Unit))
 (fun n x => a22 n.1 n.2 x) (fun n r => Sum.elim (o22_0 n.1 n.2) (o22_1 n.1 n.2) r) (fun n x => s22 k n.1 n.2 x) k (fun d => ((aR (aN d.a 0)), (aI (aN d.a 1)))) (fun d => (aI (aN d.a 2))) (fun d y h => out2_eval h) (fun d => by kernel_rfl) (fun n x => by kernel_rfl) (fun n r => by rcases r with r | r <;> exact ⟨_, rfl⟩)
theorem ok (k : Nat) : FunOk Try.prog 27 (d k) := fun_mk (C := C k) (hC k) (S := S k) Try.func27 (by kernel_rfl) (by kernel_rfl) (Loops.all (n := 4) (by kernel_rfl) ⟨⟨⟨⟨trivial, l4 k⟩, l10 k⟩, l16 k⟩, l22 k⟩) (fun as_ => by kernel_rfl)
end law19_SmallMeta
namespace ref19_str
noncomputable def C (k : Nat) : Cx := ⟨Try.prog, tab [], [], [], tab []⟩
noncomputable def S (k : Nat) : Subs := fun n => none
noncomputable def f (k : Nat) (a0 : ByteArray) : T Row :=
  .ret [.int .i64 (3), .int .i64 (0), .str a0, .slice 104 [] .open, .slice 114 [] .open]
noncomputable def d (k : Nat) : Fun := mkFun [9] (fun as_ => f k (vStr (vN as_ 0))) default (fun r => .agg (et 104 r))
theorem hC (k : Nat) : CxOk (C k) := CxOk.nil
theorem ok (k : Nat) : FunOk Try.prog 50 (d k) := fun_mk (C := C k) (hC k) (S := S k) Try.func50 (by kernel_rfl) (by kernel_rfl) (Loops.all (n := 0) (by kernel_rfl) trivial) (fun as_ => by kernel_rfl)
end ref19_str
namespace ref19_at
noncomputable def C (k : Nat) : Cx := ⟨Try.prog, tab [], [], [], tab []⟩
noncomputable def S (k : Nat) : Subs := fun n => none
noncomputable def f (k : Nat) (a0 : ByteArray) (a1 : Row) : T Row :=
  .ret (rJ [[.str a0], (et 104 a1)])
noncomputable def d (k : Nat) : Fun := mkFun [9, 104] (fun as_ => f k (vStr (vN as_ 0)) (vRow (vN as_ 1))) default (fun r => .agg (et 114 r))
theorem hC (k : Nat) : CxOk (C k) := CxOk.nil
theorem ok (k : Nat) : FunOk Try.prog 47 (d k) := fun_mk (C := C k) (hC k) (S := S k) Try.func47 (by kernel_rfl) (by kernel_rfl) (Loops.all (n := 0) (by kernel_rfl) trivial) (fun as_ => by kernel_rfl)
end ref19_at
namespace ref19_num
noncomputable def C (k : Nat) : Cx := ⟨Try.prog, tab [], [], [], tab []⟩
noncomputable def S (k : Nat) : Subs := fun n => none
noncomputable def f (k : Nat) (a0 : Int) : T Row :=
  .ret [.int .i64 (2), .int .i64 a0, .str ByteArray.empty, .slice 104 [] .open, .slice 114 [] .open]
noncomputable def d (k : Nat) : Fun := mkFun [3] (fun as_ => f k (vInt (vN as_ 0))) default (fun r => .agg (et 104 r))
theorem hC (k : Nat) : CxOk (C k) := CxOk.nil
theorem ok (k : Nat) : FunOk Try.prog 49 (d k) := fun_mk (C := C k) (hC k) (S := S k) Try.func49 (by kernel_rfl) (by kernel_rfl) (Loops.all (n := 0) (by kernel_rfl) trivial) (fun as_ => by kernel_rfl)
end ref19_num
namespace ref19_object
noncomputable def C (k : Nat) : Cx := ⟨Try.prog, tab [], [], [], tab []⟩
noncomputable def S (k : Nat) : Subs := fun n => none
noncomputable def f (k : Nat) (a0 : Rows) : T Row :=
  .ret [.int .i64 (5), .int .i64 (0), .str ByteArray.empty, .slice 104 [] .open, .slice 114 a0 .open]
noncomputable def d (k : Nat) : Fun := mkFun [102] (fun as_ => f k (vRows (vN as_ 0))) default (fun r => .agg (et 104 r))
theorem hC (k : Nat) : CxOk (C k) := CxOk.nil
theorem ok (k : Nat) : FunOk Try.prog 46 (d k) := fun_mk (C := C k) (hC k) (S := S k) Try.func46 (by kernel_rfl) (by kernel_rfl) (Loops.all (n := 0) (by kernel_rfl) trivial) (fun as_ => by kernel_rfl)
end ref19_object
namespace ref19_fromResources
noncomputable def C (k : Nat) : Cx := ⟨Try.prog, tab [(49, ref19_num.d k), (47, ref19_at.d k), (46, ref19_object.d k)], [], [], tab []⟩
noncomputable def S (k : Nat) : Subs := fun n => none
noncomputable def f (k : Nat) (a0 : Row) : T Row :=
  .bnd (ref19_num.f k (rInt a0 0)).eval default fun r0 =>
  .bnd (ref19_at.f k (bs [99, 112, 117]) (et 104 r0)).eval default fun r1 =>
  .bnd (ref19_num.f k (rInt a0 2)).eval default fun r2 =>
  .bnd (ref19_at.f k (bs [100, 105, 115, 107]) (et 104 r2)).eval default fun r3 =>
  .bnd (ref19_num.f k (rInt a0 1)).eval default fun r4 =>
  .bnd (ref19_at.f k (bs [109, 101, 109, 111, 114, 121]) (et 104 r4)).eval default fun r5 =>
  .bnd (ref19_object.f k [(et 114 r1), (et 114 r3), (et 114 r5)]).eval default fun r6 =>
  .ret (et 104 r6)
noncomputable def d (k : Nat) : Fun := mkFun [127] (fun as_ => f k (vRow (vN as_ 0))) default (fun r => .agg (et 104 r))
theorem hC (k : Nat) : CxOk (C k) := CxOk.cons (p := (49, ref19_num.d k)) (ref19_num.ok k) (CxOk.cons (p := (47, ref19_at.d k)) (ref19_at.ok k) (CxOk.cons (p := (46, ref19_object.d k)) (ref19_object.ok k) (CxOk.nil)))
theorem ok (k : Nat) : FunOk Try.prog 58 (d k) := fun_mk (C := C k) (hC k) (S := S k) Try.func58 (by kernel_rfl) (by kernel_rfl) (Loops.all (n := 0) (by kernel_rfl) trivial) (fun as_ => by kernel_rfl)
end ref19_fromResources
namespace ref19_list
noncomputable def C (k : Nat) : Cx := ⟨Try.prog, tab [], [], [], tab []⟩
noncomputable def S (k : Nat) : Subs := fun n => none
noncomputable def f (k : Nat) (a0 : Rows) : T Row :=
  .ret [.int .i64 (4), .int .i64 (0), .str ByteArray.empty, .slice 104 a0 .open, .slice 114 [] .open]
noncomputable def d (k : Nat) : Fun := mkFun [101] (fun as_ => f k (vRows (vN as_ 0))) default (fun r => .agg (et 104 r))
theorem hC (k : Nat) : CxOk (C k) := CxOk.nil
theorem ok (k : Nat) : FunOk Try.prog 60 (d k) := fun_mk (C := C k) (hC k) (S := S k) Try.func60 (by kernel_rfl) (by kernel_rfl) (Loops.all (n := 0) (by kernel_rfl) trivial) (fun as_ => by kernel_rfl)
end ref19_list
namespace ref19_fromProbes
noncomputable def C (k : Nat) : Cx := ⟨Try.prog, tab [(49, ref19_num.d k), (47, ref19_at.d k), (46, ref19_object.d k), (60, ref19_list.d k)], [], [], tab []⟩
noncomputable def t3 : LoopT := ⟨⟨46, [.tmp 3 43 104], [(0, .sl 148 none), (2, .ptr 2 0), (3, .sl 104 (some 43)), (4, .int .i64)], [], [(2, 104)], []⟩, (fun | .exit 0 => some ⟨46, [], [(2, .ptr 2 0), (3, .sl 104 (some 43))], [], [(2, 104)], []⟩ | _ => none)⟩
noncomputable def s3 (k : Nat) (c0 : Rows) (c1 : Row) (x : (Rows × Int)) : T ((Rows × Int) ⊕ Rows) :=
  .test (iLt x.2 (rLen c0))
   (.test (iIn x.2 (rLen c0))
    (.bnd (ref19_num.f k (rInt (rAt c0 x.2) 0)).eval default fun r0 =>
    .bnd (ref19_at.f k (bs [100, 101, 108, 97, 121]) (et 104 r0)).eval default fun r1 =>
    .test (iIn x.2 (rLen c0))
     (.bnd (ref19_num.f k (rInt (rAt c0 x.2) 3)).eval default fun r2 =>
     .bnd (ref19_at.f k (bs [102, 97, 105, 108, 117, 114, 101]) (et 104 r2)).eval default fun r3 =>
     .test (iIn x.2 (rLen c0))
      (.bnd (ref19_num.f k (rInt (rAt c0 x.2) 1)).eval default fun r4 =>
      .bnd (ref19_at.f k (bs [112, 101, 114, 105, 111, 100]) (et 104 r4)).eval default fun r5 =>
      .test (iIn x.2 (rLen c0))
       (.bnd (ref19_num.f k (rInt (rAt c0 x.2) 2)).eval default fun r6 =>
       .bnd (ref19_at.f k (bs [115, 117, 99, 99, 101, 115, 115]) (et 104 r6)).eval default fun r7 =>
       .bnd (ref19_object.f k [(et 114 r1), (et 114 r3), (et 114 r5), (et 114 r7)]).eval default fun r8 =>
       .test (rOk 80 (rLen x.1) (rLen [(et 104 r8)]))
        (.ret (.inl ((rCat x.1 [(et 104 r8)]), (iAdd .i64 x.2 (1)))))
        (.fail))
       (.fail))
      (.fail))
     (.fail))
    (.fail))
   (.ret (.inr x.1))
noncomputable def a3 (c0 : Rows) (c1 : Row) (x : (Rows × Int)) : Dt := ⟨[.r c0, .u, .r x.1, .i x.2], [], [et 104 c1], []⟩
noncomputable def o3_0 (c0 : Rows) (c1 : Row) (r : Rows) : X × Dt := (.exit 0, ⟨[.u, .r r], [], [(et 104 c1)], []⟩)
noncomputable def e3 (k : Nat) (d : Dt) : T (X × Dt) := out1 (iter (s3 k (aR (aN d.a 0)) (d.r.getD 0 [])) k ((aR (aN d.a 2)), (aI (aN d.a 3)))) default (o3_0 (aR (aN d.a 0)) (d.r.getD 0 []))
noncomputable def S (k : Nat) : Subs := fun n => bif Nat.beq n 3 then some (loopV Try.prog t3 (e3 k)) else none
noncomputable def f (k : Nat) (a0 : Rows) : T Row :=
  .bnd (iter (ref19_fromProbes.s3 k a0 [.int .i64 (0), .int .i64 (0), .str ByteArray.empty, .slice 104 [] .open, .slice 114 [] .open]) k ([], (0))) default fun r0 =>
  .bnd (ref19_list.f k r0).eval default fun r1 =>
  .ret (et 104 r1)
noncomputable def d (k : Nat) : Fun := mkFun [128] (fun as_ => f k (vRows (vN as_ 0))) default (fun r => .agg (et 104 r))
theorem hC (k : Nat) : CxOk (C k) := CxOk.cons (p := (49, ref19_num.d k)) (ref19_num.ok k) (CxOk.cons (p := (47, ref19_at.d k)) (ref19_at.ok k) (CxOk.cons (p := (46, ref19_object.d k)) (ref19_object.ok k) (CxOk.cons (p := (60, ref19_list.d k)) (ref19_list.ok k) (CxOk.nil))))
theorem l3 (k : Nat) : LoopOk Try.prog (S k) (lp (bodyF Go.Proofs.Try.f59) 0) := loopOk_mk (C := C k) (hC k) (Loops.all (n := 0) (by kernel_rfl) trivial) (lt := t3) (den := e3 k) (by kernel_rfl) (N := (Rows × Row)) (A := (Rows × Int)) (R := Rows)
 (fun n x => a3 n.1 n.2 x) (fun n r => o3_0 n.1 n.2 r) (fun n x => s3 k n.1 n.2 x) k (fun d => ((aR (aN d.a 0)), (d.r.getD 0 []))) (fun d => ((aR (aN d.a 2)), (aI (aN d.a 3)))) (fun d y h => out1_eval h) (fun d => by kernel_rfl) (fun n x => by kernel_rfl) (fun n r => ⟨_, rfl⟩)
theorem ok (k : Nat) : FunOk Try.prog 59 (d k) := fun_mk (C := C k) (hC k) (S := S k) Try.func59 (by kernel_rfl) (by kernel_rfl) (Loops.all (n := 1) (by kernel_rfl) ⟨trivial, l3 k⟩) (fun as_ => by kernel_rfl)
end ref19_fromProbes
namespace ref19_fromContainers
noncomputable def C (k : Nat) : Cx := ⟨Try.prog, tab [(50, ref19_str.d k), (47, ref19_at.d k), (58, ref19_fromResources.d k), (59, ref19_fromProbes.d k), (46, ref19_object.d k), (60, ref19_list.d k)], [], [], tab []⟩
noncomputable def t3 : LoopT := ⟨⟨51, [.tmp 3 48 104], [(0, .sl 130 none), (2, .ptr 2 0), (3, .sl 104 (some 48)), (4, .int .i64)], [], [(2, 104)], []⟩, (fun | .exit 0 => some ⟨51, [], [(2, .ptr 2 0), (3, .sl 104 (some 48))], [], [(2, 104)], []⟩ | _ => none)⟩
noncomputable def s3 (k : Nat) (c0 : Rows) (c1 : Row) (x : (Rows × Int)) : T ((Rows × Int) ⊕ Rows) :=
  .test (iLt x.2 (rLen c0))
   (.test (iIn x.2 (rLen c0))
    (.bnd (ref19_str.f k (rStr (rAt c0 x.2) 1)).eval default fun r0 =>
    .bnd (ref19_at.f k (bs [105, 109, 97, 103, 101]) (et 104 r0)).eval default fun r1 =>
    .bnd (ref19_fromResources.f k (eo 127 (rAt c0 x.2) 5)).eval default fun r2 =>
    .bnd (ref19_at.f k (bs [108, 105, 109, 105, 116]) (et 104 r2)).eval default fun r3 =>
    .bnd (ref19_fromProbes.f k (rSl (rAt c0 x.2) 8)).eval default fun r4 =>
    .bnd (ref19_at.f k (bs [108, 105, 118, 101]) (et 104 r4)).eval default fun r5 =>
    .bnd (ref19_str.f k (rStr (rAt c0 x.2) 0)).eval default fun r6 =>
    .bnd (ref19_at.f k (bs [110, 97, 109, 101]) (et 104 r6)).eval default fun r7 =>
    .bnd (ref19_fromProbes.f k (rSl (rAt c0 x.2) 9)).eval default fun r8 =>
    .bnd (ref19_at.f k (bs [114, 101, 97, 100, 121]) (et 104 r8)).eval default fun r9 =>
    .bnd (ref19_fromResources.f k (eo 127 (rAt c0 x.2) 2)).eval default fun r10 =>
    .bnd (ref19_at.f k (bs [114, 101, 113, 117, 101, 115, 116]) (et 104 r10)).eval default fun r11 =>
    .bnd (ref19_fromProbes.f k (rSl (rAt c0 x.2) 10)).eval default fun r12 =>
    .bnd (ref19_at.f k (bs [115, 116, 97, 114, 116, 117, 112]) (et 104 r12)).eval default fun r13 =>
    .bnd (ref19_object.f k [(et 114 r1), (et 114 r3), (et 114 r5), (et 114 r7), (et 114 r9), (et 114 r11), (et 114 r13)]).eval default fun r14 =>
    .test (rOk 80 (rLen x.1) (rLen [(et 104 r14)]))
     (.ret (.inl ((rCat x.1 [(et 104 r14)]), (iAdd .i64 x.2 (1)))))
     (.fail))
    (.fail))
   (.ret (.inr x.1))
noncomputable def a3 (c0 : Rows) (c1 : Row) (x : (Rows × Int)) : Dt := ⟨[.r c0, .u, .r x.1, .i x.2], [], [et 104 c1], []⟩
noncomputable def o3_0 (c0 : Rows) (c1 : Row) (r : Rows) : X × Dt := (.exit 0, ⟨[.u, .r r], [], [(et 104 c1)], []⟩)
noncomputable def e3 (k : Nat) (d : Dt) : T (X × Dt) := out1 (iter (s3 k (aR (aN d.a 0)) (d.r.getD 0 [])) k ((aR (aN d.a 2)), (aI (aN d.a 3)))) default (o3_0 (aR (aN d.a 0)) (d.r.getD 0 []))
noncomputable def S (k : Nat) : Subs := fun n => bif Nat.beq n 3 then some (loopV Try.prog t3 (e3 k)) else none
noncomputable def f (k : Nat) (a0 : Rows) : T Row :=
  .bnd (iter (ref19_fromContainers.s3 k a0 [.int .i64 (0), .int .i64 (0), .str ByteArray.empty, .slice 104 [] .open, .slice 114 [] .open]) k ([], (0))) default fun r0 =>
  .bnd (ref19_list.f k r0).eval default fun r1 =>
  .ret (et 104 r1)
noncomputable def d (k : Nat) : Fun := mkFun [45] (fun as_ => f k (vRows (vN as_ 0))) default (fun r => .agg (et 104 r))
theorem hC (k : Nat) : CxOk (C k) := CxOk.cons (p := (50, ref19_str.d k)) (ref19_str.ok k) (CxOk.cons (p := (47, ref19_at.d k)) (ref19_at.ok k) (CxOk.cons (p := (58, ref19_fromResources.d k)) (ref19_fromResources.ok k) (CxOk.cons (p := (59, ref19_fromProbes.d k)) (ref19_fromProbes.ok k) (CxOk.cons (p := (46, ref19_object.d k)) (ref19_object.ok k) (CxOk.cons (p := (60, ref19_list.d k)) (ref19_list.ok k) (CxOk.nil))))))
theorem l3 (k : Nat) : LoopOk Try.prog (S k) (lp (bodyF Go.Proofs.Try.f48) 0) := loopOk_mk (C := C k) (hC k) (Loops.all (n := 0) (by kernel_rfl) trivial) (lt := t3) (den := e3 k) (by kernel_rfl) (N := (Rows × Row)) (A := (Rows × Int)) (R := Rows)
 (fun n x => a3 n.1 n.2 x) (fun n r => o3_0 n.1 n.2 r) (fun n x => s3 k n.1 n.2 x) k (fun d => ((aR (aN d.a 0)), (d.r.getD 0 []))) (fun d => ((aR (aN d.a 2)), (aI (aN d.a 3)))) (fun d y h => out1_eval h) (fun d => by kernel_rfl) (fun n x => by kernel_rfl) (fun n r => ⟨_, rfl⟩)
theorem ok (k : Nat) : FunOk Try.prog 48 (d k) := fun_mk (C := C k) (hC k) (S := S k) Try.func48 (by kernel_rfl) (by kernel_rfl) (Loops.all (n := 1) (by kernel_rfl) ⟨trivial, l3 k⟩) (fun as_ => by kernel_rfl)
end ref19_fromContainers
namespace ref19_FromStrings
noncomputable def C (k : Nat) : Cx := ⟨Try.prog, tab [(50, ref19_str.d k), (60, ref19_list.d k)], [], [], tab []⟩
noncomputable def t3 : LoopT := ⟨⟨21, [.tmp 3 18 104], [(0, .sl 9 none), (2, .ptr 2 0), (3, .sl 104 (some 18)), (4, .int .i64)], [], [(2, 104)], []⟩, (fun | .exit 0 => some ⟨21, [], [(2, .ptr 2 0), (3, .sl 104 (some 18))], [], [(2, 104)], []⟩ | _ => none)⟩
noncomputable def s3 (k : Nat) (c0 : Rows) (c1 : Row) (x : (Rows × Int)) : T ((Rows × Int) ⊕ Rows) :=
  .test (iLt x.2 (rLen c0))
   (.test (iIn x.2 (rLen c0))
    (.bnd (ref19_str.f k (rStr (rAt c0 x.2) 0)).eval default fun r0 =>
    .test (rOk 80 (rLen x.1) (rLen [(et 104 r0)]))
     (.ret (.inl ((rCat x.1 [(et 104 r0)]), (iAdd .i64 x.2 (1)))))
     (.fail))
    (.fail))
   (.ret (.inr x.1))
noncomputable def a3 (c0 : Rows) (c1 : Row) (x : (Rows × Int)) : Dt := ⟨[.r c0, .u, .r x.1, .i x.2], [], [et 104 c1], []⟩
noncomputable def o3_0 (c0 : Rows) (c1 : Row) (r : Rows) : X × Dt := (.exit 0, ⟨[.u, .r r], [], [(et 104 c1)], []⟩)
noncomputable def e3 (k : Nat) (d : Dt) : T (X × Dt) := out1 (iter (s3 k (aR (aN d.a 0)) (d.r.getD 0 [])) k ((aR (aN d.a 2)), (aI (aN d.a 3)))) default (o3_0 (aR (aN d.a 0)) (d.r.getD 0 []))
noncomputable def S (k : Nat) : Subs := fun n => bif Nat.beq n 3 then some (loopV Try.prog t3 (e3 k)) else none
noncomputable def f (k : Nat) (a0 : Rows) : T Row :=
  .bnd (iter (ref19_FromStrings.s3 k a0 [.int .i64 (0), .int .i64 (0), .str ByteArray.empty, .slice 104 [] .open, .slice 114 [] .open]) k ([], (0))) default fun r0 =>
  .bnd (ref19_list.f k r0).eval default fun r1 =>
  .ret (et 104 r1)
noncomputable def d (k : Nat) : Fun := mkFun [24] (fun as_ => f k (vRows (vN as_ 0))) default (fun r => .agg (et 104 r))
theorem hC (k : Nat) : CxOk (C k) := CxOk.cons (p := (50, ref19_str.d k)) (ref19_str.ok k) (CxOk.cons (p := (60, ref19_list.d k)) (ref19_list.ok k) (CxOk.nil))
theorem l3 (k : Nat) : LoopOk Try.prog (S k) (lp (bodyF Go.Proofs.Try.f61) 0) := loopOk_mk (C := C k) (hC k) (Loops.all (n := 0) (by kernel_rfl) trivial) (lt := t3) (den := e3 k) (by kernel_rfl) (N := (Rows × Row)) (A := (Rows × Int)) (R := Rows)
 (fun n x => a3 n.1 n.2 x) (fun n r => o3_0 n.1 n.2 r) (fun n x => s3 k n.1 n.2 x) k (fun d => ((aR (aN d.a 0)), (d.r.getD 0 []))) (fun d => ((aR (aN d.a 2)), (aI (aN d.a 3)))) (fun d y h => out1_eval h) (fun d => by kernel_rfl) (fun n x => by kernel_rfl) (fun n r => ⟨_, rfl⟩)
theorem ok (k : Nat) : FunOk Try.prog 61 (d k) := fun_mk (C := C k) (hC k) (S := S k) Try.func61 (by kernel_rfl) (by kernel_rfl) (Loops.all (n := 1) (by kernel_rfl) ⟨trivial, l3 k⟩) (fun as_ => by kernel_rfl)
end ref19_FromStrings
namespace ref19_FromSelector
noncomputable def C (k : Nat) : Cx := ⟨Try.prog, tab [(50, ref19_str.d k), (47, ref19_at.d k), (49, ref19_num.d k), (61, ref19_FromStrings.d k), (46, ref19_object.d k), (60, ref19_list.d k)], [], [], tab []⟩
noncomputable def t3 : LoopT := ⟨⟨39, [.tmp 3 36 104], [(0, .sl 135 none), (2, .ptr 2 0), (3, .sl 104 (some 36)), (4, .int .i64)], [], [(2, 104)], []⟩, (fun | .exit 0 => some ⟨39, [], [(2, .ptr 2 0), (3, .sl 104 (some 36))], [], [(2, 104)], []⟩ | _ => none)⟩
noncomputable def s3 (k : Nat) (c0 : Rows) (c1 : Row) (x : (Rows × Int)) : T ((Rows × Int) ⊕ Rows) :=
  .test (iLt x.2 (rLen c0))
   (.test (iIn x.2 (rLen c0))
    (.bnd (ref19_str.f k (rStr (rAt c0 x.2) 0)).eval default fun r0 =>
    .bnd (ref19_at.f k (bs [107, 101, 121]) (et 104 r0)).eval default fun r1 =>
    .test (iIn x.2 (rLen c0))
     (.bnd (ref19_num.f k (rInt (rAt c0 x.2) 1)).eval default fun r2 =>
     .bnd (ref19_at.f k (bs [111, 112]) (et 104 r2)).eval default fun r3 =>
     .test (iIn x.2 (rLen c0))
      (.bnd (ref19_FromStrings.f k (rSl (rAt c0 x.2) 2)).eval default fun r4 =>
      .bnd (ref19_at.f k (bs [118, 97, 108, 117, 101, 115]) (et 104 r4)).eval default fun r5 =>
      .bnd (ref19_object.f k [(et 114 r1), (et 114 r3), (et 114 r5)]).eval default fun r6 =>
      .test (rOk 80 (rLen x.1) (rLen [(et 104 r6)]))
       (.ret (.inl ((rCat x.1 [(et 104 r6)]), (iAdd .i64 x.2 (1)))))
       (.fail))
      (.fail))
     (.fail))
    (.fail))
   (.ret (.inr x.1))
noncomputable def a3 (c0 : Rows) (c1 : Row) (x : (Rows × Int)) : Dt := ⟨[.r c0, .u, .r x.1, .i x.2], [], [et 104 c1], []⟩
noncomputable def o3_0 (c0 : Rows) (c1 : Row) (r : Rows) : X × Dt := (.exit 0, ⟨[.u, .r r], [], [(et 104 c1)], []⟩)
noncomputable def e3 (k : Nat) (d : Dt) : T (X × Dt) := out1 (iter (s3 k (aR (aN d.a 0)) (d.r.getD 0 [])) k ((aR (aN d.a 2)), (aI (aN d.a 3)))) default (o3_0 (aR (aN d.a 0)) (d.r.getD 0 []))
noncomputable def S (k : Nat) : Subs := fun n => bif Nat.beq n 3 then some (loopV Try.prog t3 (e3 k)) else none
noncomputable def f (k : Nat) (a0 : Rows) : T Row :=
  .bnd (iter (ref19_FromSelector.s3 k a0 [.int .i64 (0), .int .i64 (0), .str ByteArray.empty, .slice 104 [] .open, .slice 114 [] .open]) k ([], (0))) default fun r0 =>
  .bnd (ref19_list.f k r0).eval default fun r1 =>
  .ret (et 104 r1)
noncomputable def d (k : Nat) : Fun := mkFun [46] (fun as_ => f k (vRows (vN as_ 0))) default (fun r => .agg (et 104 r))
theorem hC (k : Nat) : CxOk (C k) := CxOk.cons (p := (50, ref19_str.d k)) (ref19_str.ok k) (CxOk.cons (p := (47, ref19_at.d k)) (ref19_at.ok k) (CxOk.cons (p := (49, ref19_num.d k)) (ref19_num.ok k) (CxOk.cons (p := (61, ref19_FromStrings.d k)) (ref19_FromStrings.ok k) (CxOk.cons (p := (46, ref19_object.d k)) (ref19_object.ok k) (CxOk.cons (p := (60, ref19_list.d k)) (ref19_list.ok k) (CxOk.nil))))))
theorem l3 (k : Nat) : LoopOk Try.prog (S k) (lp (bodyF Go.Proofs.Try.f51) 0) := loopOk_mk (C := C k) (hC k) (Loops.all (n := 0) (by kernel_rfl) trivial) (lt := t3) (den := e3 k) (by kernel_rfl) (N := (Rows × Row)) (A := (Rows × Int)) (R := Rows)
 (fun n x => a3 n.1 n.2 x) (fun n r => o3_0 n.1 n.2 r) (fun n x => s3 k n.1 n.2 x) k (fun d => ((aR (aN d.a 0)), (d.r.getD 0 []))) (fun d => ((aR (aN d.a 2)), (aI (aN d.a 3)))) (fun d y h => out1_eval h) (fun d => by kernel_rfl) (fun n x => by kernel_rfl) (fun n r => ⟨_, rfl⟩)
theorem ok (k : Nat) : FunOk Try.prog 51 (d k) := fun_mk (C := C k) (hC k) (S := S k) Try.func51 (by kernel_rfl) (by kernel_rfl) (Loops.all (n := 1) (by kernel_rfl) ⟨trivial, l3 k⟩) (fun as_ => by kernel_rfl)
end ref19_FromSelector
namespace ref19_truth
noncomputable def C (k : Nat) : Cx := ⟨Try.prog, tab [], [], [], tab []⟩
noncomputable def S (k : Nat) : Subs := fun n => none
noncomputable def f (k : Nat) (a0 : Bool) : T Row :=
  .test a0
   (.ret [.int .i64 (1), .int .i64 (1), .str ByteArray.empty, .slice 104 [] .open, .slice 114 [] .open])
   (.ret [.int .i64 (1), .int .i64 (0), .str ByteArray.empty, .slice 104 [] .open, .slice 114 [] .open])
noncomputable def d (k : Nat) : Fun := mkFun [4] (fun as_ => f k (vBool (vN as_ 0))) default (fun r => .agg (et 104 r))
theorem hC (k : Nat) : CxOk (C k) := CxOk.nil
theorem ok (k : Nat) : FunOk Try.prog 57 (d k) := fun_mk (C := C k) (hC k) (S := S k) Try.func57 (by kernel_rfl) (by kernel_rfl) (Loops.all (n := 0) (by kernel_rfl) trivial) (fun as_ => by kernel_rfl)
end ref19_truth
namespace ref19_fromNodeTerms
noncomputable def C (k : Nat) : Cx := ⟨Try.prog, tab [(57, ref19_truth.d k), (47, ref19_at.d k), (51, ref19_FromSelector.d k), (49, ref19_num.d k), (46, ref19_object.d k), (60, ref19_list.d k)], [], [], tab []⟩
noncomputable def t3 : LoopT := ⟨⟨39, [.tmp 3 36 104], [(0, .sl 138 none), (2, .ptr 2 0), (3, .sl 104 (some 36)), (4, .int .i64)], [], [(2, 104)], []⟩, (fun | .exit 0 => some ⟨39, [], [(2, .ptr 2 0), (3, .sl 104 (some 36))], [], [(2, 104)], []⟩ | _ => none)⟩
noncomputable def s3 (k : Nat) (c0 : Rows) (c1 : Row) (x : (Rows × Int)) : T ((Rows × Int) ⊕ Rows) :=
  .test (iLt x.2 (rLen c0))
   (.test (iIn x.2 (rLen c0))
    (.bnd (ref19_truth.f k (rBool (rAt c0 x.2) 0)).eval default fun r0 =>
    .bnd (ref19_at.f k (bs [114, 101, 113, 117, 105, 114, 101, 100]) (et 104 r0)).eval default fun r1 =>
    .test (iIn x.2 (rLen c0))
     (.bnd (ref19_FromSelector.f k (rSl (rAt c0 x.2) 1)).eval default fun r2 =>
     .bnd (ref19_at.f k (bs [115, 101, 108, 101, 99, 116, 111, 114]) (et 104 r2)).eval default fun r3 =>
     .test (iIn x.2 (rLen c0))
      (.bnd (ref19_num.f k (rInt (rAt c0 x.2) 2)).eval default fun r4 =>
      .bnd (ref19_at.f k (bs [119, 101, 105, 103, 104, 116]) (et 104 r4)).eval default fun r5 =>
      .bnd (ref19_object.f k [(et 114 r1), (et 114 r3), (et 114 r5)]).eval default fun r6 =>
      .test (rOk 80 (rLen x.1) (rLen [(et 104 r6)]))
       (.ret (.inl ((rCat x.1 [(et 104 r6)]), (iAdd .i64 x.2 (1)))))
       (.fail))
      (.fail))
     (.fail))
    (.fail))
   (.ret (.inr x.1))
noncomputable def a3 (c0 : Rows) (c1 : Row) (x : (Rows × Int)) : Dt := ⟨[.r c0, .u, .r x.1, .i x.2], [], [et 104 c1], []⟩
noncomputable def o3_0 (c0 : Rows) (c1 : Row) (r : Rows) : X × Dt := (.exit 0, ⟨[.u, .r r], [], [(et 104 c1)], []⟩)
noncomputable def e3 (k : Nat) (d : Dt) : T (X × Dt) := out1 (iter (s3 k (aR (aN d.a 0)) (d.r.getD 0 [])) k ((aR (aN d.a 2)), (aI (aN d.a 3)))) default (o3_0 (aR (aN d.a 0)) (d.r.getD 0 []))
noncomputable def S (k : Nat) : Subs := fun n => bif Nat.beq n 3 then some (loopV Try.prog t3 (e3 k)) else none
noncomputable def f (k : Nat) (a0 : Rows) : T Row :=
  .bnd (iter (ref19_fromNodeTerms.s3 k a0 [.int .i64 (0), .int .i64 (0), .str ByteArray.empty, .slice 104 [] .open, .slice 114 [] .open]) k ([], (0))) default fun r0 =>
  .bnd (ref19_list.f k r0).eval default fun r1 =>
  .ret (et 104 r1)
noncomputable def d (k : Nat) : Fun := mkFun [47] (fun as_ => f k (vRows (vN as_ 0))) default (fun r => .agg (et 104 r))
theorem hC (k : Nat) : CxOk (C k) := CxOk.cons (p := (57, ref19_truth.d k)) (ref19_truth.ok k) (CxOk.cons (p := (47, ref19_at.d k)) (ref19_at.ok k) (CxOk.cons (p := (51, ref19_FromSelector.d k)) (ref19_FromSelector.ok k) (CxOk.cons (p := (49, ref19_num.d k)) (ref19_num.ok k) (CxOk.cons (p := (46, ref19_object.d k)) (ref19_object.ok k) (CxOk.cons (p := (60, ref19_list.d k)) (ref19_list.ok k) (CxOk.nil))))))
theorem l3 (k : Nat) : LoopOk Try.prog (S k) (lp (bodyF Go.Proofs.Try.f52) 0) := loopOk_mk (C := C k) (hC k) (Loops.all (n := 0) (by kernel_rfl) trivial) (lt := t3) (den := e3 k) (by kernel_rfl) (N := (Rows × Row)) (A := (Rows × Int)) (R := Rows)
 (fun n x => a3 n.1 n.2 x) (fun n r => o3_0 n.1 n.2 r) (fun n x => s3 k n.1 n.2 x) k (fun d => ((aR (aN d.a 0)), (d.r.getD 0 []))) (fun d => ((aR (aN d.a 2)), (aI (aN d.a 3)))) (fun d y h => out1_eval h) (fun d => by kernel_rfl) (fun n x => by kernel_rfl) (fun n r => ⟨_, rfl⟩)
theorem ok (k : Nat) : FunOk Try.prog 52 (d k) := fun_mk (C := C k) (hC k) (S := S k) Try.func52 (by kernel_rfl) (by kernel_rfl) (Loops.all (n := 1) (by kernel_rfl) ⟨trivial, l3 k⟩) (fun as_ => by kernel_rfl)
end ref19_fromNodeTerms
namespace ref19_fromPodTerms
noncomputable def C (k : Nat) : Cx := ⟨Try.prog, tab [(57, ref19_truth.d k), (47, ref19_at.d k), (51, ref19_FromSelector.d k), (50, ref19_str.d k), (49, ref19_num.d k), (46, ref19_object.d k), (60, ref19_list.d k)], [], [], tab []⟩
noncomputable def t3 : LoopT := ⟨⟨53, [.tmp 3 50 104], [(0, .sl 140 none), (2, .ptr 2 0), (3, .sl 104 (some 50)), (4, .int .i64)], [], [(2, 104)], []⟩, (fun | .exit 0 => some ⟨53, [], [(2, .ptr 2 0), (3, .sl 104 (some 50))], [], [(2, 104)], []⟩ | _ => none)⟩
noncomputable def s3 (k : Nat) (c0 : Rows) (c1 : Row) (x : (Rows × Int)) : T ((Rows × Int) ⊕ Rows) :=
  .test (iLt x.2 (rLen c0))
   (.test (iIn x.2 (rLen c0))
    (.bnd (ref19_truth.f k (rBool (rAt c0 x.2) 1)).eval default fun r0 =>
    .bnd (ref19_at.f k (bs [97, 110, 116, 105]) (et 104 r0)).eval default fun r1 =>
    .test (iIn x.2 (rLen c0))
     (.bnd (ref19_truth.f k (rBool (rAt c0 x.2) 0)).eval default fun r2 =>
     .bnd (ref19_at.f k (bs [114, 101, 113, 117, 105, 114, 101, 100]) (et 104 r2)).eval default fun r3 =>
     .test (iIn x.2 (rLen c0))
      (.bnd (ref19_FromSelector.f k (rSl (rAt c0 x.2) 2)).eval default fun r4 =>
      .bnd (ref19_at.f k (bs [115, 101, 108, 101, 99, 116, 111, 114]) (et 104 r4)).eval default fun r5 =>
      .test (iIn x.2 (rLen c0))
       (.bnd (ref19_str.f k (rStr (rAt c0 x.2) 3)).eval default fun r6 =>
       .bnd (ref19_at.f k (bs [116, 111, 112, 111, 108, 111, 103, 121]) (et 104 r6)).eval default fun r7 =>
       .test (iIn x.2 (rLen c0))
        (.bnd (ref19_num.f k (rInt (rAt c0 x.2) 4)).eval default fun r8 =>
        .bnd (ref19_at.f k (bs [119, 101, 105, 103, 104, 116]) (et 104 r8)).eval default fun r9 =>
        .bnd (ref19_object.f k [(et 114 r1), (et 114 r3), (et 114 r5), (et 114 r7), (et 114 r9)]).eval default fun r10 =>
        .test (rOk 80 (rLen x.1) (rLen [(et 104 r10)]))
         (.ret (.inl ((rCat x.1 [(et 104 r10)]), (iAdd .i64 x.2 (1)))))
         (.fail))
        (.fail))
       (.fail))
      (.fail))
     (.fail))
    (.fail))
   (.ret (.inr x.1))
noncomputable def a3 (c0 : Rows) (c1 : Row) (x : (Rows × Int)) : Dt := ⟨[.r c0, .u, .r x.1, .i x.2], [], [et 104 c1], []⟩
noncomputable def o3_0 (c0 : Rows) (c1 : Row) (r : Rows) : X × Dt := (.exit 0, ⟨[.u, .r r], [], [(et 104 c1)], []⟩)
noncomputable def e3 (k : Nat) (d : Dt) : T (X × Dt) := out1 (iter (s3 k (aR (aN d.a 0)) (d.r.getD 0 [])) k ((aR (aN d.a 2)), (aI (aN d.a 3)))) default (o3_0 (aR (aN d.a 0)) (d.r.getD 0 []))
noncomputable def S (k : Nat) : Subs := fun n => bif Nat.beq n 3 then some (loopV Try.prog t3 (e3 k)) else none
noncomputable def f (k : Nat) (a0 : Rows) : T Row :=
  .bnd (iter (ref19_fromPodTerms.s3 k a0 [.int .i64 (0), .int .i64 (0), .str ByteArray.empty, .slice 104 [] .open, .slice 114 [] .open]) k ([], (0))) default fun r0 =>
  .bnd (ref19_list.f k r0).eval default fun r1 =>
  .ret (et 104 r1)
noncomputable def d (k : Nat) : Fun := mkFun [48] (fun as_ => f k (vRows (vN as_ 0))) default (fun r => .agg (et 104 r))
theorem hC (k : Nat) : CxOk (C k) := CxOk.cons (p := (57, ref19_truth.d k)) (ref19_truth.ok k) (CxOk.cons (p := (47, ref19_at.d k)) (ref19_at.ok k) (CxOk.cons (p := (51, ref19_FromSelector.d k)) (ref19_FromSelector.ok k) (CxOk.cons (p := (50, ref19_str.d k)) (ref19_str.ok k) (CxOk.cons (p := (49, ref19_num.d k)) (ref19_num.ok k) (CxOk.cons (p := (46, ref19_object.d k)) (ref19_object.ok k) (CxOk.cons (p := (60, ref19_list.d k)) (ref19_list.ok k) (CxOk.nil)))))))
theorem l3 (k : Nat) : LoopOk Try.prog (S k) (lp (bodyF Go.Proofs.Try.f53) 0) := loopOk_mk (C := C k) (hC k) (Loops.all (n := 0) (by kernel_rfl) trivial) (lt := t3) (den := e3 k) (by kernel_rfl) (N := (Rows × Row)) (A := (Rows × Int)) (R := Rows)
 (fun n x => a3 n.1 n.2 x) (fun n r => o3_0 n.1 n.2 r) (fun n x => s3 k n.1 n.2 x) k (fun d => ((aR (aN d.a 0)), (d.r.getD 0 []))) (fun d => ((aR (aN d.a 2)), (aI (aN d.a 3)))) (fun d y h => out1_eval h) (fun d => by kernel_rfl) (fun n x => by kernel_rfl) (fun n r => ⟨_, rfl⟩)
theorem ok (k : Nat) : FunOk Try.prog 53 (d k) := fun_mk (C := C k) (hC k) (S := S k) Try.func53 (by kernel_rfl) (by kernel_rfl) (Loops.all (n := 1) (by kernel_rfl) ⟨trivial, l3 k⟩) (fun as_ => by kernel_rfl)
end ref19_fromPodTerms
namespace ref19_fromSpread
noncomputable def C (k : Nat) : Cx := ⟨Try.prog, tab [(49, ref19_num.d k), (47, ref19_at.d k), (57, ref19_truth.d k), (51, ref19_FromSelector.d k), (50, ref19_str.d k), (46, ref19_object.d k), (60, ref19_list.d k)], [], [], tab []⟩
noncomputable def t3 : LoopT := ⟨⟨46, [.tmp 3 43 104], [(0, .sl 142 none), (2, .ptr 2 0), (3, .sl 104 (some 43)), (4, .int .i64)], [], [(2, 104)], []⟩, (fun | .exit 0 => some ⟨46, [], [(2, .ptr 2 0), (3, .sl 104 (some 43))], [], [(2, 104)], []⟩ | _ => none)⟩
noncomputable def s3 (k : Nat) (c0 : Rows) (c1 : Row) (x : (Rows × Int)) : T ((Rows × Int) ⊕ Rows) :=
  .test (iLt x.2 (rLen c0))
   (.test (iIn x.2 (rLen c0))
    (.bnd (ref19_num.f k (rInt (rAt c0 x.2) 0)).eval default fun r0 =>
    .bnd (ref19_at.f k (bs [109, 97, 120, 83, 107, 101, 119]) (et 104 r0)).eval default fun r1 =>
    .test (iIn x.2 (rLen c0))
     (.bnd (ref19_truth.f k (rBool (rAt c0 x.2) 3)).eval default fun r2 =>
     .bnd (ref19_at.f k (bs [114, 101, 113, 117, 105, 114, 101, 100]) (et 104 r2)).eval default fun r3 =>
     .test (iIn x.2 (rLen c0))
      (.bnd (ref19_FromSelector.f k (rSl (rAt c0 x.2) 2)).eval default fun r4 =>
      .bnd (ref19_at.f k (bs [115, 101, 108, 101, 99, 116, 111, 114]) (et 104 r4)).eval default fun r5 =>
      .test (iIn x.2 (rLen c0))
       (.bnd (ref19_str.f k (rStr (rAt c0 x.2) 1)).eval default fun r6 =>
       .bnd (ref19_at.f k (bs [116, 111, 112, 111, 108, 111, 103, 121]) (et 104 r6)).eval default fun r7 =>
       .bnd (ref19_object.f k [(et 114 r1), (et 114 r3), (et 114 r5), (et 114 r7)]).eval default fun r8 =>
       .test (rOk 80 (rLen x.1) (rLen [(et 104 r8)]))
        (.ret (.inl ((rCat x.1 [(et 104 r8)]), (iAdd .i64 x.2 (1)))))
        (.fail))
       (.fail))
      (.fail))
     (.fail))
    (.fail))
   (.ret (.inr x.1))
noncomputable def a3 (c0 : Rows) (c1 : Row) (x : (Rows × Int)) : Dt := ⟨[.r c0, .u, .r x.1, .i x.2], [], [et 104 c1], []⟩
noncomputable def o3_0 (c0 : Rows) (c1 : Row) (r : Rows) : X × Dt := (.exit 0, ⟨[.u, .r r], [], [(et 104 c1)], []⟩)
noncomputable def e3 (k : Nat) (d : Dt) : T (X × Dt) := out1 (iter (s3 k (aR (aN d.a 0)) (d.r.getD 0 [])) k ((aR (aN d.a 2)), (aI (aN d.a 3)))) default (o3_0 (aR (aN d.a 0)) (d.r.getD 0 []))
noncomputable def S (k : Nat) : Subs := fun n => bif Nat.beq n 3 then some (loopV Try.prog t3 (e3 k)) else none
noncomputable def f (k : Nat) (a0 : Rows) : T Row :=
  .bnd (iter (ref19_fromSpread.s3 k a0 [.int .i64 (0), .int .i64 (0), .str ByteArray.empty, .slice 104 [] .open, .slice 114 [] .open]) k ([], (0))) default fun r0 =>
  .bnd (ref19_list.f k r0).eval default fun r1 =>
  .ret (et 104 r1)
noncomputable def d (k : Nat) : Fun := mkFun [49] (fun as_ => f k (vRows (vN as_ 0))) default (fun r => .agg (et 104 r))
theorem hC (k : Nat) : CxOk (C k) := CxOk.cons (p := (49, ref19_num.d k)) (ref19_num.ok k) (CxOk.cons (p := (47, ref19_at.d k)) (ref19_at.ok k) (CxOk.cons (p := (57, ref19_truth.d k)) (ref19_truth.ok k) (CxOk.cons (p := (51, ref19_FromSelector.d k)) (ref19_FromSelector.ok k) (CxOk.cons (p := (50, ref19_str.d k)) (ref19_str.ok k) (CxOk.cons (p := (46, ref19_object.d k)) (ref19_object.ok k) (CxOk.cons (p := (60, ref19_list.d k)) (ref19_list.ok k) (CxOk.nil)))))))
theorem l3 (k : Nat) : LoopOk Try.prog (S k) (lp (bodyF Go.Proofs.Try.f54) 0) := loopOk_mk (C := C k) (hC k) (Loops.all (n := 0) (by kernel_rfl) trivial) (lt := t3) (den := e3 k) (by kernel_rfl) (N := (Rows × Row)) (A := (Rows × Int)) (R := Rows)
 (fun n x => a3 n.1 n.2 x) (fun n r => o3_0 n.1 n.2 r) (fun n x => s3 k n.1 n.2 x) k (fun d => ((aR (aN d.a 0)), (d.r.getD 0 []))) (fun d => ((aR (aN d.a 2)), (aI (aN d.a 3)))) (fun d y h => out1_eval h) (fun d => by kernel_rfl) (fun n x => by kernel_rfl) (fun n r => ⟨_, rfl⟩)
theorem ok (k : Nat) : FunOk Try.prog 54 (d k) := fun_mk (C := C k) (hC k) (S := S k) Try.func54 (by kernel_rfl) (by kernel_rfl) (Loops.all (n := 1) (by kernel_rfl) ⟨trivial, l3 k⟩) (fun as_ => by kernel_rfl)
end ref19_fromSpread
namespace ref19_fromTolerations
noncomputable def C (k : Nat) : Cx := ⟨Try.prog, tab [(49, ref19_num.d k), (47, ref19_at.d k), (57, ref19_truth.d k), (50, ref19_str.d k), (46, ref19_object.d k), (60, ref19_list.d k)], [], [], tab []⟩
noncomputable def t3 : LoopT := ⟨⟨53, [.tmp 3 50 104], [(0, .sl 144 none), (2, .ptr 2 0), (3, .sl 104 (some 50)), (4, .int .i64)], [], [(2, 104)], []⟩, (fun | .exit 0 => some ⟨53, [], [(2, .ptr 2 0), (3, .sl 104 (some 50))], [], [(2, 104)], []⟩ | _ => none)⟩
noncomputable def s3 (k : Nat) (c0 : Rows) (c1 : Row) (x : (Rows × Int)) : T ((Rows × Int) ⊕ Rows) :=
  .test (iLt x.2 (rLen c0))
   (.test (iIn x.2 (rLen c0))
    (.bnd (ref19_num.f k (rInt (rAt c0 x.2) 3)).eval default fun r0 =>
    .bnd (ref19_at.f k (bs [101, 102, 102, 101, 99, 116]) (et 104 r0)).eval default fun r1 =>
    .test (iIn x.2 (rLen c0))
     (.bnd (ref19_truth.f k (rBool (rAt c0 x.2) 2)).eval default fun r2 =>
     .bnd (ref19_at.f k (bs [101, 120, 105, 115, 116, 115]) (et 104 r2)).eval default fun r3 =>
     .test (iIn x.2 (rLen c0))
      (.bnd (ref19_str.f k (rStr (rAt c0 x.2) 0)).eval default fun r4 =>
      .bnd (ref19_at.f k (bs [107, 101, 121]) (et 104 r4)).eval default fun r5 =>
      .test (iIn x.2 (rLen c0))
       (.bnd (ref19_num.f k (rInt (rAt c0 x.2) 4)).eval default fun r6 =>
       .bnd (ref19_at.f k (bs [115, 101, 99, 111, 110, 100, 115]) (et 104 r6)).eval default fun r7 =>
       .test (iIn x.2 (rLen c0))
        (.bnd (ref19_str.f k (rStr (rAt c0 x.2) 1)).eval default fun r8 =>
        .bnd (ref19_at.f k (bs [118, 97, 108, 117, 101]) (et 104 r8)).eval default fun r9 =>
        .bnd (ref19_object.f k [(et 114 r1), (et 114 r3), (et 114 r5), (et 114 r7), (et 114 r9)]).eval default fun r10 =>
        .test (rOk 80 (rLen x.1) (rLen [(et 104 r10)]))
         (.ret (.inl ((rCat x.1 [(et 104 r10)]), (iAdd .i64 x.2 (1)))))
         (.fail))
        (.fail))
       (.fail))
      (.fail))
     (.fail))
    (.fail))
   (.ret (.inr x.1))
noncomputable def a3 (c0 : Rows) (c1 : Row) (x : (Rows × Int)) : Dt := ⟨[.r c0, .u, .r x.1, .i x.2], [], [et 104 c1], []⟩
noncomputable def o3_0 (c0 : Rows) (c1 : Row) (r : Rows) : X × Dt := (.exit 0, ⟨[.u, .r r], [], [(et 104 c1)], []⟩)
noncomputable def e3 (k : Nat) (d : Dt) : T (X × Dt) := out1 (iter (s3 k (aR (aN d.a 0)) (d.r.getD 0 [])) k ((aR (aN d.a 2)), (aI (aN d.a 3)))) default (o3_0 (aR (aN d.a 0)) (d.r.getD 0 []))
noncomputable def S (k : Nat) : Subs := fun n => bif Nat.beq n 3 then some (loopV Try.prog t3 (e3 k)) else none
noncomputable def f (k : Nat) (a0 : Rows) : T Row :=
  .bnd (iter (ref19_fromTolerations.s3 k a0 [.int .i64 (0), .int .i64 (0), .str ByteArray.empty, .slice 104 [] .open, .slice 114 [] .open]) k ([], (0))) default fun r0 =>
  .bnd (ref19_list.f k r0).eval default fun r1 =>
  .ret (et 104 r1)
noncomputable def d (k : Nat) : Fun := mkFun [50] (fun as_ => f k (vRows (vN as_ 0))) default (fun r => .agg (et 104 r))
theorem hC (k : Nat) : CxOk (C k) := CxOk.cons (p := (49, ref19_num.d k)) (ref19_num.ok k) (CxOk.cons (p := (47, ref19_at.d k)) (ref19_at.ok k) (CxOk.cons (p := (57, ref19_truth.d k)) (ref19_truth.ok k) (CxOk.cons (p := (50, ref19_str.d k)) (ref19_str.ok k) (CxOk.cons (p := (46, ref19_object.d k)) (ref19_object.ok k) (CxOk.cons (p := (60, ref19_list.d k)) (ref19_list.ok k) (CxOk.nil))))))
theorem l3 (k : Nat) : LoopOk Try.prog (S k) (lp (bodyF Go.Proofs.Try.f55) 0) := loopOk_mk (C := C k) (hC k) (Loops.all (n := 0) (by kernel_rfl) trivial) (lt := t3) (den := e3 k) (by kernel_rfl) (N := (Rows × Row)) (A := (Rows × Int)) (R := Rows)
 (fun n x => a3 n.1 n.2 x) (fun n r => o3_0 n.1 n.2 r) (fun n x => s3 k n.1 n.2 x) k (fun d => ((aR (aN d.a 0)), (d.r.getD 0 []))) (fun d => ((aR (aN d.a 2)), (aI (aN d.a 3)))) (fun d y h => out1_eval h) (fun d => by kernel_rfl) (fun n x => by kernel_rfl) (fun n r => ⟨_, rfl⟩)
theorem ok (k : Nat) : FunOk Try.prog 55 (d k) := fun_mk (C := C k) (hC k) (S := S k) Try.func55 (by kernel_rfl) (by kernel_rfl) (Loops.all (n := 1) (by kernel_rfl) ⟨trivial, l3 k⟩) (fun as_ => by kernel_rfl)
end ref19_fromTolerations
namespace ref19_FromSpec
noncomputable def C (k : Nat) : Cx := ⟨Try.prog, tab [(48, ref19_fromContainers.d k), (47, ref19_at.d k), (49, ref19_num.d k), (50, ref19_str.d k), (51, ref19_FromSelector.d k), (52, ref19_fromNodeTerms.d k), (53, ref19_fromPodTerms.d k), (54, ref19_fromSpread.d k), (55, ref19_fromTolerations.d k), (46, ref19_object.d k)], [], [], tab []⟩
noncomputable def S (k : Nat) : Subs := fun n => none
noncomputable def f (k : Nat) (a0 : Row) : T Row :=
  .bnd (ref19_fromContainers.f k (rSl a0 4)).eval default fun r0 =>
  .bnd (ref19_at.f k (bs [99, 111, 110, 116, 97, 105, 110, 101, 114, 115]) (et 104 r0)).eval default fun r1 =>
  .bnd (ref19_num.f k (rInt a0 3)).eval default fun r2 =>
  .bnd (ref19_at.f k (bs [103, 114, 97, 99, 101]) (et 104 r2)).eval default fun r3 =>
  .bnd (ref19_str.f k (rStr a0 0)).eval default fun r4 =>
  .bnd (ref19_at.f k (bs [110, 111, 100, 101]) (et 104 r4)).eval default fun r5 =>
  .bnd (ref19_FromSelector.f k (rSl a0 5)).eval default fun r6 =>
  .bnd (ref19_at.f k (bs [110, 111, 100, 101, 83, 101, 108, 101, 99, 116, 111, 114]) (et 104 r6)).eval default fun r7 =>
  .bnd (ref19_fromNodeTerms.f k (rSl a0 6)).eval default fun r8 =>
  .bnd (ref19_at.f k (bs [110, 111, 100, 101, 84, 101, 114, 109, 115]) (et 104 r8)).eval default fun r9 =>
  .bnd (ref19_fromPodTerms.f k (rSl a0 7)).eval default fun r10 =>
  .bnd (ref19_at.f k (bs [112, 111, 100, 84, 101, 114, 109, 115]) (et 104 r10)).eval default fun r11 =>
  .bnd (ref19_num.f k (rInt a0 1)).eval default fun r12 =>
  .bnd (ref19_at.f k (bs [112, 114, 105, 111, 114, 105, 116, 121]) (et 104 r12)).eval default fun r13 =>
  .bnd (ref19_num.f k (rInt a0 2)).eval default fun r14 =>
  .bnd (ref19_at.f k (bs [114, 101, 115, 116, 97, 114, 116]) (et 104 r14)).eval default fun r15 =>
  .bnd (ref19_fromSpread.f k (rSl a0 8)).eval default fun r16 =>
  .bnd (ref19_at.f k (bs [115, 112, 114, 101, 97, 100]) (et 104 r16)).eval default fun r17 =>
  .bnd (ref19_fromTolerations.f k (rSl a0 9)).eval default fun r18 =>
  .bnd (ref19_at.f k (bs [116, 111, 108, 101, 114, 97, 116, 105, 111, 110, 115]) (et 104 r18)).eval default fun r19 =>
  .bnd (ref19_object.f k [(et 114 r1), (et 114 r3), (et 114 r5), (et 114 r7), (et 114 r9), (et 114 r11), (et 114 r13), (et 114 r15), (et 114 r17), (et 114 r19)]).eval default fun r20 =>
  .ret (et 104 r20)
noncomputable def d (k : Nat) : Fun := mkFun [52] (fun as_ => f k (vRow (vN as_ 0))) default (fun r => .agg (et 104 r))
theorem hC (k : Nat) : CxOk (C k) := CxOk.cons (p := (48, ref19_fromContainers.d k)) (ref19_fromContainers.ok k) (CxOk.cons (p := (47, ref19_at.d k)) (ref19_at.ok k) (CxOk.cons (p := (49, ref19_num.d k)) (ref19_num.ok k) (CxOk.cons (p := (50, ref19_str.d k)) (ref19_str.ok k) (CxOk.cons (p := (51, ref19_FromSelector.d k)) (ref19_FromSelector.ok k) (CxOk.cons (p := (52, ref19_fromNodeTerms.d k)) (ref19_fromNodeTerms.ok k) (CxOk.cons (p := (53, ref19_fromPodTerms.d k)) (ref19_fromPodTerms.ok k) (CxOk.cons (p := (54, ref19_fromSpread.d k)) (ref19_fromSpread.ok k) (CxOk.cons (p := (55, ref19_fromTolerations.d k)) (ref19_fromTolerations.ok k) (CxOk.cons (p := (46, ref19_object.d k)) (ref19_object.ok k) (CxOk.nil))))))))))
theorem ok (k : Nat) : FunOk Try.prog 43 (d k) := fun_mk (C := C k) (hC k) (S := S k) Try.func43 (by kernel_rfl) (by kernel_rfl) (Loops.all (n := 0) (by kernel_rfl) trivial) (fun as_ => by kernel_rfl)
end ref19_FromSpec
namespace ref19_fromStatuses
noncomputable def C (k : Nat) : Cx := ⟨Try.prog, tab [(49, ref19_num.d k), (47, ref19_at.d k), (50, ref19_str.d k), (57, ref19_truth.d k), (46, ref19_object.d k), (60, ref19_list.d k)], [], [], tab []⟩
noncomputable def t3 : LoopT := ⟨⟨51, [.tmp 3 48 104], [(0, .sl 146 none), (2, .ptr 2 0), (3, .sl 104 (some 48)), (4, .int .i64)], [], [(2, 104)], []⟩, (fun | .exit 0 => some ⟨51, [], [(2, .ptr 2 0), (3, .sl 104 (some 48))], [], [(2, 104)], []⟩ | _ => none)⟩
noncomputable def s3 (k : Nat) (c0 : Rows) (c1 : Row) (x : (Rows × Int)) : T ((Rows × Int) ⊕ Rows) :=
  .test (iLt x.2 (rLen c0))
   (.test (iIn x.2 (rLen c0))
    (.bnd (ref19_num.f k (rInt (rAt c0 x.2) 3)).eval default fun r0 =>
    .bnd (ref19_at.f k (bs [101, 120, 105, 116, 67, 111, 100, 101]) (et 104 r0)).eval default fun r1 =>
    .bnd (ref19_str.f k (rStr (rAt c0 x.2) 0)).eval default fun r2 =>
    .bnd (ref19_at.f k (bs [110, 97, 109, 101]) (et 104 r2)).eval default fun r3 =>
    .bnd (ref19_truth.f k (rBool (rAt c0 x.2) 5)).eval default fun r4 =>
    .bnd (ref19_at.f k (bs [114, 101, 97, 100, 121]) (et 104 r4)).eval default fun r5 =>
    .bnd (ref19_num.f k (rInt (rAt c0 x.2) 2)).eval default fun r6 =>
    .bnd (ref19_at.f k (bs [114, 101, 115, 116, 97, 114, 116, 115]) (et 104 r6)).eval default fun r7 =>
    .bnd (ref19_num.f k (rInt (rAt c0 x.2) 4)).eval default fun r8 =>
    .bnd (ref19_at.f k (bs [115, 105, 110, 99, 101]) (et 104 r8)).eval default fun r9 =>
    .bnd (ref19_truth.f k (rBool (rAt c0 x.2) 6)).eval default fun r10 =>
    .bnd (ref19_at.f k (bs [115, 116, 97, 114, 116, 101, 100]) (et 104 r10)).eval default fun r11 =>
    .bnd (ref19_num.f k (rInt (rAt c0 x.2) 1)).eval default fun r12 =>
    .bnd (ref19_at.f k (bs [115, 116, 97, 116, 101]) (et 104 r12)).eval default fun r13 =>
    .bnd (ref19_object.f k [(et 114 r1), (et 114 r3), (et 114 r5), (et 114 r7), (et 114 r9), (et 114 r11), (et 114 r13)]).eval default fun r14 =>
    .test (rOk 80 (rLen x.1) (rLen [(et 104 r14)]))
     (.ret (.inl ((rCat x.1 [(et 104 r14)]), (iAdd .i64 x.2 (1)))))
     (.fail))
    (.fail))
   (.ret (.inr x.1))
noncomputable def a3 (c0 : Rows) (c1 : Row) (x : (Rows × Int)) : Dt := ⟨[.r c0, .u, .r x.1, .i x.2], [], [et 104 c1], []⟩
noncomputable def o3_0 (c0 : Rows) (c1 : Row) (r : Rows) : X × Dt := (.exit 0, ⟨[.u, .r r], [], [(et 104 c1)], []⟩)
noncomputable def e3 (k : Nat) (d : Dt) : T (X × Dt) := out1 (iter (s3 k (aR (aN d.a 0)) (d.r.getD 0 [])) k ((aR (aN d.a 2)), (aI (aN d.a 3)))) default (o3_0 (aR (aN d.a 0)) (d.r.getD 0 []))
noncomputable def S (k : Nat) : Subs := fun n => bif Nat.beq n 3 then some (loopV Try.prog t3 (e3 k)) else none
noncomputable def f (k : Nat) (a0 : Rows) : T Row :=
  .bnd (iter (ref19_fromStatuses.s3 k a0 [.int .i64 (0), .int .i64 (0), .str ByteArray.empty, .slice 104 [] .open, .slice 114 [] .open]) k ([], (0))) default fun r0 =>
  .bnd (ref19_list.f k r0).eval default fun r1 =>
  .ret (et 104 r1)
noncomputable def d (k : Nat) : Fun := mkFun [53] (fun as_ => f k (vRows (vN as_ 0))) default (fun r => .agg (et 104 r))
theorem hC (k : Nat) : CxOk (C k) := CxOk.cons (p := (49, ref19_num.d k)) (ref19_num.ok k) (CxOk.cons (p := (47, ref19_at.d k)) (ref19_at.ok k) (CxOk.cons (p := (50, ref19_str.d k)) (ref19_str.ok k) (CxOk.cons (p := (57, ref19_truth.d k)) (ref19_truth.ok k) (CxOk.cons (p := (46, ref19_object.d k)) (ref19_object.ok k) (CxOk.cons (p := (60, ref19_list.d k)) (ref19_list.ok k) (CxOk.nil))))))
theorem l3 (k : Nat) : LoopOk Try.prog (S k) (lp (bodyF Go.Proofs.Try.f56) 0) := loopOk_mk (C := C k) (hC k) (Loops.all (n := 0) (by kernel_rfl) trivial) (lt := t3) (den := e3 k) (by kernel_rfl) (N := (Rows × Row)) (A := (Rows × Int)) (R := Rows)
 (fun n x => a3 n.1 n.2 x) (fun n r => o3_0 n.1 n.2 r) (fun n x => s3 k n.1 n.2 x) k (fun d => ((aR (aN d.a 0)), (d.r.getD 0 []))) (fun d => ((aR (aN d.a 2)), (aI (aN d.a 3)))) (fun d y h => out1_eval h) (fun d => by kernel_rfl) (fun n x => by kernel_rfl) (fun n r => ⟨_, rfl⟩)
theorem ok (k : Nat) : FunOk Try.prog 56 (d k) := fun_mk (C := C k) (hC k) (S := S k) Try.func56 (by kernel_rfl) (by kernel_rfl) (Loops.all (n := 1) (by kernel_rfl) ⟨trivial, l3 k⟩) (fun as_ => by kernel_rfl)
end ref19_fromStatuses
namespace ref19_fromStatus
noncomputable def C (k : Nat) : Cx := ⟨Try.prog, tab [(49, ref19_num.d k), (47, ref19_at.d k), (56, ref19_fromStatuses.d k), (50, ref19_str.d k), (57, ref19_truth.d k), (46, ref19_object.d k)], [], [], tab []⟩
noncomputable def S (k : Nat) : Subs := fun n => none
noncomputable def f (k : Nat) (a0 : Row) : T Row :=
  .bnd (ref19_num.f k (rInt a0 6)).eval default fun r0 =>
  .bnd (ref19_at.f k (bs [97, 100, 100, 114, 101, 115, 115]) (et 104 r0)).eval default fun r1 =>
  .bnd (ref19_fromStatuses.f k (rSl a0 5)).eval default fun r2 =>
  .bnd (ref19_at.f k (bs [99, 111, 110, 116, 97, 105, 110, 101, 114, 115]) (et 104 r2)).eval default fun r3 =>
  .bnd (ref19_num.f k (rInt a0 4)).eval default fun r4 =>
  .bnd (ref19_at.f k (bs [102, 105, 110, 105, 115, 104, 101, 100]) (et 104 r4)).eval default fun r5 =>
  .bnd (ref19_str.f k (rStr a0 7)).eval default fun r6 =>
  .bnd (ref19_at.f k (bs [110, 111, 109, 105, 110, 97, 116, 101, 100]) (et 104 r6)).eval default fun r7 =>
  .bnd (ref19_num.f k (rInt a0 0)).eval default fun r8 =>
  .bnd (ref19_at.f k (bs [112, 104, 97, 115, 101]) (et 104 r8)).eval default fun r9 =>
  .bnd (ref19_truth.f k (rBool a0 1)).eval default fun r10 =>
  .bnd (ref19_at.f k (bs [114, 101, 97, 100, 121]) (et 104 r10)).eval default fun r11 =>
  .bnd (ref19_num.f k (rInt a0 2)).eval default fun r12 =>
  .bnd (ref19_at.f k (bs [114, 101, 97, 100, 121, 83, 105, 110, 99, 101]) (et 104 r12)).eval default fun r13 =>
  .bnd (ref19_str.f k (rStr a0 8)).eval default fun r14 =>
  .bnd (ref19_at.f k (bs [114, 101, 97, 115, 111, 110]) (et 104 r14)).eval default fun r15 =>
  .bnd (ref19_num.f k (rInt a0 3)).eval default fun r16 =>
  .bnd (ref19_at.f k (bs [115, 116, 97, 114, 116, 101, 100]) (et 104 r16)).eval default fun r17 =>
  .bnd (ref19_object.f k [(et 114 r1), (et 114 r3), (et 114 r5), (et 114 r7), (et 114 r9), (et 114 r11), (et 114 r13), (et 114 r15), (et 114 r17)]).eval default fun r18 =>
  .ret (et 104 r18)
noncomputable def d (k : Nat) : Fun := mkFun [55] (fun as_ => f k (vRow (vN as_ 0))) default (fun r => .agg (et 104 r))
theorem hC (k : Nat) : CxOk (C k) := CxOk.cons (p := (49, ref19_num.d k)) (ref19_num.ok k) (CxOk.cons (p := (47, ref19_at.d k)) (ref19_at.ok k) (CxOk.cons (p := (56, ref19_fromStatuses.d k)) (ref19_fromStatuses.ok k) (CxOk.cons (p := (50, ref19_str.d k)) (ref19_str.ok k) (CxOk.cons (p := (57, ref19_truth.d k)) (ref19_truth.ok k) (CxOk.cons (p := (46, ref19_object.d k)) (ref19_object.ok k) (CxOk.nil))))))
theorem ok (k : Nat) : FunOk Try.prog 44 (d k) := fun_mk (C := C k) (hC k) (S := S k) Try.func44 (by kernel_rfl) (by kernel_rfl) (Loops.all (n := 0) (by kernel_rfl) trivial) (fun as_ => by kernel_rfl)
end ref19_fromStatus
namespace ref19_FromPod
noncomputable def C (k : Nat) : Cx := ⟨Try.prog, tab [(43, ref19_FromSpec.d k), (44, ref19_fromStatus.d k)], [], [], tab []⟩
noncomputable def S (k : Nat) : Subs := fun n => none
noncomputable def f (k : Nat) (a0 : Row) : T Row :=
  .bnd (ref19_FromSpec.f k (eo 52 a0 13)).eval default fun r0 =>
  .bnd (ref19_fromStatus.f k (eo 55 a0 23)).eval default fun r1 =>
  .ret (rJ [[.str (bs [80, 111, 100]), .str (rStr a0 1), .str (rStr a0 2), .int .i64 (rInt a0 3), .int .i64 (rInt a0 4), .int .i64 (rInt a0 5), .int .i64 (rInt a0 6), .bool (rBool a0 7), .int .i64 (rInt a0 8), .slice 94 (rSl a0 9) .open, .slice 96 (rSl a0 10) .open, .slice 9 (rSl a0 11) .open, .slice 98 (rSl a0 12) .open], (et 104 r0), (et 104 r1)])
noncomputable def d (k : Nat) : Fun := mkFun [57] (fun as_ => f k (vRow (vN as_ 0))) default (fun r => .agg (et 106 r))
theorem hC (k : Nat) : CxOk (C k) := CxOk.cons (p := (43, ref19_FromSpec.d k)) (ref19_FromSpec.ok k) (CxOk.cons (p := (44, ref19_fromStatus.d k)) (ref19_fromStatus.ok k) (CxOk.nil))
theorem ok (k : Nat) : FunOk Try.prog 40 (d k) := fun_mk (C := C k) (hC k) (S := S k) Try.func40 (by kernel_rfl) (by kernel_rfl) (Loops.all (n := 0) (by kernel_rfl) trivial) (fun as_ => by kernel_rfl)
end ref19_FromPod
namespace ref06_left
noncomputable def F (self : Row → Int → T Int) : Fun := mkFun [104, 3] (fun as_ => self (vRow (vN as_ 0)) (vInt (vN as_ 1))) default (fun r => .int .i64 r)
noncomputable def C (k : Nat) (self : Row → Int → T Int) : Cx := ⟨Try.prog, tab [(45, F self)], [], [], tab []⟩
noncomputable def t3 : LoopT := ⟨⟨59, [], [(1, .int .i64), (2, .ptr 2 0), (5, .int .i64)], [], [(2, 104)], []⟩, (fun | .exit 0 => some ⟨59, [], [(1, .int .i64), (2, .ptr 2 0)], [], [(2, 104)], []⟩ | _ => none)⟩
noncomputable def s3 (k : Nat) (self : Row → Int → T Int) (c0 : Row) (x : (Int × Int)) : T ((Int × Int) ⊕ Int) :=
  .test (bIte (iLt x.2 (rLen (rSl c0 3))) (iLe (0) x.1) false)
   (.test (iIn x.2 (rLen (rSl c0 3)))
    (.bnd (self (et 104 (rAt (rSl c0 3) x.2)) x.1).eval default fun r0 =>
    .ret (.inl (r0, (iAdd .i64 x.2 (1)))))
    (.fail))
   (.ret (.inr x.1))
noncomputable def a3 (c0 : Row) (x : (Int × Int)) : Dt := ⟨[.i x.1, .u, .i x.2], [], [et 104 c0], []⟩
noncomputable def o3_0 (c0 : Row) (r : Int) : X × Dt := (.exit 0, ⟨[.i r, .u], [], [(et 104 c0)], []⟩)
noncomputable def e3 (k : Nat) (self : Row → Int → T Int) (d : Dt) : T (X × Dt) := out1 (iter (s3 k self (d.r.getD 0 [])) k ((aI (aN d.a 0)), (aI (aN d.a 2)))) default (o3_0 (d.r.getD 0 []))
noncomputable def t7 : LoopT := ⟨⟨59, [], [(1, .int .i64), (2, .ptr 2 0), (6, .int .i64)], [], [(2, 104)], []⟩, (fun | .exit 2 => some ⟨59, [], [(1, .int .i64)], [], [], []⟩ | _ => none)⟩
noncomputable def s7 (k : Nat) (self : Row → Int → T Int) (c0 : Row) (x : (Int × Int)) : T ((Int × Int) ⊕ Int) :=
  .test (bIte (iLt x.2 (rLen (rSl c0 4))) (iLe (0) x.1) false)
   (.test (iIn x.2 (rLen (rSl c0 4)))
    (.test (iIn x.2 (rLen (rSl c0 4)))
     (.bnd (self (eo 104 (rAt (rSl c0 4) x.2) 1) (iSub .i64 x.1 (sLen (rStr (rAt (rSl c0 4) x.2) 0)))).eval default fun r0 =>
     .ret (.inl (r0, (iAdd .i64 x.2 (1)))))
     (.fail))
    (.fail))
   (.ret (.inr x.1))
noncomputable def a7 (c0 : Row) (x : (Int × Int)) : Dt := ⟨[.i x.1, .u, .i x.2], [], [et 104 c0], []⟩
noncomputable def o7_0 (c0 : Row) (r : Int) : X × Dt := (.exit 2, ⟨[.i r], [], [], []⟩)
noncomputable def e7 (k : Nat) (self : Row → Int → T Int) (d : Dt) : T (X × Dt) := out1 (iter (s7 k self (d.r.getD 0 [])) k ((aI (aN d.a 0)), (aI (aN d.a 2)))) default (o7_0 (d.r.getD 0 []))
noncomputable def S (k : Nat) (self : Row → Int → T Int) : Subs := fun n => bif Nat.beq n 3 then some (loopV Try.prog t3 (e3 k self)) else bif Nat.beq n 7 then some (loopV Try.prog t7 (e7 k self)) else none
noncomputable def f : Nat → Row → Int → T Int
  | 0, _, _ => .fail
  | k + 1, a0, a1 =>
  .bnd (iter (ref06_left.s3 k (f k) (et 104 a0)) k ((iSub .i64 (iSub .i64 a1 (1)) (sLen (rStr a0 2))), (0))) default fun r0 =>
  .bnd (iter (ref06_left.s7 k (f k) (et 104 a0)) k (r0, (0))) default fun r1 =>
  .ret r1
noncomputable def d (k : Nat) : Fun := F (f k)
theorem hC (k : Nat) (self : Row → Int → T Int) (ih : FunOk Try.prog 45 (F self)) : CxOk (C k self) := CxOk.cons (p := (45, F self)) ih (CxOk.nil)
theorem l3 (k : Nat) (self : Row → Int → T Int) (ih : FunOk Try.prog 45 (F self)) : LoopOk Try.prog (S k self) (lp (bodyF Go.Proofs.Try.f45) 0) := loopOk_mk (C := C k self) (hC k self ih) (Loops.all (n := 0) (by kernel_rfl) trivial) (lt := t3) (den := e3 k self) (by kernel_rfl) (N := Row) (A := (Int × Int)) (R := Int)
 (fun n x => a3 n x) (fun n r => o3_0 n r) (fun n x => s3 k self n x) k (fun d => (d.r.getD 0 [])) (fun d => ((aI (aN d.a 0)), (aI (aN d.a 2)))) (fun d y h => out1_eval h) (fun d => by kernel_rfl) (fun n x => by kernel_rfl) (fun n r => ⟨_, rfl⟩)
theorem l7 (k : Nat) (self : Row → Int → T Int) (ih : FunOk Try.prog 45 (F self)) : LoopOk Try.prog (S k self) (lp (bodyF Go.Proofs.Try.f45) 1) := loopOk_mk (C := C k self) (hC k self ih) (Loops.all (n := 0) (by kernel_rfl) trivial) (lt := t7) (den := e7 k self) (by kernel_rfl) (N := Row) (A := (Int × Int)) (R := Int)
 (fun n x => a7 n x) (fun n r => o7_0 n r) (fun n x => s7 k self n x) k (fun d => (d.r.getD 0 [])) (fun d => ((aI (aN d.a 0)), (aI (aN d.a 2)))) (fun d y h => out1_eval h) (fun d => by kernel_rfl) (fun n x => by kernel_rfl) (fun n r => ⟨_, rfl⟩)
theorem ok : ∀ k, FunOk Try.prog 45 (d k)
  | 0 => fun_zero Try.func45 (by kernel_rfl) (by kernel_rfl) (fun _ => rfl)
  | k + 1 => fun_mk (C := C k (f k)) (hC k (f k) (ok k)) (S := S k (f k)) Try.func45 (by kernel_rfl) (by kernel_rfl) (Loops.all (n := 2) (by kernel_rfl) ⟨⟨trivial, l3 k (f k) (ok k)⟩, l7 k (f k) (ok k)⟩) (fun as_ => by kernel_rfl)
end ref06_left
namespace ref06_Few
noncomputable def C (k : Nat) : Cx := ⟨Try.prog, tab [(45, ref06_left.d k)], [], [], tab []⟩
noncomputable def S (k : Nat) : Subs := fun n => none
noncomputable def f (k : Nat) (a0 : Row) (a1 : Int) : T Bool :=
  .bnd (ref06_left.f k (et 104 a0) a1).eval default fun r0 =>
  .ret (iLe (0) r0)
noncomputable def d (k : Nat) : Fun := mkFun [104, 3] (fun as_ => f k (vRow (vN as_ 0)) (vInt (vN as_ 1))) default (fun r => .bool r)
theorem hC (k : Nat) : CxOk (C k) := CxOk.cons (p := (45, ref06_left.d k)) (ref06_left.ok k) (CxOk.nil)
theorem ok (k : Nat) : FunOk Try.prog 41 (d k) := fun_mk (C := C k) (hC k) (S := S k) Try.func41 (by kernel_rfl) (by kernel_rfl) (Loops.all (n := 0) (by kernel_rfl) trivial) (fun as_ => by kernel_rfl)
end ref06_Few
namespace law19_SmallPod
noncomputable def C (k : Nat) : Cx := ⟨Try.prog, tab [(40, ref19_FromPod.d k), (27, law19_SmallMeta.d k), (41, ref06_Few.d k)], [], [], tab []⟩
noncomputable def S (k : Nat) : Subs := fun n => none
noncomputable def f (k : Nat) (a0 : Row) : T Bool :=
  .bnd (ref19_FromPod.f k (et 57 a0)).eval default fun r0 =>
  .bnd (law19_SmallMeta.f k (et 27 a0)).eval default fun r1 =>
  .opt r1 (ref06_Few.f k (eo 104 r0 13) (20000)).eval default fun r2 =>
  .opt (bIte r1 r2 false) (ref06_Few.f k (eo 104 r0 18) (20000)).eval default fun r3 =>
  .ret (bIte (bIte r1 r2 false) r3 false)
noncomputable def d (k : Nat) : Fun := mkFun [57] (fun as_ => f k (vRow (vN as_ 0))) default (fun r => .bool r)
theorem hC (k : Nat) : CxOk (C k) := CxOk.cons (p := (40, ref19_FromPod.d k)) (ref19_FromPod.ok k) (CxOk.cons (p := (27, law19_SmallMeta.d k)) (law19_SmallMeta.ok k) (CxOk.cons (p := (41, ref06_Few.d k)) (ref06_Few.ok k) (CxOk.nil)))
theorem ok (k : Nat) : FunOk Try.prog 35 (d k) := fun_mk (C := C k) (hC k) (S := S k) Try.func35 (by kernel_rfl) (by kernel_rfl) (Loops.all (n := 0) (by kernel_rfl) trivial) (fun as_ => by kernel_rfl)
end law19_SmallPod
namespace law22_Small
noncomputable def C (k : Nat) : Cx := ⟨Try.prog, tab [(35, law19_SmallPod.d k)], [], [], tab []⟩
noncomputable def t4 : LoopT := ⟨⟨18, [], [(8, .sl 57 none), (9, .int .i64), (10, .int .i64)], [], [], []⟩, (fun | .ret => some ⟨18, [], [(2, .bool)], [], [], []⟩ | .exit 0 => some ⟨18, [], [], [], [], []⟩ | _ => none)⟩
noncomputable def s4 (k : Nat) (c0 : Rows) (c1 : Int) (x : Int) : T (Int ⊕ (Bool ⊕ Unit)) :=
  .test (iLt x c1)
   (.test (iIn x (rLen c0))
    (.bnd (law19_SmallPod.f k (et 57 (rAt c0 x))).eval default fun r0 =>
    .test (bNot r0)
     (.ret (.inr (.inl false)))
     (.ret (.inl (iAdd .i64 x (1)))))
    (.fail))
   (.ret (.inr (.inr ())))
noncomputable def a4 (c0 : Rows) (c1 : Int) (x : Int) : Dt := ⟨[.r c0, .i c1, .i x], [], [], []⟩
noncomputable def o4_0 (c0 : Rows) (c1 : Int) (r : Bool) : X × Dt := (.ret, ⟨[.b r], [], [], []⟩)
noncomputable def o4_1 (c0 : Rows) (c1 : Int) (r : Unit) : X × Dt := (.exit 0, ⟨[], [], [], []⟩)
noncomputable def e4 (k : Nat) (d : Dt) : T (X × Dt) := out2 (iter (s4 k (aR (aN d.a 0)) (aI (aN d.a 1))) k (aI (aN d.a 2))) (o4_0 (aR (aN d.a 0)) (aI (aN d.a 1))) (o4_1 (aR (aN d.a 0)) (aI (aN d.a 1)))
noncomputable def S (k : Nat) : Subs := fun n => bif Nat.beq n 4 then some (loopV Try.prog t4 (e4 k)) else none
noncomputable def f (k : Nat) (a0 : Rows) : T Bool :=
  .test (iLt (20) (rLen a0))
   (.ret false)
   (.cas (iter (law22_Small.s4 k a0 (rLen a0)) k (0)) (fun r0 =>
    .ret r0) (fun r1 =>
    .ret true))
noncomputable def d (k : Nat) : Fun := mkFun [34] (fun as_ => f k (vRows (vN as_ 0))) default (fun r => .bool r)
theorem hC (k : Nat) : CxOk (C k) := CxOk.cons (p := (35, law19_SmallPod.d k)) (law19_SmallPod.ok k) (CxOk.nil)
theorem l4 (k : Nat) : LoopOk Try.prog (S k) (lp (bodyF Go.Proofs.Try.f28) 0) := loopOk_mk (C := C k) (hC k) (Loops.all (n := 0) (by kernel_rfl) trivial) (lt := t4) (den := e4 k) (by kernel_rfl) (N := (Rows × Int)) (A := Int) (R := (Bool ⊕ Unit))
 (fun n x => a4 n.1 n.2 x) (fun n r => Sum.elim (o4_0 n.1 n.2) (o4_1 n.1 n.2) r) (fun n x => s4 k n.1 n.2 x) k (fun d => ((aR (aN d.a 0)), (aI (aN d.a 1)))) (fun d => (aI (aN d.a 2))) (fun d y h => out2_eval h) (fun d => by kernel_rfl) (fun n x => by kernel_rfl) (fun n r => by rcases r with r | r <;> exact ⟨_, rfl⟩)
theorem ok (k : Nat) : FunOk Try.prog 28 (d k) := fun_mk (C := C k) (hC k) (S := S k) Try.func28 (by kernel_rfl) (by kernel_rfl) (Loops.all (n := 1) (by kernel_rfl) ⟨trivial, l4 k⟩) (fun as_ => by kernel_rfl)
end law22_Small
namespace ref13_Key
noncomputable def C (k : Nat) : Cx := ⟨Try.prog, tab [], [], [], tab []⟩
noncomputable def S (k : Nat) : Subs := fun n => none
noncomputable def f (k : Nat) (a0 : ByteArray) (a1 : ByteArray) (a2 : ByteArray) : T ByteArray :=
  .test (sOk (sLen a0) (sLen (bs [47])))
   (.test (sOk (sLen (sCat a0 (bs [47]))) (sLen a1))
    (.test (sOk (sLen (sCat (sCat a0 (bs [47])) a1)) (sLen (bs [47])))
     (.test (sOk (sLen (sCat (sCat (sCat a0 (bs [47])) a1) (bs [47]))) (sLen a2))
      (.ret (sCat (sCat (sCat (sCat a0 (bs [47])) a1) (bs [47])) a2))
      (.fail))
     (.fail))
    (.fail))
   (.fail)
noncomputable def d (k : Nat) : Fun := mkFun [9, 9, 9] (fun as_ => f k (vStr (vN as_ 0)) (vStr (vN as_ 1)) (vStr (vN as_ 2))) default (fun r => .str r)
theorem hC (k : Nat) : CxOk (C k) := CxOk.nil
theorem ok (k : Nat) : FunOk Try.prog 34 (d k) := fun_mk (C := C k) (hC k) (S := S k) Try.func34 (by kernel_rfl) (by kernel_rfl) (Loops.all (n := 0) (by kernel_rfl) trivial) (fun as_ => by kernel_rfl)
end ref13_Key
namespace ref13_KeyOf
noncomputable def C (k : Nat) : Cx := ⟨Try.prog, tab [(34, ref13_Key.d k)], [], [], tab []⟩
noncomputable def S (k : Nat) : Subs := fun n => none
noncomputable def f (k : Nat) (a0 : Row) : T ByteArray :=
  .bnd (ref13_Key.f k (rStr a0 0) (rStr a0 1) (rStr a0 2)).eval default fun r0 =>
  .ret r0
noncomputable def d (k : Nat) : Fun := mkFun [27] (fun as_ => f k (vRow (vN as_ 0))) default (fun r => .str r)
theorem hC (k : Nat) : CxOk (C k) := CxOk.cons (p := (34, ref13_Key.d k)) (ref13_Key.ok k) (CxOk.nil)
theorem ok (k : Nat) : FunOk Try.prog 25 (d k) := fun_mk (C := C k) (hC k) (S := S k) Try.func25 (by kernel_rfl) (by kernel_rfl) (Loops.all (n := 0) (by kernel_rfl) trivial) (fun as_ => by kernel_rfl)
end ref13_KeyOf
namespace law46_distinct
noncomputable def C (k : Nat) : Cx := ⟨Try.prog, tab [(25, ref13_KeyOf.d k)], [], [], tab []⟩
noncomputable def t5 : LoopT := ⟨⟨29, [], [(0, .sl 57 none), (3, .int .i64), (6, .int .i64), (7, .int .i64), (10, .int .i64), (11, .int .i64)], [], [], []⟩, (fun | .ret => some ⟨29, [], [(2, .bool)], [], [], []⟩ | .exit 2 => some ⟨29, [], [(0, .sl 57 none), (6, .int .i64), (7, .int .i64)], [], [], []⟩ | _ => none)⟩
noncomputable def s5 (k : Nat) (c0 : Rows) (c1 : Int) (c2 : Int) (c3 : Int) (c4 : Int) (x : Int) : T (Int ⊕ (Bool ⊕ Unit)) :=
  .test (iLt x c4)
   (.test (iIn c1 (rLen c0))
    (.bnd (ref13_KeyOf.f k (et 27 (rAt c0 c1))).eval default fun r0 =>
    .test (iIn x (rLen c0))
     (.bnd (ref13_KeyOf.f k (et 27 (rAt c0 x))).eval default fun r1 =>
     .test (sEq r0 r1)
      (.ret (.inr (.inl false)))
      (.ret (.inl (iAdd .i64 x (1)))))
     (.fail))
    (.fail))
   (.ret (.inr (.inr ())))
noncomputable def a5 (c0 : Rows) (c1 : Int) (c2 : Int) (c3 : Int) (c4 : Int) (x : Int) : Dt := ⟨[.r c0, .i c1, .i c2, .i c3, .i c4, .i x], [], [], []⟩
noncomputable def o5_0 (c0 : Rows) (c1 : Int) (c2 : Int) (c3 : Int) (c4 : Int) (r : Bool) : X × Dt := (.ret, ⟨[.b r], [], [], []⟩)
noncomputable def o5_1 (c0 : Rows) (c1 : Int) (c2 : Int) (c3 : Int) (c4 : Int) (r : Unit) : X × Dt := (.exit 2, ⟨[.r c0, .i c2, .i c3], [], [], []⟩)
noncomputable def e5 (k : Nat) (d : Dt) : T (X × Dt) := out2 (iter (s5 k (aR (aN d.a 0)) (aI (aN d.a 1)) (aI (aN d.a 2)) (aI (aN d.a 3)) (aI (aN d.a 4))) k (aI (aN d.a 5))) (o5_0 (aR (aN d.a 0)) (aI (aN d.a 1)) (aI (aN d.a 2)) (aI (aN d.a 3)) (aI (aN d.a 4))) (o5_1 (aR (aN d.a 0)) (aI (aN d.a 1)) (aI (aN d.a 2)) (aI (aN d.a 3)) (aI (aN d.a 4)))
noncomputable def t2 : LoopT := ⟨⟨29, [], [(0, .sl 57 none), (6, .int .i64), (7, .int .i64)], [], [], []⟩, (fun | .ret => some ⟨29, [], [(2, .bool)], [], [], []⟩ | .exit 0 => some ⟨29, [], [], [], [], []⟩ | _ => none)⟩
noncomputable def s2 (k : Nat) (c0 : Rows) (c1 : Int) (x : Int) : T (Int ⊕ (Bool ⊕ Unit)) :=
  .test (iLt x c1)
   (.cas (iter (law46_distinct.s5 k c0 x c1 x x) k (0)) (fun r0 =>
    .ret (.inr (.inl r0))) (fun r1 =>
    .ret (.inl (iAdd .i64 x (1)))))
   (.ret (.inr (.inr ())))
noncomputable def a2 (c0 : Rows) (c1 : Int) (x : Int) : Dt := ⟨[.r c0, .i c1, .i x], [], [], []⟩
noncomputable def o2_0 (c0 : Rows) (c1 : Int) (r : Bool) : X × Dt := (.ret, ⟨[.b r], [], [], []⟩)
noncomputable def o2_1 (c0 : Rows) (c1 : Int) (r : Unit) : X × Dt := (.exit 0, ⟨[], [], [], []⟩)
noncomputable def e2 (k : Nat) (d : Dt) : T (X × Dt) := out2 (iter (s2 k (aR (aN d.a 0)) (aI (aN d.a 1))) k (aI (aN d.a 2))) (o2_0 (aR (aN d.a 0)) (aI (aN d.a 1))) (o2_1 (aR (aN d.a 0)) (aI (aN d.a 1)))
noncomputable def S (k : Nat) : Subs := fun n => bif Nat.beq n 5 then some (loopV Try.prog t5 (e5 k)) else bif Nat.beq n 2 then some (loopV Try.prog t2 (e2 k)) else none
noncomputable def f (k : Nat) (a0 : Rows) : T Bool :=
  .cas (iter (law46_distinct.s2 k a0 (rLen a0)) k (0)) (fun r0 =>
   .ret r0) (fun r1 =>
   .ret true)
noncomputable def d (k : Nat) : Fun := mkFun [34] (fun as_ => f k (vRows (vN as_ 0))) default (fun r => .bool r)
theorem hC (k : Nat) : CxOk (C k) := CxOk.cons (p := (25, ref13_KeyOf.d k)) (ref13_KeyOf.ok k) (CxOk.nil)
theorem l5 (k : Nat) : LoopOk Try.prog (S k) (lp (lp (bodyF Go.Proofs.Try.f29) 0) 0) := loopOk_mk (C := C k) (hC k) (Loops.all (n := 0) (by kernel_rfl) trivial) (lt := t5) (den := e5 k) (by kernel_rfl) (N := (Rows × Int × Int × Int × Int)) (A := Int) (R := (Bool ⊕ Unit))
 (fun n x => a5 n.1 n.2.1 n.2.2.1 n.2.2.2.1 n.2.2.2.2 x) (fun n r => Sum.elim (o5_0 n.1 n.2.1 n.2.2.1 n.2.2.2.1 n.2.2.2.2) (o5_1 n.1 n.2.1 n.2.2.1 n.2.2.2.1 n.2.2.2.2) r) (fun n x => s5 k n.1 n.2.1 n.2.2.1 n.2.2.2.1 n.2.2.2.2 x) k (fun d => ((aR (aN d.a 0)), (aI (aN d.a 1)), (aI (aN d.a 2)), (aI (aN d.a 3)), (aI (aN d.a 4)))) (fun d => (aI (aN d.a 5))) (fun d y h => out2_eval h) (fun d => by kernel_rfl) (fun n x => by kernel_rfl) (fun n r => by rcases r with r | r <;> exact ⟨_, rfl⟩)
theorem l2 (k : Nat) : LoopOk Try.prog (S k) (lp (bodyF Go.Proofs.Try.f29) 0) := loopOk_mk (C := C k) (hC k) (Loops.all (n := 1) (by kernel_rfl) ⟨trivial, l5 k⟩) (lt := t2) (den := e2 k) (by kernel_rfl) (N := (Rows × Int)) (A := Int) (R := (Bool ⊕ Unit))
 (fun n x => a2 n.1 n.2 x) (fun n r => Sum.elim (o2_0 n.1 n.2) (o2_1 n.1 n.2) r) (fun n x => s2 k n.1 n.2 x) k (fun d => ((aR (aN d.a 0)), (aI (aN d.a 1)))) (fun d => (aI (aN d.a 2))) (fun d y h => out2_eval h) (fun d => by kernel_rfl) (fun n x => by kernel_rfl) (fun n r => by rcases r with r | r <;> exact ⟨_, rfl⟩)
theorem ok (k : Nat) : FunOk Try.prog 29 (d k) := fun_mk (C := C k) (hC k) (S := S k) Try.func29 (by kernel_rfl) (by kernel_rfl) (Loops.all (n := 1) (by kernel_rfl) ⟨trivial, l2 k⟩) (fun as_ => by kernel_rfl)
end law46_distinct
namespace law46_Small
noncomputable def C (k : Nat) : Cx := ⟨Try.prog, tab [(27, law19_SmallMeta.d k), (28, law22_Small.d k), (29, law46_distinct.d k)], [], [], tab []⟩
noncomputable def S (k : Nat) : Subs := fun n => none
noncomputable def f (k : Nat) (a0 : Row) (a1 : Rows) : T Bool :=
  .bnd (law19_SmallMeta.f k (et 27 a0)).eval default fun r0 =>
  .opt (bIte r0 (iLe (rLen (rSl a0 35)) (100)) false) (law22_Small.f k a1).eval default fun r1 =>
  .opt (bIte (bIte r0 (iLe (rLen (rSl a0 35)) (100)) false) r1 false) (law46_distinct.f k a1).eval default fun r2 =>
  .ret (bIte (bIte (bIte r0 (iLe (rLen (rSl a0 35)) (100)) false) r1 false) r2 false)
noncomputable def d (k : Nat) : Fun := mkFun [71, 34] (fun as_ => f k (vRow (vN as_ 0)) (vRows (vN as_ 1))) default (fun r => .bool r)
theorem hC (k : Nat) : CxOk (C k) := CxOk.cons (p := (27, law19_SmallMeta.d k)) (law19_SmallMeta.ok k) (CxOk.cons (p := (28, law22_Small.d k)) (law22_Small.ok k) (CxOk.cons (p := (29, law46_distinct.d k)) (law46_distinct.ok k) (CxOk.nil)))
theorem ok (k : Nat) : FunOk Try.prog 12 (d k) := fun_mk (C := C k) (hC k) (S := S k) Try.func12 (by kernel_rfl) (by kernel_rfl) (Loops.all (n := 0) (by kernel_rfl) trivial) (fun as_ => by kernel_rfl)
end law46_Small
namespace law49_Small
noncomputable def C (k : Nat) : Cx := ⟨Try.prog, tab [(12, law46_Small.d k)], [], [], tab []⟩
noncomputable def t4 : LoopT := ⟨⟨63, [], [(2, .sl 64 none), (35, .sl 59 none), (36, .int .i64), (37, .int .i64)], [], [], []⟩, (fun | .ret => some ⟨63, [], [(6, .bool)], [], [], []⟩ | .exit 0 => some ⟨63, [], [(2, .sl 64 none)], [], [], []⟩ | _ => none)⟩
noncomputable def s4 (k : Nat) (c0 : Rows) (c1 : Rows) (c2 : Int) (x : Int) : T (Int ⊕ (Bool ⊕ Unit)) :=
  .test (iLt x c2)
   (.test (iIn x (rLen c1))
    (.test (iLt (200) (sLen (rStr (rAt c1 x) 0)))
     (.ret (.inr (.inl false)))
     (.ret (.inl (iAdd .i64 x (1)))))
    (.fail))
   (.ret (.inr (.inr ())))
noncomputable def a4 (c0 : Rows) (c1 : Rows) (c2 : Int) (x : Int) : Dt := ⟨[.r c0, .r c1, .i c2, .i x], [], [], []⟩
noncomputable def o4_0 (c0 : Rows) (c1 : Rows) (c2 : Int) (r : Bool) : X × Dt := (.ret, ⟨[.b r], [], [], []⟩)
noncomputable def o4_1 (c0 : Rows) (c1 : Rows) (c2 : Int) (r : Unit) : X × Dt := (.exit 0, ⟨[.r c0], [], [], []⟩)
noncomputable def e4 (k : Nat) (d : Dt) : T (X × Dt) := out2 (iter (s4 k (aR (aN d.a 0)) (aR (aN d.a 1)) (aI (aN d.a 2))) k (aI (aN d.a 3))) (o4_0 (aR (aN d.a 0)) (aR (aN d.a 1)) (aI (aN d.a 2))) (o4_1 (aR (aN d.a 0)) (aR (aN d.a 1)) (aI (aN d.a 2)))
noncomputable def t10 : LoopT := ⟨⟨63, [], [(46, .sl 64 none), (47, .int .i64), (48, .int .i64)], [], [], []⟩, (fun | .ret => some ⟨63, [], [(6, .bool)], [], [], []⟩ | .exit 2 => some ⟨63, [], [], [], [], []⟩ | _ => none)⟩
noncomputable def s10 (k : Nat) (c0 : Rows) (c1 : Int) (x : Int) : T (Int ⊕ (Bool ⊕ Unit)) :=
  .test (iLt x c1)
   (.test (iIn x (rLen c0))
    (.test (bIte (iLt (400) (sLen (rStr (rAt c0 x) 0))) true (iLt (200) (sLen (rStr (rAt c0 x) 1))))
     (.ret (.inr (.inl false)))
     (.ret (.inl (iAdd .i64 x (1)))))
    (.fail))
   (.ret (.inr (.inr ())))
noncomputable def a10 (c0 : Rows) (c1 : Int) (x : Int) : Dt := ⟨[.r c0, .i c1, .i x], [], [], []⟩
noncomputable def o10_0 (c0 : Rows) (c1 : Int) (r : Bool) : X × Dt := (.ret, ⟨[.b r], [], [], []⟩)
noncomputable def o10_1 (c0 : Rows) (c1 : Int) (r : Unit) : X × Dt := (.exit 2, ⟨[], [], [], []⟩)
noncomputable def e10 (k : Nat) (d : Dt) : T (X × Dt) := out2 (iter (s10 k (aR (aN d.a 0)) (aI (aN d.a 1))) k (aI (aN d.a 2))) (o10_0 (aR (aN d.a 0)) (aI (aN d.a 1))) (o10_1 (aR (aN d.a 0)) (aI (aN d.a 1)))
noncomputable def S (k : Nat) : Subs := fun n => bif Nat.beq n 4 then some (loopV Try.prog t4 (e4 k)) else bif Nat.beq n 10 then some (loopV Try.prog t10 (e10 k)) else none
noncomputable def f (k : Nat) (a0 : Row) (a1 : Rows) (a2 : Rows) : T Bool :=
  .bnd (law46_Small.f k [.str (rStr a0 0), .str (rStr a0 1), .str (rStr a0 2), .int .i64 (rInt a0 3), .int .i64 (rInt a0 4), .int .i64 (rInt a0 5), .int .i64 (rInt a0 6), .bool (rBool a0 7), .int .i64 (rInt a0 8), .slice 94 (rSl a0 9) .open, .slice 96 (rSl a0 10) .open, .slice 9 (rSl a0 11) .open, .slice 98 (rSl a0 12) .open, .int .i64 (0), .int .i64 (0), .int .i64 (0), .int .i64 (0), .bool false, .bool false, .slice 94 [] .open, .str ByteArray.empty, .int .i64 (0), .int .i64 (0), .int .i64 (0), .slice 130 [] .open, .slice 135 [] .open, .slice 138 [] .open, .slice 140 [] .open, .slice 142 [] .open, .slice 144 [] .open, .int .i64 (0), .int .i64 (0), .int .i64 (0), .int .i64 (0), .int .i64 (0), .slice 3 [] .open, .int .i64 (0)] a1).eval default fun r0 =>
  .test (bIte (bIte (bIte (bNot r0) true (iLt (10) (rLen (rSl a0 17)))) true (iLt (100) (rLen (rSl a0 26)))) true (iLt (200) (rLen a2)))
   (.ret false)
   (.cas (iter (law49_Small.s4 k a2 (rSl a0 17) (rLen (rSl a0 17))) k (0)) (fun r1 =>
    .ret r1) (fun r2 =>
    .cas (iter (law49_Small.s10 k a2 (rLen a2)) k (0)) (fun r3 =>
     .ret r3) (fun r4 =>
     .ret true)))
noncomputable def d (k : Nat) : Fun := mkFun [33, 34, 35] (fun as_ => f k (vRow (vN as_ 0)) (vRows (vN as_ 1)) (vRows (vN as_ 2))) default (fun r => .bool r)
theorem hC (k : Nat) : CxOk (C k) := CxOk.cons (p := (12, law46_Small.d k)) (law46_Small.ok k) (CxOk.nil)
theorem l4 (k : Nat) : LoopOk Try.prog (S k) (lp (bodyF Go.Proofs.Try.f5) 0) := loopOk_mk (C := C k) (hC k) (Loops.all (n := 0) (by kernel_rfl) trivial) (lt := t4) (den := e4 k) (by kernel_rfl) (N := (Rows × Rows × Int)) (A := Int) (R := (Bool ⊕ Unit))
 (fun n x => a4 n.1 n.2.1 n.2.2 x) (fun n r => Sum.elim (o4_0 n.1 n.2.1 n.2.2) (o4_1 n.1 n.2.1 n.2.2) r) (fun n x => s4 k n.1 n.2.1 n.2.2 x) k (fun d => ((aR (aN d.a 0)), (aR (aN d.a 1)), (aI (aN d.a 2)))) (fun d => (aI (aN d.a 3))) (fun d y h => out2_eval h) (fun d => by kernel_rfl) (fun n x => by kernel_rfl) (fun n r => by rcases r with r | r <;> exact ⟨_, rfl⟩)
theorem l10 (k : Nat) : LoopOk Try.prog (S k) (lp (bodyF Go.Proofs.Try.f5) 1) := loopOk_mk (C := C k) (hC k) (Loops.all (n := 0) (by kernel_rfl) trivial) (lt := t10) (den := e10 k) (by kernel_rfl) (N := (Rows × Int)) (A := Int) (R := (Bool ⊕ Unit))
 (fun n x => a10 n.1 n.2 x) (fun n r => Sum.elim (o10_0 n.1 n.2) (o10_1 n.1 n.2) r) (fun n x => s10 k n.1 n.2 x) k (fun d => ((aR (aN d.a 0)), (aI (aN d.a 1)))) (fun d => (aI (aN d.a 2))) (fun d y h => out2_eval h) (fun d => by kernel_rfl) (fun n x => by kernel_rfl) (fun n r => by rcases r with r | r <;> exact ⟨_, rfl⟩)
theorem ok (k : Nat) : FunOk Try.prog 5 (d k) := fun_mk (C := C k) (hC k) (S := S k) Try.func5 (by kernel_rfl) (by kernel_rfl) (Loops.all (n := 2) (by kernel_rfl) ⟨⟨trivial, l4 k⟩, l10 k⟩) (fun as_ => by kernel_rfl)
end law49_Small
namespace law49_ready
noncomputable def C (k : Nat) : Cx := ⟨Try.prog, tab [], [], [], tab []⟩
noncomputable def t3 : LoopT := ⟨⟨27, [.tmp 3 24 57], [(3, .sl 57 (some 24)), (6, .int .i64), (7, .int .i64)], [], [], []⟩, (fun | .exit 0 => some ⟨27, [], [(3, .sl 57 (some 24))], [], [], []⟩ | _ => none)⟩
noncomputable def s3 (k : Nat) (c0 : Int) (x : (Rows × Int)) : T ((Rows × Int) ⊕ Rows) :=
  .test (iLt x.2 c0)
   (.test (rOk 480 (rLen x.1) (rLen [[.str (bs [80, 111, 100]), .str (bs [110]), .str (sRows [[.int .u8 (iCv .u8 (iAdd .i64 (97) x.2))]]), .int .i64 (0), .int .i64 (0), .int .i64 (0), .int .i64 (0), .bool false, .int .i64 (0), .slice 94 [] .open, .slice 96 [] .open, .slice 9 [] .open, .slice 98 [] .open, .str ByteArray.empty, .int .i64 (0), .int .i64 (0), .int .i64 (0), .slice 130 [] .open, .slice 135 [] .open, .slice 138 [] .open, .slice 140 [] .open, .slice 142 [] .open, .slice 144 [] .open, .int .i64 (1), .bool true, .int .i64 (0), .int .i64 (0), .int .i64 (0), .slice 146 [] .open, .int .i64 (0), .str ByteArray.empty, .str ByteArray.empty]]))
    (.ret (.inl ((rCat x.1 [[.str (bs [80, 111, 100]), .str (bs [110]), .str (sRows [[.int .u8 (iCv .u8 (iAdd .i64 (97) x.2))]]), .int .i64 (0), .int .i64 (0), .int .i64 (0), .int .i64 (0), .bool false, .int .i64 (0), .slice 94 [] .open, .slice 96 [] .open, .slice 9 [] .open, .slice 98 [] .open, .str ByteArray.empty, .int .i64 (0), .int .i64 (0), .int .i64 (0), .slice 130 [] .open, .slice 135 [] .open, .slice 138 [] .open, .slice 140 [] .open, .slice 142 [] .open, .slice 144 [] .open, .int .i64 (1), .bool true, .int .i64 (0), .int .i64 (0), .int .i64 (0), .slice 146 [] .open, .int .i64 (0), .str ByteArray.empty, .str ByteArray.empty]]), (iAdd .i64 x.2 (1)))))
    (.fail))
   (.ret (.inr x.1))
noncomputable def a3 (c0 : Int) (x : (Rows × Int)) : Dt := ⟨[.r x.1, .i c0, .i x.2], [], [], []⟩
noncomputable def o3_0 (c0 : Int) (r : Rows) : X × Dt := (.exit 0, ⟨[.r r], [], [], []⟩)
noncomputable def e3 (k : Nat) (d : Dt) : T (X × Dt) := out1 (iter (s3 k (aI (aN d.a 1))) k ((aR (aN d.a 0)), (aI (aN d.a 2)))) default (o3_0 (aI (aN d.a 1)))
noncomputable def S (k : Nat) : Subs := fun n => bif Nat.beq n 3 then some (loopV Try.prog t3 (e3 k)) else none
noncomputable def f (k : Nat) (a0 : Int) : T Rows :=
  .bnd (iter (law49_ready.s3 k a0) k ([], (0))) default fun r0 =>
  .ret r0
noncomputable def d (k : Nat) : Fun := mkFun [3] (fun as_ => f k (vInt (vN as_ 0))) default (fun r => .slice 57 r .open)
theorem hC (k : Nat) : CxOk (C k) := CxOk.nil
theorem l3 (k : Nat) : LoopOk Try.prog (S k) (lp (bodyF Go.Proofs.Try.f13) 0) := loopOk_mk (C := C k) (hC k) (Loops.all (n := 0) (by kernel_rfl) trivial) (lt := t3) (den := e3 k) (by kernel_rfl) (N := Int) (A := (Rows × Int)) (R := Rows)
 (fun n x => a3 n x) (fun n r => o3_0 n r) (fun n x => s3 k n x) k (fun d => (aI (aN d.a 1))) (fun d => ((aR (aN d.a 0)), (aI (aN d.a 2)))) (fun d y h => out1_eval h) (fun d => by kernel_rfl) (fun n x => by kernel_rfl) (fun n r => ⟨_, rfl⟩)
theorem ok (k : Nat) : FunOk Try.prog 13 (d k) := fun_mk (C := C k) (hC k) (S := S k) Try.func13 (by kernel_rfl) (by kernel_rfl) (Loops.all (n := 1) (by kernel_rfl) ⟨trivial, l3 k⟩) (fun as_ => by kernel_rfl)
end law49_ready
namespace law49_samples
noncomputable def C (k : Nat) : Cx := ⟨Try.prog, tab [], [], [], tab []⟩
noncomputable def t3 : LoopT := ⟨⟨26, [.tmp 3 23 64], [(3, .sl 64 (some 23)), (6, .sl 3 none), (7, .int .i64), (8, .int .i64)], [], [], []⟩, (fun | .exit 0 => some ⟨26, [], [(3, .sl 64 (some 23))], [], [], []⟩ | _ => none)⟩
noncomputable def s3 (k : Nat) (c0 : Rows) (c1 : Int) (x : (Rows × Int)) : T ((Rows × Int) ⊕ Rows) :=
  .test (iLt x.2 c1)
   (.test (iIn x.2 (rLen c0))
    (.test (sOk (sLen (bs [80, 111, 100, 47, 110, 47])) (sLen (sRows [[.int .u8 (iCv .u8 (iAdd .i64 (97) x.2))]])))
     (.test (rOk 40 (rLen x.1) (rLen [[.str (sCat (bs [80, 111, 100, 47, 110, 47]) (sRows [[.int .u8 (iCv .u8 (iAdd .i64 (97) x.2))]])), .str (bs [109]), .int .i64 (rInt (rAt c0 x.2) 0)]]))
      (.ret (.inl ((rCat x.1 [[.str (sCat (bs [80, 111, 100, 47, 110, 47]) (sRows [[.int .u8 (iCv .u8 (iAdd .i64 (97) x.2))]])), .str (bs [109]), .int .i64 (rInt (rAt c0 x.2) 0)]]), (iAdd .i64 x.2 (1)))))
      (.fail))
     (.fail))
    (.fail))
   (.ret (.inr x.1))
noncomputable def a3 (c0 : Rows) (c1 : Int) (x : (Rows × Int)) : Dt := ⟨[.r x.1, .r c0, .i c1, .i x.2], [], [], []⟩
noncomputable def o3_0 (c0 : Rows) (c1 : Int) (r : Rows) : X × Dt := (.exit 0, ⟨[.r r], [], [], []⟩)
noncomputable def e3 (k : Nat) (d : Dt) : T (X × Dt) := out1 (iter (s3 k (aR (aN d.a 1)) (aI (aN d.a 2))) k ((aR (aN d.a 0)), (aI (aN d.a 3)))) default (o3_0 (aR (aN d.a 1)) (aI (aN d.a 2)))
noncomputable def S (k : Nat) : Subs := fun n => bif Nat.beq n 3 then some (loopV Try.prog t3 (e3 k)) else none
noncomputable def f (k : Nat) (a0 : Rows) : T Rows :=
  .bnd (iter (law49_samples.s3 k a0 (rLen a0)) k ([], (0))) default fun r0 =>
  .ret r0
noncomputable def d (k : Nat) : Fun := mkFun [69] (fun as_ => f k (vRows (vN as_ 0))) default (fun r => .slice 64 r .open)
theorem hC (k : Nat) : CxOk (C k) := CxOk.nil
theorem l3 (k : Nat) : LoopOk Try.prog (S k) (lp (bodyF Go.Proofs.Try.f14) 0) := loopOk_mk (C := C k) (hC k) (Loops.all (n := 0) (by kernel_rfl) trivial) (lt := t3) (den := e3 k) (by kernel_rfl) (N := (Rows × Int)) (A := (Rows × Int)) (R := Rows)
 (fun n x => a3 n.1 n.2 x) (fun n r => o3_0 n.1 n.2 r) (fun n x => s3 k n.1 n.2 x) k (fun d => ((aR (aN d.a 1)), (aI (aN d.a 2)))) (fun d => ((aR (aN d.a 0)), (aI (aN d.a 3)))) (fun d y h => out1_eval h) (fun d => by kernel_rfl) (fun n x => by kernel_rfl) (fun n r => ⟨_, rfl⟩)
theorem ok (k : Nat) : FunOk Try.prog 14 (d k) := fun_mk (C := C k) (hC k) (S := S k) Try.func14 (by kernel_rfl) (by kernel_rfl) (Loops.all (n := 1) (by kernel_rfl) ⟨trivial, l3 k⟩) (fun as_ => by kernel_rfl)
end law49_samples
namespace slices_Clone_api_Metric_api_Metric
noncomputable def C (k : Nat) : Cx := ⟨Try.prog, tab [], [7], [], tab []⟩
noncomputable def f (k : Nat) (a0 : Rows) : T Rows :=
  .test (rOk 24 (0) (rLen a0))
   (.ret a0)
   (.fail)
noncomputable def d (k : Nat) : Fun := mkFun [28] (fun as_ => f k (vRows (vN as_ 0))) default (fun r => .slice 59 r .open)
noncomputable def fm (k : Nat) (a0 : Rows) : T (Rows × Int) :=
  .test (rOk 24 (0) (rLen a0))
   (.ret (a0, (rLen a0)))
   (.fail)
noncomputable def dm (k : Nat) : FunM := mkFunM 59 false [28] (fun _ as_ => fm k (vRows (vN as_ 0)))
theorem okM (k : Nat) : FunOkM Try.prog 18 (dm k) := clone_okM (C := C k) CxOk.nil (S := fun n => none) Try.func18 (by kernel_rfl) (by kernel_rfl) (Loops.all (n := 0) (by kernel_rfl) trivial) (t := 28) (el := 59) (by_ := 24) (by kernel_rfl) (fun es b => by kernel_rfl)
theorem ok (k : Nat) : FunOk Try.prog 18 (d k) := clone_ok (okM k)
end slices_Clone_api_Metric_api_Metric
namespace slices_Clone_api_Advice_api_Advice
noncomputable def C (k : Nat) : Cx := ⟨Try.prog, tab [], [7], [], tab []⟩
noncomputable def f (k : Nat) (a0 : Rows) : T Rows :=
  .test (rOk 16 (0) (rLen a0))
   (.ret a0)
   (.fail)
noncomputable def d (k : Nat) : Fun := mkFun [31] (fun as_ => f k (vRows (vN as_ 0))) default (fun r => .slice 42 r .open)
noncomputable def fm (k : Nat) (a0 : Rows) : T (Rows × Int) :=
  .test (rOk 16 (0) (rLen a0))
   (.ret (a0, (rLen a0)))
   (.fail)
noncomputable def dm (k : Nat) : FunM := mkFunM 42 false [31] (fun _ as_ => fm k (vRows (vN as_ 0)))
theorem okM (k : Nat) : FunOkM Try.prog 19 (dm k) := clone_okM (C := C k) CxOk.nil (S := fun n => none) Try.func19 (by kernel_rfl) (by kernel_rfl) (Loops.all (n := 0) (by kernel_rfl) trivial) (t := 31) (el := 42) (by_ := 16) (by kernel_rfl) (fun es b => by kernel_rfl)
theorem ok (k : Nat) : FunOk Try.prog 19 (d k) := clone_ok (okM k)
end slices_Clone_api_Advice_api_Advice
namespace autoscale_clamp
noncomputable def C (k : Nat) : Cx := ⟨Try.prog, tab [], [], [], tab []⟩
noncomputable def S (k : Nat) : Subs := fun n => none
noncomputable def f (k : Nat) (a0 : Int) (a1 : Int) (a2 : Int) : T Int :=
  .ret (iMin (iMax a0 a1) a2)
noncomputable def d (k : Nat) : Fun := mkFun [3, 3, 3] (fun as_ => f k (vInt (vN as_ 0)) (vInt (vN as_ 1)) (vInt (vN as_ 2))) default (fun r => .int .i64 r)
theorem hC (k : Nat) : CxOk (C k) := CxOk.nil
theorem ok (k : Nat) : FunOk Try.prog 15 (d k) := fun_mk (C := C k) (hC k) (S := S k) Try.func15 (by kernel_rfl) (by kernel_rfl) (Loops.all (n := 0) (by kernel_rfl) trivial) (fun as_ => by kernel_rfl)
end autoscale_clamp
namespace pod_Active
noncomputable def C (k : Nat) : Cx := ⟨Try.prog, tab [], [], [], tab []⟩
noncomputable def S (k : Nat) : Subs := fun n => none
noncomputable def f (k : Nat) (a0 : Row) : T Bool :=
  .ret (bIte (bIte (iEq (rInt a0 23) (0)) true (iEq (rInt a0 23) (1))) (bNot (rBool a0 7)) false)
noncomputable def d (k : Nat) : Fun := mkFun [57] (fun as_ => f k (vRow (vN as_ 0))) default (fun r => .bool r)
theorem hC (k : Nat) : CxOk (C k) := CxOk.nil
theorem ok (k : Nat) : FunOk Try.prog 36 (d k) := fun_mk (C := C k) (hC k) (S := S k) Try.func36 (by kernel_rfl) (by kernel_rfl) (Loops.all (n := 0) (by kernel_rfl) trivial) (fun as_ => by kernel_rfl)
end pod_Active
namespace meta_Key
noncomputable def C (k : Nat) : Cx := ⟨Try.prog, tab [], [], [], tab []⟩
noncomputable def S (k : Nat) : Subs := fun n => none
noncomputable def f (k : Nat) (a0 : ByteArray) (a1 : ByteArray) (a2 : ByteArray) : T ByteArray :=
  .test (sOk (sLen a0) (sLen (bs [47])))
   (.test (sOk (sLen (sCat a0 (bs [47]))) (sLen a1))
    (.test (sOk (sLen (sCat (sCat a0 (bs [47])) a1)) (sLen (bs [47])))
     (.test (sOk (sLen (sCat (sCat (sCat a0 (bs [47])) a1) (bs [47]))) (sLen a2))
      (.ret (sCat (sCat (sCat (sCat a0 (bs [47])) a1) (bs [47])) a2))
      (.fail))
     (.fail))
    (.fail))
   (.fail)
noncomputable def d (k : Nat) : Fun := mkFun [9, 9, 9] (fun as_ => f k (vStr (vN as_ 0)) (vStr (vN as_ 1)) (vStr (vN as_ 2))) default (fun r => .str r)
theorem hC (k : Nat) : CxOk (C k) := CxOk.nil
theorem ok (k : Nat) : FunOk Try.prog 42 (d k) := fun_mk (C := C k) (hC k) (S := S k) Try.func42 (by kernel_rfl) (by kernel_rfl) (Loops.all (n := 0) (by kernel_rfl) trivial) (fun as_ => by kernel_rfl)
end meta_Key
namespace meta_KeyOf
noncomputable def C (k : Nat) : Cx := ⟨Try.prog, tab [(42, meta_Key.d k)], [], [], tab []⟩
noncomputable def S (k : Nat) : Subs := fun n => none
noncomputable def f (k : Nat) (a0 : Row) : T ByteArray :=
  .bnd (meta_Key.f k (rStr a0 0) (rStr a0 1) (rStr a0 2)).eval default fun r0 =>
  .ret r0
noncomputable def d (k : Nat) : Fun := mkFun [27] (fun as_ => f k (vRow (vN as_ 0))) default (fun r => .str r)
theorem hC (k : Nat) : CxOk (C k) := CxOk.cons (p := (42, meta_Key.d k)) (meta_Key.ok k) (CxOk.nil)
theorem ok (k : Nat) : FunOk Try.prog 37 (d k) := fun_mk (C := C k) (hC k) (S := S k) Try.func37 (by kernel_rfl) (by kernel_rfl) (Loops.all (n := 0) (by kernel_rfl) trivial) (fun as_ => by kernel_rfl)
end meta_KeyOf
namespace autoscale_measure_1
noncomputable def C (k : Nat) : Cx := ⟨Try.prog, tab [], [], [], tab []⟩
noncomputable def S (k : Nat) : Subs := fun n => none
noncomputable def f (k : Nat) (a0 : Row) (a1 : Row) (a2 : Row) : T Bool :=
  .ret (bIte (sEq (rStr a0 0) (rStr a1 0)) (sEq (rStr a0 1) (rStr a2 0)) false)
noncomputable def d (k : Nat) : Fun := mkFun [64, .p 9, .p 9] (fun as_ => f k (vRow (vN as_ 0)) (vPtr (vN as_ 1)) (vPtr (vN as_ 2))) default (fun r => .bool r)
theorem hC (k : Nat) : CxOk (C k) := CxOk.nil
theorem ok (k : Nat) : FunOk Try.prog 39 (d k) := fun_mk (C := C k) (hC k) (S := S k) Try.func39 (by kernel_rfl) (by kernel_rfl) (Loops.all (n := 0) (by kernel_rfl) trivial) (fun as_ => by kernel_rfl)
end autoscale_measure_1
namespace slices_IndexFunc_api_Sample_api_Sample_c39
noncomputable def C (k : Nat) : Cx := ⟨Try.prog, tab [(39, autoscale_measure_1.d k)], [], [], tab []⟩
noncomputable def t2 : LoopT := ⟨⟨19, [], [(0, .sl 64 none), (1, .fn 39 [9, 9]), (7, .int .i64), (8, .int .i64)], [], [], []⟩, (fun | .ret => some ⟨19, [], [(4, .int .i64)], [], [], []⟩ | .exit 0 => some ⟨19, [], [], [], [], []⟩ | _ => none)⟩
noncomputable def s2 (k : Nat) (c0 : Rows) (c1 : Int) (x : (Row × Row × Int)) : T ((Row × Row × Int) ⊕ (Int ⊕ Unit)) :=
  .test (iLt x.2.2 c1)
   (.test (iIn x.2.2 (rLen c0))
    (.bnd (autoscale_measure_1.f k (et 64 (rAt c0 x.2.2)) [.str (rStr x.1 0)] [.str (rStr x.2.1 0)]).eval default fun r0 =>
    .test r0
     (.ret (.inr (.inl x.2.2)))
     (.ret (.inl ([.str (rStr x.1 0)], [.str (rStr x.2.1 0)], (iAdd .i64 x.2.2 (1))))))
    (.fail))
   (.ret (.inr (.inr ())))
noncomputable def a2 (c0 : Rows) (c1 : Int) (x : (Row × Row × Int)) : Dt := ⟨[.r c0, .c [(et 9 x.1), (et 9 x.2.1)], .i c1, .i x.2.2], [], [], []⟩
noncomputable def o2_0 (c0 : Rows) (c1 : Int) (r : Int) : X × Dt := (.ret, ⟨[.i r], [], [], []⟩)
noncomputable def o2_1 (c0 : Rows) (c1 : Int) (r : Unit) : X × Dt := (.exit 0, ⟨[], [], [], []⟩)
noncomputable def e2 (k : Nat) (d : Dt) : T (X × Dt) := out2 (iter (s2 k (aR (aN d.a 0)) (aI (aN d.a 2))) k (((aC (aN d.a 1)).getD 0 []), ((aC (aN d.a 1)).getD 1 []), (aI (aN d.a 3)))) (o2_0 (aR (aN d.a 0)) (aI (aN d.a 2))) (o2_1 (aR (aN d.a 0)) (aI (aN d.a 2)))
noncomputable def S (k : Nat) : Subs := fun n => bif Nat.beq n 2 then some (loopV Try.prog t2 (e2 k)) else none
noncomputable def f (k : Nat) (a0 : Rows) (a1 : Row) (a2 : Row) : T Int :=
  .cas (iter (slices_IndexFunc_api_Sample_api_Sample_c39.s2 k a0 (rLen a0)) k ([.str (rStr a1 0)], ([.str (rStr a2 0)], (0)))) (fun r0 =>
   .ret r0) (fun r1 =>
   .ret (-1))
noncomputable def d (k : Nat) : Fun := mkFun [35, .fn 39 [9, 9]] (fun as_ => f k (vRows (vN as_ 0)) (vPtr (vN (vCaps (vN as_ 1)) 0)) (vPtr (vN (vCaps (vN as_ 1)) 1))) default (fun r => .int .i64 r)
theorem hC (k : Nat) : CxOk (C k) := CxOk.cons (p := (39, autoscale_measure_1.d k)) (autoscale_measure_1.ok k) (CxOk.nil)
theorem l2 (k : Nat) : LoopOk Try.prog (S k) (lp (bodyF Go.Proofs.Try.f38) 0) := loopOk_mk (C := C k) (hC k) (Loops.all (n := 0) (by kernel_rfl) trivial) (lt := t2) (den := e2 k) (by kernel_rfl) (N := (Rows × Int)) (A := (Row × Row × Int)) (R := (Int ⊕ Unit))
 (fun n x => a2 n.1 n.2 x) (fun n r => Sum.elim (o2_0 n.1 n.2) (o2_1 n.1 n.2) r) (fun n x => s2 k n.1 n.2 x) k (fun d => ((aR (aN d.a 0)), (aI (aN d.a 2)))) (fun d => (((aC (aN d.a 1)).getD 0 []), ((aC (aN d.a 1)).getD 1 []), (aI (aN d.a 3)))) (fun d y h => out2_eval h) (fun d => by kernel_rfl) (fun n x => by kernel_rfl) (fun n r => by rcases r with r | r <;> exact ⟨_, rfl⟩)
theorem ok (k : Nat) : FunOk Try.prog 38 (d k) := fun_mk (C := C k) (hC k) (S := S k) Try.func38 (by kernel_rfl) (by kernel_rfl) (Loops.all (n := 1) (by kernel_rfl) ⟨trivial, l2 k⟩) (fun as_ => by kernel_rfl)
end slices_IndexFunc_api_Sample_api_Sample_c39
namespace autoscale_measure
noncomputable def C (k : Nat) : Cx := ⟨Try.prog, tab [(36, pod_Active.d k), (37, meta_KeyOf.d k), (40000038, slices_IndexFunc_api_Sample_api_Sample_c39.d k), (15, autoscale_clamp.d k)], [], [(6, 11), (1, 5), (2, 5), (3, 5), (4, 5), (5, 5), (6, 5)], tab []⟩
noncomputable def t2 : LoopT := ⟨⟨52, [], [(1, .sl 64 none), (5, .rptr 9), (6, .int .i64), (7, .int .i64), (8, .int .i64), (13, .sl 57 none), (14, .int .i64), (15, .int .i64)], [], [], []⟩, (fun | .exit 0 => some ⟨52, [], [(6, .int .i64), (7, .int .i64), (8, .int .i64)], [], [], []⟩ | _ => none)⟩
noncomputable def s2 (k : Nat) (c0 : Rows) (c1 : Rows) (c2 : Int) (x : (Row × Int × Int × Int × Int)) : T ((Row × Int × Int × Int × Int) ⊕ (Int × Int × Int)) :=
  .test (iLt x.2.2.2.2 c2)
   (.test (iIn x.2.2.2.2 (rLen c1))
    (.bnd (pod_Active.f k (et 57 (rAt c1 x.2.2.2.2))).eval default fun r0 =>
    .test (bIte (bNot r0) true (bNot (rBool (rAt c1 x.2.2.2.2) 24)))
     (.ret (.inl ([.str (rStr x.1 0)], x.2.1, x.2.2.1, x.2.2.2.1, (iAdd .i64 x.2.2.2.2 (1)))))
     (.bnd (meta_KeyOf.f k (et 27 (rAt c1 x.2.2.2.2))).eval default fun r1 =>
     .bnd (slices_IndexFunc_api_Sample_api_Sample_c39.f k c0 [.str r1] [.str (rStr x.1 0)]).eval default fun r2 =>
     .test (iLt r2 (0))
      (.ret (.inl ([.str (rStr x.1 0)], x.2.1, x.2.2.1, (iAdd .i64 x.2.2.2.1 (1)), (iAdd .i64 x.2.2.2.2 (1)))))
      (.test (iIn r2 (rLen c0))
       (.bnd (autoscale_clamp.f k (rInt (rAt c0 r2) 2) (0) (1000000000000000)).eval default fun r3 =>
       .ret (.inl ([.str (rStr x.1 0)], (iAdd .i64 x.2.1 (1)), (iAdd .i64 x.2.2.1 r3), x.2.2.2.1, (iAdd .i64 x.2.2.2.2 (1)))))
       (.fail))))
    (.fail))
   (.ret (.inr (x.2.1, x.2.2.1, x.2.2.2.1)))
noncomputable def a2 (c0 : Rows) (c1 : Rows) (c2 : Int) (x : (Row × Int × Int × Int × Int)) : Dt := ⟨[.r c0, .w (et 9 x.1), .i x.2.1, .i x.2.2.1, .i x.2.2.2.1, .r c1, .i c2, .i x.2.2.2.2], [], [], []⟩
noncomputable def o2_0 (c0 : Rows) (c1 : Rows) (c2 : Int) (r : (Int × Int × Int)) : X × Dt := (.exit 0, ⟨[.i r.1, .i r.2.1, .i r.2.2], [], [], []⟩)
noncomputable def e2 (k : Nat) (d : Dt) : T (X × Dt) := out1 (iter (s2 k (aR (aN d.a 0)) (aR (aN d.a 5)) (aI (aN d.a 6))) k ((aW (aN d.a 1)), (aI (aN d.a 2)), (aI (aN d.a 3)), (aI (aN d.a 4)), (aI (aN d.a 7)))) default (o2_0 (aR (aN d.a 0)) (aR (aN d.a 5)) (aI (aN d.a 6)))
noncomputable def S (k : Nat) : Subs := fun n => bif Nat.beq n 2 then some (loopV Try.prog t2 (e2 k)) else none
noncomputable def f (k : Nat) (a0 : Rows) (a1 : Rows) (a2 : ByteArray) : T (Int × Int × Int) :=
  .bnd (iter (autoscale_measure.s2 k a1 a0 (rLen a0)) k ([.str a2], ((0), ((0), ((0), (0)))))) default fun r0 =>
  .ret (r0.1, r0.2.1, r0.2.2)
noncomputable def d (k : Nat) : Fun := mkFun [34, 35, 9] (fun as_ => f k (vRows (vN as_ 0)) (vRows (vN as_ 1)) (vStr (vN as_ 2))) default (fun r => .tuple [.int .i64 r.1, .int .i64 r.2.1, .int .i64 r.2.2])
theorem hC (k : Nat) : CxOk (C k) := CxOk.cons (p := (36, pod_Active.d k)) (pod_Active.ok k) (CxOk.cons (p := (37, meta_KeyOf.d k)) (meta_KeyOf.ok k) (CxOk.consK (p := (40000038, slices_IndexFunc_api_Sample_api_Sample_c39.d k)) (by kernel_rfl) (slices_IndexFunc_api_Sample_api_Sample_c39.ok k) (CxOk.cons (p := (15, autoscale_clamp.d k)) (autoscale_clamp.ok k) (CxOk.nil))))
theorem l2 (k : Nat) : LoopOk Try.prog (S k) (lp (bodyF Go.Proofs.Try.f30) 0) := loopOk_mk (C := C k) (hC k) (Loops.all (n := 0) (by kernel_rfl) trivial) (lt := t2) (den := e2 k) (by kernel_rfl) (N := (Rows × Rows × Int)) (A := (Row × Int × Int × Int × Int)) (R := (Int × Int × Int))
 (fun n x => a2 n.1 n.2.1 n.2.2 x) (fun n r => o2_0 n.1 n.2.1 n.2.2 r) (fun n x => s2 k n.1 n.2.1 n.2.2 x) k (fun d => ((aR (aN d.a 0)), (aR (aN d.a 5)), (aI (aN d.a 6)))) (fun d => ((aW (aN d.a 1)), (aI (aN d.a 2)), (aI (aN d.a 3)), (aI (aN d.a 4)), (aI (aN d.a 7)))) (fun d y h => out1_eval h) (fun d => by kernel_rfl) (fun n x => by kernel_rfl) (fun n r => ⟨_, rfl⟩)
theorem ok (k : Nat) : FunOk Try.prog 30 (d k) := fun_mk (C := C k) (hC k) (S := S k) Try.func30 (by kernel_rfl) (by kernel_rfl) (Loops.all (n := 1) (by kernel_rfl) ⟨trivial, l2 k⟩) (fun as_ => by kernel_rfl)
end autoscale_measure
namespace autoscale_near
noncomputable def C (k : Nat) : Cx := ⟨Try.prog, tab [], [], [], tab []⟩
noncomputable def S (k : Nat) : Subs := fun n => none
noncomputable def f (k : Nat) (a0 : Int) (a1 : Int) (a2 : Int) : T Bool :=
  .ret (iLe (iMul .i64 (100) (iMax (iSub .i64 a0 a1) (iSub .i64 a1 a0))) (iMul .i64 a2 a1))
noncomputable def d (k : Nat) : Fun := mkFun [3, 3, 3] (fun as_ => f k (vInt (vN as_ 0)) (vInt (vN as_ 1)) (vInt (vN as_ 2))) default (fun r => .bool r)
theorem hC (k : Nat) : CxOk (C k) := CxOk.nil
theorem ok (k : Nat) : FunOk Try.prog 31 (d k) := fun_mk (C := C k) (hC k) (S := S k) Try.func31 (by kernel_rfl) (by kernel_rfl) (Loops.all (n := 0) (by kernel_rfl) trivial) (fun as_ => by kernel_rfl)
end autoscale_near
namespace autoscale_forMetric
noncomputable def C (k : Nat) : Cx := ⟨Try.prog, tab [(15, autoscale_clamp.d k), (30, autoscale_measure.d k), (31, autoscale_near.d k)], [], [], tab []⟩
noncomputable def S (k : Nat) : Subs := fun n => none
noncomputable def f (k : Nat) (a0 : Row) (a1 : Row) (a2 : Int) (a3 : Rows) (a4 : Rows) : T Int :=
  .bnd (autoscale_clamp.f k (rInt a0 18) (0) (100)).eval default fun r0 =>
  .bnd (autoscale_measure.f k a3 a4 (rStr a1 0)).eval default fun r1 =>
  .opt (bNot (iEq r1.1 (0))) (autoscale_near.f k r1.2.1 (iMul .i64 r1.1 (rInt a1 1)) r0).eval default fun r2 =>
  .test (bIte (iEq r1.1 (0)) true r2)
   (.ret a2)
   (.test (bNot (iLt (iMul .i64 r1.1 (rInt a1 1)) r1.2.1))
    (.bnd (autoscale_near.f k (iAdd .i64 r1.2.1 (iMul .i64 r1.2.2 (rInt a1 1))) (iAdd .i64 (iMul .i64 r1.1 (rInt a1 1)) (iMul .i64 r1.2.2 (rInt a1 1))) r0).eval default fun r3 =>
    .test (bIte r3 true (bNot (bEq (iLt (iMul .i64 r1.1 (rInt a1 1)) r1.2.1) (iLt (iAdd .i64 (iMul .i64 r1.1 (rInt a1 1)) (iMul .i64 r1.2.2 (rInt a1 1))) (iAdd .i64 r1.2.1 (iMul .i64 r1.2.2 (rInt a1 1)))))))
     (.ret a2)
     (.test (bNot (iEq (iAdd .i64 (iMul .i64 r1.1 (rInt a1 1)) (iMul .i64 r1.2.2 (rInt a1 1))) (0)))
      (.ret (iQuo .i64 (iSub .i64 (iAdd .i64 (iMul .i64 a2 (iAdd .i64 r1.2.1 (iMul .i64 r1.2.2 (rInt a1 1)))) (iAdd .i64 (iMul .i64 r1.1 (rInt a1 1)) (iMul .i64 r1.2.2 (rInt a1 1)))) (1)) (iAdd .i64 (iMul .i64 r1.1 (rInt a1 1)) (iMul .i64 r1.2.2 (rInt a1 1)))))
      (.fail)))
    (.bnd (autoscale_near.f k r1.2.1 (iAdd .i64 (iMul .i64 r1.1 (rInt a1 1)) (iMul .i64 r1.2.2 (rInt a1 1))) r0).eval default fun r4 =>
    .test (bIte r4 true (bNot (bEq (iLt (iMul .i64 r1.1 (rInt a1 1)) r1.2.1) (iLt (iAdd .i64 (iMul .i64 r1.1 (rInt a1 1)) (iMul .i64 r1.2.2 (rInt a1 1))) r1.2.1))))
     (.ret a2)
     (.test (bNot (iEq (iAdd .i64 (iMul .i64 r1.1 (rInt a1 1)) (iMul .i64 r1.2.2 (rInt a1 1))) (0)))
      (.ret (iQuo .i64 (iSub .i64 (iAdd .i64 (iMul .i64 a2 r1.2.1) (iAdd .i64 (iMul .i64 r1.1 (rInt a1 1)) (iMul .i64 r1.2.2 (rInt a1 1)))) (1)) (iAdd .i64 (iMul .i64 r1.1 (rInt a1 1)) (iMul .i64 r1.2.2 (rInt a1 1)))))
      (.fail))))
noncomputable def d (k : Nat) : Fun := mkFun [33, 59, 3, 34, 35] (fun as_ => f k (vRow (vN as_ 0)) (vRow (vN as_ 1)) (vInt (vN as_ 2)) (vRows (vN as_ 3)) (vRows (vN as_ 4))) default (fun r => .int .i64 r)
theorem hC (k : Nat) : CxOk (C k) := CxOk.cons (p := (15, autoscale_clamp.d k)) (autoscale_clamp.ok k) (CxOk.cons (p := (30, autoscale_measure.d k)) (autoscale_measure.ok k) (CxOk.cons (p := (31, autoscale_near.d k)) (autoscale_near.ok k) (CxOk.nil)))
theorem ok (k : Nat) : FunOk Try.prog 16 (d k) := fun_mk (C := C k) (hC k) (S := S k) Try.func16 (by kernel_rfl) (by kernel_rfl) (Loops.all (n := 0) (by kernel_rfl) trivial) (fun as_ => by kernel_rfl)
end autoscale_forMetric
namespace autoscale_bounds
noncomputable def C (k : Nat) : Cx := ⟨Try.prog, tab [(15, autoscale_clamp.d k)], [], [], tab []⟩
noncomputable def S (k : Nat) : Subs := fun n => none
noncomputable def f (k : Nat) (a0 : Row) : T (Int × Int) :=
  .bnd (autoscale_clamp.f k (rInt a0 15) (0) (40)).eval default fun r0 =>
  .bnd (autoscale_clamp.f k (rInt a0 16) r0 (40)).eval default fun r1 =>
  .ret (r0, r1)
noncomputable def d (k : Nat) : Fun := mkFun [33] (fun as_ => f k (vRow (vN as_ 0))) default (fun r => .tuple [.int .i64 r.1, .int .i64 r.2])
theorem hC (k : Nat) : CxOk (C k) := CxOk.cons (p := (15, autoscale_clamp.d k)) (autoscale_clamp.ok k) (CxOk.nil)
theorem ok (k : Nat) : FunOk Try.prog 17 (d k) := fun_mk (C := C k) (hC k) (S := S k) Try.func17 (by kernel_rfl) (by kernel_rfl) (Loops.all (n := 0) (by kernel_rfl) trivial) (fun as_ => by kernel_rfl)
end autoscale_bounds
namespace autoscale_Desired
noncomputable def C (k : Nat) : Cx := ⟨Try.prog, tab [(15, autoscale_clamp.d k), (16, autoscale_forMetric.d k), (17, autoscale_bounds.d k)], [], [], tab []⟩
noncomputable def t6 : LoopT := ⟨⟨56, [], [(2, .sl 57 none), (3, .sl 64 none), (4, .ptr 4 0), (9, .int .i64), (10, .int .i64), (11, .bool), (21, .sl 59 none), (22, .int .i64), (23, .int .i64)], [], [(4, 33)], []⟩, (fun | .exit 0 => some ⟨56, [], [(4, .ptr 4 0), (9, .int .i64), (10, .int .i64), (11, .bool)], [], [(4, 33)], []⟩ | _ => none)⟩
noncomputable def s6 (k : Nat) (c0 : Rows) (c1 : Rows) (c2 : Int) (c3 : Rows) (c4 : Int) (c5 : Row) (x : (Int × Bool × Int)) : T ((Int × Bool × Int) ⊕ (Int × Bool)) :=
  .test (iLt x.2.2 c4)
   (.test (iIn x.2.2 (rLen c3))
    (.test (bIte (iLe (1) (rInt (rAt c3 x.2.2) 1)) (iLe (rInt (rAt c3 x.2.2) 1) (1000000000000000)) false)
     (.bnd (autoscale_forMetric.f k (et 33 c5) (et 59 (rAt c3 x.2.2)) c2 c0 c1).eval default fun r0 =>
     .ret (.inl ((iMax x.1 r0), true, (iAdd .i64 x.2.2 (1)))))
     (.ret (.inl (x.1, x.2.1, (iAdd .i64 x.2.2 (1))))))
    (.fail))
   (.ret (.inr (x.1, x.2.1)))
noncomputable def a6 (c0 : Rows) (c1 : Rows) (c2 : Int) (c3 : Rows) (c4 : Int) (c5 : Row) (x : (Int × Bool × Int)) : Dt := ⟨[.r c0, .r c1, .u, .i c2, .i x.1, .b x.2.1, .r c3, .i c4, .i x.2.2], [], [et 33 c5], []⟩
noncomputable def o6_0 (c0 : Rows) (c1 : Rows) (c2 : Int) (c3 : Rows) (c4 : Int) (c5 : Row) (r : (Int × Bool)) : X × Dt := (.exit 0, ⟨[.u, .i c2, .i r.1, .b r.2], [], [(et 33 c5)], []⟩)
noncomputable def e6 (k : Nat) (d : Dt) : T (X × Dt) := out1 (iter (s6 k (aR (aN d.a 0)) (aR (aN d.a 1)) (aI (aN d.a 3)) (aR (aN d.a 6)) (aI (aN d.a 7)) (d.r.getD 0 [])) k ((aI (aN d.a 4)), (aB (aN d.a 5)), (aI (aN d.a 8)))) default (o6_0 (aR (aN d.a 0)) (aR (aN d.a 1)) (aI (aN d.a 3)) (aR (aN d.a 6)) (aI (aN d.a 7)) (d.r.getD 0 []))
noncomputable def S (k : Nat) : Subs := fun n => bif Nat.beq n 6 then some (loopV Try.prog t6 (e6 k)) else none
noncomputable def f (k : Nat) (a0 : Row) (a1 : Int) (a2 : Rows) (a3 : Rows) : T Int :=
  .bnd (autoscale_clamp.f k a1 (0) (40)).eval default fun r0 =>
  .test (iEq r0 (0))
   (.ret (0))
   (.bnd (iter (autoscale_Desired.s6 k a2 a3 r0 (rSl a0 17) (rLen (rSl a0 17)) (et 33 a0)) k ((0), (false, (0)))) default fun r1 =>
   .test (bNot r1.2)
    (.bnd (autoscale_bounds.f k (et 33 a0)).eval default fun r2 =>
    .bnd (autoscale_clamp.f k r0 r2.1 r2.2).eval default fun r3 =>
    .ret r3)
    (.bnd (autoscale_bounds.f k (et 33 a0)).eval default fun r4 =>
    .bnd (autoscale_clamp.f k r1.1 r4.1 r4.2).eval default fun r5 =>
    .ret r5))
noncomputable def d (k : Nat) : Fun := mkFun [33, 3, 34, 35] (fun as_ => f k (vRow (vN as_ 0)) (vInt (vN as_ 1)) (vRows (vN as_ 2)) (vRows (vN as_ 3))) default (fun r => .int .i64 r)
theorem hC (k : Nat) : CxOk (C k) := CxOk.cons (p := (15, autoscale_clamp.d k)) (autoscale_clamp.ok k) (CxOk.cons (p := (16, autoscale_forMetric.d k)) (autoscale_forMetric.ok k) (CxOk.cons (p := (17, autoscale_bounds.d k)) (autoscale_bounds.ok k) (CxOk.nil)))
theorem l6 (k : Nat) : LoopOk Try.prog (S k) (lp (bodyF Go.Proofs.Try.f7) 0) := loopOk_mk (C := C k) (hC k) (Loops.all (n := 0) (by kernel_rfl) trivial) (lt := t6) (den := e6 k) (by kernel_rfl) (N := (Rows × Rows × Int × Rows × Int × Row)) (A := (Int × Bool × Int)) (R := (Int × Bool))
 (fun n x => a6 n.1 n.2.1 n.2.2.1 n.2.2.2.1 n.2.2.2.2.1 n.2.2.2.2.2 x) (fun n r => o6_0 n.1 n.2.1 n.2.2.1 n.2.2.2.1 n.2.2.2.2.1 n.2.2.2.2.2 r) (fun n x => s6 k n.1 n.2.1 n.2.2.1 n.2.2.2.1 n.2.2.2.2.1 n.2.2.2.2.2 x) k (fun d => ((aR (aN d.a 0)), (aR (aN d.a 1)), (aI (aN d.a 3)), (aR (aN d.a 6)), (aI (aN d.a 7)), (d.r.getD 0 []))) (fun d => ((aI (aN d.a 4)), (aB (aN d.a 5)), (aI (aN d.a 8)))) (fun d y h => out1_eval h) (fun d => by kernel_rfl) (fun n x => by kernel_rfl) (fun n r => ⟨_, rfl⟩)
theorem ok (k : Nat) : FunOk Try.prog 7 (d k) := fun_mk (C := C k) (hC k) (S := S k) Try.func7 (by kernel_rfl) (by kernel_rfl) (Loops.all (n := 1) (by kernel_rfl) ⟨trivial, l6 k⟩) (fun as_ => by kernel_rfl)
end autoscale_Desired
namespace autoscale_Step_1
noncomputable def C (k : Nat) : Cx := ⟨Try.prog, tab [], [], [], tab []⟩
noncomputable def S (k : Nat) : Subs := fun n => none
noncomputable def f (k : Nat) (a0 : Row) (a1 : Row) : T Bool :=
  .ret (iLt (rInt a0 0) (rInt a1 0))
noncomputable def d (k : Nat) : Fun := mkFun [42, .p 3] (fun as_ => f k (vRow (vN as_ 0)) (vPtr (vN as_ 1))) default (fun r => .bool r)
theorem hC (k : Nat) : CxOk (C k) := CxOk.nil
theorem ok (k : Nat) : FunOk Try.prog 21 (d k) := fun_mk (C := C k) (hC k) (S := S k) Try.func21 (by kernel_rfl) (by kernel_rfl) (Loops.all (n := 0) (by kernel_rfl) trivial) (fun as_ => by kernel_rfl)
end autoscale_Step_1
namespace slices_IndexFunc_api_Advice_api_Advice_c21
noncomputable def C (k : Nat) : Cx := ⟨Try.prog, tab [(21, autoscale_Step_1.d k)], [], [], tab []⟩
noncomputable def t2 : LoopT := ⟨⟨19, [], [(0, .sl 42 none), (1, .fn 21 [3]), (7, .int .i64), (8, .int .i64)], [], [], []⟩, (fun | .ret => some ⟨19, [], [(4, .int .i64)], [], [], []⟩ | .exit 0 => some ⟨19, [], [], [], [], []⟩ | _ => none)⟩
noncomputable def s2 (k : Nat) (c0 : Rows) (c1 : Int) (x : (Row × Int)) : T ((Row × Int) ⊕ (Int ⊕ Unit)) :=
  .test (iLt x.2 c1)
   (.test (iIn x.2 (rLen c0))
    (.bnd (autoscale_Step_1.f k (et 42 (rAt c0 x.2)) [.int .i64 (rInt x.1 0)]).eval default fun r0 =>
    .test r0
     (.ret (.inr (.inl x.2)))
     (.ret (.inl ([.int .i64 (rInt x.1 0)], (iAdd .i64 x.2 (1))))))
    (.fail))
   (.ret (.inr (.inr ())))
noncomputable def a2 (c0 : Rows) (c1 : Int) (x : (Row × Int)) : Dt := ⟨[.r c0, .c [(et 3 x.1)], .i c1, .i x.2], [], [], []⟩
noncomputable def o2_0 (c0 : Rows) (c1 : Int) (r : Int) : X × Dt := (.ret, ⟨[.i r], [], [], []⟩)
noncomputable def o2_1 (c0 : Rows) (c1 : Int) (r : Unit) : X × Dt := (.exit 0, ⟨[], [], [], []⟩)
noncomputable def e2 (k : Nat) (d : Dt) : T (X × Dt) := out2 (iter (s2 k (aR (aN d.a 0)) (aI (aN d.a 2))) k (((aC (aN d.a 1)).getD 0 []), (aI (aN d.a 3)))) (o2_0 (aR (aN d.a 0)) (aI (aN d.a 2))) (o2_1 (aR (aN d.a 0)) (aI (aN d.a 2)))
noncomputable def S (k : Nat) : Subs := fun n => bif Nat.beq n 2 then some (loopV Try.prog t2 (e2 k)) else none
noncomputable def f (k : Nat) (a0 : Rows) (a1 : Row) : T Int :=
  .cas (iter (slices_IndexFunc_api_Advice_api_Advice_c21.s2 k a0 (rLen a0)) k ([.int .i64 (rInt a1 0)], (0))) (fun r0 =>
   .ret r0) (fun r1 =>
   .ret (-1))
noncomputable def d (k : Nat) : Fun := mkFun [31, .fn 21 [3]] (fun as_ => f k (vRows (vN as_ 0)) (vPtr (vN (vCaps (vN as_ 1)) 0))) default (fun r => .int .i64 r)
theorem hC (k : Nat) : CxOk (C k) := CxOk.cons (p := (21, autoscale_Step_1.d k)) (autoscale_Step_1.ok k) (CxOk.nil)
theorem l2 (k : Nat) : LoopOk Try.prog (S k) (lp (bodyF Go.Proofs.Try.f32) 0) := loopOk_mk (C := C k) (hC k) (Loops.all (n := 0) (by kernel_rfl) trivial) (lt := t2) (den := e2 k) (by kernel_rfl) (N := (Rows × Int)) (A := (Row × Int)) (R := (Int ⊕ Unit))
 (fun n x => a2 n.1 n.2 x) (fun n r => Sum.elim (o2_0 n.1 n.2) (o2_1 n.1 n.2) r) (fun n x => s2 k n.1 n.2 x) k (fun d => ((aR (aN d.a 0)), (aI (aN d.a 2)))) (fun d => (((aC (aN d.a 1)).getD 0 []), (aI (aN d.a 3)))) (fun d y h => out2_eval h) (fun d => by kernel_rfl) (fun n x => by kernel_rfl) (fun n r => by rcases r with r | r <;> exact ⟨_, rfl⟩)
theorem ok (k : Nat) : FunOk Try.prog 32 (d k) := fun_mk (C := C k) (hC k) (S := S k) Try.func32 (by kernel_rfl) (by kernel_rfl) (Loops.all (n := 1) (by kernel_rfl) ⟨trivial, l2 k⟩) (fun as_ => by kernel_rfl)
end slices_IndexFunc_api_Advice_api_Advice_c21
namespace slices_DeleteFunc_api_Advice_api_Advice_c21
noncomputable def C (k : Nat) : Cx := ⟨Try.prog, tab [(22000032, slices_IndexFunc_api_Advice_api_Advice_c21.d k), (21, autoscale_Step_1.d k)], [], [], tab []⟩
noncomputable def t5 : LoopT := ⟨⟨42, [], [(0, .aref 42 0), (1, .fn 21 [3]), (5, .int .i64), (6, .int .i64)], [], [], [(0, 42)]⟩, (fun | .exit 0 => some ⟨42, [], [(0, .aref 42 0), (5, .int .i64)], [], [], [(0, 42)]⟩ | _ => none)⟩
noncomputable def s5 (k : Nat) (c0 : Int) (x : (Row × Int × Int × Rows)) : T ((Row × Int × Int × Rows) ⊕ (Int × Rows)) :=
  .test (iLt x.2.2.1 c0)
   (.test (iIn x.2.2.1 c0)
    (.bnd (autoscale_Step_1.f k (et 42 (rAt x.2.2.2 x.2.2.1)) [.int .i64 (rInt x.1 0)]).eval default fun r0 =>
    .test (bNot r0)
     (.test (iIn x.2.1 c0)
      (.ret (.inl ([.int .i64 (rInt x.1 0)], (iAdd .i64 x.2.1 (1)), (iAdd .i64 x.2.2.1 (1)), (rSet x.2.2.2 x.2.1 (et 42 (rAt x.2.2.2 x.2.2.1))))))
      (.fail))
     (.ret (.inl ([.int .i64 (rInt x.1 0)], x.2.1, (iAdd .i64 x.2.2.1 (1)), x.2.2.2))))
    (.fail))
   (.ret (.inr (x.2.1, x.2.2.2)))
noncomputable def a5 (c0 : Int) (x : (Row × Int × Int × Rows)) : Dt := ⟨[.i c0, .c [(et 3 x.1)], .i x.2.1, .i x.2.2.1], [], [], [x.2.2.2]⟩
noncomputable def o5_0 (c0 : Int) (r : (Int × Rows)) : X × Dt := (.exit 0, ⟨[.i c0, .i r.1], [], [], [r.2]⟩)
noncomputable def e5 (k : Nat) (d : Dt) : T (X × Dt) := out1 (iter (s5 k (aI (aN d.a 0))) k (((aC (aN d.a 1)).getD 0 []), (aI (aN d.a 2)), (aI (aN d.a 3)), (d.m.getD 0 []))) default (o5_0 (aI (aN d.a 0)))
noncomputable def S (k : Nat) : Subs := fun n => bif Nat.beq n 5 then some (loopV Try.prog t5 (e5 k)) else none
noncomputable def f (k : Nat) (a0 : Rows) (a1 : Row) : T (Rows × Int) :=
  .bnd (slices_IndexFunc_api_Advice_api_Advice_c21.f k (rTake a0 (rLen a0)) [.int .i64 (rInt a1 0)]).eval default fun r0 =>
  .test (iEq r0 (-1))
   (.ret (a0, (rLen a0)))
   (.bnd (iter (slices_DeleteFunc_api_Advice_api_Advice_c21.s5 k (rLen a0)) k ([.int .i64 (rInt a1 0)], (r0, ((iAdd .i64 r0 (1)), a0)))) default fun r1 =>
   .test (iCut r1.1 (rLen a0) (rLen a0))
    (.test (iCut (0) r1.1 (rLen a0))
     (.ret ((rFill r1.2 r1.1 (iPlus r1.1 (iMinus (rLen a0) r1.1)) [.int .i64 (0), .int .i64 (0)]), r1.1))
     (.fail))
    (.fail))
noncomputable def dm (k : Nat) : FunM := mkFunM 42 true [.fn 21 [3]] (fun es_ as_ => f k es_ (vPtr (vN (vCaps (vN as_ 0)) 0)))
theorem hC (k : Nat) : CxOk (C k) := CxOk.consK (p := (22000032, slices_IndexFunc_api_Advice_api_Advice_c21.d k)) (by kernel_rfl) (slices_IndexFunc_api_Advice_api_Advice_c21.ok k) (CxOk.cons (p := (21, autoscale_Step_1.d k)) (autoscale_Step_1.ok k) (CxOk.nil))
theorem l5 (k : Nat) : LoopOk Try.prog (S k) (lp (bodyF Go.Proofs.Try.f20) 0) := loopOk_mk (C := C k) (hC k) (Loops.all (n := 0) (by kernel_rfl) trivial) (lt := t5) (den := e5 k) (by kernel_rfl) (N := Int) (A := (Row × Int × Int × Rows)) (R := (Int × Rows))
 (fun n x => a5 n x) (fun n r => o5_0 n r) (fun n x => s5 k n x) k (fun d => (aI (aN d.a 0))) (fun d => (((aC (aN d.a 1)).getD 0 []), (aI (aN d.a 2)), (aI (aN d.a 3)), (d.m.getD 0 []))) (fun d y h => out1_eval h) (fun d => by kernel_rfl) (fun n x => by kernel_rfl) (fun n r => ⟨_, rfl⟩)
theorem okM (k : Nat) : FunOkM Try.prog 20 (dm k) := fun_mkM (C := C k) (hC k) (S := S k) Try.func20 (by kernel_rfl) (by kernel_rfl) (Loops.all (n := 1) (by kernel_rfl) ⟨trivial, l5 k⟩) (fun es_ as_ => by kernel_rfl)
end slices_DeleteFunc_api_Advice_api_Advice_c21
namespace autoscale_target
noncomputable def C (k : Nat) : Cx := ⟨Try.prog, tab [(15, autoscale_clamp.d k)], [], [], tab []⟩
noncomputable def t3 : LoopT := ⟨⟨54, [], [(1, .int .i64), (2, .int .i64), (3, .ptr 3 0), (7, .int .i64), (8, .int .i64), (12, .sl 42 none), (13, .int .i64), (14, .int .i64)], [], [(3, 33)], []⟩, (fun | .exit 0 => some ⟨54, [], [(1, .int .i64), (7, .int .i64), (8, .int .i64)], [], [], []⟩ | _ => none)⟩
noncomputable def s3 (k : Nat) (c0 : Int) (c1 : Int) (c2 : Rows) (c3 : Int) (c4 : Row) (x : (Int × Int × Int)) : T ((Int × Int × Int) ⊕ (Int × Int)) :=
  .test (iLt x.2.2 c3)
   (.test (iIn x.2.2 (rLen c2))
    (.bnd (autoscale_clamp.f k (rInt c4 19) (0) (1000000000000)).eval default fun r0 =>
    .test (iLe (iSub .i64 c1 r0) (rInt (rAt c2 x.2.2) 0))
     (.bnd (autoscale_clamp.f k (rInt c4 20) (0) (1000000000000)).eval default fun r1 =>
     .test (iLe (iSub .i64 c1 r1) (rInt (rAt c2 x.2.2) 0))
      (.ret (.inl ((iMin x.1 (rInt (rAt c2 x.2.2) 1)), (iMax x.2.1 (rInt (rAt c2 x.2.2) 1)), (iAdd .i64 x.2.2 (1)))))
      (.ret (.inl ((iMin x.1 (rInt (rAt c2 x.2.2) 1)), x.2.1, (iAdd .i64 x.2.2 (1))))))
     (.bnd (autoscale_clamp.f k (rInt c4 20) (0) (1000000000000)).eval default fun r2 =>
     .test (iLe (iSub .i64 c1 r2) (rInt (rAt c2 x.2.2) 0))
      (.ret (.inl (x.1, (iMax x.2.1 (rInt (rAt c2 x.2.2) 1)), (iAdd .i64 x.2.2 (1)))))
      (.ret (.inl (x.1, x.2.1, (iAdd .i64 x.2.2 (1)))))))
    (.fail))
   (.ret (.inr (x.1, x.2.1)))
noncomputable def a3 (c0 : Int) (c1 : Int) (c2 : Rows) (c3 : Int) (c4 : Row) (x : (Int × Int × Int)) : Dt := ⟨[.i c0, .i c1, .u, .i x.1, .i x.2.1, .r c2, .i c3, .i x.2.2], [], [et 33 c4], []⟩
noncomputable def o3_0 (c0 : Int) (c1 : Int) (c2 : Rows) (c3 : Int) (c4 : Row) (r : (Int × Int)) : X × Dt := (.exit 0, ⟨[.i c0, .i r.1, .i r.2], [], [], []⟩)
noncomputable def e3 (k : Nat) (d : Dt) : T (X × Dt) := out1 (iter (s3 k (aI (aN d.a 0)) (aI (aN d.a 1)) (aR (aN d.a 5)) (aI (aN d.a 6)) (d.r.getD 0 [])) k ((aI (aN d.a 3)), (aI (aN d.a 4)), (aI (aN d.a 7)))) default (o3_0 (aI (aN d.a 0)) (aI (aN d.a 1)) (aR (aN d.a 5)) (aI (aN d.a 6)) (d.r.getD 0 []))
noncomputable def S (k : Nat) : Subs := fun n => bif Nat.beq n 3 then some (loopV Try.prog t3 (e3 k)) else none
noncomputable def f (k : Nat) (a0 : Row) (a1 : Int) (a2 : Int) : T Int :=
  .bnd (iter (autoscale_target.s3 k a1 a2 (rSl a0 26) (rLen (rSl a0 26)) (et 33 a0)) k ((1000000000000000), ((-1000000000000000), (0)))) default fun r0 =>
  .test (iLt a1 r0.1)
   (.ret r0.1)
   (.test (iLt r0.2 a1)
    (.ret r0.2)
    (.ret a1))
noncomputable def d (k : Nat) : Fun := mkFun [33, 3, 3] (fun as_ => f k (vRow (vN as_ 0)) (vInt (vN as_ 1)) (vInt (vN as_ 2))) default (fun r => .int .i64 r)
theorem hC (k : Nat) : CxOk (C k) := CxOk.cons (p := (15, autoscale_clamp.d k)) (autoscale_clamp.ok k) (CxOk.nil)
theorem l3 (k : Nat) : LoopOk Try.prog (S k) (lp (bodyF Go.Proofs.Try.f22) 0) := loopOk_mk (C := C k) (hC k) (Loops.all (n := 0) (by kernel_rfl) trivial) (lt := t3) (den := e3 k) (by kernel_rfl) (N := (Int × Int × Rows × Int × Row)) (A := (Int × Int × Int)) (R := (Int × Int))
 (fun n x => a3 n.1 n.2.1 n.2.2.1 n.2.2.2.1 n.2.2.2.2 x) (fun n r => o3_0 n.1 n.2.1 n.2.2.1 n.2.2.2.1 n.2.2.2.2 r) (fun n x => s3 k n.1 n.2.1 n.2.2.1 n.2.2.2.1 n.2.2.2.2 x) k (fun d => ((aI (aN d.a 0)), (aI (aN d.a 1)), (aR (aN d.a 5)), (aI (aN d.a 6)), (d.r.getD 0 []))) (fun d => ((aI (aN d.a 3)), (aI (aN d.a 4)), (aI (aN d.a 7)))) (fun d y h => out1_eval h) (fun d => by kernel_rfl) (fun n x => by kernel_rfl) (fun n r => ⟨_, rfl⟩)
theorem ok (k : Nat) : FunOk Try.prog 22 (d k) := fun_mk (C := C k) (hC k) (S := S k) Try.func22 (by kernel_rfl) (by kernel_rfl) (Loops.all (n := 1) (by kernel_rfl) ⟨trivial, l3 k⟩) (fun as_ => by kernel_rfl)
end autoscale_target
namespace quantity_clamp
noncomputable def C (k : Nat) : Cx := ⟨Try.prog, tab [], [], [], tab []⟩
noncomputable def S (k : Nat) : Subs := fun n => none
noncomputable def f (k : Nat) (a0 : Int) : T Int :=
  .ret (iMin (iMax a0 (0)) (1000000000000000))
noncomputable def d (k : Nat) : Fun := mkFun [3] (fun as_ => f k (vInt (vN as_ 0))) default (fun r => .int .i64 r)
theorem hC (k : Nat) : CxOk (C k) := CxOk.nil
theorem ok (k : Nat) : FunOk Try.prog 33 (d k) := fun_mk (C := C k) (hC k) (S := S k) Try.func33 (by kernel_rfl) (by kernel_rfl) (Loops.all (n := 0) (by kernel_rfl) trivial) (fun as_ => by kernel_rfl)
end quantity_clamp
namespace quantity_Resolve
noncomputable def C (k : Nat) : Cx := ⟨Try.prog, tab [(33, quantity_clamp.d k)], [], [], tab []⟩
noncomputable def S (k : Nat) : Subs := fun n => none
noncomputable def f (k : Nat) (a0 : Row) (a1 : Int) (a2 : Bool) : T Int :=
  .bnd (quantity_clamp.f k (rInt a0 1)).eval default fun r0 =>
  .bnd (quantity_clamp.f k a1).eval default fun r1 =>
  .test (bNot (rBool a0 0))
   (.ret r0)
   (.test (bNot (iEq (100) (0)))
    (.test (bNot (iEq (100) (0)))
     (.test (bImp (iLt (0) (iQuo .i64 r1 (100))) (bNot (iEq (iQuo .i64 r1 (100)) (0))))
      (.test (bIte (iLt (0) (iQuo .i64 r1 (100))) (iLt (iQuo .i64 (1000000000000000) (iQuo .i64 r1 (100))) r0) false)
       (.ret (1000000000000000))
       (.test a2
        (.test (bNot (iEq (100) (0)))
         (.ret (iMin (iAdd .i64 (iMul .i64 (iQuo .i64 r1 (100)) r0) (iQuo .i64 (iAdd .i64 (iMul .i64 (iRem r1 (100)) r0) (99)) (100))) (1000000000000000)))
         (.fail))
        (.test (bNot (iEq (100) (0)))
         (.ret (iMin (iAdd .i64 (iMul .i64 (iQuo .i64 r1 (100)) r0) (iQuo .i64 (iMul .i64 (iRem r1 (100)) r0) (100))) (1000000000000000)))
         (.fail))))
      (.fail))
     (.fail))
    (.fail))
noncomputable def d (k : Nat) : Fun := mkFun [30, 3, 4] (fun as_ => f k (vRow (vN as_ 0)) (vInt (vN as_ 1)) (vBool (vN as_ 2))) default (fun r => .int .i64 r)
theorem hC (k : Nat) : CxOk (C k) := CxOk.cons (p := (33, quantity_clamp.d k)) (quantity_clamp.ok k) (CxOk.nil)
theorem ok (k : Nat) : FunOk Try.prog 23 (d k) := fun_mk (C := C k) (hC k) (S := S k) Try.func23 (by kernel_rfl) (by kernel_rfl) (Loops.all (n := 0) (by kernel_rfl) trivial) (fun as_ => by kernel_rfl)
end quantity_Resolve
namespace autoscale_Step
noncomputable def C (k : Nat) : Cx := ⟨Try.prog, tab [(18, slices_Clone_api_Metric_api_Metric.d k), (19, slices_Clone_api_Advice_api_Advice.d k), (15, autoscale_clamp.d k), (7, autoscale_Desired.d k), (22, autoscale_target.d k), (23, quantity_Resolve.d k)], [22], [(6, 14), (7, 14), (4, 22), (11, 22)], tab [(18, slices_Clone_api_Metric_api_Metric.dm k), (19, slices_Clone_api_Advice_api_Advice.dm k), (22000020, slices_DeleteFunc_api_Advice_api_Advice_c21.dm k)]⟩
noncomputable def S (k : Nat) : Subs := fun n => none
noncomputable def f (k : Nat) (a0 : Row) (a1 : Int) (a2 : Rows) (a3 : Rows) (a4 : Int) : T (Row × Int) :=
  .bnd (slices_Clone_api_Metric_api_Metric.f k (rSl a0 17)).eval default fun r0 =>
  .bnd (slices_Clone_api_Advice_api_Advice.fm k (rSl a0 26)).eval default fun r1 =>
  .bnd (autoscale_clamp.f k a1 (0) (40)).eval default fun r2 =>
  .bnd (autoscale_clamp.f k a4 (0) (1000000000000)).eval default fun r3 =>
  .test (iEq r2 (0))
   (.ret ((rJ [[.str (rStr a0 0), .str (rStr a0 1), .str (rStr a0 2), .int .i64 (rInt a0 3), .int .i64 (rInt a0 4), .int .i64 (rInt a0 5), .int .i64 (rInt a0 6)], (eo 30 a0 7), [.slice 94 (rSl a0 9) .open, .slice 96 (rSl a0 10) .open, .slice 9 (rSl a0 11) .open, .slice 98 (rSl a0 12) .open, .str (rStr a0 13), .str (rStr a0 14), .int .i64 (rInt a0 15), .int .i64 (rInt a0 16), .slice 59 r0 .open, .int .i64 (rInt a0 18), .int .i64 (rInt a0 19), .int .i64 (rInt a0 20)], (eo 30 a0 21), (eo 30 a0 23), [.int .i64 (rInt a0 25), .slice 42 (rTake r1.1 r1.2) .open, .int .i64 (rInt a0 27)]]), (0)))
   (.bnd (autoscale_clamp.f k (rInt a0 19) (0) (1000000000000)).eval default fun r4 =>
   .bnd (autoscale_clamp.f k (rInt a0 20) (0) (1000000000000)).eval default fun r5 =>
   .bnd (autoscale_Desired.f k (rJ [[.str (rStr a0 0), .str (rStr a0 1), .str (rStr a0 2), .int .i64 (rInt a0 3), .int .i64 (rInt a0 4), .int .i64 (rInt a0 5), .int .i64 (rInt a0 6)], (eo 30 a0 7), [.slice 94 (rSl a0 9) .open, .slice 96 (rSl a0 10) .open, .slice 9 (rSl a0 11) .open, .slice 98 (rSl a0 12) .open, .str (rStr a0 13), .str (rStr a0 14), .int .i64 (rInt a0 15), .int .i64 (rInt a0 16), .slice 59 r0 .open, .int .i64 (rInt a0 18), .int .i64 (rInt a0 19), .int .i64 (rInt a0 20)], (eo 30 a0 21), (eo 30 a0 23), [.int .i64 (rInt a0 25), .slice 42 (rTake r1.1 r1.2) .open, .int .i64 (rInt a0 27)]]) a1 a2 a3).eval default fun r6 =>
   .test (rOk 16 r1.2 (rLen [[.int .i64 r3, .int .i64 r6]]))
    (.bnd (slices_DeleteFunc_api_Advice_api_Advice_c21.f k (rTake (rCat (rTake r1.1 r1.2) [[.int .i64 r3, .int .i64 r6]]) (rLen (rCat (rTake r1.1 r1.2) [[.int .i64 r3, .int .i64 r6]]))) [.int .i64 (iSub .i64 r3 (iMax r4 r5))]).eval default fun r7 =>
    .test (iLt (64) r7.2)
     (.test (iCut (iSub .i64 r7.2 (64)) r7.2 r7.2)
      (.bnd (autoscale_target.f k (rJ [[.str (rStr a0 0), .str (rStr a0 1), .str (rStr a0 2), .int .i64 (rInt a0 3), .int .i64 (rInt a0 4), .int .i64 (rInt a0 5), .int .i64 (rInt a0 6)], (eo 30 a0 7), [.slice 94 (rSl a0 9) .open, .slice 96 (rSl a0 10) .open, .slice 9 (rSl a0 11) .open, .slice 98 (rSl a0 12) .open, .str (rStr a0 13), .str (rStr a0 14), .int .i64 (rInt a0 15), .int .i64 (rInt a0 16), .slice 59 r0 .open, .int .i64 (rInt a0 18), .int .i64 (rInt a0 19), .int .i64 (rInt a0 20)], (eo 30 a0 21), (eo 30 a0 23), [.int .i64 (rInt a0 25), .slice 42 (rCut r7.1 (iSub .i64 r7.2 (64)) (iPlus (iSub .i64 r7.2 (64)) (iMinus r7.2 (iSub .i64 r7.2 (64))))) .open, .int .i64 (rInt a0 27)]]) r2 r3).eval default fun r8 =>
      .test (bNot (iEq r8 r2))
       (.opt (iLt (0) (rInt a0 27)) (autoscale_clamp.f k (rInt a0 27) (0) (1000000000000)).eval default fun r9 =>
       .opt (iLt (0) (rInt a0 27)) (autoscale_clamp.f k (rInt a0 25) (0) (1000000000000)).eval default fun r10 =>
       .test (bIte (iLt (0) (rInt a0 27)) (iLt r3 (iAdd .i64 r9 r10)) false)
        (.ret ((rJ [[.str (rStr a0 0), .str (rStr a0 1), .str (rStr a0 2), .int .i64 (rInt a0 3), .int .i64 (rInt a0 4), .int .i64 (rInt a0 5), .int .i64 (rInt a0 6)], (eo 30 a0 7), [.slice 94 (rSl a0 9) .open, .slice 96 (rSl a0 10) .open, .slice 9 (rSl a0 11) .open, .slice 98 (rSl a0 12) .open, .str (rStr a0 13), .str (rStr a0 14), .int .i64 (rInt a0 15), .int .i64 (rInt a0 16), .slice 59 r0 .open, .int .i64 (rInt a0 18), .int .i64 (rInt a0 19), .int .i64 (rInt a0 20)], (eo 30 a0 21), (eo 30 a0 23), [.int .i64 (rInt a0 25), .slice 42 (rCut r7.1 (iSub .i64 r7.2 (64)) (iPlus (iSub .i64 r7.2 (64)) (iMinus r7.2 (iSub .i64 r7.2 (64))))) .open, .int .i64 (rInt a0 27)]]), r2))
        (.bnd (quantity_Resolve.f k (eo 30 a0 23) r2 true).eval default fun r11 =>
        .bnd (quantity_Resolve.f k (eo 30 a0 21) r2 true).eval default fun r12 =>
        .bnd (autoscale_clamp.f k r8 (iSub .i64 r2 r11) (iAdd .i64 r2 r12)).eval default fun r13 =>
        .test (bNot (iEq r13 r2))
         (.ret ((rJ [[.str (rStr a0 0), .str (rStr a0 1), .str (rStr a0 2), .int .i64 (rInt a0 3), .int .i64 (rInt a0 4), .int .i64 (rInt a0 5), .int .i64 (rInt a0 6)], (eo 30 a0 7), [.slice 94 (rSl a0 9) .open, .slice 96 (rSl a0 10) .open, .slice 9 (rSl a0 11) .open, .slice 98 (rSl a0 12) .open, .str (rStr a0 13), .str (rStr a0 14), .int .i64 (rInt a0 15), .int .i64 (rInt a0 16), .slice 59 r0 .open, .int .i64 (rInt a0 18), .int .i64 (rInt a0 19), .int .i64 (rInt a0 20)], (eo 30 a0 21), (eo 30 a0 23), [.int .i64 (rInt a0 25), .slice 42 (rCut r7.1 (iSub .i64 r7.2 (64)) (iPlus (iSub .i64 r7.2 (64)) (iMinus r7.2 (iSub .i64 r7.2 (64))))) .open, .int .i64 r3]]), r13))
         (.ret ((rJ [[.str (rStr a0 0), .str (rStr a0 1), .str (rStr a0 2), .int .i64 (rInt a0 3), .int .i64 (rInt a0 4), .int .i64 (rInt a0 5), .int .i64 (rInt a0 6)], (eo 30 a0 7), [.slice 94 (rSl a0 9) .open, .slice 96 (rSl a0 10) .open, .slice 9 (rSl a0 11) .open, .slice 98 (rSl a0 12) .open, .str (rStr a0 13), .str (rStr a0 14), .int .i64 (rInt a0 15), .int .i64 (rInt a0 16), .slice 59 r0 .open, .int .i64 (rInt a0 18), .int .i64 (rInt a0 19), .int .i64 (rInt a0 20)], (eo 30 a0 21), (eo 30 a0 23), [.int .i64 (rInt a0 25), .slice 42 (rCut r7.1 (iSub .i64 r7.2 (64)) (iPlus (iSub .i64 r7.2 (64)) (iMinus r7.2 (iSub .i64 r7.2 (64))))) .open, .int .i64 (rInt a0 27)]]), r13))))
       (.test (bNot (iEq r8 r2))
        (.ret ((rJ [[.str (rStr a0 0), .str (rStr a0 1), .str (rStr a0 2), .int .i64 (rInt a0 3), .int .i64 (rInt a0 4), .int .i64 (rInt a0 5), .int .i64 (rInt a0 6)], (eo 30 a0 7), [.slice 94 (rSl a0 9) .open, .slice 96 (rSl a0 10) .open, .slice 9 (rSl a0 11) .open, .slice 98 (rSl a0 12) .open, .str (rStr a0 13), .str (rStr a0 14), .int .i64 (rInt a0 15), .int .i64 (rInt a0 16), .slice 59 r0 .open, .int .i64 (rInt a0 18), .int .i64 (rInt a0 19), .int .i64 (rInt a0 20)], (eo 30 a0 21), (eo 30 a0 23), [.int .i64 (rInt a0 25), .slice 42 (rCut r7.1 (iSub .i64 r7.2 (64)) (iPlus (iSub .i64 r7.2 (64)) (iMinus r7.2 (iSub .i64 r7.2 (64))))) .open, .int .i64 r3]]), r8))
        (.ret ((rJ [[.str (rStr a0 0), .str (rStr a0 1), .str (rStr a0 2), .int .i64 (rInt a0 3), .int .i64 (rInt a0 4), .int .i64 (rInt a0 5), .int .i64 (rInt a0 6)], (eo 30 a0 7), [.slice 94 (rSl a0 9) .open, .slice 96 (rSl a0 10) .open, .slice 9 (rSl a0 11) .open, .slice 98 (rSl a0 12) .open, .str (rStr a0 13), .str (rStr a0 14), .int .i64 (rInt a0 15), .int .i64 (rInt a0 16), .slice 59 r0 .open, .int .i64 (rInt a0 18), .int .i64 (rInt a0 19), .int .i64 (rInt a0 20)], (eo 30 a0 21), (eo 30 a0 23), [.int .i64 (rInt a0 25), .slice 42 (rCut r7.1 (iSub .i64 r7.2 (64)) (iPlus (iSub .i64 r7.2 (64)) (iMinus r7.2 (iSub .i64 r7.2 (64))))) .open, .int .i64 (rInt a0 27)]]), r8))))
      (.fail))
     (.bnd (autoscale_target.f k (rJ [[.str (rStr a0 0), .str (rStr a0 1), .str (rStr a0 2), .int .i64 (rInt a0 3), .int .i64 (rInt a0 4), .int .i64 (rInt a0 5), .int .i64 (rInt a0 6)], (eo 30 a0 7), [.slice 94 (rSl a0 9) .open, .slice 96 (rSl a0 10) .open, .slice 9 (rSl a0 11) .open, .slice 98 (rSl a0 12) .open, .str (rStr a0 13), .str (rStr a0 14), .int .i64 (rInt a0 15), .int .i64 (rInt a0 16), .slice 59 r0 .open, .int .i64 (rInt a0 18), .int .i64 (rInt a0 19), .int .i64 (rInt a0 20)], (eo 30 a0 21), (eo 30 a0 23), [.int .i64 (rInt a0 25), .slice 42 (rTake r7.1 r7.2) .open, .int .i64 (rInt a0 27)]]) r2 r3).eval default fun r14 =>
     .test (bNot (iEq r14 r2))
      (.opt (iLt (0) (rInt a0 27)) (autoscale_clamp.f k (rInt a0 27) (0) (1000000000000)).eval default fun r15 =>
      .opt (iLt (0) (rInt a0 27)) (autoscale_clamp.f k (rInt a0 25) (0) (1000000000000)).eval default fun r16 =>
      .test (bIte (iLt (0) (rInt a0 27)) (iLt r3 (iAdd .i64 r15 r16)) false)
       (.ret ((rJ [[.str (rStr a0 0), .str (rStr a0 1), .str (rStr a0 2), .int .i64 (rInt a0 3), .int .i64 (rInt a0 4), .int .i64 (rInt a0 5), .int .i64 (rInt a0 6)], (eo 30 a0 7), [.slice 94 (rSl a0 9) .open, .slice 96 (rSl a0 10) .open, .slice 9 (rSl a0 11) .open, .slice 98 (rSl a0 12) .open, .str (rStr a0 13), .str (rStr a0 14), .int .i64 (rInt a0 15), .int .i64 (rInt a0 16), .slice 59 r0 .open, .int .i64 (rInt a0 18), .int .i64 (rInt a0 19), .int .i64 (rInt a0 20)], (eo 30 a0 21), (eo 30 a0 23), [.int .i64 (rInt a0 25), .slice 42 (rTake r7.1 r7.2) .open, .int .i64 (rInt a0 27)]]), r2))
       (.bnd (quantity_Resolve.f k (eo 30 a0 23) r2 true).eval default fun r17 =>
       .bnd (quantity_Resolve.f k (eo 30 a0 21) r2 true).eval default fun r18 =>
       .bnd (autoscale_clamp.f k r14 (iSub .i64 r2 r17) (iAdd .i64 r2 r18)).eval default fun r19 =>
       .test (bNot (iEq r19 r2))
        (.ret ((rJ [[.str (rStr a0 0), .str (rStr a0 1), .str (rStr a0 2), .int .i64 (rInt a0 3), .int .i64 (rInt a0 4), .int .i64 (rInt a0 5), .int .i64 (rInt a0 6)], (eo 30 a0 7), [.slice 94 (rSl a0 9) .open, .slice 96 (rSl a0 10) .open, .slice 9 (rSl a0 11) .open, .slice 98 (rSl a0 12) .open, .str (rStr a0 13), .str (rStr a0 14), .int .i64 (rInt a0 15), .int .i64 (rInt a0 16), .slice 59 r0 .open, .int .i64 (rInt a0 18), .int .i64 (rInt a0 19), .int .i64 (rInt a0 20)], (eo 30 a0 21), (eo 30 a0 23), [.int .i64 (rInt a0 25), .slice 42 (rTake r7.1 r7.2) .open, .int .i64 r3]]), r19))
        (.ret ((rJ [[.str (rStr a0 0), .str (rStr a0 1), .str (rStr a0 2), .int .i64 (rInt a0 3), .int .i64 (rInt a0 4), .int .i64 (rInt a0 5), .int .i64 (rInt a0 6)], (eo 30 a0 7), [.slice 94 (rSl a0 9) .open, .slice 96 (rSl a0 10) .open, .slice 9 (rSl a0 11) .open, .slice 98 (rSl a0 12) .open, .str (rStr a0 13), .str (rStr a0 14), .int .i64 (rInt a0 15), .int .i64 (rInt a0 16), .slice 59 r0 .open, .int .i64 (rInt a0 18), .int .i64 (rInt a0 19), .int .i64 (rInt a0 20)], (eo 30 a0 21), (eo 30 a0 23), [.int .i64 (rInt a0 25), .slice 42 (rTake r7.1 r7.2) .open, .int .i64 (rInt a0 27)]]), r19))))
      (.test (bNot (iEq r14 r2))
       (.ret ((rJ [[.str (rStr a0 0), .str (rStr a0 1), .str (rStr a0 2), .int .i64 (rInt a0 3), .int .i64 (rInt a0 4), .int .i64 (rInt a0 5), .int .i64 (rInt a0 6)], (eo 30 a0 7), [.slice 94 (rSl a0 9) .open, .slice 96 (rSl a0 10) .open, .slice 9 (rSl a0 11) .open, .slice 98 (rSl a0 12) .open, .str (rStr a0 13), .str (rStr a0 14), .int .i64 (rInt a0 15), .int .i64 (rInt a0 16), .slice 59 r0 .open, .int .i64 (rInt a0 18), .int .i64 (rInt a0 19), .int .i64 (rInt a0 20)], (eo 30 a0 21), (eo 30 a0 23), [.int .i64 (rInt a0 25), .slice 42 (rTake r7.1 r7.2) .open, .int .i64 r3]]), r14))
       (.ret ((rJ [[.str (rStr a0 0), .str (rStr a0 1), .str (rStr a0 2), .int .i64 (rInt a0 3), .int .i64 (rInt a0 4), .int .i64 (rInt a0 5), .int .i64 (rInt a0 6)], (eo 30 a0 7), [.slice 94 (rSl a0 9) .open, .slice 96 (rSl a0 10) .open, .slice 9 (rSl a0 11) .open, .slice 98 (rSl a0 12) .open, .str (rStr a0 13), .str (rStr a0 14), .int .i64 (rInt a0 15), .int .i64 (rInt a0 16), .slice 59 r0 .open, .int .i64 (rInt a0 18), .int .i64 (rInt a0 19), .int .i64 (rInt a0 20)], (eo 30 a0 21), (eo 30 a0 23), [.int .i64 (rInt a0 25), .slice 42 (rTake r7.1 r7.2) .open, .int .i64 (rInt a0 27)]]), r14)))))
    (.fail))
noncomputable def d (k : Nat) : Fun := mkFun [33, 3, 34, 35, 3] (fun as_ => f k (vRow (vN as_ 0)) (vInt (vN as_ 1)) (vRows (vN as_ 2)) (vRows (vN as_ 3)) (vInt (vN as_ 4))) default (fun r => .tuple [.agg (et 33 r.1), .int .i64 r.2])
theorem hC (k : Nat) : CxOk (C k) := CxOk.cons (p := (18, slices_Clone_api_Metric_api_Metric.d k)) (slices_Clone_api_Metric_api_Metric.ok k) (CxOk.cons (p := (19, slices_Clone_api_Advice_api_Advice.d k)) (slices_Clone_api_Advice_api_Advice.ok k) (CxOk.cons (p := (15, autoscale_clamp.d k)) (autoscale_clamp.ok k) (CxOk.cons (p := (7, autoscale_Desired.d k)) (autoscale_Desired.ok k) (CxOk.cons (p := (22, autoscale_target.d k)) (autoscale_target.ok k) (CxOk.cons (p := (23, quantity_Resolve.d k)) (quantity_Resolve.ok k) (CxOk.consM (p := (18, slices_Clone_api_Metric_api_Metric.dm k)) (slices_Clone_api_Metric_api_Metric.okM k) (CxOk.consM (p := (19, slices_Clone_api_Advice_api_Advice.dm k)) (slices_Clone_api_Advice_api_Advice.okM k) (CxOk.consMK (p := (22000020, slices_DeleteFunc_api_Advice_api_Advice_c21.dm k)) (by kernel_rfl) (slices_DeleteFunc_api_Advice_api_Advice_c21.okM k) (CxOk.nil)))))))))
theorem ok (k : Nat) : FunOk Try.prog 8 (d k) := fun_mk (C := C k) (hC k) (S := S k) Try.func8 (by kernel_rfl) (by kernel_rfl) (Loops.all (n := 0) (by kernel_rfl) trivial) (fun as_ => by kernel_rfl)
end autoscale_Step
namespace law49_lives
noncomputable def C (k : Nat) : Cx := ⟨Try.prog, tab [(13, law49_ready.d k), (14, law49_samples.d k), (8, autoscale_Step.d k), (7, autoscale_Desired.d k)], [], [], tab []⟩
noncomputable def S (k : Nat) : Subs := fun n => none
noncomputable def f (k : Nat) : T Bool :=
  .bnd (law49_ready.f k (4)).eval default fun r0 =>
  .bnd (law49_samples.f k [[.int .i64 (1)], [.int .i64 (1)], [.int .i64 (1)], [.int .i64 (1)]]).eval default fun r1 =>
  .bnd (autoscale_Step.f k [.str ByteArray.empty, .str ByteArray.empty, .str ByteArray.empty, .int .i64 (0), .int .i64 (0), .int .i64 (0), .int .i64 (0), .bool false, .int .i64 (0), .slice 94 [] .open, .slice 96 [] .open, .slice 9 [] .open, .slice 98 [] .open, .str ByteArray.empty, .str ByteArray.empty, .int .i64 (1), .int .i64 (10), .slice 59 [[.str (bs [109]), .int .i64 (100)]] .open, .int .i64 (10), .int .i64 (0), .int .i64 (60), .bool false, .int .i64 (9), .bool false, .int .i64 (9), .int .i64 (0), .slice 42 [[.int .i64 (70), .int .i64 (3)]] .open, .int .i64 (0)] (4) r0 r1 (100)).eval default fun r2 =>
  .bnd (law49_ready.f k (4)).eval default fun r3 =>
  .bnd (law49_samples.f k [[.int .i64 (1)], [.int .i64 (1)], [.int .i64 (1)], [.int .i64 (1)]]).eval default fun r4 =>
  .bnd (autoscale_Step.f k [.str ByteArray.empty, .str ByteArray.empty, .str ByteArray.empty, .int .i64 (0), .int .i64 (0), .int .i64 (0), .int .i64 (0), .bool false, .int .i64 (0), .slice 94 [] .open, .slice 96 [] .open, .slice 9 [] .open, .slice 98 [] .open, .str ByteArray.empty, .str ByteArray.empty, .int .i64 (1), .int .i64 (10), .slice 59 [[.str (bs [109]), .int .i64 (100)]] .open, .int .i64 (10), .int .i64 (0), .int .i64 (60), .bool false, .int .i64 (9), .bool true, .int .i64 (50), .int .i64 (0), .slice 42 [] .open, .int .i64 (0)] (4) r3 r4 (100)).eval default fun r5 =>
  .bnd (law49_ready.f k (3)).eval default fun r6 =>
  .bnd (law49_samples.f k [[.int .i64 (200)], [.int .i64 (200)], [.int .i64 (200)]]).eval default fun r7 =>
  .bnd (autoscale_Desired.f k [.str ByteArray.empty, .str ByteArray.empty, .str ByteArray.empty, .int .i64 (0), .int .i64 (0), .int .i64 (0), .int .i64 (0), .bool false, .int .i64 (0), .slice 94 [] .open, .slice 96 [] .open, .slice 9 [] .open, .slice 98 [] .open, .str ByteArray.empty, .str ByteArray.empty, .int .i64 (1), .int .i64 (10), .slice 59 [[.str (bs [109]), .int .i64 (100)]] .open, .int .i64 (10), .int .i64 (0), .int .i64 (60), .bool false, .int .i64 (9), .bool true, .int .i64 (50), .int .i64 (0), .slice 42 [] .open, .int .i64 (0)] (3) r6 r7).eval default fun r8 =>
  .opt (iEq r8 (6)) (law49_ready.f k (3)).eval default fun r9 =>
  .opt (iEq r8 (6)) (law49_samples.f k [[.int .i64 (200)], [.int .i64 (200)]]).eval default fun r10 =>
  .opt (iEq r8 (6)) (autoscale_Desired.f k [.str ByteArray.empty, .str ByteArray.empty, .str ByteArray.empty, .int .i64 (0), .int .i64 (0), .int .i64 (0), .int .i64 (0), .bool false, .int .i64 (0), .slice 94 [] .open, .slice 96 [] .open, .slice 9 [] .open, .slice 98 [] .open, .str ByteArray.empty, .str ByteArray.empty, .int .i64 (1), .int .i64 (10), .slice 59 [[.str (bs [109]), .int .i64 (100)]] .open, .int .i64 (10), .int .i64 (0), .int .i64 (60), .bool false, .int .i64 (9), .bool true, .int .i64 (50), .int .i64 (0), .slice 42 [] .open, .int .i64 (0)] (3) r9 r10).eval default fun r11 =>
  .opt (bIte (iEq r8 (6)) (iEq r11 (4)) false) (law49_ready.f k (2)).eval default fun r12 =>
  .opt (bIte (iEq r8 (6)) (iEq r11 (4)) false) (law49_samples.f k [[.int .i64 (105)], [.int .i64 (105)]]).eval default fun r13 =>
  .opt (bIte (iEq r8 (6)) (iEq r11 (4)) false) (autoscale_Desired.f k [.str ByteArray.empty, .str ByteArray.empty, .str ByteArray.empty, .int .i64 (0), .int .i64 (0), .int .i64 (0), .int .i64 (0), .bool false, .int .i64 (0), .slice 94 [] .open, .slice 96 [] .open, .slice 9 [] .open, .slice 98 [] .open, .str ByteArray.empty, .str ByteArray.empty, .int .i64 (1), .int .i64 (10), .slice 59 [[.str (bs [109]), .int .i64 (100)]] .open, .int .i64 (10), .int .i64 (0), .int .i64 (60), .bool false, .int .i64 (9), .bool true, .int .i64 (50), .int .i64 (0), .slice 42 [] .open, .int .i64 (0)] (2) r12 r13).eval default fun r14 =>
  .opt (bIte (bIte (iEq r8 (6)) (iEq r11 (4)) false) (iEq r14 (2)) false) (law49_ready.f k (2)).eval default fun r15 =>
  .opt (bIte (bIte (iEq r8 (6)) (iEq r11 (4)) false) (iEq r14 (2)) false) (law49_samples.f k [[.int .i64 (111)], [.int .i64 (111)]]).eval default fun r16 =>
  .opt (bIte (bIte (iEq r8 (6)) (iEq r11 (4)) false) (iEq r14 (2)) false) (autoscale_Desired.f k [.str ByteArray.empty, .str ByteArray.empty, .str ByteArray.empty, .int .i64 (0), .int .i64 (0), .int .i64 (0), .int .i64 (0), .bool false, .int .i64 (0), .slice 94 [] .open, .slice 96 [] .open, .slice 9 [] .open, .slice 98 [] .open, .str ByteArray.empty, .str ByteArray.empty, .int .i64 (1), .int .i64 (10), .slice 59 [[.str (bs [109]), .int .i64 (100)]] .open, .int .i64 (10), .int .i64 (0), .int .i64 (60), .bool false, .int .i64 (9), .bool true, .int .i64 (50), .int .i64 (0), .slice 42 [] .open, .int .i64 (0)] (2) r15 r16).eval default fun r17 =>
  .ret (bIte (bIte (bIte (bIte (bIte (bIte (bIte (iEq r8 (6)) (iEq r11 (4)) false) (iEq r14 (2)) false) (iEq r17 (3)) false) (iEq r2.2 (3)) false) (iEq (rInt r2.1 27) (100)) false) (iEq (rLen (rSl r2.1 26)) (2)) false) (iEq r5.2 (2)) false)
noncomputable def d (k : Nat) : Fun := mkFun [] (fun as_ => f k) default (fun r => .bool r)
theorem hC (k : Nat) : CxOk (C k) := CxOk.cons (p := (13, law49_ready.d k)) (law49_ready.ok k) (CxOk.cons (p := (14, law49_samples.d k)) (law49_samples.ok k) (CxOk.cons (p := (8, autoscale_Step.d k)) (autoscale_Step.ok k) (CxOk.cons (p := (7, autoscale_Desired.d k)) (autoscale_Desired.ok k) (CxOk.nil))))
theorem ok (k : Nat) : FunOk Try.prog 6 (d k) := fun_mk (C := C k) (hC k) (S := S k) Try.func6 (by kernel_rfl) (by kernel_rfl) (Loops.all (n := 0) (by kernel_rfl) trivial) (fun as_ => by kernel_rfl)
end law49_lives
namespace ref01_Clamp
noncomputable def C (k : Nat) : Cx := ⟨Try.prog, tab [], [], [], tab []⟩
noncomputable def S (k : Nat) : Subs := fun n => none
noncomputable def f (k : Nat) (a0 : Int) (a1 : Int) (a2 : Int) : T Int :=
  .ret (iMin (iMax a0 a1) a2)
noncomputable def d (k : Nat) : Fun := mkFun [3, 3, 3] (fun as_ => f k (vInt (vN as_ 0)) (vInt (vN as_ 1)) (vInt (vN as_ 2))) default (fun r => .int .i64 r)
theorem hC (k : Nat) : CxOk (C k) := CxOk.nil
theorem ok (k : Nat) : FunOk Try.prog 24 (d k) := fun_mk (C := C k) (hC k) (S := S k) Try.func24 (by kernel_rfl) (by kernel_rfl) (Loops.all (n := 0) (by kernel_rfl) trivial) (fun as_ => by kernel_rfl)
end ref01_Clamp
namespace ref01_Resolve
noncomputable def C (k : Nat) : Cx := ⟨Try.prog, tab [(24, ref01_Clamp.d k)], [], [], tab []⟩
noncomputable def S (k : Nat) : Subs := fun n => none
noncomputable def f (k : Nat) (a0 : Row) (a1 : Int) (a2 : Bool) : T Int :=
  .bnd (ref01_Clamp.f k (rInt a0 1) (0) (1000000000000000)).eval default fun r0 =>
  .bnd (ref01_Clamp.f k a1 (0) (1000000000000000)).eval default fun r1 =>
  .test (bNot (rBool a0 0))
   (.ret r0)
   (.test (bNot (iEq (100) (0)))
    (.test (bNot (iEq (100) (0)))
     (.test (bImp (iLt (0) (iQuo .i64 r1 (100))) (bNot (iEq (iQuo .i64 r1 (100)) (0))))
      (.test (bIte (iLt (0) (iQuo .i64 r1 (100))) (iLt (iQuo .i64 (1000000000000000) (iQuo .i64 r1 (100))) r0) false)
       (.ret (1000000000000000))
       (.test a2
        (.test (bNot (iEq (100) (0)))
         (.ret (iMin (iAdd .i64 (iMul .i64 (iQuo .i64 r1 (100)) r0) (iQuo .i64 (iAdd .i64 (iMul .i64 (iRem r1 (100)) r0) (99)) (100))) (1000000000000000)))
         (.fail))
        (.test (bNot (iEq (100) (0)))
         (.ret (iMin (iAdd .i64 (iMul .i64 (iQuo .i64 r1 (100)) r0) (iQuo .i64 (iMul .i64 (iRem r1 (100)) r0) (100))) (1000000000000000)))
         (.fail))))
      (.fail))
     (.fail))
    (.fail))
noncomputable def d (k : Nat) : Fun := mkFun [30, 3, 4] (fun as_ => f k (vRow (vN as_ 0)) (vInt (vN as_ 1)) (vBool (vN as_ 2))) default (fun r => .int .i64 r)
theorem hC (k : Nat) : CxOk (C k) := CxOk.cons (p := (24, ref01_Clamp.d k)) (ref01_Clamp.ok k) (CxOk.nil)
theorem ok (k : Nat) : FunOk Try.prog 9 (d k) := fun_mk (C := C k) (hC k) (S := S k) Try.func9 (by kernel_rfl) (by kernel_rfl) (Loops.all (n := 0) (by kernel_rfl) trivial) (fun as_ => by kernel_rfl)
end ref01_Resolve
namespace law49_AutoscaleBounds
noncomputable def C (k : Nat) : Cx := ⟨Try.prog, tab [(5, law49_Small.d k), (6, law49_lives.d k), (7, autoscale_Desired.d k), (8, autoscale_Step.d k), (9, ref01_Resolve.d k)], [], [], tab []⟩
noncomputable def t11 : LoopT := ⟨⟨142, [], [(1, .int .i64), (4, .int .i64), (5, .ptr 5 0), (11, .int .i64), (12, .int .i64), (14, .ptr 14 0), (15, .int .i64), (16, .bool), (73, .sl 42 none), (74, .int .i64), (75, .int .i64)], [], [(5, 33), (14, 33)], []⟩, (fun | .exit 0 => some ⟨142, [], [(1, .int .i64), (4, .int .i64), (5, .ptr 5 0), (11, .int .i64), (12, .int .i64), (14, .ptr 14 0), (15, .int .i64), (16, .bool)], [], [(5, 33), (14, 33)], []⟩ | _ => none)⟩
noncomputable def s11 (k : Nat) (c0 : Int) (c1 : Int) (c2 : Int) (c3 : Int) (c4 : Int) (c5 : Rows) (c6 : Int) (c7 : Row) (c8 : Row) (x : (Bool × Int)) : T ((Bool × Int) ⊕ Bool) :=
  .test (iLt x.2 c6)
   (.test (iIn x.2 (rLen c5))
    (.ret (.inl ((bIte (bIte x.1 (iLe c2 (rInt (rAt c5 x.2) 1)) false) (iLe (rInt (rAt c5 x.2) 1) c3) false), (iAdd .i64 x.2 (1)))))
    (.fail))
   (.ret (.inr x.1))
noncomputable def a11 (c0 : Int) (c1 : Int) (c2 : Int) (c3 : Int) (c4 : Int) (c5 : Rows) (c6 : Int) (c7 : Row) (c8 : Row) (x : (Bool × Int)) : Dt := ⟨[.i c0, .i c1, .u, .i c2, .i c3, .u, .i c4, .b x.1, .r c5, .i c6, .i x.2], [], [et 33 c7, et 33 c8], []⟩
noncomputable def o11_0 (c0 : Int) (c1 : Int) (c2 : Int) (c3 : Int) (c4 : Int) (c5 : Rows) (c6 : Int) (c7 : Row) (c8 : Row) (r : Bool) : X × Dt := (.exit 0, ⟨[.i c0, .i c1, .u, .i c2, .i c3, .u, .i c4, .b r], [], [(et 33 c7), (et 33 c8)], []⟩)
noncomputable def e11 (k : Nat) (d : Dt) : T (X × Dt) := out1 (iter (s11 k (aI (aN d.a 0)) (aI (aN d.a 1)) (aI (aN d.a 3)) (aI (aN d.a 4)) (aI (aN d.a 6)) (aR (aN d.a 8)) (aI (aN d.a 9)) (d.r.getD 0 []) (d.r.getD 1 [])) k ((aB (aN d.a 7)), (aI (aN d.a 10)))) default (o11_0 (aI (aN d.a 0)) (aI (aN d.a 1)) (aI (aN d.a 3)) (aI (aN d.a 4)) (aI (aN d.a 6)) (aR (aN d.a 8)) (aI (aN d.a 9)) (d.r.getD 0 []) (d.r.getD 1 []))
noncomputable def S (k : Nat) : Subs := fun n => bif Nat.beq n 11 then some (loopV Try.prog t11 (e11 k)) else none
noncomputable def f (k : Nat) (a0 : Row) (a1 : Int) (a2 : Rows) (a3 : Rows) (a4 : Int) : T Bool :=
  .bnd (law49_Small.f k (et 33 a0) a2 a3).eval default fun r0 =>
  .test (bIte (bIte (bNot r0) true (iLt a1 (1))) true (iLt (40) a1))
   (.bnd (law49_lives.f k).eval default fun r1 =>
   .ret r1)
   (.bnd (autoscale_Desired.f k (et 33 a0) a1 a2 a3).eval default fun r2 =>
   .test (bIte (iLt r2 (iMin (iMax (rInt a0 15) (0)) (40))) true (iLt (iMin (iMax (rInt a0 16) (iMin (iMax (rInt a0 15) (0)) (40))) (40)) r2))
    (.ret false)
    (.bnd (autoscale_Step.f k (et 33 a0) a1 a2 a3 a4).eval default fun r3 =>
    .bnd (iter (law49_AutoscaleBounds.s11 k a1 a4 (iMin (iMax (rInt a0 15) (0)) (40)) (iMin (iMax (rInt a0 16) (iMin (iMax (rInt a0 15) (0)) (40))) (40)) r3.2 (rSl a0 26) (rLen (rSl a0 26)) (et 33 a0) (et 33 r3.1)) k ((bIte (iLe (iMin (iMax (rInt a0 15) (0)) (40)) a1) (iLe a1 (iMin (iMax (rInt a0 16) (iMin (iMax (rInt a0 15) (0)) (40))) (40))) false), (0))) default fun r4 =>
    .test (bIte r4 (bIte (iLt r3.2 (iMin (iMax (rInt a0 15) (0)) (40))) true (iLt (iMin (iMax (rInt a0 16) (iMin (iMax (rInt a0 15) (0)) (40))) (40)) r3.2)) false)
     (.ret false)
     (.bnd (ref01_Resolve.f k (eo 30 a0 21) a1 true).eval default fun r5 =>
     .opt (bNot (iLt (iAdd .i64 a1 r5) r3.2)) (ref01_Resolve.f k (eo 30 a0 23) a1 true).eval default fun r6 =>
     .test (bIte (iLt (iAdd .i64 a1 r5) r3.2) true (iLt r3.2 (iSub .i64 a1 r6)))
      (.ret false)
      (.test (iEq r3.2 a1)
       (.opt (iEq (rInt r3.1 27) (rInt a0 27)) (law49_lives.f k).eval default fun r7 =>
       .ret (bIte (iEq (rInt r3.1 27) (rInt a0 27)) r7 false))
       (.opt (iEq (rInt r3.1 27) (iMin (iMax a4 (0)) (1000000000000))) (law49_lives.f k).eval default fun r8 =>
       .ret (bIte (iEq (rInt r3.1 27) (iMin (iMax a4 (0)) (1000000000000))) r8 false))))))
noncomputable def d (k : Nat) : Fun := mkFun [33, 3, 34, 35, 3] (fun as_ => f k (vRow (vN as_ 0)) (vInt (vN as_ 1)) (vRows (vN as_ 2)) (vRows (vN as_ 3)) (vInt (vN as_ 4))) default (fun r => .bool r)
theorem hC (k : Nat) : CxOk (C k) := CxOk.cons (p := (5, law49_Small.d k)) (law49_Small.ok k) (CxOk.cons (p := (6, law49_lives.d k)) (law49_lives.ok k) (CxOk.cons (p := (7, autoscale_Desired.d k)) (autoscale_Desired.ok k) (CxOk.cons (p := (8, autoscale_Step.d k)) (autoscale_Step.ok k) (CxOk.cons (p := (9, ref01_Resolve.d k)) (ref01_Resolve.ok k) (CxOk.nil)))))
theorem l11 (k : Nat) : LoopOk Try.prog (S k) (lp (bodyF Go.Proofs.Try.f3) 0) := loopOk_mk (C := C k) (hC k) (Loops.all (n := 0) (by kernel_rfl) trivial) (lt := t11) (den := e11 k) (by kernel_rfl) (N := (Int × Int × Int × Int × Int × Rows × Int × Row × Row)) (A := (Bool × Int)) (R := Bool)
 (fun n x => a11 n.1 n.2.1 n.2.2.1 n.2.2.2.1 n.2.2.2.2.1 n.2.2.2.2.2.1 n.2.2.2.2.2.2.1 n.2.2.2.2.2.2.2.1 n.2.2.2.2.2.2.2.2 x) (fun n r => o11_0 n.1 n.2.1 n.2.2.1 n.2.2.2.1 n.2.2.2.2.1 n.2.2.2.2.2.1 n.2.2.2.2.2.2.1 n.2.2.2.2.2.2.2.1 n.2.2.2.2.2.2.2.2 r) (fun n x => s11 k n.1 n.2.1 n.2.2.1 n.2.2.2.1 n.2.2.2.2.1 n.2.2.2.2.2.1 n.2.2.2.2.2.2.1 n.2.2.2.2.2.2.2.1 n.2.2.2.2.2.2.2.2 x) k (fun d => ((aI (aN d.a 0)), (aI (aN d.a 1)), (aI (aN d.a 3)), (aI (aN d.a 4)), (aI (aN d.a 6)), (aR (aN d.a 8)), (aI (aN d.a 9)), (d.r.getD 0 []), (d.r.getD 1 []))) (fun d => ((aB (aN d.a 7)), (aI (aN d.a 10)))) (fun d y h => out1_eval h) (fun d => by kernel_rfl) (fun n x => by kernel_rfl) (fun n r => ⟨_, rfl⟩)
theorem ok (k : Nat) : FunOk Try.prog 3 (d k) := fun_mk (C := C k) (hC k) (S := S k) Try.func3 (by kernel_rfl) (by kernel_rfl) (Loops.all (n := 1) (by kernel_rfl) ⟨trivial, l11 k⟩) (fun as_ => by kernel_rfl)
end law49_AutoscaleBounds
namespace ref49_clamp
noncomputable def C (k : Nat) : Cx := ⟨Try.prog, tab [(24, ref01_Clamp.d k)], [], [], tab []⟩
noncomputable def S (k : Nat) : Subs := fun n => none
noncomputable def f (k : Nat) (a0 : Int) (a1 : Int) (a2 : Int) : T Int :=
  .bnd (ref01_Clamp.f k a0 a1 a2).eval default fun r0 =>
  .ret r0
noncomputable def d (k : Nat) : Fun := mkFun [3, 3, 3] (fun as_ => f k (vInt (vN as_ 0)) (vInt (vN as_ 1)) (vInt (vN as_ 2))) default (fun r => .int .i64 r)
theorem hC (k : Nat) : CxOk (C k) := CxOk.cons (p := (24, ref01_Clamp.d k)) (ref01_Clamp.ok k) (CxOk.nil)
theorem ok (k : Nat) : FunOk Try.prog 26 (d k) := fun_mk (C := C k) (hC k) (S := S k) Try.func26 (by kernel_rfl) (by kernel_rfl) (Loops.all (n := 0) (by kernel_rfl) trivial) (fun as_ => by kernel_rfl)
end ref49_clamp
namespace ref49_Sampled
noncomputable def C (k : Nat) : Cx := ⟨Try.prog, tab [(25, ref13_KeyOf.d k), (26, ref49_clamp.d k)], [], [], tab []⟩
noncomputable def t2 : LoopT := ⟨⟨39, [], [(0, .sl 64 none), (2, .str), (4, .ptr 4 0), (8, .int .i64)], [], [(4, 57)], []⟩, (fun | .ret => some ⟨39, [], [(6, .int .i64), (7, .bool)], [], [], []⟩ | .exit 0 => some ⟨39, [], [], [], [], []⟩ | _ => none)⟩
noncomputable def s2 (k : Nat) (c0 : Rows) (c1 : ByteArray) (c2 : Row) (x : Int) : T (Int ⊕ ((Int × Bool) ⊕ Unit)) :=
  .test (iLt x (rLen c0))
   (.test (iIn x (rLen c0))
    (.bnd (ref13_KeyOf.f k (et 27 c2)).eval default fun r0 =>
    .test (bImp (sEq (rStr (rAt c0 x) 0) r0) (iIn x (rLen c0)))
     (.test (bIte (sEq (rStr (rAt c0 x) 0) r0) (sEq (rStr (rAt c0 x) 1) c1) false)
      (.test (iIn x (rLen c0))
       (.bnd (ref49_clamp.f k (rInt (rAt c0 x) 2) (0) (1000000000000000)).eval default fun r1 =>
       .ret (.inr (.inl (r1, true))))
       (.fail))
      (.ret (.inl (iAdd .i64 x (1)))))
     (.fail))
    (.fail))
   (.ret (.inr (.inr ())))
noncomputable def a2 (c0 : Rows) (c1 : ByteArray) (c2 : Row) (x : Int) : Dt := ⟨[.r c0, .s c1, .u, .i x], [], [et 57 c2], []⟩
noncomputable def o2_0 (c0 : Rows) (c1 : ByteArray) (c2 : Row) (r : (Int × Bool)) : X × Dt := (.ret, ⟨[.i r.1, .b r.2], [], [], []⟩)
noncomputable def o2_1 (c0 : Rows) (c1 : ByteArray) (c2 : Row) (r : Unit) : X × Dt := (.exit 0, ⟨[], [], [], []⟩)
noncomputable def e2 (k : Nat) (d : Dt) : T (X × Dt) := out2 (iter (s2 k (aR (aN d.a 0)) (aS (aN d.a 1)) (d.r.getD 0 [])) k (aI (aN d.a 3))) (o2_0 (aR (aN d.a 0)) (aS (aN d.a 1)) (d.r.getD 0 [])) (o2_1 (aR (aN d.a 0)) (aS (aN d.a 1)) (d.r.getD 0 []))
noncomputable def S (k : Nat) : Subs := fun n => bif Nat.beq n 2 then some (loopV Try.prog t2 (e2 k)) else none
noncomputable def f (k : Nat) (a0 : Rows) (a1 : Row) (a2 : ByteArray) : T (Int × Bool) :=
  .cas (iter (ref49_Sampled.s2 k a0 a2 (et 57 a1)) k (0)) (fun r0 =>
   .ret (r0.1, r0.2)) (fun r1 =>
   .ret ((0), false))
noncomputable def d (k : Nat) : Fun := mkFun [35, 57, 9] (fun as_ => f k (vRows (vN as_ 0)) (vRow (vN as_ 1)) (vStr (vN as_ 2))) default (fun r => .tuple [.int .i64 r.1, .bool r.2])
theorem hC (k : Nat) : CxOk (C k) := CxOk.cons (p := (25, ref13_KeyOf.d k)) (ref13_KeyOf.ok k) (CxOk.cons (p := (26, ref49_clamp.d k)) (ref49_clamp.ok k) (CxOk.nil))
theorem l2 (k : Nat) : LoopOk Try.prog (S k) (lp (bodyF Go.Proofs.Try.f10) 0) := loopOk_mk (C := C k) (hC k) (Loops.all (n := 0) (by kernel_rfl) trivial) (lt := t2) (den := e2 k) (by kernel_rfl) (N := (Rows × ByteArray × Row)) (A := Int) (R := ((Int × Bool) ⊕ Unit))
 (fun n x => a2 n.1 n.2.1 n.2.2 x) (fun n r => Sum.elim (o2_0 n.1 n.2.1 n.2.2) (o2_1 n.1 n.2.1 n.2.2) r) (fun n x => s2 k n.1 n.2.1 n.2.2 x) k (fun d => ((aR (aN d.a 0)), (aS (aN d.a 1)), (d.r.getD 0 []))) (fun d => (aI (aN d.a 3))) (fun d y h => out2_eval h) (fun d => by kernel_rfl) (fun n x => by kernel_rfl) (fun n r => by rcases r with r | r <;> exact ⟨_, rfl⟩)
theorem ok (k : Nat) : FunOk Try.prog 10 (d k) := fun_mk (C := C k) (hC k) (S := S k) Try.func10 (by kernel_rfl) (by kernel_rfl) (Loops.all (n := 1) (by kernel_rfl) ⟨trivial, l2 k⟩) (fun as_ => by kernel_rfl)
end ref49_Sampled
namespace ref33_Active
noncomputable def C (k : Nat) : Cx := ⟨Try.prog, tab [], [], [], tab []⟩
noncomputable def S (k : Nat) : Subs := fun n => none
noncomputable def f (k : Nat) (a0 : Row) : T Bool :=
  .ret (bIte (bIte (iEq (rInt a0 23) (0)) true (iEq (rInt a0 23) (1))) (bNot (rBool a0 7)) false)
noncomputable def d (k : Nat) : Fun := mkFun [57] (fun as_ => f k (vRow (vN as_ 0))) default (fun r => .bool r)
theorem hC (k : Nat) : CxOk (C k) := CxOk.nil
theorem ok (k : Nat) : FunOk Try.prog 11 (d k) := fun_mk (C := C k) (hC k) (S := S k) Try.func11 (by kernel_rfl) (by kernel_rfl) (Loops.all (n := 0) (by kernel_rfl) trivial) (fun as_ => by kernel_rfl)
end ref33_Active
namespace law49_AutoscaleRises
noncomputable def C (k : Nat) : Cx := ⟨Try.prog, tab [(5, law49_Small.d k), (6, law49_lives.d k), (10, ref49_Sampled.d k), (11, ref33_Active.d k), (7, autoscale_Desired.d k)], [73], [(19, 73)], tab []⟩
noncomputable def t7 : LoopT := ⟨⟨113, [], [(1, .int .i64), (2, .sl 57 none), (3, .sl 64 none), (4, .int .u8), (5, .int .i64), (6, .ptr 6 0), (14, .ptr 14 0), (36, .sl 57 none), (37, .int .i64), (38, .int .i64), (43, .sl 59 none), (44, .int .i64), (45, .int .i64)], [], [(6, 33), (14, 57)], []⟩, (fun | .ret => some ⟨113, [], [(12, .bool)], [], [], []⟩ | .exit 2 => some ⟨113, [], [(1, .int .i64), (2, .sl 57 none), (3, .sl 64 none), (4, .int .u8), (5, .int .i64), (6, .ptr 6 0), (36, .sl 57 none), (37, .int .i64), (38, .int .i64)], [], [(6, 33)], []⟩ | _ => none)⟩
noncomputable def s7 (k : Nat) (c0 : Int) (c1 : Rows) (c2 : Rows) (c3 : Int) (c4 : Int) (c5 : Rows) (c6 : Int) (c7 : Int) (c8 : Rows) (c9 : Int) (c10 : Row) (c11 : Row) (x : Int) : T (Int ⊕ (Bool ⊕ Unit)) :=
  .test (iLt x c9)
   (.test (iIn x (rLen c8))
    (.bnd (ref49_Sampled.f k c2 (et 57 c11) (rStr (rAt c8 x) 0)).eval default fun r0 =>
    .opt (bNot r0.2) (ref33_Active.f k (et 57 c11)).eval default fun r1 =>
    .test (bIte (bIte (bNot r0.2) r1 false) (rBool c11 24) false)
     (.bnd (law49_lives.f k).eval default fun r2 =>
     .ret (.inr (.inl r2)))
     (.ret (.inl (iAdd .i64 x (1)))))
    (.fail))
   (.ret (.inr (.inr ())))
noncomputable def a7 (c0 : Int) (c1 : Rows) (c2 : Rows) (c3 : Int) (c4 : Int) (c5 : Rows) (c6 : Int) (c7 : Int) (c8 : Rows) (c9 : Int) (c10 : Row) (c11 : Row) (x : Int) : Dt := ⟨[.i c0, .r c1, .r c2, .i c3, .i c4, .u, .u, .r c5, .i c6, .i c7, .r c8, .i c9, .i x], [], [et 33 c10, et 57 c11], []⟩
noncomputable def o7_0 (c0 : Int) (c1 : Rows) (c2 : Rows) (c3 : Int) (c4 : Int) (c5 : Rows) (c6 : Int) (c7 : Int) (c8 : Rows) (c9 : Int) (c10 : Row) (c11 : Row) (r : Bool) : X × Dt := (.ret, ⟨[.b r], [], [], []⟩)
noncomputable def o7_1 (c0 : Int) (c1 : Rows) (c2 : Rows) (c3 : Int) (c4 : Int) (c5 : Rows) (c6 : Int) (c7 : Int) (c8 : Rows) (c9 : Int) (c10 : Row) (c11 : Row) (r : Unit) : X × Dt := (.exit 2, ⟨[.i c0, .r c1, .r c2, .i c3, .i c4, .u, .r c5, .i c6, .i c7], [], [(et 33 c10)], []⟩)
noncomputable def e7 (k : Nat) (d : Dt) : T (X × Dt) := out2 (iter (s7 k (aI (aN d.a 0)) (aR (aN d.a 1)) (aR (aN d.a 2)) (aI (aN d.a 3)) (aI (aN d.a 4)) (aR (aN d.a 7)) (aI (aN d.a 8)) (aI (aN d.a 9)) (aR (aN d.a 10)) (aI (aN d.a 11)) (d.r.getD 0 []) (d.r.getD 1 [])) k (aI (aN d.a 12))) (o7_0 (aI (aN d.a 0)) (aR (aN d.a 1)) (aR (aN d.a 2)) (aI (aN d.a 3)) (aI (aN d.a 4)) (aR (aN d.a 7)) (aI (aN d.a 8)) (aI (aN d.a 9)) (aR (aN d.a 10)) (aI (aN d.a 11)) (d.r.getD 0 []) (d.r.getD 1 [])) (o7_1 (aI (aN d.a 0)) (aR (aN d.a 1)) (aR (aN d.a 2)) (aI (aN d.a 3)) (aI (aN d.a 4)) (aR (aN d.a 7)) (aI (aN d.a 8)) (aI (aN d.a 9)) (aR (aN d.a 10)) (aI (aN d.a 11)) (d.r.getD 0 []) (d.r.getD 1 []))
noncomputable def t4 : LoopT := ⟨⟨113, [], [(1, .int .i64), (2, .sl 57 none), (3, .sl 64 none), (4, .int .u8), (5, .int .i64), (6, .ptr 6 0), (36, .sl 57 none), (37, .int .i64), (38, .int .i64)], [], [(6, 33)], []⟩, (fun | .ret => some ⟨113, [], [(12, .bool)], [], [], []⟩ | .exit 0 => some ⟨113, [], [(1, .int .i64), (2, .sl 57 none), (3, .sl 64 none), (4, .int .u8), (5, .int .i64), (6, .ptr 6 0)], [], [(6, 33)], []⟩ | _ => none)⟩
noncomputable def s4 (k : Nat) (c0 : Int) (c1 : Rows) (c2 : Rows) (c3 : Int) (c4 : Int) (c5 : Rows) (c6 : Int) (c7 : Row) (x : Int) : T (Int ⊕ (Bool ⊕ Unit)) :=
  .test (iLt x c6)
   (.test (iIn x (rLen c5))
    (.cas (iter (law49_AutoscaleRises.s7 k c0 c1 c2 c3 c4 c5 c6 x (rSl c7 17) (rLen (rSl c7 17)) (et 33 c7) (et 57 (rAt c5 x))) k (0)) (fun r0 =>
     .ret (.inr (.inl r0))) (fun r1 =>
     .ret (.inl (iAdd .i64 x (1)))))
    (.fail))
   (.ret (.inr (.inr ())))
noncomputable def a4 (c0 : Int) (c1 : Rows) (c2 : Rows) (c3 : Int) (c4 : Int) (c5 : Rows) (c6 : Int) (c7 : Row) (x : Int) : Dt := ⟨[.i c0, .r c1, .r c2, .i c3, .i c4, .u, .r c5, .i c6, .i x], [], [et 33 c7], []⟩
noncomputable def o4_0 (c0 : Int) (c1 : Rows) (c2 : Rows) (c3 : Int) (c4 : Int) (c5 : Rows) (c6 : Int) (c7 : Row) (r : Bool) : X × Dt := (.ret, ⟨[.b r], [], [], []⟩)
noncomputable def o4_1 (c0 : Int) (c1 : Rows) (c2 : Rows) (c3 : Int) (c4 : Int) (c5 : Rows) (c6 : Int) (c7 : Row) (r : Unit) : X × Dt := (.exit 0, ⟨[.i c0, .r c1, .r c2, .i c3, .i c4, .u], [], [(et 33 c7)], []⟩)
noncomputable def e4 (k : Nat) (d : Dt) : T (X × Dt) := out2 (iter (s4 k (aI (aN d.a 0)) (aR (aN d.a 1)) (aR (aN d.a 2)) (aI (aN d.a 3)) (aI (aN d.a 4)) (aR (aN d.a 6)) (aI (aN d.a 7)) (d.r.getD 0 [])) k (aI (aN d.a 8))) (o4_0 (aI (aN d.a 0)) (aR (aN d.a 1)) (aR (aN d.a 2)) (aI (aN d.a 3)) (aI (aN d.a 4)) (aR (aN d.a 6)) (aI (aN d.a 7)) (d.r.getD 0 [])) (o4_1 (aI (aN d.a 0)) (aR (aN d.a 1)) (aR (aN d.a 2)) (aI (aN d.a 3)) (aI (aN d.a 4)) (aR (aN d.a 6)) (aI (aN d.a 7)) (d.r.getD 0 []))
noncomputable def S (k : Nat) : Subs := fun n => bif Nat.beq n 7 then some (loopV Try.prog t7 (e7 k)) else bif Nat.beq n 4 then some (loopV Try.prog t4 (e4 k)) else none
noncomputable def f (k : Nat) (a0 : Row) (a1 : Int) (a2 : Rows) (a3 : Rows) (a4 : Int) (a5 : Int) : T Bool :=
  .bnd (law49_Small.f k (et 33 a0) a2 a3).eval default fun r0 =>
  .test (bIte (bIte (bNot r0) true (iEq (rLen a3) (0))) true (iLt a5 (0)))
   (.bnd (law49_lives.f k).eval default fun r1 =>
   .ret r1)
   (.cas (iter (law49_AutoscaleRises.s4 k a1 a2 a3 a4 a5 a2 (rLen a2) (et 33 a0)) k (0)) (fun r2 =>
    .ret r2) (fun r3 =>
    .test (rOk 40 (0) (rLen a3))
     (.test (bNot (iEq (rLen a3) (0)))
      (.test (iIn (iRem (iCv .i64 a4) (rLen a3)) (rLen a3))
       (.test (iLt (iSub .i64 (1000000000000000) (iMin a5 (1000000000000000))) (rInt (rAt a3 (iRem (iCv .i64 a4) (rLen a3))) 2))
        (.bnd (law49_lives.f k).eval default fun r4 =>
        .ret r4)
        (.test (iIn (iRem (iCv .i64 a4) (rLen a3)) (rLen a3))
         (.test (iIn (iRem (iCv .i64 a4) (rLen a3)) (rLen a3))
          (.bnd (autoscale_Desired.f k (et 33 a0) a1 a2 (rTake (rSet a3 (iRem (iCv .i64 a4) (rLen a3)) [.str (rStr (rAt a3 (iRem (iCv .i64 a4) (rLen a3))) 0), .str (rStr (rAt a3 (iRem (iCv .i64 a4) (rLen a3))) 1), .int .i64 (iAdd .i64 (rInt (rAt a3 (iRem (iCv .i64 a4) (rLen a3))) 2) (iMin a5 (1000000000000000)))]) (rLen a3))).eval default fun r5 =>
          .bnd (autoscale_Desired.f k (et 33 a0) a1 a2 a3).eval default fun r6 =>
          .opt (iLe r6 r5) (law49_lives.f k).eval default fun r7 =>
          .ret (bIte (iLe r6 r5) r7 false))
          (.fail))
         (.fail)))
       (.fail))
      (.fail))
     (.fail)))
noncomputable def d (k : Nat) : Fun := mkFun [33, 3, 34, 35, 5, 3] (fun as_ => f k (vRow (vN as_ 0)) (vInt (vN as_ 1)) (vRows (vN as_ 2)) (vRows (vN as_ 3)) (vInt (vN as_ 4)) (vInt (vN as_ 5))) default (fun r => .bool r)
theorem hC (k : Nat) : CxOk (C k) := CxOk.cons (p := (5, law49_Small.d k)) (law49_Small.ok k) (CxOk.cons (p := (6, law49_lives.d k)) (law49_lives.ok k) (CxOk.cons (p := (10, ref49_Sampled.d k)) (ref49_Sampled.ok k) (CxOk.cons (p := (11, ref33_Active.d k)) (ref33_Active.ok k) (CxOk.cons (p := (7, autoscale_Desired.d k)) (autoscale_Desired.ok k) (CxOk.nil)))))
theorem l7 (k : Nat) : LoopOk Try.prog (S k) (lp (lp (bodyF Go.Proofs.Try.f4) 0) 0) := loopOk_mk (C := C k) (hC k) (Loops.all (n := 0) (by kernel_rfl) trivial) (lt := t7) (den := e7 k) (by kernel_rfl) (N := (Int × Rows × Rows × Int × Int × Rows × Int × Int × Rows × Int × Row × Row)) (A := Int) (R := (Bool ⊕ Unit))
 (fun n x => a7 n.1 n.2.1 n.2.2.1 n.2.2.2.1 n.2.2.2.2.1 n.2.2.2.2.2.1 n.2.2.2.2.2.2.1 n.2.2.2.2.2.2.2.1 n.2.2.2.2.2.2.2.2.1 n.2.2.2.2.2.2.2.2.2.1 n.2.2.2.2.2.2.2.2.2.2.1 n.2.2.2.2.2.2.2.2.2.2.2 x) (fun n r => Sum.elim (o7_0 n.1 n.2.1 n.2.2.1 n.2.2.2.1 n.2.2.2.2.1 n.2.2.2.2.2.1 n.2.2.2.2.2.2.1 n.2.2.2.2.2.2.2.1 n.2.2.2.2.2.2.2.2.1 n.2.2.2.2.2.2.2.2.2.1 n.2.2.2.2.2.2.2.2.2.2.1 n.2.2.2.2.2.2.2.2.2.2.2) (o7_1 n.1 n.2.1 n.2.2.1 n.2.2.2.1 n.2.2.2.2.1 n.2.2.2.2.2.1 n.2.2.2.2.2.2.1 n.2.2.2.2.2.2.2.1 n.2.2.2.2.2.2.2.2.1 n.2.2.2.2.2.2.2.2.2.1 n.2.2.2.2.2.2.2.2.2.2.1 n.2.2.2.2.2.2.2.2.2.2.2) r) (fun n x => s7 k n.1 n.2.1 n.2.2.1 n.2.2.2.1 n.2.2.2.2.1 n.2.2.2.2.2.1 n.2.2.2.2.2.2.1 n.2.2.2.2.2.2.2.1 n.2.2.2.2.2.2.2.2.1 n.2.2.2.2.2.2.2.2.2.1 n.2.2.2.2.2.2.2.2.2.2.1 n.2.2.2.2.2.2.2.2.2.2.2 x) k (fun d => ((aI (aN d.a 0)), (aR (aN d.a 1)), (aR (aN d.a 2)), (aI (aN d.a 3)), (aI (aN d.a 4)), (aR (aN d.a 7)), (aI (aN d.a 8)), (aI (aN d.a 9)), (aR (aN d.a 10)), (aI (aN d.a 11)), (d.r.getD 0 []), (d.r.getD 1 []))) (fun d => (aI (aN d.a 12))) (fun d y h => out2_eval h) (fun d => by kernel_rfl) (fun n x => by kernel_rfl) (fun n r => by rcases r with r | r <;> exact ⟨_, rfl⟩)
theorem l4 (k : Nat) : LoopOk Try.prog (S k) (lp (bodyF Go.Proofs.Try.f4) 0) := loopOk_mk (C := C k) (hC k) (Loops.all (n := 1) (by kernel_rfl) ⟨trivial, l7 k⟩) (lt := t4) (den := e4 k) (by kernel_rfl) (N := (Int × Rows × Rows × Int × Int × Rows × Int × Row)) (A := Int) (R := (Bool ⊕ Unit))
 (fun n x => a4 n.1 n.2.1 n.2.2.1 n.2.2.2.1 n.2.2.2.2.1 n.2.2.2.2.2.1 n.2.2.2.2.2.2.1 n.2.2.2.2.2.2.2 x) (fun n r => Sum.elim (o4_0 n.1 n.2.1 n.2.2.1 n.2.2.2.1 n.2.2.2.2.1 n.2.2.2.2.2.1 n.2.2.2.2.2.2.1 n.2.2.2.2.2.2.2) (o4_1 n.1 n.2.1 n.2.2.1 n.2.2.2.1 n.2.2.2.2.1 n.2.2.2.2.2.1 n.2.2.2.2.2.2.1 n.2.2.2.2.2.2.2) r) (fun n x => s4 k n.1 n.2.1 n.2.2.1 n.2.2.2.1 n.2.2.2.2.1 n.2.2.2.2.2.1 n.2.2.2.2.2.2.1 n.2.2.2.2.2.2.2 x) k (fun d => ((aI (aN d.a 0)), (aR (aN d.a 1)), (aR (aN d.a 2)), (aI (aN d.a 3)), (aI (aN d.a 4)), (aR (aN d.a 6)), (aI (aN d.a 7)), (d.r.getD 0 []))) (fun d => (aI (aN d.a 8))) (fun d y h => out2_eval h) (fun d => by kernel_rfl) (fun n x => by kernel_rfl) (fun n r => by rcases r with r | r <;> exact ⟨_, rfl⟩)
theorem ok (k : Nat) : FunOk Try.prog 4 (d k) := fun_mk (C := C k) (hC k) (S := S k) Try.func4 (by kernel_rfl) (by kernel_rfl) (Loops.all (n := 1) (by kernel_rfl) ⟨trivial, l4 k⟩) (fun as_ => by kernel_rfl)
end law49_AutoscaleRises
end Go.Proofs.Ytbmpglgnoaildaa.Ev
