/- Go functions as Lean functions, printed by a program of this claim's author; each with its proof. Conditions: stated at each. -/
import Derived.Test.YtilppppcafphbaaGreatE0
namespace Go.Proofs.YtilppppcafphbaaGreat.Ev
open Go
set_option linter.unusedVariables false
set_option maxRecDepth 100000
namespace ref03_holds
noncomputable def C (k : Nat) : Cx := ⟨Tryz.prog, tab [(98, ref03_Get.d k), (121, ref03_among.d k)], [], [], tab []⟩
noncomputable def S (k : Nat) : Subs := fun n => none
noncomputable def f (k : Nat) (a0 : Row) (a1 : Rows) : T Bool :=
  .bnd (ref03_Get.f k a1 (rStr a0 0)).eval default fun r0 =>
  .test (iEq (rInt a0 1) (1))
   (.opt r0.2 (ref03_among.f k (rSl a0 2) r0.1).eval default fun r1 =>
   .ret (bIte r0.2 r1 false))
   (.test (iEq (rInt a0 1) (2))
    (.opt (bNot (bNot r0.2)) (ref03_among.f k (rSl a0 2) r0.1).eval default fun r2 =>
    .ret (bIte (bNot r0.2) true (bNot r2)))
    (.ret (bIte (bIte (iEq (rInt a0 1) (3)) r0.2 false) true (bIte (iEq (rInt a0 1) (4)) (bNot r0.2) false))))
noncomputable def d (k : Nat) : Fun := mkFun [129, 27] (fun as_ => f k (vRow (vN as_ 0)) (vRows (vN as_ 1))) default (fun r => .bool r)
theorem hC (k : Nat) : CxOk (C k) := CxOk.cons (p := (98, ref03_Get.d k)) (ref03_Get.ok k) (CxOk.cons (p := (121, ref03_among.d k)) (ref03_among.ok k) (CxOk.nil))
theorem ok (k : Nat) : FunOk Tryz.prog 94 (d k) := fun_mk (C := C k) (hC k) (S := S k) Tryz.func94 (by kernel_rfl) (by kernel_rfl) (Loops.all (n := 0) (by kernel_rfl) trivial) (fun as_ => by kernel_rfl)
end ref03_holds
namespace ref03_Matches
noncomputable def C (k : Nat) : Cx := ⟨Tryz.prog, tab [(94, ref03_holds.d k)], [], [], tab []⟩
noncomputable def t2 : LoopT := ⟨⟨19, [], [(0, .sl 129 none), (1, .sl 89 none), (5, .int .i64)], [], [], []⟩, (fun | .ret => some ⟨19, [], [(4, .bool)], [], [], []⟩ | .exit 0 => some ⟨19, [], [], [], [], []⟩ | _ => none)⟩
noncomputable def s2 (k : Nat) (c0 : Rows) (c1 : Rows) (x : Int) : T (Int ⊕ (Bool ⊕ Unit)) :=
  .test (iLt x (rLen c0))
   (.test (iIn x (rLen c0))
    (.bnd (ref03_holds.f k (et 129 (rAt c0 x)) c1).eval default fun r0 =>
    .test (bNot r0)
     (.ret (.inr (.inl false)))
     (.ret (.inl (iAdd .i64 x (1)))))
    (.fail))
   (.ret (.inr (.inr ())))
noncomputable def a2 (c0 : Rows) (c1 : Rows) (x : Int) : Dt := ⟨[.r c0, .r c1, .i x], [], [], []⟩
noncomputable def o2_0 (c0 : Rows) (c1 : Rows) (r : Bool) : X × Dt := (.ret, ⟨[.b r], [], [], []⟩)
noncomputable def o2_1 (c0 : Rows) (c1 : Rows) (r : Unit) : X × Dt := (.exit 0, ⟨[], [], [], []⟩)
noncomputable def e2 (k : Nat) (d : Dt) : T (X × Dt) := out2 (iter (s2 k (aR (aN d.a 0)) (aR (aN d.a 1))) k (aI (aN d.a 2))) (o2_0 (aR (aN d.a 0)) (aR (aN d.a 1))) (o2_1 (aR (aN d.a 0)) (aR (aN d.a 1)))
noncomputable def S (k : Nat) : Subs := fun n => bif Nat.beq n 2 then some (loopV Tryz.prog t2 (e2 k)) else none
noncomputable def f (k : Nat) (a0 : Rows) (a1 : Rows) : T Bool :=
  .cas (iter (ref03_Matches.s2 k a0 a1) k (0)) (fun r0 =>
   .ret r0) (fun r1 =>
   .ret true)
noncomputable def d (k : Nat) : Fun := mkFun [34, 27] (fun as_ => f k (vRows (vN as_ 0)) (vRows (vN as_ 1))) default (fun r => .bool r)
theorem hC (k : Nat) : CxOk (C k) := CxOk.cons (p := (94, ref03_holds.d k)) (ref03_holds.ok k) (CxOk.nil)
theorem l2 (k : Nat) : LoopOk Tryz.prog (S k) (lp (bodyF (Go.Proofs.Tryz.f57)) 0) := loopOk_mk (C := C k) (hC k) (Loops.all (n := 0) (by kernel_rfl) trivial) (lt := t2) (den := e2 k) (by kernel_rfl) (N := (Rows × Rows)) (A := Int) (R := (Bool ⊕ Unit))
 (fun n x => a2 n.1 n.2 x) (fun n r => Sum.elim (o2_0 n.1 n.2) (o2_1 n.1 n.2) r) (fun n x => s2 k n.1 n.2 x) k (fun d => ((aR (aN d.a 0)), (aR (aN d.a 1)))) (fun d => (aI (aN d.a 2))) (fun d y h => out2_eval h) (fun d => by kernel_rfl) (fun n x => by kernel_rfl) (fun n r => by rcases r with r | r <;> exact ⟨_, rfl⟩)
theorem ok (k : Nat) : FunOk Tryz.prog 57 (d k) := fun_mk (C := C k) (hC k) (S := S k) Tryz.func57 (by kernel_rfl) (by kernel_rfl) (Loops.all (n := 1) (by kernel_rfl) ⟨trivial, l2 k⟩) (fun as_ => by kernel_rfl)
end ref03_Matches
namespace ref36_clamp
noncomputable def C (k : Nat) : Cx := ⟨Tryz.prog, tab [], [], [], tab []⟩
noncomputable def S (k : Nat) : Subs := fun n => none
noncomputable def f (k : Nat) (a0 : Int) : T Int :=
  .test (iLt a0 (-1000000000000000))
   (.ret (-1000000000000000))
   (.test (iLt (1000000000000000) a0)
    (.ret (1000000000000000))
    (.ret a0))
noncomputable def d (k : Nat) : Fun := mkFun [3] (fun as_ => f k (vInt (vN as_ 0))) default (fun r => .int .i64 r)
theorem hC (k : Nat) : CxOk (C k) := CxOk.nil
theorem ok (k : Nat) : FunOk Tryz.prog 58 (d k) := fun_mk (C := C k) (hC k) (S := S k) Tryz.func58 (by kernel_rfl) (by kernel_rfl) (Loops.all (n := 0) (by kernel_rfl) trivial) (fun as_ => by kernel_rfl)
end ref36_clamp
namespace ref36_NodeOf
noncomputable def C (k : Nat) : Cx := ⟨Tryz.prog, tab [], [], [], tab []⟩
noncomputable def t2 : LoopT := ⟨⟨29, [], [(1, .str), (2, .ptr 2 0), (4, .ptr 4 0), (6, .int .i64)], [], [(2, 26), (4, 51)], []⟩, (fun | .ret => some ⟨29, [], [(4, .ptr 4 0), (5, .bool)], [], [(4, 51)], []⟩ | .exit 0 => some ⟨29, [], [(4, .ptr 4 0)], [], [(4, 51)], []⟩ | _ => none)⟩
noncomputable def s2 (k : Nat) (c0 : ByteArray) (c1 : Row) (c2 : Row) (x : Int) : T (Int ⊕ ((Bool × Row) ⊕ Unit)) :=
  .test (iLt x (rLen (rSl c1 0)))
   (.test (iIn x (rLen (rSl c1 0)))
    (.test (sEq (rStr (rAt (rSl c1 0) x) 2) c0)
     (.test (iIn x (rLen (rSl c1 0)))
      (.ret (.inr (.inl (true, (et 51 (rAt (rSl c1 0) x))))))
      (.fail))
     (.ret (.inl (iAdd .i64 x (1)))))
    (.fail))
   (.ret (.inr (.inr ())))
noncomputable def a2 (c0 : ByteArray) (c1 : Row) (c2 : Row) (x : Int) : Dt := ⟨[.s c0, .u, .u, .i x], [], [et 26 c1, et 51 c2], []⟩
noncomputable def o2_0 (c0 : ByteArray) (c1 : Row) (c2 : Row) (r : (Bool × Row)) : X × Dt := (.ret, ⟨[.u, .b r.1], [], [r.2], []⟩)
noncomputable def o2_1 (c0 : ByteArray) (c1 : Row) (c2 : Row) (r : Unit) : X × Dt := (.exit 0, ⟨[.u], [], [(et 51 c2)], []⟩)
noncomputable def e2 (k : Nat) (d : Dt) : T (X × Dt) := out2 (iter (s2 k (aS (aN d.a 0)) (d.r.getD 0 []) (d.r.getD 1 [])) k (aI (aN d.a 3))) (o2_0 (aS (aN d.a 0)) (d.r.getD 0 []) (d.r.getD 1 [])) (o2_1 (aS (aN d.a 0)) (d.r.getD 0 []) (d.r.getD 1 []))
noncomputable def S (k : Nat) : Subs := fun n => bif Nat.beq n 2 then some (loopV Tryz.prog t2 (e2 k)) else none
noncomputable def f (k : Nat) (a0 : Row) (a1 : ByteArray) : T (Row × Bool) :=
  .cas (iter (ref36_NodeOf.s2 k a1 (et 26 a0) [.str ByteArray.empty, .str ByteArray.empty, .str ByteArray.empty, .int .i64 (0), .int .i64 (0), .int .i64 (0), .int .i64 (0), .bool false, .int .i64 (0), .slice 89 [] .open, .slice 91 [] .open, .slice 9 [] .open, .slice 93 [] .open, .int .i64 (0), .int .i64 (0), .int .i64 (0), .int .i64 (0), .bool false, .slice 72 [] .open, .bool false, .int .i64 (0), .bool false, .bool false, .slice 247 [] .open]) k (0)) (fun r0 =>
   .ret ((et 51 r0.2), r0.1)) (fun r1 =>
   .ret ([.str ByteArray.empty, .str ByteArray.empty, .str ByteArray.empty, .int .i64 (0), .int .i64 (0), .int .i64 (0), .int .i64 (0), .bool false, .int .i64 (0), .slice 89 [] .open, .slice 91 [] .open, .slice 9 [] .open, .slice 93 [] .open, .int .i64 (0), .int .i64 (0), .int .i64 (0), .int .i64 (0), .bool false, .slice 72 [] .open, .bool false, .int .i64 (0), .bool false, .bool false, .slice 247 [] .open], false))
noncomputable def d (k : Nat) : Fun := mkFun [26, 9] (fun as_ => f k (vRow (vN as_ 0)) (vStr (vN as_ 1))) default (fun r => .tuple [.agg (et 51 r.1), .bool r.2])
theorem hC (k : Nat) : CxOk (C k) := CxOk.nil
theorem l2 (k : Nat) : LoopOk Tryz.prog (S k) (lp (bodyF (Go.Proofs.Tryz.f19)) 0) := loopOk_mk (C := C k) (hC k) (Loops.all (n := 0) (by kernel_rfl) trivial) (lt := t2) (den := e2 k) (by kernel_rfl) (N := (ByteArray × Row × Row)) (A := Int) (R := ((Bool × Row) ⊕ Unit))
 (fun n x => a2 n.1 n.2.1 n.2.2 x) (fun n r => Sum.elim (o2_0 n.1 n.2.1 n.2.2) (o2_1 n.1 n.2.1 n.2.2) r) (fun n x => s2 k n.1 n.2.1 n.2.2 x) k (fun d => ((aS (aN d.a 0)), (d.r.getD 0 []), (d.r.getD 1 []))) (fun d => (aI (aN d.a 3))) (fun d y h => out2_eval h) (fun d => by kernel_rfl) (fun n x => by kernel_rfl) (fun n r => by rcases r with r | r <;> exact ⟨_, rfl⟩)
theorem ok (k : Nat) : FunOk Tryz.prog 19 (d k) := fun_mk (C := C k) (hC k) (S := S k) Tryz.func19 (by kernel_rfl) (by kernel_rfl) (Loops.all (n := 1) (by kernel_rfl) ⟨trivial, l2 k⟩) (fun as_ => by kernel_rfl)
end ref36_NodeOf
namespace ref36_Bound
noncomputable def C (k : Nat) : Cx := ⟨Tryz.prog, tab [(19, ref36_NodeOf.d k), (23, ref13_KeyOf.d k)], [], [], tab []⟩
noncomputable def t3 : LoopT := ⟨⟨57, [.tmp 5 55 45], [(2, .ptr 2 0), (3, .ptr 3 0), (5, .sl 45 (some 55)), (6, .int .i64)], [], [(2, 26), (3, 45)], []⟩, (fun | .exit 0 => some ⟨57, [], [(5, .sl 45 (some 55))], [], [], []⟩ | _ => none)⟩
noncomputable def s3 (k : Nat) (c0 : Row) (c1 : Row) (x : (Rows × Int)) : T ((Rows × Int) ⊕ Rows) :=
  .test (iLt x.2 (rLen (rSl c0 1)))
   (.test (iIn x.2 (rLen (rSl c0 1)))
    (.bnd (ref36_NodeOf.f k (et 26 c0) (rStr (rAt (rSl c0 1) x.2) 13)).eval default fun r0 =>
    .opt (bIte r0.2 (bIte (iEq (rInt (rAt (rSl c0 1) x.2) 23) (0)) true (iEq (rInt (rAt (rSl c0 1) x.2) 23) (1))) false) (ref13_KeyOf.f k (et 32 (rAt (rSl c0 1) x.2))).eval default fun r1 =>
    .opt (bIte r0.2 (bIte (iEq (rInt (rAt (rSl c0 1) x.2) 23) (0)) true (iEq (rInt (rAt (rSl c0 1) x.2) 23) (1))) false) (ref13_KeyOf.f k (et 32 c1)).eval default fun r2 =>
    .test (bIte (bIte r0.2 (bIte (iEq (rInt (rAt (rSl c0 1) x.2) 23) (0)) true (iEq (rInt (rAt (rSl c0 1) x.2) 23) (1))) false) (bNot (sEq r1 r2)) false)
     (.test (rOk 480 (rLen x.1) (rLen [(et 45 (rAt (rSl c0 1) x.2))]))
      (.ret (.inl ((rCat x.1 [(et 45 (rAt (rSl c0 1) x.2))]), (iAdd .i64 x.2 (1)))))
      (.fail))
     (.ret (.inl (x.1, (iAdd .i64 x.2 (1))))))
    (.fail))
   (.ret (.inr x.1))
noncomputable def a3 (c0 : Row) (c1 : Row) (x : (Rows × Int)) : Dt := ⟨[.u, .u, .r x.1, .i x.2], [], [et 26 c0, et 45 c1], []⟩
noncomputable def o3_0 (c0 : Row) (c1 : Row) (r : Rows) : X × Dt := (.exit 0, ⟨[.r r], [], [], []⟩)
noncomputable def e3 (k : Nat) (d : Dt) : T (X × Dt) := out1 (iter (s3 k (d.r.getD 0 []) (d.r.getD 1 [])) k ((aR (aN d.a 2)), (aI (aN d.a 3)))) default (o3_0 (d.r.getD 0 []) (d.r.getD 1 []))
noncomputable def S (k : Nat) : Subs := fun n => bif Nat.beq n 3 then some (loopV Tryz.prog t3 (e3 k)) else none
noncomputable def f (k : Nat) (a0 : Row) (a1 : Row) : T Rows :=
  .bnd (iter (ref36_Bound.s3 k (et 26 a0) (et 45 a1)) k ([], (0))) default fun r0 =>
  .ret r0
noncomputable def d (k : Nat) : Fun := mkFun [26, 45] (fun as_ => f k (vRow (vN as_ 0)) (vRow (vN as_ 1))) default (fun r => .slice 45 r .open)
theorem hC (k : Nat) : CxOk (C k) := CxOk.cons (p := (19, ref36_NodeOf.d k)) (ref36_NodeOf.ok k) (CxOk.cons (p := (23, ref13_KeyOf.d k)) (ref13_KeyOf.ok k) (CxOk.nil))
theorem l3 (k : Nat) : LoopOk Tryz.prog (S k) (lp (bodyF (Go.Proofs.Tryz.f95)) 0) := loopOk_mk (C := C k) (hC k) (Loops.all (n := 0) (by kernel_rfl) trivial) (lt := t3) (den := e3 k) (by kernel_rfl) (N := (Row × Row)) (A := (Rows × Int)) (R := Rows)
 (fun n x => a3 n.1 n.2 x) (fun n r => o3_0 n.1 n.2 r) (fun n x => s3 k n.1 n.2 x) k (fun d => ((d.r.getD 0 []), (d.r.getD 1 []))) (fun d => ((aR (aN d.a 2)), (aI (aN d.a 3)))) (fun d y h => out1_eval h) (fun d => by kernel_rfl) (fun n x => by kernel_rfl) (fun n r => ⟨_, rfl⟩)
theorem ok (k : Nat) : FunOk Tryz.prog 95 (d k) := fun_mk (C := C k) (hC k) (S := S k) Tryz.func95 (by kernel_rfl) (by kernel_rfl) (Loops.all (n := 1) (by kernel_rfl) ⟨trivial, l3 k⟩) (fun as_ => by kernel_rfl)
end ref36_Bound
namespace ref36_Domain
noncomputable def C (k : Nat) : Cx := ⟨Tryz.prog, tab [(98, ref03_Get.d k)], [], [], tab []⟩
noncomputable def S (k : Nat) : Subs := fun n => none
noncomputable def f (k : Nat) (a0 : Row) (a1 : ByteArray) : T (ByteArray × Bool) :=
  .bnd (ref03_Get.f k (rSl a0 9) a1).eval default fun r0 =>
  .ret (r0.1, r0.2)
noncomputable def d (k : Nat) : Fun := mkFun [51, 9] (fun as_ => f k (vRow (vN as_ 0)) (vStr (vN as_ 1))) default (fun r => .tuple [.str r.1, .bool r.2])
theorem hC (k : Nat) : CxOk (C k) := CxOk.cons (p := (98, ref03_Get.d k)) (ref03_Get.ok k) (CxOk.nil)
theorem ok (k : Nat) : FunOk Tryz.prog 62 (d k) := fun_mk (C := C k) (hC k) (S := S k) Tryz.func62 (by kernel_rfl) (by kernel_rfl) (Loops.all (n := 0) (by kernel_rfl) trivial) (fun as_ => by kernel_rfl)
end ref36_Domain
namespace ref36_together
noncomputable def C (k : Nat) : Cx := ⟨Tryz.prog, tab [(19, ref36_NodeOf.d k), (62, ref36_Domain.d k)], [], [], tab []⟩
noncomputable def S (k : Nat) : Subs := fun n => none
noncomputable def f (k : Nat) (a0 : Row) (a1 : Row) (a2 : Row) (a3 : ByteArray) : T Bool :=
  .bnd (ref36_NodeOf.f k (et 26 a0) (rStr a1 13)).eval default fun r0 =>
  .bnd (ref36_Domain.f k (et 51 r0.1) a3).eval default fun r1 =>
  .bnd (ref36_Domain.f k (et 51 a2) a3).eval default fun r2 =>
  .ret (bIte (bIte r1.2 r2.2 false) (sEq r1.1 r2.1) false)
noncomputable def d (k : Nat) : Fun := mkFun [26, 45, 51, 9] (fun as_ => f k (vRow (vN as_ 0)) (vRow (vN as_ 1)) (vRow (vN as_ 2)) (vStr (vN as_ 3))) default (fun r => .bool r)
theorem hC (k : Nat) : CxOk (C k) := CxOk.cons (p := (19, ref36_NodeOf.d k)) (ref36_NodeOf.ok k) (CxOk.cons (p := (62, ref36_Domain.d k)) (ref36_Domain.ok k) (CxOk.nil))
theorem ok (k : Nat) : FunOk Tryz.prog 96 (d k) := fun_mk (C := C k) (hC k) (S := S k) Tryz.func96 (by kernel_rfl) (by kernel_rfl) (Loops.all (n := 0) (by kernel_rfl) trivial) (fun as_ => by kernel_rfl)
end ref36_together
namespace ref36_near
noncomputable def C (k : Nat) : Cx := ⟨Tryz.prog, tab [(95, ref36_Bound.d k), (57, ref03_Matches.d k), (96, ref36_together.d k)], [], [], tab []⟩
noncomputable def t3 : LoopT := ⟨⟨52, [], [(4, .ptr 4 0), (5, .ptr 5 0), (6, .ptr 6 0), (7, .ptr 7 0), (9, .sl 45 none), (10, .int .i64)], [], [(4, 26), (5, 45), (6, 51), (7, 107)], []⟩, (fun | .ret => some ⟨52, [], [(8, .bool)], [], [], []⟩ | .exit 0 => some ⟨52, [], [], [], [], []⟩ | _ => none)⟩
noncomputable def s3 (k : Nat) (c0 : Rows) (c1 : Row) (c2 : Row) (c3 : Row) (c4 : Row) (x : Int) : T (Int ⊕ (Bool ⊕ Unit)) :=
  .test (iLt x (rLen c0))
   (.test (iIn x (rLen c0))
    (.test (bImp (sEq (rStr (rAt c0 x) 1) (rStr c2 1)) (iIn x (rLen c0)))
     (.opt (sEq (rStr (rAt c0 x) 1) (rStr c2 1)) (ref03_Matches.f k (rSl c4 2) (rSl (rAt c0 x) 9)).eval default fun r0 =>
     .test (bImp (bIte (sEq (rStr (rAt c0 x) 1) (rStr c2 1)) r0 false) (iIn x (rLen c0)))
      (.opt (bIte (sEq (rStr (rAt c0 x) 1) (rStr c2 1)) r0 false) (ref36_together.f k (et 26 c1) (et 45 (rAt c0 x)) (et 51 c3) (rStr c4 3)).eval default fun r1 =>
      .test (bIte (bIte (sEq (rStr (rAt c0 x) 1) (rStr c2 1)) r0 false) r1 false)
       (.ret (.inr (.inl true)))
       (.ret (.inl (iAdd .i64 x (1)))))
      (.fail))
     (.fail))
    (.fail))
   (.ret (.inr (.inr ())))
noncomputable def a3 (c0 : Rows) (c1 : Row) (c2 : Row) (c3 : Row) (c4 : Row) (x : Int) : Dt := ⟨[.u, .u, .u, .u, .r c0, .i x], [], [et 26 c1, et 45 c2, et 51 c3, et 107 c4], []⟩
noncomputable def o3_0 (c0 : Rows) (c1 : Row) (c2 : Row) (c3 : Row) (c4 : Row) (r : Bool) : X × Dt := (.ret, ⟨[.b r], [], [], []⟩)
noncomputable def o3_1 (c0 : Rows) (c1 : Row) (c2 : Row) (c3 : Row) (c4 : Row) (r : Unit) : X × Dt := (.exit 0, ⟨[], [], [], []⟩)
noncomputable def e3 (k : Nat) (d : Dt) : T (X × Dt) := out2 (iter (s3 k (aR (aN d.a 4)) (d.r.getD 0 []) (d.r.getD 1 []) (d.r.getD 2 []) (d.r.getD 3 [])) k (aI (aN d.a 5))) (o3_0 (aR (aN d.a 4)) (d.r.getD 0 []) (d.r.getD 1 []) (d.r.getD 2 []) (d.r.getD 3 [])) (o3_1 (aR (aN d.a 4)) (d.r.getD 0 []) (d.r.getD 1 []) (d.r.getD 2 []) (d.r.getD 3 []))
noncomputable def S (k : Nat) : Subs := fun n => bif Nat.beq n 3 then some (loopV Tryz.prog t3 (e3 k)) else none
noncomputable def f (k : Nat) (a0 : Row) (a1 : Row) (a2 : Row) (a3 : Row) : T Bool :=
  .bnd (ref36_Bound.f k (et 26 a0) (et 45 a1)).eval default fun r0 =>
  .cas (iter (ref36_near.s3 k r0 (et 26 a0) (et 45 a1) (et 51 a2) (et 107 a3)) k (0)) (fun r1 =>
   .ret r1) (fun r2 =>
   .ret false)
noncomputable def d (k : Nat) : Fun := mkFun [26, 45, 51, 107] (fun as_ => f k (vRow (vN as_ 0)) (vRow (vN as_ 1)) (vRow (vN as_ 2)) (vRow (vN as_ 3))) default (fun r => .bool r)
theorem hC (k : Nat) : CxOk (C k) := CxOk.cons (p := (95, ref36_Bound.d k)) (ref36_Bound.ok k) (CxOk.cons (p := (57, ref03_Matches.d k)) (ref03_Matches.ok k) (CxOk.cons (p := (96, ref36_together.d k)) (ref36_together.ok k) (CxOk.nil)))
theorem l3 (k : Nat) : LoopOk Tryz.prog (S k) (lp (bodyF (Go.Proofs.Tryz.f59)) 0) := loopOk_mk (C := C k) (hC k) (Loops.all (n := 0) (by kernel_rfl) trivial) (lt := t3) (den := e3 k) (by kernel_rfl) (N := (Rows × Row × Row × Row × Row)) (A := Int) (R := (Bool ⊕ Unit))
 (fun n x => a3 n.1 n.2.1 n.2.2.1 n.2.2.2.1 n.2.2.2.2 x) (fun n r => Sum.elim (o3_0 n.1 n.2.1 n.2.2.1 n.2.2.2.1 n.2.2.2.2) (o3_1 n.1 n.2.1 n.2.2.1 n.2.2.2.1 n.2.2.2.2) r) (fun n x => s3 k n.1 n.2.1 n.2.2.1 n.2.2.2.1 n.2.2.2.2 x) k (fun d => ((aR (aN d.a 4)), (d.r.getD 0 []), (d.r.getD 1 []), (d.r.getD 2 []), (d.r.getD 3 []))) (fun d => (aI (aN d.a 5))) (fun d y h => out2_eval h) (fun d => by kernel_rfl) (fun n x => by kernel_rfl) (fun n r => by rcases r with r | r <;> exact ⟨_, rfl⟩)
theorem ok (k : Nat) : FunOk Tryz.prog 59 (d k) := fun_mk (C := C k) (hC k) (S := S k) Tryz.func59 (by kernel_rfl) (by kernel_rfl) (Loops.all (n := 1) (by kernel_rfl) ⟨trivial, l3 k⟩) (fun as_ => by kernel_rfl)
end ref36_near
namespace ref36_Preference
noncomputable def C (k : Nat) : Cx := ⟨Tryz.prog, tab [(57, ref03_Matches.d k), (58, ref36_clamp.d k), (59, ref36_near.d k)], [], [], tab []⟩
noncomputable def t3 : LoopT := ⟨⟨80, [], [(3, .ptr 3 0), (4, .ptr 4 0), (5, .ptr 5 0), (7, .int .i64), (8, .int .i64)], [], [(3, 26), (4, 45), (5, 51)], []⟩, (fun | .exit 0 => some ⟨80, [], [(3, .ptr 3 0), (4, .ptr 4 0), (5, .ptr 5 0), (7, .int .i64)], [], [(3, 26), (4, 45), (5, 51)], []⟩ | _ => none)⟩
noncomputable def s3 (k : Nat) (c0 : Row) (c1 : Row) (c2 : Row) (x : (Int × Int)) : T ((Int × Int) ⊕ Int) :=
  .test (iLt x.2 (rLen (rSl c1 19)))
   (.test (iIn x.2 (rLen (rSl c1 19)))
    (.opt (bNot (rBool (rAt (rSl c1 19) x.2) 0)) (ref03_Matches.f k (rSl (rAt (rSl c1 19) x.2) 1) (rSl c2 9)).eval default fun r0 =>
    .test (bIte (bNot (rBool (rAt (rSl c1 19) x.2) 0)) r0 false)
     (.bnd (ref36_clamp.f k (rInt (rAt (rSl c1 19) x.2) 2)).eval default fun r1 =>
     .ret (.inl ((iAdd .i64 x.1 r1), (iAdd .i64 x.2 (1)))))
     (.ret (.inl (x.1, (iAdd .i64 x.2 (1))))))
    (.fail))
   (.ret (.inr x.1))
noncomputable def a3 (c0 : Row) (c1 : Row) (c2 : Row) (x : (Int × Int)) : Dt := ⟨[.u, .u, .u, .i x.1, .i x.2], [], [et 26 c0, et 45 c1, et 51 c2], []⟩
noncomputable def o3_0 (c0 : Row) (c1 : Row) (c2 : Row) (r : Int) : X × Dt := (.exit 0, ⟨[.u, .u, .u, .i r], [], [(et 26 c0), (et 45 c1), (et 51 c2)], []⟩)
noncomputable def e3 (k : Nat) (d : Dt) : T (X × Dt) := out1 (iter (s3 k (d.r.getD 0 []) (d.r.getD 1 []) (d.r.getD 2 [])) k ((aI (aN d.a 3)), (aI (aN d.a 4)))) default (o3_0 (d.r.getD 0 []) (d.r.getD 1 []) (d.r.getD 2 []))
noncomputable def t9 : LoopT := ⟨⟨80, [], [(3, .ptr 3 0), (4, .ptr 4 0), (5, .ptr 5 0), (7, .int .i64), (10, .int .i64)], [], [(3, 26), (4, 45), (5, 51)], []⟩, (fun | .exit 2 => some ⟨80, [], [(7, .int .i64)], [], [], []⟩ | _ => none)⟩
noncomputable def s9 (k : Nat) (c0 : Row) (c1 : Row) (c2 : Row) (x : (Int × Int)) : T ((Int × Int) ⊕ Int) :=
  .test (iLt x.2 (rLen (rSl c1 20)))
   (.test (iIn x.2 (rLen (rSl c1 20)))
    (.opt (bNot (rBool (rAt (rSl c1 20) x.2) 0)) (ref36_near.f k (et 26 c0) (et 45 c1) (et 51 c2) (et 107 (rAt (rSl c1 20) x.2))).eval default fun r0 =>
    .test (bIte (rBool (rAt (rSl c1 20) x.2) 0) true (bNot r0))
     (.ret (.inl (x.1, (iAdd .i64 x.2 (1)))))
     (.test (rBool (rAt (rSl c1 20) x.2) 1)
      (.bnd (ref36_clamp.f k (rInt (rAt (rSl c1 20) x.2) 4)).eval default fun r1 =>
      .ret (.inl ((iSub .i64 x.1 r1), (iAdd .i64 x.2 (1)))))
      (.bnd (ref36_clamp.f k (rInt (rAt (rSl c1 20) x.2) 4)).eval default fun r2 =>
      .ret (.inl ((iAdd .i64 x.1 r2), (iAdd .i64 x.2 (1)))))))
    (.fail))
   (.ret (.inr x.1))
noncomputable def a9 (c0 : Row) (c1 : Row) (c2 : Row) (x : (Int × Int)) : Dt := ⟨[.u, .u, .u, .i x.1, .i x.2], [], [et 26 c0, et 45 c1, et 51 c2], []⟩
noncomputable def o9_0 (c0 : Row) (c1 : Row) (c2 : Row) (r : Int) : X × Dt := (.exit 2, ⟨[.i r], [], [], []⟩)
noncomputable def e9 (k : Nat) (d : Dt) : T (X × Dt) := out1 (iter (s9 k (d.r.getD 0 []) (d.r.getD 1 []) (d.r.getD 2 [])) k ((aI (aN d.a 3)), (aI (aN d.a 4)))) default (o9_0 (d.r.getD 0 []) (d.r.getD 1 []) (d.r.getD 2 []))
noncomputable def S (k : Nat) : Subs := fun n => bif Nat.beq n 3 then some (loopV Tryz.prog t3 (e3 k)) else bif Nat.beq n 9 then some (loopV Tryz.prog t9 (e9 k)) else none
noncomputable def f (k : Nat) (a0 : Row) (a1 : Row) (a2 : Row) : T Int :=
  .bnd (iter (ref36_Preference.s3 k (et 26 a0) (et 45 a1) (et 51 a2)) k ((0), (0))) default fun r0 =>
  .bnd (iter (ref36_Preference.s9 k (et 26 a0) (et 45 a1) (et 51 a2)) k (r0, (0))) default fun r1 =>
  .bnd (ref36_clamp.f k r1).eval default fun r2 =>
  .ret r2
noncomputable def d (k : Nat) : Fun := mkFun [26, 45, 51] (fun as_ => f k (vRow (vN as_ 0)) (vRow (vN as_ 1)) (vRow (vN as_ 2))) default (fun r => .int .i64 r)
theorem hC (k : Nat) : CxOk (C k) := CxOk.cons (p := (57, ref03_Matches.d k)) (ref03_Matches.ok k) (CxOk.cons (p := (58, ref36_clamp.d k)) (ref36_clamp.ok k) (CxOk.cons (p := (59, ref36_near.d k)) (ref36_near.ok k) (CxOk.nil)))
theorem l3 (k : Nat) : LoopOk Tryz.prog (S k) (lp (bodyF (Go.Proofs.Tryz.f31)) 0) := loopOk_mk (C := C k) (hC k) (Loops.all (n := 0) (by kernel_rfl) trivial) (lt := t3) (den := e3 k) (by kernel_rfl) (N := (Row × Row × Row)) (A := (Int × Int)) (R := Int)
 (fun n x => a3 n.1 n.2.1 n.2.2 x) (fun n r => o3_0 n.1 n.2.1 n.2.2 r) (fun n x => s3 k n.1 n.2.1 n.2.2 x) k (fun d => ((d.r.getD 0 []), (d.r.getD 1 []), (d.r.getD 2 []))) (fun d => ((aI (aN d.a 3)), (aI (aN d.a 4)))) (fun d y h => out1_eval h) (fun d => by kernel_rfl) (fun n x => by kernel_rfl) (fun n r => ⟨_, rfl⟩)
theorem l9 (k : Nat) : LoopOk Tryz.prog (S k) (lp (bodyF (Go.Proofs.Tryz.f31)) 1) := loopOk_mk (C := C k) (hC k) (Loops.all (n := 0) (by kernel_rfl) trivial) (lt := t9) (den := e9 k) (by kernel_rfl) (N := (Row × Row × Row)) (A := (Int × Int)) (R := Int)
 (fun n x => a9 n.1 n.2.1 n.2.2 x) (fun n r => o9_0 n.1 n.2.1 n.2.2 r) (fun n x => s9 k n.1 n.2.1 n.2.2 x) k (fun d => ((d.r.getD 0 []), (d.r.getD 1 []), (d.r.getD 2 []))) (fun d => ((aI (aN d.a 3)), (aI (aN d.a 4)))) (fun d y h => out1_eval h) (fun d => by kernel_rfl) (fun n x => by kernel_rfl) (fun n r => ⟨_, rfl⟩)
theorem ok (k : Nat) : FunOk Tryz.prog 31 (d k) := fun_mk (C := C k) (hC k) (S := S k) Tryz.func31 (by kernel_rfl) (by kernel_rfl) (Loops.all (n := 2) (by kernel_rfl) ⟨⟨trivial, l3 k⟩, l9 k⟩) (fun as_ => by kernel_rfl)
end ref36_Preference
namespace ref35_Tolerates
noncomputable def C (k : Nat) : Cx := ⟨Tryz.prog, tab [], [], [], tab []⟩
noncomputable def S (k : Nat) : Subs := fun n => none
noncomputable def f (k : Nat) (a0 : Row) (a1 : Row) : T Bool :=
  .ret (bIte (bIte (bIte (sEq (rStr a0 0) ByteArray.empty) true (sEq (rStr a0 0) (rStr a1 0))) (bIte (rBool a0 2) true (sEq (rStr a0 1) (rStr a1 1))) false) (bIte (iEq (rInt a0 3) (0)) true (iEq (rInt a0 3) (rInt a1 2))) false)
noncomputable def d (k : Nat) : Fun := mkFun [147, 72] (fun as_ => f k (vRow (vN as_ 0)) (vRow (vN as_ 1))) default (fun r => .bool r)
theorem hC (k : Nat) : CxOk (C k) := CxOk.nil
theorem ok (k : Nat) : FunOk Tryz.prog 97 (d k) := fun_mk (C := C k) (hC k) (S := S k) Tryz.func97 (by kernel_rfl) (by kernel_rfl) (Loops.all (n := 0) (by kernel_rfl) trivial) (fun as_ => by kernel_rfl)
end ref35_Tolerates
namespace ref35_matching
noncomputable def C (k : Nat) : Cx := ⟨Tryz.prog, tab [(97, ref35_Tolerates.d k)], [], [], tab []⟩
noncomputable def t3 : LoopT := ⟨⟨27, [.tmp 5 25 147], [(1, .sl 147 none), (2, .ptr 2 0), (5, .sl 147 (some 25)), (6, .int .i64)], [], [(2, 72)], []⟩, (fun | .exit 0 => some ⟨27, [], [(5, .sl 147 (some 25))], [], [], []⟩ | _ => none)⟩
noncomputable def s3 (k : Nat) (c0 : Rows) (c1 : Row) (x : (Rows × Int)) : T ((Rows × Int) ⊕ Rows) :=
  .test (iLt x.2 (rLen c0))
   (.test (iIn x.2 (rLen c0))
    (.bnd (ref35_Tolerates.f k (et 147 (rAt c0 x.2)) (et 72 c1)).eval default fun r0 =>
    .test r0
     (.test (iIn x.2 (rLen c0))
      (.test (rOk 56 (rLen x.1) (rLen [(et 147 (rAt c0 x.2))]))
       (.ret (.inl ((rCat x.1 [(et 147 (rAt c0 x.2))]), (iAdd .i64 x.2 (1)))))
       (.fail))
      (.fail))
     (.ret (.inl (x.1, (iAdd .i64 x.2 (1))))))
    (.fail))
   (.ret (.inr x.1))
noncomputable def a3 (c0 : Rows) (c1 : Row) (x : (Rows × Int)) : Dt := ⟨[.r c0, .u, .r x.1, .i x.2], [], [et 72 c1], []⟩
noncomputable def o3_0 (c0 : Rows) (c1 : Row) (r : Rows) : X × Dt := (.exit 0, ⟨[.r r], [], [], []⟩)
noncomputable def e3 (k : Nat) (d : Dt) : T (X × Dt) := out1 (iter (s3 k (aR (aN d.a 0)) (d.r.getD 0 [])) k ((aR (aN d.a 2)), (aI (aN d.a 3)))) default (o3_0 (aR (aN d.a 0)) (d.r.getD 0 []))
noncomputable def S (k : Nat) : Subs := fun n => bif Nat.beq n 3 then some (loopV Tryz.prog t3 (e3 k)) else none
noncomputable def f (k : Nat) (a0 : Row) (a1 : Rows) : T Rows :=
  .bnd (iter (ref35_matching.s3 k a1 (et 72 a0)) k ([], (0))) default fun r0 =>
  .ret r0
noncomputable def d (k : Nat) : Fun := mkFun [72, 38] (fun as_ => f k (vRow (vN as_ 0)) (vRows (vN as_ 1))) default (fun r => .slice 147 r .open)
theorem hC (k : Nat) : CxOk (C k) := CxOk.cons (p := (97, ref35_Tolerates.d k)) (ref35_Tolerates.ok k) (CxOk.nil)
theorem l3 (k : Nat) : LoopOk Tryz.prog (S k) (lp (bodyF (Go.Proofs.Tryz.f60)) 0) := loopOk_mk (C := C k) (hC k) (Loops.all (n := 0) (by kernel_rfl) trivial) (lt := t3) (den := e3 k) (by kernel_rfl) (N := (Rows × Row)) (A := (Rows × Int)) (R := Rows)
 (fun n x => a3 n.1 n.2 x) (fun n r => o3_0 n.1 n.2 r) (fun n x => s3 k n.1 n.2 x) k (fun d => ((aR (aN d.a 0)), (d.r.getD 0 []))) (fun d => ((aR (aN d.a 2)), (aI (aN d.a 3)))) (fun d y h => out1_eval h) (fun d => by kernel_rfl) (fun n x => by kernel_rfl) (fun n r => ⟨_, rfl⟩)
theorem ok (k : Nat) : FunOk Tryz.prog 60 (d k) := fun_mk (C := C k) (hC k) (S := S k) Tryz.func60 (by kernel_rfl) (by kernel_rfl) (Loops.all (n := 1) (by kernel_rfl) ⟨trivial, l3 k⟩) (fun as_ => by kernel_rfl)
end ref35_matching
namespace ref35_Soft
noncomputable def C (k : Nat) : Cx := ⟨Tryz.prog, tab [(60, ref35_matching.d k)], [], [], tab []⟩
noncomputable def t3 : LoopT := ⟨⟨32, [], [(0, .sl 72 none), (1, .sl 147 none), (5, .int .i64), (6, .int .i64)], [], [], []⟩, (fun | .exit 0 => some ⟨32, [], [(5, .int .i64)], [], [], []⟩ | _ => none)⟩
noncomputable def s3 (k : Nat) (c0 : Rows) (c1 : Rows) (x : (Int × Int)) : T ((Int × Int) ⊕ Int) :=
  .test (iLt x.2 (rLen c0))
   (.test (iIn x.2 (rLen c0))
    (.test (bImp (iEq (rInt (rAt c0 x.2) 2) (2)) (iIn x.2 (rLen c0)))
     (.opt (iEq (rInt (rAt c0 x.2) 2) (2)) (ref35_matching.f k (et 72 (rAt c0 x.2)) c1).eval default fun r0 =>
     .test (bIte (iEq (rInt (rAt c0 x.2) 2) (2)) (iEq (rLen r0) (0)) false)
      (.ret (.inl ((iAdd .i64 x.1 (1)), (iAdd .i64 x.2 (1)))))
      (.ret (.inl (x.1, (iAdd .i64 x.2 (1))))))
     (.fail))
    (.fail))
   (.ret (.inr x.1))
noncomputable def a3 (c0 : Rows) (c1 : Rows) (x : (Int × Int)) : Dt := ⟨[.r c0, .r c1, .i x.1, .i x.2], [], [], []⟩
noncomputable def o3_0 (c0 : Rows) (c1 : Rows) (r : Int) : X × Dt := (.exit 0, ⟨[.i r], [], [], []⟩)
noncomputable def e3 (k : Nat) (d : Dt) : T (X × Dt) := out1 (iter (s3 k (aR (aN d.a 0)) (aR (aN d.a 1))) k ((aI (aN d.a 2)), (aI (aN d.a 3)))) default (o3_0 (aR (aN d.a 0)) (aR (aN d.a 1)))
noncomputable def S (k : Nat) : Subs := fun n => bif Nat.beq n 3 then some (loopV Tryz.prog t3 (e3 k)) else none
noncomputable def f (k : Nat) (a0 : Rows) (a1 : Rows) : T Int :=
  .bnd (iter (ref35_Soft.s3 k a0 a1) k ((0), (0))) default fun r0 =>
  .ret r0
noncomputable def d (k : Nat) : Fun := mkFun [48, 38] (fun as_ => f k (vRows (vN as_ 0)) (vRows (vN as_ 1))) default (fun r => .int .i64 r)
theorem hC (k : Nat) : CxOk (C k) := CxOk.cons (p := (60, ref35_matching.d k)) (ref35_matching.ok k) (CxOk.nil)
theorem l3 (k : Nat) : LoopOk Tryz.prog (S k) (lp (bodyF (Go.Proofs.Tryz.f32)) 0) := loopOk_mk (C := C k) (hC k) (Loops.all (n := 0) (by kernel_rfl) trivial) (lt := t3) (den := e3 k) (by kernel_rfl) (N := (Rows × Rows)) (A := (Int × Int)) (R := Int)
 (fun n x => a3 n.1 n.2 x) (fun n r => o3_0 n.1 n.2 r) (fun n x => s3 k n.1 n.2 x) k (fun d => ((aR (aN d.a 0)), (aR (aN d.a 1)))) (fun d => ((aI (aN d.a 2)), (aI (aN d.a 3)))) (fun d y h => out1_eval h) (fun d => by kernel_rfl) (fun n x => by kernel_rfl) (fun n r => ⟨_, rfl⟩)
theorem ok (k : Nat) : FunOk Tryz.prog 32 (d k) := fun_mk (C := C k) (hC k) (S := S k) Tryz.func32 (by kernel_rfl) (by kernel_rfl) (Loops.all (n := 1) (by kernel_rfl) ⟨trivial, l3 k⟩) (fun as_ => by kernel_rfl)
end ref35_Soft
namespace ref37_others
noncomputable def C (k : Nat) : Cx := ⟨Tryz.prog, tab [(23, ref13_KeyOf.d k)], [], [], tab []⟩
noncomputable def t4 : LoopT := ⟨⟨36, [.cell 5 1 33 45], [(1, .str), (2, .ptr 2 0), (4, .ptr 4 0), (5, .ptr 5 0), (6, .int .i64)], [(5, [.sl 51 none, .sl 45 (some 33), .sl 86 none, .int .i64])], [(2, 26), (4, 26)], []⟩, (fun | .exit 0 => some ⟨36, [], [(4, .ptr 4 0), (5, .ptr 5 0)], [(5, [.sl 51 none, .sl 45 (some 33), .sl 86 none, .int .i64])], [(4, 26)], []⟩ | _ => none)⟩
noncomputable def s4 (k : Nat) (c0 : ByteArray) (c1 : Rows) (c2 : Rows) (c3 : Int) (c4 : Row) (c5 : Row) (x : (Int × Rows)) : T ((Int × Rows) ⊕ Rows) :=
  .test (iLt x.1 (rLen (rSl c4 1)))
   (.test (iIn x.1 (rLen (rSl c4 1)))
    (.bnd (ref13_KeyOf.f k (et 32 (rAt (rSl c4 1) x.1))).eval default fun r0 =>
    .test (bNot (sEq r0 c0))
     (.test (iIn x.1 (rLen (rSl c4 1)))
      (.test (rOk 480 (rLen x.2) (rLen [(rJ [(et 32 (rAt (rSl c4 1) x.1)), [.str (rStr (rAt (rSl c4 1) x.1) 13), .int .i64 (rInt (rAt (rSl c4 1) x.1) 14), .int .i64 (rInt (rAt (rSl c4 1) x.1) 15), .int .i64 (rInt (rAt (rSl c4 1) x.1) 16), .slice 65 (rSl (rAt (rSl c4 1) x.1) 17) .open, .slice 129 (rSl (rAt (rSl c4 1) x.1) 18) .open, .slice 103 (rSl (rAt (rSl c4 1) x.1) 19) .open, .slice 107 (rSl (rAt (rSl c4 1) x.1) 20) .open, .slice 112 (rSl (rAt (rSl c4 1) x.1) 21) .open, .slice 147 (rSl (rAt (rSl c4 1) x.1) 22) .open, .int .i64 (rInt (rAt (rSl c4 1) x.1) 23), .bool (rBool (rAt (rSl c4 1) x.1) 24), .int .i64 (rInt (rAt (rSl c4 1) x.1) 25), .int .i64 (rInt (rAt (rSl c4 1) x.1) 26), .int .i64 (rInt (rAt (rSl c4 1) x.1) 27), .slice 218 (rSl (rAt (rSl c4 1) x.1) 28) .open, .int .i64 (rInt (rAt (rSl c4 1) x.1) 29), .str (rStr (rAt (rSl c4 1) x.1) 30), .str (rStr (rAt (rSl c4 1) x.1) 31)]])]))
       (.ret (.inl ((iAdd .i64 x.1 (1)), (rCat x.2 [(rJ [(et 32 (rAt (rSl c4 1) x.1)), [.str (rStr (rAt (rSl c4 1) x.1) 13), .int .i64 (rInt (rAt (rSl c4 1) x.1) 14), .int .i64 (rInt (rAt (rSl c4 1) x.1) 15), .int .i64 (rInt (rAt (rSl c4 1) x.1) 16), .slice 65 (rSl (rAt (rSl c4 1) x.1) 17) .open, .slice 129 (rSl (rAt (rSl c4 1) x.1) 18) .open, .slice 103 (rSl (rAt (rSl c4 1) x.1) 19) .open, .slice 107 (rSl (rAt (rSl c4 1) x.1) 20) .open, .slice 112 (rSl (rAt (rSl c4 1) x.1) 21) .open, .slice 147 (rSl (rAt (rSl c4 1) x.1) 22) .open, .int .i64 (rInt (rAt (rSl c4 1) x.1) 23), .bool (rBool (rAt (rSl c4 1) x.1) 24), .int .i64 (rInt (rAt (rSl c4 1) x.1) 25), .int .i64 (rInt (rAt (rSl c4 1) x.1) 26), .int .i64 (rInt (rAt (rSl c4 1) x.1) 27), .slice 218 (rSl (rAt (rSl c4 1) x.1) 28) .open, .int .i64 (rInt (rAt (rSl c4 1) x.1) 29), .str (rStr (rAt (rSl c4 1) x.1) 30), .str (rStr (rAt (rSl c4 1) x.1) 31)]])]))))
       (.fail))
      (.fail))
     (.ret (.inl ((iAdd .i64 x.1 (1)), x.2))))
    (.fail))
   (.ret (.inr x.2))
noncomputable def a4 (c0 : ByteArray) (c1 : Rows) (c2 : Rows) (c3 : Int) (c4 : Row) (c5 : Row) (x : (Int × Rows)) : Dt := ⟨[.s c0, .u, .u, .u, .i x.1], [[.r c1, .r x.2, .r c2, .i c3]], [et 26 c4, et 26 c5], []⟩
noncomputable def o4_0 (c0 : ByteArray) (c1 : Rows) (c2 : Rows) (c3 : Int) (c4 : Row) (c5 : Row) (r : Rows) : X × Dt := (.exit 0, ⟨[.u, .u], [[.r c1, .r r, .r c2, .i c3]], [(et 26 c5)], []⟩)
noncomputable def e4 (k : Nat) (d : Dt) : T (X × Dt) := out1 (iter (s4 k (aS (aN d.a 0)) (aR (aN (d.b.getD 0 []) 0)) (aR (aN (d.b.getD 0 []) 2)) (aI (aN (d.b.getD 0 []) 3)) (d.r.getD 0 []) (d.r.getD 1 [])) k ((aI (aN d.a 4)), (aR (aN (d.b.getD 0 []) 1)))) default (o4_0 (aS (aN d.a 0)) (aR (aN (d.b.getD 0 []) 0)) (aR (aN (d.b.getD 0 []) 2)) (aI (aN (d.b.getD 0 []) 3)) (d.r.getD 0 []) (d.r.getD 1 []))
noncomputable def S (k : Nat) : Subs := fun n => bif Nat.beq n 4 then some (loopV Tryz.prog t4 (e4 k)) else none
noncomputable def f (k : Nat) (a0 : Row) (a1 : ByteArray) : T Row :=
  .bnd (iter (ref37_others.s4 k a1 (rSl a0 0) (rSl a0 2) (rInt a0 3) (et 26 a0) [.slice 51 [] .open, .slice 45 [] .open, .slice 86 [] .open, .int .i64 (0)]) k ((0), [])) default fun r0 =>
  .ret [.slice 51 (rSl a0 0) .open, .slice 45 r0 .open, .slice 86 (rSl a0 2) .open, .int .i64 (rInt a0 3)]
noncomputable def d (k : Nat) : Fun := mkFun [26, 9] (fun as_ => f k (vRow (vN as_ 0)) (vStr (vN as_ 1))) default (fun r => .agg (et 26 r))
theorem hC (k : Nat) : CxOk (C k) := CxOk.cons (p := (23, ref13_KeyOf.d k)) (ref13_KeyOf.ok k) (CxOk.nil)
theorem l4 (k : Nat) : LoopOk Tryz.prog (S k) (lp (bodyF (Go.Proofs.Tryz.f61)) 0) := loopOk_mk (C := C k) (hC k) (Loops.all (n := 0) (by kernel_rfl) trivial) (lt := t4) (den := e4 k) (by kernel_rfl) (N := (ByteArray × Rows × Rows × Int × Row × Row)) (A := (Int × Rows)) (R := Rows)
 (fun n x => a4 n.1 n.2.1 n.2.2.1 n.2.2.2.1 n.2.2.2.2.1 n.2.2.2.2.2 x) (fun n r => o4_0 n.1 n.2.1 n.2.2.1 n.2.2.2.1 n.2.2.2.2.1 n.2.2.2.2.2 r) (fun n x => s4 k n.1 n.2.1 n.2.2.1 n.2.2.2.1 n.2.2.2.2.1 n.2.2.2.2.2 x) k (fun d => ((aS (aN d.a 0)), (aR (aN (d.b.getD 0 []) 0)), (aR (aN (d.b.getD 0 []) 2)), (aI (aN (d.b.getD 0 []) 3)), (d.r.getD 0 []), (d.r.getD 1 []))) (fun d => ((aI (aN d.a 4)), (aR (aN (d.b.getD 0 []) 1)))) (fun d y h => out1_eval h) (fun d => by kernel_rfl) (fun n x => by kernel_rfl) (fun n r => ⟨_, rfl⟩)
theorem ok (k : Nat) : FunOk Tryz.prog 61 (d k) := fun_mk (C := C k) (hC k) (S := S k) Tryz.func61 (by kernel_rfl) (by kernel_rfl) (Loops.all (n := 1) (by kernel_rfl) ⟨trivial, l4 k⟩) (fun as_ => by kernel_rfl)
end ref37_others
namespace ref10_put
noncomputable def C (k : Nat) : Cx := ⟨Tryz.prog, tab [], [], [], tab []⟩
noncomputable def t4 : LoopT := ⟨⟨48, [.tmp 5 27 9], [(0, .sl 9 none), (1, .str), (5, .sl 9 (some 27)), (6, .bool), (7, .int .i64)], [], [], []⟩, (fun | .exit 0 => some ⟨48, [], [(1, .str), (5, .sl 9 (some 27)), (6, .bool)], [], [], []⟩ | _ => none)⟩
noncomputable def s4 (k : Nat) (c0 : Rows) (c1 : ByteArray) (x : (Rows × Bool × Int)) : T ((Rows × Bool × Int) ⊕ (Rows × Bool)) :=
  .test (iLt x.2.2 (rLen c0))
   (.test (bImp (bNot x.2.1) (iIn x.2.2 (rLen c0)))
    (.test (bIte (bNot x.2.1) (bOr (sLt c1 (rStr (rAt c0 x.2.2) 0)) (sEq c1 (rStr (rAt c0 x.2.2) 0))) false)
     (.test (rOk 16 (rLen x.1) (rLen [[.str c1]]))
      (.test (iIn x.2.2 (rLen c0))
       (.test (bNot (sEq (rStr (rAt c0 x.2.2) 0) c1))
        (.test (iIn x.2.2 (rLen c0))
         (.test (rOk 16 (rLen (rCat x.1 [[.str c1]])) (rLen [[.str (rStr (rAt c0 x.2.2) 0)]]))
          (.ret (.inl ((rCat (rCat x.1 [[.str c1]]) [[.str (rStr (rAt c0 x.2.2) 0)]]), true, (iAdd .i64 x.2.2 (1)))))
          (.fail))
         (.fail))
        (.ret (.inl ((rCat x.1 [[.str c1]]), true, (iAdd .i64 x.2.2 (1))))))
       (.fail))
      (.fail))
     (.test (iIn x.2.2 (rLen c0))
      (.test (bNot (sEq (rStr (rAt c0 x.2.2) 0) c1))
       (.test (iIn x.2.2 (rLen c0))
        (.test (rOk 16 (rLen x.1) (rLen [[.str (rStr (rAt c0 x.2.2) 0)]]))
         (.ret (.inl ((rCat x.1 [[.str (rStr (rAt c0 x.2.2) 0)]]), x.2.1, (iAdd .i64 x.2.2 (1)))))
         (.fail))
        (.fail))
       (.ret (.inl (x.1, x.2.1, (iAdd .i64 x.2.2 (1))))))
      (.fail)))
    (.fail))
   (.ret (.inr (x.1, x.2.1)))
noncomputable def a4 (c0 : Rows) (c1 : ByteArray) (x : (Rows × Bool × Int)) : Dt := ⟨[.r c0, .s c1, .r x.1, .b x.2.1, .i x.2.2], [], [], []⟩
noncomputable def o4_0 (c0 : Rows) (c1 : ByteArray) (r : (Rows × Bool)) : X × Dt := (.exit 0, ⟨[.s c1, .r r.1, .b r.2], [], [], []⟩)
noncomputable def e4 (k : Nat) (d : Dt) : T (X × Dt) := out1 (iter (s4 k (aR (aN d.a 0)) (aS (aN d.a 1))) k ((aR (aN d.a 2)), (aB (aN d.a 3)), (aI (aN d.a 4)))) default (o4_0 (aR (aN d.a 0)) (aS (aN d.a 1)))
noncomputable def S (k : Nat) : Subs := fun n => bif Nat.beq n 4 then some (loopV Tryz.prog t4 (e4 k)) else none
noncomputable def f (k : Nat) (a0 : Rows) (a1 : ByteArray) : T Rows :=
  .bnd (iter (ref10_put.s4 k a0 a1) k ([], (false, (0)))) default fun r0 =>
  .test (bNot r0.2)
   (.test (rOk 16 (rLen r0.1) (rLen [[.str a1]]))
    (.ret (rCat r0.1 [[.str a1]]))
    (.fail))
   (.ret r0.1)
noncomputable def d (k : Nat) : Fun := mkFun [29, 9] (fun as_ => f k (vRows (vN as_ 0)) (vStr (vN as_ 1))) default (fun r => .slice 9 r .open)
theorem hC (k : Nat) : CxOk (C k) := CxOk.nil
theorem l4 (k : Nat) : LoopOk Tryz.prog (S k) (lp (bodyF (Go.Proofs.Tryz.f122)) 0) := loopOk_mk (C := C k) (hC k) (Loops.all (n := 0) (by kernel_rfl) trivial) (lt := t4) (den := e4 k) (by kernel_rfl) (N := (Rows × ByteArray)) (A := (Rows × Bool × Int)) (R := (Rows × Bool))
 (fun n x => a4 n.1 n.2 x) (fun n r => o4_0 n.1 n.2 r) (fun n x => s4 k n.1 n.2 x) k (fun d => ((aR (aN d.a 0)), (aS (aN d.a 1)))) (fun d => ((aR (aN d.a 2)), (aB (aN d.a 3)), (aI (aN d.a 4)))) (fun d y h => out1_eval h) (fun d => by kernel_rfl) (fun n x => by kernel_rfl) (fun n r => ⟨_, rfl⟩)
theorem ok (k : Nat) : FunOk Tryz.prog 122 (d k) := fun_mk (C := C k) (hC k) (S := S k) Tryz.func122 (by kernel_rfl) (by kernel_rfl) (Loops.all (n := 1) (by kernel_rfl) ⟨trivial, l4 k⟩) (fun as_ => by kernel_rfl)
end ref10_put
namespace ref10_Union
noncomputable def C (k : Nat) : Cx := ⟨Tryz.prog, tab [(122, ref10_put.d k)], [], [], tab []⟩
noncomputable def t3 : LoopT := ⟨⟨33, [], [(0, .sl 9 none), (1, .sl 9 none), (5, .sl 9 none), (6, .int .i64)], [], [], []⟩, (fun | .exit 0 => some ⟨33, [], [(1, .sl 9 none), (5, .sl 9 none)], [], [], []⟩ | _ => none)⟩
noncomputable def s3 (k : Nat) (c0 : Rows) (c1 : Rows) (x : (Rows × Int)) : T ((Rows × Int) ⊕ Rows) :=
  .test (iLt x.2 (rLen c0))
   (.test (iIn x.2 (rLen c0))
    (.bnd (ref10_put.f k x.1 (rStr (rAt c0 x.2) 0)).eval default fun r0 =>
    .ret (.inl (r0, (iAdd .i64 x.2 (1)))))
    (.fail))
   (.ret (.inr x.1))
noncomputable def a3 (c0 : Rows) (c1 : Rows) (x : (Rows × Int)) : Dt := ⟨[.r c0, .r c1, .r x.1, .i x.2], [], [], []⟩
noncomputable def o3_0 (c0 : Rows) (c1 : Rows) (r : Rows) : X × Dt := (.exit 0, ⟨[.r c1, .r r], [], [], []⟩)
noncomputable def e3 (k : Nat) (d : Dt) : T (X × Dt) := out1 (iter (s3 k (aR (aN d.a 0)) (aR (aN d.a 1))) k ((aR (aN d.a 2)), (aI (aN d.a 3)))) default (o3_0 (aR (aN d.a 0)) (aR (aN d.a 1)))
noncomputable def t7 : LoopT := ⟨⟨33, [], [(1, .sl 9 none), (5, .sl 9 none), (7, .int .i64)], [], [], []⟩, (fun | .exit 2 => some ⟨33, [], [(5, .sl 9 none)], [], [], []⟩ | _ => none)⟩
noncomputable def s7 (k : Nat) (c0 : Rows) (x : (Rows × Int)) : T ((Rows × Int) ⊕ Rows) :=
  .test (iLt x.2 (rLen c0))
   (.test (iIn x.2 (rLen c0))
    (.bnd (ref10_put.f k x.1 (rStr (rAt c0 x.2) 0)).eval default fun r0 =>
    .ret (.inl (r0, (iAdd .i64 x.2 (1)))))
    (.fail))
   (.ret (.inr x.1))
noncomputable def a7 (c0 : Rows) (x : (Rows × Int)) : Dt := ⟨[.r c0, .r x.1, .i x.2], [], [], []⟩
noncomputable def o7_0 (c0 : Rows) (r : Rows) : X × Dt := (.exit 2, ⟨[.r r], [], [], []⟩)
noncomputable def e7 (k : Nat) (d : Dt) : T (X × Dt) := out1 (iter (s7 k (aR (aN d.a 0))) k ((aR (aN d.a 1)), (aI (aN d.a 2)))) default (o7_0 (aR (aN d.a 0)))
noncomputable def S (k : Nat) : Subs := fun n => bif Nat.beq n 3 then some (loopV Tryz.prog t3 (e3 k)) else bif Nat.beq n 7 then some (loopV Tryz.prog t7 (e7 k)) else none
noncomputable def f (k : Nat) (a0 : Rows) (a1 : Rows) : T Rows :=
  .bnd (iter (ref10_Union.s3 k a0 a1) k ([], (0))) default fun r0 =>
  .bnd (iter (ref10_Union.s7 k a1) k (r0, (0))) default fun r1 =>
  .ret r1
noncomputable def d (k : Nat) : Fun := mkFun [29, 29] (fun as_ => f k (vRows (vN as_ 0)) (vRows (vN as_ 1))) default (fun r => .slice 9 r .open)
theorem hC (k : Nat) : CxOk (C k) := CxOk.cons (p := (122, ref10_put.d k)) (ref10_put.ok k) (CxOk.nil)
theorem l3 (k : Nat) : LoopOk Tryz.prog (S k) (lp (bodyF (Go.Proofs.Tryz.f99)) 0) := loopOk_mk (C := C k) (hC k) (Loops.all (n := 0) (by kernel_rfl) trivial) (lt := t3) (den := e3 k) (by kernel_rfl) (N := (Rows × Rows)) (A := (Rows × Int)) (R := Rows)
 (fun n x => a3 n.1 n.2 x) (fun n r => o3_0 n.1 n.2 r) (fun n x => s3 k n.1 n.2 x) k (fun d => ((aR (aN d.a 0)), (aR (aN d.a 1)))) (fun d => ((aR (aN d.a 2)), (aI (aN d.a 3)))) (fun d y h => out1_eval h) (fun d => by kernel_rfl) (fun n x => by kernel_rfl) (fun n r => ⟨_, rfl⟩)
theorem l7 (k : Nat) : LoopOk Tryz.prog (S k) (lp (bodyF (Go.Proofs.Tryz.f99)) 1) := loopOk_mk (C := C k) (hC k) (Loops.all (n := 0) (by kernel_rfl) trivial) (lt := t7) (den := e7 k) (by kernel_rfl) (N := Rows) (A := (Rows × Int)) (R := Rows)
 (fun n x => a7 n x) (fun n r => o7_0 n r) (fun n x => s7 k n x) k (fun d => (aR (aN d.a 0))) (fun d => ((aR (aN d.a 1)), (aI (aN d.a 2)))) (fun d y h => out1_eval h) (fun d => by kernel_rfl) (fun n x => by kernel_rfl) (fun n r => ⟨_, rfl⟩)
theorem ok (k : Nat) : FunOk Tryz.prog 99 (d k) := fun_mk (C := C k) (hC k) (S := S k) Tryz.func99 (by kernel_rfl) (by kernel_rfl) (Loops.all (n := 2) (by kernel_rfl) ⟨⟨trivial, l3 k⟩, l7 k⟩) (fun as_ => by kernel_rfl)
end ref10_Union
namespace ref37_domain
noncomputable def C (k : Nat) : Cx := ⟨Tryz.prog, tab [(62, ref36_Domain.d k)], [], [], tab []⟩
noncomputable def t2 : LoopT := ⟨⟨34, [], [(1, .str), (2, .str), (3, .ptr 3 0), (8, .int .i64)], [], [(3, 26)], []⟩, (fun | .ret => some ⟨34, [], [(6, .str), (7, .bool)], [], [], []⟩ | .exit 0 => some ⟨34, [], [], [], [], []⟩ | _ => none)⟩
noncomputable def s2 (k : Nat) (c0 : ByteArray) (c1 : ByteArray) (c2 : Row) (x : Int) : T (Int ⊕ ((ByteArray × Bool) ⊕ Unit)) :=
  .test (iLt x (rLen (rSl c2 0)))
   (.test (iIn x (rLen (rSl c2 0)))
    (.test (sEq (rStr (rAt (rSl c2 0) x) 2) c0)
     (.test (iIn x (rLen (rSl c2 0)))
      (.bnd (ref36_Domain.f k (et 51 (rAt (rSl c2 0) x)) c1).eval default fun r0 =>
      .ret (.inr (.inl (r0.1, r0.2))))
      (.fail))
     (.ret (.inl (iAdd .i64 x (1)))))
    (.fail))
   (.ret (.inr (.inr ())))
noncomputable def a2 (c0 : ByteArray) (c1 : ByteArray) (c2 : Row) (x : Int) : Dt := ⟨[.s c0, .s c1, .u, .i x], [], [et 26 c2], []⟩
noncomputable def o2_0 (c0 : ByteArray) (c1 : ByteArray) (c2 : Row) (r : (ByteArray × Bool)) : X × Dt := (.ret, ⟨[.s r.1, .b r.2], [], [], []⟩)
noncomputable def o2_1 (c0 : ByteArray) (c1 : ByteArray) (c2 : Row) (r : Unit) : X × Dt := (.exit 0, ⟨[], [], [], []⟩)
noncomputable def e2 (k : Nat) (d : Dt) : T (X × Dt) := out2 (iter (s2 k (aS (aN d.a 0)) (aS (aN d.a 1)) (d.r.getD 0 [])) k (aI (aN d.a 3))) (o2_0 (aS (aN d.a 0)) (aS (aN d.a 1)) (d.r.getD 0 [])) (o2_1 (aS (aN d.a 0)) (aS (aN d.a 1)) (d.r.getD 0 []))
noncomputable def S (k : Nat) : Subs := fun n => bif Nat.beq n 2 then some (loopV Tryz.prog t2 (e2 k)) else none
noncomputable def f (k : Nat) (a0 : Row) (a1 : ByteArray) (a2 : ByteArray) : T (ByteArray × Bool) :=
  .cas (iter (ref37_domain.s2 k a1 a2 (et 26 a0)) k (0)) (fun r0 =>
   .ret (r0.1, r0.2)) (fun r1 =>
   .ret (ByteArray.empty, false))
noncomputable def d (k : Nat) : Fun := mkFun [26, 9, 9] (fun as_ => f k (vRow (vN as_ 0)) (vStr (vN as_ 1)) (vStr (vN as_ 2))) default (fun r => .tuple [.str r.1, .bool r.2])
theorem hC (k : Nat) : CxOk (C k) := CxOk.cons (p := (62, ref36_Domain.d k)) (ref36_Domain.ok k) (CxOk.nil)
theorem l2 (k : Nat) : LoopOk Tryz.prog (S k) (lp (bodyF (Go.Proofs.Tryz.f100)) 0) := loopOk_mk (C := C k) (hC k) (Loops.all (n := 0) (by kernel_rfl) trivial) (lt := t2) (den := e2 k) (by kernel_rfl) (N := (ByteArray × ByteArray × Row)) (A := Int) (R := ((ByteArray × Bool) ⊕ Unit))
 (fun n x => a2 n.1 n.2.1 n.2.2 x) (fun n r => Sum.elim (o2_0 n.1 n.2.1 n.2.2) (o2_1 n.1 n.2.1 n.2.2) r) (fun n x => s2 k n.1 n.2.1 n.2.2 x) k (fun d => ((aS (aN d.a 0)), (aS (aN d.a 1)), (d.r.getD 0 []))) (fun d => (aI (aN d.a 3))) (fun d y h => out2_eval h) (fun d => by kernel_rfl) (fun n x => by kernel_rfl) (fun n r => by rcases r with r | r <;> exact ⟨_, rfl⟩)
theorem ok (k : Nat) : FunOk Tryz.prog 100 (d k) := fun_mk (C := C k) (hC k) (S := S k) Tryz.func100 (by kernel_rfl) (by kernel_rfl) (Loops.all (n := 1) (by kernel_rfl) ⟨trivial, l2 k⟩) (fun as_ => by kernel_rfl)
end ref37_domain
namespace ref33_Active
noncomputable def C (k : Nat) : Cx := ⟨Tryz.prog, tab [], [], [], tab []⟩
noncomputable def S (k : Nat) : Subs := fun n => none
noncomputable def f (k : Nat) (a0 : Row) : T Bool :=
  .ret (bIte (bIte (iEq (rInt a0 23) (0)) true (iEq (rInt a0 23) (1))) (bNot (rBool a0 7)) false)
noncomputable def d (k : Nat) : Fun := mkFun [45] (fun as_ => f k (vRow (vN as_ 0))) default (fun r => .bool r)
theorem hC (k : Nat) : CxOk (C k) := CxOk.nil
theorem ok (k : Nat) : FunOk Tryz.prog 101 (d k) := fun_mk (C := C k) (hC k) (S := S k) Tryz.func101 (by kernel_rfl) (by kernel_rfl) (Loops.all (n := 0) (by kernel_rfl) trivial) (fun as_ => by kernel_rfl)
end ref33_Active
namespace ref37_Counts
noncomputable def C (k : Nat) : Cx := ⟨Tryz.prog, tab [(62, ref36_Domain.d k), (99, ref10_Union.d k), (100, ref37_domain.d k), (101, ref33_Active.d k), (57, ref03_Matches.d k)], [], [], tab []⟩
noncomputable def t3 : LoopT := ⟨⟨111, [], [(1, .str), (3, .ptr 3 0), (5, .ptr 5 0), (7, .sl 9 none), (8, .int .i64)], [], [(3, 26), (5, 112)], []⟩, (fun | .exit 0 => some ⟨111, [], [(1, .str), (3, .ptr 3 0), (5, .ptr 5 0), (7, .sl 9 none)], [], [(3, 26), (5, 112)], []⟩ | _ => none)⟩
noncomputable def s3 (k : Nat) (c0 : ByteArray) (c1 : Row) (c2 : Row) (x : (Rows × Int)) : T ((Rows × Int) ⊕ Rows) :=
  .test (iLt x.2 (rLen (rSl c1 0)))
   (.test (iIn x.2 (rLen (rSl c1 0)))
    (.bnd (ref36_Domain.f k (et 51 (rAt (rSl c1 0) x.2)) (rStr c2 1)).eval default fun r0 =>
    .test r0.2
     (.bnd (ref10_Union.f k x.1 [[.str r0.1]]).eval default fun r1 =>
     .ret (.inl (r1, (iAdd .i64 x.2 (1)))))
     (.ret (.inl (x.1, (iAdd .i64 x.2 (1))))))
    (.fail))
   (.ret (.inr x.1))
noncomputable def a3 (c0 : ByteArray) (c1 : Row) (c2 : Row) (x : (Rows × Int)) : Dt := ⟨[.s c0, .u, .u, .r x.1, .i x.2], [], [et 26 c1, et 112 c2], []⟩
noncomputable def o3_0 (c0 : ByteArray) (c1 : Row) (c2 : Row) (r : Rows) : X × Dt := (.exit 0, ⟨[.s c0, .u, .u, .r r], [], [(et 26 c1), (et 112 c2)], []⟩)
noncomputable def e3 (k : Nat) (d : Dt) : T (X × Dt) := out1 (iter (s3 k (aS (aN d.a 0)) (d.r.getD 0 []) (d.r.getD 1 [])) k ((aR (aN d.a 3)), (aI (aN d.a 4)))) default (o3_0 (aS (aN d.a 0)) (d.r.getD 0 []) (d.r.getD 1 []))
noncomputable def t14 : LoopT := ⟨⟨111, [], [(1, .str), (3, .ptr 3 0), (5, .ptr 5 0), (7, .sl 9 none), (11, .sl 117 (some 109)), (12, .int .i64), (13, .ptr 13 0), (14, .int .i64)], [], [(3, 26), (5, 112), (13, 117)], []⟩, (fun | .exit 4 => some ⟨111, [], [(1, .str), (3, .ptr 3 0), (5, .ptr 5 0), (7, .sl 9 none), (11, .sl 117 (some 109)), (12, .int .i64), (13, .ptr 13 0)], [], [(3, 26), (5, 112), (13, 117)], []⟩ | _ => none)⟩
noncomputable def s14 (k : Nat) (c0 : ByteArray) (c1 : Rows) (c2 : Rows) (c3 : Int) (c4 : Row) (c5 : Row) (x : (Int × Row)) : T ((Int × Row) ⊕ Row) :=
  .test (iLt x.1 (rLen (rSl c4 1)))
   (.test (iIn x.1 (rLen (rSl c4 1)))
    (.bnd (ref37_domain.f k (et 26 c4) (rStr (rAt (rSl c4 1) x.1) 13) (rStr c5 1)).eval default fun r0 =>
    .test (bImp r0.2 (iIn c3 (rLen c1)))
     (.opt (bIte r0.2 (sEq r0.1 (rStr (rAt c1 c3) 0)) false) (ref33_Active.f k (et 45 (rAt (rSl c4 1) x.1))).eval default fun r1 =>
     .opt (bIte (bIte (bIte r0.2 (sEq r0.1 (rStr (rAt c1 c3) 0)) false) r1 false) (sEq (rStr (rAt (rSl c4 1) x.1) 1) c0) false) (ref03_Matches.f k (rSl c5 2) (rSl (rAt (rSl c4 1) x.1) 9)).eval default fun r2 =>
     .test (bIte (bIte (bIte (bIte r0.2 (sEq r0.1 (rStr (rAt c1 c3) 0)) false) r1 false) (sEq (rStr (rAt (rSl c4 1) x.1) 1) c0) false) r2 false)
      (.ret (.inl ((iAdd .i64 x.1 (1)), [.str (rStr x.2 0), .int .i64 (iAdd .i64 (rInt x.2 1) (1))])))
      (.ret (.inl ((iAdd .i64 x.1 (1)), (et 117 x.2)))))
     (.fail))
    (.fail))
   (.ret (.inr (et 117 x.2)))
noncomputable def a14 (c0 : ByteArray) (c1 : Rows) (c2 : Rows) (c3 : Int) (c4 : Row) (c5 : Row) (x : (Int × Row)) : Dt := ⟨[.s c0, .u, .u, .r c1, .r c2, .i c3, .u, .i x.1], [], [et 26 c4, et 112 c5, et 117 x.2], []⟩
noncomputable def o14_0 (c0 : ByteArray) (c1 : Rows) (c2 : Rows) (c3 : Int) (c4 : Row) (c5 : Row) (r : Row) : X × Dt := (.exit 4, ⟨[.s c0, .u, .u, .r c1, .r c2, .i c3, .u], [], [(et 26 c4), (et 112 c5), r], []⟩)
noncomputable def e14 (k : Nat) (d : Dt) : T (X × Dt) := out1 (iter (s14 k (aS (aN d.a 0)) (aR (aN d.a 3)) (aR (aN d.a 4)) (aI (aN d.a 5)) (d.r.getD 0 []) (d.r.getD 1 [])) k ((aI (aN d.a 7)), (d.r.getD 2 []))) default (o14_0 (aS (aN d.a 0)) (aR (aN d.a 3)) (aR (aN d.a 4)) (aI (aN d.a 5)) (d.r.getD 0 []) (d.r.getD 1 []))
noncomputable def t10 : LoopT := ⟨⟨111, [.tmp 11 109 117], [(1, .str), (3, .ptr 3 0), (5, .ptr 5 0), (7, .sl 9 none), (11, .sl 117 (some 109)), (12, .int .i64)], [], [(3, 26), (5, 112)], []⟩, (fun | .exit 2 => some ⟨111, [], [(11, .sl 117 (some 109))], [], [], []⟩ | _ => none)⟩
noncomputable def s10 (k : Nat) (c0 : ByteArray) (c1 : Rows) (c2 : Row) (c3 : Row) (x : (Rows × Int)) : T ((Rows × Int) ⊕ Rows) :=
  .test (iLt x.2 (rLen c1))
   (.test (iIn x.2 (rLen c1))
    (.bnd (iter (ref37_Counts.s14 k c0 c1 x.1 x.2 (et 26 c2) (et 112 c3)) k ((0), [.str (rStr (rAt c1 x.2) 0), .int .i64 (0)])) default fun r0 =>
    .test (rOk 24 (rLen x.1) (rLen [(et 117 r0)]))
     (.ret (.inl ((rCat x.1 [(et 117 r0)]), (iAdd .i64 x.2 (1)))))
     (.fail))
    (.fail))
   (.ret (.inr x.1))
noncomputable def a10 (c0 : ByteArray) (c1 : Rows) (c2 : Row) (c3 : Row) (x : (Rows × Int)) : Dt := ⟨[.s c0, .u, .u, .r c1, .r x.1, .i x.2], [], [et 26 c2, et 112 c3], []⟩
noncomputable def o10_0 (c0 : ByteArray) (c1 : Rows) (c2 : Row) (c3 : Row) (r : Rows) : X × Dt := (.exit 2, ⟨[.r r], [], [], []⟩)
noncomputable def e10 (k : Nat) (d : Dt) : T (X × Dt) := out1 (iter (s10 k (aS (aN d.a 0)) (aR (aN d.a 3)) (d.r.getD 0 []) (d.r.getD 1 [])) k ((aR (aN d.a 4)), (aI (aN d.a 5)))) default (o10_0 (aS (aN d.a 0)) (aR (aN d.a 3)) (d.r.getD 0 []) (d.r.getD 1 []))
noncomputable def S (k : Nat) : Subs := fun n => bif Nat.beq n 3 then some (loopV Tryz.prog t3 (e3 k)) else bif Nat.beq n 14 then some (loopV Tryz.prog t14 (e14 k)) else bif Nat.beq n 10 then some (loopV Tryz.prog t10 (e10 k)) else none
noncomputable def f (k : Nat) (a0 : Row) (a1 : ByteArray) (a2 : Row) : T Rows :=
  .bnd (iter (ref37_Counts.s3 k a1 (et 26 a0) (et 112 a2)) k ([], (0))) default fun r0 =>
  .bnd (iter (ref37_Counts.s10 k a1 r0 (et 26 a0) (et 112 a2)) k ([], (0))) default fun r1 =>
  .ret r1
noncomputable def d (k : Nat) : Fun := mkFun [26, 9, 112] (fun as_ => f k (vRow (vN as_ 0)) (vStr (vN as_ 1)) (vRow (vN as_ 2))) default (fun r => .slice 117 r .open)
theorem hC (k : Nat) : CxOk (C k) := CxOk.cons (p := (62, ref36_Domain.d k)) (ref36_Domain.ok k) (CxOk.cons (p := (99, ref10_Union.d k)) (ref10_Union.ok k) (CxOk.cons (p := (100, ref37_domain.d k)) (ref37_domain.ok k) (CxOk.cons (p := (101, ref33_Active.d k)) (ref33_Active.ok k) (CxOk.cons (p := (57, ref03_Matches.d k)) (ref03_Matches.ok k) (CxOk.nil)))))
theorem l3 (k : Nat) : LoopOk Tryz.prog (S k) (lp (bodyF (Go.Proofs.Tryz.f64)) 0) := loopOk_mk (C := C k) (hC k) (Loops.all (n := 0) (by kernel_rfl) trivial) (lt := t3) (den := e3 k) (by kernel_rfl) (N := (ByteArray × Row × Row)) (A := (Rows × Int)) (R := Rows)
 (fun n x => a3 n.1 n.2.1 n.2.2 x) (fun n r => o3_0 n.1 n.2.1 n.2.2 r) (fun n x => s3 k n.1 n.2.1 n.2.2 x) k (fun d => ((aS (aN d.a 0)), (d.r.getD 0 []), (d.r.getD 1 []))) (fun d => ((aR (aN d.a 3)), (aI (aN d.a 4)))) (fun d y h => out1_eval h) (fun d => by kernel_rfl) (fun n x => by kernel_rfl) (fun n r => ⟨_, rfl⟩)
theorem l14 (k : Nat) : LoopOk Tryz.prog (S k) (lp (lp (bodyF (Go.Proofs.Tryz.f64)) 1) 0) := loopOk_mk (C := C k) (hC k) (Loops.all (n := 0) (by kernel_rfl) trivial) (lt := t14) (den := e14 k) (by kernel_rfl) (N := (ByteArray × Rows × Rows × Int × Row × Row)) (A := (Int × Row)) (R := Row)
 (fun n x => a14 n.1 n.2.1 n.2.2.1 n.2.2.2.1 n.2.2.2.2.1 n.2.2.2.2.2 x) (fun n r => o14_0 n.1 n.2.1 n.2.2.1 n.2.2.2.1 n.2.2.2.2.1 n.2.2.2.2.2 r) (fun n x => s14 k n.1 n.2.1 n.2.2.1 n.2.2.2.1 n.2.2.2.2.1 n.2.2.2.2.2 x) k (fun d => ((aS (aN d.a 0)), (aR (aN d.a 3)), (aR (aN d.a 4)), (aI (aN d.a 5)), (d.r.getD 0 []), (d.r.getD 1 []))) (fun d => ((aI (aN d.a 7)), (d.r.getD 2 []))) (fun d y h => out1_eval h) (fun d => by kernel_rfl) (fun n x => by kernel_rfl) (fun n r => ⟨_, rfl⟩)
theorem l10 (k : Nat) : LoopOk Tryz.prog (S k) (lp (bodyF (Go.Proofs.Tryz.f64)) 1) := loopOk_mk (C := C k) (hC k) (Loops.all (n := 1) (by kernel_rfl) ⟨trivial, l14 k⟩) (lt := t10) (den := e10 k) (by kernel_rfl) (N := (ByteArray × Rows × Row × Row)) (A := (Rows × Int)) (R := Rows)
 (fun n x => a10 n.1 n.2.1 n.2.2.1 n.2.2.2 x) (fun n r => o10_0 n.1 n.2.1 n.2.2.1 n.2.2.2 r) (fun n x => s10 k n.1 n.2.1 n.2.2.1 n.2.2.2 x) k (fun d => ((aS (aN d.a 0)), (aR (aN d.a 3)), (d.r.getD 0 []), (d.r.getD 1 []))) (fun d => ((aR (aN d.a 4)), (aI (aN d.a 5)))) (fun d y h => out1_eval h) (fun d => by kernel_rfl) (fun n x => by kernel_rfl) (fun n r => ⟨_, rfl⟩)
theorem ok (k : Nat) : FunOk Tryz.prog 64 (d k) := fun_mk (C := C k) (hC k) (S := S k) Tryz.func64 (by kernel_rfl) (by kernel_rfl) (Loops.all (n := 2) (by kernel_rfl) ⟨⟨trivial, l3 k⟩, l10 k⟩) (fun as_ => by kernel_rfl)
end ref37_Counts
namespace ref37_of
noncomputable def C (k : Nat) : Cx := ⟨Tryz.prog, tab [], [], [], tab []⟩
noncomputable def t3 : LoopT := ⟨⟨48, [], [(0, .sl 117 none), (1, .str), (7, .int .i64), (8, .int .i64), (9, .bool), (10, .int .i64)], [], [], []⟩, (fun | .exit 0 => some ⟨48, [], [(7, .int .i64), (8, .int .i64), (9, .bool)], [], [], []⟩ | _ => none)⟩
noncomputable def s3 (k : Nat) (c0 : Rows) (c1 : ByteArray) (x : (Int × Int × Bool × Int)) : T ((Int × Int × Bool × Int) ⊕ (Int × Int × Bool)) :=
  .test (iLt x.2.2.2 (rLen c0))
   (.test (bImp (bNot (iEq x.2.2.2 (0))) (iIn x.2.2.2 (rLen c0)))
    (.test (bIte (iEq x.2.2.2 (0)) true (iLt (rInt (rAt c0 x.2.2.2) 1) x.2.1))
     (.test (iIn x.2.2.2 (rLen c0))
      (.test (iIn x.2.2.2 (rLen c0))
       (.test (sEq (rStr (rAt c0 x.2.2.2) 0) c1)
        (.test (iIn x.2.2.2 (rLen c0))
         (.ret (.inl ((rInt (rAt c0 x.2.2.2) 1), (rInt (rAt c0 x.2.2.2) 1), true, (iAdd .i64 x.2.2.2 (1)))))
         (.fail))
        (.ret (.inl (x.1, (rInt (rAt c0 x.2.2.2) 1), x.2.2.1, (iAdd .i64 x.2.2.2 (1))))))
       (.fail))
      (.fail))
     (.test (iIn x.2.2.2 (rLen c0))
      (.test (sEq (rStr (rAt c0 x.2.2.2) 0) c1)
       (.test (iIn x.2.2.2 (rLen c0))
        (.ret (.inl ((rInt (rAt c0 x.2.2.2) 1), x.2.1, true, (iAdd .i64 x.2.2.2 (1)))))
        (.fail))
       (.ret (.inl (x.1, x.2.1, x.2.2.1, (iAdd .i64 x.2.2.2 (1))))))
      (.fail)))
    (.fail))
   (.ret (.inr (x.1, x.2.1, x.2.2.1)))
noncomputable def a3 (c0 : Rows) (c1 : ByteArray) (x : (Int × Int × Bool × Int)) : Dt := ⟨[.r c0, .s c1, .i x.1, .i x.2.1, .b x.2.2.1, .i x.2.2.2], [], [], []⟩
noncomputable def o3_0 (c0 : Rows) (c1 : ByteArray) (r : (Int × Int × Bool)) : X × Dt := (.exit 0, ⟨[.i r.1, .i r.2.1, .b r.2.2], [], [], []⟩)
noncomputable def e3 (k : Nat) (d : Dt) : T (X × Dt) := out1 (iter (s3 k (aR (aN d.a 0)) (aS (aN d.a 1))) k ((aI (aN d.a 2)), (aI (aN d.a 3)), (aB (aN d.a 4)), (aI (aN d.a 5)))) default (o3_0 (aR (aN d.a 0)) (aS (aN d.a 1)))
noncomputable def S (k : Nat) : Subs := fun n => bif Nat.beq n 3 then some (loopV Tryz.prog t3 (e3 k)) else none
noncomputable def f (k : Nat) (a0 : Rows) (a1 : ByteArray) : T (Int × Int × Bool) :=
  .bnd (iter (ref37_of.s3 k a0 a1) k ((0), ((0), (false, (0))))) default fun r0 =>
  .ret (r0.1, r0.2.1, r0.2.2)
noncomputable def d (k : Nat) : Fun := mkFun [113, 9] (fun as_ => f k (vRows (vN as_ 0)) (vStr (vN as_ 1))) default (fun r => .tuple [.int .i64 r.1, .int .i64 r.2.1, .bool r.2.2])
theorem hC (k : Nat) : CxOk (C k) := CxOk.nil
theorem l3 (k : Nat) : LoopOk Tryz.prog (S k) (lp (bodyF (Go.Proofs.Tryz.f63)) 0) := loopOk_mk (C := C k) (hC k) (Loops.all (n := 0) (by kernel_rfl) trivial) (lt := t3) (den := e3 k) (by kernel_rfl) (N := (Rows × ByteArray)) (A := (Int × Int × Bool × Int)) (R := (Int × Int × Bool))
 (fun n x => a3 n.1 n.2 x) (fun n r => o3_0 n.1 n.2 r) (fun n x => s3 k n.1 n.2 x) k (fun d => ((aR (aN d.a 0)), (aS (aN d.a 1)))) (fun d => ((aI (aN d.a 2)), (aI (aN d.a 3)), (aB (aN d.a 4)), (aI (aN d.a 5)))) (fun d y h => out1_eval h) (fun d => by kernel_rfl) (fun n x => by kernel_rfl) (fun n r => ⟨_, rfl⟩)
theorem ok (k : Nat) : FunOk Tryz.prog 63 (d k) := fun_mk (C := C k) (hC k) (S := S k) Tryz.func63 (by kernel_rfl) (by kernel_rfl) (Loops.all (n := 1) (by kernel_rfl) ⟨trivial, l3 k⟩) (fun as_ => by kernel_rfl)
end ref37_of
namespace ref37_Score
noncomputable def C (k : Nat) : Cx := ⟨Tryz.prog, tab [(23, ref13_KeyOf.d k), (61, ref37_others.d k), (62, ref36_Domain.d k), (64, ref37_Counts.d k), (63, ref37_of.d k)], [], [], tab []⟩
noncomputable def t4 : LoopT := ⟨⟨63, [], [(4, .ptr 4 0), (5, .ptr 5 0), (7, .ptr 7 0), (8, .int .i64), (9, .int .i64)], [], [(4, 45), (5, 51), (7, 26)], []⟩, (fun | .exit 0 => some ⟨63, [], [(8, .int .i64)], [], [], []⟩ | _ => none)⟩
noncomputable def s4 (k : Nat) (c0 : Row) (c1 : Row) (c2 : Row) (x : (Int × Int)) : T ((Int × Int) ⊕ Int) :=
  .test (iLt x.2 (rLen (rSl c0 21)))
   (.test (iIn x.2 (rLen (rSl c0 21)))
    (.test (rBool (rAt (rSl c0 21) x.2) 3)
     (.ret (.inl (x.1, (iAdd .i64 x.2 (1)))))
     (.bnd (ref36_Domain.f k (et 51 c1) (rStr (rAt (rSl c0 21) x.2) 1)).eval default fun r0 =>
     .test r0.2
      (.bnd (ref37_Counts.f k (et 26 c2) (rStr c0 1) (et 112 (rAt (rSl c0 21) x.2))).eval default fun r1 =>
      .bnd (ref37_of.f k r1 r0.1).eval default fun r2 =>
      .ret (.inl ((iAdd .i64 x.1 r2.1), (iAdd .i64 x.2 (1)))))
      (.ret (.inl ((iAdd .i64 x.1 (40)), (iAdd .i64 x.2 (1)))))))
    (.fail))
   (.ret (.inr x.1))
noncomputable def a4 (c0 : Row) (c1 : Row) (c2 : Row) (x : (Int × Int)) : Dt := ⟨[.u, .u, .u, .i x.1, .i x.2], [], [et 45 c0, et 51 c1, et 26 c2], []⟩
noncomputable def o4_0 (c0 : Row) (c1 : Row) (c2 : Row) (r : Int) : X × Dt := (.exit 0, ⟨[.i r], [], [], []⟩)
noncomputable def e4 (k : Nat) (d : Dt) : T (X × Dt) := out1 (iter (s4 k (d.r.getD 0 []) (d.r.getD 1 []) (d.r.getD 2 [])) k ((aI (aN d.a 3)), (aI (aN d.a 4)))) default (o4_0 (d.r.getD 0 []) (d.r.getD 1 []) (d.r.getD 2 []))
noncomputable def S (k : Nat) : Subs := fun n => bif Nat.beq n 4 then some (loopV Tryz.prog t4 (e4 k)) else none
noncomputable def f (k : Nat) (a0 : Row) (a1 : Row) (a2 : Row) : T Int :=
  .bnd (ref13_KeyOf.f k (et 32 a1)).eval default fun r0 =>
  .bnd (ref37_others.f k (et 26 a0) r0).eval default fun r1 =>
  .bnd (iter (ref37_Score.s4 k (et 45 a1) (et 51 a2) (et 26 r1)) k ((0), (0))) default fun r2 =>
  .ret r2
noncomputable def d (k : Nat) : Fun := mkFun [26, 45, 51] (fun as_ => f k (vRow (vN as_ 0)) (vRow (vN as_ 1)) (vRow (vN as_ 2))) default (fun r => .int .i64 r)
theorem hC (k : Nat) : CxOk (C k) := CxOk.cons (p := (23, ref13_KeyOf.d k)) (ref13_KeyOf.ok k) (CxOk.cons (p := (61, ref37_others.d k)) (ref37_others.ok k) (CxOk.cons (p := (62, ref36_Domain.d k)) (ref36_Domain.ok k) (CxOk.cons (p := (64, ref37_Counts.d k)) (ref37_Counts.ok k) (CxOk.cons (p := (63, ref37_of.d k)) (ref37_of.ok k) (CxOk.nil)))))
theorem l4 (k : Nat) : LoopOk Tryz.prog (S k) (lp (bodyF (Go.Proofs.Tryz.f33)) 0) := loopOk_mk (C := C k) (hC k) (Loops.all (n := 0) (by kernel_rfl) trivial) (lt := t4) (den := e4 k) (by kernel_rfl) (N := (Row × Row × Row)) (A := (Int × Int)) (R := Int)
 (fun n x => a4 n.1 n.2.1 n.2.2 x) (fun n r => o4_0 n.1 n.2.1 n.2.2 r) (fun n x => s4 k n.1 n.2.1 n.2.2 x) k (fun d => ((d.r.getD 0 []), (d.r.getD 1 []), (d.r.getD 2 []))) (fun d => ((aI (aN d.a 3)), (aI (aN d.a 4)))) (fun d y h => out1_eval h) (fun d => by kernel_rfl) (fun n x => by kernel_rfl) (fun n r => ⟨_, rfl⟩)
theorem ok (k : Nat) : FunOk Tryz.prog 33 (d k) := fun_mk (C := C k) (hC k) (S := S k) Tryz.func33 (by kernel_rfl) (by kernel_rfl) (Loops.all (n := 1) (by kernel_rfl) ⟨trivial, l4 k⟩) (fun as_ => by kernel_rfl)
end ref37_Score
namespace ref39_Total
noncomputable def C (k : Nat) : Cx := ⟨Tryz.prog, tab [(31, ref36_Preference.d k), (30, ref01_Clamp.d k), (12, ref39_Spare.d k), (14, ref39_Balance.d k), (32, ref35_Soft.d k), (33, ref37_Score.d k)], [], [], tab []⟩
noncomputable def S (k : Nat) : Subs := fun n => none
noncomputable def f (k : Nat) (a0 : Row) (a1 : Row) (a2 : Row) : T Int :=
  .bnd (ref36_Preference.f k (et 26 a0) (et 45 a1) (et 51 a2)).eval default fun r0 =>
  .bnd (ref01_Clamp.f k r0 (-100) (100)).eval default fun r1 =>
  .bnd (ref39_Spare.f k (et 26 a0) (et 45 a1) (et 51 a2)).eval default fun r2 =>
  .bnd (ref39_Balance.f k (et 26 a0) (et 45 a1) (et 51 a2)).eval default fun r3 =>
  .bnd (ref35_Soft.f k (rSl a2 18) (rSl a1 22)).eval default fun r4 =>
  .bnd (ref37_Score.f k (et 26 a0) (et 45 a1) (et 51 a2)).eval default fun r5 =>
  .ret (iSub .i64 (iSub .i64 (iAdd .i64 (iAdd .i64 r2 r3) r1) (iMul .i64 (10) r4)) (iMul .i64 (5) r5))
noncomputable def d (k : Nat) : Fun := mkFun [26, 45, 51] (fun as_ => f k (vRow (vN as_ 0)) (vRow (vN as_ 1)) (vRow (vN as_ 2))) default (fun r => .int .i64 r)
theorem hC (k : Nat) : CxOk (C k) := CxOk.cons (p := (31, ref36_Preference.d k)) (ref36_Preference.ok k) (CxOk.cons (p := (30, ref01_Clamp.d k)) (ref01_Clamp.ok k) (CxOk.cons (p := (12, ref39_Spare.d k)) (ref39_Spare.ok k) (CxOk.cons (p := (14, ref39_Balance.d k)) (ref39_Balance.ok k) (CxOk.cons (p := (32, ref35_Soft.d k)) (ref35_Soft.ok k) (CxOk.cons (p := (33, ref37_Score.d k)) (ref37_Score.ok k) (CxOk.nil))))))
theorem ok (k : Nat) : FunOk Tryz.prog 16 (d k) := fun_mk (C := C k) (hC k) (S := S k) Tryz.func16 (by kernel_rfl) (by kernel_rfl) (Loops.all (n := 0) (by kernel_rfl) trivial) (fun as_ => by kernel_rfl)
end ref39_Total
namespace law39_ScoreSays
noncomputable def C (k : Nat) : Cx := ⟨Tryz.prog, tab [(7, law39_small.d k), (8, law36_SmallNode.d k), (9, law36_Distinct.d k), (10, law39_lives.d k), (11, score_Spare.d k), (12, ref39_Spare.d k), (13, score_Balance.d k), (14, ref39_Balance.d k), (15, score_Total.d k), (16, ref39_Total.d k)], [], [], tab []⟩
noncomputable def S (k : Nat) : Subs := fun n => none
noncomputable def f (k : Nat) (a0 : Row) (a1 : Row) (a2 : Row) : T Bool :=
  .bnd (law39_small.f k (et 26 a0) (et 45 a1) []).eval default fun r0 =>
  .opt (bNot (bNot r0)) (law36_SmallNode.f k (et 51 a2)).eval default fun r1 =>
  .opt (bNot (bIte (bNot r0) true (bNot r1))) (law36_Distinct.f k (rSl a0 1)).eval default fun r2 =>
  .test (bIte (bIte (bNot r0) true (bNot r1)) true (bNot r2))
   (.bnd (law39_lives.f k).eval default fun r3 =>
   .ret r3)
   (.bnd (score_Spare.f k (et 26 a0) (et 45 a1) (et 51 a2)).eval default fun r4 =>
   .bnd (ref39_Spare.f k (et 26 a0) (et 45 a1) (et 51 a2)).eval default fun r5 =>
   .opt (iEq r4 r5) (score_Balance.f k (et 26 a0) (et 45 a1) (et 51 a2)).eval default fun r6 =>
   .opt (iEq r4 r5) (ref39_Balance.f k (et 26 a0) (et 45 a1) (et 51 a2)).eval default fun r7 =>
   .opt (bIte (iEq r4 r5) (iEq r6 r7) false) (score_Total.f k (et 26 a0) (et 45 a1) (et 51 a2)).eval default fun r8 =>
   .opt (bIte (iEq r4 r5) (iEq r6 r7) false) (ref39_Total.f k (et 26 a0) (et 45 a1) (et 51 a2)).eval default fun r9 =>
   .opt (bIte (bIte (iEq r4 r5) (iEq r6 r7) false) (iEq r8 r9) false) (law39_lives.f k).eval default fun r10 =>
   .ret (bIte (bIte (bIte (iEq r4 r5) (iEq r6 r7) false) (iEq r8 r9) false) r10 false))
noncomputable def d (k : Nat) : Fun := mkFun [26, 45, 51] (fun as_ => f k (vRow (vN as_ 0)) (vRow (vN as_ 1)) (vRow (vN as_ 2))) default (fun r => .bool r)
theorem hC (k : Nat) : CxOk (C k) := CxOk.cons (p := (7, law39_small.d k)) (law39_small.ok k) (CxOk.cons (p := (8, law36_SmallNode.d k)) (law36_SmallNode.ok k) (CxOk.cons (p := (9, law36_Distinct.d k)) (law36_Distinct.ok k) (CxOk.cons (p := (10, law39_lives.d k)) (law39_lives.ok k) (CxOk.cons (p := (11, score_Spare.d k)) (score_Spare.ok k) (CxOk.cons (p := (12, ref39_Spare.d k)) (ref39_Spare.ok k) (CxOk.cons (p := (13, score_Balance.d k)) (score_Balance.ok k) (CxOk.cons (p := (14, ref39_Balance.d k)) (ref39_Balance.ok k) (CxOk.cons (p := (15, score_Total.d k)) (score_Total.ok k) (CxOk.cons (p := (16, ref39_Total.d k)) (ref39_Total.ok k) (CxOk.nil))))))))))
theorem ok (k : Nat) : FunOk Tryz.prog 3 (d k) := fun_mk (C := C k) (hC k) (S := S k) Tryz.func3 (by kernel_rfl) (by kernel_rfl) (Loops.all (n := 0) (by kernel_rfl) trivial) (fun as_ => by kernel_rfl)
end law39_ScoreSays
namespace ref39_Best
noncomputable def C (k : Nat) : Cx := ⟨Tryz.prog, tab [(19, ref36_NodeOf.d k), (16, ref39_Total.d k)], [], [], tab []⟩
noncomputable def t5 : LoopT := ⟨⟨63, [], [(2, .sl 9 none), (3, .ptr 3 0), (4, .ptr 4 0), (8, .str), (9, .int .i64), (10, .bool), (11, .int .i64)], [], [(3, 26), (4, 45)], []⟩, (fun | .exit 0 => some ⟨63, [], [(8, .str), (10, .bool)], [], [], []⟩ | _ => none)⟩
noncomputable def s5 (k : Nat) (c0 : Rows) (c1 : Row) (c2 : Row) (x : (ByteArray × Int × Bool × Int)) : T ((ByteArray × Int × Bool × Int) ⊕ (ByteArray × Bool)) :=
  .test (iLt x.2.2.2 (rLen c0))
   (.test (iIn x.2.2.2 (rLen c0))
    (.bnd (ref36_NodeOf.f k (et 26 c1) (rStr (rAt c0 x.2.2.2) 0)).eval default fun r0 =>
    .test (bNot r0.2)
     (.ret (.inl (x.1, x.2.1, x.2.2.1, (iAdd .i64 x.2.2.2 (1)))))
     (.bnd (ref39_Total.f k (et 26 c1) (et 45 c2) (et 51 r0.1)).eval default fun r1 =>
     .test (bImp (bAnd (bNot (bIte (bNot x.2.2.1) true (iLt x.2.1 r1))) (iEq r1 x.2.1)) (iIn x.2.2.2 (rLen c0)))
      (.test (bIte (bIte (bNot x.2.2.1) true (iLt x.2.1 r1)) true (bIte (iEq r1 x.2.1) (sLt (rStr (rAt c0 x.2.2.2) 0) x.1) false))
       (.test (iIn x.2.2.2 (rLen c0))
        (.ret (.inl ((rStr (rAt c0 x.2.2.2) 0), r1, true, (iAdd .i64 x.2.2.2 (1)))))
        (.fail))
       (.ret (.inl (x.1, x.2.1, true, (iAdd .i64 x.2.2.2 (1))))))
      (.fail)))
    (.fail))
   (.ret (.inr (x.1, x.2.2.1)))
noncomputable def a5 (c0 : Rows) (c1 : Row) (c2 : Row) (x : (ByteArray × Int × Bool × Int)) : Dt := ⟨[.r c0, .u, .u, .s x.1, .i x.2.1, .b x.2.2.1, .i x.2.2.2], [], [et 26 c1, et 45 c2], []⟩
noncomputable def o5_0 (c0 : Rows) (c1 : Row) (c2 : Row) (r : (ByteArray × Bool)) : X × Dt := (.exit 0, ⟨[.s r.1, .b r.2], [], [], []⟩)
noncomputable def e5 (k : Nat) (d : Dt) : T (X × Dt) := out1 (iter (s5 k (aR (aN d.a 0)) (d.r.getD 0 []) (d.r.getD 1 [])) k ((aS (aN d.a 3)), (aI (aN d.a 4)), (aB (aN d.a 5)), (aI (aN d.a 6)))) default (o5_0 (aR (aN d.a 0)) (d.r.getD 0 []) (d.r.getD 1 []))
noncomputable def S (k : Nat) : Subs := fun n => bif Nat.beq n 5 then some (loopV Tryz.prog t5 (e5 k)) else none
noncomputable def f (k : Nat) (a0 : Row) (a1 : Row) (a2 : Rows) : T (ByteArray × Bool) :=
  .bnd (iter (ref39_Best.s5 k a2 (et 26 a0) (et 45 a1)) k (ByteArray.empty, ((0), (false, (0))))) default fun r0 =>
  .ret (r0.1, r0.2)
noncomputable def d (k : Nat) : Fun := mkFun [26, 45, 29] (fun as_ => f k (vRow (vN as_ 0)) (vRow (vN as_ 1)) (vRows (vN as_ 2))) default (fun r => .tuple [.str r.1, .bool r.2])
theorem hC (k : Nat) : CxOk (C k) := CxOk.cons (p := (19, ref36_NodeOf.d k)) (ref36_NodeOf.ok k) (CxOk.cons (p := (16, ref39_Total.d k)) (ref39_Total.ok k) (CxOk.nil))
theorem l5 (k : Nat) : LoopOk Tryz.prog (S k) (lp (bodyF (Go.Proofs.Tryz.f18)) 0) := loopOk_mk (C := C k) (hC k) (Loops.all (n := 0) (by kernel_rfl) trivial) (lt := t5) (den := e5 k) (by kernel_rfl) (N := (Rows × Row × Row)) (A := (ByteArray × Int × Bool × Int)) (R := (ByteArray × Bool))
 (fun n x => a5 n.1 n.2.1 n.2.2 x) (fun n r => o5_0 n.1 n.2.1 n.2.2 r) (fun n x => s5 k n.1 n.2.1 n.2.2 x) k (fun d => ((aR (aN d.a 0)), (d.r.getD 0 []), (d.r.getD 1 []))) (fun d => ((aS (aN d.a 3)), (aI (aN d.a 4)), (aB (aN d.a 5)), (aI (aN d.a 6)))) (fun d y h => out1_eval h) (fun d => by kernel_rfl) (fun n x => by kernel_rfl) (fun n r => ⟨_, rfl⟩)
theorem ok (k : Nat) : FunOk Tryz.prog 18 (d k) := fun_mk (C := C k) (hC k) (S := S k) Tryz.func18 (by kernel_rfl) (by kernel_rfl) (Loops.all (n := 1) (by kernel_rfl) ⟨trivial, l5 k⟩) (fun as_ => by kernel_rfl)
end ref39_Best
namespace law39_ScorePicks
noncomputable def C (k : Nat) : Cx := ⟨Tryz.prog, tab [(7, law39_small.d k), (9, law36_Distinct.d k), (10, law39_lives.d k), (17, score_Best.d k), (18, ref39_Best.d k)], [], [], tab []⟩
noncomputable def S (k : Nat) : Subs := fun n => none
noncomputable def f (k : Nat) (a0 : Row) (a1 : Row) (a2 : Rows) : T Bool :=
  .bnd (law39_small.f k (et 26 a0) (et 45 a1) a2).eval default fun r0 =>
  .opt (bNot (bNot r0)) (law36_Distinct.f k (rSl a0 1)).eval default fun r1 =>
  .test (bIte (bNot r0) true (bNot r1))
   (.bnd (law39_lives.f k).eval default fun r2 =>
   .ret r2)
   (.bnd (score_Best.f k (et 26 a0) (et 45 a1) a2).eval default fun r3 =>
   .bnd (ref39_Best.f k (et 26 a0) (et 45 a1) a2).eval default fun r4 =>
   .opt (bIte (sEq r3.1 r4.1) (bEq r3.2 r4.2) false) (law39_lives.f k).eval default fun r5 =>
   .ret (bIte (bIte (sEq r3.1 r4.1) (bEq r3.2 r4.2) false) r5 false))
noncomputable def d (k : Nat) : Fun := mkFun [26, 45, 29] (fun as_ => f k (vRow (vN as_ 0)) (vRow (vN as_ 1)) (vRows (vN as_ 2))) default (fun r => .bool r)
theorem hC (k : Nat) : CxOk (C k) := CxOk.cons (p := (7, law39_small.d k)) (law39_small.ok k) (CxOk.cons (p := (9, law36_Distinct.d k)) (law36_Distinct.ok k) (CxOk.cons (p := (10, law39_lives.d k)) (law39_lives.ok k) (CxOk.cons (p := (17, score_Best.d k)) (score_Best.ok k) (CxOk.cons (p := (18, ref39_Best.d k)) (ref39_Best.ok k) (CxOk.nil)))))
theorem ok (k : Nat) : FunOk Tryz.prog 4 (d k) := fun_mk (C := C k) (hC k) (S := S k) Tryz.func4 (by kernel_rfl) (by kernel_rfl) (Loops.all (n := 0) (by kernel_rfl) trivial) (fun as_ => by kernel_rfl)
end law39_ScorePicks
namespace law39_ScoreBest
noncomputable def C (k : Nat) : Cx := ⟨Tryz.prog, tab [(7, law39_small.d k), (9, law36_Distinct.d k), (10, law39_lives.d k), (17, score_Best.d k), (19, ref36_NodeOf.d k), (15, score_Total.d k)], [], [], tab []⟩
noncomputable def t7 : LoopT := ⟨⟨151, [], [(2, .sl 9 none), (3, .int .u8), (4, .ptr 4 0), (5, .ptr 5 0), (9, .str), (10, .bool), (11, .ptr 11 0), (12, .bool), (13, .bool), (52, .sl 9 none), (53, .int .i64), (54, .int .i64)], [], [(4, 26), (5, 45), (11, 51)], []⟩, (fun | .ret => some ⟨151, [], [(8, .bool)], [], [], []⟩ | .exit 0 => some ⟨151, [], [(2, .sl 9 none), (3, .int .u8), (4, .ptr 4 0), (5, .ptr 5 0), (9, .str), (10, .bool), (13, .bool)], [], [(4, 26), (5, 45)], []⟩ | _ => none)⟩
noncomputable def s7 (k : Nat) (c0 : Rows) (c1 : Int) (c2 : ByteArray) (c3 : Bool) (c4 : Bool) (c5 : Rows) (c6 : Int) (c7 : Row) (c8 : Row) (c9 : Row) (x : (Bool × Int)) : T ((Bool × Int) ⊕ (Bool ⊕ Bool)) :=
  .test (iLt x.2 c6)
   (.test (iIn x.2 (rLen c5))
    (.bnd (ref36_NodeOf.f k (et 26 c7) (rStr (rAt c5 x.2) 0)).eval default fun r0 =>
    .opt (bAnd r0.2 (bNot (bIte (bNot c3) true (bNot c4)))) (score_Total.f k (et 26 c7) (et 45 c8) (et 51 r0.1)).eval default fun r1 =>
    .opt (bAnd r0.2 (bNot (bIte (bNot c3) true (bNot c4)))) (score_Total.f k (et 26 c7) (et 45 c8) (et 51 c9)).eval default fun r2 =>
    .opt (bAnd r0.2 (bNot (bIte (bIte (bNot c3) true (bNot c4)) true (iLt r2 r1)))) (score_Total.f k (et 26 c7) (et 45 c8) (et 51 r0.1)).eval default fun r3 =>
    .opt (bAnd r0.2 (bNot (bIte (bIte (bNot c3) true (bNot c4)) true (iLt r2 r1)))) (score_Total.f k (et 26 c7) (et 45 c8) (et 51 c9)).eval default fun r4 =>
    .test (bIte r0.2 (bIte (bIte (bIte (bNot c3) true (bNot c4)) true (iLt r2 r1)) true (bIte (iEq r3 r4) (sLt (rStr (rAt c5 x.2) 0) c2) false)) false)
     (.ret (.inr (.inl false)))
     (.ret (.inl ((bIte x.1 true (sEq (rStr (rAt c5 x.2) 0) c2)), (iAdd .i64 x.2 (1))))))
    (.fail))
   (.ret (.inr (.inr x.1)))
noncomputable def a7 (c0 : Rows) (c1 : Int) (c2 : ByteArray) (c3 : Bool) (c4 : Bool) (c5 : Rows) (c6 : Int) (c7 : Row) (c8 : Row) (c9 : Row) (x : (Bool × Int)) : Dt := ⟨[.r c0, .i c1, .u, .u, .s c2, .b c3, .u, .b c4, .b x.1, .r c5, .i c6, .i x.2], [], [et 26 c7, et 45 c8, et 51 c9], []⟩
noncomputable def o7_0 (c0 : Rows) (c1 : Int) (c2 : ByteArray) (c3 : Bool) (c4 : Bool) (c5 : Rows) (c6 : Int) (c7 : Row) (c8 : Row) (c9 : Row) (r : Bool) : X × Dt := (.ret, ⟨[.b r], [], [], []⟩)
noncomputable def o7_1 (c0 : Rows) (c1 : Int) (c2 : ByteArray) (c3 : Bool) (c4 : Bool) (c5 : Rows) (c6 : Int) (c7 : Row) (c8 : Row) (c9 : Row) (r : Bool) : X × Dt := (.exit 0, ⟨[.r c0, .i c1, .u, .u, .s c2, .b c3, .b r], [], [(et 26 c7), (et 45 c8)], []⟩)
noncomputable def e7 (k : Nat) (d : Dt) : T (X × Dt) := out2 (iter (s7 k (aR (aN d.a 0)) (aI (aN d.a 1)) (aS (aN d.a 4)) (aB (aN d.a 5)) (aB (aN d.a 7)) (aR (aN d.a 9)) (aI (aN d.a 10)) (d.r.getD 0 []) (d.r.getD 1 []) (d.r.getD 2 [])) k ((aB (aN d.a 8)), (aI (aN d.a 11)))) (o7_0 (aR (aN d.a 0)) (aI (aN d.a 1)) (aS (aN d.a 4)) (aB (aN d.a 5)) (aB (aN d.a 7)) (aR (aN d.a 9)) (aI (aN d.a 10)) (d.r.getD 0 []) (d.r.getD 1 []) (d.r.getD 2 [])) (o7_1 (aR (aN d.a 0)) (aI (aN d.a 1)) (aS (aN d.a 4)) (aB (aN d.a 5)) (aB (aN d.a 7)) (aR (aN d.a 9)) (aI (aN d.a 10)) (d.r.getD 0 []) (d.r.getD 1 []) (d.r.getD 2 []))
noncomputable def S (k : Nat) : Subs := fun n => bif Nat.beq n 7 then some (loopV Tryz.prog t7 (e7 k)) else none
noncomputable def f (k : Nat) (a0 : Row) (a1 : Row) (a2 : Rows) (a3 : Int) : T Bool :=
  .bnd (law39_small.f k (et 26 a0) (et 45 a1) a2).eval default fun r0 =>
  .opt (bNot (bIte (bNot r0) true (iLt (10) (rLen a2)))) (law36_Distinct.f k (rSl a0 1)).eval default fun r1 =>
  .test (bIte (bIte (bNot r0) true (iLt (10) (rLen a2))) true (bNot r1))
   (.bnd (law39_lives.f k).eval default fun r2 =>
   .ret r2)
   (.bnd (score_Best.f k (et 26 a0) (et 45 a1) a2).eval default fun r3 =>
   .bnd (ref36_NodeOf.f k (et 26 a0) r3.1).eval default fun r4 =>
   .cas (iter (law39_ScoreBest.s7 k a2 a3 r3.1 r3.2 r4.2 a2 (rLen a2) (et 26 a0) (et 45 a1) (et 51 r4.1)) k (false, (0))) (fun r5 =>
    .ret r5) (fun r6 =>
    .test (bIte r3.2 (bNot r6) false)
     (.ret false)
     (.test (iLt (0) (rLen a2))
      (.test (bNot (iEq (rLen a2) (0)))
       (.test (iCut (iRem (iCv .i64 a3) (rLen a2)) (rLen a2) (rLen a2))
        (.test (rOk 16 (rLen []) (rLen (rCut a2 (iRem (iCv .i64 a3) (rLen a2)) (rLen a2))))
         (.test (iCut (0) (iRem (iCv .i64 a3) (rLen a2)) (rLen a2))
          (.test (rOk 16 (rLen (rCat [] (rCut a2 (iRem (iCv .i64 a3) (rLen a2)) (rLen a2)))) (rLen (rCut a2 (0) (iRem (iCv .i64 a3) (rLen a2)))))
           (.test (iIn (iRem (iCv .i64 a3) (rLen a2)) (rLen a2))
            (.test (rOk 16 (rLen (rCat (rCat [] (rCut a2 (iRem (iCv .i64 a3) (rLen a2)) (rLen a2))) (rCut a2 (0) (iRem (iCv .i64 a3) (rLen a2))))) (rLen [[.str (rStr (rAt a2 (iRem (iCv .i64 a3) (rLen a2))) 0)]]))
             (.bnd (score_Best.f k (et 26 a0) (et 45 a1) (rCat (rCat (rCat [] (rCut a2 (iRem (iCv .i64 a3) (rLen a2)) (rLen a2))) (rCut a2 (0) (iRem (iCv .i64 a3) (rLen a2)))) [[.str (rStr (rAt a2 (iRem (iCv .i64 a3) (rLen a2))) 0)]])).eval default fun r7 =>
             .test (bIte (bNot (sEq r7.1 r3.1)) true (bNot (bEq r7.2 r3.2)))
              (.ret false)
              (.bnd (law39_lives.f k).eval default fun r8 =>
              .ret r8))
             (.fail))
            (.fail))
           (.fail))
          (.fail))
         (.fail))
        (.fail))
       (.fail))
      (.bnd (law39_lives.f k).eval default fun r9 =>
      .ret r9))))
noncomputable def d (k : Nat) : Fun := mkFun [26, 45, 29, 5] (fun as_ => f k (vRow (vN as_ 0)) (vRow (vN as_ 1)) (vRows (vN as_ 2)) (vInt (vN as_ 3))) default (fun r => .bool r)
theorem hC (k : Nat) : CxOk (C k) := CxOk.cons (p := (7, law39_small.d k)) (law39_small.ok k) (CxOk.cons (p := (9, law36_Distinct.d k)) (law36_Distinct.ok k) (CxOk.cons (p := (10, law39_lives.d k)) (law39_lives.ok k) (CxOk.cons (p := (17, score_Best.d k)) (score_Best.ok k) (CxOk.cons (p := (19, ref36_NodeOf.d k)) (ref36_NodeOf.ok k) (CxOk.cons (p := (15, score_Total.d k)) (score_Total.ok k) (CxOk.nil))))))
theorem l7 (k : Nat) : LoopOk Tryz.prog (S k) (lp (bodyF (Go.Proofs.Tryz.f5)) 0) := loopOk_mk (C := C k) (hC k) (Loops.all (n := 0) (by kernel_rfl) trivial) (lt := t7) (den := e7 k) (by kernel_rfl) (N := (Rows × Int × ByteArray × Bool × Bool × Rows × Int × Row × Row × Row)) (A := (Bool × Int)) (R := (Bool ⊕ Bool))
 (fun n x => a7 n.1 n.2.1 n.2.2.1 n.2.2.2.1 n.2.2.2.2.1 n.2.2.2.2.2.1 n.2.2.2.2.2.2.1 n.2.2.2.2.2.2.2.1 n.2.2.2.2.2.2.2.2.1 n.2.2.2.2.2.2.2.2.2 x) (fun n r => Sum.elim (o7_0 n.1 n.2.1 n.2.2.1 n.2.2.2.1 n.2.2.2.2.1 n.2.2.2.2.2.1 n.2.2.2.2.2.2.1 n.2.2.2.2.2.2.2.1 n.2.2.2.2.2.2.2.2.1 n.2.2.2.2.2.2.2.2.2) (o7_1 n.1 n.2.1 n.2.2.1 n.2.2.2.1 n.2.2.2.2.1 n.2.2.2.2.2.1 n.2.2.2.2.2.2.1 n.2.2.2.2.2.2.2.1 n.2.2.2.2.2.2.2.2.1 n.2.2.2.2.2.2.2.2.2) r) (fun n x => s7 k n.1 n.2.1 n.2.2.1 n.2.2.2.1 n.2.2.2.2.1 n.2.2.2.2.2.1 n.2.2.2.2.2.2.1 n.2.2.2.2.2.2.2.1 n.2.2.2.2.2.2.2.2.1 n.2.2.2.2.2.2.2.2.2 x) k (fun d => ((aR (aN d.a 0)), (aI (aN d.a 1)), (aS (aN d.a 4)), (aB (aN d.a 5)), (aB (aN d.a 7)), (aR (aN d.a 9)), (aI (aN d.a 10)), (d.r.getD 0 []), (d.r.getD 1 []), (d.r.getD 2 []))) (fun d => ((aB (aN d.a 8)), (aI (aN d.a 11)))) (fun d y h => out2_eval h) (fun d => by kernel_rfl) (fun n x => by kernel_rfl) (fun n r => by rcases r with r | r <;> exact ⟨_, rfl⟩)
theorem ok (k : Nat) : FunOk Tryz.prog 5 (d k) := fun_mk (C := C k) (hC k) (S := S k) Tryz.func5 (by kernel_rfl) (by kernel_rfl) (Loops.all (n := 1) (by kernel_rfl) ⟨trivial, l7 k⟩) (fun as_ => by kernel_rfl)
end law39_ScoreBest
namespace law39_ScoreShares
noncomputable def C (k : Nat) : Cx := ⟨Tryz.prog, tab [(7, law39_small.d k), (8, law36_SmallNode.d k), (9, law36_Distinct.d k), (10, law39_lives.d k), (11, score_Spare.d k), (13, score_Balance.d k)], [], [], tab []⟩
noncomputable def S (k : Nat) : Subs := fun n => none
noncomputable def f (k : Nat) (a0 : Row) (a1 : Row) (a2 : Row) (a3 : Row) : T Bool :=
  .bnd (law39_small.f k (et 26 a0) (et 45 a1) []).eval default fun r0 =>
  .opt (bNot (bNot r0)) (law36_SmallNode.f k (et 51 a2)).eval default fun r1 =>
  .opt (bNot (bIte (bNot r0) true (bNot r1))) (law36_Distinct.f k (rSl a0 1)).eval default fun r2 =>
  .test (bIte (bIte (bNot r0) true (bNot r1)) true (bNot r2))
   (.bnd (law39_lives.f k).eval default fun r3 =>
   .ret r3)
   (.bnd (score_Spare.f k (et 26 a0) (et 45 a1) (et 51 a2)).eval default fun r4 =>
   .bnd (score_Balance.f k (et 26 a0) (et 45 a1) (et 51 a2)).eval default fun r5 =>
   .test (bIte (bIte (bIte (iLt r4 (0)) true (iLt (100) r4)) true (iLt r5 (0))) true (iLt (100) r5))
    (.ret false)
    (.test (rOk 152 (rLen []) (rLen (rSl a1 17)))
     (.test (rOk 152 (rLen (rCat [] (rSl a1 17))) (rLen [(rJ [[.str ByteArray.empty, .str ByteArray.empty], (et 47 a3), [.int .i64 (0), .int .i64 (0), .int .i64 (0), .slice 227 [] .open, .slice 227 [] .open, .slice 227 [] .open]])]))
      (.bnd (score_Spare.f k (et 26 a0) (rJ [[.str (rStr a1 0), .str (rStr a1 1), .str (rStr a1 2)], (eo 47 a1 3), [.int .i64 (rInt a1 6), .bool (rBool a1 7), .int .i64 (rInt a1 8), .slice 89 (rSl a1 9) .open, .slice 91 (rSl a1 10) .open, .slice 9 (rSl a1 11) .open, .slice 93 (rSl a1 12) .open, .str (rStr a1 13)], (eo 47 a1 14), [.slice 65 (rCat (rCat [] (rSl a1 17)) [(rJ [[.str ByteArray.empty, .str ByteArray.empty], (et 47 a3), [.int .i64 (0), .int .i64 (0), .int .i64 (0), .slice 227 [] .open, .slice 227 [] .open, .slice 227 [] .open]])]) .open, .slice 129 (rSl a1 18) .open, .slice 103 (rSl a1 19) .open, .slice 107 (rSl a1 20) .open, .slice 112 (rSl a1 21) .open, .slice 147 (rSl a1 22) .open, .int .i64 (rInt a1 23), .bool (rBool a1 24)], (eo 47 a1 25), [.slice 218 (rSl a1 28) .open, .int .i64 (rInt a1 29), .str (rStr a1 30), .str (rStr a1 31)]]) (et 51 a2)).eval default fun r6 =>
      .opt (iLe r6 r4) (law39_lives.f k).eval default fun r7 =>
      .ret (bIte (iLe r6 r4) r7 false))
      (.fail))
     (.fail)))
noncomputable def d (k : Nat) : Fun := mkFun [26, 45, 51, 47] (fun as_ => f k (vRow (vN as_ 0)) (vRow (vN as_ 1)) (vRow (vN as_ 2)) (vRow (vN as_ 3))) default (fun r => .bool r)
theorem hC (k : Nat) : CxOk (C k) := CxOk.cons (p := (7, law39_small.d k)) (law39_small.ok k) (CxOk.cons (p := (8, law36_SmallNode.d k)) (law36_SmallNode.ok k) (CxOk.cons (p := (9, law36_Distinct.d k)) (law36_Distinct.ok k) (CxOk.cons (p := (10, law39_lives.d k)) (law39_lives.ok k) (CxOk.cons (p := (11, score_Spare.d k)) (score_Spare.ok k) (CxOk.cons (p := (13, score_Balance.d k)) (score_Balance.ok k) (CxOk.nil))))))
theorem ok (k : Nat) : FunOk Tryz.prog 6 (d k) := fun_mk (C := C k) (hC k) (S := S k) Tryz.func6 (by kernel_rfl) (by kernel_rfl) (Loops.all (n := 0) (by kernel_rfl) trivial) (fun as_ => by kernel_rfl)
end law39_ScoreShares
end Go.Proofs.YtilppppcafphbaaGreat.Ev
