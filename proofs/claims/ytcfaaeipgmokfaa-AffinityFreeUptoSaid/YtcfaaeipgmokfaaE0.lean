/- Go functions as Lean functions, printed by a program of this claim's author; each with its proof. Conditions: stated at each. -/
import Derived.Test.YtcfaaeipgmokfaaSndC
import Derived.Test.YtcfaaeipgmokfaaProg
namespace Go.Proofs.Ytcfaaeipgmokfaa.Ev
open Go
set_option linter.unusedVariables false
set_option maxRecDepth 100000
/-- A row in its type's form. -/
noncomputable abbrev et (t : Nat) (r : Row) : Row := eta Try.prog t r
/-- A part of a row, in its type's form. -/
noncomputable abbrev eo (t : Nat) (r : Row) (o : Nat) : Row := etaL Try.prog r o (ctsOf Try.prog t)
namespace ref19_str
noncomputable def C (k : Nat) : Cx := ⟨Try.prog, tab [], [], []⟩
noncomputable def S (k : Nat) : Subs := fun n => none
noncomputable def f (k : Nat) (a0 : ByteArray) : T Row :=
  .ret [.int .i64 (3), .int .i64 (0), .str a0, .slice 99 [] .open, .slice 122 [] .open]
noncomputable def d (k : Nat) : Fun := mkFun [9] (fun as_ => f k (vStr (vN as_ 0))) default (fun r => .agg (et 99 r))
theorem hC (k : Nat) : CxOk (C k) := CxOk.nil
theorem ok (k : Nat) : FunOk Try.prog 65 (d k) := fun_mk (C := C k) (hC k) (S := S k) Try.func65 (by kernel_rfl) (by kernel_rfl) (Loops.all (n := 0) (by kernel_rfl) trivial) (fun as_ => by kernel_rfl)
end ref19_str
namespace ref19_at
noncomputable def C (k : Nat) : Cx := ⟨Try.prog, tab [], [], []⟩
noncomputable def S (k : Nat) : Subs := fun n => none
noncomputable def f (k : Nat) (a0 : ByteArray) (a1 : Row) : T Row :=
  .ret (rJ [[.str a0], (et 99 a1)])
noncomputable def d (k : Nat) : Fun := mkFun [9, 99] (fun as_ => f k (vStr (vN as_ 0)) (vRow (vN as_ 1))) default (fun r => .agg (et 122 r))
theorem hC (k : Nat) : CxOk (C k) := CxOk.nil
theorem ok (k : Nat) : FunOk Try.prog 62 (d k) := fun_mk (C := C k) (hC k) (S := S k) Try.func62 (by kernel_rfl) (by kernel_rfl) (Loops.all (n := 0) (by kernel_rfl) trivial) (fun as_ => by kernel_rfl)
end ref19_at
namespace ref19_num
noncomputable def C (k : Nat) : Cx := ⟨Try.prog, tab [], [], []⟩
noncomputable def S (k : Nat) : Subs := fun n => none
noncomputable def f (k : Nat) (a0 : Int) : T Row :=
  .ret [.int .i64 (2), .int .i64 a0, .str ByteArray.empty, .slice 99 [] .open, .slice 122 [] .open]
noncomputable def d (k : Nat) : Fun := mkFun [3] (fun as_ => f k (vInt (vN as_ 0))) default (fun r => .agg (et 99 r))
theorem hC (k : Nat) : CxOk (C k) := CxOk.nil
theorem ok (k : Nat) : FunOk Try.prog 64 (d k) := fun_mk (C := C k) (hC k) (S := S k) Try.func64 (by kernel_rfl) (by kernel_rfl) (Loops.all (n := 0) (by kernel_rfl) trivial) (fun as_ => by kernel_rfl)
end ref19_num
namespace ref19_object
noncomputable def C (k : Nat) : Cx := ⟨Try.prog, tab [], [], []⟩
noncomputable def S (k : Nat) : Subs := fun n => none
noncomputable def f (k : Nat) (a0 : Rows) : T Row :=
  .ret [.int .i64 (5), .int .i64 (0), .str ByteArray.empty, .slice 99 [] .open, .slice 122 a0 .open]
noncomputable def d (k : Nat) : Fun := mkFun [97] (fun as_ => f k (vRows (vN as_ 0))) default (fun r => .agg (et 99 r))
theorem hC (k : Nat) : CxOk (C k) := CxOk.nil
theorem ok (k : Nat) : FunOk Try.prog 61 (d k) := fun_mk (C := C k) (hC k) (S := S k) Try.func61 (by kernel_rfl) (by kernel_rfl) (Loops.all (n := 0) (by kernel_rfl) trivial) (fun as_ => by kernel_rfl)
end ref19_object
namespace ref19_fromResources
noncomputable def C (k : Nat) : Cx := ⟨Try.prog, tab [(64, ref19_num.d k), (62, ref19_at.d k), (61, ref19_object.d k)], [], []⟩
noncomputable def S (k : Nat) : Subs := fun n => none
noncomputable def f (k : Nat) (a0 : Row) : T Row :=
  .bnd (ref19_num.f k (rInt a0 0)).eval default fun r0 =>
  .bnd (ref19_at.f k (bs [99, 112, 117]) (et 99 r0)).eval default fun r1 =>
  .bnd (ref19_num.f k (rInt a0 2)).eval default fun r2 =>
  .bnd (ref19_at.f k (bs [100, 105, 115, 107]) (et 99 r2)).eval default fun r3 =>
  .bnd (ref19_num.f k (rInt a0 1)).eval default fun r4 =>
  .bnd (ref19_at.f k (bs [109, 101, 109, 111, 114, 121]) (et 99 r4)).eval default fun r5 =>
  .bnd (ref19_object.f k [(et 122 r1), (et 122 r3), (et 122 r5)]).eval default fun r6 =>
  .ret (et 99 r6)
noncomputable def d (k : Nat) : Fun := mkFun [42] (fun as_ => f k (vRow (vN as_ 0))) default (fun r => .agg (et 99 r))
theorem hC (k : Nat) : CxOk (C k) := CxOk.cons (p := (64, ref19_num.d k)) (ref19_num.ok k) (CxOk.cons (p := (62, ref19_at.d k)) (ref19_at.ok k) (CxOk.cons (p := (61, ref19_object.d k)) (ref19_object.ok k) (CxOk.nil)))
theorem ok (k : Nat) : FunOk Try.prog 74 (d k) := fun_mk (C := C k) (hC k) (S := S k) Try.func74 (by kernel_rfl) (by kernel_rfl) (Loops.all (n := 0) (by kernel_rfl) trivial) (fun as_ => by kernel_rfl)
end ref19_fromResources
namespace ref19_list
noncomputable def C (k : Nat) : Cx := ⟨Try.prog, tab [], [], []⟩
noncomputable def S (k : Nat) : Subs := fun n => none
noncomputable def f (k : Nat) (a0 : Rows) : T Row :=
  .ret [.int .i64 (4), .int .i64 (0), .str ByteArray.empty, .slice 99 a0 .open, .slice 122 [] .open]
noncomputable def d (k : Nat) : Fun := mkFun [96] (fun as_ => f k (vRows (vN as_ 0))) default (fun r => .agg (et 99 r))
theorem hC (k : Nat) : CxOk (C k) := CxOk.nil
theorem ok (k : Nat) : FunOk Try.prog 76 (d k) := fun_mk (C := C k) (hC k) (S := S k) Try.func76 (by kernel_rfl) (by kernel_rfl) (Loops.all (n := 0) (by kernel_rfl) trivial) (fun as_ => by kernel_rfl)
end ref19_list
namespace ref19_fromProbes
noncomputable def C (k : Nat) : Cx := ⟨Try.prog, tab [(64, ref19_num.d k), (62, ref19_at.d k), (61, ref19_object.d k), (76, ref19_list.d k)], [], []⟩
noncomputable def t3 : LoopT := ⟨⟨46, [.tmp 3 43 99], [(0, .sl 149 none), (2, .ptr 2 0), (3, .sl 99 (some 43)), (4, .int .i64)], [], [(2, 99)], []⟩, (fun | .exit 0 => some ⟨46, [], [(2, .ptr 2 0), (3, .sl 99 (some 43))], [], [(2, 99)], []⟩ | _ => none)⟩
noncomputable def s3 (k : Nat) (c0 : Rows) (c1 : Row) (x : (Rows × Int)) : T ((Rows × Int) ⊕ Rows) :=
  .test (iLt x.2 (rLen c0))
   (.test (iIn x.2 (rLen c0))
    (.bnd (ref19_num.f k (rInt (rAt c0 x.2) 0)).eval default fun r0 =>
    .bnd (ref19_at.f k (bs [100, 101, 108, 97, 121]) (et 99 r0)).eval default fun r1 =>
    .test (iIn x.2 (rLen c0))
     (.bnd (ref19_num.f k (rInt (rAt c0 x.2) 3)).eval default fun r2 =>
     .bnd (ref19_at.f k (bs [102, 97, 105, 108, 117, 114, 101]) (et 99 r2)).eval default fun r3 =>
     .test (iIn x.2 (rLen c0))
      (.bnd (ref19_num.f k (rInt (rAt c0 x.2) 1)).eval default fun r4 =>
      .bnd (ref19_at.f k (bs [112, 101, 114, 105, 111, 100]) (et 99 r4)).eval default fun r5 =>
      .test (iIn x.2 (rLen c0))
       (.bnd (ref19_num.f k (rInt (rAt c0 x.2) 2)).eval default fun r6 =>
       .bnd (ref19_at.f k (bs [115, 117, 99, 99, 101, 115, 115]) (et 99 r6)).eval default fun r7 =>
       .bnd (ref19_object.f k [(et 122 r1), (et 122 r3), (et 122 r5), (et 122 r7)]).eval default fun r8 =>
       .test (rOk 80 (rLen x.1) (rLen [(et 99 r8)]))
        (.ret (.inl ((rCat x.1 [(et 99 r8)]), (iAdd .i64 x.2 (1)))))
        (.fail))
       (.fail))
      (.fail))
     (.fail))
    (.fail))
   (.ret (.inr x.1))
noncomputable def a3 (c0 : Rows) (c1 : Row) (x : (Rows × Int)) : Dt := ⟨[.r c0, .u, .r x.1, .i x.2], [], [et 99 c1], []⟩
noncomputable def o3_0 (c0 : Rows) (c1 : Row) (r : Rows) : X × Dt := (.exit 0, ⟨[.u, .r r], [], [(et 99 c1)], []⟩)
noncomputable def e3 (k : Nat) (d : Dt) : T (X × Dt) := out1 (iter (s3 k (aR (aN d.a 0)) (d.r.getD 0 [])) k ((aR (aN d.a 2)), (aI (aN d.a 3)))) default (o3_0 (aR (aN d.a 0)) (d.r.getD 0 []))
noncomputable def S (k : Nat) : Subs := fun n => bif Nat.beq n 3 then some (loopV Try.prog t3 (e3 k)) else none
noncomputable def f (k : Nat) (a0 : Rows) : T Row :=
  .bnd (iter (ref19_fromProbes.s3 k a0 [.int .i64 (0), .int .i64 (0), .str ByteArray.empty, .slice 99 [] .open, .slice 122 [] .open]) k ([], (0))) default fun r0 =>
  .bnd (ref19_list.f k r0).eval default fun r1 =>
  .ret (et 99 r1)
noncomputable def d (k : Nat) : Fun := mkFun [135] (fun as_ => f k (vRows (vN as_ 0))) default (fun r => .agg (et 99 r))
theorem hC (k : Nat) : CxOk (C k) := CxOk.cons (p := (64, ref19_num.d k)) (ref19_num.ok k) (CxOk.cons (p := (62, ref19_at.d k)) (ref19_at.ok k) (CxOk.cons (p := (61, ref19_object.d k)) (ref19_object.ok k) (CxOk.cons (p := (76, ref19_list.d k)) (ref19_list.ok k) (CxOk.nil))))
theorem l3 (k : Nat) : LoopOk Try.prog (S k) (lp (bodyF Go.Proofs.Try.f75) 0) := loopOk_mk (C := C k) (hC k) (Loops.all (n := 0) (by kernel_rfl) trivial) (lt := t3) (den := e3 k) (by kernel_rfl) (N := (Rows × Row)) (A := (Rows × Int)) (R := Rows)
 (fun n x => a3 n.1 n.2 x) (fun n r => o3_0 n.1 n.2 r) (fun n x => s3 k n.1 n.2 x) k (fun d => ((aR (aN d.a 0)), (d.r.getD 0 []))) (fun d => ((aR (aN d.a 2)), (aI (aN d.a 3)))) (fun d y h => out1_eval h) (fun d => by kernel_rfl) (fun n x => by kernel_rfl) (fun n r => ⟨_, rfl⟩)
theorem ok (k : Nat) : FunOk Try.prog 75 (d k) := fun_mk (C := C k) (hC k) (S := S k) Try.func75 (by kernel_rfl) (by kernel_rfl) (Loops.all (n := 1) (by kernel_rfl) ⟨trivial, l3 k⟩) (fun as_ => by kernel_rfl)
end ref19_fromProbes
namespace ref19_fromContainers
noncomputable def C (k : Nat) : Cx := ⟨Try.prog, tab [(65, ref19_str.d k), (62, ref19_at.d k), (74, ref19_fromResources.d k), (75, ref19_fromProbes.d k), (61, ref19_object.d k), (76, ref19_list.d k)], [], []⟩
noncomputable def t3 : LoopT := ⟨⟨51, [.tmp 3 48 99], [(0, .sl 137 none), (2, .ptr 2 0), (3, .sl 99 (some 48)), (4, .int .i64)], [], [(2, 99)], []⟩, (fun | .exit 0 => some ⟨51, [], [(2, .ptr 2 0), (3, .sl 99 (some 48))], [], [(2, 99)], []⟩ | _ => none)⟩
noncomputable def s3 (k : Nat) (c0 : Rows) (c1 : Row) (x : (Rows × Int)) : T ((Rows × Int) ⊕ Rows) :=
  .test (iLt x.2 (rLen c0))
   (.test (iIn x.2 (rLen c0))
    (.bnd (ref19_str.f k (rStr (rAt c0 x.2) 1)).eval default fun r0 =>
    .bnd (ref19_at.f k (bs [105, 109, 97, 103, 101]) (et 99 r0)).eval default fun r1 =>
    .bnd (ref19_fromResources.f k (eo 42 (rAt c0 x.2) 5)).eval default fun r2 =>
    .bnd (ref19_at.f k (bs [108, 105, 109, 105, 116]) (et 99 r2)).eval default fun r3 =>
    .bnd (ref19_fromProbes.f k (rSl (rAt c0 x.2) 8)).eval default fun r4 =>
    .bnd (ref19_at.f k (bs [108, 105, 118, 101]) (et 99 r4)).eval default fun r5 =>
    .bnd (ref19_str.f k (rStr (rAt c0 x.2) 0)).eval default fun r6 =>
    .bnd (ref19_at.f k (bs [110, 97, 109, 101]) (et 99 r6)).eval default fun r7 =>
    .bnd (ref19_fromProbes.f k (rSl (rAt c0 x.2) 9)).eval default fun r8 =>
    .bnd (ref19_at.f k (bs [114, 101, 97, 100, 121]) (et 99 r8)).eval default fun r9 =>
    .bnd (ref19_fromResources.f k (eo 42 (rAt c0 x.2) 2)).eval default fun r10 =>
    .bnd (ref19_at.f k (bs [114, 101, 113, 117, 101, 115, 116]) (et 99 r10)).eval default fun r11 =>
    .bnd (ref19_fromProbes.f k (rSl (rAt c0 x.2) 10)).eval default fun r12 =>
    .bnd (ref19_at.f k (bs [115, 116, 97, 114, 116, 117, 112]) (et 99 r12)).eval default fun r13 =>
    .bnd (ref19_object.f k [(et 122 r1), (et 122 r3), (et 122 r5), (et 122 r7), (et 122 r9), (et 122 r11), (et 122 r13)]).eval default fun r14 =>
    .test (rOk 80 (rLen x.1) (rLen [(et 99 r14)]))
     (.ret (.inl ((rCat x.1 [(et 99 r14)]), (iAdd .i64 x.2 (1)))))
     (.fail))
    (.fail))
   (.ret (.inr x.1))
noncomputable def a3 (c0 : Rows) (c1 : Row) (x : (Rows × Int)) : Dt := ⟨[.r c0, .u, .r x.1, .i x.2], [], [et 99 c1], []⟩
noncomputable def o3_0 (c0 : Rows) (c1 : Row) (r : Rows) : X × Dt := (.exit 0, ⟨[.u, .r r], [], [(et 99 c1)], []⟩)
noncomputable def e3 (k : Nat) (d : Dt) : T (X × Dt) := out1 (iter (s3 k (aR (aN d.a 0)) (d.r.getD 0 [])) k ((aR (aN d.a 2)), (aI (aN d.a 3)))) default (o3_0 (aR (aN d.a 0)) (d.r.getD 0 []))
noncomputable def S (k : Nat) : Subs := fun n => bif Nat.beq n 3 then some (loopV Try.prog t3 (e3 k)) else none
noncomputable def f (k : Nat) (a0 : Rows) : T Row :=
  .bnd (iter (ref19_fromContainers.s3 k a0 [.int .i64 (0), .int .i64 (0), .str ByteArray.empty, .slice 99 [] .open, .slice 122 [] .open]) k ([], (0))) default fun r0 =>
  .bnd (ref19_list.f k r0).eval default fun r1 =>
  .ret (et 99 r1)
noncomputable def d (k : Nat) : Fun := mkFun [28] (fun as_ => f k (vRows (vN as_ 0))) default (fun r => .agg (et 99 r))
theorem hC (k : Nat) : CxOk (C k) := CxOk.cons (p := (65, ref19_str.d k)) (ref19_str.ok k) (CxOk.cons (p := (62, ref19_at.d k)) (ref19_at.ok k) (CxOk.cons (p := (74, ref19_fromResources.d k)) (ref19_fromResources.ok k) (CxOk.cons (p := (75, ref19_fromProbes.d k)) (ref19_fromProbes.ok k) (CxOk.cons (p := (61, ref19_object.d k)) (ref19_object.ok k) (CxOk.cons (p := (76, ref19_list.d k)) (ref19_list.ok k) (CxOk.nil))))))
theorem l3 (k : Nat) : LoopOk Try.prog (S k) (lp (bodyF Go.Proofs.Try.f63) 0) := loopOk_mk (C := C k) (hC k) (Loops.all (n := 0) (by kernel_rfl) trivial) (lt := t3) (den := e3 k) (by kernel_rfl) (N := (Rows × Row)) (A := (Rows × Int)) (R := Rows)
 (fun n x => a3 n.1 n.2 x) (fun n r => o3_0 n.1 n.2 r) (fun n x => s3 k n.1 n.2 x) k (fun d => ((aR (aN d.a 0)), (d.r.getD 0 []))) (fun d => ((aR (aN d.a 2)), (aI (aN d.a 3)))) (fun d y h => out1_eval h) (fun d => by kernel_rfl) (fun n x => by kernel_rfl) (fun n r => ⟨_, rfl⟩)
theorem ok (k : Nat) : FunOk Try.prog 63 (d k) := fun_mk (C := C k) (hC k) (S := S k) Try.func63 (by kernel_rfl) (by kernel_rfl) (Loops.all (n := 1) (by kernel_rfl) ⟨trivial, l3 k⟩) (fun as_ => by kernel_rfl)
end ref19_fromContainers
namespace ref19_FromStrings
noncomputable def C (k : Nat) : Cx := ⟨Try.prog, tab [(65, ref19_str.d k), (76, ref19_list.d k)], [], []⟩
noncomputable def t3 : LoopT := ⟨⟨21, [.tmp 3 18 99], [(0, .sl 9 none), (2, .ptr 2 0), (3, .sl 99 (some 18)), (4, .int .i64)], [], [(2, 99)], []⟩, (fun | .exit 0 => some ⟨21, [], [(2, .ptr 2 0), (3, .sl 99 (some 18))], [], [(2, 99)], []⟩ | _ => none)⟩
noncomputable def s3 (k : Nat) (c0 : Rows) (c1 : Row) (x : (Rows × Int)) : T ((Rows × Int) ⊕ Rows) :=
  .test (iLt x.2 (rLen c0))
   (.test (iIn x.2 (rLen c0))
    (.bnd (ref19_str.f k (rStr (rAt c0 x.2) 0)).eval default fun r0 =>
    .test (rOk 80 (rLen x.1) (rLen [(et 99 r0)]))
     (.ret (.inl ((rCat x.1 [(et 99 r0)]), (iAdd .i64 x.2 (1)))))
     (.fail))
    (.fail))
   (.ret (.inr x.1))
noncomputable def a3 (c0 : Rows) (c1 : Row) (x : (Rows × Int)) : Dt := ⟨[.r c0, .u, .r x.1, .i x.2], [], [et 99 c1], []⟩
noncomputable def o3_0 (c0 : Rows) (c1 : Row) (r : Rows) : X × Dt := (.exit 0, ⟨[.u, .r r], [], [(et 99 c1)], []⟩)
noncomputable def e3 (k : Nat) (d : Dt) : T (X × Dt) := out1 (iter (s3 k (aR (aN d.a 0)) (d.r.getD 0 [])) k ((aR (aN d.a 2)), (aI (aN d.a 3)))) default (o3_0 (aR (aN d.a 0)) (d.r.getD 0 []))
noncomputable def S (k : Nat) : Subs := fun n => bif Nat.beq n 3 then some (loopV Try.prog t3 (e3 k)) else none
noncomputable def f (k : Nat) (a0 : Rows) : T Row :=
  .bnd (iter (ref19_FromStrings.s3 k a0 [.int .i64 (0), .int .i64 (0), .str ByteArray.empty, .slice 99 [] .open, .slice 122 [] .open]) k ([], (0))) default fun r0 =>
  .bnd (ref19_list.f k r0).eval default fun r1 =>
  .ret (et 99 r1)
noncomputable def d (k : Nat) : Fun := mkFun [24] (fun as_ => f k (vRows (vN as_ 0))) default (fun r => .agg (et 99 r))
theorem hC (k : Nat) : CxOk (C k) := CxOk.cons (p := (65, ref19_str.d k)) (ref19_str.ok k) (CxOk.cons (p := (76, ref19_list.d k)) (ref19_list.ok k) (CxOk.nil))
theorem l3 (k : Nat) : LoopOk Try.prog (S k) (lp (bodyF Go.Proofs.Try.f77) 0) := loopOk_mk (C := C k) (hC k) (Loops.all (n := 0) (by kernel_rfl) trivial) (lt := t3) (den := e3 k) (by kernel_rfl) (N := (Rows × Row)) (A := (Rows × Int)) (R := Rows)
 (fun n x => a3 n.1 n.2 x) (fun n r => o3_0 n.1 n.2 r) (fun n x => s3 k n.1 n.2 x) k (fun d => ((aR (aN d.a 0)), (d.r.getD 0 []))) (fun d => ((aR (aN d.a 2)), (aI (aN d.a 3)))) (fun d y h => out1_eval h) (fun d => by kernel_rfl) (fun n x => by kernel_rfl) (fun n r => ⟨_, rfl⟩)
theorem ok (k : Nat) : FunOk Try.prog 77 (d k) := fun_mk (C := C k) (hC k) (S := S k) Try.func77 (by kernel_rfl) (by kernel_rfl) (Loops.all (n := 1) (by kernel_rfl) ⟨trivial, l3 k⟩) (fun as_ => by kernel_rfl)
end ref19_FromStrings
namespace ref19_FromSelector
noncomputable def C (k : Nat) : Cx := ⟨Try.prog, tab [(65, ref19_str.d k), (62, ref19_at.d k), (64, ref19_num.d k), (77, ref19_FromStrings.d k), (61, ref19_object.d k), (76, ref19_list.d k)], [], []⟩
noncomputable def t3 : LoopT := ⟨⟨39, [.tmp 3 36 99], [(0, .sl 94 none), (2, .ptr 2 0), (3, .sl 99 (some 36)), (4, .int .i64)], [], [(2, 99)], []⟩, (fun | .exit 0 => some ⟨39, [], [(2, .ptr 2 0), (3, .sl 99 (some 36))], [], [(2, 99)], []⟩ | _ => none)⟩
noncomputable def s3 (k : Nat) (c0 : Rows) (c1 : Row) (x : (Rows × Int)) : T ((Rows × Int) ⊕ Rows) :=
  .test (iLt x.2 (rLen c0))
   (.test (iIn x.2 (rLen c0))
    (.bnd (ref19_str.f k (rStr (rAt c0 x.2) 0)).eval default fun r0 =>
    .bnd (ref19_at.f k (bs [107, 101, 121]) (et 99 r0)).eval default fun r1 =>
    .test (iIn x.2 (rLen c0))
     (.bnd (ref19_num.f k (rInt (rAt c0 x.2) 1)).eval default fun r2 =>
     .bnd (ref19_at.f k (bs [111, 112]) (et 99 r2)).eval default fun r3 =>
     .test (iIn x.2 (rLen c0))
      (.bnd (ref19_FromStrings.f k (rSl (rAt c0 x.2) 2)).eval default fun r4 =>
      .bnd (ref19_at.f k (bs [118, 97, 108, 117, 101, 115]) (et 99 r4)).eval default fun r5 =>
      .bnd (ref19_object.f k [(et 122 r1), (et 122 r3), (et 122 r5)]).eval default fun r6 =>
      .test (rOk 80 (rLen x.1) (rLen [(et 99 r6)]))
       (.ret (.inl ((rCat x.1 [(et 99 r6)]), (iAdd .i64 x.2 (1)))))
       (.fail))
      (.fail))
     (.fail))
    (.fail))
   (.ret (.inr x.1))
noncomputable def a3 (c0 : Rows) (c1 : Row) (x : (Rows × Int)) : Dt := ⟨[.r c0, .u, .r x.1, .i x.2], [], [et 99 c1], []⟩
noncomputable def o3_0 (c0 : Rows) (c1 : Row) (r : Rows) : X × Dt := (.exit 0, ⟨[.u, .r r], [], [(et 99 c1)], []⟩)
noncomputable def e3 (k : Nat) (d : Dt) : T (X × Dt) := out1 (iter (s3 k (aR (aN d.a 0)) (d.r.getD 0 [])) k ((aR (aN d.a 2)), (aI (aN d.a 3)))) default (o3_0 (aR (aN d.a 0)) (d.r.getD 0 []))
noncomputable def S (k : Nat) : Subs := fun n => bif Nat.beq n 3 then some (loopV Try.prog t3 (e3 k)) else none
noncomputable def f (k : Nat) (a0 : Rows) : T Row :=
  .bnd (iter (ref19_FromSelector.s3 k a0 [.int .i64 (0), .int .i64 (0), .str ByteArray.empty, .slice 99 [] .open, .slice 122 [] .open]) k ([], (0))) default fun r0 =>
  .bnd (ref19_list.f k r0).eval default fun r1 =>
  .ret (et 99 r1)
noncomputable def d (k : Nat) : Fun := mkFun [29] (fun as_ => f k (vRows (vN as_ 0))) default (fun r => .agg (et 99 r))
theorem hC (k : Nat) : CxOk (C k) := CxOk.cons (p := (65, ref19_str.d k)) (ref19_str.ok k) (CxOk.cons (p := (62, ref19_at.d k)) (ref19_at.ok k) (CxOk.cons (p := (64, ref19_num.d k)) (ref19_num.ok k) (CxOk.cons (p := (77, ref19_FromStrings.d k)) (ref19_FromStrings.ok k) (CxOk.cons (p := (61, ref19_object.d k)) (ref19_object.ok k) (CxOk.cons (p := (76, ref19_list.d k)) (ref19_list.ok k) (CxOk.nil))))))
theorem l3 (k : Nat) : LoopOk Try.prog (S k) (lp (bodyF Go.Proofs.Try.f66) 0) := loopOk_mk (C := C k) (hC k) (Loops.all (n := 0) (by kernel_rfl) trivial) (lt := t3) (den := e3 k) (by kernel_rfl) (N := (Rows × Row)) (A := (Rows × Int)) (R := Rows)
 (fun n x => a3 n.1 n.2 x) (fun n r => o3_0 n.1 n.2 r) (fun n x => s3 k n.1 n.2 x) k (fun d => ((aR (aN d.a 0)), (d.r.getD 0 []))) (fun d => ((aR (aN d.a 2)), (aI (aN d.a 3)))) (fun d y h => out1_eval h) (fun d => by kernel_rfl) (fun n x => by kernel_rfl) (fun n r => ⟨_, rfl⟩)
theorem ok (k : Nat) : FunOk Try.prog 66 (d k) := fun_mk (C := C k) (hC k) (S := S k) Try.func66 (by kernel_rfl) (by kernel_rfl) (Loops.all (n := 1) (by kernel_rfl) ⟨trivial, l3 k⟩) (fun as_ => by kernel_rfl)
end ref19_FromSelector
namespace ref19_truth
noncomputable def C (k : Nat) : Cx := ⟨Try.prog, tab [], [], []⟩
noncomputable def S (k : Nat) : Subs := fun n => none
noncomputable def f (k : Nat) (a0 : Bool) : T Row :=
  .test a0
   (.ret [.int .i64 (1), .int .i64 (1), .str ByteArray.empty, .slice 99 [] .open, .slice 122 [] .open])
   (.ret [.int .i64 (1), .int .i64 (0), .str ByteArray.empty, .slice 99 [] .open, .slice 122 [] .open])
noncomputable def d (k : Nat) : Fun := mkFun [4] (fun as_ => f k (vBool (vN as_ 0))) default (fun r => .agg (et 99 r))
theorem hC (k : Nat) : CxOk (C k) := CxOk.nil
theorem ok (k : Nat) : FunOk Try.prog 72 (d k) := fun_mk (C := C k) (hC k) (S := S k) Try.func72 (by kernel_rfl) (by kernel_rfl) (Loops.all (n := 0) (by kernel_rfl) trivial) (fun as_ => by kernel_rfl)
end ref19_truth
namespace ref19_fromNodeTerms
noncomputable def C (k : Nat) : Cx := ⟨Try.prog, tab [(72, ref19_truth.d k), (62, ref19_at.d k), (66, ref19_FromSelector.d k), (64, ref19_num.d k), (61, ref19_object.d k), (76, ref19_list.d k)], [], []⟩
noncomputable def t3 : LoopT := ⟨⟨39, [.tmp 3 36 99], [(0, .sl 68 none), (2, .ptr 2 0), (3, .sl 99 (some 36)), (4, .int .i64)], [], [(2, 99)], []⟩, (fun | .exit 0 => some ⟨39, [], [(2, .ptr 2 0), (3, .sl 99 (some 36))], [], [(2, 99)], []⟩ | _ => none)⟩
noncomputable def s3 (k : Nat) (c0 : Rows) (c1 : Row) (x : (Rows × Int)) : T ((Rows × Int) ⊕ Rows) :=
  .test (iLt x.2 (rLen c0))
   (.test (iIn x.2 (rLen c0))
    (.bnd (ref19_truth.f k (rBool (rAt c0 x.2) 0)).eval default fun r0 =>
    .bnd (ref19_at.f k (bs [114, 101, 113, 117, 105, 114, 101, 100]) (et 99 r0)).eval default fun r1 =>
    .test (iIn x.2 (rLen c0))
     (.bnd (ref19_FromSelector.f k (rSl (rAt c0 x.2) 1)).eval default fun r2 =>
     .bnd (ref19_at.f k (bs [115, 101, 108, 101, 99, 116, 111, 114]) (et 99 r2)).eval default fun r3 =>
     .test (iIn x.2 (rLen c0))
      (.bnd (ref19_num.f k (rInt (rAt c0 x.2) 2)).eval default fun r4 =>
      .bnd (ref19_at.f k (bs [119, 101, 105, 103, 104, 116]) (et 99 r4)).eval default fun r5 =>
      .bnd (ref19_object.f k [(et 122 r1), (et 122 r3), (et 122 r5)]).eval default fun r6 =>
      .test (rOk 80 (rLen x.1) (rLen [(et 99 r6)]))
       (.ret (.inl ((rCat x.1 [(et 99 r6)]), (iAdd .i64 x.2 (1)))))
       (.fail))
      (.fail))
     (.fail))
    (.fail))
   (.ret (.inr x.1))
noncomputable def a3 (c0 : Rows) (c1 : Row) (x : (Rows × Int)) : Dt := ⟨[.r c0, .u, .r x.1, .i x.2], [], [et 99 c1], []⟩
noncomputable def o3_0 (c0 : Rows) (c1 : Row) (r : Rows) : X × Dt := (.exit 0, ⟨[.u, .r r], [], [(et 99 c1)], []⟩)
noncomputable def e3 (k : Nat) (d : Dt) : T (X × Dt) := out1 (iter (s3 k (aR (aN d.a 0)) (d.r.getD 0 [])) k ((aR (aN d.a 2)), (aI (aN d.a 3)))) default (o3_0 (aR (aN d.a 0)) (d.r.getD 0 []))
noncomputable def S (k : Nat) : Subs := fun n => bif Nat.beq n 3 then some (loopV Try.prog t3 (e3 k)) else none
noncomputable def f (k : Nat) (a0 : Rows) : T Row :=
  .bnd (iter (ref19_fromNodeTerms.s3 k a0 [.int .i64 (0), .int .i64 (0), .str ByteArray.empty, .slice 99 [] .open, .slice 122 [] .open]) k ([], (0))) default fun r0 =>
  .bnd (ref19_list.f k r0).eval default fun r1 =>
  .ret (et 99 r1)
noncomputable def d (k : Nat) : Fun := mkFun [30] (fun as_ => f k (vRows (vN as_ 0))) default (fun r => .agg (et 99 r))
theorem hC (k : Nat) : CxOk (C k) := CxOk.cons (p := (72, ref19_truth.d k)) (ref19_truth.ok k) (CxOk.cons (p := (62, ref19_at.d k)) (ref19_at.ok k) (CxOk.cons (p := (66, ref19_FromSelector.d k)) (ref19_FromSelector.ok k) (CxOk.cons (p := (64, ref19_num.d k)) (ref19_num.ok k) (CxOk.cons (p := (61, ref19_object.d k)) (ref19_object.ok k) (CxOk.cons (p := (76, ref19_list.d k)) (ref19_list.ok k) (CxOk.nil))))))
theorem l3 (k : Nat) : LoopOk Try.prog (S k) (lp (bodyF Go.Proofs.Try.f67) 0) := loopOk_mk (C := C k) (hC k) (Loops.all (n := 0) (by kernel_rfl) trivial) (lt := t3) (den := e3 k) (by kernel_rfl) (N := (Rows × Row)) (A := (Rows × Int)) (R := Rows)
 (fun n x => a3 n.1 n.2 x) (fun n r => o3_0 n.1 n.2 r) (fun n x => s3 k n.1 n.2 x) k (fun d => ((aR (aN d.a 0)), (d.r.getD 0 []))) (fun d => ((aR (aN d.a 2)), (aI (aN d.a 3)))) (fun d y h => out1_eval h) (fun d => by kernel_rfl) (fun n x => by kernel_rfl) (fun n r => ⟨_, rfl⟩)
theorem ok (k : Nat) : FunOk Try.prog 67 (d k) := fun_mk (C := C k) (hC k) (S := S k) Try.func67 (by kernel_rfl) (by kernel_rfl) (Loops.all (n := 1) (by kernel_rfl) ⟨trivial, l3 k⟩) (fun as_ => by kernel_rfl)
end ref19_fromNodeTerms
namespace ref19_fromPodTerms
noncomputable def C (k : Nat) : Cx := ⟨Try.prog, tab [(72, ref19_truth.d k), (62, ref19_at.d k), (66, ref19_FromSelector.d k), (65, ref19_str.d k), (64, ref19_num.d k), (61, ref19_object.d k), (76, ref19_list.d k)], [], []⟩
noncomputable def t3 : LoopT := ⟨⟨53, [.tmp 3 50 99], [(0, .sl 65 none), (2, .ptr 2 0), (3, .sl 99 (some 50)), (4, .int .i64)], [], [(2, 99)], []⟩, (fun | .exit 0 => some ⟨53, [], [(2, .ptr 2 0), (3, .sl 99 (some 50))], [], [(2, 99)], []⟩ | _ => none)⟩
noncomputable def s3 (k : Nat) (c0 : Rows) (c1 : Row) (x : (Rows × Int)) : T ((Rows × Int) ⊕ Rows) :=
  .test (iLt x.2 (rLen c0))
   (.test (iIn x.2 (rLen c0))
    (.bnd (ref19_truth.f k (rBool (rAt c0 x.2) 1)).eval default fun r0 =>
    .bnd (ref19_at.f k (bs [97, 110, 116, 105]) (et 99 r0)).eval default fun r1 =>
    .test (iIn x.2 (rLen c0))
     (.bnd (ref19_truth.f k (rBool (rAt c0 x.2) 0)).eval default fun r2 =>
     .bnd (ref19_at.f k (bs [114, 101, 113, 117, 105, 114, 101, 100]) (et 99 r2)).eval default fun r3 =>
     .test (iIn x.2 (rLen c0))
      (.bnd (ref19_FromSelector.f k (rSl (rAt c0 x.2) 2)).eval default fun r4 =>
      .bnd (ref19_at.f k (bs [115, 101, 108, 101, 99, 116, 111, 114]) (et 99 r4)).eval default fun r5 =>
      .test (iIn x.2 (rLen c0))
       (.bnd (ref19_str.f k (rStr (rAt c0 x.2) 3)).eval default fun r6 =>
       .bnd (ref19_at.f k (bs [116, 111, 112, 111, 108, 111, 103, 121]) (et 99 r6)).eval default fun r7 =>
       .test (iIn x.2 (rLen c0))
        (.bnd (ref19_num.f k (rInt (rAt c0 x.2) 4)).eval default fun r8 =>
        .bnd (ref19_at.f k (bs [119, 101, 105, 103, 104, 116]) (et 99 r8)).eval default fun r9 =>
        .bnd (ref19_object.f k [(et 122 r1), (et 122 r3), (et 122 r5), (et 122 r7), (et 122 r9)]).eval default fun r10 =>
        .test (rOk 80 (rLen x.1) (rLen [(et 99 r10)]))
         (.ret (.inl ((rCat x.1 [(et 99 r10)]), (iAdd .i64 x.2 (1)))))
         (.fail))
        (.fail))
       (.fail))
      (.fail))
     (.fail))
    (.fail))
   (.ret (.inr x.1))
noncomputable def a3 (c0 : Rows) (c1 : Row) (x : (Rows × Int)) : Dt := ⟨[.r c0, .u, .r x.1, .i x.2], [], [et 99 c1], []⟩
noncomputable def o3_0 (c0 : Rows) (c1 : Row) (r : Rows) : X × Dt := (.exit 0, ⟨[.u, .r r], [], [(et 99 c1)], []⟩)
noncomputable def e3 (k : Nat) (d : Dt) : T (X × Dt) := out1 (iter (s3 k (aR (aN d.a 0)) (d.r.getD 0 [])) k ((aR (aN d.a 2)), (aI (aN d.a 3)))) default (o3_0 (aR (aN d.a 0)) (d.r.getD 0 []))
noncomputable def S (k : Nat) : Subs := fun n => bif Nat.beq n 3 then some (loopV Try.prog t3 (e3 k)) else none
noncomputable def f (k : Nat) (a0 : Rows) : T Row :=
  .bnd (iter (ref19_fromPodTerms.s3 k a0 [.int .i64 (0), .int .i64 (0), .str ByteArray.empty, .slice 99 [] .open, .slice 122 [] .open]) k ([], (0))) default fun r0 =>
  .bnd (ref19_list.f k r0).eval default fun r1 =>
  .ret (et 99 r1)
noncomputable def d (k : Nat) : Fun := mkFun [31] (fun as_ => f k (vRows (vN as_ 0))) default (fun r => .agg (et 99 r))
theorem hC (k : Nat) : CxOk (C k) := CxOk.cons (p := (72, ref19_truth.d k)) (ref19_truth.ok k) (CxOk.cons (p := (62, ref19_at.d k)) (ref19_at.ok k) (CxOk.cons (p := (66, ref19_FromSelector.d k)) (ref19_FromSelector.ok k) (CxOk.cons (p := (65, ref19_str.d k)) (ref19_str.ok k) (CxOk.cons (p := (64, ref19_num.d k)) (ref19_num.ok k) (CxOk.cons (p := (61, ref19_object.d k)) (ref19_object.ok k) (CxOk.cons (p := (76, ref19_list.d k)) (ref19_list.ok k) (CxOk.nil)))))))
theorem l3 (k : Nat) : LoopOk Try.prog (S k) (lp (bodyF Go.Proofs.Try.f68) 0) := loopOk_mk (C := C k) (hC k) (Loops.all (n := 0) (by kernel_rfl) trivial) (lt := t3) (den := e3 k) (by kernel_rfl) (N := (Rows × Row)) (A := (Rows × Int)) (R := Rows)
 (fun n x => a3 n.1 n.2 x) (fun n r => o3_0 n.1 n.2 r) (fun n x => s3 k n.1 n.2 x) k (fun d => ((aR (aN d.a 0)), (d.r.getD 0 []))) (fun d => ((aR (aN d.a 2)), (aI (aN d.a 3)))) (fun d y h => out1_eval h) (fun d => by kernel_rfl) (fun n x => by kernel_rfl) (fun n r => ⟨_, rfl⟩)
theorem ok (k : Nat) : FunOk Try.prog 68 (d k) := fun_mk (C := C k) (hC k) (S := S k) Try.func68 (by kernel_rfl) (by kernel_rfl) (Loops.all (n := 1) (by kernel_rfl) ⟨trivial, l3 k⟩) (fun as_ => by kernel_rfl)
end ref19_fromPodTerms
namespace ref19_fromSpread
noncomputable def C (k : Nat) : Cx := ⟨Try.prog, tab [(64, ref19_num.d k), (62, ref19_at.d k), (72, ref19_truth.d k), (66, ref19_FromSelector.d k), (65, ref19_str.d k), (61, ref19_object.d k), (76, ref19_list.d k)], [], []⟩
noncomputable def t3 : LoopT := ⟨⟨46, [.tmp 3 43 99], [(0, .sl 143 none), (2, .ptr 2 0), (3, .sl 99 (some 43)), (4, .int .i64)], [], [(2, 99)], []⟩, (fun | .exit 0 => some ⟨46, [], [(2, .ptr 2 0), (3, .sl 99 (some 43))], [], [(2, 99)], []⟩ | _ => none)⟩
noncomputable def s3 (k : Nat) (c0 : Rows) (c1 : Row) (x : (Rows × Int)) : T ((Rows × Int) ⊕ Rows) :=
  .test (iLt x.2 (rLen c0))
   (.test (iIn x.2 (rLen c0))
    (.bnd (ref19_num.f k (rInt (rAt c0 x.2) 0)).eval default fun r0 =>
    .bnd (ref19_at.f k (bs [109, 97, 120, 83, 107, 101, 119]) (et 99 r0)).eval default fun r1 =>
    .test (iIn x.2 (rLen c0))
     (.bnd (ref19_truth.f k (rBool (rAt c0 x.2) 3)).eval default fun r2 =>
     .bnd (ref19_at.f k (bs [114, 101, 113, 117, 105, 114, 101, 100]) (et 99 r2)).eval default fun r3 =>
     .test (iIn x.2 (rLen c0))
      (.bnd (ref19_FromSelector.f k (rSl (rAt c0 x.2) 2)).eval default fun r4 =>
      .bnd (ref19_at.f k (bs [115, 101, 108, 101, 99, 116, 111, 114]) (et 99 r4)).eval default fun r5 =>
      .test (iIn x.2 (rLen c0))
       (.bnd (ref19_str.f k (rStr (rAt c0 x.2) 1)).eval default fun r6 =>
       .bnd (ref19_at.f k (bs [116, 111, 112, 111, 108, 111, 103, 121]) (et 99 r6)).eval default fun r7 =>
       .bnd (ref19_object.f k [(et 122 r1), (et 122 r3), (et 122 r5), (et 122 r7)]).eval default fun r8 =>
       .test (rOk 80 (rLen x.1) (rLen [(et 99 r8)]))
        (.ret (.inl ((rCat x.1 [(et 99 r8)]), (iAdd .i64 x.2 (1)))))
        (.fail))
       (.fail))
      (.fail))
     (.fail))
    (.fail))
   (.ret (.inr x.1))
noncomputable def a3 (c0 : Rows) (c1 : Row) (x : (Rows × Int)) : Dt := ⟨[.r c0, .u, .r x.1, .i x.2], [], [et 99 c1], []⟩
noncomputable def o3_0 (c0 : Rows) (c1 : Row) (r : Rows) : X × Dt := (.exit 0, ⟨[.u, .r r], [], [(et 99 c1)], []⟩)
noncomputable def e3 (k : Nat) (d : Dt) : T (X × Dt) := out1 (iter (s3 k (aR (aN d.a 0)) (d.r.getD 0 [])) k ((aR (aN d.a 2)), (aI (aN d.a 3)))) default (o3_0 (aR (aN d.a 0)) (d.r.getD 0 []))
noncomputable def S (k : Nat) : Subs := fun n => bif Nat.beq n 3 then some (loopV Try.prog t3 (e3 k)) else none
noncomputable def f (k : Nat) (a0 : Rows) : T Row :=
  .bnd (iter (ref19_fromSpread.s3 k a0 [.int .i64 (0), .int .i64 (0), .str ByteArray.empty, .slice 99 [] .open, .slice 122 [] .open]) k ([], (0))) default fun r0 =>
  .bnd (ref19_list.f k r0).eval default fun r1 =>
  .ret (et 99 r1)
noncomputable def d (k : Nat) : Fun := mkFun [32] (fun as_ => f k (vRows (vN as_ 0))) default (fun r => .agg (et 99 r))
theorem hC (k : Nat) : CxOk (C k) := CxOk.cons (p := (64, ref19_num.d k)) (ref19_num.ok k) (CxOk.cons (p := (62, ref19_at.d k)) (ref19_at.ok k) (CxOk.cons (p := (72, ref19_truth.d k)) (ref19_truth.ok k) (CxOk.cons (p := (66, ref19_FromSelector.d k)) (ref19_FromSelector.ok k) (CxOk.cons (p := (65, ref19_str.d k)) (ref19_str.ok k) (CxOk.cons (p := (61, ref19_object.d k)) (ref19_object.ok k) (CxOk.cons (p := (76, ref19_list.d k)) (ref19_list.ok k) (CxOk.nil)))))))
theorem l3 (k : Nat) : LoopOk Try.prog (S k) (lp (bodyF Go.Proofs.Try.f69) 0) := loopOk_mk (C := C k) (hC k) (Loops.all (n := 0) (by kernel_rfl) trivial) (lt := t3) (den := e3 k) (by kernel_rfl) (N := (Rows × Row)) (A := (Rows × Int)) (R := Rows)
 (fun n x => a3 n.1 n.2 x) (fun n r => o3_0 n.1 n.2 r) (fun n x => s3 k n.1 n.2 x) k (fun d => ((aR (aN d.a 0)), (d.r.getD 0 []))) (fun d => ((aR (aN d.a 2)), (aI (aN d.a 3)))) (fun d y h => out1_eval h) (fun d => by kernel_rfl) (fun n x => by kernel_rfl) (fun n r => ⟨_, rfl⟩)
theorem ok (k : Nat) : FunOk Try.prog 69 (d k) := fun_mk (C := C k) (hC k) (S := S k) Try.func69 (by kernel_rfl) (by kernel_rfl) (Loops.all (n := 1) (by kernel_rfl) ⟨trivial, l3 k⟩) (fun as_ => by kernel_rfl)
end ref19_fromSpread
namespace ref19_fromTolerations
noncomputable def C (k : Nat) : Cx := ⟨Try.prog, tab [(64, ref19_num.d k), (62, ref19_at.d k), (72, ref19_truth.d k), (65, ref19_str.d k), (61, ref19_object.d k), (76, ref19_list.d k)], [], []⟩
noncomputable def t3 : LoopT := ⟨⟨53, [.tmp 3 50 99], [(0, .sl 145 none), (2, .ptr 2 0), (3, .sl 99 (some 50)), (4, .int .i64)], [], [(2, 99)], []⟩, (fun | .exit 0 => some ⟨53, [], [(2, .ptr 2 0), (3, .sl 99 (some 50))], [], [(2, 99)], []⟩ | _ => none)⟩
noncomputable def s3 (k : Nat) (c0 : Rows) (c1 : Row) (x : (Rows × Int)) : T ((Rows × Int) ⊕ Rows) :=
  .test (iLt x.2 (rLen c0))
   (.test (iIn x.2 (rLen c0))
    (.bnd (ref19_num.f k (rInt (rAt c0 x.2) 3)).eval default fun r0 =>
    .bnd (ref19_at.f k (bs [101, 102, 102, 101, 99, 116]) (et 99 r0)).eval default fun r1 =>
    .test (iIn x.2 (rLen c0))
     (.bnd (ref19_truth.f k (rBool (rAt c0 x.2) 2)).eval default fun r2 =>
     .bnd (ref19_at.f k (bs [101, 120, 105, 115, 116, 115]) (et 99 r2)).eval default fun r3 =>
     .test (iIn x.2 (rLen c0))
      (.bnd (ref19_str.f k (rStr (rAt c0 x.2) 0)).eval default fun r4 =>
      .bnd (ref19_at.f k (bs [107, 101, 121]) (et 99 r4)).eval default fun r5 =>
      .test (iIn x.2 (rLen c0))
       (.bnd (ref19_num.f k (rInt (rAt c0 x.2) 4)).eval default fun r6 =>
       .bnd (ref19_at.f k (bs [115, 101, 99, 111, 110, 100, 115]) (et 99 r6)).eval default fun r7 =>
       .test (iIn x.2 (rLen c0))
        (.bnd (ref19_str.f k (rStr (rAt c0 x.2) 1)).eval default fun r8 =>
        .bnd (ref19_at.f k (bs [118, 97, 108, 117, 101]) (et 99 r8)).eval default fun r9 =>
        .bnd (ref19_object.f k [(et 122 r1), (et 122 r3), (et 122 r5), (et 122 r7), (et 122 r9)]).eval default fun r10 =>
        .test (rOk 80 (rLen x.1) (rLen [(et 99 r10)]))
         (.ret (.inl ((rCat x.1 [(et 99 r10)]), (iAdd .i64 x.2 (1)))))
         (.fail))
        (.fail))
       (.fail))
      (.fail))
     (.fail))
    (.fail))
   (.ret (.inr x.1))
noncomputable def a3 (c0 : Rows) (c1 : Row) (x : (Rows × Int)) : Dt := ⟨[.r c0, .u, .r x.1, .i x.2], [], [et 99 c1], []⟩
noncomputable def o3_0 (c0 : Rows) (c1 : Row) (r : Rows) : X × Dt := (.exit 0, ⟨[.u, .r r], [], [(et 99 c1)], []⟩)
noncomputable def e3 (k : Nat) (d : Dt) : T (X × Dt) := out1 (iter (s3 k (aR (aN d.a 0)) (d.r.getD 0 [])) k ((aR (aN d.a 2)), (aI (aN d.a 3)))) default (o3_0 (aR (aN d.a 0)) (d.r.getD 0 []))
noncomputable def S (k : Nat) : Subs := fun n => bif Nat.beq n 3 then some (loopV Try.prog t3 (e3 k)) else none
noncomputable def f (k : Nat) (a0 : Rows) : T Row :=
  .bnd (iter (ref19_fromTolerations.s3 k a0 [.int .i64 (0), .int .i64 (0), .str ByteArray.empty, .slice 99 [] .open, .slice 122 [] .open]) k ([], (0))) default fun r0 =>
  .bnd (ref19_list.f k r0).eval default fun r1 =>
  .ret (et 99 r1)
noncomputable def d (k : Nat) : Fun := mkFun [33] (fun as_ => f k (vRows (vN as_ 0))) default (fun r => .agg (et 99 r))
theorem hC (k : Nat) : CxOk (C k) := CxOk.cons (p := (64, ref19_num.d k)) (ref19_num.ok k) (CxOk.cons (p := (62, ref19_at.d k)) (ref19_at.ok k) (CxOk.cons (p := (72, ref19_truth.d k)) (ref19_truth.ok k) (CxOk.cons (p := (65, ref19_str.d k)) (ref19_str.ok k) (CxOk.cons (p := (61, ref19_object.d k)) (ref19_object.ok k) (CxOk.cons (p := (76, ref19_list.d k)) (ref19_list.ok k) (CxOk.nil))))))
theorem l3 (k : Nat) : LoopOk Try.prog (S k) (lp (bodyF Go.Proofs.Try.f70) 0) := loopOk_mk (C := C k) (hC k) (Loops.all (n := 0) (by kernel_rfl) trivial) (lt := t3) (den := e3 k) (by kernel_rfl) (N := (Rows × Row)) (A := (Rows × Int)) (R := Rows)
 (fun n x => a3 n.1 n.2 x) (fun n r => o3_0 n.1 n.2 r) (fun n x => s3 k n.1 n.2 x) k (fun d => ((aR (aN d.a 0)), (d.r.getD 0 []))) (fun d => ((aR (aN d.a 2)), (aI (aN d.a 3)))) (fun d y h => out1_eval h) (fun d => by kernel_rfl) (fun n x => by kernel_rfl) (fun n r => ⟨_, rfl⟩)
theorem ok (k : Nat) : FunOk Try.prog 70 (d k) := fun_mk (C := C k) (hC k) (S := S k) Try.func70 (by kernel_rfl) (by kernel_rfl) (Loops.all (n := 1) (by kernel_rfl) ⟨trivial, l3 k⟩) (fun as_ => by kernel_rfl)
end ref19_fromTolerations
namespace ref19_FromSpec
noncomputable def C (k : Nat) : Cx := ⟨Try.prog, tab [(63, ref19_fromContainers.d k), (62, ref19_at.d k), (64, ref19_num.d k), (65, ref19_str.d k), (66, ref19_FromSelector.d k), (67, ref19_fromNodeTerms.d k), (68, ref19_fromPodTerms.d k), (69, ref19_fromSpread.d k), (70, ref19_fromTolerations.d k), (61, ref19_object.d k)], [], []⟩
noncomputable def S (k : Nat) : Subs := fun n => none
noncomputable def f (k : Nat) (a0 : Row) : T Row :=
  .bnd (ref19_fromContainers.f k (rSl a0 4)).eval default fun r0 =>
  .bnd (ref19_at.f k (bs [99, 111, 110, 116, 97, 105, 110, 101, 114, 115]) (et 99 r0)).eval default fun r1 =>
  .bnd (ref19_num.f k (rInt a0 3)).eval default fun r2 =>
  .bnd (ref19_at.f k (bs [103, 114, 97, 99, 101]) (et 99 r2)).eval default fun r3 =>
  .bnd (ref19_str.f k (rStr a0 0)).eval default fun r4 =>
  .bnd (ref19_at.f k (bs [110, 111, 100, 101]) (et 99 r4)).eval default fun r5 =>
  .bnd (ref19_FromSelector.f k (rSl a0 5)).eval default fun r6 =>
  .bnd (ref19_at.f k (bs [110, 111, 100, 101, 83, 101, 108, 101, 99, 116, 111, 114]) (et 99 r6)).eval default fun r7 =>
  .bnd (ref19_fromNodeTerms.f k (rSl a0 6)).eval default fun r8 =>
  .bnd (ref19_at.f k (bs [110, 111, 100, 101, 84, 101, 114, 109, 115]) (et 99 r8)).eval default fun r9 =>
  .bnd (ref19_fromPodTerms.f k (rSl a0 7)).eval default fun r10 =>
  .bnd (ref19_at.f k (bs [112, 111, 100, 84, 101, 114, 109, 115]) (et 99 r10)).eval default fun r11 =>
  .bnd (ref19_num.f k (rInt a0 1)).eval default fun r12 =>
  .bnd (ref19_at.f k (bs [112, 114, 105, 111, 114, 105, 116, 121]) (et 99 r12)).eval default fun r13 =>
  .bnd (ref19_num.f k (rInt a0 2)).eval default fun r14 =>
  .bnd (ref19_at.f k (bs [114, 101, 115, 116, 97, 114, 116]) (et 99 r14)).eval default fun r15 =>
  .bnd (ref19_fromSpread.f k (rSl a0 8)).eval default fun r16 =>
  .bnd (ref19_at.f k (bs [115, 112, 114, 101, 97, 100]) (et 99 r16)).eval default fun r17 =>
  .bnd (ref19_fromTolerations.f k (rSl a0 9)).eval default fun r18 =>
  .bnd (ref19_at.f k (bs [116, 111, 108, 101, 114, 97, 116, 105, 111, 110, 115]) (et 99 r18)).eval default fun r19 =>
  .bnd (ref19_object.f k [(et 122 r1), (et 122 r3), (et 122 r5), (et 122 r7), (et 122 r9), (et 122 r11), (et 122 r13), (et 122 r15), (et 122 r17), (et 122 r19)]).eval default fun r20 =>
  .ret (et 99 r20)
noncomputable def d (k : Nat) : Fun := mkFun [35] (fun as_ => f k (vRow (vN as_ 0))) default (fun r => .agg (et 99 r))
theorem hC (k : Nat) : CxOk (C k) := CxOk.cons (p := (63, ref19_fromContainers.d k)) (ref19_fromContainers.ok k) (CxOk.cons (p := (62, ref19_at.d k)) (ref19_at.ok k) (CxOk.cons (p := (64, ref19_num.d k)) (ref19_num.ok k) (CxOk.cons (p := (65, ref19_str.d k)) (ref19_str.ok k) (CxOk.cons (p := (66, ref19_FromSelector.d k)) (ref19_FromSelector.ok k) (CxOk.cons (p := (67, ref19_fromNodeTerms.d k)) (ref19_fromNodeTerms.ok k) (CxOk.cons (p := (68, ref19_fromPodTerms.d k)) (ref19_fromPodTerms.ok k) (CxOk.cons (p := (69, ref19_fromSpread.d k)) (ref19_fromSpread.ok k) (CxOk.cons (p := (70, ref19_fromTolerations.d k)) (ref19_fromTolerations.ok k) (CxOk.cons (p := (61, ref19_object.d k)) (ref19_object.ok k) (CxOk.nil))))))))))
theorem ok (k : Nat) : FunOk Try.prog 54 (d k) := fun_mk (C := C k) (hC k) (S := S k) Try.func54 (by kernel_rfl) (by kernel_rfl) (Loops.all (n := 0) (by kernel_rfl) trivial) (fun as_ => by kernel_rfl)
end ref19_FromSpec
namespace ref19_fromStatuses
noncomputable def C (k : Nat) : Cx := ⟨Try.prog, tab [(64, ref19_num.d k), (62, ref19_at.d k), (65, ref19_str.d k), (72, ref19_truth.d k), (61, ref19_object.d k), (76, ref19_list.d k)], [], []⟩
noncomputable def t3 : LoopT := ⟨⟨51, [.tmp 3 48 99], [(0, .sl 147 none), (2, .ptr 2 0), (3, .sl 99 (some 48)), (4, .int .i64)], [], [(2, 99)], []⟩, (fun | .exit 0 => some ⟨51, [], [(2, .ptr 2 0), (3, .sl 99 (some 48))], [], [(2, 99)], []⟩ | _ => none)⟩
noncomputable def s3 (k : Nat) (c0 : Rows) (c1 : Row) (x : (Rows × Int)) : T ((Rows × Int) ⊕ Rows) :=
  .test (iLt x.2 (rLen c0))
   (.test (iIn x.2 (rLen c0))
    (.bnd (ref19_num.f k (rInt (rAt c0 x.2) 3)).eval default fun r0 =>
    .bnd (ref19_at.f k (bs [101, 120, 105, 116, 67, 111, 100, 101]) (et 99 r0)).eval default fun r1 =>
    .bnd (ref19_str.f k (rStr (rAt c0 x.2) 0)).eval default fun r2 =>
    .bnd (ref19_at.f k (bs [110, 97, 109, 101]) (et 99 r2)).eval default fun r3 =>
    .bnd (ref19_truth.f k (rBool (rAt c0 x.2) 5)).eval default fun r4 =>
    .bnd (ref19_at.f k (bs [114, 101, 97, 100, 121]) (et 99 r4)).eval default fun r5 =>
    .bnd (ref19_num.f k (rInt (rAt c0 x.2) 2)).eval default fun r6 =>
    .bnd (ref19_at.f k (bs [114, 101, 115, 116, 97, 114, 116, 115]) (et 99 r6)).eval default fun r7 =>
    .bnd (ref19_num.f k (rInt (rAt c0 x.2) 4)).eval default fun r8 =>
    .bnd (ref19_at.f k (bs [115, 105, 110, 99, 101]) (et 99 r8)).eval default fun r9 =>
    .bnd (ref19_truth.f k (rBool (rAt c0 x.2) 6)).eval default fun r10 =>
    .bnd (ref19_at.f k (bs [115, 116, 97, 114, 116, 101, 100]) (et 99 r10)).eval default fun r11 =>
    .bnd (ref19_num.f k (rInt (rAt c0 x.2) 1)).eval default fun r12 =>
    .bnd (ref19_at.f k (bs [115, 116, 97, 116, 101]) (et 99 r12)).eval default fun r13 =>
    .bnd (ref19_object.f k [(et 122 r1), (et 122 r3), (et 122 r5), (et 122 r7), (et 122 r9), (et 122 r11), (et 122 r13)]).eval default fun r14 =>
    .test (rOk 80 (rLen x.1) (rLen [(et 99 r14)]))
     (.ret (.inl ((rCat x.1 [(et 99 r14)]), (iAdd .i64 x.2 (1)))))
     (.fail))
    (.fail))
   (.ret (.inr x.1))
noncomputable def a3 (c0 : Rows) (c1 : Row) (x : (Rows × Int)) : Dt := ⟨[.r c0, .u, .r x.1, .i x.2], [], [et 99 c1], []⟩
noncomputable def o3_0 (c0 : Rows) (c1 : Row) (r : Rows) : X × Dt := (.exit 0, ⟨[.u, .r r], [], [(et 99 c1)], []⟩)
noncomputable def e3 (k : Nat) (d : Dt) : T (X × Dt) := out1 (iter (s3 k (aR (aN d.a 0)) (d.r.getD 0 [])) k ((aR (aN d.a 2)), (aI (aN d.a 3)))) default (o3_0 (aR (aN d.a 0)) (d.r.getD 0 []))
noncomputable def S (k : Nat) : Subs := fun n => bif Nat.beq n 3 then some (loopV Try.prog t3 (e3 k)) else none
noncomputable def f (k : Nat) (a0 : Rows) : T Row :=
  .bnd (iter (ref19_fromStatuses.s3 k a0 [.int .i64 (0), .int .i64 (0), .str ByteArray.empty, .slice 99 [] .open, .slice 122 [] .open]) k ([], (0))) default fun r0 =>
  .bnd (ref19_list.f k r0).eval default fun r1 =>
  .ret (et 99 r1)
noncomputable def d (k : Nat) : Fun := mkFun [36] (fun as_ => f k (vRows (vN as_ 0))) default (fun r => .agg (et 99 r))
theorem hC (k : Nat) : CxOk (C k) := CxOk.cons (p := (64, ref19_num.d k)) (ref19_num.ok k) (CxOk.cons (p := (62, ref19_at.d k)) (ref19_at.ok k) (CxOk.cons (p := (65, ref19_str.d k)) (ref19_str.ok k) (CxOk.cons (p := (72, ref19_truth.d k)) (ref19_truth.ok k) (CxOk.cons (p := (61, ref19_object.d k)) (ref19_object.ok k) (CxOk.cons (p := (76, ref19_list.d k)) (ref19_list.ok k) (CxOk.nil))))))
theorem l3 (k : Nat) : LoopOk Try.prog (S k) (lp (bodyF Go.Proofs.Try.f71) 0) := loopOk_mk (C := C k) (hC k) (Loops.all (n := 0) (by kernel_rfl) trivial) (lt := t3) (den := e3 k) (by kernel_rfl) (N := (Rows × Row)) (A := (Rows × Int)) (R := Rows)
 (fun n x => a3 n.1 n.2 x) (fun n r => o3_0 n.1 n.2 r) (fun n x => s3 k n.1 n.2 x) k (fun d => ((aR (aN d.a 0)), (d.r.getD 0 []))) (fun d => ((aR (aN d.a 2)), (aI (aN d.a 3)))) (fun d y h => out1_eval h) (fun d => by kernel_rfl) (fun n x => by kernel_rfl) (fun n r => ⟨_, rfl⟩)
theorem ok (k : Nat) : FunOk Try.prog 71 (d k) := fun_mk (C := C k) (hC k) (S := S k) Try.func71 (by kernel_rfl) (by kernel_rfl) (Loops.all (n := 1) (by kernel_rfl) ⟨trivial, l3 k⟩) (fun as_ => by kernel_rfl)
end ref19_fromStatuses
namespace ref19_fromStatus
noncomputable def C (k : Nat) : Cx := ⟨Try.prog, tab [(64, ref19_num.d k), (62, ref19_at.d k), (71, ref19_fromStatuses.d k), (65, ref19_str.d k), (72, ref19_truth.d k), (61, ref19_object.d k)], [], []⟩
noncomputable def S (k : Nat) : Subs := fun n => none
noncomputable def f (k : Nat) (a0 : Row) : T Row :=
  .bnd (ref19_num.f k (rInt a0 6)).eval default fun r0 =>
  .bnd (ref19_at.f k (bs [97, 100, 100, 114, 101, 115, 115]) (et 99 r0)).eval default fun r1 =>
  .bnd (ref19_fromStatuses.f k (rSl a0 5)).eval default fun r2 =>
  .bnd (ref19_at.f k (bs [99, 111, 110, 116, 97, 105, 110, 101, 114, 115]) (et 99 r2)).eval default fun r3 =>
  .bnd (ref19_num.f k (rInt a0 4)).eval default fun r4 =>
  .bnd (ref19_at.f k (bs [102, 105, 110, 105, 115, 104, 101, 100]) (et 99 r4)).eval default fun r5 =>
  .bnd (ref19_str.f k (rStr a0 7)).eval default fun r6 =>
  .bnd (ref19_at.f k (bs [110, 111, 109, 105, 110, 97, 116, 101, 100]) (et 99 r6)).eval default fun r7 =>
  .bnd (ref19_num.f k (rInt a0 0)).eval default fun r8 =>
  .bnd (ref19_at.f k (bs [112, 104, 97, 115, 101]) (et 99 r8)).eval default fun r9 =>
  .bnd (ref19_truth.f k (rBool a0 1)).eval default fun r10 =>
  .bnd (ref19_at.f k (bs [114, 101, 97, 100, 121]) (et 99 r10)).eval default fun r11 =>
  .bnd (ref19_num.f k (rInt a0 2)).eval default fun r12 =>
  .bnd (ref19_at.f k (bs [114, 101, 97, 100, 121, 83, 105, 110, 99, 101]) (et 99 r12)).eval default fun r13 =>
  .bnd (ref19_str.f k (rStr a0 8)).eval default fun r14 =>
  .bnd (ref19_at.f k (bs [114, 101, 97, 115, 111, 110]) (et 99 r14)).eval default fun r15 =>
  .bnd (ref19_num.f k (rInt a0 3)).eval default fun r16 =>
  .bnd (ref19_at.f k (bs [115, 116, 97, 114, 116, 101, 100]) (et 99 r16)).eval default fun r17 =>
  .bnd (ref19_object.f k [(et 122 r1), (et 122 r3), (et 122 r5), (et 122 r7), (et 122 r9), (et 122 r11), (et 122 r13), (et 122 r15), (et 122 r17)]).eval default fun r18 =>
  .ret (et 99 r18)
noncomputable def d (k : Nat) : Fun := mkFun [38] (fun as_ => f k (vRow (vN as_ 0))) default (fun r => .agg (et 99 r))
theorem hC (k : Nat) : CxOk (C k) := CxOk.cons (p := (64, ref19_num.d k)) (ref19_num.ok k) (CxOk.cons (p := (62, ref19_at.d k)) (ref19_at.ok k) (CxOk.cons (p := (71, ref19_fromStatuses.d k)) (ref19_fromStatuses.ok k) (CxOk.cons (p := (65, ref19_str.d k)) (ref19_str.ok k) (CxOk.cons (p := (72, ref19_truth.d k)) (ref19_truth.ok k) (CxOk.cons (p := (61, ref19_object.d k)) (ref19_object.ok k) (CxOk.nil))))))
theorem ok (k : Nat) : FunOk Try.prog 55 (d k) := fun_mk (C := C k) (hC k) (S := S k) Try.func55 (by kernel_rfl) (by kernel_rfl) (Loops.all (n := 0) (by kernel_rfl) trivial) (fun as_ => by kernel_rfl)
end ref19_fromStatus
namespace ref19_FromPod
noncomputable def C (k : Nat) : Cx := ⟨Try.prog, tab [(54, ref19_FromSpec.d k), (55, ref19_fromStatus.d k)], [], []⟩
noncomputable def S (k : Nat) : Subs := fun n => none
noncomputable def f (k : Nat) (a0 : Row) : T Row :=
  .bnd (ref19_FromSpec.f k (eo 35 a0 13)).eval default fun r0 =>
  .bnd (ref19_fromStatus.f k (eo 38 a0 23)).eval default fun r1 =>
  .ret (rJ [[.str (bs [80, 111, 100]), .str (rStr a0 1), .str (rStr a0 2), .int .i64 (rInt a0 3), .int .i64 (rInt a0 4), .int .i64 (rInt a0 5), .int .i64 (rInt a0 6), .bool (rBool a0 7), .int .i64 (rInt a0 8), .slice 105 (rSl a0 9) .open, .slice 107 (rSl a0 10) .open, .slice 9 (rSl a0 11) .open, .slice 109 (rSl a0 12) .open], (et 99 r0), (et 99 r1)])
noncomputable def d (k : Nat) : Fun := mkFun [40] (fun as_ => f k (vRow (vN as_ 0))) default (fun r => .agg (et 101 r))
theorem hC (k : Nat) : CxOk (C k) := CxOk.cons (p := (54, ref19_FromSpec.d k)) (ref19_FromSpec.ok k) (CxOk.cons (p := (55, ref19_fromStatus.d k)) (ref19_fromStatus.ok k) (CxOk.nil))
theorem ok (k : Nat) : FunOk Try.prog 45 (d k) := fun_mk (C := C k) (hC k) (S := S k) Try.func45 (by kernel_rfl) (by kernel_rfl) (Loops.all (n := 0) (by kernel_rfl) trivial) (fun as_ => by kernel_rfl)
end ref19_FromPod
namespace law19_SmallMeta
noncomputable def C (k : Nat) : Cx := ⟨Try.prog, tab [], [], []⟩
noncomputable def t4 : LoopT := ⟨⟨121, [], [(1, .ptr 1 0), (50, .sl 105 none), (51, .int .i64), (52, .int .i64)], [], [(1, 27)], []⟩, (fun | .ret => some ⟨121, [], [(2, .bool)], [], [], []⟩ | .exit 0 => some ⟨121, [], [(1, .ptr 1 0)], [], [(1, 27)], []⟩ | _ => none)⟩
noncomputable def s4 (k : Nat) (c0 : Rows) (c1 : Int) (c2 : Row) (x : Int) : T (Int ⊕ (Bool ⊕ Unit)) :=
  .test (iLt x c1)
   (.test (iIn x (rLen c0))
    (.test (iLt (400) (iAdd .i64 (sLen (rStr (rAt c0 x) 0)) (sLen (rStr (rAt c0 x) 1))))
     (.ret (.inr (.inl false)))
     (.ret (.inl (iAdd .i64 x (1)))))
    (.fail))
   (.ret (.inr (.inr ())))
noncomputable def a4 (c0 : Rows) (c1 : Int) (c2 : Row) (x : Int) : Dt := ⟨[.u, .r c0, .i c1, .i x], [], [et 27 c2], []⟩
noncomputable def o4_0 (c0 : Rows) (c1 : Int) (c2 : Row) (r : Bool) : X × Dt := (.ret, ⟨[.b r], [], [], []⟩)
noncomputable def o4_1 (c0 : Rows) (c1 : Int) (c2 : Row) (r : Unit) : X × Dt := (.exit 0, ⟨[.u], [], [(et 27 c2)], []⟩)
noncomputable def e4 (k : Nat) (d : Dt) : T (X × Dt) := out2 (iter (s4 k (aR (aN d.a 1)) (aI (aN d.a 2)) (d.r.getD 0 [])) k (aI (aN d.a 3))) (o4_0 (aR (aN d.a 1)) (aI (aN d.a 2)) (d.r.getD 0 [])) (o4_1 (aR (aN d.a 1)) (aI (aN d.a 2)) (d.r.getD 0 []))
noncomputable def t10 : LoopT := ⟨⟨121, [], [(1, .ptr 1 0), (66, .sl 107 none), (67, .int .i64), (68, .int .i64)], [], [(1, 27)], []⟩, (fun | .ret => some ⟨121, [], [(2, .bool)], [], [], []⟩ | .exit 2 => some ⟨121, [], [(1, .ptr 1 0)], [], [(1, 27)], []⟩ | _ => none)⟩
noncomputable def s10 (k : Nat) (c0 : Rows) (c1 : Int) (c2 : Row) (x : Int) : T (Int ⊕ (Bool ⊕ Unit)) :=
  .test (iLt x c1)
   (.test (iIn x (rLen c0))
    (.test (iLt (400) (iAdd .i64 (sLen (rStr (rAt c0 x) 0)) (sLen (rStr (rAt c0 x) 1))))
     (.ret (.inr (.inl false)))
     (.ret (.inl (iAdd .i64 x (1)))))
    (.fail))
   (.ret (.inr (.inr ())))
noncomputable def a10 (c0 : Rows) (c1 : Int) (c2 : Row) (x : Int) : Dt := ⟨[.u, .r c0, .i c1, .i x], [], [et 27 c2], []⟩
noncomputable def o10_0 (c0 : Rows) (c1 : Int) (c2 : Row) (r : Bool) : X × Dt := (.ret, ⟨[.b r], [], [], []⟩)
noncomputable def o10_1 (c0 : Rows) (c1 : Int) (c2 : Row) (r : Unit) : X × Dt := (.exit 2, ⟨[.u], [], [(et 27 c2)], []⟩)
noncomputable def e10 (k : Nat) (d : Dt) : T (X × Dt) := out2 (iter (s10 k (aR (aN d.a 1)) (aI (aN d.a 2)) (d.r.getD 0 [])) k (aI (aN d.a 3))) (o10_0 (aR (aN d.a 1)) (aI (aN d.a 2)) (d.r.getD 0 [])) (o10_1 (aR (aN d.a 1)) (aI (aN d.a 2)) (d.r.getD 0 []))
noncomputable def t16 : LoopT := ⟨⟨121, [], [(1, .ptr 1 0), (82, .sl 9 none), (83, .int .i64), (84, .int .i64)], [], [(1, 27)], []⟩, (fun | .ret => some ⟨121, [], [(2, .bool)], [], [], []⟩ | .exit 4 => some ⟨121, [], [(1, .ptr 1 0)], [], [(1, 27)], []⟩ | _ => none)⟩
noncomputable def s16 (k : Nat) (c0 : Rows) (c1 : Int) (c2 : Row) (x : Int) : T (Int ⊕ (Bool ⊕ Unit)) :=
  .test (iLt x c1)
   (.test (iIn x (rLen c0))
    (.test (iLt (400) (sLen (rStr (rAt c0 x) 0)))
     (.ret (.inr (.inl false)))
     (.ret (.inl (iAdd .i64 x (1)))))
    (.fail))
   (.ret (.inr (.inr ())))
noncomputable def a16 (c0 : Rows) (c1 : Int) (c2 : Row) (x : Int) : Dt := ⟨[.u, .r c0, .i c1, .i x], [], [et 27 c2], []⟩
noncomputable def o16_0 (c0 : Rows) (c1 : Int) (c2 : Row) (r : Bool) : X × Dt := (.ret, ⟨[.b r], [], [], []⟩)
noncomputable def o16_1 (c0 : Rows) (c1 : Int) (c2 : Row) (r : Unit) : X × Dt := (.exit 4, ⟨[.u], [], [(et 27 c2)], []⟩)
noncomputable def e16 (k : Nat) (d : Dt) : T (X × Dt) := out2 (iter (s16 k (aR (aN d.a 1)) (aI (aN d.a 2)) (d.r.getD 0 [])) k (aI (aN d.a 3))) (o16_0 (aR (aN d.a 1)) (aI (aN d.a 2)) (d.r.getD 0 [])) (o16_1 (aR (aN d.a 1)) (aI (aN d.a 2)) (d.r.getD 0 []))
noncomputable def t27 : LoopT := ⟨⟨121, [], [(93, .sl 109 none), (94, .int .i64), (95, .int .i64), (110, .sl 9 none), (111, .int .i64), (112, .int .i64)], [], [], []⟩, (fun | .ret => some ⟨121, [], [(2, .bool)], [], [], []⟩ | .exit 8 => some ⟨121, [], [(93, .sl 109 none), (94, .int .i64), (95, .int .i64)], [], [], []⟩ | _ => none)⟩
noncomputable def s27 (k : Nat) (c0 : Rows) (c1 : Int) (c2 : Int) (c3 : Rows) (c4 : Int) (x : Int) : T (Int ⊕ (Bool ⊕ Unit)) :=
  .test (iLt x c4)
   (.test (iIn x (rLen c3))
    (.test (iLt (2000) (sLen (rStr (rAt c3 x) 0)))
     (.ret (.inr (.inl false)))
     (.ret (.inl (iAdd .i64 x (1)))))
    (.fail))
   (.ret (.inr (.inr ())))
noncomputable def a27 (c0 : Rows) (c1 : Int) (c2 : Int) (c3 : Rows) (c4 : Int) (x : Int) : Dt := ⟨[.r c0, .i c1, .i c2, .r c3, .i c4, .i x], [], [], []⟩
noncomputable def o27_0 (c0 : Rows) (c1 : Int) (c2 : Int) (c3 : Rows) (c4 : Int) (r : Bool) : X × Dt := (.ret, ⟨[.b r], [], [], []⟩)
noncomputable def o27_1 (c0 : Rows) (c1 : Int) (c2 : Int) (c3 : Rows) (c4 : Int) (r : Unit) : X × Dt := (.exit 8, ⟨[.r c0, .i c1, .i c2], [], [], []⟩)
noncomputable def e27 (k : Nat) (d : Dt) : T (X × Dt) := out2 (iter (s27 k (aR (aN d.a 0)) (aI (aN d.a 1)) (aI (aN d.a 2)) (aR (aN d.a 3)) (aI (aN d.a 4))) k (aI (aN d.a 5))) (o27_0 (aR (aN d.a 0)) (aI (aN d.a 1)) (aI (aN d.a 2)) (aR (aN d.a 3)) (aI (aN d.a 4))) (o27_1 (aR (aN d.a 0)) (aI (aN d.a 1)) (aI (aN d.a 2)) (aR (aN d.a 3)) (aI (aN d.a 4)))
noncomputable def t22 : LoopT := ⟨⟨121, [], [(93, .sl 109 none), (94, .int .i64), (95, .int .i64)], [], [], []⟩, (fun | .ret => some ⟨121, [], [(2, .bool)], [], [], []⟩ | .exit 6 => some ⟨121, [], [], [], [], []⟩ | _ => none)⟩
noncomputable def s22 (k : Nat) (c0 : Rows) (c1 : Int) (x : Int) : T (Int ⊕ (Bool ⊕ Unit)) :=
  .test (iLt x c1)
   (.test (iIn x (rLen c0))
    (.test (bIte (iLt (400) (sLen (rStr (rAt c0 x) 0))) true (iLt (200) (rLen (rSl (rAt c0 x) 1))))
     (.ret (.inr (.inl false)))
     (.cas (iter (law19_SmallMeta.s27 k c0 c1 x (rSl (rAt c0 x) 1) (rLen (rSl (rAt c0 x) 1))) k (0)) (fun r0 =>
      .ret (.inr (.inl r0))) (fun r1 =>
      .ret (.inl (iAdd .i64 x (1))))))
    (.fail))
   (.ret (.inr (.inr ())))
noncomputable def a22 (c0 : Rows) (c1 : Int) (x : Int) : Dt := ⟨[.r c0, .i c1, .i x], [], [], []⟩
noncomputable def o22_0 (c0 : Rows) (c1 : Int) (r : Bool) : X × Dt := (.ret, ⟨[.b r], [], [], []⟩)
noncomputable def o22_1 (c0 : Rows) (c1 : Int) (r : Unit) : X × Dt := (.exit 6, ⟨[], [], [], []⟩)
noncomputable def e22 (k : Nat) (d : Dt) : T (X × Dt) := out2 (iter (s22 k (aR (aN d.a 0)) (aI (aN d.a 1))) k (aI (aN d.a 2))) (o22_0 (aR (aN d.a 0)) (aI (aN d.a 1))) (o22_1 (aR (aN d.a 0)) (aI (aN d.a 1)))
noncomputable def S (k : Nat) : Subs := fun n => bif Nat.beq n 4 then some (loopV Try.prog t4 (e4 k)) else bif Nat.beq n 10 then some (loopV Try.prog t10 (e10 k)) else bif Nat.beq n 16 then some (loopV Try.prog t16 (e16 k)) else bif Nat.beq n 27 then some (loopV Try.prog t27 (e27 k)) else bif Nat.beq n 22 then some (loopV Try.prog t22 (e22 k)) else none
noncomputable def f (k : Nat) (a0 : Row) : T Bool :=
  .test (bIte (bIte (bIte (bIte (iLt (60) (rLen (rSl a0 9))) true (iLt (60) (rLen (rSl a0 10)))) true (iLt (60) (rLen (rSl a0 11)))) true (iLt (60) (rLen (rSl a0 12)))) true (iLt (400) (iAdd .i64 (iAdd .i64 (sLen (rStr a0 0)) (sLen (rStr a0 1))) (sLen (rStr a0 2)))))
   (.ret false)
   (.cas (iter (law19_SmallMeta.s4 k (rSl a0 9) (rLen (rSl a0 9)) (et 27 a0)) k (0)) (fun r0 =>
    .ret r0) (fun r1 =>
    .cas (iter (law19_SmallMeta.s10 k (rSl a0 10) (rLen (rSl a0 10)) (et 27 a0)) k (0)) (fun r2 =>
     .ret r2) (fun r3 =>
     .cas (iter (law19_SmallMeta.s16 k (rSl a0 11) (rLen (rSl a0 11)) (et 27 a0)) k (0)) (fun r4 =>
      .ret r4) (fun r5 =>
      .cas (iter (law19_SmallMeta.s22 k (rSl a0 12) (rLen (rSl a0 12))) k (0)) (fun r6 =>
       .ret r6) (fun r7 =>
       .ret true)))))
noncomputable def d (k : Nat) : Fun := mkFun [27] (fun as_ => f k (vRow (vN as_ 0))) default (fun r => .bool r)
theorem hC (k : Nat) : CxOk (C k) := CxOk.nil
theorem l4 (k : Nat) : LoopOk Try.prog (S k) (lp (bodyF Go.Proofs.Try.f25) 0) := loopOk_mk (C := C k) (hC k) (Loops.all (n := 0) (by kernel_rfl) trivial) (lt := t4) (den := e4 k) (by kernel_rfl) (N := (Rows × Int × Row)) (A := Int) (R := (Bool ⊕ Unit))
 (fun n x => a4 n.1 n.2.1 n.2.2 x) (fun n r => Sum.elim (o4_0 n.1 n.2.1 n.2.2) (o4_1 n.1 n.2.1 n.2.2) r) (fun n x => s4 k n.1 n.2.1 n.2.2 x) k (fun d => ((aR (aN d.a 1)), (aI (aN d.a 2)), (d.r.getD 0 []))) (fun d => (aI (aN d.a 3))) (fun d y h => out2_eval h) (fun d => by kernel_rfl) (fun n x => by kernel_rfl) (fun n r => by rcases r with r | r <;> exact ⟨_, rfl⟩)
theorem l10 (k : Nat) : LoopOk Try.prog (S k) (lp (bodyF Go.Proofs.Try.f25) 1) := loopOk_mk (C := C k) (hC k) (Loops.all (n := 0) (by kernel_rfl) trivial) (lt := t10) (den := e10 k) (by kernel_rfl) (N := (Rows × Int × Row)) (A := Int) (R := (Bool ⊕ Unit))
 (fun n x => a10 n.1 n.2.1 n.2.2 x) (fun n r => Sum.elim (o10_0 n.1 n.2.1 n.2.2) (o10_1 n.1 n.2.1 n.2.2) r) (fun n x => s10 k n.1 n.2.1 n.2.2 x) k (fun d => ((aR (aN d.a 1)), (aI (aN d.a 2)), (d.r.getD 0 []))) (fun d => (aI (aN d.a 3))) (fun d y h => out2_eval h) (fun d => by kernel_rfl) (fun n x => by kernel_rfl) (fun n r => by rcases r with r | r <;> exact ⟨_, rfl⟩)
theorem l16 (k : Nat) : LoopOk Try.prog (S k) (lp (bodyF Go.Proofs.Try.f25) 2) := loopOk_mk (C := C k) (hC k) (Loops.all (n := 0) (by kernel_rfl) trivial) (lt := t16) (den := e16 k) (by kernel_rfl) (N := (Rows × Int × Row)) (A := Int) (R := (Bool ⊕ Unit))
 (fun n x => a16 n.1 n.2.1 n.2.2 x) (fun n r => Sum.elim (o16_0 n.1 n.2.1 n.2.2) (o16_1 n.1 n.2.1 n.2.2) r) (fun n x => s16 k n.1 n.2.1 n.2.2 x) k (fun d => ((aR (aN d.a 1)), (aI (aN d.a 2)), (d.r.getD 0 []))) (fun d => (aI (aN d.a 3))) (fun d y h => out2_eval h) (fun d => by kernel_rfl) (fun n x => by kernel_rfl) (fun n r => by rcases r with r | r <;> exact ⟨_, rfl⟩)
theorem l27 (k : Nat) : LoopOk Try.prog (S k) (lp (lp (bodyF Go.Proofs.Try.f25) 3) 0) := loopOk_mk (C := C k) (hC k) (Loops.all (n := 0) (by kernel_rfl) trivial) (lt := t27) (den := e27 k) (by kernel_rfl) (N := (Rows × Int × Int × Rows × Int)) (A := Int) (R := (Bool ⊕ Unit))
 (fun n x => a27 n.1 n.2.1 n.2.2.1 n.2.2.2.1 n.2.2.2.2 x) (fun n r => Sum.elim (o27_0 n.1 n.2.1 n.2.2.1 n.2.2.2.1 n.2.2.2.2) (o27_1 n.1 n.2.1 n.2.2.1 n.2.2.2.1 n.2.2.2.2) r) (fun n x => s27 k n.1 n.2.1 n.2.2.1 n.2.2.2.1 n.2.2.2.2 x) k (fun d => ((aR (aN d.a 0)), (aI (aN d.a 1)), (aI (aN d.a 2)), (aR (aN d.a 3)), (aI (aN d.a 4)))) (fun d => (aI (aN d.a 5))) (fun d y h => out2_eval h) (fun d => by kernel_rfl) (fun n x => by kernel_rfl) (fun n r => by rcases r with r | r <;> exact ⟨_, rfl⟩)
theorem l22 (k : Nat) : LoopOk Try.prog (S k) (lp (bodyF Go.Proofs.Try.f25) 3) := loopOk_mk (C := C k) (hC k) (Loops.all (n := 1) (by kernel_rfl) ⟨trivial, l27 k⟩) (lt := t22) (den := e22 k) (by kernel_rfl) (N := (Rows × Int)) (A := Int) (R := (Bool ⊕ Unit))
 (fun n x => a22 n.1 n.2 x) (fun n r => Sum.elim (o22_0 n.1 n.2) (o22_1 n.1 n.2) r) (fun n x => s22 k n.1 n.2 x) k (fun d => ((aR (aN d.a 0)), (aI (aN d.a 1)))) (fun d => (aI (aN d.a 2))) (fun d y h => out2_eval h) (fun d => by kernel_rfl) (fun n x => by kernel_rfl) (fun n r => by rcases r with r | r <;> exact ⟨_, rfl⟩)
theorem ok (k : Nat) : FunOk Try.prog 25 (d k) := fun_mk (C := C k) (hC k) (S := S k) Try.func25 (by kernel_rfl) (by kernel_rfl) (Loops.all (n := 4) (by kernel_rfl) ⟨⟨⟨⟨trivial, l4 k⟩, l10 k⟩, l16 k⟩, l22 k⟩) (fun as_ => by kernel_rfl)
end law19_SmallMeta
namespace ref06_left
noncomputable def F (self : Row → Int → T Int) : Fun := mkFun [99, 3] (fun as_ => self (vRow (vN as_ 0)) (vInt (vN as_ 1))) default (fun r => .int .i64 r)
noncomputable def C (k : Nat) (self : Row → Int → T Int) : Cx := ⟨Try.prog, tab [(56, F self)], [], []⟩
noncomputable def t3 : LoopT := ⟨⟨59, [], [(1, .int .i64), (2, .ptr 2 0), (5, .int .i64)], [], [(2, 99)], []⟩, (fun | .exit 0 => some ⟨59, [], [(1, .int .i64), (2, .ptr 2 0)], [], [(2, 99)], []⟩ | _ => none)⟩
noncomputable def s3 (k : Nat) (self : Row → Int → T Int) (c0 : Row) (x : (Int × Int)) : T ((Int × Int) ⊕ Int) :=
  .test (bIte (iLt x.2 (rLen (rSl c0 3))) (iLe (0) x.1) false)
   (.test (iIn x.2 (rLen (rSl c0 3)))
    (.bnd (self (et 99 (rAt (rSl c0 3) x.2)) x.1).eval default fun r0 =>
    .ret (.inl (r0, (iAdd .i64 x.2 (1)))))
    (.fail))
   (.ret (.inr x.1))
noncomputable def a3 (c0 : Row) (x : (Int × Int)) : Dt := ⟨[.i x.1, .u, .i x.2], [], [et 99 c0], []⟩
noncomputable def o3_0 (c0 : Row) (r : Int) : X × Dt := (.exit 0, ⟨[.i r, .u], [], [(et 99 c0)], []⟩)
noncomputable def e3 (k : Nat) (self : Row → Int → T Int) (d : Dt) : T (X × Dt) := out1 (iter (s3 k self (d.r.getD 0 [])) k ((aI (aN d.a 0)), (aI (aN d.a 2)))) default (o3_0 (d.r.getD 0 []))
noncomputable def t7 : LoopT := ⟨⟨59, [], [(1, .int .i64), (2, .ptr 2 0), (6, .int .i64)], [], [(2, 99)], []⟩, (fun | .exit 2 => some ⟨59, [], [(1, .int .i64)], [], [], []⟩ | _ => none)⟩
noncomputable def s7 (k : Nat) (self : Row → Int → T Int) (c0 : Row) (x : (Int × Int)) : T ((Int × Int) ⊕ Int) :=
  .test (bIte (iLt x.2 (rLen (rSl c0 4))) (iLe (0) x.1) false)
   (.test (iIn x.2 (rLen (rSl c0 4)))
    (.test (iIn x.2 (rLen (rSl c0 4)))
     (.bnd (self (eo 99 (rAt (rSl c0 4) x.2) 1) (iSub .i64 x.1 (sLen (rStr (rAt (rSl c0 4) x.2) 0)))).eval default fun r0 =>
     .ret (.inl (r0, (iAdd .i64 x.2 (1)))))
     (.fail))
    (.fail))
   (.ret (.inr x.1))
noncomputable def a7 (c0 : Row) (x : (Int × Int)) : Dt := ⟨[.i x.1, .u, .i x.2], [], [et 99 c0], []⟩
noncomputable def o7_0 (c0 : Row) (r : Int) : X × Dt := (.exit 2, ⟨[.i r], [], [], []⟩)
noncomputable def e7 (k : Nat) (self : Row → Int → T Int) (d : Dt) : T (X × Dt) := out1 (iter (s7 k self (d.r.getD 0 [])) k ((aI (aN d.a 0)), (aI (aN d.a 2)))) default (o7_0 (d.r.getD 0 []))
noncomputable def S (k : Nat) (self : Row → Int → T Int) : Subs := fun n => bif Nat.beq n 3 then some (loopV Try.prog t3 (e3 k self)) else bif Nat.beq n 7 then some (loopV Try.prog t7 (e7 k self)) else none
noncomputable def f : Nat → Row → Int → T Int
  | 0, _, _ => .fail
  | k + 1, a0, a1 =>
  .bnd (iter (ref06_left.s3 k (f k) (et 99 a0)) k ((iSub .i64 (iSub .i64 a1 (1)) (sLen (rStr a0 2))), (0))) default fun r0 =>
  .bnd (iter (ref06_left.s7 k (f k) (et 99 a0)) k (r0, (0))) default fun r1 =>
  .ret r1
noncomputable def d (k : Nat) : Fun := F (f k)
theorem hC (k : Nat) (self : Row → Int → T Int) (ih : FunOk Try.prog 56 (F self)) : CxOk (C k self) := CxOk.cons (p := (56, F self)) ih (CxOk.nil)
theorem l3 (k : Nat) (self : Row → Int → T Int) (ih : FunOk Try.prog 56 (F self)) : LoopOk Try.prog (S k self) (lp (bodyF Go.Proofs.Try.f56) 0) := loopOk_mk (C := C k self) (hC k self ih) (Loops.all (n := 0) (by kernel_rfl) trivial) (lt := t3) (den := e3 k self) (by kernel_rfl) (N := Row) (A := (Int × Int)) (R := Int)
 (fun n x => a3 n x) (fun n r => o3_0 n r) (fun n x => s3 k self n x) k (fun d => (d.r.getD 0 [])) (fun d => ((aI (aN d.a 0)), (aI (aN d.a 2)))) (fun d y h => out1_eval h) (fun d => by kernel_rfl) (fun n x => by kernel_rfl) (fun n r => ⟨_, rfl⟩)
theorem l7 (k : Nat) (self : Row → Int → T Int) (ih : FunOk Try.prog 56 (F self)) : LoopOk Try.prog (S k self) (lp (bodyF Go.Proofs.Try.f56) 1) := loopOk_mk (C := C k self) (hC k self ih) (Loops.all (n := 0) (by kernel_rfl) trivial) (lt := t7) (den := e7 k self) (by kernel_rfl) (N := Row) (A := (Int × Int)) (R := Int)
 (fun n x => a7 n x) (fun n r => o7_0 n r) (fun n x => s7 k self n x) k (fun d => (d.r.getD 0 [])) (fun d => ((aI (aN d.a 0)), (aI (aN d.a 2)))) (fun d y h => out1_eval h) (fun d => by kernel_rfl) (fun n x => by kernel_rfl) (fun n r => ⟨_, rfl⟩)
theorem ok : ∀ k, FunOk Try.prog 56 (d k)
  | 0 => fun_zero Try.func56 (by kernel_rfl) (by kernel_rfl) (fun _ => rfl)
  | k + 1 => fun_mk (C := C k (f k)) (hC k (f k) (ok k)) (S := S k (f k)) Try.func56 (by kernel_rfl) (by kernel_rfl) (Loops.all (n := 2) (by kernel_rfl) ⟨⟨trivial, l3 k (f k) (ok k)⟩, l7 k (f k) (ok k)⟩) (fun as_ => by kernel_rfl)
end ref06_left
namespace ref06_Few
noncomputable def C (k : Nat) : Cx := ⟨Try.prog, tab [(56, ref06_left.d k)], [], []⟩
noncomputable def S (k : Nat) : Subs := fun n => none
noncomputable def f (k : Nat) (a0 : Row) (a1 : Int) : T Bool :=
  .bnd (ref06_left.f k (et 99 a0) a1).eval default fun r0 =>
  .ret (iLe (0) r0)
noncomputable def d (k : Nat) : Fun := mkFun [99, 3] (fun as_ => f k (vRow (vN as_ 0)) (vInt (vN as_ 1))) default (fun r => .bool r)
theorem hC (k : Nat) : CxOk (C k) := CxOk.cons (p := (56, ref06_left.d k)) (ref06_left.ok k) (CxOk.nil)
theorem ok (k : Nat) : FunOk Try.prog 46 (d k) := fun_mk (C := C k) (hC k) (S := S k) Try.func46 (by kernel_rfl) (by kernel_rfl) (Loops.all (n := 0) (by kernel_rfl) trivial) (fun as_ => by kernel_rfl)
end ref06_Few
namespace law19_SmallPod
noncomputable def C (k : Nat) : Cx := ⟨Try.prog, tab [(45, ref19_FromPod.d k), (25, law19_SmallMeta.d k), (46, ref06_Few.d k)], [], []⟩
noncomputable def S (k : Nat) : Subs := fun n => none
noncomputable def f (k : Nat) (a0 : Row) : T Bool :=
  .bnd (ref19_FromPod.f k (et 40 a0)).eval default fun r0 =>
  .bnd (law19_SmallMeta.f k (et 27 a0)).eval default fun r1 =>
  .opt r1 (ref06_Few.f k (eo 99 r0 13) (20000)).eval default fun r2 =>
  .opt (bIte r1 r2 false) (ref06_Few.f k (eo 99 r0 18) (20000)).eval default fun r3 =>
  .ret (bIte (bIte r1 r2 false) r3 false)
noncomputable def d (k : Nat) : Fun := mkFun [40] (fun as_ => f k (vRow (vN as_ 0))) default (fun r => .bool r)
theorem hC (k : Nat) : CxOk (C k) := CxOk.cons (p := (45, ref19_FromPod.d k)) (ref19_FromPod.ok k) (CxOk.cons (p := (25, law19_SmallMeta.d k)) (law19_SmallMeta.ok k) (CxOk.cons (p := (46, ref06_Few.d k)) (ref06_Few.ok k) (CxOk.nil)))
theorem ok (k : Nat) : FunOk Try.prog 24 (d k) := fun_mk (C := C k) (hC k) (S := S k) Try.func24 (by kernel_rfl) (by kernel_rfl) (Loops.all (n := 0) (by kernel_rfl) trivial) (fun as_ => by kernel_rfl)
end law19_SmallPod
namespace law22_Small
noncomputable def C (k : Nat) : Cx := ⟨Try.prog, tab [(24, law19_SmallPod.d k)], [], []⟩
noncomputable def t4 : LoopT := ⟨⟨18, [], [(8, .sl 40 none), (9, .int .i64), (10, .int .i64)], [], [], []⟩, (fun | .ret => some ⟨18, [], [(2, .bool)], [], [], []⟩ | .exit 0 => some ⟨18, [], [], [], [], []⟩ | _ => none)⟩
noncomputable def s4 (k : Nat) (c0 : Rows) (c1 : Int) (x : Int) : T (Int ⊕ (Bool ⊕ Unit)) :=
  .test (iLt x c1)
   (.test (iIn x (rLen c0))
    (.bnd (law19_SmallPod.f k (et 40 (rAt c0 x))).eval default fun r0 =>
    .test (bNot r0)
     (.ret (.inr (.inl false)))
     (.ret (.inl (iAdd .i64 x (1)))))
    (.fail))
   (.ret (.inr (.inr ())))
noncomputable def a4 (c0 : Rows) (c1 : Int) (x : Int) : Dt := ⟨[.r c0, .i c1, .i x], [], [], []⟩
noncomputable def o4_0 (c0 : Rows) (c1 : Int) (r : Bool) : X × Dt := (.ret, ⟨[.b r], [], [], []⟩)
noncomputable def o4_1 (c0 : Rows) (c1 : Int) (r : Unit) : X × Dt := (.exit 0, ⟨[], [], [], []⟩)
noncomputable def e4 (k : Nat) (d : Dt) : T (X × Dt) := out2 (iter (s4 k (aR (aN d.a 0)) (aI (aN d.a 1))) k (aI (aN d.a 2))) (o4_0 (aR (aN d.a 0)) (aI (aN d.a 1))) (o4_1 (aR (aN d.a 0)) (aI (aN d.a 1)))
noncomputable def S (k : Nat) : Subs := fun n => bif Nat.beq n 4 then some (loopV Try.prog t4 (e4 k)) else none
noncomputable def f (k : Nat) (a0 : Rows) : T Bool :=
  .test (iLt (20) (rLen a0))
   (.ret false)
   (.cas (iter (law22_Small.s4 k a0 (rLen a0)) k (0)) (fun r0 =>
    .ret r0) (fun r1 =>
    .ret true))
noncomputable def d (k : Nat) : Fun := mkFun [55] (fun as_ => f k (vRows (vN as_ 0))) default (fun r => .bool r)
theorem hC (k : Nat) : CxOk (C k) := CxOk.cons (p := (24, law19_SmallPod.d k)) (law19_SmallPod.ok k) (CxOk.nil)
theorem l4 (k : Nat) : LoopOk Try.prog (S k) (lp (bodyF Go.Proofs.Try.f32) 0) := loopOk_mk (C := C k) (hC k) (Loops.all (n := 0) (by kernel_rfl) trivial) (lt := t4) (den := e4 k) (by kernel_rfl) (N := (Rows × Int)) (A := Int) (R := (Bool ⊕ Unit))
 (fun n x => a4 n.1 n.2 x) (fun n r => Sum.elim (o4_0 n.1 n.2) (o4_1 n.1 n.2) r) (fun n x => s4 k n.1 n.2 x) k (fun d => ((aR (aN d.a 0)), (aI (aN d.a 1)))) (fun d => (aI (aN d.a 2))) (fun d y h => out2_eval h) (fun d => by kernel_rfl) (fun n x => by kernel_rfl) (fun n r => by rcases r with r | r <;> exact ⟨_, rfl⟩)
theorem ok (k : Nat) : FunOk Try.prog 32 (d k) := fun_mk (C := C k) (hC k) (S := S k) Try.func32 (by kernel_rfl) (by kernel_rfl) (Loops.all (n := 1) (by kernel_rfl) ⟨trivial, l4 k⟩) (fun as_ => by kernel_rfl)
end law22_Small
namespace law36_SmallPod
noncomputable def C (k : Nat) : Cx := ⟨Try.prog, tab [(24, law19_SmallPod.d k)], [], []⟩
noncomputable def S (k : Nat) : Subs := fun n => none
noncomputable def f (k : Nat) (a0 : Row) : T Bool :=
  .bnd (law19_SmallPod.f k (et 40 a0)).eval default fun r0 =>
  .ret (bIte (bIte (bIte (bIte r0 (iLe (rLen (rSl a0 19)) (30)) false) (iLe (rLen (rSl a0 20)) (30)) false) (iLe (rLen (rSl a0 21)) (10)) false) (iLe (rLen (rSl a0 22)) (60)) false)
noncomputable def d (k : Nat) : Fun := mkFun [40] (fun as_ => f k (vRow (vN as_ 0))) default (fun r => .bool r)
theorem hC (k : Nat) : CxOk (C k) := CxOk.cons (p := (24, law19_SmallPod.d k)) (law19_SmallPod.ok k) (CxOk.nil)
theorem ok (k : Nat) : FunOk Try.prog 8 (d k) := fun_mk (C := C k) (hC k) (S := S k) Try.func8 (by kernel_rfl) (by kernel_rfl) (Loops.all (n := 0) (by kernel_rfl) trivial) (fun as_ => by kernel_rfl)
end law36_SmallPod
namespace law36_SmallNode
noncomputable def C (k : Nat) : Cx := ⟨Try.prog, tab [(25, law19_SmallMeta.d k)], [], []⟩
noncomputable def S (k : Nat) : Subs := fun n => none
noncomputable def f (k : Nat) (a0 : Row) : T Bool :=
  .bnd (law19_SmallMeta.f k (et 27 a0)).eval default fun r0 =>
  .ret (bIte (bIte r0 (iLe (rLen (rSl a0 18)) (60)) false) (iLe (rLen (rSl a0 23)) (60)) false)
noncomputable def d (k : Nat) : Fun := mkFun [46] (fun as_ => f k (vRow (vN as_ 0))) default (fun r => .bool r)
theorem hC (k : Nat) : CxOk (C k) := CxOk.cons (p := (25, law19_SmallMeta.d k)) (law19_SmallMeta.ok k) (CxOk.nil)
theorem ok (k : Nat) : FunOk Try.prog 9 (d k) := fun_mk (C := C k) (hC k) (S := S k) Try.func9 (by kernel_rfl) (by kernel_rfl) (Loops.all (n := 0) (by kernel_rfl) trivial) (fun as_ => by kernel_rfl)
end law36_SmallNode
namespace ref03_char
noncomputable def C (k : Nat) : Cx := ⟨Try.prog, tab [], [], []⟩
noncomputable def S (k : Nat) : Subs := fun n => none
noncomputable def f (k : Nat) (a0 : Int) : T Bool :=
  .ret (bIte (bIte (bIte (bIte (bIte (iLe (97) a0) (iLe a0 (122)) false) true (bIte (iLe (48) a0) (iLe a0 (57)) false)) true (iEq a0 (45))) true (iEq a0 (46))) true (iEq a0 (47)))
noncomputable def d (k : Nat) : Fun := mkFun [5] (fun as_ => f k (vInt (vN as_ 0))) default (fun r => .bool r)
theorem hC (k : Nat) : CxOk (C k) := CxOk.nil
theorem ok (k : Nat) : FunOk Try.prog 60 (d k) := fun_mk (C := C k) (hC k) (S := S k) Try.func60 (by kernel_rfl) (by kernel_rfl) (Loops.all (n := 0) (by kernel_rfl) trivial) (fun as_ => by kernel_rfl)
end ref03_char
namespace ref03_ValidKey
noncomputable def C (k : Nat) : Cx := ⟨Try.prog, tab [(60, ref03_char.d k)], [], []⟩
noncomputable def t4 : LoopT := ⟨⟨33, [], [(0, .str), (3, .int .i64)], [], [], []⟩, (fun | .ret => some ⟨33, [], [(2, .bool)], [], [], []⟩ | .exit 0 => some ⟨33, [], [], [], [], []⟩ | _ => none)⟩
noncomputable def s4 (k : Nat) (c0 : ByteArray) (x : Int) : T (Int ⊕ (Bool ⊕ Unit)) :=
  .test (iLt x (sLen c0))
   (.test (iIn x (sLen c0))
    (.bnd (ref03_char.f k (sAt c0 x)).eval default fun r0 =>
    .test (bNot r0)
     (.ret (.inr (.inl false)))
     (.ret (.inl (iAdd .i64 x (1)))))
    (.fail))
   (.ret (.inr (.inr ())))
noncomputable def a4 (c0 : ByteArray) (x : Int) : Dt := ⟨[.s c0, .i x], [], [], []⟩
noncomputable def o4_0 (c0 : ByteArray) (r : Bool) : X × Dt := (.ret, ⟨[.b r], [], [], []⟩)
noncomputable def o4_1 (c0 : ByteArray) (r : Unit) : X × Dt := (.exit 0, ⟨[], [], [], []⟩)
noncomputable def e4 (k : Nat) (d : Dt) : T (X × Dt) := out2 (iter (s4 k (aS (aN d.a 0))) k (aI (aN d.a 1))) (o4_0 (aS (aN d.a 0))) (o4_1 (aS (aN d.a 0)))
noncomputable def S (k : Nat) : Subs := fun n => bif Nat.beq n 4 then some (loopV Try.prog t4 (e4 k)) else none
noncomputable def f (k : Nat) (a0 : ByteArray) : T Bool :=
  .test (bImp (bNot (bIte (iLt (sLen a0) (1)) true (iLt (40) (sLen a0)))) (iIn (0) (sLen a0)))
   (.test (bImp (bNot (bIte (bIte (iLt (sLen a0) (1)) true (iLt (40) (sLen a0))) true (iLt (sAt a0 (0)) (97)))) (iIn (0) (sLen a0)))
    (.test (bIte (bIte (bIte (iLt (sLen a0) (1)) true (iLt (40) (sLen a0))) true (iLt (sAt a0 (0)) (97))) true (iLt (122) (sAt a0 (0))))
     (.ret false)
     (.cas (iter (ref03_ValidKey.s4 k a0) k (0)) (fun r0 =>
      .ret r0) (fun r1 =>
      .ret true)))
    (.fail))
   (.fail)
noncomputable def d (k : Nat) : Fun := mkFun [9] (fun as_ => f k (vStr (vN as_ 0))) default (fun r => .bool r)
theorem hC (k : Nat) : CxOk (C k) := CxOk.cons (p := (60, ref03_char.d k)) (ref03_char.ok k) (CxOk.nil)
theorem l4 (k : Nat) : LoopOk Try.prog (S k) (lp (bodyF Go.Proofs.Try.f51) 0) := loopOk_mk (C := C k) (hC k) (Loops.all (n := 0) (by kernel_rfl) trivial) (lt := t4) (den := e4 k) (by kernel_rfl) (N := ByteArray) (A := Int) (R := (Bool ⊕ Unit))
 (fun n x => a4 n x) (fun n r => Sum.elim (o4_0 n) (o4_1 n) r) (fun n x => s4 k n x) k (fun d => (aS (aN d.a 0))) (fun d => (aI (aN d.a 1))) (fun d y h => out2_eval h) (fun d => by kernel_rfl) (fun n x => by kernel_rfl) (fun n r => by rcases r with r | r <;> exact ⟨_, rfl⟩)
theorem ok (k : Nat) : FunOk Try.prog 51 (d k) := fun_mk (C := C k) (hC k) (S := S k) Try.func51 (by kernel_rfl) (by kernel_rfl) (Loops.all (n := 1) (by kernel_rfl) ⟨trivial, l4 k⟩) (fun as_ => by kernel_rfl)
end ref03_ValidKey
namespace ref03_ValidValue
noncomputable def C (k : Nat) : Cx := ⟨Try.prog, tab [(60, ref03_char.d k)], [], []⟩
noncomputable def t4 : LoopT := ⟨⟨24, [], [(0, .str), (3, .int .i64)], [], [], []⟩, (fun | .ret => some ⟨24, [], [(2, .bool)], [], [], []⟩ | .exit 0 => some ⟨24, [], [], [], [], []⟩ | _ => none)⟩
noncomputable def s4 (k : Nat) (c0 : ByteArray) (x : Int) : T (Int ⊕ (Bool ⊕ Unit)) :=
  .test (iLt x (sLen c0))
   (.test (iIn x (sLen c0))
    (.bnd (ref03_char.f k (sAt c0 x)).eval default fun r0 =>
    .test (bImp (bNot (bNot r0)) (iIn x (sLen c0)))
     (.test (bIte (bNot r0) true (iEq (sAt c0 x) (47)))
      (.ret (.inr (.inl false)))
      (.ret (.inl (iAdd .i64 x (1)))))
     (.fail))
    (.fail))
   (.ret (.inr (.inr ())))
noncomputable def a4 (c0 : ByteArray) (x : Int) : Dt := ⟨[.s c0, .i x], [], [], []⟩
noncomputable def o4_0 (c0 : ByteArray) (r : Bool) : X × Dt := (.ret, ⟨[.b r], [], [], []⟩)
noncomputable def o4_1 (c0 : ByteArray) (r : Unit) : X × Dt := (.exit 0, ⟨[], [], [], []⟩)
noncomputable def e4 (k : Nat) (d : Dt) : T (X × Dt) := out2 (iter (s4 k (aS (aN d.a 0))) k (aI (aN d.a 1))) (o4_0 (aS (aN d.a 0))) (o4_1 (aS (aN d.a 0)))
noncomputable def S (k : Nat) : Subs := fun n => bif Nat.beq n 4 then some (loopV Try.prog t4 (e4 k)) else none
noncomputable def f (k : Nat) (a0 : ByteArray) : T Bool :=
  .test (iLt (40) (sLen a0))
   (.ret false)
   (.cas (iter (ref03_ValidValue.s4 k a0) k (0)) (fun r0 =>
    .ret r0) (fun r1 =>
    .ret true))
noncomputable def d (k : Nat) : Fun := mkFun [9] (fun as_ => f k (vStr (vN as_ 0))) default (fun r => .bool r)
theorem hC (k : Nat) : CxOk (C k) := CxOk.cons (p := (60, ref03_char.d k)) (ref03_char.ok k) (CxOk.nil)
theorem l4 (k : Nat) : LoopOk Try.prog (S k) (lp (bodyF Go.Proofs.Try.f52) 0) := loopOk_mk (C := C k) (hC k) (Loops.all (n := 0) (by kernel_rfl) trivial) (lt := t4) (den := e4 k) (by kernel_rfl) (N := ByteArray) (A := Int) (R := (Bool ⊕ Unit))
 (fun n x => a4 n x) (fun n r => Sum.elim (o4_0 n) (o4_1 n) r) (fun n x => s4 k n x) k (fun d => (aS (aN d.a 0))) (fun d => (aI (aN d.a 1))) (fun d y h => out2_eval h) (fun d => by kernel_rfl) (fun n x => by kernel_rfl) (fun n r => by rcases r with r | r <;> exact ⟨_, rfl⟩)
theorem ok (k : Nat) : FunOk Try.prog 52 (d k) := fun_mk (C := C k) (hC k) (S := S k) Try.func52 (by kernel_rfl) (by kernel_rfl) (Loops.all (n := 1) (by kernel_rfl) ⟨trivial, l4 k⟩) (fun as_ => by kernel_rfl)
end ref03_ValidValue
namespace ref03_validOne
noncomputable def C (k : Nat) : Cx := ⟨Try.prog, tab [(51, ref03_ValidKey.d k), (52, ref03_ValidValue.d k)], [], []⟩
noncomputable def t8 : LoopT := ⟨⟨72, [], [(1, .ptr 1 0), (3, .int .i64)], [], [(1, 94)], []⟩, (fun | .ret => some ⟨72, [], [(2, .bool)], [], [], []⟩ | .exit 0 => some ⟨72, [], [], [], [], []⟩ | _ => none)⟩
noncomputable def s8 (k : Nat) (c0 : Row) (x : Int) : T (Int ⊕ (Bool ⊕ Unit)) :=
  .test (iLt x (rLen (rSl c0 2)))
   (.test (iIn x (rLen (rSl c0 2)))
    (.bnd (ref03_ValidValue.f k (rStr (rAt (rSl c0 2) x) 0)).eval default fun r0 =>
    .test (bImp (bAnd (bNot (bNot r0)) (iLt (0) x)) (iIn (iSub .i64 x (1)) (rLen (rSl c0 2))))
     (.test (bImp (bAnd (bNot (bNot r0)) (iLt (0) x)) (iIn x (rLen (rSl c0 2))))
      (.test (bIte (bNot r0) true (bIte (iLt (0) x) (bNot (sLt (rStr (rAt (rSl c0 2) (iSub .i64 x (1))) 0) (rStr (rAt (rSl c0 2) x) 0))) false))
       (.ret (.inr (.inl false)))
       (.ret (.inl (iAdd .i64 x (1)))))
      (.fail))
     (.fail))
    (.fail))
   (.ret (.inr (.inr ())))
noncomputable def a8 (c0 : Row) (x : Int) : Dt := ⟨[.u, .i x], [], [et 94 c0], []⟩
noncomputable def o8_0 (c0 : Row) (r : Bool) : X × Dt := (.ret, ⟨[.b r], [], [], []⟩)
noncomputable def o8_1 (c0 : Row) (r : Unit) : X × Dt := (.exit 0, ⟨[], [], [], []⟩)
noncomputable def e8 (k : Nat) (d : Dt) : T (X × Dt) := out2 (iter (s8 k (d.r.getD 0 [])) k (aI (aN d.a 1))) (o8_0 (d.r.getD 0 [])) (o8_1 (d.r.getD 0 []))
noncomputable def S (k : Nat) : Subs := fun n => bif Nat.beq n 8 then some (loopV Try.prog t8 (e8 k)) else none
noncomputable def f (k : Nat) (a0 : Row) : T Bool :=
  .bnd (ref03_ValidKey.f k (rStr a0 0)).eval default fun r0 =>
  .test (bNot r0)
   (.ret false)
   (.test (bIte (iEq (rInt a0 1) (3)) true (iEq (rInt a0 1) (4)))
    (.ret (iEq (rLen (rSl a0 2)) (0)))
    (.test (bIte (bIte (bIte (bNot (iEq (rInt a0 1) (1))) (bNot (iEq (rInt a0 1) (2))) false) true (iLt (rLen (rSl a0 2)) (1))) true (iLt (64) (rLen (rSl a0 2))))
     (.ret false)
     (.cas (iter (ref03_validOne.s8 k (et 94 a0)) k (0)) (fun r1 =>
      .ret r1) (fun r2 =>
      .ret true))))
noncomputable def d (k : Nat) : Fun := mkFun [94] (fun as_ => f k (vRow (vN as_ 0))) default (fun r => .bool r)
theorem hC (k : Nat) : CxOk (C k) := CxOk.cons (p := (51, ref03_ValidKey.d k)) (ref03_ValidKey.ok k) (CxOk.cons (p := (52, ref03_ValidValue.d k)) (ref03_ValidValue.ok k) (CxOk.nil))
theorem l8 (k : Nat) : LoopOk Try.prog (S k) (lp (bodyF Go.Proofs.Try.f43) 0) := loopOk_mk (C := C k) (hC k) (Loops.all (n := 0) (by kernel_rfl) trivial) (lt := t8) (den := e8 k) (by kernel_rfl) (N := Row) (A := Int) (R := (Bool ⊕ Unit))
 (fun n x => a8 n x) (fun n r => Sum.elim (o8_0 n) (o8_1 n) r) (fun n x => s8 k n x) k (fun d => (d.r.getD 0 [])) (fun d => (aI (aN d.a 1))) (fun d y h => out2_eval h) (fun d => by kernel_rfl) (fun n x => by kernel_rfl) (fun n r => by rcases r with r | r <;> exact ⟨_, rfl⟩)
theorem ok (k : Nat) : FunOk Try.prog 43 (d k) := fun_mk (C := C k) (hC k) (S := S k) Try.func43 (by kernel_rfl) (by kernel_rfl) (Loops.all (n := 1) (by kernel_rfl) ⟨trivial, l8 k⟩) (fun as_ => by kernel_rfl)
end ref03_validOne
namespace ref03_ValidSelector
noncomputable def C (k : Nat) : Cx := ⟨Try.prog, tab [(43, ref03_validOne.d k)], [], []⟩
noncomputable def t4 : LoopT := ⟨⟨19, [], [(0, .sl 94 none), (3, .int .i64)], [], [], []⟩, (fun | .ret => some ⟨19, [], [(2, .bool)], [], [], []⟩ | .exit 0 => some ⟨19, [], [], [], [], []⟩ | _ => none)⟩
noncomputable def s4 (k : Nat) (c0 : Rows) (x : Int) : T (Int ⊕ (Bool ⊕ Unit)) :=
  .test (iLt x (rLen c0))
   (.test (iIn x (rLen c0))
    (.bnd (ref03_validOne.f k (et 94 (rAt c0 x))).eval default fun r0 =>
    .test (bNot r0)
     (.ret (.inr (.inl false)))
     (.ret (.inl (iAdd .i64 x (1)))))
    (.fail))
   (.ret (.inr (.inr ())))
noncomputable def a4 (c0 : Rows) (x : Int) : Dt := ⟨[.r c0, .i x], [], [], []⟩
noncomputable def o4_0 (c0 : Rows) (r : Bool) : X × Dt := (.ret, ⟨[.b r], [], [], []⟩)
noncomputable def o4_1 (c0 : Rows) (r : Unit) : X × Dt := (.exit 0, ⟨[], [], [], []⟩)
noncomputable def e4 (k : Nat) (d : Dt) : T (X × Dt) := out2 (iter (s4 k (aR (aN d.a 0))) k (aI (aN d.a 1))) (o4_0 (aR (aN d.a 0))) (o4_1 (aR (aN d.a 0)))
noncomputable def S (k : Nat) : Subs := fun n => bif Nat.beq n 4 then some (loopV Try.prog t4 (e4 k)) else none
noncomputable def f (k : Nat) (a0 : Rows) : T Bool :=
  .test (iLt (16) (rLen a0))
   (.ret false)
   (.cas (iter (ref03_ValidSelector.s4 k a0) k (0)) (fun r0 =>
    .ret r0) (fun r1 =>
    .ret true))
noncomputable def d (k : Nat) : Fun := mkFun [29] (fun as_ => f k (vRows (vN as_ 0))) default (fun r => .bool r)
theorem hC (k : Nat) : CxOk (C k) := CxOk.cons (p := (43, ref03_validOne.d k)) (ref03_validOne.ok k) (CxOk.nil)
theorem l4 (k : Nat) : LoopOk Try.prog (S k) (lp (bodyF Go.Proofs.Try.f22) 0) := loopOk_mk (C := C k) (hC k) (Loops.all (n := 0) (by kernel_rfl) trivial) (lt := t4) (den := e4 k) (by kernel_rfl) (N := Rows) (A := Int) (R := (Bool ⊕ Unit))
 (fun n x => a4 n x) (fun n r => Sum.elim (o4_0 n) (o4_1 n) r) (fun n x => s4 k n x) k (fun d => (aR (aN d.a 0))) (fun d => (aI (aN d.a 1))) (fun d y h => out2_eval h) (fun d => by kernel_rfl) (fun n x => by kernel_rfl) (fun n r => by rcases r with r | r <;> exact ⟨_, rfl⟩)
theorem ok (k : Nat) : FunOk Try.prog 22 (d k) := fun_mk (C := C k) (hC k) (S := S k) Try.func22 (by kernel_rfl) (by kernel_rfl) (Loops.all (n := 1) (by kernel_rfl) ⟨trivial, l4 k⟩) (fun as_ => by kernel_rfl)
end ref03_ValidSelector
namespace law36_SmallView
noncomputable def C (k : Nat) : Cx := ⟨Try.prog, tab [(32, law22_Small.d k), (8, law36_SmallPod.d k), (9, law36_SmallNode.d k), (25, law19_SmallMeta.d k), (22, ref03_ValidSelector.d k)], [], []⟩
noncomputable def t4 : LoopT := ⟨⟨83, [], [(1, .ptr 1 0), (26, .sl 40 none), (27, .int .i64), (28, .int .i64)], [], [(1, 58)], []⟩, (fun | .ret => some ⟨83, [], [(2, .bool)], [], [], []⟩ | .exit 0 => some ⟨83, [], [(1, .ptr 1 0)], [], [(1, 58)], []⟩ | _ => none)⟩
noncomputable def s4 (k : Nat) (c0 : Rows) (c1 : Int) (c2 : Row) (x : Int) : T (Int ⊕ (Bool ⊕ Unit)) :=
  .test (iLt x c1)
   (.test (iIn x (rLen c0))
    (.bnd (law36_SmallPod.f k (et 40 (rAt c0 x))).eval default fun r0 =>
    .test (bNot r0)
     (.ret (.inr (.inl false)))
     (.ret (.inl (iAdd .i64 x (1)))))
    (.fail))
   (.ret (.inr (.inr ())))
noncomputable def a4 (c0 : Rows) (c1 : Int) (c2 : Row) (x : Int) : Dt := ⟨[.u, .r c0, .i c1, .i x], [], [et 58 c2], []⟩
noncomputable def o4_0 (c0 : Rows) (c1 : Int) (c2 : Row) (r : Bool) : X × Dt := (.ret, ⟨[.b r], [], [], []⟩)
noncomputable def o4_1 (c0 : Rows) (c1 : Int) (c2 : Row) (r : Unit) : X × Dt := (.exit 0, ⟨[.u], [], [(et 58 c2)], []⟩)
noncomputable def e4 (k : Nat) (d : Dt) : T (X × Dt) := out2 (iter (s4 k (aR (aN d.a 1)) (aI (aN d.a 2)) (d.r.getD 0 [])) k (aI (aN d.a 3))) (o4_0 (aR (aN d.a 1)) (aI (aN d.a 2)) (d.r.getD 0 [])) (o4_1 (aR (aN d.a 1)) (aI (aN d.a 2)) (d.r.getD 0 []))
noncomputable def t10 : LoopT := ⟨⟨83, [], [(1, .ptr 1 0), (37, .sl 46 none), (38, .int .i64), (39, .int .i64)], [], [(1, 58)], []⟩, (fun | .ret => some ⟨83, [], [(2, .bool)], [], [], []⟩ | .exit 2 => some ⟨83, [], [(1, .ptr 1 0)], [], [(1, 58)], []⟩ | _ => none)⟩
noncomputable def s10 (k : Nat) (c0 : Rows) (c1 : Int) (c2 : Row) (x : Int) : T (Int ⊕ (Bool ⊕ Unit)) :=
  .test (iLt x c1)
   (.test (iIn x (rLen c0))
    (.bnd (law36_SmallNode.f k (et 46 (rAt c0 x))).eval default fun r0 =>
    .test (bNot r0)
     (.ret (.inr (.inl false)))
     (.ret (.inl (iAdd .i64 x (1)))))
    (.fail))
   (.ret (.inr (.inr ())))
noncomputable def a10 (c0 : Rows) (c1 : Int) (c2 : Row) (x : Int) : Dt := ⟨[.u, .r c0, .i c1, .i x], [], [et 58 c2], []⟩
noncomputable def o10_0 (c0 : Rows) (c1 : Int) (c2 : Row) (r : Bool) : X × Dt := (.ret, ⟨[.b r], [], [], []⟩)
noncomputable def o10_1 (c0 : Rows) (c1 : Int) (c2 : Row) (r : Unit) : X × Dt := (.exit 2, ⟨[.u], [], [(et 58 c2)], []⟩)
noncomputable def e10 (k : Nat) (d : Dt) : T (X × Dt) := out2 (iter (s10 k (aR (aN d.a 1)) (aI (aN d.a 2)) (d.r.getD 0 [])) k (aI (aN d.a 3))) (o10_0 (aR (aN d.a 1)) (aI (aN d.a 2)) (d.r.getD 0 [])) (o10_1 (aR (aN d.a 1)) (aI (aN d.a 2)) (d.r.getD 0 []))
noncomputable def t16 : LoopT := ⟨⟨83, [], [(48, .sl 80 none), (49, .int .i64), (50, .int .i64)], [], [], []⟩, (fun | .ret => some ⟨83, [], [(2, .bool)], [], [], []⟩ | .exit 4 => some ⟨83, [], [], [], [], []⟩ | _ => none)⟩
noncomputable def s16 (k : Nat) (c0 : Rows) (c1 : Int) (x : Int) : T (Int ⊕ (Bool ⊕ Unit)) :=
  .test (iLt x c1)
   (.test (iIn x (rLen c0))
    (.bnd (law19_SmallMeta.f k (et 27 (rAt c0 x))).eval default fun r0 =>
    .opt (bNot (bNot r0)) (ref03_ValidSelector.f k (rSl (rAt c0 x) 13)).eval default fun r1 =>
    .test (bIte (bIte (bIte (bIte (bNot r0) true (bNot r1)) true (iLt (40) (rLen (rSl (rAt c0 x) 21)))) true (iLt (9) (rLen (rSl (rAt c0 x) 14)))) true (iLt (9) (rLen (rSl (rAt c0 x) 15))))
     (.ret (.inr (.inl false)))
     (.ret (.inl (iAdd .i64 x (1)))))
    (.fail))
   (.ret (.inr (.inr ())))
noncomputable def a16 (c0 : Rows) (c1 : Int) (x : Int) : Dt := ⟨[.r c0, .i c1, .i x], [], [], []⟩
noncomputable def o16_0 (c0 : Rows) (c1 : Int) (r : Bool) : X × Dt := (.ret, ⟨[.b r], [], [], []⟩)
noncomputable def o16_1 (c0 : Rows) (c1 : Int) (r : Unit) : X × Dt := (.exit 4, ⟨[], [], [], []⟩)
noncomputable def e16 (k : Nat) (d : Dt) : T (X × Dt) := out2 (iter (s16 k (aR (aN d.a 0)) (aI (aN d.a 1))) k (aI (aN d.a 2))) (o16_0 (aR (aN d.a 0)) (aI (aN d.a 1))) (o16_1 (aR (aN d.a 0)) (aI (aN d.a 1)))
noncomputable def S (k : Nat) : Subs := fun n => bif Nat.beq n 4 then some (loopV Try.prog t4 (e4 k)) else bif Nat.beq n 10 then some (loopV Try.prog t10 (e10 k)) else bif Nat.beq n 16 then some (loopV Try.prog t16 (e16 k)) else none
noncomputable def f (k : Nat) (a0 : Row) : T Bool :=
  .opt (bNot (bIte (iLt (8) (rLen (rSl a0 0))) true (iLt (8) (rLen (rSl a0 2))))) (law22_Small.f k (rSl a0 1)).eval default fun r0 =>
  .test (bIte (bIte (iLt (8) (rLen (rSl a0 0))) true (iLt (8) (rLen (rSl a0 2)))) true (bNot r0))
   (.ret false)
   (.cas (iter (law36_SmallView.s4 k (rSl a0 1) (rLen (rSl a0 1)) (et 58 a0)) k (0)) (fun r1 =>
    .ret r1) (fun r2 =>
    .cas (iter (law36_SmallView.s10 k (rSl a0 0) (rLen (rSl a0 0)) (et 58 a0)) k (0)) (fun r3 =>
     .ret r3) (fun r4 =>
     .cas (iter (law36_SmallView.s16 k (rSl a0 2) (rLen (rSl a0 2))) k (0)) (fun r5 =>
      .ret r5) (fun r6 =>
      .ret true))))
noncomputable def d (k : Nat) : Fun := mkFun [58] (fun as_ => f k (vRow (vN as_ 0))) default (fun r => .bool r)
theorem hC (k : Nat) : CxOk (C k) := CxOk.cons (p := (32, law22_Small.d k)) (law22_Small.ok k) (CxOk.cons (p := (8, law36_SmallPod.d k)) (law36_SmallPod.ok k) (CxOk.cons (p := (9, law36_SmallNode.d k)) (law36_SmallNode.ok k) (CxOk.cons (p := (25, law19_SmallMeta.d k)) (law19_SmallMeta.ok k) (CxOk.cons (p := (22, ref03_ValidSelector.d k)) (ref03_ValidSelector.ok k) (CxOk.nil)))))
theorem l4 (k : Nat) : LoopOk Try.prog (S k) (lp (bodyF Go.Proofs.Try.f15) 0) := loopOk_mk (C := C k) (hC k) (Loops.all (n := 0) (by kernel_rfl) trivial) (lt := t4) (den := e4 k) (by kernel_rfl) (N := (Rows × Int × Row)) (A := Int) (R := (Bool ⊕ Unit))
 (fun n x => a4 n.1 n.2.1 n.2.2 x) (fun n r => Sum.elim (o4_0 n.1 n.2.1 n.2.2) (o4_1 n.1 n.2.1 n.2.2) r) (fun n x => s4 k n.1 n.2.1 n.2.2 x) k (fun d => ((aR (aN d.a 1)), (aI (aN d.a 2)), (d.r.getD 0 []))) (fun d => (aI (aN d.a 3))) (fun d y h => out2_eval h) (fun d => by kernel_rfl) (fun n x => by kernel_rfl) (fun n r => by rcases r with r | r <;> exact ⟨_, rfl⟩)
theorem l10 (k : Nat) : LoopOk Try.prog (S k) (lp (bodyF Go.Proofs.Try.f15) 1) := loopOk_mk (C := C k) (hC k) (Loops.all (n := 0) (by kernel_rfl) trivial) (lt := t10) (den := e10 k) (by kernel_rfl) (N := (Rows × Int × Row)) (A := Int) (R := (Bool ⊕ Unit))
 (fun n x => a10 n.1 n.2.1 n.2.2 x) (fun n r => Sum.elim (o10_0 n.1 n.2.1 n.2.2) (o10_1 n.1 n.2.1 n.2.2) r) (fun n x => s10 k n.1 n.2.1 n.2.2 x) k (fun d => ((aR (aN d.a 1)), (aI (aN d.a 2)), (d.r.getD 0 []))) (fun d => (aI (aN d.a 3))) (fun d y h => out2_eval h) (fun d => by kernel_rfl) (fun n x => by kernel_rfl) (fun n r => by rcases r with r | r <;> exact ⟨_, rfl⟩)
theorem l16 (k : Nat) : LoopOk Try.prog (S k) (lp (bodyF Go.Proofs.Try.f15) 2) := loopOk_mk (C := C k) (hC k) (Loops.all (n := 0) (by kernel_rfl) trivial) (lt := t16) (den := e16 k) (by kernel_rfl) (N := (Rows × Int)) (A := Int) (R := (Bool ⊕ Unit))
 (fun n x => a16 n.1 n.2 x) (fun n r => Sum.elim (o16_0 n.1 n.2) (o16_1 n.1 n.2) r) (fun n x => s16 k n.1 n.2 x) k (fun d => ((aR (aN d.a 0)), (aI (aN d.a 1)))) (fun d => (aI (aN d.a 2))) (fun d y h => out2_eval h) (fun d => by kernel_rfl) (fun n x => by kernel_rfl) (fun n r => by rcases r with r | r <;> exact ⟨_, rfl⟩)
theorem ok (k : Nat) : FunOk Try.prog 15 (d k) := fun_mk (C := C k) (hC k) (S := S k) Try.func15 (by kernel_rfl) (by kernel_rfl) (Loops.all (n := 3) (by kernel_rfl) ⟨⟨⟨trivial, l4 k⟩, l10 k⟩, l16 k⟩) (fun as_ => by kernel_rfl)
end law36_SmallView
namespace law36_node
noncomputable def C (k : Nat) : Cx := ⟨Try.prog, tab [], [], []⟩
noncomputable def S (k : Nat) : Subs := fun n => none
noncomputable def f (k : Nat) (a0 : ByteArray) (a1 : ByteArray) : T Row :=
  .ret [.str (bs [78, 111, 100, 101]), .str ByteArray.empty, .str a0, .int .i64 (0), .int .i64 (0), .int .i64 (0), .int .i64 (0), .bool false, .int .i64 (0), .slice 105 [[.str (bs [122, 111, 110, 101]), .str a1]] .open, .slice 107 [] .open, .slice 9 [] .open, .slice 109 [] .open, .int .i64 (0), .int .i64 (0), .int .i64 (0), .int .i64 (0), .bool false, .slice 167 [] .open, .bool false, .int .i64 (0), .bool false, .bool false, .slice 169 [] .open]
noncomputable def d (k : Nat) : Fun := mkFun [9, 9] (fun as_ => f k (vStr (vN as_ 0)) (vStr (vN as_ 1))) default (fun r => .agg (et 46 r))
theorem hC (k : Nat) : CxOk (C k) := CxOk.nil
theorem ok (k : Nat) : FunOk Try.prog 26 (d k) := fun_mk (C := C k) (hC k) (S := S k) Try.func26 (by kernel_rfl) (by kernel_rfl) (Loops.all (n := 0) (by kernel_rfl) trivial) (fun as_ => by kernel_rfl)
end law36_node
namespace law36_pod
noncomputable def C (k : Nat) : Cx := ⟨Try.prog, tab [], [], []⟩
noncomputable def S (k : Nat) : Subs := fun n => none
noncomputable def f (k : Nat) (a0 : ByteArray) (a1 : ByteArray) (a2 : ByteArray) : T Row :=
  .ret [.str (bs [80, 111, 100]), .str (bs [110]), .str a0, .int .i64 (0), .int .i64 (0), .int .i64 (0), .int .i64 (0), .bool false, .int .i64 (0), .slice 105 [[.str (bs [97, 112, 112]), .str a1]] .open, .slice 107 [] .open, .slice 9 [] .open, .slice 109 [] .open, .str a2, .int .i64 (0), .int .i64 (0), .int .i64 (0), .slice 137 [] .open, .slice 94 [] .open, .slice 68 [] .open, .slice 65 [] .open, .slice 143 [] .open, .slice 145 [] .open, .int .i64 (1), .bool false, .int .i64 (0), .int .i64 (0), .int .i64 (0), .slice 147 [] .open, .int .i64 (0), .str ByteArray.empty, .str ByteArray.empty]
noncomputable def d (k : Nat) : Fun := mkFun [9, 9, 9] (fun as_ => f k (vStr (vN as_ 0)) (vStr (vN as_ 1)) (vStr (vN as_ 2))) default (fun r => .agg (et 40 r))
theorem hC (k : Nat) : CxOk (C k) := CxOk.nil
theorem ok (k : Nat) : FunOk Try.prog 27 (d k) := fun_mk (C := C k) (hC k) (S := S k) Try.func27 (by kernel_rfl) (by kernel_rfl) (Loops.all (n := 0) (by kernel_rfl) trivial) (fun as_ => by kernel_rfl)
end law36_pod
namespace law36_term
noncomputable def C (k : Nat) : Cx := ⟨Try.prog, tab [], [], []⟩
noncomputable def S (k : Nat) : Subs := fun n => none
noncomputable def f (k : Nat) (a0 : ByteArray) (a1 : Bool) : T Row :=
  .ret [.bool true, .bool a1, .slice 94 [[.str (bs [97, 112, 112]), .int .i64 (1), .slice 9 [[.str a0]] .open]] .open, .str (bs [122, 111, 110, 101]), .int .i64 (7)]
noncomputable def d (k : Nat) : Fun := mkFun [9, 4] (fun as_ => f k (vStr (vN as_ 0)) (vBool (vN as_ 1))) default (fun r => .agg (et 65 r))
theorem hC (k : Nat) : CxOk (C k) := CxOk.nil
theorem ok (k : Nat) : FunOk Try.prog 28 (d k) := fun_mk (C := C k) (hC k) (S := S k) Try.func28 (by kernel_rfl) (by kernel_rfl) (Loops.all (n := 0) (by kernel_rfl) trivial) (fun as_ => by kernel_rfl)
end law36_term
namespace label_Get
noncomputable def C (k : Nat) : Cx := ⟨Try.prog, tab [], [], []⟩
noncomputable def t2 : LoopT := ⟨⟨21, [], [(1, .str), (8, .sl 105 none), (9, .int .i64), (10, .int .i64)], [], [], []⟩, (fun | .ret => some ⟨21, [], [(4, .str), (5, .bool)], [], [], []⟩ | .exit 0 => some ⟨21, [], [], [], [], []⟩ | _ => none)⟩
noncomputable def s2 (k : Nat) (c0 : ByteArray) (c1 : Rows) (c2 : Int) (x : Int) : T (Int ⊕ ((ByteArray × Bool) ⊕ Unit)) :=
  .test (iLt x c2)
   (.test (iIn x (rLen c1))
    (.test (sEq (rStr (rAt c1 x) 0) c0)
     (.ret (.inr (.inl ((rStr (rAt c1 x) 1), true))))
     (.ret (.inl (iAdd .i64 x (1)))))
    (.fail))
   (.ret (.inr (.inr ())))
noncomputable def a2 (c0 : ByteArray) (c1 : Rows) (c2 : Int) (x : Int) : Dt := ⟨[.s c0, .r c1, .i c2, .i x], [], [], []⟩
noncomputable def o2_0 (c0 : ByteArray) (c1 : Rows) (c2 : Int) (r : (ByteArray × Bool)) : X × Dt := (.ret, ⟨[.s r.1, .b r.2], [], [], []⟩)
noncomputable def o2_1 (c0 : ByteArray) (c1 : Rows) (c2 : Int) (r : Unit) : X × Dt := (.exit 0, ⟨[], [], [], []⟩)
noncomputable def e2 (k : Nat) (d : Dt) : T (X × Dt) := out2 (iter (s2 k (aS (aN d.a 0)) (aR (aN d.a 1)) (aI (aN d.a 2))) k (aI (aN d.a 3))) (o2_0 (aS (aN d.a 0)) (aR (aN d.a 1)) (aI (aN d.a 2))) (o2_1 (aS (aN d.a 0)) (aR (aN d.a 1)) (aI (aN d.a 2)))
noncomputable def S (k : Nat) : Subs := fun n => bif Nat.beq n 2 then some (loopV Try.prog t2 (e2 k)) else none
noncomputable def f (k : Nat) (a0 : Rows) (a1 : ByteArray) : T (ByteArray × Bool) :=
  .cas (iter (label_Get.s2 k a1 a0 (rLen a0)) k (0)) (fun r0 =>
   .ret (r0.1, r0.2)) (fun r1 =>
   .ret (ByteArray.empty, false))
noncomputable def d (k : Nat) : Fun := mkFun [22, 9] (fun as_ => f k (vRows (vN as_ 0)) (vStr (vN as_ 1))) default (fun r => .tuple [.str r.1, .bool r.2])
theorem hC (k : Nat) : CxOk (C k) := CxOk.nil
theorem l2 (k : Nat) : LoopOk Try.prog (S k) (lp (bodyF Go.Proofs.Try.f29) 0) := loopOk_mk (C := C k) (hC k) (Loops.all (n := 0) (by kernel_rfl) trivial) (lt := t2) (den := e2 k) (by kernel_rfl) (N := (ByteArray × Rows × Int)) (A := Int) (R := ((ByteArray × Bool) ⊕ Unit))
 (fun n x => a2 n.1 n.2.1 n.2.2 x) (fun n r => Sum.elim (o2_0 n.1 n.2.1 n.2.2) (o2_1 n.1 n.2.1 n.2.2) r) (fun n x => s2 k n.1 n.2.1 n.2.2 x) k (fun d => ((aS (aN d.a 0)), (aR (aN d.a 1)), (aI (aN d.a 2)))) (fun d => (aI (aN d.a 3))) (fun d y h => out2_eval h) (fun d => by kernel_rfl) (fun n x => by kernel_rfl) (fun n r => by rcases r with r | r <;> exact ⟨_, rfl⟩)
theorem ok (k : Nat) : FunOk Try.prog 29 (d k) := fun_mk (C := C k) (hC k) (S := S k) Try.func29 (by kernel_rfl) (by kernel_rfl) (Loops.all (n := 1) (by kernel_rfl) ⟨trivial, l2 k⟩) (fun as_ => by kernel_rfl)
end label_Get
namespace affinity_Domain
noncomputable def C (k : Nat) : Cx := ⟨Try.prog, tab [(29, label_Get.d k)], [], []⟩
noncomputable def S (k : Nat) : Subs := fun n => none
noncomputable def f (k : Nat) (a0 : Row) (a1 : ByteArray) : T (ByteArray × Bool) :=
  .bnd (label_Get.f k (rSl a0 9) a1).eval default fun r0 =>
  .ret (r0.1, r0.2)
noncomputable def d (k : Nat) : Fun := mkFun [46, 9] (fun as_ => f k (vRow (vN as_ 0)) (vStr (vN as_ 1))) default (fun r => .tuple [.str r.1, .bool r.2])
theorem hC (k : Nat) : CxOk (C k) := CxOk.cons (p := (29, label_Get.d k)) (label_Get.ok k) (CxOk.nil)
theorem ok (k : Nat) : FunOk Try.prog 11 (d k) := fun_mk (C := C k) (hC k) (S := S k) Try.func11 (by kernel_rfl) (by kernel_rfl) (Loops.all (n := 0) (by kernel_rfl) trivial) (fun as_ => by kernel_rfl)
end affinity_Domain
namespace meta_Key
noncomputable def C (k : Nat) : Cx := ⟨Try.prog, tab [], [], []⟩
noncomputable def S (k : Nat) : Subs := fun n => none
noncomputable def f (k : Nat) (a0 : ByteArray) (a1 : ByteArray) (a2 : ByteArray) : T ByteArray :=
  .test (sOk (sLen a0) (sLen (bs [47])))
   (.test (sOk (sLen (sCat a0 (bs [47]))) (sLen a1))
    (.test (sOk (sLen (sCat (sCat a0 (bs [47])) a1)) (sLen (bs [47])))
     (.test (sOk (sLen (sCat (sCat (sCat a0 (bs [47])) a1) (bs [47]))) (sLen a2))
      (.ret (sCat (sCat (sCat (sCat a0 (bs [47])) a1) (bs [47])) a2))
      (.fail))
     (.fail))
    (.fail))
   (.fail)
noncomputable def d (k : Nat) : Fun := mkFun [9, 9, 9] (fun as_ => f k (vStr (vN as_ 0)) (vStr (vN as_ 1)) (vStr (vN as_ 2))) default (fun r => .str r)
theorem hC (k : Nat) : CxOk (C k) := CxOk.nil
theorem ok (k : Nat) : FunOk Try.prog 58 (d k) := fun_mk (C := C k) (hC k) (S := S k) Try.func58 (by kernel_rfl) (by kernel_rfl) (Loops.all (n := 0) (by kernel_rfl) trivial) (fun as_ => by kernel_rfl)
end meta_Key
namespace meta_KeyOf
noncomputable def C (k : Nat) : Cx := ⟨Try.prog, tab [(58, meta_Key.d k)], [], []⟩
noncomputable def S (k : Nat) : Subs := fun n => none
noncomputable def f (k : Nat) (a0 : Row) : T ByteArray :=
  .bnd (meta_Key.f k (rStr a0 0) (rStr a0 1) (rStr a0 2)).eval default fun r0 =>
  .ret r0
noncomputable def d (k : Nat) : Fun := mkFun [27] (fun as_ => f k (vRow (vN as_ 0))) default (fun r => .str r)
theorem hC (k : Nat) : CxOk (C k) := CxOk.cons (p := (58, meta_Key.d k)) (meta_Key.ok k) (CxOk.nil)
theorem ok (k : Nat) : FunOk Try.prog 48 (d k) := fun_mk (C := C k) (hC k) (S := S k) Try.func48 (by kernel_rfl) (by kernel_rfl) (Loops.all (n := 0) (by kernel_rfl) trivial) (fun as_ => by kernel_rfl)
end meta_KeyOf
namespace affinity_others
noncomputable def C (k : Nat) : Cx := ⟨Try.prog, tab [(48, meta_KeyOf.d k)], [], []⟩
noncomputable def t7 : LoopT := ⟨⟨59, [], [(2, .ptr 2 0), (3, .ptr 3 0), (5, .sl 86 (some 55)), (7, .ptr 7 0), (11, .sl 40 none), (12, .int .i64), (13, .int .i64), (37, .sl 46 none), (38, .int .i64), (39, .int .i64)], [], [(2, 58), (3, 40), (7, 40)], []⟩, (fun | .exit 2 => some ⟨59, [], [(2, .ptr 2 0), (3, .ptr 3 0), (5, .sl 86 (some 55)), (11, .sl 40 none), (12, .int .i64), (13, .int .i64)], [], [(2, 58), (3, 40)], []⟩ | _ => none)⟩
noncomputable def s7 (k : Nat) (c0 : Rows) (c1 : Rows) (c2 : Int) (c3 : Int) (c4 : Rows) (c5 : Int) (c6 : Row) (c7 : Row) (c8 : Row) (x : Int) : T (Int ⊕ Rows) :=
  .test (iLt x c5)
   (.test (iIn x (rLen c4))
    (.test (sEq (rStr (rAt c4 x) 2) (rStr c8 13))
     (.test (rOk 784 (rLen c0) (rLen [(rJ [(et 40 c8), (et 27 (rAt c4 x)), [.int .i64 (rInt (rAt c4 x) 13), .int .i64 (rInt (rAt c4 x) 14), .int .i64 (rInt (rAt c4 x) 15), .int .i64 (rInt (rAt c4 x) 16), .bool (rBool (rAt c4 x) 17), .slice 167 (rSl (rAt c4 x) 18) .open, .bool (rBool (rAt c4 x) 19), .int .i64 (rInt (rAt c4 x) 20), .bool (rBool (rAt c4 x) 21), .bool (rBool (rAt c4 x) 22), .slice 169 (rSl (rAt c4 x) 23) .open]])]))
      (.ret (.inr (rCat c0 [(rJ [(et 40 c8), (et 27 (rAt c4 x)), [.int .i64 (rInt (rAt c4 x) 13), .int .i64 (rInt (rAt c4 x) 14), .int .i64 (rInt (rAt c4 x) 15), .int .i64 (rInt (rAt c4 x) 16), .bool (rBool (rAt c4 x) 17), .slice 167 (rSl (rAt c4 x) 18) .open, .bool (rBool (rAt c4 x) 19), .int .i64 (rInt (rAt c4 x) 20), .bool (rBool (rAt c4 x) 21), .bool (rBool (rAt c4 x) 22), .slice 169 (rSl (rAt c4 x) 23) .open]])])))
      (.fail))
     (.ret (.inl (iAdd .i64 x (1)))))
    (.fail))
   (.ret (.inr c0))
noncomputable def a7 (c0 : Rows) (c1 : Rows) (c2 : Int) (c3 : Int) (c4 : Rows) (c5 : Int) (c6 : Row) (c7 : Row) (c8 : Row) (x : Int) : Dt := ⟨[.u, .u, .r c0, .u, .r c1, .i c2, .i c3, .r c4, .i c5, .i x], [], [et 58 c6, et 40 c7, et 40 c8], []⟩
noncomputable def o7_0 (c0 : Rows) (c1 : Rows) (c2 : Int) (c3 : Int) (c4 : Rows) (c5 : Int) (c6 : Row) (c7 : Row) (c8 : Row) (r : Rows) : X × Dt := (.exit 2, ⟨[.u, .u, .r r, .r c1, .i c2, .i c3], [], [(et 58 c6), (et 40 c7)], []⟩)
noncomputable def e7 (k : Nat) (d : Dt) : T (X × Dt) := out1 (iter (s7 k (aR (aN d.a 2)) (aR (aN d.a 4)) (aI (aN d.a 5)) (aI (aN d.a 6)) (aR (aN d.a 7)) (aI (aN d.a 8)) (d.r.getD 0 []) (d.r.getD 1 []) (d.r.getD 2 [])) k (aI (aN d.a 9))) default (o7_0 (aR (aN d.a 2)) (aR (aN d.a 4)) (aI (aN d.a 5)) (aI (aN d.a 6)) (aR (aN d.a 7)) (aI (aN d.a 8)) (d.r.getD 0 []) (d.r.getD 1 []) (d.r.getD 2 []))
noncomputable def t3 : LoopT := ⟨⟨59, [.tmp 5 55 86], [(2, .ptr 2 0), (3, .ptr 3 0), (5, .sl 86 (some 55)), (11, .sl 40 none), (12, .int .i64), (13, .int .i64)], [], [(2, 58), (3, 40)], []⟩, (fun | .exit 0 => some ⟨59, [], [(5, .sl 86 (some 55))], [], [], []⟩ | _ => none)⟩
noncomputable def s3 (k : Nat) (c0 : Rows) (c1 : Int) (c2 : Row) (c3 : Row) (x : (Rows × Int)) : T ((Rows × Int) ⊕ Rows) :=
  .test (iLt x.2 c1)
   (.test (iIn x.2 (rLen c0))
    (.bnd (meta_KeyOf.f k (et 27 (rAt c0 x.2))).eval default fun r0 =>
    .bnd (meta_KeyOf.f k (et 27 c3)).eval default fun r1 =>
    .test (bIte (sEq r0 r1) true (bIte (bNot (iEq (rInt (rAt c0 x.2) 23) (0))) (bNot (iEq (rInt (rAt c0 x.2) 23) (1))) false))
     (.ret (.inl (x.1, (iAdd .i64 x.2 (1)))))
     (.bnd (iter (affinity_others.s7 k x.1 c0 c1 x.2 (rSl c2 0) (rLen (rSl c2 0)) (et 58 c2) (et 40 c3) (et 40 (rAt c0 x.2))) k (0)) default fun r2 =>
     .ret (.inl (r2, (iAdd .i64 x.2 (1))))))
    (.fail))
   (.ret (.inr x.1))
noncomputable def a3 (c0 : Rows) (c1 : Int) (c2 : Row) (c3 : Row) (x : (Rows × Int)) : Dt := ⟨[.u, .u, .r x.1, .r c0, .i c1, .i x.2], [], [et 58 c2, et 40 c3], []⟩
noncomputable def o3_0 (c0 : Rows) (c1 : Int) (c2 : Row) (c3 : Row) (r : Rows) : X × Dt := (.exit 0, ⟨[.r r], [], [], []⟩)
noncomputable def e3 (k : Nat) (d : Dt) : T (X × Dt) := out1 (iter (s3 k (aR (aN d.a 3)) (aI (aN d.a 4)) (d.r.getD 0 []) (d.r.getD 1 [])) k ((aR (aN d.a 2)), (aI (aN d.a 5)))) default (o3_0 (aR (aN d.a 3)) (aI (aN d.a 4)) (d.r.getD 0 []) (d.r.getD 1 []))
noncomputable def S (k : Nat) : Subs := fun n => bif Nat.beq n 7 then some (loopV Try.prog t7 (e7 k)) else bif Nat.beq n 3 then some (loopV Try.prog t3 (e3 k)) else none
noncomputable def f (k : Nat) (a0 : Row) (a1 : Row) : T Rows :=
  .bnd (iter (affinity_others.s3 k (rSl a0 1) (rLen (rSl a0 1)) (et 58 a0) (et 40 a1)) k ([], (0))) default fun r0 =>
  .ret r0
noncomputable def d (k : Nat) : Fun := mkFun [58, 40] (fun as_ => f k (vRow (vN as_ 0)) (vRow (vN as_ 1))) default (fun r => .slice 86 r .open)
theorem hC (k : Nat) : CxOk (C k) := CxOk.cons (p := (48, meta_KeyOf.d k)) (meta_KeyOf.ok k) (CxOk.nil)
theorem l7 (k : Nat) : LoopOk Try.prog (S k) (lp (lp (bodyF Go.Proofs.Try.f33) 0) 0) := loopOk_mk (C := C k) (hC k) (Loops.all (n := 0) (by kernel_rfl) trivial) (lt := t7) (den := e7 k) (by kernel_rfl) (N := (Rows × Rows × Int × Int × Rows × Int × Row × Row × Row)) (A := Int) (R := Rows)
 (fun n x => a7 n.1 n.2.1 n.2.2.1 n.2.2.2.1 n.2.2.2.2.1 n.2.2.2.2.2.1 n.2.2.2.2.2.2.1 n.2.2.2.2.2.2.2.1 n.2.2.2.2.2.2.2.2 x) (fun n r => o7_0 n.1 n.2.1 n.2.2.1 n.2.2.2.1 n.2.2.2.2.1 n.2.2.2.2.2.1 n.2.2.2.2.2.2.1 n.2.2.2.2.2.2.2.1 n.2.2.2.2.2.2.2.2 r) (fun n x => s7 k n.1 n.2.1 n.2.2.1 n.2.2.2.1 n.2.2.2.2.1 n.2.2.2.2.2.1 n.2.2.2.2.2.2.1 n.2.2.2.2.2.2.2.1 n.2.2.2.2.2.2.2.2 x) k (fun d => ((aR (aN d.a 2)), (aR (aN d.a 4)), (aI (aN d.a 5)), (aI (aN d.a 6)), (aR (aN d.a 7)), (aI (aN d.a 8)), (d.r.getD 0 []), (d.r.getD 1 []), (d.r.getD 2 []))) (fun d => (aI (aN d.a 9))) (fun d y h => out1_eval h) (fun d => by kernel_rfl) (fun n x => by kernel_rfl) (fun n r => ⟨_, rfl⟩)
theorem l3 (k : Nat) : LoopOk Try.prog (S k) (lp (bodyF Go.Proofs.Try.f33) 0) := loopOk_mk (C := C k) (hC k) (Loops.all (n := 1) (by kernel_rfl) ⟨trivial, l7 k⟩) (lt := t3) (den := e3 k) (by kernel_rfl) (N := (Rows × Int × Row × Row)) (A := (Rows × Int)) (R := Rows)
 (fun n x => a3 n.1 n.2.1 n.2.2.1 n.2.2.2 x) (fun n r => o3_0 n.1 n.2.1 n.2.2.1 n.2.2.2 r) (fun n x => s3 k n.1 n.2.1 n.2.2.1 n.2.2.2 x) k (fun d => ((aR (aN d.a 3)), (aI (aN d.a 4)), (d.r.getD 0 []), (d.r.getD 1 []))) (fun d => ((aR (aN d.a 2)), (aI (aN d.a 5)))) (fun d y h => out1_eval h) (fun d => by kernel_rfl) (fun n x => by kernel_rfl) (fun n r => ⟨_, rfl⟩)
theorem ok (k : Nat) : FunOk Try.prog 33 (d k) := fun_mk (C := C k) (hC k) (S := S k) Try.func33 (by kernel_rfl) (by kernel_rfl) (Loops.all (n := 1) (by kernel_rfl) ⟨trivial, l3 k⟩) (fun as_ => by kernel_rfl)
end affinity_others
namespace slices_Index_string_string
noncomputable def C (k : Nat) : Cx := ⟨Try.prog, tab [], [], []⟩
noncomputable def t2 : LoopT := ⟨⟨19, [], [(0, .sl 9 none), (1, .str), (7, .int .i64), (8, .int .i64)], [], [], []⟩, (fun | .ret => some ⟨19, [], [(4, .int .i64)], [], [], []⟩ | .exit 0 => some ⟨19, [], [], [], [], []⟩ | _ => none)⟩
noncomputable def s2 (k : Nat) (c0 : Rows) (c1 : ByteArray) (c2 : Int) (x : Int) : T (Int ⊕ (Int ⊕ Unit)) :=
  .test (iLt x c2)
   (.test (iIn x (rLen c0))
    (.test (sEq c1 (rStr (rAt c0 x) 0))
     (.ret (.inr (.inl x)))
     (.ret (.inl (iAdd .i64 x (1)))))
    (.fail))
   (.ret (.inr (.inr ())))
noncomputable def a2 (c0 : Rows) (c1 : ByteArray) (c2 : Int) (x : Int) : Dt := ⟨[.r c0, .s c1, .i c2, .i x], [], [], []⟩
noncomputable def o2_0 (c0 : Rows) (c1 : ByteArray) (c2 : Int) (r : Int) : X × Dt := (.ret, ⟨[.i r], [], [], []⟩)
noncomputable def o2_1 (c0 : Rows) (c1 : ByteArray) (c2 : Int) (r : Unit) : X × Dt := (.exit 0, ⟨[], [], [], []⟩)
noncomputable def e2 (k : Nat) (d : Dt) : T (X × Dt) := out2 (iter (s2 k (aR (aN d.a 0)) (aS (aN d.a 1)) (aI (aN d.a 2))) k (aI (aN d.a 3))) (o2_0 (aR (aN d.a 0)) (aS (aN d.a 1)) (aI (aN d.a 2))) (o2_1 (aR (aN d.a 0)) (aS (aN d.a 1)) (aI (aN d.a 2)))
noncomputable def S (k : Nat) : Subs := fun n => bif Nat.beq n 2 then some (loopV Try.prog t2 (e2 k)) else none
noncomputable def f (k : Nat) (a0 : Rows) (a1 : ByteArray) : T Int :=
  .cas (iter (slices_Index_string_string.s2 k a0 a1 (rLen a0)) k (0)) (fun r0 =>
   .ret r0) (fun r1 =>
   .ret (-1))
noncomputable def d (k : Nat) : Fun := mkFun [24, 9] (fun as_ => f k (vRows (vN as_ 0)) (vStr (vN as_ 1))) default (fun r => .int .i64 r)
theorem hC (k : Nat) : CxOk (C k) := CxOk.nil
theorem l2 (k : Nat) : LoopOk Try.prog (S k) (lp (bodyF Go.Proofs.Try.f73) 0) := loopOk_mk (C := C k) (hC k) (Loops.all (n := 0) (by kernel_rfl) trivial) (lt := t2) (den := e2 k) (by kernel_rfl) (N := (Rows × ByteArray × Int)) (A := Int) (R := (Int ⊕ Unit))
 (fun n x => a2 n.1 n.2.1 n.2.2 x) (fun n r => Sum.elim (o2_0 n.1 n.2.1 n.2.2) (o2_1 n.1 n.2.1 n.2.2) r) (fun n x => s2 k n.1 n.2.1 n.2.2 x) k (fun d => ((aR (aN d.a 0)), (aS (aN d.a 1)), (aI (aN d.a 2)))) (fun d => (aI (aN d.a 3))) (fun d y h => out2_eval h) (fun d => by kernel_rfl) (fun n x => by kernel_rfl) (fun n r => by rcases r with r | r <;> exact ⟨_, rfl⟩)
theorem ok (k : Nat) : FunOk Try.prog 73 (d k) := fun_mk (C := C k) (hC k) (S := S k) Try.func73 (by kernel_rfl) (by kernel_rfl) (Loops.all (n := 1) (by kernel_rfl) ⟨trivial, l2 k⟩) (fun as_ => by kernel_rfl)
end slices_Index_string_string
namespace slices_Contains_string_string
noncomputable def C (k : Nat) : Cx := ⟨Try.prog, tab [(73, slices_Index_string_string.d k)], [], []⟩
noncomputable def S (k : Nat) : Subs := fun n => none
noncomputable def f (k : Nat) (a0 : Rows) (a1 : ByteArray) : T Bool :=
  .bnd (slices_Index_string_string.f k a0 a1).eval default fun r0 =>
  .ret (iLe (0) r0)
noncomputable def d (k : Nat) : Fun := mkFun [24, 9] (fun as_ => f k (vRows (vN as_ 0)) (vStr (vN as_ 1))) default (fun r => .bool r)
theorem hC (k : Nat) : CxOk (C k) := CxOk.cons (p := (73, slices_Index_string_string.d k)) (slices_Index_string_string.ok k) (CxOk.nil)
theorem ok (k : Nat) : FunOk Try.prog 57 (d k) := fun_mk (C := C k) (hC k) (S := S k) Try.func57 (by kernel_rfl) (by kernel_rfl) (Loops.all (n := 0) (by kernel_rfl) trivial) (fun as_ => by kernel_rfl)
end slices_Contains_string_string
namespace label_holds
noncomputable def C (k : Nat) : Cx := ⟨Try.prog, tab [(29, label_Get.d k), (57, slices_Contains_string_string.d k)], [], []⟩
noncomputable def S (k : Nat) : Subs := fun n => none
noncomputable def f (k : Nat) (a0 : Row) (a1 : Rows) : T Bool :=
  .bnd (label_Get.f k a1 (rStr a0 0)).eval default fun r0 =>
  .test (iEq (rInt a0 1) (1))
   (.opt r0.2 (slices_Contains_string_string.f k (rSl a0 2) r0.1).eval default fun r1 =>
   .ret (bIte r0.2 r1 false))
   (.test (iEq (rInt a0 1) (2))
    (.opt (bNot (bNot r0.2)) (slices_Contains_string_string.f k (rSl a0 2) r0.1).eval default fun r2 =>
    .ret (bIte (bNot r0.2) true (bNot r2)))
    (.test (iEq (rInt a0 1) (3))
     (.ret r0.2)
     (.test (iEq (rInt a0 1) (4))
      (.ret (bNot r0.2))
      (.ret false))))
noncomputable def d (k : Nat) : Fun := mkFun [94, 22] (fun as_ => f k (vRow (vN as_ 0)) (vRows (vN as_ 1))) default (fun r => .bool r)
theorem hC (k : Nat) : CxOk (C k) := CxOk.cons (p := (29, label_Get.d k)) (label_Get.ok k) (CxOk.cons (p := (57, slices_Contains_string_string.d k)) (slices_Contains_string_string.ok k) (CxOk.nil))
theorem ok (k : Nat) : FunOk Try.prog 47 (d k) := fun_mk (C := C k) (hC k) (S := S k) Try.func47 (by kernel_rfl) (by kernel_rfl) (Loops.all (n := 0) (by kernel_rfl) trivial) (fun as_ => by kernel_rfl)
end label_holds
namespace label_Matches
noncomputable def C (k : Nat) : Cx := ⟨Try.prog, tab [(47, label_holds.d k)], [], []⟩
noncomputable def t2 : LoopT := ⟨⟨18, [], [(1, .sl 105 none), (7, .sl 94 none), (8, .int .i64), (9, .int .i64)], [], [], []⟩, (fun | .ret => some ⟨18, [], [(4, .bool)], [], [], []⟩ | .exit 0 => some ⟨18, [], [], [], [], []⟩ | _ => none)⟩
noncomputable def s2 (k : Nat) (c0 : Rows) (c1 : Rows) (c2 : Int) (x : Int) : T (Int ⊕ (Bool ⊕ Unit)) :=
  .test (iLt x c2)
   (.test (iIn x (rLen c1))
    (.bnd (label_holds.f k (et 94 (rAt c1 x)) c0).eval default fun r0 =>
    .test (bNot r0)
     (.ret (.inr (.inl false)))
     (.ret (.inl (iAdd .i64 x (1)))))
    (.fail))
   (.ret (.inr (.inr ())))
noncomputable def a2 (c0 : Rows) (c1 : Rows) (c2 : Int) (x : Int) : Dt := ⟨[.r c0, .r c1, .i c2, .i x], [], [], []⟩
noncomputable def o2_0 (c0 : Rows) (c1 : Rows) (c2 : Int) (r : Bool) : X × Dt := (.ret, ⟨[.b r], [], [], []⟩)
noncomputable def o2_1 (c0 : Rows) (c1 : Rows) (c2 : Int) (r : Unit) : X × Dt := (.exit 0, ⟨[], [], [], []⟩)
noncomputable def e2 (k : Nat) (d : Dt) : T (X × Dt) := out2 (iter (s2 k (aR (aN d.a 0)) (aR (aN d.a 1)) (aI (aN d.a 2))) k (aI (aN d.a 3))) (o2_0 (aR (aN d.a 0)) (aR (aN d.a 1)) (aI (aN d.a 2))) (o2_1 (aR (aN d.a 0)) (aR (aN d.a 1)) (aI (aN d.a 2)))
noncomputable def S (k : Nat) : Subs := fun n => bif Nat.beq n 2 then some (loopV Try.prog t2 (e2 k)) else none
noncomputable def f (k : Nat) (a0 : Rows) (a1 : Rows) : T Bool :=
  .cas (iter (label_Matches.s2 k a1 a0 (rLen a0)) k (0)) (fun r0 =>
   .ret r0) (fun r1 =>
   .ret true)
noncomputable def d (k : Nat) : Fun := mkFun [29, 22] (fun as_ => f k (vRows (vN as_ 0)) (vRows (vN as_ 1))) default (fun r => .bool r)
theorem hC (k : Nat) : CxOk (C k) := CxOk.cons (p := (47, label_holds.d k)) (label_holds.ok k) (CxOk.nil)
theorem l2 (k : Nat) : LoopOk Try.prog (S k) (lp (bodyF Go.Proofs.Try.f31) 0) := loopOk_mk (C := C k) (hC k) (Loops.all (n := 0) (by kernel_rfl) trivial) (lt := t2) (den := e2 k) (by kernel_rfl) (N := (Rows × Rows × Int)) (A := Int) (R := (Bool ⊕ Unit))
 (fun n x => a2 n.1 n.2.1 n.2.2 x) (fun n r => Sum.elim (o2_0 n.1 n.2.1 n.2.2) (o2_1 n.1 n.2.1 n.2.2) r) (fun n x => s2 k n.1 n.2.1 n.2.2 x) k (fun d => ((aR (aN d.a 0)), (aR (aN d.a 1)), (aI (aN d.a 2)))) (fun d => (aI (aN d.a 3))) (fun d y h => out2_eval h) (fun d => by kernel_rfl) (fun n x => by kernel_rfl) (fun n r => by rcases r with r | r <;> exact ⟨_, rfl⟩)
theorem ok (k : Nat) : FunOk Try.prog 31 (d k) := fun_mk (C := C k) (hC k) (S := S k) Try.func31 (by kernel_rfl) (by kernel_rfl) (Loops.all (n := 1) (by kernel_rfl) ⟨trivial, l2 k⟩) (fun as_ => by kernel_rfl)
end label_Matches
namespace affinity_selects
noncomputable def C (k : Nat) : Cx := ⟨Try.prog, tab [(31, label_Matches.d k)], [], []⟩
noncomputable def S (k : Nat) : Subs := fun n => none
noncomputable def f (k : Nat) (a0 : Row) (a1 : ByteArray) (a2 : Row) : T Bool :=
  .opt (sEq (rStr a2 1) a1) (label_Matches.f k (rSl a0 2) (rSl a2 9)).eval default fun r0 =>
  .ret (bIte (sEq (rStr a2 1) a1) r0 false)
noncomputable def d (k : Nat) : Fun := mkFun [65, 9, 40] (fun as_ => f k (vRow (vN as_ 0)) (vStr (vN as_ 1)) (vRow (vN as_ 2))) default (fun r => .bool r)
theorem hC (k : Nat) : CxOk (C k) := CxOk.cons (p := (31, label_Matches.d k)) (label_Matches.ok k) (CxOk.nil)
theorem ok (k : Nat) : FunOk Try.prog 35 (d k) := fun_mk (C := C k) (hC k) (S := S k) Try.func35 (by kernel_rfl) (by kernel_rfl) (Loops.all (n := 0) (by kernel_rfl) trivial) (fun as_ => by kernel_rfl)
end affinity_selects
namespace affinity_together
noncomputable def C (k : Nat) : Cx := ⟨Try.prog, tab [(11, affinity_Domain.d k)], [], []⟩
noncomputable def S (k : Nat) : Subs := fun n => none
noncomputable def f (k : Nat) (a0 : Row) (a1 : Row) (a2 : ByteArray) : T Bool :=
  .bnd (affinity_Domain.f k (et 46 a0) a2).eval default fun r0 =>
  .bnd (affinity_Domain.f k (et 46 a1) a2).eval default fun r1 =>
  .ret (bIte (bIte r0.2 r1.2 false) (sEq r0.1 r1.1) false)
noncomputable def d (k : Nat) : Fun := mkFun [46, 46, 9] (fun as_ => f k (vRow (vN as_ 0)) (vRow (vN as_ 1)) (vStr (vN as_ 2))) default (fun r => .bool r)
theorem hC (k : Nat) : CxOk (C k) := CxOk.cons (p := (11, affinity_Domain.d k)) (affinity_Domain.ok k) (CxOk.nil)
theorem ok (k : Nat) : FunOk Try.prog 36 (d k) := fun_mk (C := C k) (hC k) (S := S k) Try.func36 (by kernel_rfl) (by kernel_rfl) (Loops.all (n := 0) (by kernel_rfl) trivial) (fun as_ => by kernel_rfl)
end affinity_together
namespace affinity_near
noncomputable def C (k : Nat) : Cx := ⟨Try.prog, tab [(35, affinity_selects.d k), (36, affinity_together.d k)], [], []⟩
noncomputable def t2 : LoopT := ⟨⟨37, [], [(4, .ptr 4 0), (5, .ptr 5 0), (6, .ptr 6 0), (8, .bool), (9, .bool), (12, .sl 86 none), (13, .int .i64), (14, .int .i64)], [], [(4, 65), (5, 40), (6, 46)], []⟩, (fun | .exit 0 => some ⟨37, [], [(8, .bool), (9, .bool)], [], [], []⟩ | _ => none)⟩
noncomputable def s2 (k : Nat) (c0 : Rows) (c1 : Int) (c2 : Row) (c3 : Row) (c4 : Row) (x : (Bool × Bool × Int)) : T ((Bool × Bool × Int) ⊕ (Bool × Bool)) :=
  .test (iLt x.2.2 c1)
   (.test (iIn x.2.2 (rLen c0))
    (.bnd (affinity_selects.f k (et 65 c2) (rStr c3 1) (et 40 (rAt c0 x.2.2))).eval default fun r0 =>
    .test r0
     (.opt (bNot x.1) (affinity_together.f k (et 46 c4) (eo 46 (rAt c0 x.2.2) 32) (rStr c2 3)).eval default fun r1 =>
     .ret (.inl ((bIte x.1 true r1), true, (iAdd .i64 x.2.2 (1)))))
     (.ret (.inl (x.1, x.2.1, (iAdd .i64 x.2.2 (1))))))
    (.fail))
   (.ret (.inr (x.1, x.2.1)))
noncomputable def a2 (c0 : Rows) (c1 : Int) (c2 : Row) (c3 : Row) (c4 : Row) (x : (Bool × Bool × Int)) : Dt := ⟨[.u, .u, .u, .b x.1, .b x.2.1, .r c0, .i c1, .i x.2.2], [], [et 65 c2, et 40 c3, et 46 c4], []⟩
noncomputable def o2_0 (c0 : Rows) (c1 : Int) (c2 : Row) (c3 : Row) (c4 : Row) (r : (Bool × Bool)) : X × Dt := (.exit 0, ⟨[.b r.1, .b r.2], [], [], []⟩)
noncomputable def e2 (k : Nat) (d : Dt) : T (X × Dt) := out1 (iter (s2 k (aR (aN d.a 5)) (aI (aN d.a 6)) (d.r.getD 0 []) (d.r.getD 1 []) (d.r.getD 2 [])) k ((aB (aN d.a 3)), (aB (aN d.a 4)), (aI (aN d.a 7)))) default (o2_0 (aR (aN d.a 5)) (aI (aN d.a 6)) (d.r.getD 0 []) (d.r.getD 1 []) (d.r.getD 2 []))
noncomputable def S (k : Nat) : Subs := fun n => bif Nat.beq n 2 then some (loopV Try.prog t2 (e2 k)) else none
noncomputable def f (k : Nat) (a0 : Row) (a1 : Row) (a2 : Row) (a3 : Rows) : T (Bool × Bool) :=
  .bnd (iter (affinity_near.s2 k a3 (rLen a3) (et 65 a0) (et 40 a1) (et 46 a2)) k (false, (false, (0)))) default fun r0 =>
  .ret (r0.1, r0.2)
noncomputable def d (k : Nat) : Fun := mkFun [65, 40, 46, 81] (fun as_ => f k (vRow (vN as_ 0)) (vRow (vN as_ 1)) (vRow (vN as_ 2)) (vRows (vN as_ 3))) default (fun r => .tuple [.bool r.1, .bool r.2])
theorem hC (k : Nat) : CxOk (C k) := CxOk.cons (p := (35, affinity_selects.d k)) (affinity_selects.ok k) (CxOk.cons (p := (36, affinity_together.d k)) (affinity_together.ok k) (CxOk.nil))
theorem l2 (k : Nat) : LoopOk Try.prog (S k) (lp (bodyF Go.Proofs.Try.f34) 0) := loopOk_mk (C := C k) (hC k) (Loops.all (n := 0) (by kernel_rfl) trivial) (lt := t2) (den := e2 k) (by kernel_rfl) (N := (Rows × Int × Row × Row × Row)) (A := (Bool × Bool × Int)) (R := (Bool × Bool))
 (fun n x => a2 n.1 n.2.1 n.2.2.1 n.2.2.2.1 n.2.2.2.2 x) (fun n r => o2_0 n.1 n.2.1 n.2.2.1 n.2.2.2.1 n.2.2.2.2 r) (fun n x => s2 k n.1 n.2.1 n.2.2.1 n.2.2.2.1 n.2.2.2.2 x) k (fun d => ((aR (aN d.a 5)), (aI (aN d.a 6)), (d.r.getD 0 []), (d.r.getD 1 []), (d.r.getD 2 []))) (fun d => ((aB (aN d.a 3)), (aB (aN d.a 4)), (aI (aN d.a 7)))) (fun d y h => out1_eval h) (fun d => by kernel_rfl) (fun n x => by kernel_rfl) (fun n r => ⟨_, rfl⟩)
theorem ok (k : Nat) : FunOk Try.prog 34 (d k) := fun_mk (C := C k) (hC k) (S := S k) Try.func34 (by kernel_rfl) (by kernel_rfl) (Loops.all (n := 1) (by kernel_rfl) ⟨trivial, l2 k⟩) (fun as_ => by kernel_rfl)
end affinity_near
namespace affinity_PodFits
noncomputable def C (k : Nat) : Cx := ⟨Try.prog, tab [(33, affinity_others.d k), (11, affinity_Domain.d k), (34, affinity_near.d k), (31, label_Matches.d k), (35, affinity_selects.d k), (36, affinity_together.d k)], [], []⟩
noncomputable def t4 : LoopT := ⟨⟨115, [], [(4, .ptr 4 0), (5, .ptr 5 0), (7, .sl 86 none), (8, .int .i64), (24, .sl 65 none), (25, .int .i64), (26, .int .i64)], [], [(4, 40), (5, 46)], []⟩, (fun | .ret => some ⟨115, [], [(6, .int .i64)], [], [], []⟩ | .exit 0 => some ⟨115, [], [(4, .ptr 4 0), (5, .ptr 5 0), (7, .sl 86 none), (8, .int .i64)], [], [(4, 40), (5, 46)], []⟩ | _ => none)⟩
noncomputable def s4 (k : Nat) (c0 : Rows) (c1 : Rows) (c2 : Int) (c3 : Row) (c4 : Row) (x : (Int × Int)) : T ((Int × Int) ⊕ (Int ⊕ Int)) :=
  .test (iLt x.2 c2)
   (.test (iIn x.2 (rLen c1))
    (.test (bNot (rBool (rAt c1 x.2) 0))
     (.ret (.inl (x.1, (iAdd .i64 x.2 (1)))))
     (.bnd (affinity_Domain.f k (et 46 c4) (rStr (rAt c1 x.2) 3)).eval default fun r0 =>
     .bnd (affinity_near.f k (et 65 (rAt c1 x.2)) (et 40 c3) (et 46 c4) c0).eval default fun r1 =>
     .test (bIte (rBool (rAt c1 x.2) 1) r1.1 false)
      (.ret (.inl ((9), (iAdd .i64 x.2 (1)))))
      (.test (rBool (rAt c1 x.2) 1)
       (.test (rBool (rAt c1 x.2) 1)
        (.ret (.inl (x.1, (iAdd .i64 x.2 (1)))))
        (.opt (bNot (bIte (bNot r0.2) true r1.2)) (label_Matches.f k (rSl (rAt c1 x.2) 2) (rSl c3 9)).eval default fun r2 =>
        .test (bIte (bIte (bNot r0.2) true r1.2) true (bNot r2))
         (.ret (.inr (.inl (8))))
         (.ret (.inl (x.1, (iAdd .i64 x.2 (1)))))))
       (.test r1.1
        (.ret (.inl (x.1, (iAdd .i64 x.2 (1)))))
        (.opt (bNot (bIte (bNot r0.2) true r1.2)) (label_Matches.f k (rSl (rAt c1 x.2) 2) (rSl c3 9)).eval default fun r3 =>
        .test (bIte (bIte (bNot r0.2) true r1.2) true (bNot r3))
         (.ret (.inr (.inl (8))))
         (.ret (.inl (x.1, (iAdd .i64 x.2 (1))))))))))
    (.fail))
   (.ret (.inr (.inr x.1)))
noncomputable def a4 (c0 : Rows) (c1 : Rows) (c2 : Int) (c3 : Row) (c4 : Row) (x : (Int × Int)) : Dt := ⟨[.u, .u, .r c0, .i x.1, .r c1, .i c2, .i x.2], [], [et 40 c3, et 46 c4], []⟩
noncomputable def o4_0 (c0 : Rows) (c1 : Rows) (c2 : Int) (c3 : Row) (c4 : Row) (r : Int) : X × Dt := (.ret, ⟨[.i r], [], [], []⟩)
noncomputable def o4_1 (c0 : Rows) (c1 : Rows) (c2 : Int) (c3 : Row) (c4 : Row) (r : Int) : X × Dt := (.exit 0, ⟨[.u, .u, .r c0, .i r], [], [(et 40 c3), (et 46 c4)], []⟩)
noncomputable def e4 (k : Nat) (d : Dt) : T (X × Dt) := out2 (iter (s4 k (aR (aN d.a 2)) (aR (aN d.a 4)) (aI (aN d.a 5)) (d.r.getD 0 []) (d.r.getD 1 [])) k ((aI (aN d.a 3)), (aI (aN d.a 6)))) (o4_0 (aR (aN d.a 2)) (aR (aN d.a 4)) (aI (aN d.a 5)) (d.r.getD 0 []) (d.r.getD 1 [])) (o4_1 (aR (aN d.a 2)) (aR (aN d.a 4)) (aI (aN d.a 5)) (d.r.getD 0 []) (d.r.getD 1 []))
noncomputable def t20 : LoopT := ⟨⟨115, [], [(4, .ptr 4 0), (5, .ptr 5 0), (8, .int .i64), (16, .ptr 16 0), (74, .sl 86 none), (75, .int .i64), (76, .int .i64), (83, .sl 65 none), (84, .int .i64), (85, .int .i64)], [], [(4, 40), (5, 46), (16, 86)], []⟩, (fun | .exit 5 => some ⟨115, [], [(4, .ptr 4 0), (5, .ptr 5 0), (8, .int .i64), (74, .sl 86 none), (75, .int .i64), (76, .int .i64)], [], [(4, 40), (5, 46)], []⟩ | _ => none)⟩
noncomputable def s20 (k : Nat) (c0 : Rows) (c1 : Int) (c2 : Int) (c3 : Rows) (c4 : Int) (c5 : Row) (c6 : Row) (c7 : Row) (x : (Int × Int)) : T ((Int × Int) ⊕ Int) :=
  .test (iLt x.2 c4)
   (.test (iIn x.2 (rLen c3))
    (.opt (bIte (rBool (rAt c3 x.2) 0) (rBool (rAt c3 x.2) 1) false) (affinity_selects.f k (et 65 (rAt c3 x.2)) (rStr c7 1) (et 40 c5)).eval default fun r0 =>
    .opt (bIte (bIte (rBool (rAt c3 x.2) 0) (rBool (rAt c3 x.2) 1) false) r0 false) (affinity_together.f k (et 46 c6) (eo 46 c7 32) (rStr (rAt c3 x.2) 3)).eval default fun r1 =>
    .test (bIte (bIte (bIte (rBool (rAt c3 x.2) 0) (rBool (rAt c3 x.2) 1) false) r0 false) r1 false)
     (.ret (.inl ((9), (iAdd .i64 x.2 (1)))))
     (.ret (.inl (x.1, (iAdd .i64 x.2 (1))))))
    (.fail))
   (.ret (.inr x.1))
noncomputable def a20 (c0 : Rows) (c1 : Int) (c2 : Int) (c3 : Rows) (c4 : Int) (c5 : Row) (c6 : Row) (c7 : Row) (x : (Int × Int)) : Dt := ⟨[.u, .u, .i x.1, .u, .r c0, .i c1, .i c2, .r c3, .i c4, .i x.2], [], [et 40 c5, et 46 c6, et 86 c7], []⟩
noncomputable def o20_0 (c0 : Rows) (c1 : Int) (c2 : Int) (c3 : Rows) (c4 : Int) (c5 : Row) (c6 : Row) (c7 : Row) (r : Int) : X × Dt := (.exit 5, ⟨[.u, .u, .i r, .r c0, .i c1, .i c2], [], [(et 40 c5), (et 46 c6)], []⟩)
noncomputable def e20 (k : Nat) (d : Dt) : T (X × Dt) := out1 (iter (s20 k (aR (aN d.a 4)) (aI (aN d.a 5)) (aI (aN d.a 6)) (aR (aN d.a 7)) (aI (aN d.a 8)) (d.r.getD 0 []) (d.r.getD 1 []) (d.r.getD 2 [])) k ((aI (aN d.a 2)), (aI (aN d.a 9)))) default (o20_0 (aR (aN d.a 4)) (aI (aN d.a 5)) (aI (aN d.a 6)) (aR (aN d.a 7)) (aI (aN d.a 8)) (d.r.getD 0 []) (d.r.getD 1 []) (d.r.getD 2 []))
noncomputable def t17 : LoopT := ⟨⟨115, [], [(4, .ptr 4 0), (5, .ptr 5 0), (8, .int .i64), (74, .sl 86 none), (75, .int .i64), (76, .int .i64)], [], [(4, 40), (5, 46)], []⟩, (fun | .exit 3 => some ⟨115, [], [(8, .int .i64)], [], [], []⟩ | _ => none)⟩
noncomputable def s17 (k : Nat) (c0 : Rows) (c1 : Int) (c2 : Row) (c3 : Row) (x : (Int × Int)) : T ((Int × Int) ⊕ Int) :=
  .test (iLt x.2 c1)
   (.test (iIn x.2 (rLen c0))
    (.bnd (iter (affinity_PodFits.s20 k c0 c1 x.2 (rSl (rAt c0 x.2) 20) (rLen (rSl (rAt c0 x.2) 20)) (et 40 c2) (et 46 c3) (et 86 (rAt c0 x.2))) k (x.1, (0))) default fun r0 =>
    .ret (.inl (r0, (iAdd .i64 x.2 (1)))))
    (.fail))
   (.ret (.inr x.1))
noncomputable def a17 (c0 : Rows) (c1 : Int) (c2 : Row) (c3 : Row) (x : (Int × Int)) : Dt := ⟨[.u, .u, .i x.1, .r c0, .i c1, .i x.2], [], [et 40 c2, et 46 c3], []⟩
noncomputable def o17_0 (c0 : Rows) (c1 : Int) (c2 : Row) (c3 : Row) (r : Int) : X × Dt := (.exit 3, ⟨[.i r], [], [], []⟩)
noncomputable def e17 (k : Nat) (d : Dt) : T (X × Dt) := out1 (iter (s17 k (aR (aN d.a 3)) (aI (aN d.a 4)) (d.r.getD 0 []) (d.r.getD 1 [])) k ((aI (aN d.a 2)), (aI (aN d.a 5)))) default (o17_0 (aR (aN d.a 3)) (aI (aN d.a 4)) (d.r.getD 0 []) (d.r.getD 1 []))
noncomputable def S (k : Nat) : Subs := fun n => bif Nat.beq n 4 then some (loopV Try.prog t4 (e4 k)) else bif Nat.beq n 20 then some (loopV Try.prog t20 (e20 k)) else bif Nat.beq n 17 then some (loopV Try.prog t17 (e17 k)) else none
noncomputable def f (k : Nat) (a0 : Row) (a1 : Row) (a2 : Row) : T Int :=
  .bnd (affinity_others.f k (et 58 a0) (et 40 a1)).eval default fun r0 =>
  .cas (iter (affinity_PodFits.s4 k r0 (rSl a1 20) (rLen (rSl a1 20)) (et 40 a1) (et 46 a2)) k ((0), (0))) (fun r1 =>
   .ret r1) (fun r2 =>
   .bnd (iter (affinity_PodFits.s17 k r0 (rLen r0) (et 40 a1) (et 46 a2)) k (r2, (0))) default fun r3 =>
   .ret r3)
noncomputable def d (k : Nat) : Fun := mkFun [58, 40, 46] (fun as_ => f k (vRow (vN as_ 0)) (vRow (vN as_ 1)) (vRow (vN as_ 2))) default (fun r => .int .i64 r)
theorem hC (k : Nat) : CxOk (C k) := CxOk.cons (p := (33, affinity_others.d k)) (affinity_others.ok k) (CxOk.cons (p := (11, affinity_Domain.d k)) (affinity_Domain.ok k) (CxOk.cons (p := (34, affinity_near.d k)) (affinity_near.ok k) (CxOk.cons (p := (31, label_Matches.d k)) (label_Matches.ok k) (CxOk.cons (p := (35, affinity_selects.d k)) (affinity_selects.ok k) (CxOk.cons (p := (36, affinity_together.d k)) (affinity_together.ok k) (CxOk.nil))))))
theorem l4 (k : Nat) : LoopOk Try.prog (S k) (lp (bodyF Go.Proofs.Try.f16) 0) := loopOk_mk (C := C k) (hC k) (Loops.all (n := 0) (by kernel_rfl) trivial) (lt := t4) (den := e4 k) (by kernel_rfl) (N := (Rows × Rows × Int × Row × Row)) (A := (Int × Int)) (R := (Int ⊕ Int))
 (fun n x => a4 n.1 n.2.1 n.2.2.1 n.2.2.2.1 n.2.2.2.2 x) (fun n r => Sum.elim (o4_0 n.1 n.2.1 n.2.2.1 n.2.2.2.1 n.2.2.2.2) (o4_1 n.1 n.2.1 n.2.2.1 n.2.2.2.1 n.2.2.2.2) r) (fun n x => s4 k n.1 n.2.1 n.2.2.1 n.2.2.2.1 n.2.2.2.2 x) k (fun d => ((aR (aN d.a 2)), (aR (aN d.a 4)), (aI (aN d.a 5)), (d.r.getD 0 []), (d.r.getD 1 []))) (fun d => ((aI (aN d.a 3)), (aI (aN d.a 6)))) (fun d y h => out2_eval h) (fun d => by kernel_rfl) (fun n x => by kernel_rfl) (fun n r => by rcases r with r | r <;> exact ⟨_, rfl⟩)
theorem l20 (k : Nat) : LoopOk Try.prog (S k) (lp (lp (bodyF Go.Proofs.Try.f16) 1) 0) := loopOk_mk (C := C k) (hC k) (Loops.all (n := 0) (by kernel_rfl) trivial) (lt := t20) (den := e20 k) (by kernel_rfl) (N := (Rows × Int × Int × Rows × Int × Row × Row × Row)) (A := (Int × Int)) (R := Int)
 (fun n x => a20 n.1 n.2.1 n.2.2.1 n.2.2.2.1 n.2.2.2.2.1 n.2.2.2.2.2.1 n.2.2.2.2.2.2.1 n.2.2.2.2.2.2.2 x) (fun n r => o20_0 n.1 n.2.1 n.2.2.1 n.2.2.2.1 n.2.2.2.2.1 n.2.2.2.2.2.1 n.2.2.2.2.2.2.1 n.2.2.2.2.2.2.2 r) (fun n x => s20 k n.1 n.2.1 n.2.2.1 n.2.2.2.1 n.2.2.2.2.1 n.2.2.2.2.2.1 n.2.2.2.2.2.2.1 n.2.2.2.2.2.2.2 x) k (fun d => ((aR (aN d.a 4)), (aI (aN d.a 5)), (aI (aN d.a 6)), (aR (aN d.a 7)), (aI (aN d.a 8)), (d.r.getD 0 []), (d.r.getD 1 []), (d.r.getD 2 []))) (fun d => ((aI (aN d.a 2)), (aI (aN d.a 9)))) (fun d y h => out1_eval h) (fun d => by kernel_rfl) (fun n x => by kernel_rfl) (fun n r => ⟨_, rfl⟩)
theorem l17 (k : Nat) : LoopOk Try.prog (S k) (lp (bodyF Go.Proofs.Try.f16) 1) := loopOk_mk (C := C k) (hC k) (Loops.all (n := 1) (by kernel_rfl) ⟨trivial, l20 k⟩) (lt := t17) (den := e17 k) (by kernel_rfl) (N := (Rows × Int × Row × Row)) (A := (Int × Int)) (R := Int)
 (fun n x => a17 n.1 n.2.1 n.2.2.1 n.2.2.2 x) (fun n r => o17_0 n.1 n.2.1 n.2.2.1 n.2.2.2 r) (fun n x => s17 k n.1 n.2.1 n.2.2.1 n.2.2.2 x) k (fun d => ((aR (aN d.a 3)), (aI (aN d.a 4)), (d.r.getD 0 []), (d.r.getD 1 []))) (fun d => ((aI (aN d.a 2)), (aI (aN d.a 5)))) (fun d y h => out1_eval h) (fun d => by kernel_rfl) (fun n x => by kernel_rfl) (fun n r => ⟨_, rfl⟩)
theorem ok (k : Nat) : FunOk Try.prog 16 (d k) := fun_mk (C := C k) (hC k) (S := S k) Try.func16 (by kernel_rfl) (by kernel_rfl) (Loops.all (n := 2) (by kernel_rfl) ⟨⟨trivial, l4 k⟩, l17 k⟩) (fun as_ => by kernel_rfl)
end affinity_PodFits
namespace affinity_limit
noncomputable def C (k : Nat) : Cx := ⟨Try.prog, tab [], [], []⟩
noncomputable def S (k : Nat) : Subs := fun n => none
noncomputable def f (k : Nat) (a0 : Int) : T Int :=
  .ret (iMin (iMax a0 (-1000000000000000)) (1000000000000000))
noncomputable def d (k : Nat) : Fun := mkFun [3] (fun as_ => f k (vInt (vN as_ 0))) default (fun r => .int .i64 r)
theorem hC (k : Nat) : CxOk (C k) := CxOk.nil
theorem ok (k : Nat) : FunOk Try.prog 40 (d k) := fun_mk (C := C k) (hC k) (S := S k) Try.func40 (by kernel_rfl) (by kernel_rfl) (Loops.all (n := 0) (by kernel_rfl) trivial) (fun as_ => by kernel_rfl)
end affinity_limit
namespace affinity_Preference
noncomputable def C (k : Nat) : Cx := ⟨Try.prog, tab [(33, affinity_others.d k), (31, label_Matches.d k), (40, affinity_limit.d k), (34, affinity_near.d k)], [], []⟩
noncomputable def t4 : LoopT := ⟨⟨82, [], [(4, .ptr 4 0), (5, .ptr 5 0), (7, .sl 86 none), (8, .int .i64), (20, .sl 68 none), (21, .int .i64), (22, .int .i64)], [], [(4, 40), (5, 46)], []⟩, (fun | .exit 0 => some ⟨82, [], [(4, .ptr 4 0), (5, .ptr 5 0), (7, .sl 86 none), (8, .int .i64)], [], [(4, 40), (5, 46)], []⟩ | _ => none)⟩
noncomputable def s4 (k : Nat) (c0 : Rows) (c1 : Rows) (c2 : Int) (c3 : Row) (c4 : Row) (x : (Int × Int)) : T ((Int × Int) ⊕ Int) :=
  .test (iLt x.2 c2)
   (.test (iIn x.2 (rLen c1))
    (.opt (bNot (rBool (rAt c1 x.2) 0)) (label_Matches.f k (rSl (rAt c1 x.2) 1) (rSl c4 9)).eval default fun r0 =>
    .test (bIte (bNot (rBool (rAt c1 x.2) 0)) r0 false)
     (.bnd (affinity_limit.f k (rInt (rAt c1 x.2) 2)).eval default fun r1 =>
     .ret (.inl ((iAdd .i64 x.1 r1), (iAdd .i64 x.2 (1)))))
     (.ret (.inl (x.1, (iAdd .i64 x.2 (1))))))
    (.fail))
   (.ret (.inr x.1))
noncomputable def a4 (c0 : Rows) (c1 : Rows) (c2 : Int) (c3 : Row) (c4 : Row) (x : (Int × Int)) : Dt := ⟨[.u, .u, .r c0, .i x.1, .r c1, .i c2, .i x.2], [], [et 40 c3, et 46 c4], []⟩
noncomputable def o4_0 (c0 : Rows) (c1 : Rows) (c2 : Int) (c3 : Row) (c4 : Row) (r : Int) : X × Dt := (.exit 0, ⟨[.u, .u, .r c0, .i r], [], [(et 40 c3), (et 46 c4)], []⟩)
noncomputable def e4 (k : Nat) (d : Dt) : T (X × Dt) := out1 (iter (s4 k (aR (aN d.a 2)) (aR (aN d.a 4)) (aI (aN d.a 5)) (d.r.getD 0 []) (d.r.getD 1 [])) k ((aI (aN d.a 3)), (aI (aN d.a 6)))) default (o4_0 (aR (aN d.a 2)) (aR (aN d.a 4)) (aI (aN d.a 5)) (d.r.getD 0 []) (d.r.getD 1 []))
noncomputable def t10 : LoopT := ⟨⟨82, [], [(4, .ptr 4 0), (5, .ptr 5 0), (7, .sl 86 none), (8, .int .i64), (45, .sl 65 none), (46, .int .i64), (47, .int .i64)], [], [(4, 40), (5, 46)], []⟩, (fun | .exit 2 => some ⟨82, [], [(8, .int .i64)], [], [], []⟩ | _ => none)⟩
noncomputable def s10 (k : Nat) (c0 : Rows) (c1 : Rows) (c2 : Int) (c3 : Row) (c4 : Row) (x : (Int × Int)) : T ((Int × Int) ⊕ Int) :=
  .test (iLt x.2 c2)
   (.test (iIn x.2 (rLen c1))
    (.bnd (affinity_near.f k (et 65 (rAt c1 x.2)) (et 40 c3) (et 46 c4) c0).eval default fun r0 =>
    .test (bIte (rBool (rAt c1 x.2) 0) true (bNot r0.1))
     (.ret (.inl (x.1, (iAdd .i64 x.2 (1)))))
     (.test (rBool (rAt c1 x.2) 1)
      (.bnd (affinity_limit.f k (rInt (rAt c1 x.2) 4)).eval default fun r1 =>
      .ret (.inl ((iSub .i64 x.1 r1), (iAdd .i64 x.2 (1)))))
      (.bnd (affinity_limit.f k (rInt (rAt c1 x.2) 4)).eval default fun r2 =>
      .ret (.inl ((iAdd .i64 x.1 r2), (iAdd .i64 x.2 (1)))))))
    (.fail))
   (.ret (.inr x.1))
noncomputable def a10 (c0 : Rows) (c1 : Rows) (c2 : Int) (c3 : Row) (c4 : Row) (x : (Int × Int)) : Dt := ⟨[.u, .u, .r c0, .i x.1, .r c1, .i c2, .i x.2], [], [et 40 c3, et 46 c4], []⟩
noncomputable def o10_0 (c0 : Rows) (c1 : Rows) (c2 : Int) (c3 : Row) (c4 : Row) (r : Int) : X × Dt := (.exit 2, ⟨[.i r], [], [], []⟩)
noncomputable def e10 (k : Nat) (d : Dt) : T (X × Dt) := out1 (iter (s10 k (aR (aN d.a 2)) (aR (aN d.a 4)) (aI (aN d.a 5)) (d.r.getD 0 []) (d.r.getD 1 [])) k ((aI (aN d.a 3)), (aI (aN d.a 6)))) default (o10_0 (aR (aN d.a 2)) (aR (aN d.a 4)) (aI (aN d.a 5)) (d.r.getD 0 []) (d.r.getD 1 []))
noncomputable def S (k : Nat) : Subs := fun n => bif Nat.beq n 4 then some (loopV Try.prog t4 (e4 k)) else bif Nat.beq n 10 then some (loopV Try.prog t10 (e10 k)) else none
noncomputable def f (k : Nat) (a0 : Row) (a1 : Row) (a2 : Row) : T Int :=
  .bnd (affinity_others.f k (et 58 a0) (et 40 a1)).eval default fun r0 =>
  .bnd (iter (affinity_Preference.s4 k r0 (rSl a1 19) (rLen (rSl a1 19)) (et 40 a1) (et 46 a2)) k ((0), (0))) default fun r1 =>
  .bnd (iter (affinity_Preference.s10 k r0 (rSl a1 20) (rLen (rSl a1 20)) (et 40 a1) (et 46 a2)) k (r1, (0))) default fun r2 =>
  .bnd (affinity_limit.f k r2).eval default fun r3 =>
  .ret r3
noncomputable def d (k : Nat) : Fun := mkFun [58, 40, 46] (fun as_ => f k (vRow (vN as_ 0)) (vRow (vN as_ 1)) (vRow (vN as_ 2))) default (fun r => .int .i64 r)
theorem hC (k : Nat) : CxOk (C k) := CxOk.cons (p := (33, affinity_others.d k)) (affinity_others.ok k) (CxOk.cons (p := (31, label_Matches.d k)) (label_Matches.ok k) (CxOk.cons (p := (40, affinity_limit.d k)) (affinity_limit.ok k) (CxOk.cons (p := (34, affinity_near.d k)) (affinity_near.ok k) (CxOk.nil))))
theorem l4 (k : Nat) : LoopOk Try.prog (S k) (lp (bodyF Go.Proofs.Try.f18) 0) := loopOk_mk (C := C k) (hC k) (Loops.all (n := 0) (by kernel_rfl) trivial) (lt := t4) (den := e4 k) (by kernel_rfl) (N := (Rows × Rows × Int × Row × Row)) (A := (Int × Int)) (R := Int)
 (fun n x => a4 n.1 n.2.1 n.2.2.1 n.2.2.2.1 n.2.2.2.2 x) (fun n r => o4_0 n.1 n.2.1 n.2.2.1 n.2.2.2.1 n.2.2.2.2 r) (fun n x => s4 k n.1 n.2.1 n.2.2.1 n.2.2.2.1 n.2.2.2.2 x) k (fun d => ((aR (aN d.a 2)), (aR (aN d.a 4)), (aI (aN d.a 5)), (d.r.getD 0 []), (d.r.getD 1 []))) (fun d => ((aI (aN d.a 3)), (aI (aN d.a 6)))) (fun d y h => out1_eval h) (fun d => by kernel_rfl) (fun n x => by kernel_rfl) (fun n r => ⟨_, rfl⟩)
theorem l10 (k : Nat) : LoopOk Try.prog (S k) (lp (bodyF Go.Proofs.Try.f18) 1) := loopOk_mk (C := C k) (hC k) (Loops.all (n := 0) (by kernel_rfl) trivial) (lt := t10) (den := e10 k) (by kernel_rfl) (N := (Rows × Rows × Int × Row × Row)) (A := (Int × Int)) (R := Int)
 (fun n x => a10 n.1 n.2.1 n.2.2.1 n.2.2.2.1 n.2.2.2.2 x) (fun n r => o10_0 n.1 n.2.1 n.2.2.1 n.2.2.2.1 n.2.2.2.2 r) (fun n x => s10 k n.1 n.2.1 n.2.2.1 n.2.2.2.1 n.2.2.2.2 x) k (fun d => ((aR (aN d.a 2)), (aR (aN d.a 4)), (aI (aN d.a 5)), (d.r.getD 0 []), (d.r.getD 1 []))) (fun d => ((aI (aN d.a 3)), (aI (aN d.a 6)))) (fun d y h => out1_eval h) (fun d => by kernel_rfl) (fun n x => by kernel_rfl) (fun n r => ⟨_, rfl⟩)
theorem ok (k : Nat) : FunOk Try.prog 18 (d k) := fun_mk (C := C k) (hC k) (S := S k) Try.func18 (by kernel_rfl) (by kernel_rfl) (Loops.all (n := 2) (by kernel_rfl) ⟨⟨trivial, l4 k⟩, l10 k⟩) (fun as_ => by kernel_rfl)
end affinity_Preference
namespace affinity_NodeFits
noncomputable def C (k : Nat) : Cx := ⟨Try.prog, tab [(31, label_Matches.d k)], [], []⟩
noncomputable def t4 : LoopT := ⟨⟨33, [], [(3, .ptr 3 0), (15, .sl 68 none), (16, .int .i64), (17, .int .i64)], [], [(3, 46)], []⟩, (fun | .ret => some ⟨33, [], [(4, .bool)], [], [], []⟩ | .exit 0 => some ⟨33, [], [], [], [], []⟩ | _ => none)⟩
noncomputable def s4 (k : Nat) (c0 : Rows) (c1 : Int) (c2 : Row) (x : Int) : T (Int ⊕ (Bool ⊕ Unit)) :=
  .test (iLt x c1)
   (.test (iIn x (rLen c0))
    (.opt (rBool (rAt c0 x) 0) (label_Matches.f k (rSl (rAt c0 x) 1) (rSl c2 9)).eval default fun r0 =>
    .test (bIte (rBool (rAt c0 x) 0) (bNot r0) false)
     (.ret (.inr (.inl false)))
     (.ret (.inl (iAdd .i64 x (1)))))
    (.fail))
   (.ret (.inr (.inr ())))
noncomputable def a4 (c0 : Rows) (c1 : Int) (c2 : Row) (x : Int) : Dt := ⟨[.u, .r c0, .i c1, .i x], [], [et 46 c2], []⟩
noncomputable def o4_0 (c0 : Rows) (c1 : Int) (c2 : Row) (r : Bool) : X × Dt := (.ret, ⟨[.b r], [], [], []⟩)
noncomputable def o4_1 (c0 : Rows) (c1 : Int) (c2 : Row) (r : Unit) : X × Dt := (.exit 0, ⟨[], [], [], []⟩)
noncomputable def e4 (k : Nat) (d : Dt) : T (X × Dt) := out2 (iter (s4 k (aR (aN d.a 1)) (aI (aN d.a 2)) (d.r.getD 0 [])) k (aI (aN d.a 3))) (o4_0 (aR (aN d.a 1)) (aI (aN d.a 2)) (d.r.getD 0 [])) (o4_1 (aR (aN d.a 1)) (aI (aN d.a 2)) (d.r.getD 0 []))
noncomputable def S (k : Nat) : Subs := fun n => bif Nat.beq n 4 then some (loopV Try.prog t4 (e4 k)) else none
noncomputable def f (k : Nat) (a0 : Row) (a1 : Row) : T Bool :=
  .bnd (label_Matches.f k (rSl a0 5) (rSl a1 9)).eval default fun r0 =>
  .test (bNot r0)
   (.ret false)
   (.cas (iter (affinity_NodeFits.s4 k (rSl a0 6) (rLen (rSl a0 6)) (et 46 a1)) k (0)) (fun r1 =>
    .ret r1) (fun r2 =>
    .ret true))
noncomputable def d (k : Nat) : Fun := mkFun [35, 46] (fun as_ => f k (vRow (vN as_ 0)) (vRow (vN as_ 1))) default (fun r => .bool r)
theorem hC (k : Nat) : CxOk (C k) := CxOk.cons (p := (31, label_Matches.d k)) (label_Matches.ok k) (CxOk.nil)
theorem l4 (k : Nat) : LoopOk Try.prog (S k) (lp (bodyF Go.Proofs.Try.f13) 0) := loopOk_mk (C := C k) (hC k) (Loops.all (n := 0) (by kernel_rfl) trivial) (lt := t4) (den := e4 k) (by kernel_rfl) (N := (Rows × Int × Row)) (A := Int) (R := (Bool ⊕ Unit))
 (fun n x => a4 n.1 n.2.1 n.2.2 x) (fun n r => Sum.elim (o4_0 n.1 n.2.1 n.2.2) (o4_1 n.1 n.2.1 n.2.2) r) (fun n x => s4 k n.1 n.2.1 n.2.2 x) k (fun d => ((aR (aN d.a 1)), (aI (aN d.a 2)), (d.r.getD 0 []))) (fun d => (aI (aN d.a 3))) (fun d y h => out2_eval h) (fun d => by kernel_rfl) (fun n x => by kernel_rfl) (fun n r => by rcases r with r | r <;> exact ⟨_, rfl⟩)
theorem ok (k : Nat) : FunOk Try.prog 13 (d k) := fun_mk (C := C k) (hC k) (S := S k) Try.func13 (by kernel_rfl) (by kernel_rfl) (Loops.all (n := 1) (by kernel_rfl) ⟨trivial, l4 k⟩) (fun as_ => by kernel_rfl)
end affinity_NodeFits
namespace law36_lives
noncomputable def C (k : Nat) : Cx := ⟨Try.prog, tab [(26, law36_node.d k), (27, law36_pod.d k), (28, law36_term.d k), (11, affinity_Domain.d k), (16, affinity_PodFits.d k), (18, affinity_Preference.d k), (13, affinity_NodeFits.d k)], [31], [(11, 31)]⟩
noncomputable def S (k : Nat) : Subs := fun n => none
noncomputable def f (k : Nat) : T Bool :=
  .bnd (law36_node.f k (bs [110, 49]) (bs [97])).eval default fun r0 =>
  .bnd (law36_node.f k (bs [110, 50]) (bs [98])).eval default fun r1 =>
  .bnd (law36_pod.f k (bs [113]) (bs [100, 98]) (bs [110, 49])).eval default fun r2 =>
  .bnd (law36_pod.f k (bs [112]) (bs [119, 101, 98]) ByteArray.empty).eval default fun r3 =>
  .bnd (law36_term.f k (bs [100, 98]) false).eval default fun r4 =>
  .bnd (law36_pod.f k (bs [112]) (bs [119, 101, 98]) ByteArray.empty).eval default fun r5 =>
  .bnd (law36_term.f k (bs [100, 98]) true).eval default fun r6 =>
  .bnd (law36_pod.f k (bs [112]) (bs [119, 101, 98]) ByteArray.empty).eval default fun r7 =>
  .bnd (law36_term.f k (bs [119, 101, 98]) false).eval default fun r8 =>
  .bnd (law36_term.f k (bs [100, 98]) false).eval default fun r9 =>
  .test (iIn (1) (rLen [(et 46 r0), (et 46 r1)]))
   (.bnd (affinity_Domain.f k (et 46 (rAt [(et 46 r0), (et 46 r1)] (1))) (bs [122, 111, 110, 101])).eval default fun r10 =>
   .test (iIn (0) (rLen [(et 46 r0), (et 46 r1)]))
    (.bnd (affinity_PodFits.f k [.slice 46 [(et 46 r0), (et 46 r1)] .open, .slice 40 [(et 40 r2)] .open, .slice 80 [] .open, .int .i64 (0)] [.str (rStr r3 0), .str (rStr r3 1), .str (rStr r3 2), .int .i64 (rInt r3 3), .int .i64 (rInt r3 4), .int .i64 (rInt r3 5), .int .i64 (rInt r3 6), .bool (rBool r3 7), .int .i64 (rInt r3 8), .slice 105 (rSl r3 9) .open, .slice 107 (rSl r3 10) .open, .slice 9 (rSl r3 11) .open, .slice 109 (rSl r3 12) .open, .str (rStr r3 13), .int .i64 (rInt r3 14), .int .i64 (rInt r3 15), .int .i64 (rInt r3 16), .slice 137 (rSl r3 17) .open, .slice 94 (rSl r3 18) .open, .slice 68 (rSl r3 19) .open, .slice 65 [(et 65 r4)] .open, .slice 143 (rSl r3 21) .open, .slice 145 (rSl r3 22) .open, .int .i64 (rInt r3 23), .bool (rBool r3 24), .int .i64 (rInt r3 25), .int .i64 (rInt r3 26), .int .i64 (rInt r3 27), .slice 147 (rSl r3 28) .open, .int .i64 (rInt r3 29), .str (rStr r3 30), .str (rStr r3 31)] (et 46 (rAt [(et 46 r0), (et 46 r1)] (0)))).eval default fun r11 =>
    .test (bImp (iEq r11 (0)) (iIn (1) (rLen [(et 46 r0), (et 46 r1)])))
     (.opt (iEq r11 (0)) (affinity_PodFits.f k [.slice 46 [(et 46 r0), (et 46 r1)] .open, .slice 40 [(et 40 r2)] .open, .slice 80 [] .open, .int .i64 (0)] [.str (rStr r3 0), .str (rStr r3 1), .str (rStr r3 2), .int .i64 (rInt r3 3), .int .i64 (rInt r3 4), .int .i64 (rInt r3 5), .int .i64 (rInt r3 6), .bool (rBool r3 7), .int .i64 (rInt r3 8), .slice 105 (rSl r3 9) .open, .slice 107 (rSl r3 10) .open, .slice 9 (rSl r3 11) .open, .slice 109 (rSl r3 12) .open, .str (rStr r3 13), .int .i64 (rInt r3 14), .int .i64 (rInt r3 15), .int .i64 (rInt r3 16), .slice 137 (rSl r3 17) .open, .slice 94 (rSl r3 18) .open, .slice 68 (rSl r3 19) .open, .slice 65 [(et 65 r4)] .open, .slice 143 (rSl r3 21) .open, .slice 145 (rSl r3 22) .open, .int .i64 (rInt r3 23), .bool (rBool r3 24), .int .i64 (rInt r3 25), .int .i64 (rInt r3 26), .int .i64 (rInt r3 27), .slice 147 (rSl r3 28) .open, .int .i64 (rInt r3 29), .str (rStr r3 30), .str (rStr r3 31)] (et 46 (rAt [(et 46 r0), (et 46 r1)] (1)))).eval default fun r12 =>
     .test (bImp (bIte (iEq r11 (0)) (iEq r12 (8)) false) (iIn (0) (rLen [(et 46 r0), (et 46 r1)])))
      (.opt (bIte (iEq r11 (0)) (iEq r12 (8)) false) (affinity_PodFits.f k [.slice 46 [(et 46 r0), (et 46 r1)] .open, .slice 40 [(et 40 r2)] .open, .slice 80 [] .open, .int .i64 (0)] [.str (rStr r5 0), .str (rStr r5 1), .str (rStr r5 2), .int .i64 (rInt r5 3), .int .i64 (rInt r5 4), .int .i64 (rInt r5 5), .int .i64 (rInt r5 6), .bool (rBool r5 7), .int .i64 (rInt r5 8), .slice 105 (rSl r5 9) .open, .slice 107 (rSl r5 10) .open, .slice 9 (rSl r5 11) .open, .slice 109 (rSl r5 12) .open, .str (rStr r5 13), .int .i64 (rInt r5 14), .int .i64 (rInt r5 15), .int .i64 (rInt r5 16), .slice 137 (rSl r5 17) .open, .slice 94 (rSl r5 18) .open, .slice 68 (rSl r5 19) .open, .slice 65 [(et 65 r6)] .open, .slice 143 (rSl r5 21) .open, .slice 145 (rSl r5 22) .open, .int .i64 (rInt r5 23), .bool (rBool r5 24), .int .i64 (rInt r5 25), .int .i64 (rInt r5 26), .int .i64 (rInt r5 27), .slice 147 (rSl r5 28) .open, .int .i64 (rInt r5 29), .str (rStr r5 30), .str (rStr r5 31)] (et 46 (rAt [(et 46 r0), (et 46 r1)] (0)))).eval default fun r13 =>
      .test (bImp (bIte (bIte (iEq r11 (0)) (iEq r12 (8)) false) (iEq r13 (9)) false) (iIn (1) (rLen [(et 46 r0), (et 46 r1)])))
       (.opt (bIte (bIte (iEq r11 (0)) (iEq r12 (8)) false) (iEq r13 (9)) false) (affinity_PodFits.f k [.slice 46 [(et 46 r0), (et 46 r1)] .open, .slice 40 [(et 40 r2)] .open, .slice 80 [] .open, .int .i64 (0)] [.str (rStr r5 0), .str (rStr r5 1), .str (rStr r5 2), .int .i64 (rInt r5 3), .int .i64 (rInt r5 4), .int .i64 (rInt r5 5), .int .i64 (rInt r5 6), .bool (rBool r5 7), .int .i64 (rInt r5 8), .slice 105 (rSl r5 9) .open, .slice 107 (rSl r5 10) .open, .slice 9 (rSl r5 11) .open, .slice 109 (rSl r5 12) .open, .str (rStr r5 13), .int .i64 (rInt r5 14), .int .i64 (rInt r5 15), .int .i64 (rInt r5 16), .slice 137 (rSl r5 17) .open, .slice 94 (rSl r5 18) .open, .slice 68 (rSl r5 19) .open, .slice 65 [(et 65 r6)] .open, .slice 143 (rSl r5 21) .open, .slice 145 (rSl r5 22) .open, .int .i64 (rInt r5 23), .bool (rBool r5 24), .int .i64 (rInt r5 25), .int .i64 (rInt r5 26), .int .i64 (rInt r5 27), .slice 147 (rSl r5 28) .open, .int .i64 (rInt r5 29), .str (rStr r5 30), .str (rStr r5 31)] (et 46 (rAt [(et 46 r0), (et 46 r1)] (1)))).eval default fun r14 =>
       .test (bImp (bIte (bIte (bIte (iEq r11 (0)) (iEq r12 (8)) false) (iEq r13 (9)) false) (iEq r14 (0)) false) (iIn (1) (rLen [(et 46 r0), (et 46 r1)])))
        (.opt (bIte (bIte (bIte (iEq r11 (0)) (iEq r12 (8)) false) (iEq r13 (9)) false) (iEq r14 (0)) false) (affinity_PodFits.f k [.slice 46 [(et 46 r0), (et 46 r1)] .open, .slice 40 [(et 40 r2)] .open, .slice 80 [] .open, .int .i64 (0)] [.str (rStr r7 0), .str (rStr r7 1), .str (rStr r7 2), .int .i64 (rInt r7 3), .int .i64 (rInt r7 4), .int .i64 (rInt r7 5), .int .i64 (rInt r7 6), .bool (rBool r7 7), .int .i64 (rInt r7 8), .slice 105 (rSl r7 9) .open, .slice 107 (rSl r7 10) .open, .slice 9 (rSl r7 11) .open, .slice 109 (rSl r7 12) .open, .str (rStr r7 13), .int .i64 (rInt r7 14), .int .i64 (rInt r7 15), .int .i64 (rInt r7 16), .slice 137 (rSl r7 17) .open, .slice 94 (rSl r7 18) .open, .slice 68 (rSl r7 19) .open, .slice 65 [(et 65 r8)] .open, .slice 143 (rSl r7 21) .open, .slice 145 (rSl r7 22) .open, .int .i64 (rInt r7 23), .bool (rBool r7 24), .int .i64 (rInt r7 25), .int .i64 (rInt r7 26), .int .i64 (rInt r7 27), .slice 147 (rSl r7 28) .open, .int .i64 (rInt r7 29), .str (rStr r7 30), .str (rStr r7 31)] (et 46 (rAt [(et 46 r0), (et 46 r1)] (1)))).eval default fun r15 =>
        .test (bImp (bIte (bIte (bIte (bIte (iEq r11 (0)) (iEq r12 (8)) false) (iEq r13 (9)) false) (iEq r14 (0)) false) (iEq r15 (0)) false) (iIn (0) (rLen [(et 46 r0), (et 46 r1)])))
         (.opt (bIte (bIte (bIte (bIte (iEq r11 (0)) (iEq r12 (8)) false) (iEq r13 (9)) false) (iEq r14 (0)) false) (iEq r15 (0)) false) (affinity_Preference.f k [.slice 46 [(et 46 r0), (et 46 r1)] .open, .slice 40 [(et 40 r2)] .open, .slice 80 [] .open, .int .i64 (0)] [.str (rStr r3 0), .str (rStr r3 1), .str (rStr r3 2), .int .i64 (rInt r3 3), .int .i64 (rInt r3 4), .int .i64 (rInt r3 5), .int .i64 (rInt r3 6), .bool (rBool r3 7), .int .i64 (rInt r3 8), .slice 105 (rSl r3 9) .open, .slice 107 (rSl r3 10) .open, .slice 9 (rSl r3 11) .open, .slice 109 (rSl r3 12) .open, .str (rStr r3 13), .int .i64 (rInt r3 14), .int .i64 (rInt r3 15), .int .i64 (rInt r3 16), .slice 137 (rSl r3 17) .open, .slice 94 (rSl r3 18) .open, .slice 68 (rSl r3 19) .open, .slice 65 [[.bool false, .bool (rBool r9 1), .slice 94 (rSl r9 2) .open, .str (rStr r9 3), .int .i64 (rInt r9 4)]] .open, .slice 143 (rSl r3 21) .open, .slice 145 (rSl r3 22) .open, .int .i64 (rInt r3 23), .bool (rBool r3 24), .int .i64 (rInt r3 25), .int .i64 (rInt r3 26), .int .i64 (rInt r3 27), .slice 147 (rSl r3 28) .open, .int .i64 (rInt r3 29), .str (rStr r3 30), .str (rStr r3 31)] (et 46 (rAt [(et 46 r0), (et 46 r1)] (0)))).eval default fun r16 =>
         .test (bImp (bIte (bIte (bIte (bIte (bIte (bIte (bIte (iEq r11 (0)) (iEq r12 (8)) false) (iEq r13 (9)) false) (iEq r14 (0)) false) (iEq r15 (0)) false) (iEq r16 (7)) false) (sEq r10.1 (bs [98])) false) r10.2 false) (iIn (0) (rLen [(et 46 r0), (et 46 r1)])))
          (.opt (bIte (bIte (bIte (bIte (bIte (bIte (bIte (iEq r11 (0)) (iEq r12 (8)) false) (iEq r13 (9)) false) (iEq r14 (0)) false) (iEq r15 (0)) false) (iEq r16 (7)) false) (sEq r10.1 (bs [98])) false) r10.2 false) (affinity_NodeFits.f k [.str (rStr r3 13), .int .i64 (rInt r3 14), .int .i64 (rInt r3 15), .int .i64 (rInt r3 16), .slice 137 (rSl r3 17) .open, .slice 94 (rSl r3 18) .open, .slice 68 (rSl r3 19) .open, .slice 65 [(et 65 r4)] .open, .slice 143 (rSl r3 21) .open, .slice 145 (rSl r3 22) .open] (et 46 (rAt [(et 46 r0), (et 46 r1)] (0)))).eval default fun r17 =>
          .ret (bIte (bIte (bIte (bIte (bIte (bIte (bIte (bIte (iEq r11 (0)) (iEq r12 (8)) false) (iEq r13 (9)) false) (iEq r14 (0)) false) (iEq r15 (0)) false) (iEq r16 (7)) false) (sEq r10.1 (bs [98])) false) r10.2 false) r17 false))
          (.fail))
         (.fail))
        (.fail))
       (.fail))
      (.fail))
     (.fail))
    (.fail))
   (.fail)
noncomputable def d (k : Nat) : Fun := mkFun [] (fun as_ => f k) default (fun r => .bool r)
theorem hC (k : Nat) : CxOk (C k) := CxOk.cons (p := (26, law36_node.d k)) (law36_node.ok k) (CxOk.cons (p := (27, law36_pod.d k)) (law36_pod.ok k) (CxOk.cons (p := (28, law36_term.d k)) (law36_term.ok k) (CxOk.cons (p := (11, affinity_Domain.d k)) (affinity_Domain.ok k) (CxOk.cons (p := (16, affinity_PodFits.d k)) (affinity_PodFits.ok k) (CxOk.cons (p := (18, affinity_Preference.d k)) (affinity_Preference.ok k) (CxOk.cons (p := (13, affinity_NodeFits.d k)) (affinity_NodeFits.ok k) (CxOk.nil)))))))
theorem ok (k : Nat) : FunOk Try.prog 10 (d k) := fun_mk (C := C k) (hC k) (S := S k) Try.func10 (by kernel_rfl) (by kernel_rfl) (Loops.all (n := 0) (by kernel_rfl) trivial) (fun as_ => by kernel_rfl)
end law36_lives
namespace ref13_Key
noncomputable def C (k : Nat) : Cx := ⟨Try.prog, tab [], [], []⟩
noncomputable def S (k : Nat) : Subs := fun n => none
noncomputable def f (k : Nat) (a0 : ByteArray) (a1 : ByteArray) (a2 : ByteArray) : T ByteArray :=
  .test (sOk (sLen a0) (sLen (bs [47])))
   (.test (sOk (sLen (sCat a0 (bs [47]))) (sLen a1))
    (.test (sOk (sLen (sCat (sCat a0 (bs [47])) a1)) (sLen (bs [47])))
     (.test (sOk (sLen (sCat (sCat (sCat a0 (bs [47])) a1) (bs [47]))) (sLen a2))
      (.ret (sCat (sCat (sCat (sCat a0 (bs [47])) a1) (bs [47])) a2))
      (.fail))
     (.fail))
    (.fail))
   (.fail)
noncomputable def d (k : Nat) : Fun := mkFun [9, 9, 9] (fun as_ => f k (vStr (vN as_ 0)) (vStr (vN as_ 1)) (vStr (vN as_ 2))) default (fun r => .str r)
theorem hC (k : Nat) : CxOk (C k) := CxOk.nil
theorem ok (k : Nat) : FunOk Try.prog 42 (d k) := fun_mk (C := C k) (hC k) (S := S k) Try.func42 (by kernel_rfl) (by kernel_rfl) (Loops.all (n := 0) (by kernel_rfl) trivial) (fun as_ => by kernel_rfl)
end ref13_Key
namespace ref13_KeyOf
noncomputable def C (k : Nat) : Cx := ⟨Try.prog, tab [(42, ref13_Key.d k)], [], []⟩
noncomputable def S (k : Nat) : Subs := fun n => none
noncomputable def f (k : Nat) (a0 : Row) : T ByteArray :=
  .bnd (ref13_Key.f k (rStr a0 0) (rStr a0 1) (rStr a0 2)).eval default fun r0 =>
  .ret r0
noncomputable def d (k : Nat) : Fun := mkFun [27] (fun as_ => f k (vRow (vN as_ 0))) default (fun r => .str r)
theorem hC (k : Nat) : CxOk (C k) := CxOk.cons (p := (42, ref13_Key.d k)) (ref13_Key.ok k) (CxOk.nil)
theorem ok (k : Nat) : FunOk Try.prog 20 (d k) := fun_mk (C := C k) (hC k) (S := S k) Try.func20 (by kernel_rfl) (by kernel_rfl) (Loops.all (n := 0) (by kernel_rfl) trivial) (fun as_ => by kernel_rfl)
end ref13_KeyOf
namespace law36_AffinityFree
noncomputable def C (k : Nat) : Cx := ⟨Try.prog, tab [(15, law36_SmallView.d k), (8, law36_SmallPod.d k), (9, law36_SmallNode.d k), (10, law36_lives.d k), (20, ref13_KeyOf.d k), (16, affinity_PodFits.d k), (18, affinity_Preference.d k)], [71], [(19, 71), (20, 71)]⟩
noncomputable def t6 : LoopT := ⟨⟨96, [.cell 7 1 45 40], [(3, .ptr 3 0), (4, .ptr 4 0), (5, .ptr 5 0), (7, .ptr 7 0), (28, .sl 40 none), (29, .int .i64), (30, .int .i64)], [(7, [.sl 46 none, .sl 40 (some 45), .sl 80 none, .int .i64])], [(3, 58), (4, 40), (5, 46)], []⟩, (fun | .exit 0 => some ⟨96, [], [(3, .ptr 3 0), (4, .ptr 4 0), (5, .ptr 5 0), (7, .ptr 7 0)], [(7, [.sl 46 none, .sl 40 (some 45), .sl 80 none, .int .i64])], [(3, 58), (4, 40), (5, 46)], []⟩ | _ => none)⟩
noncomputable def s6 (k : Nat) (c0 : Rows) (c1 : Int) (c2 : Rows) (c3 : Rows) (c4 : Int) (c5 : Row) (c6 : Row) (c7 : Row) (x : (Int × Rows)) : T ((Int × Rows) ⊕ Rows) :=
  .test (iLt x.1 c1)
   (.test (iIn x.1 (rLen c0))
    (.bnd (ref13_KeyOf.f k (et 27 (rAt c0 x.1))).eval default fun r0 =>
    .bnd (ref13_KeyOf.f k (et 27 c6)).eval default fun r1 =>
    .test (bNot (sEq r0 r1))
     (.test (rOk 480 (rLen x.2) (rLen [(et 40 (rAt c0 x.1))]))
      (.ret (.inl ((iAdd .i64 x.1 (1)), (rCat x.2 [(et 40 (rAt c0 x.1))]))))
      (.fail))
     (.ret (.inl ((iAdd .i64 x.1 (1)), x.2))))
    (.fail))
   (.ret (.inr x.2))
noncomputable def a6 (c0 : Rows) (c1 : Int) (c2 : Rows) (c3 : Rows) (c4 : Int) (c5 : Row) (c6 : Row) (c7 : Row) (x : (Int × Rows)) : Dt := ⟨[.u, .u, .u, .u, .r c0, .i c1, .i x.1], [[.r c2, .r x.2, .r c3, .i c4]], [et 58 c5, et 40 c6, et 46 c7], []⟩
noncomputable def o6_0 (c0 : Rows) (c1 : Int) (c2 : Rows) (c3 : Rows) (c4 : Int) (c5 : Row) (c6 : Row) (c7 : Row) (r : Rows) : X × Dt := (.exit 0, ⟨[.u, .u, .u, .u], [[.r c2, .r r, .r c3, .i c4]], [(et 58 c5), (et 40 c6), (et 46 c7)], []⟩)
noncomputable def e6 (k : Nat) (d : Dt) : T (X × Dt) := out1 (iter (s6 k (aR (aN d.a 4)) (aI (aN d.a 5)) (aR (aN (d.b.getD 0 []) 0)) (aR (aN (d.b.getD 0 []) 2)) (aI (aN (d.b.getD 0 []) 3)) (d.r.getD 0 []) (d.r.getD 1 []) (d.r.getD 2 [])) k ((aI (aN d.a 6)), (aR (aN (d.b.getD 0 []) 1)))) default (o6_0 (aR (aN d.a 4)) (aI (aN d.a 5)) (aR (aN (d.b.getD 0 []) 0)) (aR (aN (d.b.getD 0 []) 2)) (aI (aN (d.b.getD 0 []) 3)) (d.r.getD 0 []) (d.r.getD 1 []) (d.r.getD 2 []))
noncomputable def t15 : LoopT := ⟨⟨96, [], [(4, .ptr 4 0), (5, .ptr 5 0), (7, .ptr 7 0), (75, .int .i64), (76, .int .i64)], [(7, [.sl 46 none, .aref 40 71, .sl 80 none, .int .i64])], [(4, 40), (5, 46)], [(71, 40)]⟩, (fun | .exit 2 => some ⟨96, [], [(4, .ptr 4 0), (5, .ptr 5 0), (7, .ptr 7 0)], [(7, [.sl 46 none, .aref 40 71, .sl 80 none, .int .i64])], [(4, 40), (5, 46)], [(71, 40)]⟩ | _ => none)⟩
noncomputable def s15 (k : Nat) (c0 : Int) (c1 : Rows) (c2 : Int) (c3 : Rows) (c4 : Int) (c5 : Row) (c6 : Row) (x : (Int × Rows)) : T ((Int × Rows) ⊕ Rows) :=
  .test (iLt x.1 c0)
   (.test (iIn x.1 c2)
    (.ret (.inl ((iAdd .i64 x.1 (1)), (rSet x.2 x.1 (rJ [(et 27 (rAt x.2 x.1)), [.str (rStr (rAt x.2 x.1) 13), .int .i64 (rInt (rAt x.2 x.1) 14), .int .i64 (rInt (rAt x.2 x.1) 15), .int .i64 (rInt (rAt x.2 x.1) 16), .slice 137 (rSl (rAt x.2 x.1) 17) .open, .slice 94 (rSl (rAt x.2 x.1) 18) .open, .slice 68 (rSl (rAt x.2 x.1) 19) .open, .slice 65 [] .open, .slice 143 (rSl (rAt x.2 x.1) 21) .open, .slice 145 (rSl (rAt x.2 x.1) 22) .open, .int .i64 (rInt (rAt x.2 x.1) 23), .bool (rBool (rAt x.2 x.1) 24), .int .i64 (rInt (rAt x.2 x.1) 25), .int .i64 (rInt (rAt x.2 x.1) 26), .int .i64 (rInt (rAt x.2 x.1) 27), .slice 147 (rSl (rAt x.2 x.1) 28) .open, .int .i64 (rInt (rAt x.2 x.1) 29), .str (rStr (rAt x.2 x.1) 30), .str (rStr (rAt x.2 x.1) 31)]])))))
    (.fail))
   (.ret (.inr x.2))
noncomputable def a15 (c0 : Int) (c1 : Rows) (c2 : Int) (c3 : Rows) (c4 : Int) (c5 : Row) (c6 : Row) (x : (Int × Rows)) : Dt := ⟨[.u, .u, .u, .i c0, .i x.1], [[.r c1, .i c2, .r c3, .i c4]], [et 40 c5, et 46 c6], [x.2]⟩
noncomputable def o15_0 (c0 : Int) (c1 : Rows) (c2 : Int) (c3 : Rows) (c4 : Int) (c5 : Row) (c6 : Row) (r : Rows) : X × Dt := (.exit 2, ⟨[.u, .u, .u], [[.r c1, .i c2, .r c3, .i c4]], [(et 40 c5), (et 46 c6)], [r]⟩)
noncomputable def e15 (k : Nat) (d : Dt) : T (X × Dt) := out1 (iter (s15 k (aI (aN d.a 3)) (aR (aN (d.b.getD 0 []) 0)) (aI (aN (d.b.getD 0 []) 1)) (aR (aN (d.b.getD 0 []) 2)) (aI (aN (d.b.getD 0 []) 3)) (d.r.getD 0 []) (d.r.getD 1 [])) k ((aI (aN d.a 4)), (d.m.getD 0 []))) default (o15_0 (aI (aN d.a 3)) (aR (aN (d.b.getD 0 []) 0)) (aI (aN (d.b.getD 0 []) 1)) (aR (aN (d.b.getD 0 []) 2)) (aI (aN (d.b.getD 0 []) 3)) (d.r.getD 0 []) (d.r.getD 1 []))
noncomputable def S (k : Nat) : Subs := fun n => bif Nat.beq n 6 then some (loopV Try.prog t6 (e6 k)) else bif Nat.beq n 15 then some (loopV Try.prog t15 (e15 k)) else none
noncomputable def f (k : Nat) (a0 : Row) (a1 : Row) (a2 : Row) : T Bool :=
  .bnd (law36_SmallView.f k (et 58 a0)).eval default fun r0 =>
  .opt (bNot (bNot r0)) (law36_SmallPod.f k (et 40 a1)).eval default fun r1 =>
  .opt (bNot (bIte (bNot r0) true (bNot r1))) (law36_SmallNode.f k (et 46 a2)).eval default fun r2 =>
  .test (bIte (bIte (bNot r0) true (bNot r1)) true (bNot r2))
   (.bnd (law36_lives.f k).eval default fun r3 =>
   .ret r3)
   (.bnd (iter (law36_AffinityFree.s6 k (rSl a0 1) (rLen (rSl a0 1)) (rSl a0 0) (rSl a0 2) (rInt a0 3) (et 58 a0) (et 40 a1) (et 46 a2)) k ((0), [])) default fun r4 =>
   .bnd (affinity_PodFits.f k (et 58 a0) (et 40 a1) (et 46 a2)).eval default fun r5 =>
   .bnd (affinity_PodFits.f k [.slice 46 (rSl a0 0) .open, .slice 40 r4 .open, .slice 80 (rSl a0 2) .open, .int .i64 (rInt a0 3)] (et 40 a1) (et 46 a2)).eval default fun r6 =>
   .opt (bNot (bNot (iEq r5 r6))) (affinity_Preference.f k (et 58 a0) (et 40 a1) (et 46 a2)).eval default fun r7 =>
   .opt (bNot (bNot (iEq r5 r6))) (affinity_Preference.f k [.slice 46 (rSl a0 0) .open, .slice 40 r4 .open, .slice 80 (rSl a0 2) .open, .int .i64 (rInt a0 3)] (et 40 a1) (et 46 a2)).eval default fun r8 =>
   .test (bIte (bNot (iEq r5 r6)) true (bNot (iEq r7 r8)))
    (.ret false)
    (.test (rOk 480 (0) (rLen r4))
     (.bnd (iter (law36_AffinityFree.s15 k (rLen r4) (rSl a0 0) (rLen r4) (rSl a0 2) (rInt a0 3) (et 40 a1) (et 46 a2)) k ((0), r4)) default fun r9 =>
     .bnd (affinity_PodFits.f k [.slice 46 (rSl a0 0) .open, .slice 40 (rTake r9 (rLen r4)) .open, .slice 80 (rSl a0 2) .open, .int .i64 (rInt a0 3)] (rJ [(et 27 a1), [.str (rStr a1 13), .int .i64 (rInt a1 14), .int .i64 (rInt a1 15), .int .i64 (rInt a1 16), .slice 137 (rSl a1 17) .open, .slice 94 (rSl a1 18) .open, .slice 68 (rSl a1 19) .open, .slice 65 [] .open, .slice 143 (rSl a1 21) .open, .slice 145 (rSl a1 22) .open, .int .i64 (rInt a1 23), .bool (rBool a1 24), .int .i64 (rInt a1 25), .int .i64 (rInt a1 26), .int .i64 (rInt a1 27), .slice 147 (rSl a1 28) .open, .int .i64 (rInt a1 29), .str (rStr a1 30), .str (rStr a1 31)]]) (et 46 a2)).eval default fun r10 =>
     .opt (iEq r10 (0)) (law36_lives.f k).eval default fun r11 =>
     .ret (bIte (iEq r10 (0)) r11 false))
     (.fail)))
noncomputable def d (k : Nat) : Fun := mkFun [58, 40, 46] (fun as_ => f k (vRow (vN as_ 0)) (vRow (vN as_ 1)) (vRow (vN as_ 2))) default (fun r => .bool r)
theorem hC (k : Nat) : CxOk (C k) := CxOk.cons (p := (15, law36_SmallView.d k)) (law36_SmallView.ok k) (CxOk.cons (p := (8, law36_SmallPod.d k)) (law36_SmallPod.ok k) (CxOk.cons (p := (9, law36_SmallNode.d k)) (law36_SmallNode.ok k) (CxOk.cons (p := (10, law36_lives.d k)) (law36_lives.ok k) (CxOk.cons (p := (20, ref13_KeyOf.d k)) (ref13_KeyOf.ok k) (CxOk.cons (p := (16, affinity_PodFits.d k)) (affinity_PodFits.ok k) (CxOk.cons (p := (18, affinity_Preference.d k)) (affinity_Preference.ok k) (CxOk.nil)))))))
theorem l6 (k : Nat) : LoopOk Try.prog (S k) (lp (bodyF Go.Proofs.Try.f6) 0) := loopOk_mk (C := C k) (hC k) (Loops.all (n := 0) (by kernel_rfl) trivial) (lt := t6) (den := e6 k) (by kernel_rfl) (N := (Rows × Int × Rows × Rows × Int × Row × Row × Row)) (A := (Int × Rows)) (R := Rows)
 (fun n x => a6 n.1 n.2.1 n.2.2.1 n.2.2.2.1 n.2.2.2.2.1 n.2.2.2.2.2.1 n.2.2.2.2.2.2.1 n.2.2.2.2.2.2.2 x) (fun n r => o6_0 n.1 n.2.1 n.2.2.1 n.2.2.2.1 n.2.2.2.2.1 n.2.2.2.2.2.1 n.2.2.2.2.2.2.1 n.2.2.2.2.2.2.2 r) (fun n x => s6 k n.1 n.2.1 n.2.2.1 n.2.2.2.1 n.2.2.2.2.1 n.2.2.2.2.2.1 n.2.2.2.2.2.2.1 n.2.2.2.2.2.2.2 x) k (fun d => ((aR (aN d.a 4)), (aI (aN d.a 5)), (aR (aN (d.b.getD 0 []) 0)), (aR (aN (d.b.getD 0 []) 2)), (aI (aN (d.b.getD 0 []) 3)), (d.r.getD 0 []), (d.r.getD 1 []), (d.r.getD 2 []))) (fun d => ((aI (aN d.a 6)), (aR (aN (d.b.getD 0 []) 1)))) (fun d y h => out1_eval h) (fun d => by kernel_rfl) (fun n x => by kernel_rfl) (fun n r => ⟨_, rfl⟩)
theorem l15 (k : Nat) : LoopOk Try.prog (S k) (lp (bodyF Go.Proofs.Try.f6) 1) := loopOk_mk (C := C k) (hC k) (Loops.all (n := 0) (by kernel_rfl) trivial) (lt := t15) (den := e15 k) (by kernel_rfl) (N := (Int × Rows × Int × Rows × Int × Row × Row)) (A := (Int × Rows)) (R := Rows)
 (fun n x => a15 n.1 n.2.1 n.2.2.1 n.2.2.2.1 n.2.2.2.2.1 n.2.2.2.2.2.1 n.2.2.2.2.2.2 x) (fun n r => o15_0 n.1 n.2.1 n.2.2.1 n.2.2.2.1 n.2.2.2.2.1 n.2.2.2.2.2.1 n.2.2.2.2.2.2 r) (fun n x => s15 k n.1 n.2.1 n.2.2.1 n.2.2.2.1 n.2.2.2.2.1 n.2.2.2.2.2.1 n.2.2.2.2.2.2 x) k (fun d => ((aI (aN d.a 3)), (aR (aN (d.b.getD 0 []) 0)), (aI (aN (d.b.getD 0 []) 1)), (aR (aN (d.b.getD 0 []) 2)), (aI (aN (d.b.getD 0 []) 3)), (d.r.getD 0 []), (d.r.getD 1 []))) (fun d => ((aI (aN d.a 4)), (d.m.getD 0 []))) (fun d y h => out1_eval h) (fun d => by kernel_rfl) (fun n x => by kernel_rfl) (fun n r => ⟨_, rfl⟩)
theorem ok (k : Nat) : FunOk Try.prog 6 (d k) := fun_mk (C := C k) (hC k) (S := S k) Try.func6 (by kernel_rfl) (by kernel_rfl) (Loops.all (n := 2) (by kernel_rfl) ⟨⟨trivial, l6 k⟩, l15 k⟩) (fun as_ => by kernel_rfl)
end law36_AffinityFree
namespace ref36_NodeOf
noncomputable def C (k : Nat) : Cx := ⟨Try.prog, tab [], [], []⟩
noncomputable def t2 : LoopT := ⟨⟨29, [], [(1, .str), (2, .ptr 2 0), (4, .ptr 4 0), (6, .int .i64)], [], [(2, 58), (4, 46)], []⟩, (fun | .ret => some ⟨29, [], [(4, .ptr 4 0), (5, .bool)], [], [(4, 46)], []⟩ | .exit 0 => some ⟨29, [], [(4, .ptr 4 0)], [], [(4, 46)], []⟩ | _ => none)⟩
noncomputable def s2 (k : Nat) (c0 : ByteArray) (c1 : Row) (c2 : Row) (x : Int) : T (Int ⊕ ((Bool × Row) ⊕ Unit)) :=
  .test (iLt x (rLen (rSl c1 0)))
   (.test (iIn x (rLen (rSl c1 0)))
    (.test (sEq (rStr (rAt (rSl c1 0) x) 2) c0)
     (.test (iIn x (rLen (rSl c1 0)))
      (.ret (.inr (.inl (true, (et 46 (rAt (rSl c1 0) x))))))
      (.fail))
     (.ret (.inl (iAdd .i64 x (1)))))
    (.fail))
   (.ret (.inr (.inr ())))
noncomputable def a2 (c0 : ByteArray) (c1 : Row) (c2 : Row) (x : Int) : Dt := ⟨[.s c0, .u, .u, .i x], [], [et 58 c1, et 46 c2], []⟩
noncomputable def o2_0 (c0 : ByteArray) (c1 : Row) (c2 : Row) (r : (Bool × Row)) : X × Dt := (.ret, ⟨[.u, .b r.1], [], [r.2], []⟩)
noncomputable def o2_1 (c0 : ByteArray) (c1 : Row) (c2 : Row) (r : Unit) : X × Dt := (.exit 0, ⟨[.u], [], [(et 46 c2)], []⟩)
noncomputable def e2 (k : Nat) (d : Dt) : T (X × Dt) := out2 (iter (s2 k (aS (aN d.a 0)) (d.r.getD 0 []) (d.r.getD 1 [])) k (aI (aN d.a 3))) (o2_0 (aS (aN d.a 0)) (d.r.getD 0 []) (d.r.getD 1 [])) (o2_1 (aS (aN d.a 0)) (d.r.getD 0 []) (d.r.getD 1 []))
noncomputable def S (k : Nat) : Subs := fun n => bif Nat.beq n 2 then some (loopV Try.prog t2 (e2 k)) else none
noncomputable def f (k : Nat) (a0 : Row) (a1 : ByteArray) : T (Row × Bool) :=
  .cas (iter (ref36_NodeOf.s2 k a1 (et 58 a0) [.str ByteArray.empty, .str ByteArray.empty, .str ByteArray.empty, .int .i64 (0), .int .i64 (0), .int .i64 (0), .int .i64 (0), .bool false, .int .i64 (0), .slice 105 [] .open, .slice 107 [] .open, .slice 9 [] .open, .slice 109 [] .open, .int .i64 (0), .int .i64 (0), .int .i64 (0), .int .i64 (0), .bool false, .slice 167 [] .open, .bool false, .int .i64 (0), .bool false, .bool false, .slice 169 [] .open]) k (0)) (fun r0 =>
   .ret ((et 46 r0.2), r0.1)) (fun r1 =>
   .ret ([.str ByteArray.empty, .str ByteArray.empty, .str ByteArray.empty, .int .i64 (0), .int .i64 (0), .int .i64 (0), .int .i64 (0), .bool false, .int .i64 (0), .slice 105 [] .open, .slice 107 [] .open, .slice 9 [] .open, .slice 109 [] .open, .int .i64 (0), .int .i64 (0), .int .i64 (0), .int .i64 (0), .bool false, .slice 167 [] .open, .bool false, .int .i64 (0), .bool false, .bool false, .slice 169 [] .open], false))
noncomputable def d (k : Nat) : Fun := mkFun [58, 9] (fun as_ => f k (vRow (vN as_ 0)) (vStr (vN as_ 1))) default (fun r => .tuple [.agg (et 46 r.1), .bool r.2])
theorem hC (k : Nat) : CxOk (C k) := CxOk.nil
theorem l2 (k : Nat) : LoopOk Try.prog (S k) (lp (bodyF Go.Proofs.Try.f59) 0) := loopOk_mk (C := C k) (hC k) (Loops.all (n := 0) (by kernel_rfl) trivial) (lt := t2) (den := e2 k) (by kernel_rfl) (N := (ByteArray × Row × Row)) (A := Int) (R := ((Bool × Row) ⊕ Unit))
 (fun n x => a2 n.1 n.2.1 n.2.2 x) (fun n r => Sum.elim (o2_0 n.1 n.2.1 n.2.2) (o2_1 n.1 n.2.1 n.2.2) r) (fun n x => s2 k n.1 n.2.1 n.2.2 x) k (fun d => ((aS (aN d.a 0)), (d.r.getD 0 []), (d.r.getD 1 []))) (fun d => (aI (aN d.a 3))) (fun d y h => out2_eval h) (fun d => by kernel_rfl) (fun n x => by kernel_rfl) (fun n r => by rcases r with r | r <;> exact ⟨_, rfl⟩)
theorem ok (k : Nat) : FunOk Try.prog 59 (d k) := fun_mk (C := C k) (hC k) (S := S k) Try.func59 (by kernel_rfl) (by kernel_rfl) (Loops.all (n := 1) (by kernel_rfl) ⟨trivial, l2 k⟩) (fun as_ => by kernel_rfl)
end ref36_NodeOf
namespace ref36_Bound
noncomputable def C (k : Nat) : Cx := ⟨Try.prog, tab [(59, ref36_NodeOf.d k), (20, ref13_KeyOf.d k)], [], []⟩
noncomputable def t3 : LoopT := ⟨⟨57, [.tmp 5 55 40], [(2, .ptr 2 0), (3, .ptr 3 0), (5, .sl 40 (some 55)), (6, .int .i64)], [], [(2, 58), (3, 40)], []⟩, (fun | .exit 0 => some ⟨57, [], [(5, .sl 40 (some 55))], [], [], []⟩ | _ => none)⟩
noncomputable def s3 (k : Nat) (c0 : Row) (c1 : Row) (x : (Rows × Int)) : T ((Rows × Int) ⊕ Rows) :=
  .test (iLt x.2 (rLen (rSl c0 1)))
   (.test (iIn x.2 (rLen (rSl c0 1)))
    (.bnd (ref36_NodeOf.f k (et 58 c0) (rStr (rAt (rSl c0 1) x.2) 13)).eval default fun r0 =>
    .opt (bIte r0.2 (bIte (iEq (rInt (rAt (rSl c0 1) x.2) 23) (0)) true (iEq (rInt (rAt (rSl c0 1) x.2) 23) (1))) false) (ref13_KeyOf.f k (et 27 (rAt (rSl c0 1) x.2))).eval default fun r1 =>
    .opt (bIte r0.2 (bIte (iEq (rInt (rAt (rSl c0 1) x.2) 23) (0)) true (iEq (rInt (rAt (rSl c0 1) x.2) 23) (1))) false) (ref13_KeyOf.f k (et 27 c1)).eval default fun r2 =>
    .test (bIte (bIte r0.2 (bIte (iEq (rInt (rAt (rSl c0 1) x.2) 23) (0)) true (iEq (rInt (rAt (rSl c0 1) x.2) 23) (1))) false) (bNot (sEq r1 r2)) false)
     (.test (rOk 480 (rLen x.1) (rLen [(et 40 (rAt (rSl c0 1) x.2))]))
      (.ret (.inl ((rCat x.1 [(et 40 (rAt (rSl c0 1) x.2))]), (iAdd .i64 x.2 (1)))))
      (.fail))
     (.ret (.inl (x.1, (iAdd .i64 x.2 (1))))))
    (.fail))
   (.ret (.inr x.1))
noncomputable def a3 (c0 : Row) (c1 : Row) (x : (Rows × Int)) : Dt := ⟨[.u, .u, .r x.1, .i x.2], [], [et 58 c0, et 40 c1], []⟩
noncomputable def o3_0 (c0 : Row) (c1 : Row) (r : Rows) : X × Dt := (.exit 0, ⟨[.r r], [], [], []⟩)
noncomputable def e3 (k : Nat) (d : Dt) : T (X × Dt) := out1 (iter (s3 k (d.r.getD 0 []) (d.r.getD 1 [])) k ((aR (aN d.a 2)), (aI (aN d.a 3)))) default (o3_0 (d.r.getD 0 []) (d.r.getD 1 []))
noncomputable def S (k : Nat) : Subs := fun n => bif Nat.beq n 3 then some (loopV Try.prog t3 (e3 k)) else none
noncomputable def f (k : Nat) (a0 : Row) (a1 : Row) : T Rows :=
  .bnd (iter (ref36_Bound.s3 k (et 58 a0) (et 40 a1)) k ([], (0))) default fun r0 =>
  .ret r0
noncomputable def d (k : Nat) : Fun := mkFun [58, 40] (fun as_ => f k (vRow (vN as_ 0)) (vRow (vN as_ 1))) default (fun r => .slice 40 r .open)
theorem hC (k : Nat) : CxOk (C k) := CxOk.cons (p := (59, ref36_NodeOf.d k)) (ref36_NodeOf.ok k) (CxOk.cons (p := (20, ref13_KeyOf.d k)) (ref13_KeyOf.ok k) (CxOk.nil))
theorem l3 (k : Nat) : LoopOk Try.prog (S k) (lp (bodyF Go.Proofs.Try.f49) 0) := loopOk_mk (C := C k) (hC k) (Loops.all (n := 0) (by kernel_rfl) trivial) (lt := t3) (den := e3 k) (by kernel_rfl) (N := (Row × Row)) (A := (Rows × Int)) (R := Rows)
 (fun n x => a3 n.1 n.2 x) (fun n r => o3_0 n.1 n.2 r) (fun n x => s3 k n.1 n.2 x) k (fun d => ((d.r.getD 0 []), (d.r.getD 1 []))) (fun d => ((aR (aN d.a 2)), (aI (aN d.a 3)))) (fun d y h => out1_eval h) (fun d => by kernel_rfl) (fun n x => by kernel_rfl) (fun n r => ⟨_, rfl⟩)
theorem ok (k : Nat) : FunOk Try.prog 49 (d k) := fun_mk (C := C k) (hC k) (S := S k) Try.func49 (by kernel_rfl) (by kernel_rfl) (Loops.all (n := 1) (by kernel_rfl) ⟨trivial, l3 k⟩) (fun as_ => by kernel_rfl)
end ref36_Bound
namespace ref03_Get
noncomputable def C (k : Nat) : Cx := ⟨Try.prog, tab [], [], []⟩
noncomputable def t2 : LoopT := ⟨⟨25, [], [(0, .sl 105 none), (1, .str), (6, .int .i64)], [], [], []⟩, (fun | .ret => some ⟨25, [], [(4, .str), (5, .bool)], [], [], []⟩ | .exit 0 => some ⟨25, [], [], [], [], []⟩ | _ => none)⟩
noncomputable def s2 (k : Nat) (c0 : Rows) (c1 : ByteArray) (x : Int) : T (Int ⊕ ((ByteArray × Bool) ⊕ Unit)) :=
  .test (iLt x (rLen c0))
   (.test (iIn x (rLen c0))
    (.test (sEq (rStr (rAt c0 x) 0) c1)
     (.test (iIn x (rLen c0))
      (.ret (.inr (.inl ((rStr (rAt c0 x) 1), true))))
      (.fail))
     (.ret (.inl (iAdd .i64 x (1)))))
    (.fail))
   (.ret (.inr (.inr ())))
noncomputable def a2 (c0 : Rows) (c1 : ByteArray) (x : Int) : Dt := ⟨[.r c0, .s c1, .i x], [], [], []⟩
noncomputable def o2_0 (c0 : Rows) (c1 : ByteArray) (r : (ByteArray × Bool)) : X × Dt := (.ret, ⟨[.s r.1, .b r.2], [], [], []⟩)
noncomputable def o2_1 (c0 : Rows) (c1 : ByteArray) (r : Unit) : X × Dt := (.exit 0, ⟨[], [], [], []⟩)
noncomputable def e2 (k : Nat) (d : Dt) : T (X × Dt) := out2 (iter (s2 k (aR (aN d.a 0)) (aS (aN d.a 1))) k (aI (aN d.a 2))) (o2_0 (aR (aN d.a 0)) (aS (aN d.a 1))) (o2_1 (aR (aN d.a 0)) (aS (aN d.a 1)))
noncomputable def S (k : Nat) : Subs := fun n => bif Nat.beq n 2 then some (loopV Try.prog t2 (e2 k)) else none
noncomputable def f (k : Nat) (a0 : Rows) (a1 : ByteArray) : T (ByteArray × Bool) :=
  .cas (iter (ref03_Get.s2 k a0 a1) k (0)) (fun r0 =>
   .ret (r0.1, r0.2)) (fun r1 =>
   .ret (ByteArray.empty, false))
noncomputable def d (k : Nat) : Fun := mkFun [22, 9] (fun as_ => f k (vRows (vN as_ 0)) (vStr (vN as_ 1))) default (fun r => .tuple [.str r.1, .bool r.2])
theorem hC (k : Nat) : CxOk (C k) := CxOk.nil
theorem l2 (k : Nat) : LoopOk Try.prog (S k) (lp (bodyF Go.Proofs.Try.f30) 0) := loopOk_mk (C := C k) (hC k) (Loops.all (n := 0) (by kernel_rfl) trivial) (lt := t2) (den := e2 k) (by kernel_rfl) (N := (Rows × ByteArray)) (A := Int) (R := ((ByteArray × Bool) ⊕ Unit))
 (fun n x => a2 n.1 n.2 x) (fun n r => Sum.elim (o2_0 n.1 n.2) (o2_1 n.1 n.2) r) (fun n x => s2 k n.1 n.2 x) k (fun d => ((aR (aN d.a 0)), (aS (aN d.a 1)))) (fun d => (aI (aN d.a 2))) (fun d y h => out2_eval h) (fun d => by kernel_rfl) (fun n x => by kernel_rfl) (fun n r => by rcases r with r | r <;> exact ⟨_, rfl⟩)
theorem ok (k : Nat) : FunOk Try.prog 30 (d k) := fun_mk (C := C k) (hC k) (S := S k) Try.func30 (by kernel_rfl) (by kernel_rfl) (Loops.all (n := 1) (by kernel_rfl) ⟨trivial, l2 k⟩) (fun as_ => by kernel_rfl)
end ref03_Get
namespace ref03_among
noncomputable def C (k : Nat) : Cx := ⟨Try.prog, tab [], [], []⟩
noncomputable def t2 : LoopT := ⟨⟨18, [], [(0, .sl 9 none), (1, .str), (5, .int .i64)], [], [], []⟩, (fun | .ret => some ⟨18, [], [(4, .bool)], [], [], []⟩ | .exit 0 => some ⟨18, [], [], [], [], []⟩ | _ => none)⟩
noncomputable def s2 (k : Nat) (c0 : Rows) (c1 : ByteArray) (x : Int) : T (Int ⊕ (Bool ⊕ Unit)) :=
  .test (iLt x (rLen c0))
   (.test (iIn x (rLen c0))
    (.test (sEq (rStr (rAt c0 x) 0) c1)
     (.ret (.inr (.inl true)))
     (.ret (.inl (iAdd .i64 x (1)))))
    (.fail))
   (.ret (.inr (.inr ())))
noncomputable def a2 (c0 : Rows) (c1 : ByteArray) (x : Int) : Dt := ⟨[.r c0, .s c1, .i x], [], [], []⟩
noncomputable def o2_0 (c0 : Rows) (c1 : ByteArray) (r : Bool) : X × Dt := (.ret, ⟨[.b r], [], [], []⟩)
noncomputable def o2_1 (c0 : Rows) (c1 : ByteArray) (r : Unit) : X × Dt := (.exit 0, ⟨[], [], [], []⟩)
noncomputable def e2 (k : Nat) (d : Dt) : T (X × Dt) := out2 (iter (s2 k (aR (aN d.a 0)) (aS (aN d.a 1))) k (aI (aN d.a 2))) (o2_0 (aR (aN d.a 0)) (aS (aN d.a 1))) (o2_1 (aR (aN d.a 0)) (aS (aN d.a 1)))
noncomputable def S (k : Nat) : Subs := fun n => bif Nat.beq n 2 then some (loopV Try.prog t2 (e2 k)) else none
noncomputable def f (k : Nat) (a0 : Rows) (a1 : ByteArray) : T Bool :=
  .cas (iter (ref03_among.s2 k a0 a1) k (0)) (fun r0 =>
   .ret r0) (fun r1 =>
   .ret false)
noncomputable def d (k : Nat) : Fun := mkFun [24, 9] (fun as_ => f k (vRows (vN as_ 0)) (vStr (vN as_ 1))) default (fun r => .bool r)
theorem hC (k : Nat) : CxOk (C k) := CxOk.nil
theorem l2 (k : Nat) : LoopOk Try.prog (S k) (lp (bodyF Go.Proofs.Try.f53) 0) := loopOk_mk (C := C k) (hC k) (Loops.all (n := 0) (by kernel_rfl) trivial) (lt := t2) (den := e2 k) (by kernel_rfl) (N := (Rows × ByteArray)) (A := Int) (R := (Bool ⊕ Unit))
 (fun n x => a2 n.1 n.2 x) (fun n r => Sum.elim (o2_0 n.1 n.2) (o2_1 n.1 n.2) r) (fun n x => s2 k n.1 n.2 x) k (fun d => ((aR (aN d.a 0)), (aS (aN d.a 1)))) (fun d => (aI (aN d.a 2))) (fun d y h => out2_eval h) (fun d => by kernel_rfl) (fun n x => by kernel_rfl) (fun n r => by rcases r with r | r <;> exact ⟨_, rfl⟩)
theorem ok (k : Nat) : FunOk Try.prog 53 (d k) := fun_mk (C := C k) (hC k) (S := S k) Try.func53 (by kernel_rfl) (by kernel_rfl) (Loops.all (n := 1) (by kernel_rfl) ⟨trivial, l2 k⟩) (fun as_ => by kernel_rfl)
end ref03_among
namespace ref03_holds
noncomputable def C (k : Nat) : Cx := ⟨Try.prog, tab [(30, ref03_Get.d k), (53, ref03_among.d k)], [], []⟩
noncomputable def S (k : Nat) : Subs := fun n => none
noncomputable def f (k : Nat) (a0 : Row) (a1 : Rows) : T Bool :=
  .bnd (ref03_Get.f k a1 (rStr a0 0)).eval default fun r0 =>
  .test (iEq (rInt a0 1) (1))
   (.opt r0.2 (ref03_among.f k (rSl a0 2) r0.1).eval default fun r1 =>
   .ret (bIte r0.2 r1 false))
   (.test (iEq (rInt a0 1) (2))
    (.opt (bNot (bNot r0.2)) (ref03_among.f k (rSl a0 2) r0.1).eval default fun r2 =>
    .ret (bIte (bNot r0.2) true (bNot r2)))
    (.ret (bIte (bIte (iEq (rInt a0 1) (3)) r0.2 false) true (bIte (iEq (rInt a0 1) (4)) (bNot r0.2) false))))
noncomputable def d (k : Nat) : Fun := mkFun [94, 22] (fun as_ => f k (vRow (vN as_ 0)) (vRows (vN as_ 1))) default (fun r => .bool r)
theorem hC (k : Nat) : CxOk (C k) := CxOk.cons (p := (30, ref03_Get.d k)) (ref03_Get.ok k) (CxOk.cons (p := (53, ref03_among.d k)) (ref03_among.ok k) (CxOk.nil))
theorem ok (k : Nat) : FunOk Try.prog 44 (d k) := fun_mk (C := C k) (hC k) (S := S k) Try.func44 (by kernel_rfl) (by kernel_rfl) (Loops.all (n := 0) (by kernel_rfl) trivial) (fun as_ => by kernel_rfl)
end ref03_holds
namespace ref03_Matches
noncomputable def C (k : Nat) : Cx := ⟨Try.prog, tab [(44, ref03_holds.d k)], [], []⟩
noncomputable def t2 : LoopT := ⟨⟨19, [], [(0, .sl 94 none), (1, .sl 105 none), (5, .int .i64)], [], [], []⟩, (fun | .ret => some ⟨19, [], [(4, .bool)], [], [], []⟩ | .exit 0 => some ⟨19, [], [], [], [], []⟩ | _ => none)⟩
noncomputable def s2 (k : Nat) (c0 : Rows) (c1 : Rows) (x : Int) : T (Int ⊕ (Bool ⊕ Unit)) :=
  .test (iLt x (rLen c0))
   (.test (iIn x (rLen c0))
    (.bnd (ref03_holds.f k (et 94 (rAt c0 x)) c1).eval default fun r0 =>
    .test (bNot r0)
     (.ret (.inr (.inl false)))
     (.ret (.inl (iAdd .i64 x (1)))))
    (.fail))
   (.ret (.inr (.inr ())))
noncomputable def a2 (c0 : Rows) (c1 : Rows) (x : Int) : Dt := ⟨[.r c0, .r c1, .i x], [], [], []⟩
noncomputable def o2_0 (c0 : Rows) (c1 : Rows) (r : Bool) : X × Dt := (.ret, ⟨[.b r], [], [], []⟩)
noncomputable def o2_1 (c0 : Rows) (c1 : Rows) (r : Unit) : X × Dt := (.exit 0, ⟨[], [], [], []⟩)
noncomputable def e2 (k : Nat) (d : Dt) : T (X × Dt) := out2 (iter (s2 k (aR (aN d.a 0)) (aR (aN d.a 1))) k (aI (aN d.a 2))) (o2_0 (aR (aN d.a 0)) (aR (aN d.a 1))) (o2_1 (aR (aN d.a 0)) (aR (aN d.a 1)))
noncomputable def S (k : Nat) : Subs := fun n => bif Nat.beq n 2 then some (loopV Try.prog t2 (e2 k)) else none
noncomputable def f (k : Nat) (a0 : Rows) (a1 : Rows) : T Bool :=
  .cas (iter (ref03_Matches.s2 k a0 a1) k (0)) (fun r0 =>
   .ret r0) (fun r1 =>
   .ret true)
noncomputable def d (k : Nat) : Fun := mkFun [29, 22] (fun as_ => f k (vRows (vN as_ 0)) (vRows (vN as_ 1))) default (fun r => .bool r)
theorem hC (k : Nat) : CxOk (C k) := CxOk.cons (p := (44, ref03_holds.d k)) (ref03_holds.ok k) (CxOk.nil)
theorem l2 (k : Nat) : LoopOk Try.prog (S k) (lp (bodyF Go.Proofs.Try.f23) 0) := loopOk_mk (C := C k) (hC k) (Loops.all (n := 0) (by kernel_rfl) trivial) (lt := t2) (den := e2 k) (by kernel_rfl) (N := (Rows × Rows)) (A := Int) (R := (Bool ⊕ Unit))
 (fun n x => a2 n.1 n.2 x) (fun n r => Sum.elim (o2_0 n.1 n.2) (o2_1 n.1 n.2) r) (fun n x => s2 k n.1 n.2 x) k (fun d => ((aR (aN d.a 0)), (aR (aN d.a 1)))) (fun d => (aI (aN d.a 2))) (fun d y h => out2_eval h) (fun d => by kernel_rfl) (fun n x => by kernel_rfl) (fun n r => by rcases r with r | r <;> exact ⟨_, rfl⟩)
theorem ok (k : Nat) : FunOk Try.prog 23 (d k) := fun_mk (C := C k) (hC k) (S := S k) Try.func23 (by kernel_rfl) (by kernel_rfl) (Loops.all (n := 1) (by kernel_rfl) ⟨trivial, l2 k⟩) (fun as_ => by kernel_rfl)
end ref03_Matches
namespace ref36_Domain
noncomputable def C (k : Nat) : Cx := ⟨Try.prog, tab [(30, ref03_Get.d k)], [], []⟩
noncomputable def S (k : Nat) : Subs := fun n => none
noncomputable def f (k : Nat) (a0 : Row) (a1 : ByteArray) : T (ByteArray × Bool) :=
  .bnd (ref03_Get.f k (rSl a0 9) a1).eval default fun r0 =>
  .ret (r0.1, r0.2)
noncomputable def d (k : Nat) : Fun := mkFun [46, 9] (fun as_ => f k (vRow (vN as_ 0)) (vStr (vN as_ 1))) default (fun r => .tuple [.str r.1, .bool r.2])
theorem hC (k : Nat) : CxOk (C k) := CxOk.cons (p := (30, ref03_Get.d k)) (ref03_Get.ok k) (CxOk.nil)
theorem ok (k : Nat) : FunOk Try.prog 12 (d k) := fun_mk (C := C k) (hC k) (S := S k) Try.func12 (by kernel_rfl) (by kernel_rfl) (Loops.all (n := 0) (by kernel_rfl) trivial) (fun as_ => by kernel_rfl)
end ref36_Domain
namespace ref36_together
noncomputable def C (k : Nat) : Cx := ⟨Try.prog, tab [(59, ref36_NodeOf.d k), (12, ref36_Domain.d k)], [], []⟩
noncomputable def S (k : Nat) : Subs := fun n => none
noncomputable def f (k : Nat) (a0 : Row) (a1 : Row) (a2 : Row) (a3 : ByteArray) : T Bool :=
  .bnd (ref36_NodeOf.f k (et 58 a0) (rStr a1 13)).eval default fun r0 =>
  .bnd (ref36_Domain.f k (et 46 r0.1) a3).eval default fun r1 =>
  .bnd (ref36_Domain.f k (et 46 a2) a3).eval default fun r2 =>
  .ret (bIte (bIte r1.2 r2.2 false) (sEq r1.1 r2.1) false)
noncomputable def d (k : Nat) : Fun := mkFun [58, 40, 46, 9] (fun as_ => f k (vRow (vN as_ 0)) (vRow (vN as_ 1)) (vRow (vN as_ 2)) (vStr (vN as_ 3))) default (fun r => .bool r)
theorem hC (k : Nat) : CxOk (C k) := CxOk.cons (p := (59, ref36_NodeOf.d k)) (ref36_NodeOf.ok k) (CxOk.cons (p := (12, ref36_Domain.d k)) (ref36_Domain.ok k) (CxOk.nil))
theorem ok (k : Nat) : FunOk Try.prog 50 (d k) := fun_mk (C := C k) (hC k) (S := S k) Try.func50 (by kernel_rfl) (by kernel_rfl) (Loops.all (n := 0) (by kernel_rfl) trivial) (fun as_ => by kernel_rfl)
end ref36_together
namespace ref36_Against
noncomputable def C (k : Nat) : Cx := ⟨Try.prog, tab [(49, ref36_Bound.d k), (23, ref03_Matches.d k), (50, ref36_together.d k)], [], []⟩
noncomputable def t6 : LoopT := ⟨⟨77, [], [(3, .ptr 3 0), (4, .ptr 4 0), (5, .ptr 5 0), (7, .sl 40 none), (8, .int .i64), (9, .int .i64)], [], [(3, 58), (4, 40), (5, 46)], []⟩, (fun | .ret => some ⟨77, [], [(6, .bool)], [], [], []⟩ | .exit 2 => some ⟨77, [], [(3, .ptr 3 0), (4, .ptr 4 0), (5, .ptr 5 0), (7, .sl 40 none), (8, .int .i64)], [], [(3, 58), (4, 40), (5, 46)], []⟩ | _ => none)⟩
noncomputable def s6 (k : Nat) (c0 : Rows) (c1 : Int) (c2 : Row) (c3 : Row) (c4 : Row) (x : Int) : T (Int ⊕ (Bool ⊕ Unit)) :=
  .test (iIn c1 (rLen c0))
   (.test (iLt x (rLen (rSl (rAt c0 c1) 20)))
    (.test (iIn c1 (rLen c0))
     (.test (iIn x (rLen (rSl (rAt c0 c1) 20)))
      (.test (bImp (bIte (rBool (rAt (rSl (rAt c0 c1) 20) x) 0) (rBool (rAt (rSl (rAt c0 c1) 20) x) 1) false) (iIn c1 (rLen c0)))
       (.opt (bIte (bIte (rBool (rAt (rSl (rAt c0 c1) 20) x) 0) (rBool (rAt (rSl (rAt c0 c1) 20) x) 1) false) (sEq (rStr (rAt c0 c1) 1) (rStr c3 1)) false) (ref03_Matches.f k (rSl (rAt (rSl (rAt c0 c1) 20) x) 2) (rSl c3 9)).eval default fun r0 =>
       .test (bImp (bIte (bIte (bIte (rBool (rAt (rSl (rAt c0 c1) 20) x) 0) (rBool (rAt (rSl (rAt c0 c1) 20) x) 1) false) (sEq (rStr (rAt c0 c1) 1) (rStr c3 1)) false) r0 false) (iIn c1 (rLen c0)))
        (.opt (bIte (bIte (bIte (rBool (rAt (rSl (rAt c0 c1) 20) x) 0) (rBool (rAt (rSl (rAt c0 c1) 20) x) 1) false) (sEq (rStr (rAt c0 c1) 1) (rStr c3 1)) false) r0 false) (ref36_together.f k (et 58 c2) (et 40 (rAt c0 c1)) (et 46 c4) (rStr (rAt (rSl (rAt c0 c1) 20) x) 3)).eval default fun r1 =>
        .test (bIte (bIte (bIte (bIte (rBool (rAt (rSl (rAt c0 c1) 20) x) 0) (rBool (rAt (rSl (rAt c0 c1) 20) x) 1) false) (sEq (rStr (rAt c0 c1) 1) (rStr c3 1)) false) r0 false) r1 false)
         (.ret (.inr (.inl true)))
         (.ret (.inl (iAdd .i64 x (1)))))
        (.fail))
       (.fail))
      (.fail))
     (.fail))
    (.ret (.inr (.inr ()))))
   (.fail)
noncomputable def a6 (c0 : Rows) (c1 : Int) (c2 : Row) (c3 : Row) (c4 : Row) (x : Int) : Dt := ⟨[.u, .u, .u, .r c0, .i c1, .i x], [], [et 58 c2, et 40 c3, et 46 c4], []⟩
noncomputable def o6_0 (c0 : Rows) (c1 : Int) (c2 : Row) (c3 : Row) (c4 : Row) (r : Bool) : X × Dt := (.ret, ⟨[.b r], [], [], []⟩)
noncomputable def o6_1 (c0 : Rows) (c1 : Int) (c2 : Row) (c3 : Row) (c4 : Row) (r : Unit) : X × Dt := (.exit 2, ⟨[.u, .u, .u, .r c0, .i c1], [], [(et 58 c2), (et 40 c3), (et 46 c4)], []⟩)
noncomputable def e6 (k : Nat) (d : Dt) : T (X × Dt) := out2 (iter (s6 k (aR (aN d.a 3)) (aI (aN d.a 4)) (d.r.getD 0 []) (d.r.getD 1 []) (d.r.getD 2 [])) k (aI (aN d.a 5))) (o6_0 (aR (aN d.a 3)) (aI (aN d.a 4)) (d.r.getD 0 []) (d.r.getD 1 []) (d.r.getD 2 [])) (o6_1 (aR (aN d.a 3)) (aI (aN d.a 4)) (d.r.getD 0 []) (d.r.getD 1 []) (d.r.getD 2 []))
noncomputable def t3 : LoopT := ⟨⟨77, [], [(3, .ptr 3 0), (4, .ptr 4 0), (5, .ptr 5 0), (7, .sl 40 none), (8, .int .i64)], [], [(3, 58), (4, 40), (5, 46)], []⟩, (fun | .ret => some ⟨77, [], [(6, .bool)], [], [], []⟩ | .exit 0 => some ⟨77, [], [], [], [], []⟩ | _ => none)⟩
noncomputable def s3 (k : Nat) (c0 : Rows) (c1 : Row) (c2 : Row) (c3 : Row) (x : Int) : T (Int ⊕ (Bool ⊕ Unit)) :=
  .test (iLt x (rLen c0))
   (.cas (iter (ref36_Against.s6 k c0 x (et 58 c1) (et 40 c2) (et 46 c3)) k (0)) (fun r0 =>
    .ret (.inr (.inl r0))) (fun r1 =>
    .ret (.inl (iAdd .i64 x (1)))))
   (.ret (.inr (.inr ())))
noncomputable def a3 (c0 : Rows) (c1 : Row) (c2 : Row) (c3 : Row) (x : Int) : Dt := ⟨[.u, .u, .u, .r c0, .i x], [], [et 58 c1, et 40 c2, et 46 c3], []⟩
noncomputable def o3_0 (c0 : Rows) (c1 : Row) (c2 : Row) (c3 : Row) (r : Bool) : X × Dt := (.ret, ⟨[.b r], [], [], []⟩)
noncomputable def o3_1 (c0 : Rows) (c1 : Row) (c2 : Row) (c3 : Row) (r : Unit) : X × Dt := (.exit 0, ⟨[], [], [], []⟩)
noncomputable def e3 (k : Nat) (d : Dt) : T (X × Dt) := out2 (iter (s3 k (aR (aN d.a 3)) (d.r.getD 0 []) (d.r.getD 1 []) (d.r.getD 2 [])) k (aI (aN d.a 4))) (o3_0 (aR (aN d.a 3)) (d.r.getD 0 []) (d.r.getD 1 []) (d.r.getD 2 [])) (o3_1 (aR (aN d.a 3)) (d.r.getD 0 []) (d.r.getD 1 []) (d.r.getD 2 []))
noncomputable def S (k : Nat) : Subs := fun n => bif Nat.beq n 6 then some (loopV Try.prog t6 (e6 k)) else bif Nat.beq n 3 then some (loopV Try.prog t3 (e3 k)) else none
noncomputable def f (k : Nat) (a0 : Row) (a1 : Row) (a2 : Row) : T Bool :=
  .bnd (ref36_Bound.f k (et 58 a0) (et 40 a1)).eval default fun r0 =>
  .cas (iter (ref36_Against.s3 k r0 (et 58 a0) (et 40 a1) (et 46 a2)) k (0)) (fun r1 =>
   .ret r1) (fun r2 =>
   .ret false)
noncomputable def d (k : Nat) : Fun := mkFun [58, 40, 46] (fun as_ => f k (vRow (vN as_ 0)) (vRow (vN as_ 1)) (vRow (vN as_ 2))) default (fun r => .bool r)
theorem hC (k : Nat) : CxOk (C k) := CxOk.cons (p := (49, ref36_Bound.d k)) (ref36_Bound.ok k) (CxOk.cons (p := (23, ref03_Matches.d k)) (ref03_Matches.ok k) (CxOk.cons (p := (50, ref36_together.d k)) (ref36_together.ok k) (CxOk.nil)))
theorem l6 (k : Nat) : LoopOk Try.prog (S k) (lp (lp (bodyF Go.Proofs.Try.f37) 0) 0) := loopOk_mk (C := C k) (hC k) (Loops.all (n := 0) (by kernel_rfl) trivial) (lt := t6) (den := e6 k) (by kernel_rfl) (N := (Rows × Int × Row × Row × Row)) (A := Int) (R := (Bool ⊕ Unit))
 (fun n x => a6 n.1 n.2.1 n.2.2.1 n.2.2.2.1 n.2.2.2.2 x) (fun n r => Sum.elim (o6_0 n.1 n.2.1 n.2.2.1 n.2.2.2.1 n.2.2.2.2) (o6_1 n.1 n.2.1 n.2.2.1 n.2.2.2.1 n.2.2.2.2) r) (fun n x => s6 k n.1 n.2.1 n.2.2.1 n.2.2.2.1 n.2.2.2.2 x) k (fun d => ((aR (aN d.a 3)), (aI (aN d.a 4)), (d.r.getD 0 []), (d.r.getD 1 []), (d.r.getD 2 []))) (fun d => (aI (aN d.a 5))) (fun d y h => out2_eval h) (fun d => by kernel_rfl) (fun n x => by kernel_rfl) (fun n r => by rcases r with r | r <;> exact ⟨_, rfl⟩)
theorem l3 (k : Nat) : LoopOk Try.prog (S k) (lp (bodyF Go.Proofs.Try.f37) 0) := loopOk_mk (C := C k) (hC k) (Loops.all (n := 1) (by kernel_rfl) ⟨trivial, l6 k⟩) (lt := t3) (den := e3 k) (by kernel_rfl) (N := (Rows × Row × Row × Row)) (A := Int) (R := (Bool ⊕ Unit))
 (fun n x => a3 n.1 n.2.1 n.2.2.1 n.2.2.2 x) (fun n r => Sum.elim (o3_0 n.1 n.2.1 n.2.2.1 n.2.2.2) (o3_1 n.1 n.2.1 n.2.2.1 n.2.2.2) r) (fun n x => s3 k n.1 n.2.1 n.2.2.1 n.2.2.2 x) k (fun d => ((aR (aN d.a 3)), (d.r.getD 0 []), (d.r.getD 1 []), (d.r.getD 2 []))) (fun d => (aI (aN d.a 4))) (fun d y h => out2_eval h) (fun d => by kernel_rfl) (fun n x => by kernel_rfl) (fun n r => by rcases r with r | r <;> exact ⟨_, rfl⟩)
theorem ok (k : Nat) : FunOk Try.prog 37 (d k) := fun_mk (C := C k) (hC k) (S := S k) Try.func37 (by kernel_rfl) (by kernel_rfl) (Loops.all (n := 1) (by kernel_rfl) ⟨trivial, l3 k⟩) (fun as_ => by kernel_rfl)
end ref36_Against
namespace ref36_near
noncomputable def C (k : Nat) : Cx := ⟨Try.prog, tab [(49, ref36_Bound.d k), (23, ref03_Matches.d k), (50, ref36_together.d k)], [], []⟩
noncomputable def t3 : LoopT := ⟨⟨52, [], [(4, .ptr 4 0), (5, .ptr 5 0), (6, .ptr 6 0), (7, .ptr 7 0), (9, .sl 40 none), (10, .int .i64)], [], [(4, 58), (5, 40), (6, 46), (7, 65)], []⟩, (fun | .ret => some ⟨52, [], [(8, .bool)], [], [], []⟩ | .exit 0 => some ⟨52, [], [], [], [], []⟩ | _ => none)⟩
noncomputable def s3 (k : Nat) (c0 : Rows) (c1 : Row) (c2 : Row) (c3 : Row) (c4 : Row) (x : Int) : T (Int ⊕ (Bool ⊕ Unit)) :=
  .test (iLt x (rLen c0))
   (.test (iIn x (rLen c0))
    (.test (bImp (sEq (rStr (rAt c0 x) 1) (rStr c2 1)) (iIn x (rLen c0)))
     (.opt (sEq (rStr (rAt c0 x) 1) (rStr c2 1)) (ref03_Matches.f k (rSl c4 2) (rSl (rAt c0 x) 9)).eval default fun r0 =>
     .test (bImp (bIte (sEq (rStr (rAt c0 x) 1) (rStr c2 1)) r0 false) (iIn x (rLen c0)))
      (.opt (bIte (sEq (rStr (rAt c0 x) 1) (rStr c2 1)) r0 false) (ref36_together.f k (et 58 c1) (et 40 (rAt c0 x)) (et 46 c3) (rStr c4 3)).eval default fun r1 =>
      .test (bIte (bIte (sEq (rStr (rAt c0 x) 1) (rStr c2 1)) r0 false) r1 false)
       (.ret (.inr (.inl true)))
       (.ret (.inl (iAdd .i64 x (1)))))
      (.fail))
     (.fail))
    (.fail))
   (.ret (.inr (.inr ())))
noncomputable def a3 (c0 : Rows) (c1 : Row) (c2 : Row) (c3 : Row) (c4 : Row) (x : Int) : Dt := ⟨[.u, .u, .u, .u, .r c0, .i x], [], [et 58 c1, et 40 c2, et 46 c3, et 65 c4], []⟩
noncomputable def o3_0 (c0 : Rows) (c1 : Row) (c2 : Row) (c3 : Row) (c4 : Row) (r : Bool) : X × Dt := (.ret, ⟨[.b r], [], [], []⟩)
noncomputable def o3_1 (c0 : Rows) (c1 : Row) (c2 : Row) (c3 : Row) (c4 : Row) (r : Unit) : X × Dt := (.exit 0, ⟨[], [], [], []⟩)
noncomputable def e3 (k : Nat) (d : Dt) : T (X × Dt) := out2 (iter (s3 k (aR (aN d.a 4)) (d.r.getD 0 []) (d.r.getD 1 []) (d.r.getD 2 []) (d.r.getD 3 [])) k (aI (aN d.a 5))) (o3_0 (aR (aN d.a 4)) (d.r.getD 0 []) (d.r.getD 1 []) (d.r.getD 2 []) (d.r.getD 3 [])) (o3_1 (aR (aN d.a 4)) (d.r.getD 0 []) (d.r.getD 1 []) (d.r.getD 2 []) (d.r.getD 3 []))
noncomputable def S (k : Nat) : Subs := fun n => bif Nat.beq n 3 then some (loopV Try.prog t3 (e3 k)) else none
noncomputable def f (k : Nat) (a0 : Row) (a1 : Row) (a2 : Row) (a3 : Row) : T Bool :=
  .bnd (ref36_Bound.f k (et 58 a0) (et 40 a1)).eval default fun r0 =>
  .cas (iter (ref36_near.s3 k r0 (et 58 a0) (et 40 a1) (et 46 a2) (et 65 a3)) k (0)) (fun r1 =>
   .ret r1) (fun r2 =>
   .ret false)
noncomputable def d (k : Nat) : Fun := mkFun [58, 40, 46, 65] (fun as_ => f k (vRow (vN as_ 0)) (vRow (vN as_ 1)) (vRow (vN as_ 2)) (vRow (vN as_ 3))) default (fun r => .bool r)
theorem hC (k : Nat) : CxOk (C k) := CxOk.cons (p := (49, ref36_Bound.d k)) (ref36_Bound.ok k) (CxOk.cons (p := (23, ref03_Matches.d k)) (ref03_Matches.ok k) (CxOk.cons (p := (50, ref36_together.d k)) (ref36_together.ok k) (CxOk.nil)))
theorem l3 (k : Nat) : LoopOk Try.prog (S k) (lp (bodyF Go.Proofs.Try.f38) 0) := loopOk_mk (C := C k) (hC k) (Loops.all (n := 0) (by kernel_rfl) trivial) (lt := t3) (den := e3 k) (by kernel_rfl) (N := (Rows × Row × Row × Row × Row)) (A := Int) (R := (Bool ⊕ Unit))
 (fun n x => a3 n.1 n.2.1 n.2.2.1 n.2.2.2.1 n.2.2.2.2 x) (fun n r => Sum.elim (o3_0 n.1 n.2.1 n.2.2.1 n.2.2.2.1 n.2.2.2.2) (o3_1 n.1 n.2.1 n.2.2.1 n.2.2.2.1 n.2.2.2.2) r) (fun n x => s3 k n.1 n.2.1 n.2.2.1 n.2.2.2.1 n.2.2.2.2 x) k (fun d => ((aR (aN d.a 4)), (d.r.getD 0 []), (d.r.getD 1 []), (d.r.getD 2 []), (d.r.getD 3 []))) (fun d => (aI (aN d.a 5))) (fun d y h => out2_eval h) (fun d => by kernel_rfl) (fun n x => by kernel_rfl) (fun n r => by rcases r with r | r <;> exact ⟨_, rfl⟩)
theorem ok (k : Nat) : FunOk Try.prog 38 (d k) := fun_mk (C := C k) (hC k) (S := S k) Try.func38 (by kernel_rfl) (by kernel_rfl) (Loops.all (n := 1) (by kernel_rfl) ⟨trivial, l3 k⟩) (fun as_ => by kernel_rfl)
end ref36_near
namespace ref36_first
noncomputable def C (k : Nat) : Cx := ⟨Try.prog, tab [(49, ref36_Bound.d k), (23, ref03_Matches.d k)], [], []⟩
noncomputable def t3 : LoopT := ⟨⟨45, [], [(4, .ptr 4 0), (5, .ptr 5 0), (7, .sl 40 none), (8, .int .i64)], [], [(4, 40), (5, 65)], []⟩, (fun | .ret => some ⟨45, [], [(6, .bool)], [], [], []⟩ | .exit 0 => some ⟨45, [], [(4, .ptr 4 0), (5, .ptr 5 0)], [], [(4, 40), (5, 65)], []⟩ | _ => none)⟩
noncomputable def s3 (k : Nat) (c0 : Rows) (c1 : Row) (c2 : Row) (x : Int) : T (Int ⊕ (Bool ⊕ Unit)) :=
  .test (iLt x (rLen c0))
   (.test (iIn x (rLen c0))
    (.test (bImp (sEq (rStr (rAt c0 x) 1) (rStr c1 1)) (iIn x (rLen c0)))
     (.opt (sEq (rStr (rAt c0 x) 1) (rStr c1 1)) (ref03_Matches.f k (rSl c2 2) (rSl (rAt c0 x) 9)).eval default fun r0 =>
     .test (bIte (sEq (rStr (rAt c0 x) 1) (rStr c1 1)) r0 false)
      (.ret (.inr (.inl false)))
      (.ret (.inl (iAdd .i64 x (1)))))
     (.fail))
    (.fail))
   (.ret (.inr (.inr ())))
noncomputable def a3 (c0 : Rows) (c1 : Row) (c2 : Row) (x : Int) : Dt := ⟨[.u, .u, .r c0, .i x], [], [et 40 c1, et 65 c2], []⟩
noncomputable def o3_0 (c0 : Rows) (c1 : Row) (c2 : Row) (r : Bool) : X × Dt := (.ret, ⟨[.b r], [], [], []⟩)
noncomputable def o3_1 (c0 : Rows) (c1 : Row) (c2 : Row) (r : Unit) : X × Dt := (.exit 0, ⟨[.u, .u], [], [(et 40 c1), (et 65 c2)], []⟩)
noncomputable def e3 (k : Nat) (d : Dt) : T (X × Dt) := out2 (iter (s3 k (aR (aN d.a 2)) (d.r.getD 0 []) (d.r.getD 1 [])) k (aI (aN d.a 3))) (o3_0 (aR (aN d.a 2)) (d.r.getD 0 []) (d.r.getD 1 [])) (o3_1 (aR (aN d.a 2)) (d.r.getD 0 []) (d.r.getD 1 []))
noncomputable def S (k : Nat) : Subs := fun n => bif Nat.beq n 3 then some (loopV Try.prog t3 (e3 k)) else none
noncomputable def f (k : Nat) (a0 : Row) (a1 : Row) (a2 : Row) : T Bool :=
  .bnd (ref36_Bound.f k (et 58 a0) (et 40 a1)).eval default fun r0 =>
  .cas (iter (ref36_first.s3 k r0 (et 40 a1) (et 65 a2)) k (0)) (fun r1 =>
   .ret r1) (fun r2 =>
   .bnd (ref03_Matches.f k (rSl a2 2) (rSl a1 9)).eval default fun r3 =>
   .ret r3)
noncomputable def d (k : Nat) : Fun := mkFun [58, 40, 65] (fun as_ => f k (vRow (vN as_ 0)) (vRow (vN as_ 1)) (vRow (vN as_ 2))) default (fun r => .bool r)
theorem hC (k : Nat) : CxOk (C k) := CxOk.cons (p := (49, ref36_Bound.d k)) (ref36_Bound.ok k) (CxOk.cons (p := (23, ref03_Matches.d k)) (ref03_Matches.ok k) (CxOk.nil))
theorem l3 (k : Nat) : LoopOk Try.prog (S k) (lp (bodyF Go.Proofs.Try.f39) 0) := loopOk_mk (C := C k) (hC k) (Loops.all (n := 0) (by kernel_rfl) trivial) (lt := t3) (den := e3 k) (by kernel_rfl) (N := (Rows × Row × Row)) (A := Int) (R := (Bool ⊕ Unit))
 (fun n x => a3 n.1 n.2.1 n.2.2 x) (fun n r => Sum.elim (o3_0 n.1 n.2.1 n.2.2) (o3_1 n.1 n.2.1 n.2.2) r) (fun n x => s3 k n.1 n.2.1 n.2.2 x) k (fun d => ((aR (aN d.a 2)), (d.r.getD 0 []), (d.r.getD 1 []))) (fun d => (aI (aN d.a 3))) (fun d y h => out2_eval h) (fun d => by kernel_rfl) (fun n x => by kernel_rfl) (fun n r => by rcases r with r | r <;> exact ⟨_, rfl⟩)
theorem ok (k : Nat) : FunOk Try.prog 39 (d k) := fun_mk (C := C k) (hC k) (S := S k) Try.func39 (by kernel_rfl) (by kernel_rfl) (Loops.all (n := 1) (by kernel_rfl) ⟨trivial, l3 k⟩) (fun as_ => by kernel_rfl)
end ref36_first
namespace ref36_PodFits
noncomputable def C (k : Nat) : Cx := ⟨Try.prog, tab [(37, ref36_Against.d k), (38, ref36_near.d k), (12, ref36_Domain.d k), (39, ref36_first.d k)], [], []⟩
noncomputable def t3 : LoopT := ⟨⟨66, [], [(3, .ptr 3 0), (4, .ptr 4 0), (5, .ptr 5 0), (7, .bool), (8, .int .i64)], [], [(3, 58), (4, 40), (5, 46)], []⟩, (fun | .ret => some ⟨66, [], [(6, .int .i64)], [], [], []⟩ | .exit 0 => some ⟨66, [], [(7, .bool)], [], [], []⟩ | _ => none)⟩
noncomputable def s3 (k : Nat) (c0 : Row) (c1 : Row) (c2 : Row) (x : (Bool × Int)) : T ((Bool × Int) ⊕ (Int ⊕ Bool)) :=
  .test (iLt x.2 (rLen (rSl c1 20)))
   (.test (iIn x.2 (rLen (rSl c1 20)))
    (.test (bNot (rBool (rAt (rSl c1 20) x.2) 0))
     (.ret (.inl (x.1, (iAdd .i64 x.2 (1)))))
     (.bnd (ref36_near.f k (et 58 c0) (et 40 c1) (et 46 c2) (et 65 (rAt (rSl c1 20) x.2))).eval default fun r0 =>
     .test (rBool (rAt (rSl c1 20) x.2) 1)
      (.ret (.inl ((bIte x.1 true r0), (iAdd .i64 x.2 (1)))))
      (.bnd (ref36_Domain.f k (et 46 c2) (rStr (rAt (rSl c1 20) x.2) 3)).eval default fun r1 =>
      .opt (bAnd (bNot r0) (bNot (bNot r1.2))) (ref36_first.f k (et 58 c0) (et 40 c1) (et 65 (rAt (rSl c1 20) x.2))).eval default fun r2 =>
      .test (bIte (bNot r0) (bIte (bNot r1.2) true (bNot r2)) false)
       (.ret (.inr (.inl (8))))
       (.ret (.inl (x.1, (iAdd .i64 x.2 (1))))))))
    (.fail))
   (.ret (.inr (.inr x.1)))
noncomputable def a3 (c0 : Row) (c1 : Row) (c2 : Row) (x : (Bool × Int)) : Dt := ⟨[.u, .u, .u, .b x.1, .i x.2], [], [et 58 c0, et 40 c1, et 46 c2], []⟩
noncomputable def o3_0 (c0 : Row) (c1 : Row) (c2 : Row) (r : Int) : X × Dt := (.ret, ⟨[.i r], [], [], []⟩)
noncomputable def o3_1 (c0 : Row) (c1 : Row) (c2 : Row) (r : Bool) : X × Dt := (.exit 0, ⟨[.b r], [], [], []⟩)
noncomputable def e3 (k : Nat) (d : Dt) : T (X × Dt) := out2 (iter (s3 k (d.r.getD 0 []) (d.r.getD 1 []) (d.r.getD 2 [])) k ((aB (aN d.a 3)), (aI (aN d.a 4)))) (o3_0 (d.r.getD 0 []) (d.r.getD 1 []) (d.r.getD 2 [])) (o3_1 (d.r.getD 0 []) (d.r.getD 1 []) (d.r.getD 2 []))
noncomputable def S (k : Nat) : Subs := fun n => bif Nat.beq n 3 then some (loopV Try.prog t3 (e3 k)) else none
noncomputable def f (k : Nat) (a0 : Row) (a1 : Row) (a2 : Row) : T Int :=
  .bnd (ref36_Against.f k (et 58 a0) (et 40 a1) (et 46 a2)).eval default fun r0 =>
  .cas (iter (ref36_PodFits.s3 k (et 58 a0) (et 40 a1) (et 46 a2)) k (r0, (0))) (fun r1 =>
   .ret r1) (fun r2 =>
   .test r2
    (.ret (9))
    (.ret (0)))
noncomputable def d (k : Nat) : Fun := mkFun [58, 40, 46] (fun as_ => f k (vRow (vN as_ 0)) (vRow (vN as_ 1)) (vRow (vN as_ 2))) default (fun r => .int .i64 r)
theorem hC (k : Nat) : CxOk (C k) := CxOk.cons (p := (37, ref36_Against.d k)) (ref36_Against.ok k) (CxOk.cons (p := (38, ref36_near.d k)) (ref36_near.ok k) (CxOk.cons (p := (12, ref36_Domain.d k)) (ref36_Domain.ok k) (CxOk.cons (p := (39, ref36_first.d k)) (ref36_first.ok k) (CxOk.nil))))
theorem l3 (k : Nat) : LoopOk Try.prog (S k) (lp (bodyF Go.Proofs.Try.f17) 0) := loopOk_mk (C := C k) (hC k) (Loops.all (n := 0) (by kernel_rfl) trivial) (lt := t3) (den := e3 k) (by kernel_rfl) (N := (Row × Row × Row)) (A := (Bool × Int)) (R := (Int ⊕ Bool))
 (fun n x => a3 n.1 n.2.1 n.2.2 x) (fun n r => Sum.elim (o3_0 n.1 n.2.1 n.2.2) (o3_1 n.1 n.2.1 n.2.2) r) (fun n x => s3 k n.1 n.2.1 n.2.2 x) k (fun d => ((d.r.getD 0 []), (d.r.getD 1 []), (d.r.getD 2 []))) (fun d => ((aB (aN d.a 3)), (aI (aN d.a 4)))) (fun d y h => out2_eval h) (fun d => by kernel_rfl) (fun n x => by kernel_rfl) (fun n r => by rcases r with r | r <;> exact ⟨_, rfl⟩)
theorem ok (k : Nat) : FunOk Try.prog 17 (d k) := fun_mk (C := C k) (hC k) (S := S k) Try.func17 (by kernel_rfl) (by kernel_rfl) (Loops.all (n := 1) (by kernel_rfl) ⟨trivial, l3 k⟩) (fun as_ => by kernel_rfl)
end ref36_PodFits
namespace ref36_clamp
noncomputable def C (k : Nat) : Cx := ⟨Try.prog, tab [], [], []⟩
noncomputable def S (k : Nat) : Subs := fun n => none
noncomputable def f (k : Nat) (a0 : Int) : T Int :=
  .test (iLt a0 (-1000000000000000))
   (.ret (-1000000000000000))
   (.test (iLt (1000000000000000) a0)
    (.ret (1000000000000000))
    (.ret a0))
noncomputable def d (k : Nat) : Fun := mkFun [3] (fun as_ => f k (vInt (vN as_ 0))) default (fun r => .int .i64 r)
theorem hC (k : Nat) : CxOk (C k) := CxOk.nil
theorem ok (k : Nat) : FunOk Try.prog 41 (d k) := fun_mk (C := C k) (hC k) (S := S k) Try.func41 (by kernel_rfl) (by kernel_rfl) (Loops.all (n := 0) (by kernel_rfl) trivial) (fun as_ => by kernel_rfl)
end ref36_clamp
namespace ref36_Preference
noncomputable def C (k : Nat) : Cx := ⟨Try.prog, tab [(23, ref03_Matches.d k), (41, ref36_clamp.d k), (38, ref36_near.d k)], [], []⟩
noncomputable def t3 : LoopT := ⟨⟨80, [], [(3, .ptr 3 0), (4, .ptr 4 0), (5, .ptr 5 0), (7, .int .i64), (8, .int .i64)], [], [(3, 58), (4, 40), (5, 46)], []⟩, (fun | .exit 0 => some ⟨80, [], [(3, .ptr 3 0), (4, .ptr 4 0), (5, .ptr 5 0), (7, .int .i64)], [], [(3, 58), (4, 40), (5, 46)], []⟩ | _ => none)⟩
noncomputable def s3 (k : Nat) (c0 : Row) (c1 : Row) (c2 : Row) (x : (Int × Int)) : T ((Int × Int) ⊕ Int) :=
  .test (iLt x.2 (rLen (rSl c1 19)))
   (.test (iIn x.2 (rLen (rSl c1 19)))
    (.opt (bNot (rBool (rAt (rSl c1 19) x.2) 0)) (ref03_Matches.f k (rSl (rAt (rSl c1 19) x.2) 1) (rSl c2 9)).eval default fun r0 =>
    .test (bIte (bNot (rBool (rAt (rSl c1 19) x.2) 0)) r0 false)
     (.bnd (ref36_clamp.f k (rInt (rAt (rSl c1 19) x.2) 2)).eval default fun r1 =>
     .ret (.inl ((iAdd .i64 x.1 r1), (iAdd .i64 x.2 (1)))))
     (.ret (.inl (x.1, (iAdd .i64 x.2 (1))))))
    (.fail))
   (.ret (.inr x.1))
noncomputable def a3 (c0 : Row) (c1 : Row) (c2 : Row) (x : (Int × Int)) : Dt := ⟨[.u, .u, .u, .i x.1, .i x.2], [], [et 58 c0, et 40 c1, et 46 c2], []⟩
noncomputable def o3_0 (c0 : Row) (c1 : Row) (c2 : Row) (r : Int) : X × Dt := (.exit 0, ⟨[.u, .u, .u, .i r], [], [(et 58 c0), (et 40 c1), (et 46 c2)], []⟩)
noncomputable def e3 (k : Nat) (d : Dt) : T (X × Dt) := out1 (iter (s3 k (d.r.getD 0 []) (d.r.getD 1 []) (d.r.getD 2 [])) k ((aI (aN d.a 3)), (aI (aN d.a 4)))) default (o3_0 (d.r.getD 0 []) (d.r.getD 1 []) (d.r.getD 2 []))
noncomputable def t9 : LoopT := ⟨⟨80, [], [(3, .ptr 3 0), (4, .ptr 4 0), (5, .ptr 5 0), (7, .int .i64), (10, .int .i64)], [], [(3, 58), (4, 40), (5, 46)], []⟩, (fun | .exit 2 => some ⟨80, [], [(7, .int .i64)], [], [], []⟩ | _ => none)⟩
noncomputable def s9 (k : Nat) (c0 : Row) (c1 : Row) (c2 : Row) (x : (Int × Int)) : T ((Int × Int) ⊕ Int) :=
  .test (iLt x.2 (rLen (rSl c1 20)))
   (.test (iIn x.2 (rLen (rSl c1 20)))
    (.opt (bNot (rBool (rAt (rSl c1 20) x.2) 0)) (ref36_near.f k (et 58 c0) (et 40 c1) (et 46 c2) (et 65 (rAt (rSl c1 20) x.2))).eval default fun r0 =>
    .test (bIte (rBool (rAt (rSl c1 20) x.2) 0) true (bNot r0))
     (.ret (.inl (x.1, (iAdd .i64 x.2 (1)))))
     (.test (rBool (rAt (rSl c1 20) x.2) 1)
      (.bnd (ref36_clamp.f k (rInt (rAt (rSl c1 20) x.2) 4)).eval default fun r1 =>
      .ret (.inl ((iSub .i64 x.1 r1), (iAdd .i64 x.2 (1)))))
      (.bnd (ref36_clamp.f k (rInt (rAt (rSl c1 20) x.2) 4)).eval default fun r2 =>
      .ret (.inl ((iAdd .i64 x.1 r2), (iAdd .i64 x.2 (1)))))))
    (.fail))
   (.ret (.inr x.1))
noncomputable def a9 (c0 : Row) (c1 : Row) (c2 : Row) (x : (Int × Int)) : Dt := ⟨[.u, .u, .u, .i x.1, .i x.2], [], [et 58 c0, et 40 c1, et 46 c2], []⟩
noncomputable def o9_0 (c0 : Row) (c1 : Row) (c2 : Row) (r : Int) : X × Dt := (.exit 2, ⟨[.i r], [], [], []⟩)
noncomputable def e9 (k : Nat) (d : Dt) : T (X × Dt) := out1 (iter (s9 k (d.r.getD 0 []) (d.r.getD 1 []) (d.r.getD 2 [])) k ((aI (aN d.a 3)), (aI (aN d.a 4)))) default (o9_0 (d.r.getD 0 []) (d.r.getD 1 []) (d.r.getD 2 []))
noncomputable def S (k : Nat) : Subs := fun n => bif Nat.beq n 3 then some (loopV Try.prog t3 (e3 k)) else bif Nat.beq n 9 then some (loopV Try.prog t9 (e9 k)) else none
noncomputable def f (k : Nat) (a0 : Row) (a1 : Row) (a2 : Row) : T Int :=
  .bnd (iter (ref36_Preference.s3 k (et 58 a0) (et 40 a1) (et 46 a2)) k ((0), (0))) default fun r0 =>
  .bnd (iter (ref36_Preference.s9 k (et 58 a0) (et 40 a1) (et 46 a2)) k (r0, (0))) default fun r1 =>
  .bnd (ref36_clamp.f k r1).eval default fun r2 =>
  .ret r2
noncomputable def d (k : Nat) : Fun := mkFun [58, 40, 46] (fun as_ => f k (vRow (vN as_ 0)) (vRow (vN as_ 1)) (vRow (vN as_ 2))) default (fun r => .int .i64 r)
theorem hC (k : Nat) : CxOk (C k) := CxOk.cons (p := (23, ref03_Matches.d k)) (ref03_Matches.ok k) (CxOk.cons (p := (41, ref36_clamp.d k)) (ref36_clamp.ok k) (CxOk.cons (p := (38, ref36_near.d k)) (ref36_near.ok k) (CxOk.nil)))
theorem l3 (k : Nat) : LoopOk Try.prog (S k) (lp (bodyF Go.Proofs.Try.f19) 0) := loopOk_mk (C := C k) (hC k) (Loops.all (n := 0) (by kernel_rfl) trivial) (lt := t3) (den := e3 k) (by kernel_rfl) (N := (Row × Row × Row)) (A := (Int × Int)) (R := Int)
 (fun n x => a3 n.1 n.2.1 n.2.2 x) (fun n r => o3_0 n.1 n.2.1 n.2.2 r) (fun n x => s3 k n.1 n.2.1 n.2.2 x) k (fun d => ((d.r.getD 0 []), (d.r.getD 1 []), (d.r.getD 2 []))) (fun d => ((aI (aN d.a 3)), (aI (aN d.a 4)))) (fun d y h => out1_eval h) (fun d => by kernel_rfl) (fun n x => by kernel_rfl) (fun n r => ⟨_, rfl⟩)
theorem l9 (k : Nat) : LoopOk Try.prog (S k) (lp (bodyF Go.Proofs.Try.f19) 1) := loopOk_mk (C := C k) (hC k) (Loops.all (n := 0) (by kernel_rfl) trivial) (lt := t9) (den := e9 k) (by kernel_rfl) (N := (Row × Row × Row)) (A := (Int × Int)) (R := Int)
 (fun n x => a9 n.1 n.2.1 n.2.2 x) (fun n r => o9_0 n.1 n.2.1 n.2.2 r) (fun n x => s9 k n.1 n.2.1 n.2.2 x) k (fun d => ((d.r.getD 0 []), (d.r.getD 1 []), (d.r.getD 2 []))) (fun d => ((aI (aN d.a 3)), (aI (aN d.a 4)))) (fun d y h => out1_eval h) (fun d => by kernel_rfl) (fun n x => by kernel_rfl) (fun n r => ⟨_, rfl⟩)
theorem ok (k : Nat) : FunOk Try.prog 19 (d k) := fun_mk (C := C k) (hC k) (S := S k) Try.func19 (by kernel_rfl) (by kernel_rfl) (Loops.all (n := 2) (by kernel_rfl) ⟨⟨trivial, l3 k⟩, l9 k⟩) (fun as_ => by kernel_rfl)
end ref36_Preference
namespace law36_AffinityPods
noncomputable def C (k : Nat) : Cx := ⟨Try.prog, tab [(15, law36_SmallView.d k), (8, law36_SmallPod.d k), (9, law36_SmallNode.d k), (10, law36_lives.d k), (16, affinity_PodFits.d k), (17, ref36_PodFits.d k), (18, affinity_Preference.d k), (19, ref36_Preference.d k)], [], []⟩
noncomputable def S (k : Nat) : Subs := fun n => none
noncomputable def f (k : Nat) (a0 : Row) (a1 : Row) (a2 : Row) : T Bool :=
  .bnd (law36_SmallView.f k (et 58 a0)).eval default fun r0 =>
  .opt (bNot (bNot r0)) (law36_SmallPod.f k (et 40 a1)).eval default fun r1 =>
  .opt (bNot (bIte (bNot r0) true (bNot r1))) (law36_SmallNode.f k (et 46 a2)).eval default fun r2 =>
  .test (bIte (bIte (bNot r0) true (bNot r1)) true (bNot r2))
   (.bnd (law36_lives.f k).eval default fun r3 =>
   .ret r3)
   (.bnd (affinity_PodFits.f k (et 58 a0) (et 40 a1) (et 46 a2)).eval default fun r4 =>
   .bnd (ref36_PodFits.f k (et 58 a0) (et 40 a1) (et 46 a2)).eval default fun r5 =>
   .opt (iEq r4 r5) (affinity_Preference.f k (et 58 a0) (et 40 a1) (et 46 a2)).eval default fun r6 =>
   .opt (iEq r4 r5) (ref36_Preference.f k (et 58 a0) (et 40 a1) (et 46 a2)).eval default fun r7 =>
   .opt (bIte (iEq r4 r5) (iEq r6 r7) false) (law36_lives.f k).eval default fun r8 =>
   .ret (bIte (bIte (iEq r4 r5) (iEq r6 r7) false) r8 false))
noncomputable def d (k : Nat) : Fun := mkFun [58, 40, 46] (fun as_ => f k (vRow (vN as_ 0)) (vRow (vN as_ 1)) (vRow (vN as_ 2))) default (fun r => .bool r)
theorem hC (k : Nat) : CxOk (C k) := CxOk.cons (p := (15, law36_SmallView.d k)) (law36_SmallView.ok k) (CxOk.cons (p := (8, law36_SmallPod.d k)) (law36_SmallPod.ok k) (CxOk.cons (p := (9, law36_SmallNode.d k)) (law36_SmallNode.ok k) (CxOk.cons (p := (10, law36_lives.d k)) (law36_lives.ok k) (CxOk.cons (p := (16, affinity_PodFits.d k)) (affinity_PodFits.ok k) (CxOk.cons (p := (17, ref36_PodFits.d k)) (ref36_PodFits.ok k) (CxOk.cons (p := (18, affinity_Preference.d k)) (affinity_Preference.ok k) (CxOk.cons (p := (19, ref36_Preference.d k)) (ref36_Preference.ok k) (CxOk.nil))))))))
theorem ok (k : Nat) : FunOk Try.prog 4 (d k) := fun_mk (C := C k) (hC k) (S := S k) Try.func4 (by kernel_rfl) (by kernel_rfl) (Loops.all (n := 0) (by kernel_rfl) trivial) (fun as_ => by kernel_rfl)
end law36_AffinityPods
namespace law36_violated
noncomputable def C (k : Nat) : Cx := ⟨Try.prog, tab [(30, ref03_Get.d k), (23, ref03_Matches.d k)], [], []⟩
noncomputable def t2 : LoopT := ⟨⟨76, [], [(4, .ptr 4 0), (5, .ptr 5 0), (6, .ptr 6 0), (7, .ptr 7 0), (17, .sl 65 none), (18, .int .i64), (19, .int .i64)], [], [(4, 40), (5, 40), (6, 46), (7, 46)], []⟩, (fun | .ret => some ⟨76, [], [(8, .bool)], [], [], []⟩ | .exit 0 => some ⟨76, [], [], [], [], []⟩ | _ => none)⟩
noncomputable def s2 (k : Nat) (c0 : Rows) (c1 : Int) (c2 : Row) (c3 : Row) (c4 : Row) (c5 : Row) (x : Int) : T (Int ⊕ (Bool ⊕ Unit)) :=
  .test (iLt x c1)
   (.test (iIn x (rLen c0))
    (.bnd (ref03_Get.f k (rSl c4 9) (rStr (rAt c0 x) 3)).eval default fun r0 =>
    .bnd (ref03_Get.f k (rSl c5 9) (rStr (rAt c0 x) 3)).eval default fun r1 =>
    .opt (bIte (bIte (bIte (bIte (bIte (rBool (rAt c0 x) 0) (rBool (rAt c0 x) 1) false) (sEq (rStr c2 1) (rStr c3 1)) false) r0.2 false) r1.2 false) (sEq r0.1 r1.1) false) (ref03_Matches.f k (rSl (rAt c0 x) 2) (rSl c3 9)).eval default fun r2 =>
    .test (bIte (bIte (bIte (bIte (bIte (bIte (rBool (rAt c0 x) 0) (rBool (rAt c0 x) 1) false) (sEq (rStr c2 1) (rStr c3 1)) false) r0.2 false) r1.2 false) (sEq r0.1 r1.1) false) r2 false)
     (.ret (.inr (.inl true)))
     (.ret (.inl (iAdd .i64 x (1)))))
    (.fail))
   (.ret (.inr (.inr ())))
noncomputable def a2 (c0 : Rows) (c1 : Int) (c2 : Row) (c3 : Row) (c4 : Row) (c5 : Row) (x : Int) : Dt := ⟨[.u, .u, .u, .u, .r c0, .i c1, .i x], [], [et 40 c2, et 40 c3, et 46 c4, et 46 c5], []⟩
noncomputable def o2_0 (c0 : Rows) (c1 : Int) (c2 : Row) (c3 : Row) (c4 : Row) (c5 : Row) (r : Bool) : X × Dt := (.ret, ⟨[.b r], [], [], []⟩)
noncomputable def o2_1 (c0 : Rows) (c1 : Int) (c2 : Row) (c3 : Row) (c4 : Row) (c5 : Row) (r : Unit) : X × Dt := (.exit 0, ⟨[], [], [], []⟩)
noncomputable def e2 (k : Nat) (d : Dt) : T (X × Dt) := out2 (iter (s2 k (aR (aN d.a 4)) (aI (aN d.a 5)) (d.r.getD 0 []) (d.r.getD 1 []) (d.r.getD 2 []) (d.r.getD 3 [])) k (aI (aN d.a 6))) (o2_0 (aR (aN d.a 4)) (aI (aN d.a 5)) (d.r.getD 0 []) (d.r.getD 1 []) (d.r.getD 2 []) (d.r.getD 3 [])) (o2_1 (aR (aN d.a 4)) (aI (aN d.a 5)) (d.r.getD 0 []) (d.r.getD 1 []) (d.r.getD 2 []) (d.r.getD 3 []))
noncomputable def S (k : Nat) : Subs := fun n => bif Nat.beq n 2 then some (loopV Try.prog t2 (e2 k)) else none
noncomputable def f (k : Nat) (a0 : Row) (a1 : Row) (a2 : Row) (a3 : Row) : T Bool :=
  .cas (iter (law36_violated.s2 k (rSl a0 20) (rLen (rSl a0 20)) (et 40 a0) (et 40 a1) (et 46 a2) (et 46 a3)) k (0)) (fun r0 =>
   .ret r0) (fun r1 =>
   .ret false)
noncomputable def d (k : Nat) : Fun := mkFun [40, 40, 46, 46] (fun as_ => f k (vRow (vN as_ 0)) (vRow (vN as_ 1)) (vRow (vN as_ 2)) (vRow (vN as_ 3))) default (fun r => .bool r)
theorem hC (k : Nat) : CxOk (C k) := CxOk.cons (p := (30, ref03_Get.d k)) (ref03_Get.ok k) (CxOk.cons (p := (23, ref03_Matches.d k)) (ref03_Matches.ok k) (CxOk.nil))
theorem l2 (k : Nat) : LoopOk Try.prog (S k) (lp (bodyF Go.Proofs.Try.f21) 0) := loopOk_mk (C := C k) (hC k) (Loops.all (n := 0) (by kernel_rfl) trivial) (lt := t2) (den := e2 k) (by kernel_rfl) (N := (Rows × Int × Row × Row × Row × Row)) (A := Int) (R := (Bool ⊕ Unit))
 (fun n x => a2 n.1 n.2.1 n.2.2.1 n.2.2.2.1 n.2.2.2.2.1 n.2.2.2.2.2 x) (fun n r => Sum.elim (o2_0 n.1 n.2.1 n.2.2.1 n.2.2.2.1 n.2.2.2.2.1 n.2.2.2.2.2) (o2_1 n.1 n.2.1 n.2.2.1 n.2.2.2.1 n.2.2.2.2.1 n.2.2.2.2.2) r) (fun n x => s2 k n.1 n.2.1 n.2.2.1 n.2.2.2.1 n.2.2.2.2.1 n.2.2.2.2.2 x) k (fun d => ((aR (aN d.a 4)), (aI (aN d.a 5)), (d.r.getD 0 []), (d.r.getD 1 []), (d.r.getD 2 []), (d.r.getD 3 []))) (fun d => (aI (aN d.a 6))) (fun d y h => out2_eval h) (fun d => by kernel_rfl) (fun n x => by kernel_rfl) (fun n r => by rcases r with r | r <;> exact ⟨_, rfl⟩)
theorem ok (k : Nat) : FunOk Try.prog 21 (d k) := fun_mk (C := C k) (hC k) (S := S k) Try.func21 (by kernel_rfl) (by kernel_rfl) (Loops.all (n := 1) (by kernel_rfl) ⟨trivial, l2 k⟩) (fun as_ => by kernel_rfl)
end law36_violated
namespace law36_AffinitySymmetry
noncomputable def C (k : Nat) : Cx := ⟨Try.prog, tab [(15, law36_SmallView.d k), (8, law36_SmallPod.d k), (9, law36_SmallNode.d k), (16, affinity_PodFits.d k), (10, law36_lives.d k), (20, ref13_KeyOf.d k), (21, law36_violated.d k)], [], []⟩
noncomputable def t8 : LoopT := ⟨⟨87, [], [(3, .ptr 3 0), (4, .ptr 4 0), (5, .ptr 5 0), (8, .ptr 8 0), (33, .sl 40 none), (34, .int .i64), (35, .int .i64), (59, .sl 46 none), (60, .int .i64), (61, .int .i64)], [], [(3, 58), (4, 40), (5, 46), (8, 40)], []⟩, (fun | .ret => some ⟨87, [], [(6, .bool)], [], [], []⟩ | .exit 2 => some ⟨87, [], [(3, .ptr 3 0), (4, .ptr 4 0), (5, .ptr 5 0), (33, .sl 40 none), (34, .int .i64), (35, .int .i64)], [], [(3, 58), (4, 40), (5, 46)], []⟩ | _ => none)⟩
noncomputable def s8 (k : Nat) (c0 : Rows) (c1 : Int) (c2 : Int) (c3 : Rows) (c4 : Int) (c5 : Row) (c6 : Row) (c7 : Row) (c8 : Row) (x : Int) : T (Int ⊕ (Bool ⊕ Unit)) :=
  .test (iLt x c4)
   (.test (iIn x (rLen c3))
    (.test (sEq (rStr (rAt c3 x) 2) (rStr c8 13))
     (.bnd (law36_violated.f k (et 40 c6) (et 40 c8) (et 46 c7) (et 46 (rAt c3 x))).eval default fun r0 =>
     .opt (bNot r0) (law36_violated.f k (et 40 c8) (et 40 c6) (et 46 (rAt c3 x)) (et 46 c7)).eval default fun r1 =>
     .test (bIte r0 true r1)
      (.ret (.inr (.inl false)))
      (.ret (.inr (.inr ()))))
     (.ret (.inl (iAdd .i64 x (1)))))
    (.fail))
   (.ret (.inr (.inr ())))
noncomputable def a8 (c0 : Rows) (c1 : Int) (c2 : Int) (c3 : Rows) (c4 : Int) (c5 : Row) (c6 : Row) (c7 : Row) (c8 : Row) (x : Int) : Dt := ⟨[.u, .u, .u, .u, .r c0, .i c1, .i c2, .r c3, .i c4, .i x], [], [et 58 c5, et 40 c6, et 46 c7, et 40 c8], []⟩
noncomputable def o8_0 (c0 : Rows) (c1 : Int) (c2 : Int) (c3 : Rows) (c4 : Int) (c5 : Row) (c6 : Row) (c7 : Row) (c8 : Row) (r : Bool) : X × Dt := (.ret, ⟨[.b r], [], [], []⟩)
noncomputable def o8_1 (c0 : Rows) (c1 : Int) (c2 : Int) (c3 : Rows) (c4 : Int) (c5 : Row) (c6 : Row) (c7 : Row) (c8 : Row) (r : Unit) : X × Dt := (.exit 2, ⟨[.u, .u, .u, .r c0, .i c1, .i c2], [], [(et 58 c5), (et 40 c6), (et 46 c7)], []⟩)
noncomputable def e8 (k : Nat) (d : Dt) : T (X × Dt) := out2 (iter (s8 k (aR (aN d.a 4)) (aI (aN d.a 5)) (aI (aN d.a 6)) (aR (aN d.a 7)) (aI (aN d.a 8)) (d.r.getD 0 []) (d.r.getD 1 []) (d.r.getD 2 []) (d.r.getD 3 [])) k (aI (aN d.a 9))) (o8_0 (aR (aN d.a 4)) (aI (aN d.a 5)) (aI (aN d.a 6)) (aR (aN d.a 7)) (aI (aN d.a 8)) (d.r.getD 0 []) (d.r.getD 1 []) (d.r.getD 2 []) (d.r.getD 3 [])) (o8_1 (aR (aN d.a 4)) (aI (aN d.a 5)) (aI (aN d.a 6)) (aR (aN d.a 7)) (aI (aN d.a 8)) (d.r.getD 0 []) (d.r.getD 1 []) (d.r.getD 2 []) (d.r.getD 3 []))
noncomputable def t4 : LoopT := ⟨⟨87, [], [(3, .ptr 3 0), (4, .ptr 4 0), (5, .ptr 5 0), (33, .sl 40 none), (34, .int .i64), (35, .int .i64)], [], [(3, 58), (4, 40), (5, 46)], []⟩, (fun | .ret => some ⟨87, [], [(6, .bool)], [], [], []⟩ | .exit 0 => some ⟨87, [], [], [], [], []⟩ | _ => none)⟩
noncomputable def s4 (k : Nat) (c0 : Rows) (c1 : Int) (c2 : Row) (c3 : Row) (c4 : Row) (x : Int) : T (Int ⊕ (Bool ⊕ Unit)) :=
  .test (iLt x c1)
   (.test (iIn x (rLen c0))
    (.bnd (ref13_KeyOf.f k (et 27 (rAt c0 x))).eval default fun r0 =>
    .bnd (ref13_KeyOf.f k (et 27 c3)).eval default fun r1 =>
    .test (bIte (sEq r0 r1) true (bIte (bNot (iEq (rInt (rAt c0 x) 23) (0))) (bNot (iEq (rInt (rAt c0 x) 23) (1))) false))
     (.ret (.inl (iAdd .i64 x (1))))
     (.cas (iter (law36_AffinitySymmetry.s8 k c0 c1 x (rSl c2 0) (rLen (rSl c2 0)) (et 58 c2) (et 40 c3) (et 46 c4) (et 40 (rAt c0 x))) k (0)) (fun r2 =>
      .ret (.inr (.inl r2))) (fun r3 =>
      .ret (.inl (iAdd .i64 x (1))))))
    (.fail))
   (.ret (.inr (.inr ())))
noncomputable def a4 (c0 : Rows) (c1 : Int) (c2 : Row) (c3 : Row) (c4 : Row) (x : Int) : Dt := ⟨[.u, .u, .u, .r c0, .i c1, .i x], [], [et 58 c2, et 40 c3, et 46 c4], []⟩
noncomputable def o4_0 (c0 : Rows) (c1 : Int) (c2 : Row) (c3 : Row) (c4 : Row) (r : Bool) : X × Dt := (.ret, ⟨[.b r], [], [], []⟩)
noncomputable def o4_1 (c0 : Rows) (c1 : Int) (c2 : Row) (c3 : Row) (c4 : Row) (r : Unit) : X × Dt := (.exit 0, ⟨[], [], [], []⟩)
noncomputable def e4 (k : Nat) (d : Dt) : T (X × Dt) := out2 (iter (s4 k (aR (aN d.a 3)) (aI (aN d.a 4)) (d.r.getD 0 []) (d.r.getD 1 []) (d.r.getD 2 [])) k (aI (aN d.a 5))) (o4_0 (aR (aN d.a 3)) (aI (aN d.a 4)) (d.r.getD 0 []) (d.r.getD 1 []) (d.r.getD 2 [])) (o4_1 (aR (aN d.a 3)) (aI (aN d.a 4)) (d.r.getD 0 []) (d.r.getD 1 []) (d.r.getD 2 []))
noncomputable def S (k : Nat) : Subs := fun n => bif Nat.beq n 8 then some (loopV Try.prog t8 (e8 k)) else bif Nat.beq n 4 then some (loopV Try.prog t4 (e4 k)) else none
noncomputable def f (k : Nat) (a0 : Row) (a1 : Row) (a2 : Row) : T Bool :=
  .bnd (law36_SmallView.f k (et 58 a0)).eval default fun r0 =>
  .opt (bNot (bNot r0)) (law36_SmallPod.f k (et 40 a1)).eval default fun r1 =>
  .opt (bNot (bIte (bNot r0) true (bNot r1))) (law36_SmallNode.f k (et 46 a2)).eval default fun r2 =>
  .opt (bNot (bIte (bIte (bNot r0) true (bNot r1)) true (bNot r2))) (affinity_PodFits.f k (et 58 a0) (et 40 a1) (et 46 a2)).eval default fun r3 =>
  .test (bIte (bIte (bIte (bNot r0) true (bNot r1)) true (bNot r2)) true (bNot (iEq r3 (0))))
   (.bnd (law36_lives.f k).eval default fun r4 =>
   .ret r4)
   (.cas (iter (law36_AffinitySymmetry.s4 k (rSl a0 1) (rLen (rSl a0 1)) (et 58 a0) (et 40 a1) (et 46 a2)) k (0)) (fun r5 =>
    .ret r5) (fun r6 =>
    .bnd (law36_lives.f k).eval default fun r7 =>
    .ret r7))
noncomputable def d (k : Nat) : Fun := mkFun [58, 40, 46] (fun as_ => f k (vRow (vN as_ 0)) (vRow (vN as_ 1)) (vRow (vN as_ 2))) default (fun r => .bool r)
theorem hC (k : Nat) : CxOk (C k) := CxOk.cons (p := (15, law36_SmallView.d k)) (law36_SmallView.ok k) (CxOk.cons (p := (8, law36_SmallPod.d k)) (law36_SmallPod.ok k) (CxOk.cons (p := (9, law36_SmallNode.d k)) (law36_SmallNode.ok k) (CxOk.cons (p := (16, affinity_PodFits.d k)) (affinity_PodFits.ok k) (CxOk.cons (p := (10, law36_lives.d k)) (law36_lives.ok k) (CxOk.cons (p := (20, ref13_KeyOf.d k)) (ref13_KeyOf.ok k) (CxOk.cons (p := (21, law36_violated.d k)) (law36_violated.ok k) (CxOk.nil)))))))
theorem l8 (k : Nat) : LoopOk Try.prog (S k) (lp (lp (bodyF Go.Proofs.Try.f5) 0) 0) := loopOk_mk (C := C k) (hC k) (Loops.all (n := 0) (by kernel_rfl) trivial) (lt := t8) (den := e8 k) (by kernel_rfl) (N := (Rows × Int × Int × Rows × Int × Row × Row × Row × Row)) (A := Int) (R := (Bool ⊕ Unit))
 (fun n x => a8 n.1 n.2.1 n.2.2.1 n.2.2.2.1 n.2.2.2.2.1 n.2.2.2.2.2.1 n.2.2.2.2.2.2.1 n.2.2.2.2.2.2.2.1 n.2.2.2.2.2.2.2.2 x) (fun n r => Sum.elim (o8_0 n.1 n.2.1 n.2.2.1 n.2.2.2.1 n.2.2.2.2.1 n.2.2.2.2.2.1 n.2.2.2.2.2.2.1 n.2.2.2.2.2.2.2.1 n.2.2.2.2.2.2.2.2) (o8_1 n.1 n.2.1 n.2.2.1 n.2.2.2.1 n.2.2.2.2.1 n.2.2.2.2.2.1 n.2.2.2.2.2.2.1 n.2.2.2.2.2.2.2.1 n.2.2.2.2.2.2.2.2) r) (fun n x => s8 k n.1 n.2.1 n.2.2.1 n.2.2.2.1 n.2.2.2.2.1 n.2.2.2.2.2.1 n.2.2.2.2.2.2.1 n.2.2.2.2.2.2.2.1 n.2.2.2.2.2.2.2.2 x) k (fun d => ((aR (aN d.a 4)), (aI (aN d.a 5)), (aI (aN d.a 6)), (aR (aN d.a 7)), (aI (aN d.a 8)), (d.r.getD 0 []), (d.r.getD 1 []), (d.r.getD 2 []), (d.r.getD 3 []))) (fun d => (aI (aN d.a 9))) (fun d y h => out2_eval h) (fun d => by kernel_rfl) (fun n x => by kernel_rfl) (fun n r => by rcases r with r | r <;> exact ⟨_, rfl⟩)
theorem l4 (k : Nat) : LoopOk Try.prog (S k) (lp (bodyF Go.Proofs.Try.f5) 0) := loopOk_mk (C := C k) (hC k) (Loops.all (n := 1) (by kernel_rfl) ⟨trivial, l8 k⟩) (lt := t4) (den := e4 k) (by kernel_rfl) (N := (Rows × Int × Row × Row × Row)) (A := Int) (R := (Bool ⊕ Unit))
 (fun n x => a4 n.1 n.2.1 n.2.2.1 n.2.2.2.1 n.2.2.2.2 x) (fun n r => Sum.elim (o4_0 n.1 n.2.1 n.2.2.1 n.2.2.2.1 n.2.2.2.2) (o4_1 n.1 n.2.1 n.2.2.1 n.2.2.2.1 n.2.2.2.2) r) (fun n x => s4 k n.1 n.2.1 n.2.2.1 n.2.2.2.1 n.2.2.2.2 x) k (fun d => ((aR (aN d.a 3)), (aI (aN d.a 4)), (d.r.getD 0 []), (d.r.getD 1 []), (d.r.getD 2 []))) (fun d => (aI (aN d.a 5))) (fun d y h => out2_eval h) (fun d => by kernel_rfl) (fun n x => by kernel_rfl) (fun n r => by rcases r with r | r <;> exact ⟨_, rfl⟩)
theorem ok (k : Nat) : FunOk Try.prog 5 (d k) := fun_mk (C := C k) (hC k) (S := S k) Try.func5 (by kernel_rfl) (by kernel_rfl) (Loops.all (n := 1) (by kernel_rfl) ⟨trivial, l4 k⟩) (fun as_ => by kernel_rfl)
end law36_AffinitySymmetry
namespace law36_AffinityTerms
noncomputable def C (k : Nat) : Cx := ⟨Try.prog, tab [(15, law36_SmallView.d k), (8, law36_SmallPod.d k), (9, law36_SmallNode.d k), (22, ref03_ValidSelector.d k), (10, law36_lives.d k), (16, affinity_PodFits.d k), (13, affinity_NodeFits.d k), (23, ref03_Matches.d k)], [], []⟩
noncomputable def t10 : LoopT := ⟨⟨87, [], [(6, .ptr 6 0), (68, .sl 68 none), (69, .int .i64), (70, .int .i64)], [], [(6, 46)], []⟩, (fun | .ret => some ⟨87, [], [(8, .bool)], [], [], []⟩ | .exit 0 => some ⟨87, [], [], [], [], []⟩ | _ => none)⟩
noncomputable def s10 (k : Nat) (c0 : Rows) (c1 : Int) (c2 : Row) (x : Int) : T (Int ⊕ (Bool ⊕ Unit)) :=
  .test (iLt x c1)
   (.test (iIn x (rLen c0))
    (.opt (rBool (rAt c0 x) 0) (ref03_Matches.f k (rSl (rAt c0 x) 1) (rSl c2 9)).eval default fun r0 =>
    .test (bIte (rBool (rAt c0 x) 0) (bNot r0) false)
     (.ret (.inr (.inl false)))
     (.ret (.inl (iAdd .i64 x (1)))))
    (.fail))
   (.ret (.inr (.inr ())))
noncomputable def a10 (c0 : Rows) (c1 : Int) (c2 : Row) (x : Int) : Dt := ⟨[.u, .r c0, .i c1, .i x], [], [et 46 c2], []⟩
noncomputable def o10_0 (c0 : Rows) (c1 : Int) (c2 : Row) (r : Bool) : X × Dt := (.ret, ⟨[.b r], [], [], []⟩)
noncomputable def o10_1 (c0 : Rows) (c1 : Int) (c2 : Row) (r : Unit) : X × Dt := (.exit 0, ⟨[], [], [], []⟩)
noncomputable def e10 (k : Nat) (d : Dt) : T (X × Dt) := out2 (iter (s10 k (aR (aN d.a 1)) (aI (aN d.a 2)) (d.r.getD 0 [])) k (aI (aN d.a 3))) (o10_0 (aR (aN d.a 1)) (aI (aN d.a 2)) (d.r.getD 0 [])) (o10_1 (aR (aN d.a 1)) (aI (aN d.a 2)) (d.r.getD 0 []))
noncomputable def S (k : Nat) : Subs := fun n => bif Nat.beq n 10 then some (loopV Try.prog t10 (e10 k)) else none
noncomputable def f (k : Nat) (a0 : Row) (a1 : Row) (a2 : Row) (a3 : Row) : T Bool :=
  .bnd (law36_SmallView.f k (et 58 a0)).eval default fun r0 =>
  .opt (bNot (bNot r0)) (law36_SmallPod.f k (et 40 a1)).eval default fun r1 =>
  .opt (bNot (bIte (bNot r0) true (bNot r1))) (law36_SmallNode.f k (et 46 a2)).eval default fun r2 =>
  .opt (bNot (bIte (bIte (bIte (bNot r0) true (bNot r1)) true (bNot r2)) true (iLt (20) (rLen (rSl a3 2))))) (ref03_ValidSelector.f k (rSl a3 2)).eval default fun r3 =>
  .test (bIte (bIte (bIte (bIte (bNot r0) true (bNot r1)) true (bNot r2)) true (iLt (20) (rLen (rSl a3 2)))) true (bNot r3))
   (.bnd (law36_lives.f k).eval default fun r4 =>
   .ret r4)
   (.test (rOk 56 (rLen []) (rLen (rSl a1 20)))
    (.test (rOk 56 (rLen (rCat [] (rSl a1 20))) (rLen [[.bool true, .bool (rBool a3 1), .slice 94 (rSl a3 2) .open, .str (rStr a3 3), .int .i64 (rInt a3 4)]]))
     (.bnd (affinity_PodFits.f k (et 58 a0) [.str (rStr a1 0), .str (rStr a1 1), .str (rStr a1 2), .int .i64 (rInt a1 3), .int .i64 (rInt a1 4), .int .i64 (rInt a1 5), .int .i64 (rInt a1 6), .bool (rBool a1 7), .int .i64 (rInt a1 8), .slice 105 (rSl a1 9) .open, .slice 107 (rSl a1 10) .open, .slice 9 (rSl a1 11) .open, .slice 109 (rSl a1 12) .open, .str (rStr a1 13), .int .i64 (rInt a1 14), .int .i64 (rInt a1 15), .int .i64 (rInt a1 16), .slice 137 (rSl a1 17) .open, .slice 94 (rSl a1 18) .open, .slice 68 (rSl a1 19) .open, .slice 65 (rCat (rCat [] (rSl a1 20)) [[.bool true, .bool (rBool a3 1), .slice 94 (rSl a3 2) .open, .str (rStr a3 3), .int .i64 (rInt a3 4)]]) .open, .slice 143 (rSl a1 21) .open, .slice 145 (rSl a1 22) .open, .int .i64 (rInt a1 23), .bool (rBool a1 24), .int .i64 (rInt a1 25), .int .i64 (rInt a1 26), .int .i64 (rInt a1 27), .slice 147 (rSl a1 28) .open, .int .i64 (rInt a1 29), .str (rStr a1 30), .str (rStr a1 31)] (et 46 a2)).eval default fun r5 =>
     .opt (iEq r5 (0)) (affinity_PodFits.f k (et 58 a0) (et 40 a1) (et 46 a2)).eval default fun r6 =>
     .test (bIte (iEq r5 (0)) (bNot (iEq r6 (0))) false)
      (.ret false)
      (.bnd (affinity_NodeFits.f k (eo 35 a1 13) (et 46 a2)).eval default fun r7 =>
      .test r7
       (.cas (iter (law36_AffinityTerms.s10 k (rSl a1 19) (rLen (rSl a1 19)) (et 46 a2)) k (0)) (fun r8 =>
        .ret r8) (fun r9 =>
        .bnd (law36_lives.f k).eval default fun r10 =>
        .ret r10))
       (.bnd (law36_lives.f k).eval default fun r11 =>
       .ret r11)))
     (.fail))
    (.fail))
noncomputable def d (k : Nat) : Fun := mkFun [58, 40, 46, 65] (fun as_ => f k (vRow (vN as_ 0)) (vRow (vN as_ 1)) (vRow (vN as_ 2)) (vRow (vN as_ 3))) default (fun r => .bool r)
theorem hC (k : Nat) : CxOk (C k) := CxOk.cons (p := (15, law36_SmallView.d k)) (law36_SmallView.ok k) (CxOk.cons (p := (8, law36_SmallPod.d k)) (law36_SmallPod.ok k) (CxOk.cons (p := (9, law36_SmallNode.d k)) (law36_SmallNode.ok k) (CxOk.cons (p := (22, ref03_ValidSelector.d k)) (ref03_ValidSelector.ok k) (CxOk.cons (p := (10, law36_lives.d k)) (law36_lives.ok k) (CxOk.cons (p := (16, affinity_PodFits.d k)) (affinity_PodFits.ok k) (CxOk.cons (p := (13, affinity_NodeFits.d k)) (affinity_NodeFits.ok k) (CxOk.cons (p := (23, ref03_Matches.d k)) (ref03_Matches.ok k) (CxOk.nil))))))))
theorem l10 (k : Nat) : LoopOk Try.prog (S k) (lp (bodyF Go.Proofs.Try.f7) 0) := loopOk_mk (C := C k) (hC k) (Loops.all (n := 0) (by kernel_rfl) trivial) (lt := t10) (den := e10 k) (by kernel_rfl) (N := (Rows × Int × Row)) (A := Int) (R := (Bool ⊕ Unit))
 (fun n x => a10 n.1 n.2.1 n.2.2 x) (fun n r => Sum.elim (o10_0 n.1 n.2.1 n.2.2) (o10_1 n.1 n.2.1 n.2.2) r) (fun n x => s10 k n.1 n.2.1 n.2.2 x) k (fun d => ((aR (aN d.a 1)), (aI (aN d.a 2)), (d.r.getD 0 []))) (fun d => (aI (aN d.a 3))) (fun d y h => out2_eval h) (fun d => by kernel_rfl) (fun n x => by kernel_rfl) (fun n r => by rcases r with r | r <;> exact ⟨_, rfl⟩)
theorem ok (k : Nat) : FunOk Try.prog 7 (d k) := fun_mk (C := C k) (hC k) (S := S k) Try.func7 (by kernel_rfl) (by kernel_rfl) (Loops.all (n := 1) (by kernel_rfl) ⟨trivial, l10 k⟩) (fun as_ => by kernel_rfl)
end law36_AffinityTerms
end Go.Proofs.Ytcfaaeipgmokfaa.Ev
