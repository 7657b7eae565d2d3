/- Go functions as Lean functions, printed by a program of this claim's author; each with its proof. Conditions: stated at each. -/
import Derived.Test.YtolackmpfnndhaaGreatDoorE1
import Derived.Test.YtolackmpfnndhaaGreatDoorProg
namespace Go.Proofs.YtolackmpfnndhaaGreatDoor.Ev
open Go
set_option linter.unusedVariables false
set_option maxRecDepth 100000
namespace law47_StatefulsetCounts
noncomputable def C (k : Nat) : Cx := ⟨Tryz.prog, tab [(8, law47_heavy.d k), (9, law47_lv.d k), (16, statefulset_Status.d k), (17, ref47_Status.d k)], [], [], tab []⟩
noncomputable def S (k : Nat) : Subs := fun n => none
noncomputable def f (k : Nat) (a0 : Row) (a1 : Rows) (a2 : Int) : T Bool :=
  .bnd (law47_heavy.f k (et 41 a0) a1).eval default fun r0 =>
  .test r0
   (.bnd (law47_lv.f k).eval default fun r1 =>
   .ret r1)
   (.bnd (statefulset_Status.f k (et 41 a0) a1 a2).eval default fun r2 =>
   .bnd (ref47_Status.f k (et 41 a0) a1 a2).eval default fun r3 =>
   .opt (bAnd (iEq (rInt r2 0) (rInt r3 0)) (bAnd (iEq (rInt r2 1) (rInt r3 1)) (bAnd (iEq (rInt r2 2) (rInt r3 2)) (bAnd (iEq (rInt r2 3) (rInt r3 3)) (bAnd (iEq (rInt r2 4) (rInt r3 4)) (bAnd (iEq (rInt r2 5) (rInt r3 5)) (bEq (rBool r2 6) (rBool r3 6)))))))) (law47_lv.f k).eval default fun r4 =>
   .ret (bIte (bAnd (iEq (rInt r2 0) (rInt r3 0)) (bAnd (iEq (rInt r2 1) (rInt r3 1)) (bAnd (iEq (rInt r2 2) (rInt r3 2)) (bAnd (iEq (rInt r2 3) (rInt r3 3)) (bAnd (iEq (rInt r2 4) (rInt r3 4)) (bAnd (iEq (rInt r2 5) (rInt r3 5)) (bEq (rBool r2 6) (rBool r3 6)))))))) r4 false))
noncomputable def d (k : Nat) : Fun := mkFun [41, 42, 3] (fun as_ => f k (vRow (vN as_ 0)) (vRows (vN as_ 1)) (vInt (vN as_ 2))) default (fun r => .bool r)
theorem hC (k : Nat) : CxOk (C k) := CxOk.cons (p := (8, law47_heavy.d k)) (law47_heavy.ok k) (CxOk.cons (p := (9, law47_lv.d k)) (law47_lv.ok k) (CxOk.cons (p := (16, statefulset_Status.d k)) (statefulset_Status.ok k) (CxOk.cons (p := (17, ref47_Status.d k)) (ref47_Status.ok k) (CxOk.nil))))
theorem ok (k : Nat) : FunOk Tryz.prog 4 (d k) := fun_mk (C := C k) (hC k) (S := S k) Tryz.func4 (by kernel_rfl) (by kernel_rfl) (Loops.all (n := 0) (by kernel_rfl) trivial) (fun as_ => by kernel_rfl)
end law47_StatefulsetCounts
end Go.Proofs.YtolackmpfnndhaaGreatDoor.Ev
