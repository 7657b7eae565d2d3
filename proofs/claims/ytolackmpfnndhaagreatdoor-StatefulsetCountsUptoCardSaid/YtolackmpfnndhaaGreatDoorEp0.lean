/- Go functions as Lean functions, printed by a program of this claim's author; each with its proof. Conditions: stated at each. -/
import Derived.Test.YtolackmpfnndhaaGreatDoorE1
import Derived.Test.YtolackmpfnndhaaGreatDoorProg
namespace Go.Proofs.YtolackmpfnndhaaGreatDoor.Ev
open Go
set_option linter.unusedVariables false
set_option maxRecDepth 100000
namespace law47_StatefulsetPlans
noncomputable def C (k : Nat) : Cx := ⟨Tryz.prog, tab [(8, law47_heavy.d k), (9, law47_lv.d k), (10, statefulset_Plan.d k), (11, ref47_Plan.d k), (12, law47_ints.d k), (13, ref13_SameStrings.d k), (14, statefulset_Name.d k), (15, ref47_Name.d k)], [], [], tab []⟩
noncomputable def S (k : Nat) : Subs := fun n => none
noncomputable def f (k : Nat) (a0 : Row) (a1 : Rows) (a2 : Int) (a3 : Int) : T Bool :=
  .bnd (law47_heavy.f k (et 41 a0) a1).eval default fun r0 =>
  .test r0
   (.bnd (law47_lv.f k).eval default fun r1 =>
   .ret r1)
   (.bnd (statefulset_Plan.f k (et 41 a0) a1 a2).eval default fun r2 =>
   .bnd (ref47_Plan.f k (et 41 a0) a1 a2).eval default fun r3 =>
   .bnd (law47_ints.f k r2.1 r3.1).eval default fun r4 =>
   .opt r4 (ref13_SameStrings.f k r2.2 r3.2).eval default fun r5 =>
   .opt (bIte r4 r5 false) (statefulset_Name.f k (et 41 a0) a3).eval default fun r6 =>
   .opt (bIte r4 r5 false) (ref47_Name.f k (et 41 a0) a3).eval default fun r7 =>
   .opt (bIte (bIte r4 r5 false) (sEq r6 r7) false) (law47_lv.f k).eval default fun r8 =>
   .ret (bIte (bIte (bIte r4 r5 false) (sEq r6 r7) false) r8 false))
noncomputable def d (k : Nat) : Fun := mkFun [41, 42, 3, 3] (fun as_ => f k (vRow (vN as_ 0)) (vRows (vN as_ 1)) (vInt (vN as_ 2)) (vInt (vN as_ 3))) default (fun r => .bool r)
theorem hC (k : Nat) : CxOk (C k) := CxOk.cons (p := (8, law47_heavy.d k)) (law47_heavy.ok k) (CxOk.cons (p := (9, law47_lv.d k)) (law47_lv.ok k) (CxOk.cons (p := (10, statefulset_Plan.d k)) (statefulset_Plan.ok k) (CxOk.cons (p := (11, ref47_Plan.d k)) (ref47_Plan.ok k) (CxOk.cons (p := (12, law47_ints.d k)) (law47_ints.ok k) (CxOk.cons (p := (13, ref13_SameStrings.d k)) (ref13_SameStrings.ok k) (CxOk.cons (p := (14, statefulset_Name.d k)) (statefulset_Name.ok k) (CxOk.cons (p := (15, ref47_Name.d k)) (ref47_Name.ok k) (CxOk.nil))))))))
theorem ok (k : Nat) : FunOk Tryz.prog 3 (d k) := fun_mk (C := C k) (hC k) (S := S k) Tryz.func3 (by kernel_rfl) (by kernel_rfl) (Loops.all (n := 0) (by kernel_rfl) trivial) (fun as_ => by kernel_rfl)
end law47_StatefulsetPlans
end Go.Proofs.YtolackmpfnndhaaGreatDoor.Ev
