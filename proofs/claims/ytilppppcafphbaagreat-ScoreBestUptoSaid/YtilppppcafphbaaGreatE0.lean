/- Go functions as Lean functions, printed by a program of this claim's author; each with its proof. Conditions: stated at each. -/
import Derived.Test.YtilppppcafphbaaGreatSndV
import Derived.Test.YtilppppcafphbaaGreatVsq4
import Derived.Test.YtilppppcafphbaaGreatProg
namespace Go.Proofs.YtilppppcafphbaaGreat.Ev
open Go
set_option linter.unusedVariables false
set_option maxRecDepth 100000
/-- A row in its type's form. -/
noncomputable abbrev et (t : Nat) (r : Row) : Row := eta Tryz.prog t r
/-- A part of a row, in its type's form. -/
noncomputable abbrev eo (t : Nat) (r : Row) (o : Nat) : Row := etaL Tryz.prog r o (ctsOf Tryz.prog t)
/-- Where the library's functions lie in this program. -/
def lay_sort_ren : Shelf.Ren := ⟨fun n => bif Nat.beq n 6 then 118 else bif Nat.beq n 15 then 104 else bif Nat.beq n 14 then 148 else bif Nat.beq n 28 then 132 else bif Nat.beq n 29 then 133 else bif Nat.beq n 20 then 160 else bif Nat.beq n 21 then 161 else bif Nat.beq n 22 then 162 else bif Nat.beq n 23 then 163 else bif Nat.beq n 24 then 164 else bif Nat.beq n 25 then 165 else bif Nat.beq n 26 then 166 else bif Nat.beq n 27 then 167 else bif Nat.beq n 46 then 170 else bif Nat.beq n 47 then 151 else bif Nat.beq n 48 then 152 else bif Nat.beq n 49 then 171 else bif Nat.beq n 50 then 172 else bif Nat.beq n 57 then 173 else n, fun n => bif Nat.beq n 22 then 113 else bif Nat.beq n 24 then 117 else bif Nat.beq n 25 then 175 else bif Nat.beq n 3 then 3 else bif Nat.beq n 39 then 162 else bif Nat.beq n 0 then 0 else bif Nat.beq n 53 then 187 else bif Nat.beq n 55 then 189 else bif Nat.beq n 4 then 4 else bif Nat.beq n 46 then 179 else bif Nat.beq n 45 then 178 else bif Nat.beq n 50 then 184 else bif Nat.beq n 5 then 5 else bif Nat.beq n 9 then 9 else bif Nat.beq n 66 then 207 else bif Nat.beq n 70 then 211 else bif Nat.beq n 76 then 224 else bif Nat.beq n 77 then 73 else n, fun n => n⟩
theorem lay_sort : SlLaysF0.n6 Tryz.prog lay_sort_ren where
  mixed := by kernel_rfl
  f6 := ⟨ "slices.SortFunc[[]orchestrator/api.Count,orchestrator/api.Count]", by kernel_rfl, Tryz.func118.trans (congrArg some (by kernel_rfl))⟩
  f14 := ⟨ "slices.pdqsortCmpFunc[orchestrator/api.Count]", by kernel_rfl, Tryz.func148.trans (congrArg some (by kernel_rfl))⟩
  f15 := by kernel_rfl
  f20 := ⟨ "slices.insertionSortCmpFunc[orchestrator/api.Count]", by kernel_rfl, Tryz.func160.trans (congrArg some (by kernel_rfl))⟩
  f21 := ⟨ "slices.heapSortCmpFunc[orchestrator/api.Count]", by kernel_rfl, Tryz.func161.trans (congrArg some (by kernel_rfl))⟩
  f22 := ⟨ "slices.breakPatternsCmpFunc[orchestrator/api.Count]", by kernel_rfl, Tryz.func162.trans (congrArg some (by kernel_rfl))⟩
  f23 := ⟨ "slices.choosePivotCmpFunc[orchestrator/api.Count]", by kernel_rfl, Tryz.func163.trans (congrArg some (by kernel_rfl))⟩
  f24 := ⟨ "slices.reverseRangeCmpFunc[orchestrator/api.Count]", by kernel_rfl, Tryz.func164.trans (congrArg some (by kernel_rfl))⟩
  f25 := ⟨ "slices.partialInsertionSortCmpFunc[orchestrator/api.Count]", by kernel_rfl, Tryz.func165.trans (congrArg some (by kernel_rfl))⟩
  f26 := ⟨ "slices.partitionEqualCmpFunc[orchestrator/api.Count]", by kernel_rfl, Tryz.func166.trans (congrArg some (by kernel_rfl))⟩
  f27 := ⟨ "slices.partitionCmpFunc[orchestrator/api.Count]", by kernel_rfl, Tryz.func167.trans (congrArg some (by kernel_rfl))⟩
  f28 := by kernel_rfl
  f29 := by kernel_rfl
  f46 := ⟨ "slices.siftDownCmpFunc[orchestrator/api.Count]", by kernel_rfl, Tryz.func170.trans (congrArg some (by kernel_rfl))⟩
  f47 := by kernel_rfl
  f48 := by kernel_rfl
  f49 := ⟨ "slices.medianAdjacentCmpFunc[orchestrator/api.Count]", by kernel_rfl, Tryz.func171.trans (congrArg some (by kernel_rfl))⟩
  f50 := ⟨ "slices.medianCmpFunc[orchestrator/api.Count]", by kernel_rfl, Tryz.func172.trans (congrArg some (by kernel_rfl))⟩
  f57 := ⟨ "slices.order2CmpFunc[orchestrator/api.Count]", by kernel_rfl, Tryz.func173.trans (congrArg some (by kernel_rfl))⟩
  t0 := by kernel_rfl
  a0 := fun w => by kernel_rfl
  z0 := fun w => by kernel_rfl
  v0 := fun w => by kernel_rfl
  t3 := by kernel_rfl
  a3 := fun w => by kernel_rfl
  z3 := fun w => by kernel_rfl
  v3 := fun w => by kernel_rfl
  t4 := by kernel_rfl
  a4 := fun w => by kernel_rfl
  z4 := fun w => by kernel_rfl
  v4 := fun w => by kernel_rfl
  t5 := by kernel_rfl
  a5 := fun w => by kernel_rfl
  z5 := fun w => by kernel_rfl
  v5 := fun w => by kernel_rfl
  t9 := by kernel_rfl
  a9 := fun w => by kernel_rfl
  z9 := fun w => by kernel_rfl
  v9 := fun w => by kernel_rfl
  t22 := by kernel_rfl
  a22 := fun w => by kernel_rfl
  z22 := fun w => by kernel_rfl
  v22 := fun w => by kernel_rfl
  t25 := by kernel_rfl
  a25 := fun w => by kernel_rfl
  z25 := fun w => by kernel_rfl
  v25 := fun w => by kernel_rfl
  t39 := by kernel_rfl
  a39 := fun w => by kernel_rfl
  z39 := fun w => by kernel_rfl
  v39 := fun w => by kernel_rfl
  t45 := by kernel_rfl
  a45 := fun w => by kernel_rfl
  z45 := fun w => by kernel_rfl
  v45 := fun w => by kernel_rfl
  t46 := by kernel_rfl
  a46 := fun w => by kernel_rfl
  z46 := fun w => by kernel_rfl
  v46 := fun w => by kernel_rfl
  t50 := by kernel_rfl
  a50 := fun w => by kernel_rfl
  z50 := fun w => by kernel_rfl
  v50 := fun w => by kernel_rfl
  t53 := by kernel_rfl
  a53 := fun w => by kernel_rfl
  z53 := fun w => by kernel_rfl
  v53 := fun w => by kernel_rfl
  t55 := by kernel_rfl
  a55 := fun w => by kernel_rfl
  z55 := fun w => by kernel_rfl
  v55 := fun w => by kernel_rfl
  t66 := by kernel_rfl
  a66 := fun w => by kernel_rfl
  z66 := fun w => by kernel_rfl
  v66 := fun w => by kernel_rfl
  t70 := by kernel_rfl
  a70 := fun w => by kernel_rfl
  z70 := fun w => by kernel_rfl
  v70 := fun w => by kernel_rfl
  t76 := by kernel_rfl
  a76 := fun w => by kernel_rfl
  z76 := fun w => by kernel_rfl
  v76 := fun w => by kernel_rfl
  t77 := by kernel_rfl
  a77 := fun w => by kernel_rfl
  z77 := fun w => by kernel_rfl
  v77 := fun w => by kernel_rfl
/-- Where the library's functions lie in this program. -/
def lay_cmp_ren : Shelf.Ren := ⟨fun n => bif Nat.beq n 106 then 120 else bif Nat.beq n 213 then 149 else bif Nat.beq n 265 then 168 else n, fun n => bif Nat.beq n 9 then 9 else bif Nat.beq n 3 then 3 else n, fun n => n⟩
theorem lay_cmp : Lays.n106 Tryz.prog lay_cmp_ren where
  mixed := by kernel_rfl
  f106 := by kernel_rfl
  f213 := by kernel_rfl
  f265 := by kernel_rfl
  t3 := by kernel_rfl
  a3 := fun w => by kernel_rfl
  z3 := fun w => by kernel_rfl
  v3 := fun w => by kernel_rfl
  t9 := by kernel_rfl
  a9 := fun w => by kernel_rfl
  z9 := fun w => by kernel_rfl
  v9 := fun w => by kernel_rfl
namespace ref19_str
noncomputable def C (k : Nat) : Cx := ⟨Tryz.prog, tab [], [], [], tab []⟩
noncomputable def S (k : Nat) : Subs := fun n => none
noncomputable def f (k : Nat) (a0 : ByteArray) : T Row :=
  .ret [.int .i64 (3), .int .i64 (0), .str a0, .slice 133 [] .open, .slice 193 [] .open]
noncomputable def d (k : Nat) : Fun := mkFun [9] (fun as_ => f k (vStr (vN as_ 0))) default (fun r => .agg (et 133 r))
theorem hC (k : Nat) : CxOk (C k) := CxOk.nil
theorem ok (k : Nat) : FunOk Tryz.prog 139 (d k) := fun_mk (C := C k) (hC k) (S := S k) Tryz.func139 (by kernel_rfl) (by kernel_rfl) (Loops.all (n := 0) (by kernel_rfl) trivial) (fun as_ => by kernel_rfl)
end ref19_str
namespace ref19_at
noncomputable def C (k : Nat) : Cx := ⟨Tryz.prog, tab [], [], [], tab []⟩
noncomputable def S (k : Nat) : Subs := fun n => none
noncomputable def f (k : Nat) (a0 : ByteArray) (a1 : Row) : T Row :=
  .ret (rJ [[.str a0], (et 133 a1)])
noncomputable def d (k : Nat) : Fun := mkFun [9, 133] (fun as_ => f k (vStr (vN as_ 0)) (vRow (vN as_ 1))) default (fun r => .agg (et 193 r))
theorem hC (k : Nat) : CxOk (C k) := CxOk.nil
theorem ok (k : Nat) : FunOk Tryz.prog 136 (d k) := fun_mk (C := C k) (hC k) (S := S k) Tryz.func136 (by kernel_rfl) (by kernel_rfl) (Loops.all (n := 0) (by kernel_rfl) trivial) (fun as_ => by kernel_rfl)
end ref19_at
namespace ref19_num
noncomputable def C (k : Nat) : Cx := ⟨Tryz.prog, tab [], [], [], tab []⟩
noncomputable def S (k : Nat) : Subs := fun n => none
noncomputable def f (k : Nat) (a0 : Int) : T Row :=
  .ret [.int .i64 (2), .int .i64 a0, .str ByteArray.empty, .slice 133 [] .open, .slice 193 [] .open]
noncomputable def d (k : Nat) : Fun := mkFun [3] (fun as_ => f k (vInt (vN as_ 0))) default (fun r => .agg (et 133 r))
theorem hC (k : Nat) : CxOk (C k) := CxOk.nil
theorem ok (k : Nat) : FunOk Tryz.prog 138 (d k) := fun_mk (C := C k) (hC k) (S := S k) Tryz.func138 (by kernel_rfl) (by kernel_rfl) (Loops.all (n := 0) (by kernel_rfl) trivial) (fun as_ => by kernel_rfl)
end ref19_num
namespace ref19_object
noncomputable def C (k : Nat) : Cx := ⟨Tryz.prog, tab [], [], [], tab []⟩
noncomputable def S (k : Nat) : Subs := fun n => none
noncomputable def f (k : Nat) (a0 : Rows) : T Row :=
  .ret [.int .i64 (5), .int .i64 (0), .str ByteArray.empty, .slice 133 [] .open, .slice 193 a0 .open]
noncomputable def d (k : Nat) : Fun := mkFun [131] (fun as_ => f k (vRows (vN as_ 0))) default (fun r => .agg (et 133 r))
theorem hC (k : Nat) : CxOk (C k) := CxOk.nil
theorem ok (k : Nat) : FunOk Tryz.prog 135 (d k) := fun_mk (C := C k) (hC k) (S := S k) Tryz.func135 (by kernel_rfl) (by kernel_rfl) (Loops.all (n := 0) (by kernel_rfl) trivial) (fun as_ => by kernel_rfl)
end ref19_object
namespace ref19_fromResources
noncomputable def C (k : Nat) : Cx := ⟨Tryz.prog, tab [(138, ref19_num.d k), (136, ref19_at.d k), (135, ref19_object.d k)], [], [], tab []⟩
noncomputable def S (k : Nat) : Subs := fun n => none
noncomputable def f (k : Nat) (a0 : Row) : T Row :=
  .bnd (ref19_num.f k (rInt a0 0)).eval default fun r0 =>
  .bnd (ref19_at.f k (bs [99, 112, 117]) (et 133 r0)).eval default fun r1 =>
  .bnd (ref19_num.f k (rInt a0 2)).eval default fun r2 =>
  .bnd (ref19_at.f k (bs [100, 105, 115, 107]) (et 133 r2)).eval default fun r3 =>
  .bnd (ref19_num.f k (rInt a0 1)).eval default fun r4 =>
  .bnd (ref19_at.f k (bs [109, 101, 109, 111, 114, 121]) (et 133 r4)).eval default fun r5 =>
  .bnd (ref19_object.f k [(et 193 r1), (et 193 r3), (et 193 r5)]).eval default fun r6 =>
  .ret (et 133 r6)
noncomputable def d (k : Nat) : Fun := mkFun [47] (fun as_ => f k (vRow (vN as_ 0))) default (fun r => .agg (et 133 r))
theorem hC (k : Nat) : CxOk (C k) := CxOk.cons (p := (138, ref19_num.d k)) (ref19_num.ok k) (CxOk.cons (p := (136, ref19_at.d k)) (ref19_at.ok k) (CxOk.cons (p := (135, ref19_object.d k)) (ref19_object.ok k) (CxOk.nil)))
theorem ok (k : Nat) : FunOk Tryz.prog 156 (d k) := fun_mk (C := C k) (hC k) (S := S k) Tryz.func156 (by kernel_rfl) (by kernel_rfl) (Loops.all (n := 0) (by kernel_rfl) trivial) (fun as_ => by kernel_rfl)
end ref19_fromResources
namespace ref19_list
noncomputable def C (k : Nat) : Cx := ⟨Tryz.prog, tab [], [], [], tab []⟩
noncomputable def S (k : Nat) : Subs := fun n => none
noncomputable def f (k : Nat) (a0 : Rows) : T Row :=
  .ret [.int .i64 (4), .int .i64 (0), .str ByteArray.empty, .slice 133 a0 .open, .slice 193 [] .open]
noncomputable def d (k : Nat) : Fun := mkFun [130] (fun as_ => f k (vRows (vN as_ 0))) default (fun r => .agg (et 133 r))
theorem hC (k : Nat) : CxOk (C k) := CxOk.nil
theorem ok (k : Nat) : FunOk Tryz.prog 158 (d k) := fun_mk (C := C k) (hC k) (S := S k) Tryz.func158 (by kernel_rfl) (by kernel_rfl) (Loops.all (n := 0) (by kernel_rfl) trivial) (fun as_ => by kernel_rfl)
end ref19_list
namespace ref19_fromProbes
noncomputable def C (k : Nat) : Cx := ⟨Tryz.prog, tab [(138, ref19_num.d k), (136, ref19_at.d k), (135, ref19_object.d k), (158, ref19_list.d k)], [], [], tab []⟩
noncomputable def t3 : LoopT := ⟨⟨46, [.tmp 3 43 133], [(0, .sl 227 none), (2, .ptr 2 0), (3, .sl 133 (some 43)), (4, .int .i64)], [], [(2, 133)], []⟩, (fun | .exit 0 => some ⟨46, [], [(2, .ptr 2 0), (3, .sl 133 (some 43))], [], [(2, 133)], []⟩ | _ => none)⟩
noncomputable def s3 (k : Nat) (c0 : Rows) (c1 : Row) (x : (Rows × Int)) : T ((Rows × Int) ⊕ Rows) :=
  .test (iLt x.2 (rLen c0))
   (.test (iIn x.2 (rLen c0))
    (.bnd (ref19_num.f k (rInt (rAt c0 x.2) 0)).eval default fun r0 =>
    .bnd (ref19_at.f k (bs [100, 101, 108, 97, 121]) (et 133 r0)).eval default fun r1 =>
    .test (iIn x.2 (rLen c0))
     (.bnd (ref19_num.f k (rInt (rAt c0 x.2) 3)).eval default fun r2 =>
     .bnd (ref19_at.f k (bs [102, 97, 105, 108, 117, 114, 101]) (et 133 r2)).eval default fun r3 =>
     .test (iIn x.2 (rLen c0))
      (.bnd (ref19_num.f k (rInt (rAt c0 x.2) 1)).eval default fun r4 =>
      .bnd (ref19_at.f k (bs [112, 101, 114, 105, 111, 100]) (et 133 r4)).eval default fun r5 =>
      .test (iIn x.2 (rLen c0))
       (.bnd (ref19_num.f k (rInt (rAt c0 x.2) 2)).eval default fun r6 =>
       .bnd (ref19_at.f k (bs [115, 117, 99, 99, 101, 115, 115]) (et 133 r6)).eval default fun r7 =>
       .bnd (ref19_object.f k [(et 193 r1), (et 193 r3), (et 193 r5), (et 193 r7)]).eval default fun r8 =>
       .test (rOk 80 (rLen x.1) (rLen [(et 133 r8)]))
        (.ret (.inl ((rCat x.1 [(et 133 r8)]), (iAdd .i64 x.2 (1)))))
        (.fail))
       (.fail))
      (.fail))
     (.fail))
    (.fail))
   (.ret (.inr x.1))
noncomputable def a3 (c0 : Rows) (c1 : Row) (x : (Rows × Int)) : Dt := ⟨[.r c0, .u, .r x.1, .i x.2], [], [et 133 c1], []⟩
noncomputable def o3_0 (c0 : Rows) (c1 : Row) (r : Rows) : X × Dt := (.exit 0, ⟨[.u, .r r], [], [(et 133 c1)], []⟩)
noncomputable def e3 (k : Nat) (d : Dt) : T (X × Dt) := out1 (iter (s3 k (aR (aN d.a 0)) (d.r.getD 0 [])) k ((aR (aN d.a 2)), (aI (aN d.a 3)))) default (o3_0 (aR (aN d.a 0)) (d.r.getD 0 []))
noncomputable def S (k : Nat) : Subs := fun n => bif Nat.beq n 3 then some (loopV Tryz.prog t3 (e3 k)) else none
noncomputable def f (k : Nat) (a0 : Rows) : T Row :=
  .bnd (iter (ref19_fromProbes.s3 k a0 [.int .i64 (0), .int .i64 (0), .str ByteArray.empty, .slice 133 [] .open, .slice 193 [] .open]) k ([], (0))) default fun r0 =>
  .bnd (ref19_list.f k r0).eval default fun r1 =>
  .ret (et 133 r1)
noncomputable def d (k : Nat) : Fun := mkFun [63] (fun as_ => f k (vRows (vN as_ 0))) default (fun r => .agg (et 133 r))
theorem hC (k : Nat) : CxOk (C k) := CxOk.cons (p := (138, ref19_num.d k)) (ref19_num.ok k) (CxOk.cons (p := (136, ref19_at.d k)) (ref19_at.ok k) (CxOk.cons (p := (135, ref19_object.d k)) (ref19_object.ok k) (CxOk.cons (p := (158, ref19_list.d k)) (ref19_list.ok k) (CxOk.nil))))
theorem l3 (k : Nat) : LoopOk Tryz.prog (S k) (lp (bodyF (Go.Proofs.Tryz.f157)) 0) := loopOk_mk (C := C k) (hC k) (Loops.all (n := 0) (by kernel_rfl) trivial) (lt := t3) (den := e3 k) (by kernel_rfl) (N := (Rows × Row)) (A := (Rows × Int)) (R := Rows)
 (fun n x => a3 n.1 n.2 x) (fun n r => o3_0 n.1 n.2 r) (fun n x => s3 k n.1 n.2 x) k (fun d => ((aR (aN d.a 0)), (d.r.getD 0 []))) (fun d => ((aR (aN d.a 2)), (aI (aN d.a 3)))) (fun d y h => out1_eval h) (fun d => by kernel_rfl) (fun n x => by kernel_rfl) (fun n r => ⟨_, rfl⟩)
theorem ok (k : Nat) : FunOk Tryz.prog 157 (d k) := fun_mk (C := C k) (hC k) (S := S k) Tryz.func157 (by kernel_rfl) (by kernel_rfl) (Loops.all (n := 1) (by kernel_rfl) ⟨trivial, l3 k⟩) (fun as_ => by kernel_rfl)
end ref19_fromProbes
namespace ref19_fromContainers
noncomputable def C (k : Nat) : Cx := ⟨Tryz.prog, tab [(139, ref19_str.d k), (136, ref19_at.d k), (156, ref19_fromResources.d k), (157, ref19_fromProbes.d k), (135, ref19_object.d k), (158, ref19_list.d k)], [], [], tab []⟩
noncomputable def t3 : LoopT := ⟨⟨51, [.tmp 3 48 133], [(0, .sl 65 none), (2, .ptr 2 0), (3, .sl 133 (some 48)), (4, .int .i64)], [], [(2, 133)], []⟩, (fun | .exit 0 => some ⟨51, [], [(2, .ptr 2 0), (3, .sl 133 (some 48))], [], [(2, 133)], []⟩ | _ => none)⟩
noncomputable def s3 (k : Nat) (c0 : Rows) (c1 : Row) (x : (Rows × Int)) : T ((Rows × Int) ⊕ Rows) :=
  .test (iLt x.2 (rLen c0))
   (.test (iIn x.2 (rLen c0))
    (.bnd (ref19_str.f k (rStr (rAt c0 x.2) 1)).eval default fun r0 =>
    .bnd (ref19_at.f k (bs [105, 109, 97, 103, 101]) (et 133 r0)).eval default fun r1 =>
    .bnd (ref19_fromResources.f k (eo 47 (rAt c0 x.2) 5)).eval default fun r2 =>
    .bnd (ref19_at.f k (bs [108, 105, 109, 105, 116]) (et 133 r2)).eval default fun r3 =>
    .bnd (ref19_fromProbes.f k (rSl (rAt c0 x.2) 8)).eval default fun r4 =>
    .bnd (ref19_at.f k (bs [108, 105, 118, 101]) (et 133 r4)).eval default fun r5 =>
    .bnd (ref19_str.f k (rStr (rAt c0 x.2) 0)).eval default fun r6 =>
    .bnd (ref19_at.f k (bs [110, 97, 109, 101]) (et 133 r6)).eval default fun r7 =>
    .bnd (ref19_fromProbes.f k (rSl (rAt c0 x.2) 9)).eval default fun r8 =>
    .bnd (ref19_at.f k (bs [114, 101, 97, 100, 121]) (et 133 r8)).eval default fun r9 =>
    .bnd (ref19_fromResources.f k (eo 47 (rAt c0 x.2) 2)).eval default fun r10 =>
    .bnd (ref19_at.f k (bs [114, 101, 113, 117, 101, 115, 116]) (et 133 r10)).eval default fun r11 =>
    .bnd (ref19_fromProbes.f k (rSl (rAt c0 x.2) 10)).eval default fun r12 =>
    .bnd (ref19_at.f k (bs [115, 116, 97, 114, 116, 117, 112]) (et 133 r12)).eval default fun r13 =>
    .bnd (ref19_object.f k [(et 193 r1), (et 193 r3), (et 193 r5), (et 193 r7), (et 193 r9), (et 193 r11), (et 193 r13)]).eval default fun r14 =>
    .test (rOk 80 (rLen x.1) (rLen [(et 133 r14)]))
     (.ret (.inl ((rCat x.1 [(et 133 r14)]), (iAdd .i64 x.2 (1)))))
     (.fail))
    (.fail))
   (.ret (.inr x.1))
noncomputable def a3 (c0 : Rows) (c1 : Row) (x : (Rows × Int)) : Dt := ⟨[.r c0, .u, .r x.1, .i x.2], [], [et 133 c1], []⟩
noncomputable def o3_0 (c0 : Rows) (c1 : Row) (r : Rows) : X × Dt := (.exit 0, ⟨[.u, .r r], [], [(et 133 c1)], []⟩)
noncomputable def e3 (k : Nat) (d : Dt) : T (X × Dt) := out1 (iter (s3 k (aR (aN d.a 0)) (d.r.getD 0 [])) k ((aR (aN d.a 2)), (aI (aN d.a 3)))) default (o3_0 (aR (aN d.a 0)) (d.r.getD 0 []))
noncomputable def S (k : Nat) : Subs := fun n => bif Nat.beq n 3 then some (loopV Tryz.prog t3 (e3 k)) else none
noncomputable def f (k : Nat) (a0 : Rows) : T Row :=
  .bnd (iter (ref19_fromContainers.s3 k a0 [.int .i64 (0), .int .i64 (0), .str ByteArray.empty, .slice 133 [] .open, .slice 193 [] .open]) k ([], (0))) default fun r0 =>
  .bnd (ref19_list.f k r0).eval default fun r1 =>
  .ret (et 133 r1)
noncomputable def d (k : Nat) : Fun := mkFun [33] (fun as_ => f k (vRows (vN as_ 0))) default (fun r => .agg (et 133 r))
theorem hC (k : Nat) : CxOk (C k) := CxOk.cons (p := (139, ref19_str.d k)) (ref19_str.ok k) (CxOk.cons (p := (136, ref19_at.d k)) (ref19_at.ok k) (CxOk.cons (p := (156, ref19_fromResources.d k)) (ref19_fromResources.ok k) (CxOk.cons (p := (157, ref19_fromProbes.d k)) (ref19_fromProbes.ok k) (CxOk.cons (p := (135, ref19_object.d k)) (ref19_object.ok k) (CxOk.cons (p := (158, ref19_list.d k)) (ref19_list.ok k) (CxOk.nil))))))
theorem l3 (k : Nat) : LoopOk Tryz.prog (S k) (lp (bodyF (Go.Proofs.Tryz.f137)) 0) := loopOk_mk (C := C k) (hC k) (Loops.all (n := 0) (by kernel_rfl) trivial) (lt := t3) (den := e3 k) (by kernel_rfl) (N := (Rows × Row)) (A := (Rows × Int)) (R := Rows)
 (fun n x => a3 n.1 n.2 x) (fun n r => o3_0 n.1 n.2 r) (fun n x => s3 k n.1 n.2 x) k (fun d => ((aR (aN d.a 0)), (d.r.getD 0 []))) (fun d => ((aR (aN d.a 2)), (aI (aN d.a 3)))) (fun d y h => out1_eval h) (fun d => by kernel_rfl) (fun n x => by kernel_rfl) (fun n r => ⟨_, rfl⟩)
theorem ok (k : Nat) : FunOk Tryz.prog 137 (d k) := fun_mk (C := C k) (hC k) (S := S k) Tryz.func137 (by kernel_rfl) (by kernel_rfl) (Loops.all (n := 1) (by kernel_rfl) ⟨trivial, l3 k⟩) (fun as_ => by kernel_rfl)
end ref19_fromContainers
namespace ref19_FromStrings
noncomputable def C (k : Nat) : Cx := ⟨Tryz.prog, tab [(139, ref19_str.d k), (158, ref19_list.d k)], [], [], tab []⟩
noncomputable def t3 : LoopT := ⟨⟨21, [.tmp 3 18 133], [(0, .sl 9 none), (2, .ptr 2 0), (3, .sl 133 (some 18)), (4, .int .i64)], [], [(2, 133)], []⟩, (fun | .exit 0 => some ⟨21, [], [(2, .ptr 2 0), (3, .sl 133 (some 18))], [], [(2, 133)], []⟩ | _ => none)⟩
noncomputable def s3 (k : Nat) (c0 : Rows) (c1 : Row) (x : (Rows × Int)) : T ((Rows × Int) ⊕ Rows) :=
  .test (iLt x.2 (rLen c0))
   (.test (iIn x.2 (rLen c0))
    (.bnd (ref19_str.f k (rStr (rAt c0 x.2) 0)).eval default fun r0 =>
    .test (rOk 80 (rLen x.1) (rLen [(et 133 r0)]))
     (.ret (.inl ((rCat x.1 [(et 133 r0)]), (iAdd .i64 x.2 (1)))))
     (.fail))
    (.fail))
   (.ret (.inr x.1))
noncomputable def a3 (c0 : Rows) (c1 : Row) (x : (Rows × Int)) : Dt := ⟨[.r c0, .u, .r x.1, .i x.2], [], [et 133 c1], []⟩
noncomputable def o3_0 (c0 : Rows) (c1 : Row) (r : Rows) : X × Dt := (.exit 0, ⟨[.u, .r r], [], [(et 133 c1)], []⟩)
noncomputable def e3 (k : Nat) (d : Dt) : T (X × Dt) := out1 (iter (s3 k (aR (aN d.a 0)) (d.r.getD 0 [])) k ((aR (aN d.a 2)), (aI (aN d.a 3)))) default (o3_0 (aR (aN d.a 0)) (d.r.getD 0 []))
noncomputable def S (k : Nat) : Subs := fun n => bif Nat.beq n 3 then some (loopV Tryz.prog t3 (e3 k)) else none
noncomputable def f (k : Nat) (a0 : Rows) : T Row :=
  .bnd (iter (ref19_FromStrings.s3 k a0 [.int .i64 (0), .int .i64 (0), .str ByteArray.empty, .slice 133 [] .open, .slice 193 [] .open]) k ([], (0))) default fun r0 =>
  .bnd (ref19_list.f k r0).eval default fun r1 =>
  .ret (et 133 r1)
noncomputable def d (k : Nat) : Fun := mkFun [29] (fun as_ => f k (vRows (vN as_ 0))) default (fun r => .agg (et 133 r))
theorem hC (k : Nat) : CxOk (C k) := CxOk.cons (p := (139, ref19_str.d k)) (ref19_str.ok k) (CxOk.cons (p := (158, ref19_list.d k)) (ref19_list.ok k) (CxOk.nil))
theorem l3 (k : Nat) : LoopOk Tryz.prog (S k) (lp (bodyF (Go.Proofs.Tryz.f159)) 0) := loopOk_mk (C := C k) (hC k) (Loops.all (n := 0) (by kernel_rfl) trivial) (lt := t3) (den := e3 k) (by kernel_rfl) (N := (Rows × Row)) (A := (Rows × Int)) (R := Rows)
 (fun n x => a3 n.1 n.2 x) (fun n r => o3_0 n.1 n.2 r) (fun n x => s3 k n.1 n.2 x) k (fun d => ((aR (aN d.a 0)), (d.r.getD 0 []))) (fun d => ((aR (aN d.a 2)), (aI (aN d.a 3)))) (fun d y h => out1_eval h) (fun d => by kernel_rfl) (fun n x => by kernel_rfl) (fun n r => ⟨_, rfl⟩)
theorem ok (k : Nat) : FunOk Tryz.prog 159 (d k) := fun_mk (C := C k) (hC k) (S := S k) Tryz.func159 (by kernel_rfl) (by kernel_rfl) (Loops.all (n := 1) (by kernel_rfl) ⟨trivial, l3 k⟩) (fun as_ => by kernel_rfl)
end ref19_FromStrings
namespace ref19_FromSelector
noncomputable def C (k : Nat) : Cx := ⟨Tryz.prog, tab [(139, ref19_str.d k), (136, ref19_at.d k), (138, ref19_num.d k), (159, ref19_FromStrings.d k), (135, ref19_object.d k), (158, ref19_list.d k)], [], [], tab []⟩
noncomputable def t3 : LoopT := ⟨⟨39, [.tmp 3 36 133], [(0, .sl 129 none), (2, .ptr 2 0), (3, .sl 133 (some 36)), (4, .int .i64)], [], [(2, 133)], []⟩, (fun | .exit 0 => some ⟨39, [], [(2, .ptr 2 0), (3, .sl 133 (some 36))], [], [(2, 133)], []⟩ | _ => none)⟩
noncomputable def s3 (k : Nat) (c0 : Rows) (c1 : Row) (x : (Rows × Int)) : T ((Rows × Int) ⊕ Rows) :=
  .test (iLt x.2 (rLen c0))
   (.test (iIn x.2 (rLen c0))
    (.bnd (ref19_str.f k (rStr (rAt c0 x.2) 0)).eval default fun r0 =>
    .bnd (ref19_at.f k (bs [107, 101, 121]) (et 133 r0)).eval default fun r1 =>
    .test (iIn x.2 (rLen c0))
     (.bnd (ref19_num.f k (rInt (rAt c0 x.2) 1)).eval default fun r2 =>
     .bnd (ref19_at.f k (bs [111, 112]) (et 133 r2)).eval default fun r3 =>
     .test (iIn x.2 (rLen c0))
      (.bnd (ref19_FromStrings.f k (rSl (rAt c0 x.2) 2)).eval default fun r4 =>
      .bnd (ref19_at.f k (bs [118, 97, 108, 117, 101, 115]) (et 133 r4)).eval default fun r5 =>
      .bnd (ref19_object.f k [(et 193 r1), (et 193 r3), (et 193 r5)]).eval default fun r6 =>
      .test (rOk 80 (rLen x.1) (rLen [(et 133 r6)]))
       (.ret (.inl ((rCat x.1 [(et 133 r6)]), (iAdd .i64 x.2 (1)))))
       (.fail))
      (.fail))
     (.fail))
    (.fail))
   (.ret (.inr x.1))
noncomputable def a3 (c0 : Rows) (c1 : Row) (x : (Rows × Int)) : Dt := ⟨[.r c0, .u, .r x.1, .i x.2], [], [et 133 c1], []⟩
noncomputable def o3_0 (c0 : Rows) (c1 : Row) (r : Rows) : X × Dt := (.exit 0, ⟨[.u, .r r], [], [(et 133 c1)], []⟩)
noncomputable def e3 (k : Nat) (d : Dt) : T (X × Dt) := out1 (iter (s3 k (aR (aN d.a 0)) (d.r.getD 0 [])) k ((aR (aN d.a 2)), (aI (aN d.a 3)))) default (o3_0 (aR (aN d.a 0)) (d.r.getD 0 []))
noncomputable def S (k : Nat) : Subs := fun n => bif Nat.beq n 3 then some (loopV Tryz.prog t3 (e3 k)) else none
noncomputable def f (k : Nat) (a0 : Rows) : T Row :=
  .bnd (iter (ref19_FromSelector.s3 k a0 [.int .i64 (0), .int .i64 (0), .str ByteArray.empty, .slice 133 [] .open, .slice 193 [] .open]) k ([], (0))) default fun r0 =>
  .bnd (ref19_list.f k r0).eval default fun r1 =>
  .ret (et 133 r1)
noncomputable def d (k : Nat) : Fun := mkFun [34] (fun as_ => f k (vRows (vN as_ 0))) default (fun r => .agg (et 133 r))
theorem hC (k : Nat) : CxOk (C k) := CxOk.cons (p := (139, ref19_str.d k)) (ref19_str.ok k) (CxOk.cons (p := (136, ref19_at.d k)) (ref19_at.ok k) (CxOk.cons (p := (138, ref19_num.d k)) (ref19_num.ok k) (CxOk.cons (p := (159, ref19_FromStrings.d k)) (ref19_FromStrings.ok k) (CxOk.cons (p := (135, ref19_object.d k)) (ref19_object.ok k) (CxOk.cons (p := (158, ref19_list.d k)) (ref19_list.ok k) (CxOk.nil))))))
theorem l3 (k : Nat) : LoopOk Tryz.prog (S k) (lp (bodyF (Go.Proofs.Tryz.f140)) 0) := loopOk_mk (C := C k) (hC k) (Loops.all (n := 0) (by kernel_rfl) trivial) (lt := t3) (den := e3 k) (by kernel_rfl) (N := (Rows × Row)) (A := (Rows × Int)) (R := Rows)
 (fun n x => a3 n.1 n.2 x) (fun n r => o3_0 n.1 n.2 r) (fun n x => s3 k n.1 n.2 x) k (fun d => ((aR (aN d.a 0)), (d.r.getD 0 []))) (fun d => ((aR (aN d.a 2)), (aI (aN d.a 3)))) (fun d y h => out1_eval h) (fun d => by kernel_rfl) (fun n x => by kernel_rfl) (fun n r => ⟨_, rfl⟩)
theorem ok (k : Nat) : FunOk Tryz.prog 140 (d k) := fun_mk (C := C k) (hC k) (S := S k) Tryz.func140 (by kernel_rfl) (by kernel_rfl) (Loops.all (n := 1) (by kernel_rfl) ⟨trivial, l3 k⟩) (fun as_ => by kernel_rfl)
end ref19_FromSelector
namespace ref19_truth
noncomputable def C (k : Nat) : Cx := ⟨Tryz.prog, tab [], [], [], tab []⟩
noncomputable def S (k : Nat) : Subs := fun n => none
noncomputable def f (k : Nat) (a0 : Bool) : T Row :=
  .test a0
   (.ret [.int .i64 (1), .int .i64 (1), .str ByteArray.empty, .slice 133 [] .open, .slice 193 [] .open])
   (.ret [.int .i64 (1), .int .i64 (0), .str ByteArray.empty, .slice 133 [] .open, .slice 193 [] .open])
noncomputable def d (k : Nat) : Fun := mkFun [4] (fun as_ => f k (vBool (vN as_ 0))) default (fun r => .agg (et 133 r))
theorem hC (k : Nat) : CxOk (C k) := CxOk.nil
theorem ok (k : Nat) : FunOk Tryz.prog 146 (d k) := fun_mk (C := C k) (hC k) (S := S k) Tryz.func146 (by kernel_rfl) (by kernel_rfl) (Loops.all (n := 0) (by kernel_rfl) trivial) (fun as_ => by kernel_rfl)
end ref19_truth
namespace ref19_fromNodeTerms
noncomputable def C (k : Nat) : Cx := ⟨Tryz.prog, tab [(146, ref19_truth.d k), (136, ref19_at.d k), (140, ref19_FromSelector.d k), (138, ref19_num.d k), (135, ref19_object.d k), (158, ref19_list.d k)], [], [], tab []⟩
noncomputable def t3 : LoopT := ⟨⟨39, [.tmp 3 36 133], [(0, .sl 103 none), (2, .ptr 2 0), (3, .sl 133 (some 36)), (4, .int .i64)], [], [(2, 133)], []⟩, (fun | .exit 0 => some ⟨39, [], [(2, .ptr 2 0), (3, .sl 133 (some 36))], [], [(2, 133)], []⟩ | _ => none)⟩
noncomputable def s3 (k : Nat) (c0 : Rows) (c1 : Row) (x : (Rows × Int)) : T ((Rows × Int) ⊕ Rows) :=
  .test (iLt x.2 (rLen c0))
   (.test (iIn x.2 (rLen c0))
    (.bnd (ref19_truth.f k (rBool (rAt c0 x.2) 0)).eval default fun r0 =>
    .bnd (ref19_at.f k (bs [114, 101, 113, 117, 105, 114, 101, 100]) (et 133 r0)).eval default fun r1 =>
    .test (iIn x.2 (rLen c0))
     (.bnd (ref19_FromSelector.f k (rSl (rAt c0 x.2) 1)).eval default fun r2 =>
     .bnd (ref19_at.f k (bs [115, 101, 108, 101, 99, 116, 111, 114]) (et 133 r2)).eval default fun r3 =>
     .test (iIn x.2 (rLen c0))
      (.bnd (ref19_num.f k (rInt (rAt c0 x.2) 2)).eval default fun r4 =>
      .bnd (ref19_at.f k (bs [119, 101, 105, 103, 104, 116]) (et 133 r4)).eval default fun r5 =>
      .bnd (ref19_object.f k [(et 193 r1), (et 193 r3), (et 193 r5)]).eval default fun r6 =>
      .test (rOk 80 (rLen x.1) (rLen [(et 133 r6)]))
       (.ret (.inl ((rCat x.1 [(et 133 r6)]), (iAdd .i64 x.2 (1)))))
       (.fail))
      (.fail))
     (.fail))
    (.fail))
   (.ret (.inr x.1))
noncomputable def a3 (c0 : Rows) (c1 : Row) (x : (Rows × Int)) : Dt := ⟨[.r c0, .u, .r x.1, .i x.2], [], [et 133 c1], []⟩
noncomputable def o3_0 (c0 : Rows) (c1 : Row) (r : Rows) : X × Dt := (.exit 0, ⟨[.u, .r r], [], [(et 133 c1)], []⟩)
noncomputable def e3 (k : Nat) (d : Dt) : T (X × Dt) := out1 (iter (s3 k (aR (aN d.a 0)) (d.r.getD 0 [])) k ((aR (aN d.a 2)), (aI (aN d.a 3)))) default (o3_0 (aR (aN d.a 0)) (d.r.getD 0 []))
noncomputable def S (k : Nat) : Subs := fun n => bif Nat.beq n 3 then some (loopV Tryz.prog t3 (e3 k)) else none
noncomputable def f (k : Nat) (a0 : Rows) : T Row :=
  .bnd (iter (ref19_fromNodeTerms.s3 k a0 [.int .i64 (0), .int .i64 (0), .str ByteArray.empty, .slice 133 [] .open, .slice 193 [] .open]) k ([], (0))) default fun r0 =>
  .bnd (ref19_list.f k r0).eval default fun r1 =>
  .ret (et 133 r1)
noncomputable def d (k : Nat) : Fun := mkFun [35] (fun as_ => f k (vRows (vN as_ 0))) default (fun r => .agg (et 133 r))
theorem hC (k : Nat) : CxOk (C k) := CxOk.cons (p := (146, ref19_truth.d k)) (ref19_truth.ok k) (CxOk.cons (p := (136, ref19_at.d k)) (ref19_at.ok k) (CxOk.cons (p := (140, ref19_FromSelector.d k)) (ref19_FromSelector.ok k) (CxOk.cons (p := (138, ref19_num.d k)) (ref19_num.ok k) (CxOk.cons (p := (135, ref19_object.d k)) (ref19_object.ok k) (CxOk.cons (p := (158, ref19_list.d k)) (ref19_list.ok k) (CxOk.nil))))))
theorem l3 (k : Nat) : LoopOk Tryz.prog (S k) (lp (bodyF (Go.Proofs.Tryz.f141)) 0) := loopOk_mk (C := C k) (hC k) (Loops.all (n := 0) (by kernel_rfl) trivial) (lt := t3) (den := e3 k) (by kernel_rfl) (N := (Rows × Row)) (A := (Rows × Int)) (R := Rows)
 (fun n x => a3 n.1 n.2 x) (fun n r => o3_0 n.1 n.2 r) (fun n x => s3 k n.1 n.2 x) k (fun d => ((aR (aN d.a 0)), (d.r.getD 0 []))) (fun d => ((aR (aN d.a 2)), (aI (aN d.a 3)))) (fun d y h => out1_eval h) (fun d => by kernel_rfl) (fun n x => by kernel_rfl) (fun n r => ⟨_, rfl⟩)
theorem ok (k : Nat) : FunOk Tryz.prog 141 (d k) := fun_mk (C := C k) (hC k) (S := S k) Tryz.func141 (by kernel_rfl) (by kernel_rfl) (Loops.all (n := 1) (by kernel_rfl) ⟨trivial, l3 k⟩) (fun as_ => by kernel_rfl)
end ref19_fromNodeTerms
namespace ref19_fromPodTerms
noncomputable def C (k : Nat) : Cx := ⟨Tryz.prog, tab [(146, ref19_truth.d k), (136, ref19_at.d k), (140, ref19_FromSelector.d k), (139, ref19_str.d k), (138, ref19_num.d k), (135, ref19_object.d k), (158, ref19_list.d k)], [], [], tab []⟩
noncomputable def t3 : LoopT := ⟨⟨53, [.tmp 3 50 133], [(0, .sl 107 none), (2, .ptr 2 0), (3, .sl 133 (some 50)), (4, .int .i64)], [], [(2, 133)], []⟩, (fun | .exit 0 => some ⟨53, [], [(2, .ptr 2 0), (3, .sl 133 (some 50))], [], [(2, 133)], []⟩ | _ => none)⟩
noncomputable def s3 (k : Nat) (c0 : Rows) (c1 : Row) (x : (Rows × Int)) : T ((Rows × Int) ⊕ Rows) :=
  .test (iLt x.2 (rLen c0))
   (.test (iIn x.2 (rLen c0))
    (.bnd (ref19_truth.f k (rBool (rAt c0 x.2) 1)).eval default fun r0 =>
    .bnd (ref19_at.f k (bs [97, 110, 116, 105]) (et 133 r0)).eval default fun r1 =>
    .test (iIn x.2 (rLen c0))
     (.bnd (ref19_truth.f k (rBool (rAt c0 x.2) 0)).eval default fun r2 =>
     .bnd (ref19_at.f k (bs [114, 101, 113, 117, 105, 114, 101, 100]) (et 133 r2)).eval default fun r3 =>
     .test (iIn x.2 (rLen c0))
      (.bnd (ref19_FromSelector.f k (rSl (rAt c0 x.2) 2)).eval default fun r4 =>
      .bnd (ref19_at.f k (bs [115, 101, 108, 101, 99, 116, 111, 114]) (et 133 r4)).eval default fun r5 =>
      .test (iIn x.2 (rLen c0))
       (.bnd (ref19_str.f k (rStr (rAt c0 x.2) 3)).eval default fun r6 =>
       .bnd (ref19_at.f k (bs [116, 111, 112, 111, 108, 111, 103, 121]) (et 133 r6)).eval default fun r7 =>
       .test (iIn x.2 (rLen c0))
        (.bnd (ref19_num.f k (rInt (rAt c0 x.2) 4)).eval default fun r8 =>
        .bnd (ref19_at.f k (bs [119, 101, 105, 103, 104, 116]) (et 133 r8)).eval default fun r9 =>
        .bnd (ref19_object.f k [(et 193 r1), (et 193 r3), (et 193 r5), (et 193 r7), (et 193 r9)]).eval default fun r10 =>
        .test (rOk 80 (rLen x.1) (rLen [(et 133 r10)]))
         (.ret (.inl ((rCat x.1 [(et 133 r10)]), (iAdd .i64 x.2 (1)))))
         (.fail))
        (.fail))
       (.fail))
      (.fail))
     (.fail))
    (.fail))
   (.ret (.inr x.1))
noncomputable def a3 (c0 : Rows) (c1 : Row) (x : (Rows × Int)) : Dt := ⟨[.r c0, .u, .r x.1, .i x.2], [], [et 133 c1], []⟩
noncomputable def o3_0 (c0 : Rows) (c1 : Row) (r : Rows) : X × Dt := (.exit 0, ⟨[.u, .r r], [], [(et 133 c1)], []⟩)
noncomputable def e3 (k : Nat) (d : Dt) : T (X × Dt) := out1 (iter (s3 k (aR (aN d.a 0)) (d.r.getD 0 [])) k ((aR (aN d.a 2)), (aI (aN d.a 3)))) default (o3_0 (aR (aN d.a 0)) (d.r.getD 0 []))
noncomputable def S (k : Nat) : Subs := fun n => bif Nat.beq n 3 then some (loopV Tryz.prog t3 (e3 k)) else none
noncomputable def f (k : Nat) (a0 : Rows) : T Row :=
  .bnd (iter (ref19_fromPodTerms.s3 k a0 [.int .i64 (0), .int .i64 (0), .str ByteArray.empty, .slice 133 [] .open, .slice 193 [] .open]) k ([], (0))) default fun r0 =>
  .bnd (ref19_list.f k r0).eval default fun r1 =>
  .ret (et 133 r1)
noncomputable def d (k : Nat) : Fun := mkFun [36] (fun as_ => f k (vRows (vN as_ 0))) default (fun r => .agg (et 133 r))
theorem hC (k : Nat) : CxOk (C k) := CxOk.cons (p := (146, ref19_truth.d k)) (ref19_truth.ok k) (CxOk.cons (p := (136, ref19_at.d k)) (ref19_at.ok k) (CxOk.cons (p := (140, ref19_FromSelector.d k)) (ref19_FromSelector.ok k) (CxOk.cons (p := (139, ref19_str.d k)) (ref19_str.ok k) (CxOk.cons (p := (138, ref19_num.d k)) (ref19_num.ok k) (CxOk.cons (p := (135, ref19_object.d k)) (ref19_object.ok k) (CxOk.cons (p := (158, ref19_list.d k)) (ref19_list.ok k) (CxOk.nil)))))))
theorem l3 (k : Nat) : LoopOk Tryz.prog (S k) (lp (bodyF (Go.Proofs.Tryz.f142)) 0) := loopOk_mk (C := C k) (hC k) (Loops.all (n := 0) (by kernel_rfl) trivial) (lt := t3) (den := e3 k) (by kernel_rfl) (N := (Rows × Row)) (A := (Rows × Int)) (R := Rows)
 (fun n x => a3 n.1 n.2 x) (fun n r => o3_0 n.1 n.2 r) (fun n x => s3 k n.1 n.2 x) k (fun d => ((aR (aN d.a 0)), (d.r.getD 0 []))) (fun d => ((aR (aN d.a 2)), (aI (aN d.a 3)))) (fun d y h => out1_eval h) (fun d => by kernel_rfl) (fun n x => by kernel_rfl) (fun n r => ⟨_, rfl⟩)
theorem ok (k : Nat) : FunOk Tryz.prog 142 (d k) := fun_mk (C := C k) (hC k) (S := S k) Tryz.func142 (by kernel_rfl) (by kernel_rfl) (Loops.all (n := 1) (by kernel_rfl) ⟨trivial, l3 k⟩) (fun as_ => by kernel_rfl)
end ref19_fromPodTerms
namespace ref19_fromSpread
noncomputable def C (k : Nat) : Cx := ⟨Tryz.prog, tab [(138, ref19_num.d k), (136, ref19_at.d k), (146, ref19_truth.d k), (140, ref19_FromSelector.d k), (139, ref19_str.d k), (135, ref19_object.d k), (158, ref19_list.d k)], [], [], tab []⟩
noncomputable def t3 : LoopT := ⟨⟨46, [.tmp 3 43 133], [(0, .sl 112 none), (2, .ptr 2 0), (3, .sl 133 (some 43)), (4, .int .i64)], [], [(2, 133)], []⟩, (fun | .exit 0 => some ⟨46, [], [(2, .ptr 2 0), (3, .sl 133 (some 43))], [], [(2, 133)], []⟩ | _ => none)⟩
noncomputable def s3 (k : Nat) (c0 : Rows) (c1 : Row) (x : (Rows × Int)) : T ((Rows × Int) ⊕ Rows) :=
  .test (iLt x.2 (rLen c0))
   (.test (iIn x.2 (rLen c0))
    (.bnd (ref19_num.f k (rInt (rAt c0 x.2) 0)).eval default fun r0 =>
    .bnd (ref19_at.f k (bs [109, 97, 120, 83, 107, 101, 119]) (et 133 r0)).eval default fun r1 =>
    .test (iIn x.2 (rLen c0))
     (.bnd (ref19_truth.f k (rBool (rAt c0 x.2) 3)).eval default fun r2 =>
     .bnd (ref19_at.f k (bs [114, 101, 113, 117, 105, 114, 101, 100]) (et 133 r2)).eval default fun r3 =>
     .test (iIn x.2 (rLen c0))
      (.bnd (ref19_FromSelector.f k (rSl (rAt c0 x.2) 2)).eval default fun r4 =>
      .bnd (ref19_at.f k (bs [115, 101, 108, 101, 99, 116, 111, 114]) (et 133 r4)).eval default fun r5 =>
      .test (iIn x.2 (rLen c0))
       (.bnd (ref19_str.f k (rStr (rAt c0 x.2) 1)).eval default fun r6 =>
       .bnd (ref19_at.f k (bs [116, 111, 112, 111, 108, 111, 103, 121]) (et 133 r6)).eval default fun r7 =>
       .bnd (ref19_object.f k [(et 193 r1), (et 193 r3), (et 193 r5), (et 193 r7)]).eval default fun r8 =>
       .test (rOk 80 (rLen x.1) (rLen [(et 133 r8)]))
        (.ret (.inl ((rCat x.1 [(et 133 r8)]), (iAdd .i64 x.2 (1)))))
        (.fail))
       (.fail))
      (.fail))
     (.fail))
    (.fail))
   (.ret (.inr x.1))
noncomputable def a3 (c0 : Rows) (c1 : Row) (x : (Rows × Int)) : Dt := ⟨[.r c0, .u, .r x.1, .i x.2], [], [et 133 c1], []⟩
noncomputable def o3_0 (c0 : Rows) (c1 : Row) (r : Rows) : X × Dt := (.exit 0, ⟨[.u, .r r], [], [(et 133 c1)], []⟩)
noncomputable def e3 (k : Nat) (d : Dt) : T (X × Dt) := out1 (iter (s3 k (aR (aN d.a 0)) (d.r.getD 0 [])) k ((aR (aN d.a 2)), (aI (aN d.a 3)))) default (o3_0 (aR (aN d.a 0)) (d.r.getD 0 []))
noncomputable def S (k : Nat) : Subs := fun n => bif Nat.beq n 3 then some (loopV Tryz.prog t3 (e3 k)) else none
noncomputable def f (k : Nat) (a0 : Rows) : T Row :=
  .bnd (iter (ref19_fromSpread.s3 k a0 [.int .i64 (0), .int .i64 (0), .str ByteArray.empty, .slice 133 [] .open, .slice 193 [] .open]) k ([], (0))) default fun r0 =>
  .bnd (ref19_list.f k r0).eval default fun r1 =>
  .ret (et 133 r1)
noncomputable def d (k : Nat) : Fun := mkFun [37] (fun as_ => f k (vRows (vN as_ 0))) default (fun r => .agg (et 133 r))
theorem hC (k : Nat) : CxOk (C k) := CxOk.cons (p := (138, ref19_num.d k)) (ref19_num.ok k) (CxOk.cons (p := (136, ref19_at.d k)) (ref19_at.ok k) (CxOk.cons (p := (146, ref19_truth.d k)) (ref19_truth.ok k) (CxOk.cons (p := (140, ref19_FromSelector.d k)) (ref19_FromSelector.ok k) (CxOk.cons (p := (139, ref19_str.d k)) (ref19_str.ok k) (CxOk.cons (p := (135, ref19_object.d k)) (ref19_object.ok k) (CxOk.cons (p := (158, ref19_list.d k)) (ref19_list.ok k) (CxOk.nil)))))))
theorem l3 (k : Nat) : LoopOk Tryz.prog (S k) (lp (bodyF (Go.Proofs.Tryz.f143)) 0) := loopOk_mk (C := C k) (hC k) (Loops.all (n := 0) (by kernel_rfl) trivial) (lt := t3) (den := e3 k) (by kernel_rfl) (N := (Rows × Row)) (A := (Rows × Int)) (R := Rows)
 (fun n x => a3 n.1 n.2 x) (fun n r => o3_0 n.1 n.2 r) (fun n x => s3 k n.1 n.2 x) k (fun d => ((aR (aN d.a 0)), (d.r.getD 0 []))) (fun d => ((aR (aN d.a 2)), (aI (aN d.a 3)))) (fun d y h => out1_eval h) (fun d => by kernel_rfl) (fun n x => by kernel_rfl) (fun n r => ⟨_, rfl⟩)
theorem ok (k : Nat) : FunOk Tryz.prog 143 (d k) := fun_mk (C := C k) (hC k) (S := S k) Tryz.func143 (by kernel_rfl) (by kernel_rfl) (Loops.all (n := 1) (by kernel_rfl) ⟨trivial, l3 k⟩) (fun as_ => by kernel_rfl)
end ref19_fromSpread
namespace ref19_fromTolerations
noncomputable def C (k : Nat) : Cx := ⟨Tryz.prog, tab [(138, ref19_num.d k), (136, ref19_at.d k), (146, ref19_truth.d k), (139, ref19_str.d k), (135, ref19_object.d k), (158, ref19_list.d k)], [], [], tab []⟩
noncomputable def t3 : LoopT := ⟨⟨53, [.tmp 3 50 133], [(0, .sl 147 none), (2, .ptr 2 0), (3, .sl 133 (some 50)), (4, .int .i64)], [], [(2, 133)], []⟩, (fun | .exit 0 => some ⟨53, [], [(2, .ptr 2 0), (3, .sl 133 (some 50))], [], [(2, 133)], []⟩ | _ => none)⟩
noncomputable def s3 (k : Nat) (c0 : Rows) (c1 : Row) (x : (Rows × Int)) : T ((Rows × Int) ⊕ Rows) :=
  .test (iLt x.2 (rLen c0))
   (.test (iIn x.2 (rLen c0))
    (.bnd (ref19_num.f k (rInt (rAt c0 x.2) 3)).eval default fun r0 =>
    .bnd (ref19_at.f k (bs [101, 102, 102, 101, 99, 116]) (et 133 r0)).eval default fun r1 =>
    .test (iIn x.2 (rLen c0))
     (.bnd (ref19_truth.f k (rBool (rAt c0 x.2) 2)).eval default fun r2 =>
     .bnd (ref19_at.f k (bs [101, 120, 105, 115, 116, 115]) (et 133 r2)).eval default fun r3 =>
     .test (iIn x.2 (rLen c0))
      (.bnd (ref19_str.f k (rStr (rAt c0 x.2) 0)).eval default fun r4 =>
      .bnd (ref19_at.f k (bs [107, 101, 121]) (et 133 r4)).eval default fun r5 =>
      .test (iIn x.2 (rLen c0))
       (.bnd (ref19_num.f k (rInt (rAt c0 x.2) 4)).eval default fun r6 =>
       .bnd (ref19_at.f k (bs [115, 101, 99, 111, 110, 100, 115]) (et 133 r6)).eval default fun r7 =>
       .test (iIn x.2 (rLen c0))
        (.bnd (ref19_str.f k (rStr (rAt c0 x.2) 1)).eval default fun r8 =>
        .bnd (ref19_at.f k (bs [118, 97, 108, 117, 101]) (et 133 r8)).eval default fun r9 =>
        .bnd (ref19_object.f k [(et 193 r1), (et 193 r3), (et 193 r5), (et 193 r7), (et 193 r9)]).eval default fun r10 =>
        .test (rOk 80 (rLen x.1) (rLen [(et 133 r10)]))
         (.ret (.inl ((rCat x.1 [(et 133 r10)]), (iAdd .i64 x.2 (1)))))
         (.fail))
        (.fail))
       (.fail))
      (.fail))
     (.fail))
    (.fail))
   (.ret (.inr x.1))
noncomputable def a3 (c0 : Rows) (c1 : Row) (x : (Rows × Int)) : Dt := ⟨[.r c0, .u, .r x.1, .i x.2], [], [et 133 c1], []⟩
noncomputable def o3_0 (c0 : Rows) (c1 : Row) (r : Rows) : X × Dt := (.exit 0, ⟨[.u, .r r], [], [(et 133 c1)], []⟩)
noncomputable def e3 (k : Nat) (d : Dt) : T (X × Dt) := out1 (iter (s3 k (aR (aN d.a 0)) (d.r.getD 0 [])) k ((aR (aN d.a 2)), (aI (aN d.a 3)))) default (o3_0 (aR (aN d.a 0)) (d.r.getD 0 []))
noncomputable def S (k : Nat) : Subs := fun n => bif Nat.beq n 3 then some (loopV Tryz.prog t3 (e3 k)) else none
noncomputable def f (k : Nat) (a0 : Rows) : T Row :=
  .bnd (iter (ref19_fromTolerations.s3 k a0 [.int .i64 (0), .int .i64 (0), .str ByteArray.empty, .slice 133 [] .open, .slice 193 [] .open]) k ([], (0))) default fun r0 =>
  .bnd (ref19_list.f k r0).eval default fun r1 =>
  .ret (et 133 r1)
noncomputable def d (k : Nat) : Fun := mkFun [38] (fun as_ => f k (vRows (vN as_ 0))) default (fun r => .agg (et 133 r))
theorem hC (k : Nat) : CxOk (C k) := CxOk.cons (p := (138, ref19_num.d k)) (ref19_num.ok k) (CxOk.cons (p := (136, ref19_at.d k)) (ref19_at.ok k) (CxOk.cons (p := (146, ref19_truth.d k)) (ref19_truth.ok k) (CxOk.cons (p := (139, ref19_str.d k)) (ref19_str.ok k) (CxOk.cons (p := (135, ref19_object.d k)) (ref19_object.ok k) (CxOk.cons (p := (158, ref19_list.d k)) (ref19_list.ok k) (CxOk.nil))))))
theorem l3 (k : Nat) : LoopOk Tryz.prog (S k) (lp (bodyF (Go.Proofs.Tryz.f144)) 0) := loopOk_mk (C := C k) (hC k) (Loops.all (n := 0) (by kernel_rfl) trivial) (lt := t3) (den := e3 k) (by kernel_rfl) (N := (Rows × Row)) (A := (Rows × Int)) (R := Rows)
 (fun n x => a3 n.1 n.2 x) (fun n r => o3_0 n.1 n.2 r) (fun n x => s3 k n.1 n.2 x) k (fun d => ((aR (aN d.a 0)), (d.r.getD 0 []))) (fun d => ((aR (aN d.a 2)), (aI (aN d.a 3)))) (fun d y h => out1_eval h) (fun d => by kernel_rfl) (fun n x => by kernel_rfl) (fun n r => ⟨_, rfl⟩)
theorem ok (k : Nat) : FunOk Tryz.prog 144 (d k) := fun_mk (C := C k) (hC k) (S := S k) Tryz.func144 (by kernel_rfl) (by kernel_rfl) (Loops.all (n := 1) (by kernel_rfl) ⟨trivial, l3 k⟩) (fun as_ => by kernel_rfl)
end ref19_fromTolerations
namespace ref19_FromSpec
noncomputable def C (k : Nat) : Cx := ⟨Tryz.prog, tab [(137, ref19_fromContainers.d k), (136, ref19_at.d k), (138, ref19_num.d k), (139, ref19_str.d k), (140, ref19_FromSelector.d k), (141, ref19_fromNodeTerms.d k), (142, ref19_fromPodTerms.d k), (143, ref19_fromSpread.d k), (144, ref19_fromTolerations.d k), (135, ref19_object.d k)], [], [], tab []⟩
noncomputable def S (k : Nat) : Subs := fun n => none
noncomputable def f (k : Nat) (a0 : Row) : T Row :=
  .bnd (ref19_fromContainers.f k (rSl a0 4)).eval default fun r0 =>
  .bnd (ref19_at.f k (bs [99, 111, 110, 116, 97, 105, 110, 101, 114, 115]) (et 133 r0)).eval default fun r1 =>
  .bnd (ref19_num.f k (rInt a0 3)).eval default fun r2 =>
  .bnd (ref19_at.f k (bs [103, 114, 97, 99, 101]) (et 133 r2)).eval default fun r3 =>
  .bnd (ref19_str.f k (rStr a0 0)).eval default fun r4 =>
  .bnd (ref19_at.f k (bs [110, 111, 100, 101]) (et 133 r4)).eval default fun r5 =>
  .bnd (ref19_FromSelector.f k (rSl a0 5)).eval default fun r6 =>
  .bnd (ref19_at.f k (bs [110, 111, 100, 101, 83, 101, 108, 101, 99, 116, 111, 114]) (et 133 r6)).eval default fun r7 =>
  .bnd (ref19_fromNodeTerms.f k (rSl a0 6)).eval default fun r8 =>
  .bnd (ref19_at.f k (bs [110, 111, 100, 101, 84, 101, 114, 109, 115]) (et 133 r8)).eval default fun r9 =>
  .bnd (ref19_fromPodTerms.f k (rSl a0 7)).eval default fun r10 =>
  .bnd (ref19_at.f k (bs [112, 111, 100, 84, 101, 114, 109, 115]) (et 133 r10)).eval default fun r11 =>
  .bnd (ref19_num.f k (rInt a0 1)).eval default fun r12 =>
  .bnd (ref19_at.f k (bs [112, 114, 105, 111, 114, 105, 116, 121]) (et 133 r12)).eval default fun r13 =>
  .bnd (ref19_num.f k (rInt a0 2)).eval default fun r14 =>
  .bnd (ref19_at.f k (bs [114, 101, 115, 116, 97, 114, 116]) (et 133 r14)).eval default fun r15 =>
  .bnd (ref19_fromSpread.f k (rSl a0 8)).eval default fun r16 =>
  .bnd (ref19_at.f k (bs [115, 112, 114, 101, 97, 100]) (et 133 r16)).eval default fun r17 =>
  .bnd (ref19_fromTolerations.f k (rSl a0 9)).eval default fun r18 =>
  .bnd (ref19_at.f k (bs [116, 111, 108, 101, 114, 97, 116, 105, 111, 110, 115]) (et 133 r18)).eval default fun r19 =>
  .bnd (ref19_object.f k [(et 193 r1), (et 193 r3), (et 193 r5), (et 193 r7), (et 193 r9), (et 193 r11), (et 193 r13), (et 193 r15), (et 193 r17), (et 193 r19)]).eval default fun r20 =>
  .ret (et 133 r20)
noncomputable def d (k : Nat) : Fun := mkFun [40] (fun as_ => f k (vRow (vN as_ 0))) default (fun r => .agg (et 133 r))
theorem hC (k : Nat) : CxOk (C k) := CxOk.cons (p := (137, ref19_fromContainers.d k)) (ref19_fromContainers.ok k) (CxOk.cons (p := (136, ref19_at.d k)) (ref19_at.ok k) (CxOk.cons (p := (138, ref19_num.d k)) (ref19_num.ok k) (CxOk.cons (p := (139, ref19_str.d k)) (ref19_str.ok k) (CxOk.cons (p := (140, ref19_FromSelector.d k)) (ref19_FromSelector.ok k) (CxOk.cons (p := (141, ref19_fromNodeTerms.d k)) (ref19_fromNodeTerms.ok k) (CxOk.cons (p := (142, ref19_fromPodTerms.d k)) (ref19_fromPodTerms.ok k) (CxOk.cons (p := (143, ref19_fromSpread.d k)) (ref19_fromSpread.ok k) (CxOk.cons (p := (144, ref19_fromTolerations.d k)) (ref19_fromTolerations.ok k) (CxOk.cons (p := (135, ref19_object.d k)) (ref19_object.ok k) (CxOk.nil))))))))))
theorem ok (k : Nat) : FunOk Tryz.prog 107 (d k) := fun_mk (C := C k) (hC k) (S := S k) Tryz.func107 (by kernel_rfl) (by kernel_rfl) (Loops.all (n := 0) (by kernel_rfl) trivial) (fun as_ => by kernel_rfl)
end ref19_FromSpec
namespace ref19_fromStatuses
noncomputable def C (k : Nat) : Cx := ⟨Tryz.prog, tab [(138, ref19_num.d k), (136, ref19_at.d k), (139, ref19_str.d k), (146, ref19_truth.d k), (135, ref19_object.d k), (158, ref19_list.d k)], [], [], tab []⟩
noncomputable def t3 : LoopT := ⟨⟨51, [.tmp 3 48 133], [(0, .sl 218 none), (2, .ptr 2 0), (3, .sl 133 (some 48)), (4, .int .i64)], [], [(2, 133)], []⟩, (fun | .exit 0 => some ⟨51, [], [(2, .ptr 2 0), (3, .sl 133 (some 48))], [], [(2, 133)], []⟩ | _ => none)⟩
noncomputable def s3 (k : Nat) (c0 : Rows) (c1 : Row) (x : (Rows × Int)) : T ((Rows × Int) ⊕ Rows) :=
  .test (iLt x.2 (rLen c0))
   (.test (iIn x.2 (rLen c0))
    (.bnd (ref19_num.f k (rInt (rAt c0 x.2) 3)).eval default fun r0 =>
    .bnd (ref19_at.f k (bs [101, 120, 105, 116, 67, 111, 100, 101]) (et 133 r0)).eval default fun r1 =>
    .bnd (ref19_str.f k (rStr (rAt c0 x.2) 0)).eval default fun r2 =>
    .bnd (ref19_at.f k (bs [110, 97, 109, 101]) (et 133 r2)).eval default fun r3 =>
    .bnd (ref19_truth.f k (rBool (rAt c0 x.2) 5)).eval default fun r4 =>
    .bnd (ref19_at.f k (bs [114, 101, 97, 100, 121]) (et 133 r4)).eval default fun r5 =>
    .bnd (ref19_num.f k (rInt (rAt c0 x.2) 2)).eval default fun r6 =>
    .bnd (ref19_at.f k (bs [114, 101, 115, 116, 97, 114, 116, 115]) (et 133 r6)).eval default fun r7 =>
    .bnd (ref19_num.f k (rInt (rAt c0 x.2) 4)).eval default fun r8 =>
    .bnd (ref19_at.f k (bs [115, 105, 110, 99, 101]) (et 133 r8)).eval default fun r9 =>
    .bnd (ref19_truth.f k (rBool (rAt c0 x.2) 6)).eval default fun r10 =>
    .bnd (ref19_at.f k (bs [115, 116, 97, 114, 116, 101, 100]) (et 133 r10)).eval default fun r11 =>
    .bnd (ref19_num.f k (rInt (rAt c0 x.2) 1)).eval default fun r12 =>
    .bnd (ref19_at.f k (bs [115, 116, 97, 116, 101]) (et 133 r12)).eval default fun r13 =>
    .bnd (ref19_object.f k [(et 193 r1), (et 193 r3), (et 193 r5), (et 193 r7), (et 193 r9), (et 193 r11), (et 193 r13)]).eval default fun r14 =>
    .test (rOk 80 (rLen x.1) (rLen [(et 133 r14)]))
     (.ret (.inl ((rCat x.1 [(et 133 r14)]), (iAdd .i64 x.2 (1)))))
     (.fail))
    (.fail))
   (.ret (.inr x.1))
noncomputable def a3 (c0 : Rows) (c1 : Row) (x : (Rows × Int)) : Dt := ⟨[.r c0, .u, .r x.1, .i x.2], [], [et 133 c1], []⟩
noncomputable def o3_0 (c0 : Rows) (c1 : Row) (r : Rows) : X × Dt := (.exit 0, ⟨[.u, .r r], [], [(et 133 c1)], []⟩)
noncomputable def e3 (k : Nat) (d : Dt) : T (X × Dt) := out1 (iter (s3 k (aR (aN d.a 0)) (d.r.getD 0 [])) k ((aR (aN d.a 2)), (aI (aN d.a 3)))) default (o3_0 (aR (aN d.a 0)) (d.r.getD 0 []))
noncomputable def S (k : Nat) : Subs := fun n => bif Nat.beq n 3 then some (loopV Tryz.prog t3 (e3 k)) else none
noncomputable def f (k : Nat) (a0 : Rows) : T Row :=
  .bnd (iter (ref19_fromStatuses.s3 k a0 [.int .i64 (0), .int .i64 (0), .str ByteArray.empty, .slice 133 [] .open, .slice 193 [] .open]) k ([], (0))) default fun r0 =>
  .bnd (ref19_list.f k r0).eval default fun r1 =>
  .ret (et 133 r1)
noncomputable def d (k : Nat) : Fun := mkFun [41] (fun as_ => f k (vRows (vN as_ 0))) default (fun r => .agg (et 133 r))
theorem hC (k : Nat) : CxOk (C k) := CxOk.cons (p := (138, ref19_num.d k)) (ref19_num.ok k) (CxOk.cons (p := (136, ref19_at.d k)) (ref19_at.ok k) (CxOk.cons (p := (139, ref19_str.d k)) (ref19_str.ok k) (CxOk.cons (p := (146, ref19_truth.d k)) (ref19_truth.ok k) (CxOk.cons (p := (135, ref19_object.d k)) (ref19_object.ok k) (CxOk.cons (p := (158, ref19_list.d k)) (ref19_list.ok k) (CxOk.nil))))))
theorem l3 (k : Nat) : LoopOk Tryz.prog (S k) (lp (bodyF (Go.Proofs.Tryz.f145)) 0) := loopOk_mk (C := C k) (hC k) (Loops.all (n := 0) (by kernel_rfl) trivial) (lt := t3) (den := e3 k) (by kernel_rfl) (N := (Rows × Row)) (A := (Rows × Int)) (R := Rows)
 (fun n x => a3 n.1 n.2 x) (fun n r => o3_0 n.1 n.2 r) (fun n x => s3 k n.1 n.2 x) k (fun d => ((aR (aN d.a 0)), (d.r.getD 0 []))) (fun d => ((aR (aN d.a 2)), (aI (aN d.a 3)))) (fun d y h => out1_eval h) (fun d => by kernel_rfl) (fun n x => by kernel_rfl) (fun n r => ⟨_, rfl⟩)
theorem ok (k : Nat) : FunOk Tryz.prog 145 (d k) := fun_mk (C := C k) (hC k) (S := S k) Tryz.func145 (by kernel_rfl) (by kernel_rfl) (Loops.all (n := 1) (by kernel_rfl) ⟨trivial, l3 k⟩) (fun as_ => by kernel_rfl)
end ref19_fromStatuses
namespace ref19_fromStatus
noncomputable def C (k : Nat) : Cx := ⟨Tryz.prog, tab [(138, ref19_num.d k), (136, ref19_at.d k), (145, ref19_fromStatuses.d k), (139, ref19_str.d k), (146, ref19_truth.d k), (135, ref19_object.d k)], [], [], tab []⟩
noncomputable def S (k : Nat) : Subs := fun n => none
noncomputable def f (k : Nat) (a0 : Row) : T Row :=
  .bnd (ref19_num.f k (rInt a0 6)).eval default fun r0 =>
  .bnd (ref19_at.f k (bs [97, 100, 100, 114, 101, 115, 115]) (et 133 r0)).eval default fun r1 =>
  .bnd (ref19_fromStatuses.f k (rSl a0 5)).eval default fun r2 =>
  .bnd (ref19_at.f k (bs [99, 111, 110, 116, 97, 105, 110, 101, 114, 115]) (et 133 r2)).eval default fun r3 =>
  .bnd (ref19_num.f k (rInt a0 4)).eval default fun r4 =>
  .bnd (ref19_at.f k (bs [102, 105, 110, 105, 115, 104, 101, 100]) (et 133 r4)).eval default fun r5 =>
  .bnd (ref19_str.f k (rStr a0 7)).eval default fun r6 =>
  .bnd (ref19_at.f k (bs [110, 111, 109, 105, 110, 97, 116, 101, 100]) (et 133 r6)).eval default fun r7 =>
  .bnd (ref19_num.f k (rInt a0 0)).eval default fun r8 =>
  .bnd (ref19_at.f k (bs [112, 104, 97, 115, 101]) (et 133 r8)).eval default fun r9 =>
  .bnd (ref19_truth.f k (rBool a0 1)).eval default fun r10 =>
  .bnd (ref19_at.f k (bs [114, 101, 97, 100, 121]) (et 133 r10)).eval default fun r11 =>
  .bnd (ref19_num.f k (rInt a0 2)).eval default fun r12 =>
  .bnd (ref19_at.f k (bs [114, 101, 97, 100, 121, 83, 105, 110, 99, 101]) (et 133 r12)).eval default fun r13 =>
  .bnd (ref19_str.f k (rStr a0 8)).eval default fun r14 =>
  .bnd (ref19_at.f k (bs [114, 101, 97, 115, 111, 110]) (et 133 r14)).eval default fun r15 =>
  .bnd (ref19_num.f k (rInt a0 3)).eval default fun r16 =>
  .bnd (ref19_at.f k (bs [115, 116, 97, 114, 116, 101, 100]) (et 133 r16)).eval default fun r17 =>
  .bnd (ref19_object.f k [(et 193 r1), (et 193 r3), (et 193 r5), (et 193 r7), (et 193 r9), (et 193 r11), (et 193 r13), (et 193 r15), (et 193 r17)]).eval default fun r18 =>
  .ret (et 133 r18)
noncomputable def d (k : Nat) : Fun := mkFun [43] (fun as_ => f k (vRow (vN as_ 0))) default (fun r => .agg (et 133 r))
theorem hC (k : Nat) : CxOk (C k) := CxOk.cons (p := (138, ref19_num.d k)) (ref19_num.ok k) (CxOk.cons (p := (136, ref19_at.d k)) (ref19_at.ok k) (CxOk.cons (p := (145, ref19_fromStatuses.d k)) (ref19_fromStatuses.ok k) (CxOk.cons (p := (139, ref19_str.d k)) (ref19_str.ok k) (CxOk.cons (p := (146, ref19_truth.d k)) (ref19_truth.ok k) (CxOk.cons (p := (135, ref19_object.d k)) (ref19_object.ok k) (CxOk.nil))))))
theorem ok (k : Nat) : FunOk Tryz.prog 108 (d k) := fun_mk (C := C k) (hC k) (S := S k) Tryz.func108 (by kernel_rfl) (by kernel_rfl) (Loops.all (n := 0) (by kernel_rfl) trivial) (fun as_ => by kernel_rfl)
end ref19_fromStatus
namespace ref19_FromPod
noncomputable def C (k : Nat) : Cx := ⟨Tryz.prog, tab [(107, ref19_FromSpec.d k), (108, ref19_fromStatus.d k)], [], [], tab []⟩
noncomputable def S (k : Nat) : Subs := fun n => none
noncomputable def f (k : Nat) (a0 : Row) : T Row :=
  .bnd (ref19_FromSpec.f k (eo 40 a0 13)).eval default fun r0 =>
  .bnd (ref19_fromStatus.f k (eo 43 a0 23)).eval default fun r1 =>
  .ret (rJ [[.str (bs [80, 111, 100]), .str (rStr a0 1), .str (rStr a0 2), .int .i64 (rInt a0 3), .int .i64 (rInt a0 4), .int .i64 (rInt a0 5), .int .i64 (rInt a0 6), .bool (rBool a0 7), .int .i64 (rInt a0 8), .slice 89 (rSl a0 9) .open, .slice 91 (rSl a0 10) .open, .slice 9 (rSl a0 11) .open, .slice 93 (rSl a0 12) .open], (et 133 r0), (et 133 r1)])
noncomputable def d (k : Nat) : Fun := mkFun [45] (fun as_ => f k (vRow (vN as_ 0))) default (fun r => .agg (et 135 r))
theorem hC (k : Nat) : CxOk (C k) := CxOk.cons (p := (107, ref19_FromSpec.d k)) (ref19_FromSpec.ok k) (CxOk.cons (p := (108, ref19_fromStatus.d k)) (ref19_fromStatus.ok k) (CxOk.nil))
theorem ok (k : Nat) : FunOk Tryz.prog 69 (d k) := fun_mk (C := C k) (hC k) (S := S k) Tryz.func69 (by kernel_rfl) (by kernel_rfl) (Loops.all (n := 0) (by kernel_rfl) trivial) (fun as_ => by kernel_rfl)
end ref19_FromPod
namespace law19_SmallMeta
noncomputable def C (k : Nat) : Cx := ⟨Tryz.prog, tab [], [], [], tab []⟩
noncomputable def t4 : LoopT := ⟨⟨121, [], [(1, .ptr 1 0), (50, .sl 89 none), (51, .int .i64), (52, .int .i64)], [], [(1, 32)], []⟩, (fun | .ret => some ⟨121, [], [(2, .bool)], [], [], []⟩ | .exit 0 => some ⟨121, [], [(1, .ptr 1 0)], [], [(1, 32)], []⟩ | _ => none)⟩
noncomputable def s4 (k : Nat) (c0 : Rows) (c1 : Int) (c2 : Row) (x : Int) : T (Int ⊕ (Bool ⊕ Unit)) :=
  .test (iLt x c1)
   (.test (iIn x (rLen c0))
    (.test (iLt (400) (iAdd .i64 (sLen (rStr (rAt c0 x) 0)) (sLen (rStr (rAt c0 x) 1))))
     (.ret (.inr (.inl false)))
     (.ret (.inl (iAdd .i64 x (1)))))
    (.fail))
   (.ret (.inr (.inr ())))
noncomputable def a4 (c0 : Rows) (c1 : Int) (c2 : Row) (x : Int) : Dt := ⟨[.u, .r c0, .i c1, .i x], [], [et 32 c2], []⟩
noncomputable def o4_0 (c0 : Rows) (c1 : Int) (c2 : Row) (r : Bool) : X × Dt := (.ret, ⟨[.b r], [], [], []⟩)
noncomputable def o4_1 (c0 : Rows) (c1 : Int) (c2 : Row) (r : Unit) : X × Dt := (.exit 0, ⟨[.u], [], [(et 32 c2)], []⟩)
noncomputable def e4 (k : Nat) (d : Dt) : T (X × Dt) := out2 (iter (s4 k (aR (aN d.a 1)) (aI (aN d.a 2)) (d.r.getD 0 [])) k (aI (aN d.a 3))) (o4_0 (aR (aN d.a 1)) (aI (aN d.a 2)) (d.r.getD 0 [])) (o4_1 (aR (aN d.a 1)) (aI (aN d.a 2)) (d.r.getD 0 []))
noncomputable def t10 : LoopT := ⟨⟨121, [], [(1, .ptr 1 0), (66, .sl 91 none), (67, .int .i64), (68, .int .i64)], [], [(1, 32)], []⟩, (fun | .ret => some ⟨121, [], [(2, .bool)], [], [], []⟩ | .exit 2 => some ⟨121, [], [(1, .ptr 1 0)], [], [(1, 32)], []⟩ | _ => none)⟩
noncomputable def s10 (k : Nat) (c0 : Rows) (c1 : Int) (c2 : Row) (x : Int) : T (Int ⊕ (Bool ⊕ Unit)) :=
  .test (iLt x c1)
   (.test (iIn x (rLen c0))
    (.test (iLt (400) (iAdd .i64 (sLen (rStr (rAt c0 x) 0)) (sLen (rStr (rAt c0 x) 1))))
     (.ret (.inr (.inl false)))
     (.ret (.inl (iAdd .i64 x (1)))))
    (.fail))
   (.ret (.inr (.inr ())))
noncomputable def a10 (c0 : Rows) (c1 : Int) (c2 : Row) (x : Int) : Dt := ⟨[.u, .r c0, .i c1, .i x], [], [et 32 c2], []⟩
noncomputable def o10_0 (c0 : Rows) (c1 : Int) (c2 : Row) (r : Bool) : X × Dt := (.ret, ⟨[.b r], [], [], []⟩)
noncomputable def o10_1 (c0 : Rows) (c1 : Int) (c2 : Row) (r : Unit) : X × Dt := (.exit 2, ⟨[.u], [], [(et 32 c2)], []⟩)
noncomputable def e10 (k : Nat) (d : Dt) : T (X × Dt) := out2 (iter (s10 k (aR (aN d.a 1)) (aI (aN d.a 2)) (d.r.getD 0 [])) k (aI (aN d.a 3))) (o10_0 (aR (aN d.a 1)) (aI (aN d.a 2)) (d.r.getD 0 [])) (o10_1 (aR (aN d.a 1)) (aI (aN d.a 2)) (d.r.getD 0 []))
noncomputable def t16 : LoopT := ⟨⟨121, [], [(1, .ptr 1 0), (82, .sl 9 none), (83, .int .i64), (84, .int .i64)], [], [(1, 32)], []⟩, (fun | .ret => some ⟨121, [], [(2, .bool)], [], [], []⟩ | .exit 4 => some ⟨121, [], [(1, .ptr 1 0)], [], [(1, 32)], []⟩ | _ => none)⟩
noncomputable def s16 (k : Nat) (c0 : Rows) (c1 : Int) (c2 : Row) (x : Int) : T (Int ⊕ (Bool ⊕ Unit)) :=
  .test (iLt x c1)
   (.test (iIn x (rLen c0))
    (.test (iLt (400) (sLen (rStr (rAt c0 x) 0)))
     (.ret (.inr (.inl false)))
     (.ret (.inl (iAdd .i64 x (1)))))
    (.fail))
   (.ret (.inr (.inr ())))
noncomputable def a16 (c0 : Rows) (c1 : Int) (c2 : Row) (x : Int) : Dt := ⟨[.u, .r c0, .i c1, .i x], [], [et 32 c2], []⟩
noncomputable def o16_0 (c0 : Rows) (c1 : Int) (c2 : Row) (r : Bool) : X × Dt := (.ret, ⟨[.b r], [], [], []⟩)
noncomputable def o16_1 (c0 : Rows) (c1 : Int) (c2 : Row) (r : Unit) : X × Dt := (.exit 4, ⟨[.u], [], [(et 32 c2)], []⟩)
noncomputable def e16 (k : Nat) (d : Dt) : T (X × Dt) := out2 (iter (s16 k (aR (aN d.a 1)) (aI (aN d.a 2)) (d.r.getD 0 [])) k (aI (aN d.a 3))) (o16_0 (aR (aN d.a 1)) (aI (aN d.a 2)) (d.r.getD 0 [])) (o16_1 (aR (aN d.a 1)) (aI (aN d.a 2)) (d.r.getD 0 []))
noncomputable def t27 : LoopT := ⟨⟨121, [], [(93, .sl 93 none), (94, .int .i64), (95, .int .i64), (110, .sl 9 none), (111, .int .i64), (112, .int .i64)], [], [], []⟩, (fun | .ret => some ⟨121, [], [(2, .bool)], [], [], []⟩ | .exit 8 => some ⟨121, [], [(93, .sl 93 none), (94, .int .i64), (95, .int .i64)], [], [], []⟩ | _ => none)⟩
noncomputable def s27 (k : Nat) (c0 : Rows) (c1 : Int) (c2 : Int) (c3 : Rows) (c4 : Int) (x : Int) : T (Int ⊕ (Bool ⊕ Unit)) :=
  .test (iLt x c4)
   (.test (iIn x (rLen c3))
    (.test (iLt (2000) (sLen (rStr (rAt c3 x) 0)))
     (.ret (.inr (.inl false)))
     (.ret (.inl (iAdd .i64 x (1)))))
    (.fail))
   (.ret (.inr (.inr ())))
noncomputable def a27 (c0 : Rows) (c1 : Int) (c2 : Int) (c3 : Rows) (c4 : Int) (x : Int) : Dt := ⟨[.r c0, .i c1, .i c2, .r c3, .i c4, .i x], [], [], []⟩
noncomputable def o27_0 (c0 : Rows) (c1 : Int) (c2 : Int) (c3 : Rows) (c4 : Int) (r : Bool) : X × Dt := (.ret, ⟨[.b r], [], [], []⟩)
noncomputable def o27_1 (c0 : Rows) (c1 : Int) (c2 : Int) (c3 : Rows) (c4 : Int) (r : Unit) : X × Dt := (.exit 8, ⟨[.r c0, .i c1, .i c2], [], [], []⟩)
noncomputable def e27 (k : Nat) (d : Dt) : T (X × Dt) := out2 (iter (s27 k (aR (aN d.a 0)) (aI (aN d.a 1)) (aI (aN d.a 2)) (aR (aN d.a 3)) (aI (aN d.a 4))) k (aI (aN d.a 5))) (o27_0 (aR (aN d.a 0)) (aI (aN d.a 1)) (aI (aN d.a 2)) (aR (aN d.a 3)) (aI (aN d.a 4))) (o27_1 (aR (aN d.a 0)) (aI (aN d.a 1)) (aI (aN d.a 2)) (aR (aN d.a 3)) (aI (aN d.a 4)))
noncomputable def t22 : LoopT := ⟨⟨121, [], [(93, .sl 93 none), (94, .int .i64), (95, .int .i64)], [], [], []⟩, (fun | .ret => some ⟨121, [], [(2, .bool)], [], [], []⟩ | .exit 6 => some ⟨121, [], [], [], [], []⟩ | _ => none)⟩
noncomputable def s22 (k : Nat) (c0 : Rows) (c1 : Int) (x : Int) : T (Int ⊕ (Bool ⊕ Unit)) :=
  .test (iLt x c1)
   (.test (iIn x (rLen c0))
    (.test (bIte (iLt (400) (sLen (rStr (rAt c0 x) 0))) true (iLt (200) (rLen (rSl (rAt c0 x) 1))))
     (.ret (.inr (.inl false)))
     (.cas (iter (law19_SmallMeta.s27 k c0 c1 x (rSl (rAt c0 x) 1) (rLen (rSl (rAt c0 x) 1))) k (0)) (fun r0 =>
      .ret (.inr (.inl r0))) (fun r1 =>
      .ret (.inl (iAdd .i64 x (1))))))
    (.fail))
   (.ret (.inr (.inr ())))
noncomputable def a22 (c0 : Rows) (c1 : Int) (x : Int) : Dt := ⟨[.r c0, .i c1, .i x], [], [], []⟩
noncomputable def o22_0 (c0 : Rows) (c1 : Int) (r : Bool) : X × Dt := (.ret, ⟨[.b r], [], [], []⟩)
noncomputable def o22_1 (c0 : Rows) (c1 : Int) (r : Unit) : X × Dt := (.exit 6, ⟨[], [], [], []⟩)
noncomputable def e22 (k : Nat) (d : Dt) : T (X × Dt) := out2 (iter (s22 k (aR (aN d.a 0)) (aI (aN d.a 1))) k (aI (aN d.a 2))) (o22_0 (aR (aN d.a 0)) (aI (aN d.a 1))) (o22_1 (aR (aN d.a 0)) (aI (aN d.a 1)))
noncomputable def S (k : Nat) : Subs := fun n => bif Nat.beq n 4 then some (loopV Tryz.prog t4 (e4 k)) else bif Nat.beq n 10 then some (loopV Tryz.prog t10 (e10 k)) else bif Nat.beq n 16 then some (loopV Tryz.prog t16 (e16 k)) else bif Nat.beq n 27 then some (loopV Tryz.prog t27 (e27 k)) else bif Nat.beq n 22 then some (loopV Tryz.prog t22 (e22 k)) else none
noncomputable def f (k : Nat) (a0 : Row) : T Bool :=
  .test (bIte (bIte (bIte (bIte (iLt (60) (rLen (rSl a0 9))) true (iLt (60) (rLen (rSl a0 10)))) true (iLt (60) (rLen (rSl a0 11)))) true (iLt (60) (rLen (rSl a0 12)))) true (iLt (400) (iAdd .i64 (iAdd .i64 (sLen (rStr a0 0)) (sLen (rStr a0 1))) (sLen (rStr a0 2)))))
   (.ret false)
   (.cas (iter (law19_SmallMeta.s4 k (rSl a0 9) (rLen (rSl a0 9)) (et 32 a0)) k (0)) (fun r0 =>
    .ret r0) (fun r1 =>
    .cas (iter (law19_SmallMeta.s10 k (rSl a0 10) (rLen (rSl a0 10)) (et 32 a0)) k (0)) (fun r2 =>
     .ret r2) (fun r3 =>
     .cas (iter (law19_SmallMeta.s16 k (rSl a0 11) (rLen (rSl a0 11)) (et 32 a0)) k (0)) (fun r4 =>
      .ret r4) (fun r5 =>
      .cas (iter (law19_SmallMeta.s22 k (rSl a0 12) (rLen (rSl a0 12))) k (0)) (fun r6 =>
       .ret r6) (fun r7 =>
       .ret true)))))
noncomputable def d (k : Nat) : Fun := mkFun [32] (fun as_ => f k (vRow (vN as_ 0))) default (fun r => .bool r)
theorem hC (k : Nat) : CxOk (C k) := CxOk.nil
theorem l4 (k : Nat) : LoopOk Tryz.prog (S k) (lp (bodyF (Go.Proofs.Tryz.f22)) 0) := loopOk_mk (C := C k) (hC k) (Loops.all (n := 0) (by kernel_rfl) trivial) (lt := t4) (den := e4 k) (by kernel_rfl) (N := (Rows × Int × Row)) (A := Int) (R := (Bool ⊕ Unit))
 (fun n x => a4 n.1 n.2.1 n.2.2 x) (fun n r => Sum.elim (o4_0 n.1 n.2.1 n.2.2) (o4_1 n.1 n.2.1 n.2.2) r) (fun n x => s4 k n.1 n.2.1 n.2.2 x) k (fun d => ((aR (aN d.a 1)), (aI (aN d.a 2)), (d.r.getD 0 []))) (fun d => (aI (aN d.a 3))) (fun d y h => out2_eval h) (fun d => by kernel_rfl) (fun n x => by kernel_rfl) (fun n r => by rcases r with r | r <;> exact ⟨_, rfl⟩)
theorem l10 (k : Nat) : LoopOk Tryz.prog (S k) (lp (bodyF (Go.Proofs.Tryz.f22)) 1) := loopOk_mk (C := C k) (hC k) (Loops.all (n := 0) (by kernel_rfl) trivial) (lt := t10) (den := e10 k) (by kernel_rfl) (N := (Rows × Int × Row)) (A := Int) (R := (Bool ⊕ Unit))
 (fun n x => a10 n.1 n.2.1 n.2.2 x) (fun n r => Sum.elim (o10_0 n.1 n.2.1 n.2.2) (o10_1 n.1 n.2.1 n.2.2) r) (fun n x => s10 k n.1 n.2.1 n.2.2 x) k (fun d => ((aR (aN d.a 1)), (aI (aN d.a 2)), (d.r.getD 0 []))) (fun d => (aI (aN d.a 3))) (fun d y h => out2_eval h) (fun d => by kernel_rfl) (fun n x => by kernel_rfl) (fun n r => by rcases r with r | r <;> exact ⟨_, rfl⟩)
theorem l16 (k : Nat) : LoopOk Tryz.prog (S k) (lp (bodyF (Go.Proofs.Tryz.f22)) 2) := loopOk_mk (C := C k) (hC k) (Loops.all (n := 0) (by kernel_rfl) trivial) (lt := t16) (den := e16 k) (by kernel_rfl) (N := (Rows × Int × Row)) (A := Int) (R := (Bool ⊕ Unit))
 (fun n x => a16 n.1 n.2.1 n.2.2 x) (fun n r => Sum.elim (o16_0 n.1 n.2.1 n.2.2) (o16_1 n.1 n.2.1 n.2.2) r) (fun n x => s16 k n.1 n.2.1 n.2.2 x) k (fun d => ((aR (aN d.a 1)), (aI (aN d.a 2)), (d.r.getD 0 []))) (fun d => (aI (aN d.a 3))) (fun d y h => out2_eval h) (fun d => by kernel_rfl) (fun n x => by kernel_rfl) (fun n r => by rcases r with r | r <;> exact ⟨_, rfl⟩)
theorem l27 (k : Nat) : LoopOk Tryz.prog (S k) (lp (lp (bodyF (Go.Proofs.Tryz.f22)) 3) 0) := loopOk_mk (C := C k) (hC k) (Loops.all (n := 0) (by kernel_rfl) trivial) (lt := t27) (den := e27 k) (by kernel_rfl) (N := (Rows × Int × Int × Rows × Int)) (A := Int) (R := (Bool ⊕ Unit))
 (fun n x => a27 n.1 n.2.1 n.2.2.1 n.2.2.2.1 n.2.2.2.2 x) (fun n r => Sum.elim (o27_0 n.1 n.2.1 n.2.2.1 n.2.2.2.1 n.2.2.2.2) (o27_1 n.1 n.2.1 n.2.2.1 n.2.2.2.1 n.2.2.2.2) r) (fun n x => s27 k n.1 n.2.1 n.2.2.1 n.2.2.2.1 n.2.2.2.2 x) k (fun d => ((aR (aN d.a 0)), (aI (aN d.a 1)), (aI (aN d.a 2)), (aR (aN d.a 3)), (aI (aN d.a 4)))) (fun d => (aI (aN d.a 5))) (fun d y h => out2_eval h) (fun d => by kernel_rfl) (fun n x => by kernel_rfl) (fun n r => by rcases r with r | r <;> exact ⟨_, rfl⟩)
theorem l22 (k : Nat) : LoopOk Tryz.prog (S k) (lp (bodyF (Go.Proofs.Tryz.f22)) 3) := loopOk_mk (C := C k) (hC k) (Loops.all (n := 1) (by kernel_rfl) ⟨trivial, l27 k⟩) (lt := t22) (den := e22 k) (by kernel_rfl) (N := (Rows × Int)) (A := Int) (R := (Bool ⊕ Unit))
 (fun n x => a22 n.1 n.2 x) (fun n r => Sum.elim (o22_0 n.1 n.2) (o22_1 n.1 n.2) r) (fun n x => s22 k n.1 n.2 x) k (fun d => ((aR (aN d.a 0)), (aI (aN d.a 1)))) (fun d => (aI (aN d.a 2))) (fun d y h => out2_eval h) (fun d => by kernel_rfl) (fun n x => by kernel_rfl) (fun n r => by rcases r with r | r <;> exact ⟨_, rfl⟩)
theorem ok (k : Nat) : FunOk Tryz.prog 22 (d k) := fun_mk (C := C k) (hC k) (S := S k) Tryz.func22 (by kernel_rfl) (by kernel_rfl) (Loops.all (n := 4) (by kernel_rfl) ⟨⟨⟨⟨trivial, l4 k⟩, l10 k⟩, l16 k⟩, l22 k⟩) (fun as_ => by kernel_rfl)
end law19_SmallMeta
namespace ref06_left
noncomputable def F (self : Row → Int → T Int) : Fun := mkFun [133, 3] (fun as_ => self (vRow (vN as_ 0)) (vInt (vN as_ 1))) default (fun r => .int .i64 r)
noncomputable def C (k : Nat) (self : Row → Int → T Int) : Cx := ⟨Tryz.prog, tab [(109, F self)], [], [], tab []⟩
noncomputable def t3 : LoopT := ⟨⟨59, [], [(1, .int .i64), (2, .ptr 2 0), (5, .int .i64)], [], [(2, 133)], []⟩, (fun | .exit 0 => some ⟨59, [], [(1, .int .i64), (2, .ptr 2 0)], [], [(2, 133)], []⟩ | _ => none)⟩
noncomputable def s3 (k : Nat) (self : Row → Int → T Int) (c0 : Row) (x : (Int × Int)) : T ((Int × Int) ⊕ Int) :=
  .test (bIte (iLt x.2 (rLen (rSl c0 3))) (iLe (0) x.1) false)
   (.test (iIn x.2 (rLen (rSl c0 3)))
    (.bnd (self (et 133 (rAt (rSl c0 3) x.2)) x.1).eval default fun r0 =>
    .ret (.inl (r0, (iAdd .i64 x.2 (1)))))
    (.fail))
   (.ret (.inr x.1))
noncomputable def a3 (c0 : Row) (x : (Int × Int)) : Dt := ⟨[.i x.1, .u, .i x.2], [], [et 133 c0], []⟩
noncomputable def o3_0 (c0 : Row) (r : Int) : X × Dt := (.exit 0, ⟨[.i r, .u], [], [(et 133 c0)], []⟩)
noncomputable def e3 (k : Nat) (self : Row → Int → T Int) (d : Dt) : T (X × Dt) := out1 (iter (s3 k self (d.r.getD 0 [])) k ((aI (aN d.a 0)), (aI (aN d.a 2)))) default (o3_0 (d.r.getD 0 []))
noncomputable def t7 : LoopT := ⟨⟨59, [], [(1, .int .i64), (2, .ptr 2 0), (6, .int .i64)], [], [(2, 133)], []⟩, (fun | .exit 2 => some ⟨59, [], [(1, .int .i64)], [], [], []⟩ | _ => none)⟩
noncomputable def s7 (k : Nat) (self : Row → Int → T Int) (c0 : Row) (x : (Int × Int)) : T ((Int × Int) ⊕ Int) :=
  .test (bIte (iLt x.2 (rLen (rSl c0 4))) (iLe (0) x.1) false)
   (.test (iIn x.2 (rLen (rSl c0 4)))
    (.test (iIn x.2 (rLen (rSl c0 4)))
     (.bnd (self (eo 133 (rAt (rSl c0 4) x.2) 1) (iSub .i64 x.1 (sLen (rStr (rAt (rSl c0 4) x.2) 0)))).eval default fun r0 =>
     .ret (.inl (r0, (iAdd .i64 x.2 (1)))))
     (.fail))
    (.fail))
   (.ret (.inr x.1))
noncomputable def a7 (c0 : Row) (x : (Int × Int)) : Dt := ⟨[.i x.1, .u, .i x.2], [], [et 133 c0], []⟩
noncomputable def o7_0 (c0 : Row) (r : Int) : X × Dt := (.exit 2, ⟨[.i r], [], [], []⟩)
noncomputable def e7 (k : Nat) (self : Row → Int → T Int) (d : Dt) : T (X × Dt) := out1 (iter (s7 k self (d.r.getD 0 [])) k ((aI (aN d.a 0)), (aI (aN d.a 2)))) default (o7_0 (d.r.getD 0 []))
noncomputable def S (k : Nat) (self : Row → Int → T Int) : Subs := fun n => bif Nat.beq n 3 then some (loopV Tryz.prog t3 (e3 k self)) else bif Nat.beq n 7 then some (loopV Tryz.prog t7 (e7 k self)) else none
noncomputable def f : Nat → Row → Int → T Int
  | 0, _, _ => .fail
  | k + 1, a0, a1 =>
  .bnd (iter (ref06_left.s3 k (f k) (et 133 a0)) k ((iSub .i64 (iSub .i64 a1 (1)) (sLen (rStr a0 2))), (0))) default fun r0 =>
  .bnd (iter (ref06_left.s7 k (f k) (et 133 a0)) k (r0, (0))) default fun r1 =>
  .ret r1
noncomputable def d (k : Nat) : Fun := F (f k)
theorem hC (k : Nat) (self : Row → Int → T Int) (ih : FunOk Tryz.prog 109 (F self)) : CxOk (C k self) := CxOk.cons (p := (109, F self)) ih (CxOk.nil)
theorem l3 (k : Nat) (self : Row → Int → T Int) (ih : FunOk Tryz.prog 109 (F self)) : LoopOk Tryz.prog (S k self) (lp (bodyF (Go.Proofs.Tryz.f109)) 0) := loopOk_mk (C := C k self) (hC k self ih) (Loops.all (n := 0) (by kernel_rfl) trivial) (lt := t3) (den := e3 k self) (by kernel_rfl) (N := Row) (A := (Int × Int)) (R := Int)
 (fun n x => a3 n x) (fun n r => o3_0 n r) (fun n x => s3 k self n x) k (fun d => (d.r.getD 0 [])) (fun d => ((aI (aN d.a 0)), (aI (aN d.a 2)))) (fun d y h => out1_eval h) (fun d => by kernel_rfl) (fun n x => by kernel_rfl) (fun n r => ⟨_, rfl⟩)
theorem l7 (k : Nat) (self : Row → Int → T Int) (ih : FunOk Tryz.prog 109 (F self)) : LoopOk Tryz.prog (S k self) (lp (bodyF (Go.Proofs.Tryz.f109)) 1) := loopOk_mk (C := C k self) (hC k self ih) (Loops.all (n := 0) (by kernel_rfl) trivial) (lt := t7) (den := e7 k self) (by kernel_rfl) (N := Row) (A := (Int × Int)) (R := Int)
 (fun n x => a7 n x) (fun n r => o7_0 n r) (fun n x => s7 k self n x) k (fun d => (d.r.getD 0 [])) (fun d => ((aI (aN d.a 0)), (aI (aN d.a 2)))) (fun d y h => out1_eval h) (fun d => by kernel_rfl) (fun n x => by kernel_rfl) (fun n r => ⟨_, rfl⟩)
theorem ok : ∀ k, FunOk Tryz.prog 109 (d k)
  | 0 => fun_zero Tryz.func109 (by kernel_rfl) (by kernel_rfl) (fun _ => rfl)
  | k + 1 => fun_mk (C := C k (f k)) (hC k (f k) (ok k)) (S := S k (f k)) Tryz.func109 (by kernel_rfl) (by kernel_rfl) (Loops.all (n := 2) (by kernel_rfl) ⟨⟨trivial, l3 k (f k) (ok k)⟩, l7 k (f k) (ok k)⟩) (fun as_ => by kernel_rfl)
end ref06_left
namespace ref06_Few
noncomputable def C (k : Nat) : Cx := ⟨Tryz.prog, tab [(109, ref06_left.d k)], [], [], tab []⟩
noncomputable def S (k : Nat) : Subs := fun n => none
noncomputable def f (k : Nat) (a0 : Row) (a1 : Int) : T Bool :=
  .bnd (ref06_left.f k (et 133 a0) a1).eval default fun r0 =>
  .ret (iLe (0) r0)
noncomputable def d (k : Nat) : Fun := mkFun [133, 3] (fun as_ => f k (vRow (vN as_ 0)) (vInt (vN as_ 1))) default (fun r => .bool r)
theorem hC (k : Nat) : CxOk (C k) := CxOk.cons (p := (109, ref06_left.d k)) (ref06_left.ok k) (CxOk.nil)
theorem ok (k : Nat) : FunOk Tryz.prog 70 (d k) := fun_mk (C := C k) (hC k) (S := S k) Tryz.func70 (by kernel_rfl) (by kernel_rfl) (Loops.all (n := 0) (by kernel_rfl) trivial) (fun as_ => by kernel_rfl)
end ref06_Few
namespace law19_SmallPod
noncomputable def C (k : Nat) : Cx := ⟨Tryz.prog, tab [(69, ref19_FromPod.d k), (22, law19_SmallMeta.d k), (70, ref06_Few.d k)], [], [], tab []⟩
noncomputable def S (k : Nat) : Subs := fun n => none
noncomputable def f (k : Nat) (a0 : Row) : T Bool :=
  .bnd (ref19_FromPod.f k (et 45 a0)).eval default fun r0 =>
  .bnd (law19_SmallMeta.f k (et 32 a0)).eval default fun r1 =>
  .opt r1 (ref06_Few.f k (eo 133 r0 13) (20000)).eval default fun r2 =>
  .opt (bIte r1 r2 false) (ref06_Few.f k (eo 133 r0 18) (20000)).eval default fun r3 =>
  .ret (bIte (bIte r1 r2 false) r3 false)
noncomputable def d (k : Nat) : Fun := mkFun [45] (fun as_ => f k (vRow (vN as_ 0))) default (fun r => .bool r)
theorem hC (k : Nat) : CxOk (C k) := CxOk.cons (p := (69, ref19_FromPod.d k)) (ref19_FromPod.ok k) (CxOk.cons (p := (22, law19_SmallMeta.d k)) (law19_SmallMeta.ok k) (CxOk.cons (p := (70, ref06_Few.d k)) (ref06_Few.ok k) (CxOk.nil)))
theorem ok (k : Nat) : FunOk Tryz.prog 41 (d k) := fun_mk (C := C k) (hC k) (S := S k) Tryz.func41 (by kernel_rfl) (by kernel_rfl) (Loops.all (n := 0) (by kernel_rfl) trivial) (fun as_ => by kernel_rfl)
end law19_SmallPod
namespace law22_Small
noncomputable def C (k : Nat) : Cx := ⟨Tryz.prog, tab [(41, law19_SmallPod.d k)], [], [], tab []⟩
noncomputable def t4 : LoopT := ⟨⟨18, [], [(8, .sl 45 none), (9, .int .i64), (10, .int .i64)], [], [], []⟩, (fun | .ret => some ⟨18, [], [(2, .bool)], [], [], []⟩ | .exit 0 => some ⟨18, [], [], [], [], []⟩ | _ => none)⟩
noncomputable def s4 (k : Nat) (c0 : Rows) (c1 : Int) (x : Int) : T (Int ⊕ (Bool ⊕ Unit)) :=
  .test (iLt x c1)
   (.test (iIn x (rLen c0))
    (.bnd (law19_SmallPod.f k (et 45 (rAt c0 x))).eval default fun r0 =>
    .test (bNot r0)
     (.ret (.inr (.inl false)))
     (.ret (.inl (iAdd .i64 x (1)))))
    (.fail))
   (.ret (.inr (.inr ())))
noncomputable def a4 (c0 : Rows) (c1 : Int) (x : Int) : Dt := ⟨[.r c0, .i c1, .i x], [], [], []⟩
noncomputable def o4_0 (c0 : Rows) (c1 : Int) (r : Bool) : X × Dt := (.ret, ⟨[.b r], [], [], []⟩)
noncomputable def o4_1 (c0 : Rows) (c1 : Int) (r : Unit) : X × Dt := (.exit 0, ⟨[], [], [], []⟩)
noncomputable def e4 (k : Nat) (d : Dt) : T (X × Dt) := out2 (iter (s4 k (aR (aN d.a 0)) (aI (aN d.a 1))) k (aI (aN d.a 2))) (o4_0 (aR (aN d.a 0)) (aI (aN d.a 1))) (o4_1 (aR (aN d.a 0)) (aI (aN d.a 1)))
noncomputable def S (k : Nat) : Subs := fun n => bif Nat.beq n 4 then some (loopV Tryz.prog t4 (e4 k)) else none
noncomputable def f (k : Nat) (a0 : Rows) : T Bool :=
  .test (iLt (20) (rLen a0))
   (.ret false)
   (.cas (iter (law22_Small.s4 k a0 (rLen a0)) k (0)) (fun r0 =>
    .ret r0) (fun r1 =>
    .ret true))
noncomputable def d (k : Nat) : Fun := mkFun [23] (fun as_ => f k (vRows (vN as_ 0))) default (fun r => .bool r)
theorem hC (k : Nat) : CxOk (C k) := CxOk.cons (p := (41, law19_SmallPod.d k)) (law19_SmallPod.ok k) (CxOk.nil)
theorem l4 (k : Nat) : LoopOk Tryz.prog (S k) (lp (bodyF (Go.Proofs.Tryz.f39)) 0) := loopOk_mk (C := C k) (hC k) (Loops.all (n := 0) (by kernel_rfl) trivial) (lt := t4) (den := e4 k) (by kernel_rfl) (N := (Rows × Int)) (A := Int) (R := (Bool ⊕ Unit))
 (fun n x => a4 n.1 n.2 x) (fun n r => Sum.elim (o4_0 n.1 n.2) (o4_1 n.1 n.2) r) (fun n x => s4 k n.1 n.2 x) k (fun d => ((aR (aN d.a 0)), (aI (aN d.a 1)))) (fun d => (aI (aN d.a 2))) (fun d y h => out2_eval h) (fun d => by kernel_rfl) (fun n x => by kernel_rfl) (fun n r => by rcases r with r | r <;> exact ⟨_, rfl⟩)
theorem ok (k : Nat) : FunOk Tryz.prog 39 (d k) := fun_mk (C := C k) (hC k) (S := S k) Tryz.func39 (by kernel_rfl) (by kernel_rfl) (Loops.all (n := 1) (by kernel_rfl) ⟨trivial, l4 k⟩) (fun as_ => by kernel_rfl)
end law22_Small
namespace law36_SmallPod
noncomputable def C (k : Nat) : Cx := ⟨Tryz.prog, tab [(41, law19_SmallPod.d k)], [], [], tab []⟩
noncomputable def S (k : Nat) : Subs := fun n => none
noncomputable def f (k : Nat) (a0 : Row) : T Bool :=
  .bnd (law19_SmallPod.f k (et 45 a0)).eval default fun r0 =>
  .ret (bIte (bIte (bIte (bIte r0 (iLe (rLen (rSl a0 19)) (30)) false) (iLe (rLen (rSl a0 20)) (30)) false) (iLe (rLen (rSl a0 21)) (10)) false) (iLe (rLen (rSl a0 22)) (60)) false)
noncomputable def d (k : Nat) : Fun := mkFun [45] (fun as_ => f k (vRow (vN as_ 0))) default (fun r => .bool r)
theorem hC (k : Nat) : CxOk (C k) := CxOk.cons (p := (41, law19_SmallPod.d k)) (law19_SmallPod.ok k) (CxOk.nil)
theorem ok (k : Nat) : FunOk Tryz.prog 21 (d k) := fun_mk (C := C k) (hC k) (S := S k) Tryz.func21 (by kernel_rfl) (by kernel_rfl) (Loops.all (n := 0) (by kernel_rfl) trivial) (fun as_ => by kernel_rfl)
end law36_SmallPod
namespace law36_SmallNode
noncomputable def C (k : Nat) : Cx := ⟨Tryz.prog, tab [(22, law19_SmallMeta.d k)], [], [], tab []⟩
noncomputable def S (k : Nat) : Subs := fun n => none
noncomputable def f (k : Nat) (a0 : Row) : T Bool :=
  .bnd (law19_SmallMeta.f k (et 32 a0)).eval default fun r0 =>
  .ret (bIte (bIte r0 (iLe (rLen (rSl a0 18)) (60)) false) (iLe (rLen (rSl a0 23)) (60)) false)
noncomputable def d (k : Nat) : Fun := mkFun [51] (fun as_ => f k (vRow (vN as_ 0))) default (fun r => .bool r)
theorem hC (k : Nat) : CxOk (C k) := CxOk.cons (p := (22, law19_SmallMeta.d k)) (law19_SmallMeta.ok k) (CxOk.nil)
theorem ok (k : Nat) : FunOk Tryz.prog 8 (d k) := fun_mk (C := C k) (hC k) (S := S k) Tryz.func8 (by kernel_rfl) (by kernel_rfl) (Loops.all (n := 0) (by kernel_rfl) trivial) (fun as_ => by kernel_rfl)
end law36_SmallNode
namespace ref03_char
noncomputable def C (k : Nat) : Cx := ⟨Tryz.prog, tab [], [], [], tab []⟩
noncomputable def S (k : Nat) : Subs := fun n => none
noncomputable def f (k : Nat) (a0 : Int) : T Bool :=
  .ret (bIte (bIte (bIte (bIte (bIte (iLe (97) a0) (iLe a0 (122)) false) true (bIte (iLe (48) a0) (iLe a0 (57)) false)) true (iEq a0 (45))) true (iEq a0 (46))) true (iEq a0 (47)))
noncomputable def d (k : Nat) : Fun := mkFun [5] (fun as_ => f k (vInt (vN as_ 0))) default (fun r => .bool r)
theorem hC (k : Nat) : CxOk (C k) := CxOk.nil
theorem ok (k : Nat) : FunOk Tryz.prog 134 (d k) := fun_mk (C := C k) (hC k) (S := S k) Tryz.func134 (by kernel_rfl) (by kernel_rfl) (Loops.all (n := 0) (by kernel_rfl) trivial) (fun as_ => by kernel_rfl)
end ref03_char
namespace ref03_ValidKey
noncomputable def C (k : Nat) : Cx := ⟨Tryz.prog, tab [(134, ref03_char.d k)], [], [], tab []⟩
noncomputable def t4 : LoopT := ⟨⟨33, [], [(0, .str), (3, .int .i64)], [], [], []⟩, (fun | .ret => some ⟨33, [], [(2, .bool)], [], [], []⟩ | .exit 0 => some ⟨33, [], [], [], [], []⟩ | _ => none)⟩
noncomputable def s4 (k : Nat) (c0 : ByteArray) (x : Int) : T (Int ⊕ (Bool ⊕ Unit)) :=
  .test (iLt x (sLen c0))
   (.test (iIn x (sLen c0))
    (.bnd (ref03_char.f k (sAt c0 x)).eval default fun r0 =>
    .test (bNot r0)
     (.ret (.inr (.inl false)))
     (.ret (.inl (iAdd .i64 x (1)))))
    (.fail))
   (.ret (.inr (.inr ())))
noncomputable def a4 (c0 : ByteArray) (x : Int) : Dt := ⟨[.s c0, .i x], [], [], []⟩
noncomputable def o4_0 (c0 : ByteArray) (r : Bool) : X × Dt := (.ret, ⟨[.b r], [], [], []⟩)
noncomputable def o4_1 (c0 : ByteArray) (r : Unit) : X × Dt := (.exit 0, ⟨[], [], [], []⟩)
noncomputable def e4 (k : Nat) (d : Dt) : T (X × Dt) := out2 (iter (s4 k (aS (aN d.a 0))) k (aI (aN d.a 1))) (o4_0 (aS (aN d.a 0))) (o4_1 (aS (aN d.a 0)))
noncomputable def S (k : Nat) : Subs := fun n => bif Nat.beq n 4 then some (loopV Tryz.prog t4 (e4 k)) else none
noncomputable def f (k : Nat) (a0 : ByteArray) : T Bool :=
  .test (bImp (bNot (bIte (iLt (sLen a0) (1)) true (iLt (40) (sLen a0)))) (iIn (0) (sLen a0)))
   (.test (bImp (bNot (bIte (bIte (iLt (sLen a0) (1)) true (iLt (40) (sLen a0))) true (iLt (sAt a0 (0)) (97)))) (iIn (0) (sLen a0)))
    (.test (bIte (bIte (bIte (iLt (sLen a0) (1)) true (iLt (40) (sLen a0))) true (iLt (sAt a0 (0)) (97))) true (iLt (122) (sAt a0 (0))))
     (.ret false)
     (.cas (iter (ref03_ValidKey.s4 k a0) k (0)) (fun r0 =>
      .ret r0) (fun r1 =>
      .ret true)))
    (.fail))
   (.fail)
noncomputable def d (k : Nat) : Fun := mkFun [9] (fun as_ => f k (vStr (vN as_ 0))) default (fun r => .bool r)
theorem hC (k : Nat) : CxOk (C k) := CxOk.cons (p := (134, ref03_char.d k)) (ref03_char.ok k) (CxOk.nil)
theorem l4 (k : Nat) : LoopOk Tryz.prog (S k) (lp (bodyF (Go.Proofs.Tryz.f105)) 0) := loopOk_mk (C := C k) (hC k) (Loops.all (n := 0) (by kernel_rfl) trivial) (lt := t4) (den := e4 k) (by kernel_rfl) (N := ByteArray) (A := Int) (R := (Bool ⊕ Unit))
 (fun n x => a4 n x) (fun n r => Sum.elim (o4_0 n) (o4_1 n) r) (fun n x => s4 k n x) k (fun d => (aS (aN d.a 0))) (fun d => (aI (aN d.a 1))) (fun d y h => out2_eval h) (fun d => by kernel_rfl) (fun n x => by kernel_rfl) (fun n r => by rcases r with r | r <;> exact ⟨_, rfl⟩)
theorem ok (k : Nat) : FunOk Tryz.prog 105 (d k) := fun_mk (C := C k) (hC k) (S := S k) Tryz.func105 (by kernel_rfl) (by kernel_rfl) (Loops.all (n := 1) (by kernel_rfl) ⟨trivial, l4 k⟩) (fun as_ => by kernel_rfl)
end ref03_ValidKey
namespace ref03_ValidValue
noncomputable def C (k : Nat) : Cx := ⟨Tryz.prog, tab [(134, ref03_char.d k)], [], [], tab []⟩
noncomputable def t4 : LoopT := ⟨⟨24, [], [(0, .str), (3, .int .i64)], [], [], []⟩, (fun | .ret => some ⟨24, [], [(2, .bool)], [], [], []⟩ | .exit 0 => some ⟨24, [], [], [], [], []⟩ | _ => none)⟩
noncomputable def s4 (k : Nat) (c0 : ByteArray) (x : Int) : T (Int ⊕ (Bool ⊕ Unit)) :=
  .test (iLt x (sLen c0))
   (.test (iIn x (sLen c0))
    (.bnd (ref03_char.f k (sAt c0 x)).eval default fun r0 =>
    .test (bImp (bNot (bNot r0)) (iIn x (sLen c0)))
     (.test (bIte (bNot r0) true (iEq (sAt c0 x) (47)))
      (.ret (.inr (.inl false)))
      (.ret (.inl (iAdd .i64 x (1)))))
     (.fail))
    (.fail))
   (.ret (.inr (.inr ())))
noncomputable def a4 (c0 : ByteArray) (x : Int) : Dt := ⟨[.s c0, .i x], [], [], []⟩
noncomputable def o4_0 (c0 : ByteArray) (r : Bool) : X × Dt := (.ret, ⟨[.b r], [], [], []⟩)
noncomputable def o4_1 (c0 : ByteArray) (r : Unit) : X × Dt := (.exit 0, ⟨[], [], [], []⟩)
noncomputable def e4 (k : Nat) (d : Dt) : T (X × Dt) := out2 (iter (s4 k (aS (aN d.a 0))) k (aI (aN d.a 1))) (o4_0 (aS (aN d.a 0))) (o4_1 (aS (aN d.a 0)))
noncomputable def S (k : Nat) : Subs := fun n => bif Nat.beq n 4 then some (loopV Tryz.prog t4 (e4 k)) else none
noncomputable def f (k : Nat) (a0 : ByteArray) : T Bool :=
  .test (iLt (40) (sLen a0))
   (.ret false)
   (.cas (iter (ref03_ValidValue.s4 k a0) k (0)) (fun r0 =>
    .ret r0) (fun r1 =>
    .ret true))
noncomputable def d (k : Nat) : Fun := mkFun [9] (fun as_ => f k (vStr (vN as_ 0))) default (fun r => .bool r)
theorem hC (k : Nat) : CxOk (C k) := CxOk.cons (p := (134, ref03_char.d k)) (ref03_char.ok k) (CxOk.nil)
theorem l4 (k : Nat) : LoopOk Tryz.prog (S k) (lp (bodyF (Go.Proofs.Tryz.f106)) 0) := loopOk_mk (C := C k) (hC k) (Loops.all (n := 0) (by kernel_rfl) trivial) (lt := t4) (den := e4 k) (by kernel_rfl) (N := ByteArray) (A := Int) (R := (Bool ⊕ Unit))
 (fun n x => a4 n x) (fun n r => Sum.elim (o4_0 n) (o4_1 n) r) (fun n x => s4 k n x) k (fun d => (aS (aN d.a 0))) (fun d => (aI (aN d.a 1))) (fun d y h => out2_eval h) (fun d => by kernel_rfl) (fun n x => by kernel_rfl) (fun n r => by rcases r with r | r <;> exact ⟨_, rfl⟩)
theorem ok (k : Nat) : FunOk Tryz.prog 106 (d k) := fun_mk (C := C k) (hC k) (S := S k) Tryz.func106 (by kernel_rfl) (by kernel_rfl) (Loops.all (n := 1) (by kernel_rfl) ⟨trivial, l4 k⟩) (fun as_ => by kernel_rfl)
end ref03_ValidValue
namespace ref03_validOne
noncomputable def C (k : Nat) : Cx := ⟨Tryz.prog, tab [(105, ref03_ValidKey.d k), (106, ref03_ValidValue.d k)], [], [], tab []⟩
noncomputable def t8 : LoopT := ⟨⟨72, [], [(1, .ptr 1 0), (3, .int .i64)], [], [(1, 129)], []⟩, (fun | .ret => some ⟨72, [], [(2, .bool)], [], [], []⟩ | .exit 0 => some ⟨72, [], [], [], [], []⟩ | _ => none)⟩
noncomputable def s8 (k : Nat) (c0 : Row) (x : Int) : T (Int ⊕ (Bool ⊕ Unit)) :=
  .test (iLt x (rLen (rSl c0 2)))
   (.test (iIn x (rLen (rSl c0 2)))
    (.bnd (ref03_ValidValue.f k (rStr (rAt (rSl c0 2) x) 0)).eval default fun r0 =>
    .test (bImp (bAnd (bNot (bNot r0)) (iLt (0) x)) (iIn (iSub .i64 x (1)) (rLen (rSl c0 2))))
     (.test (bImp (bAnd (bNot (bNot r0)) (iLt (0) x)) (iIn x (rLen (rSl c0 2))))
      (.test (bIte (bNot r0) true (bIte (iLt (0) x) (bNot (sLt (rStr (rAt (rSl c0 2) (iSub .i64 x (1))) 0) (rStr (rAt (rSl c0 2) x) 0))) false))
       (.ret (.inr (.inl false)))
       (.ret (.inl (iAdd .i64 x (1)))))
      (.fail))
     (.fail))
    (.fail))
   (.ret (.inr (.inr ())))
noncomputable def a8 (c0 : Row) (x : Int) : Dt := ⟨[.u, .i x], [], [et 129 c0], []⟩
noncomputable def o8_0 (c0 : Row) (r : Bool) : X × Dt := (.ret, ⟨[.b r], [], [], []⟩)
noncomputable def o8_1 (c0 : Row) (r : Unit) : X × Dt := (.exit 0, ⟨[], [], [], []⟩)
noncomputable def e8 (k : Nat) (d : Dt) : T (X × Dt) := out2 (iter (s8 k (d.r.getD 0 [])) k (aI (aN d.a 1))) (o8_0 (d.r.getD 0 [])) (o8_1 (d.r.getD 0 []))
noncomputable def S (k : Nat) : Subs := fun n => bif Nat.beq n 8 then some (loopV Tryz.prog t8 (e8 k)) else none
noncomputable def f (k : Nat) (a0 : Row) : T Bool :=
  .bnd (ref03_ValidKey.f k (rStr a0 0)).eval default fun r0 =>
  .test (bNot r0)
   (.ret false)
   (.test (bIte (iEq (rInt a0 1) (3)) true (iEq (rInt a0 1) (4)))
    (.ret (iEq (rLen (rSl a0 2)) (0)))
    (.test (bIte (bIte (bIte (bNot (iEq (rInt a0 1) (1))) (bNot (iEq (rInt a0 1) (2))) false) true (iLt (rLen (rSl a0 2)) (1))) true (iLt (64) (rLen (rSl a0 2))))
     (.ret false)
     (.cas (iter (ref03_validOne.s8 k (et 129 a0)) k (0)) (fun r1 =>
      .ret r1) (fun r2 =>
      .ret true))))
noncomputable def d (k : Nat) : Fun := mkFun [129] (fun as_ => f k (vRow (vN as_ 0))) default (fun r => .bool r)
theorem hC (k : Nat) : CxOk (C k) := CxOk.cons (p := (105, ref03_ValidKey.d k)) (ref03_ValidKey.ok k) (CxOk.cons (p := (106, ref03_ValidValue.d k)) (ref03_ValidValue.ok k) (CxOk.nil))
theorem l8 (k : Nat) : LoopOk Tryz.prog (S k) (lp (bodyF (Go.Proofs.Tryz.f68)) 0) := loopOk_mk (C := C k) (hC k) (Loops.all (n := 0) (by kernel_rfl) trivial) (lt := t8) (den := e8 k) (by kernel_rfl) (N := Row) (A := Int) (R := (Bool ⊕ Unit))
 (fun n x => a8 n x) (fun n r => Sum.elim (o8_0 n) (o8_1 n) r) (fun n x => s8 k n x) k (fun d => (d.r.getD 0 [])) (fun d => (aI (aN d.a 1))) (fun d y h => out2_eval h) (fun d => by kernel_rfl) (fun n x => by kernel_rfl) (fun n r => by rcases r with r | r <;> exact ⟨_, rfl⟩)
theorem ok (k : Nat) : FunOk Tryz.prog 68 (d k) := fun_mk (C := C k) (hC k) (S := S k) Tryz.func68 (by kernel_rfl) (by kernel_rfl) (Loops.all (n := 1) (by kernel_rfl) ⟨trivial, l8 k⟩) (fun as_ => by kernel_rfl)
end ref03_validOne
namespace ref03_ValidSelector
noncomputable def C (k : Nat) : Cx := ⟨Tryz.prog, tab [(68, ref03_validOne.d k)], [], [], tab []⟩
noncomputable def t4 : LoopT := ⟨⟨19, [], [(0, .sl 129 none), (3, .int .i64)], [], [], []⟩, (fun | .ret => some ⟨19, [], [(2, .bool)], [], [], []⟩ | .exit 0 => some ⟨19, [], [], [], [], []⟩ | _ => none)⟩
noncomputable def s4 (k : Nat) (c0 : Rows) (x : Int) : T (Int ⊕ (Bool ⊕ Unit)) :=
  .test (iLt x (rLen c0))
   (.test (iIn x (rLen c0))
    (.bnd (ref03_validOne.f k (et 129 (rAt c0 x))).eval default fun r0 =>
    .test (bNot r0)
     (.ret (.inr (.inl false)))
     (.ret (.inl (iAdd .i64 x (1)))))
    (.fail))
   (.ret (.inr (.inr ())))
noncomputable def a4 (c0 : Rows) (x : Int) : Dt := ⟨[.r c0, .i x], [], [], []⟩
noncomputable def o4_0 (c0 : Rows) (r : Bool) : X × Dt := (.ret, ⟨[.b r], [], [], []⟩)
noncomputable def o4_1 (c0 : Rows) (r : Unit) : X × Dt := (.exit 0, ⟨[], [], [], []⟩)
noncomputable def e4 (k : Nat) (d : Dt) : T (X × Dt) := out2 (iter (s4 k (aR (aN d.a 0))) k (aI (aN d.a 1))) (o4_0 (aR (aN d.a 0))) (o4_1 (aR (aN d.a 0)))
noncomputable def S (k : Nat) : Subs := fun n => bif Nat.beq n 4 then some (loopV Tryz.prog t4 (e4 k)) else none
noncomputable def f (k : Nat) (a0 : Rows) : T Bool :=
  .test (iLt (16) (rLen a0))
   (.ret false)
   (.cas (iter (ref03_ValidSelector.s4 k a0) k (0)) (fun r0 =>
    .ret r0) (fun r1 =>
    .ret true))
noncomputable def d (k : Nat) : Fun := mkFun [34] (fun as_ => f k (vRows (vN as_ 0))) default (fun r => .bool r)
theorem hC (k : Nat) : CxOk (C k) := CxOk.cons (p := (68, ref03_validOne.d k)) (ref03_validOne.ok k) (CxOk.nil)
theorem l4 (k : Nat) : LoopOk Tryz.prog (S k) (lp (bodyF (Go.Proofs.Tryz.f40)) 0) := loopOk_mk (C := C k) (hC k) (Loops.all (n := 0) (by kernel_rfl) trivial) (lt := t4) (den := e4 k) (by kernel_rfl) (N := Rows) (A := Int) (R := (Bool ⊕ Unit))
 (fun n x => a4 n x) (fun n r => Sum.elim (o4_0 n) (o4_1 n) r) (fun n x => s4 k n x) k (fun d => (aR (aN d.a 0))) (fun d => (aI (aN d.a 1))) (fun d y h => out2_eval h) (fun d => by kernel_rfl) (fun n x => by kernel_rfl) (fun n r => by rcases r with r | r <;> exact ⟨_, rfl⟩)
theorem ok (k : Nat) : FunOk Tryz.prog 40 (d k) := fun_mk (C := C k) (hC k) (S := S k) Tryz.func40 (by kernel_rfl) (by kernel_rfl) (Loops.all (n := 1) (by kernel_rfl) ⟨trivial, l4 k⟩) (fun as_ => by kernel_rfl)
end ref03_ValidSelector
namespace law36_SmallView
noncomputable def C (k : Nat) : Cx := ⟨Tryz.prog, tab [(39, law22_Small.d k), (21, law36_SmallPod.d k), (8, law36_SmallNode.d k), (22, law19_SmallMeta.d k), (40, ref03_ValidSelector.d k)], [], [], tab []⟩
noncomputable def t4 : LoopT := ⟨⟨83, [], [(1, .ptr 1 0), (26, .sl 45 none), (27, .int .i64), (28, .int .i64)], [], [(1, 26)], []⟩, (fun | .ret => some ⟨83, [], [(2, .bool)], [], [], []⟩ | .exit 0 => some ⟨83, [], [(1, .ptr 1 0)], [], [(1, 26)], []⟩ | _ => none)⟩
noncomputable def s4 (k : Nat) (c0 : Rows) (c1 : Int) (c2 : Row) (x : Int) : T (Int ⊕ (Bool ⊕ Unit)) :=
  .test (iLt x c1)
   (.test (iIn x (rLen c0))
    (.bnd (law36_SmallPod.f k (et 45 (rAt c0 x))).eval default fun r0 =>
    .test (bNot r0)
     (.ret (.inr (.inl false)))
     (.ret (.inl (iAdd .i64 x (1)))))
    (.fail))
   (.ret (.inr (.inr ())))
noncomputable def a4 (c0 : Rows) (c1 : Int) (c2 : Row) (x : Int) : Dt := ⟨[.u, .r c0, .i c1, .i x], [], [et 26 c2], []⟩
noncomputable def o4_0 (c0 : Rows) (c1 : Int) (c2 : Row) (r : Bool) : X × Dt := (.ret, ⟨[.b r], [], [], []⟩)
noncomputable def o4_1 (c0 : Rows) (c1 : Int) (c2 : Row) (r : Unit) : X × Dt := (.exit 0, ⟨[.u], [], [(et 26 c2)], []⟩)
noncomputable def e4 (k : Nat) (d : Dt) : T (X × Dt) := out2 (iter (s4 k (aR (aN d.a 1)) (aI (aN d.a 2)) (d.r.getD 0 [])) k (aI (aN d.a 3))) (o4_0 (aR (aN d.a 1)) (aI (aN d.a 2)) (d.r.getD 0 [])) (o4_1 (aR (aN d.a 1)) (aI (aN d.a 2)) (d.r.getD 0 []))
noncomputable def t10 : LoopT := ⟨⟨83, [], [(1, .ptr 1 0), (37, .sl 51 none), (38, .int .i64), (39, .int .i64)], [], [(1, 26)], []⟩, (fun | .ret => some ⟨83, [], [(2, .bool)], [], [], []⟩ | .exit 2 => some ⟨83, [], [(1, .ptr 1 0)], [], [(1, 26)], []⟩ | _ => none)⟩
noncomputable def s10 (k : Nat) (c0 : Rows) (c1 : Int) (c2 : Row) (x : Int) : T (Int ⊕ (Bool ⊕ Unit)) :=
  .test (iLt x c1)
   (.test (iIn x (rLen c0))
    (.bnd (law36_SmallNode.f k (et 51 (rAt c0 x))).eval default fun r0 =>
    .test (bNot r0)
     (.ret (.inr (.inl false)))
     (.ret (.inl (iAdd .i64 x (1)))))
    (.fail))
   (.ret (.inr (.inr ())))
noncomputable def a10 (c0 : Rows) (c1 : Int) (c2 : Row) (x : Int) : Dt := ⟨[.u, .r c0, .i c1, .i x], [], [et 26 c2], []⟩
noncomputable def o10_0 (c0 : Rows) (c1 : Int) (c2 : Row) (r : Bool) : X × Dt := (.ret, ⟨[.b r], [], [], []⟩)
noncomputable def o10_1 (c0 : Rows) (c1 : Int) (c2 : Row) (r : Unit) : X × Dt := (.exit 2, ⟨[.u], [], [(et 26 c2)], []⟩)
noncomputable def e10 (k : Nat) (d : Dt) : T (X × Dt) := out2 (iter (s10 k (aR (aN d.a 1)) (aI (aN d.a 2)) (d.r.getD 0 [])) k (aI (aN d.a 3))) (o10_0 (aR (aN d.a 1)) (aI (aN d.a 2)) (d.r.getD 0 [])) (o10_1 (aR (aN d.a 1)) (aI (aN d.a 2)) (d.r.getD 0 []))
noncomputable def t16 : LoopT := ⟨⟨83, [], [(48, .sl 86 none), (49, .int .i64), (50, .int .i64)], [], [], []⟩, (fun | .ret => some ⟨83, [], [(2, .bool)], [], [], []⟩ | .exit 4 => some ⟨83, [], [], [], [], []⟩ | _ => none)⟩
noncomputable def s16 (k : Nat) (c0 : Rows) (c1 : Int) (x : Int) : T (Int ⊕ (Bool ⊕ Unit)) :=
  .test (iLt x c1)
   (.test (iIn x (rLen c0))
    (.bnd (law19_SmallMeta.f k (et 32 (rAt c0 x))).eval default fun r0 =>
    .opt (bNot (bNot r0)) (ref03_ValidSelector.f k (rSl (rAt c0 x) 13)).eval default fun r1 =>
    .test (bIte (bIte (bIte (bIte (bNot r0) true (bNot r1)) true (iLt (40) (rLen (rSl (rAt c0 x) 21)))) true (iLt (9) (rLen (rSl (rAt c0 x) 14)))) true (iLt (9) (rLen (rSl (rAt c0 x) 15))))
     (.ret (.inr (.inl false)))
     (.ret (.inl (iAdd .i64 x (1)))))
    (.fail))
   (.ret (.inr (.inr ())))
noncomputable def a16 (c0 : Rows) (c1 : Int) (x : Int) : Dt := ⟨[.r c0, .i c1, .i x], [], [], []⟩
noncomputable def o16_0 (c0 : Rows) (c1 : Int) (r : Bool) : X × Dt := (.ret, ⟨[.b r], [], [], []⟩)
noncomputable def o16_1 (c0 : Rows) (c1 : Int) (r : Unit) : X × Dt := (.exit 4, ⟨[], [], [], []⟩)
noncomputable def e16 (k : Nat) (d : Dt) : T (X × Dt) := out2 (iter (s16 k (aR (aN d.a 0)) (aI (aN d.a 1))) k (aI (aN d.a 2))) (o16_0 (aR (aN d.a 0)) (aI (aN d.a 1))) (o16_1 (aR (aN d.a 0)) (aI (aN d.a 1)))
noncomputable def S (k : Nat) : Subs := fun n => bif Nat.beq n 4 then some (loopV Tryz.prog t4 (e4 k)) else bif Nat.beq n 10 then some (loopV Tryz.prog t10 (e10 k)) else bif Nat.beq n 16 then some (loopV Tryz.prog t16 (e16 k)) else none
noncomputable def f (k : Nat) (a0 : Row) : T Bool :=
  .opt (bNot (bIte (iLt (8) (rLen (rSl a0 0))) true (iLt (8) (rLen (rSl a0 2))))) (law22_Small.f k (rSl a0 1)).eval default fun r0 =>
  .test (bIte (bIte (iLt (8) (rLen (rSl a0 0))) true (iLt (8) (rLen (rSl a0 2)))) true (bNot r0))
   (.ret false)
   (.cas (iter (law36_SmallView.s4 k (rSl a0 1) (rLen (rSl a0 1)) (et 26 a0)) k (0)) (fun r1 =>
    .ret r1) (fun r2 =>
    .cas (iter (law36_SmallView.s10 k (rSl a0 0) (rLen (rSl a0 0)) (et 26 a0)) k (0)) (fun r3 =>
     .ret r3) (fun r4 =>
     .cas (iter (law36_SmallView.s16 k (rSl a0 2) (rLen (rSl a0 2))) k (0)) (fun r5 =>
      .ret r5) (fun r6 =>
      .ret true))))
noncomputable def d (k : Nat) : Fun := mkFun [26] (fun as_ => f k (vRow (vN as_ 0))) default (fun r => .bool r)
theorem hC (k : Nat) : CxOk (C k) := CxOk.cons (p := (39, law22_Small.d k)) (law22_Small.ok k) (CxOk.cons (p := (21, law36_SmallPod.d k)) (law36_SmallPod.ok k) (CxOk.cons (p := (8, law36_SmallNode.d k)) (law36_SmallNode.ok k) (CxOk.cons (p := (22, law19_SmallMeta.d k)) (law19_SmallMeta.ok k) (CxOk.cons (p := (40, ref03_ValidSelector.d k)) (ref03_ValidSelector.ok k) (CxOk.nil)))))
theorem l4 (k : Nat) : LoopOk Tryz.prog (S k) (lp (bodyF (Go.Proofs.Tryz.f20)) 0) := loopOk_mk (C := C k) (hC k) (Loops.all (n := 0) (by kernel_rfl) trivial) (lt := t4) (den := e4 k) (by kernel_rfl) (N := (Rows × Int × Row)) (A := Int) (R := (Bool ⊕ Unit))
 (fun n x => a4 n.1 n.2.1 n.2.2 x) (fun n r => Sum.elim (o4_0 n.1 n.2.1 n.2.2) (o4_1 n.1 n.2.1 n.2.2) r) (fun n x => s4 k n.1 n.2.1 n.2.2 x) k (fun d => ((aR (aN d.a 1)), (aI (aN d.a 2)), (d.r.getD 0 []))) (fun d => (aI (aN d.a 3))) (fun d y h => out2_eval h) (fun d => by kernel_rfl) (fun n x => by kernel_rfl) (fun n r => by rcases r with r | r <;> exact ⟨_, rfl⟩)
theorem l10 (k : Nat) : LoopOk Tryz.prog (S k) (lp (bodyF (Go.Proofs.Tryz.f20)) 1) := loopOk_mk (C := C k) (hC k) (Loops.all (n := 0) (by kernel_rfl) trivial) (lt := t10) (den := e10 k) (by kernel_rfl) (N := (Rows × Int × Row)) (A := Int) (R := (Bool ⊕ Unit))
 (fun n x => a10 n.1 n.2.1 n.2.2 x) (fun n r => Sum.elim (o10_0 n.1 n.2.1 n.2.2) (o10_1 n.1 n.2.1 n.2.2) r) (fun n x => s10 k n.1 n.2.1 n.2.2 x) k (fun d => ((aR (aN d.a 1)), (aI (aN d.a 2)), (d.r.getD 0 []))) (fun d => (aI (aN d.a 3))) (fun d y h => out2_eval h) (fun d => by kernel_rfl) (fun n x => by kernel_rfl) (fun n r => by rcases r with r | r <;> exact ⟨_, rfl⟩)
theorem l16 (k : Nat) : LoopOk Tryz.prog (S k) (lp (bodyF (Go.Proofs.Tryz.f20)) 2) := loopOk_mk (C := C k) (hC k) (Loops.all (n := 0) (by kernel_rfl) trivial) (lt := t16) (den := e16 k) (by kernel_rfl) (N := (Rows × Int)) (A := Int) (R := (Bool ⊕ Unit))
 (fun n x => a16 n.1 n.2 x) (fun n r => Sum.elim (o16_0 n.1 n.2) (o16_1 n.1 n.2) r) (fun n x => s16 k n.1 n.2 x) k (fun d => ((aR (aN d.a 0)), (aI (aN d.a 1)))) (fun d => (aI (aN d.a 2))) (fun d y h => out2_eval h) (fun d => by kernel_rfl) (fun n x => by kernel_rfl) (fun n r => by rcases r with r | r <;> exact ⟨_, rfl⟩)
theorem ok (k : Nat) : FunOk Tryz.prog 20 (d k) := fun_mk (C := C k) (hC k) (S := S k) Tryz.func20 (by kernel_rfl) (by kernel_rfl) (Loops.all (n := 3) (by kernel_rfl) ⟨⟨⟨trivial, l4 k⟩, l10 k⟩, l16 k⟩) (fun as_ => by kernel_rfl)
end law36_SmallView
namespace law39_small
noncomputable def C (k : Nat) : Cx := ⟨Tryz.prog, tab [(20, law36_SmallView.d k), (21, law36_SmallPod.d k)], [], [], tab []⟩
noncomputable def t4 : LoopT := ⟨⟨32, [], [(22, .sl 9 none), (23, .int .i64), (24, .int .i64)], [], [], []⟩, (fun | .ret => some ⟨32, [], [(6, .bool)], [], [], []⟩ | .exit 0 => some ⟨32, [], [], [], [], []⟩ | _ => none)⟩
noncomputable def s4 (k : Nat) (c0 : Rows) (c1 : Int) (x : Int) : T (Int ⊕ (Bool ⊕ Unit)) :=
  .test (iLt x c1)
   (.test (iIn x (rLen c0))
    (.test (iLt (200) (sLen (rStr (rAt c0 x) 0)))
     (.ret (.inr (.inl false)))
     (.ret (.inl (iAdd .i64 x (1)))))
    (.fail))
   (.ret (.inr (.inr ())))
noncomputable def a4 (c0 : Rows) (c1 : Int) (x : Int) : Dt := ⟨[.r c0, .i c1, .i x], [], [], []⟩
noncomputable def o4_0 (c0 : Rows) (c1 : Int) (r : Bool) : X × Dt := (.ret, ⟨[.b r], [], [], []⟩)
noncomputable def o4_1 (c0 : Rows) (c1 : Int) (r : Unit) : X × Dt := (.exit 0, ⟨[], [], [], []⟩)
noncomputable def e4 (k : Nat) (d : Dt) : T (X × Dt) := out2 (iter (s4 k (aR (aN d.a 0)) (aI (aN d.a 1))) k (aI (aN d.a 2))) (o4_0 (aR (aN d.a 0)) (aI (aN d.a 1))) (o4_1 (aR (aN d.a 0)) (aI (aN d.a 1)))
noncomputable def S (k : Nat) : Subs := fun n => bif Nat.beq n 4 then some (loopV Tryz.prog t4 (e4 k)) else none
noncomputable def f (k : Nat) (a0 : Row) (a1 : Row) (a2 : Rows) : T Bool :=
  .bnd (law36_SmallView.f k (et 26 a0)).eval default fun r0 =>
  .opt (bNot (bNot r0)) (law36_SmallPod.f k (et 45 a1)).eval default fun r1 =>
  .test (bIte (bIte (bNot r0) true (bNot r1)) true (iLt (20) (rLen a2)))
   (.ret false)
   (.cas (iter (law39_small.s4 k a2 (rLen a2)) k (0)) (fun r2 =>
    .ret r2) (fun r3 =>
    .ret true))
noncomputable def d (k : Nat) : Fun := mkFun [26, 45, 29] (fun as_ => f k (vRow (vN as_ 0)) (vRow (vN as_ 1)) (vRows (vN as_ 2))) default (fun r => .bool r)
theorem hC (k : Nat) : CxOk (C k) := CxOk.cons (p := (20, law36_SmallView.d k)) (law36_SmallView.ok k) (CxOk.cons (p := (21, law36_SmallPod.d k)) (law36_SmallPod.ok k) (CxOk.nil))
theorem l4 (k : Nat) : LoopOk Tryz.prog (S k) (lp (bodyF (Go.Proofs.Tryz.f7)) 0) := loopOk_mk (C := C k) (hC k) (Loops.all (n := 0) (by kernel_rfl) trivial) (lt := t4) (den := e4 k) (by kernel_rfl) (N := (Rows × Int)) (A := Int) (R := (Bool ⊕ Unit))
 (fun n x => a4 n.1 n.2 x) (fun n r => Sum.elim (o4_0 n.1 n.2) (o4_1 n.1 n.2) r) (fun n x => s4 k n.1 n.2 x) k (fun d => ((aR (aN d.a 0)), (aI (aN d.a 1)))) (fun d => (aI (aN d.a 2))) (fun d y h => out2_eval h) (fun d => by kernel_rfl) (fun n x => by kernel_rfl) (fun n r => by rcases r with r | r <;> exact ⟨_, rfl⟩)
theorem ok (k : Nat) : FunOk Tryz.prog 7 (d k) := fun_mk (C := C k) (hC k) (S := S k) Tryz.func7 (by kernel_rfl) (by kernel_rfl) (Loops.all (n := 1) (by kernel_rfl) ⟨trivial, l4 k⟩) (fun as_ => by kernel_rfl)
end law39_small
namespace ref13_Key
noncomputable def C (k : Nat) : Cx := ⟨Tryz.prog, tab [], [], [], tab []⟩
noncomputable def S (k : Nat) : Subs := fun n => none
noncomputable def f (k : Nat) (a0 : ByteArray) (a1 : ByteArray) (a2 : ByteArray) : T ByteArray :=
  .test (sOk (sLen a0) (sLen (bs [47])))
   (.test (sOk (sLen (sCat a0 (bs [47]))) (sLen a1))
    (.test (sOk (sLen (sCat (sCat a0 (bs [47])) a1)) (sLen (bs [47])))
     (.test (sOk (sLen (sCat (sCat (sCat a0 (bs [47])) a1) (bs [47]))) (sLen a2))
      (.ret (sCat (sCat (sCat (sCat a0 (bs [47])) a1) (bs [47])) a2))
      (.fail))
     (.fail))
    (.fail))
   (.fail)
noncomputable def d (k : Nat) : Fun := mkFun [9, 9, 9] (fun as_ => f k (vStr (vN as_ 0)) (vStr (vN as_ 1)) (vStr (vN as_ 2))) default (fun r => .str r)
theorem hC (k : Nat) : CxOk (C k) := CxOk.nil
theorem ok (k : Nat) : FunOk Tryz.prog 42 (d k) := fun_mk (C := C k) (hC k) (S := S k) Tryz.func42 (by kernel_rfl) (by kernel_rfl) (Loops.all (n := 0) (by kernel_rfl) trivial) (fun as_ => by kernel_rfl)
end ref13_Key
namespace ref13_KeyOf
noncomputable def C (k : Nat) : Cx := ⟨Tryz.prog, tab [(42, ref13_Key.d k)], [], [], tab []⟩
noncomputable def S (k : Nat) : Subs := fun n => none
noncomputable def f (k : Nat) (a0 : Row) : T ByteArray :=
  .bnd (ref13_Key.f k (rStr a0 0) (rStr a0 1) (rStr a0 2)).eval default fun r0 =>
  .ret r0
noncomputable def d (k : Nat) : Fun := mkFun [32] (fun as_ => f k (vRow (vN as_ 0))) default (fun r => .str r)
theorem hC (k : Nat) : CxOk (C k) := CxOk.cons (p := (42, ref13_Key.d k)) (ref13_Key.ok k) (CxOk.nil)
theorem ok (k : Nat) : FunOk Tryz.prog 23 (d k) := fun_mk (C := C k) (hC k) (S := S k) Tryz.func23 (by kernel_rfl) (by kernel_rfl) (Loops.all (n := 0) (by kernel_rfl) trivial) (fun as_ => by kernel_rfl)
end ref13_KeyOf
namespace law36_Distinct
noncomputable def C (k : Nat) : Cx := ⟨Tryz.prog, tab [(23, ref13_KeyOf.d k)], [], [], tab []⟩
noncomputable def t5 : LoopT := ⟨⟨29, [], [(0, .sl 45 none), (3, .int .i64), (6, .int .i64), (7, .int .i64), (10, .int .i64), (11, .int .i64)], [], [], []⟩, (fun | .ret => some ⟨29, [], [(2, .bool)], [], [], []⟩ | .exit 2 => some ⟨29, [], [(0, .sl 45 none), (6, .int .i64), (7, .int .i64)], [], [], []⟩ | _ => none)⟩
noncomputable def s5 (k : Nat) (c0 : Rows) (c1 : Int) (c2 : Int) (c3 : Int) (c4 : Int) (x : Int) : T (Int ⊕ (Bool ⊕ Unit)) :=
  .test (iLt x c4)
   (.test (iIn c1 (rLen c0))
    (.bnd (ref13_KeyOf.f k (et 32 (rAt c0 c1))).eval default fun r0 =>
    .test (iIn x (rLen c0))
     (.bnd (ref13_KeyOf.f k (et 32 (rAt c0 x))).eval default fun r1 =>
     .test (sEq r0 r1)
      (.ret (.inr (.inl false)))
      (.ret (.inl (iAdd .i64 x (1)))))
     (.fail))
    (.fail))
   (.ret (.inr (.inr ())))
noncomputable def a5 (c0 : Rows) (c1 : Int) (c2 : Int) (c3 : Int) (c4 : Int) (x : Int) : Dt := ⟨[.r c0, .i c1, .i c2, .i c3, .i c4, .i x], [], [], []⟩
noncomputable def o5_0 (c0 : Rows) (c1 : Int) (c2 : Int) (c3 : Int) (c4 : Int) (r : Bool) : X × Dt := (.ret, ⟨[.b r], [], [], []⟩)
noncomputable def o5_1 (c0 : Rows) (c1 : Int) (c2 : Int) (c3 : Int) (c4 : Int) (r : Unit) : X × Dt := (.exit 2, ⟨[.r c0, .i c2, .i c3], [], [], []⟩)
noncomputable def e5 (k : Nat) (d : Dt) : T (X × Dt) := out2 (iter (s5 k (aR (aN d.a 0)) (aI (aN d.a 1)) (aI (aN d.a 2)) (aI (aN d.a 3)) (aI (aN d.a 4))) k (aI (aN d.a 5))) (o5_0 (aR (aN d.a 0)) (aI (aN d.a 1)) (aI (aN d.a 2)) (aI (aN d.a 3)) (aI (aN d.a 4))) (o5_1 (aR (aN d.a 0)) (aI (aN d.a 1)) (aI (aN d.a 2)) (aI (aN d.a 3)) (aI (aN d.a 4)))
noncomputable def t2 : LoopT := ⟨⟨29, [], [(0, .sl 45 none), (6, .int .i64), (7, .int .i64)], [], [], []⟩, (fun | .ret => some ⟨29, [], [(2, .bool)], [], [], []⟩ | .exit 0 => some ⟨29, [], [], [], [], []⟩ | _ => none)⟩
noncomputable def s2 (k : Nat) (c0 : Rows) (c1 : Int) (x : Int) : T (Int ⊕ (Bool ⊕ Unit)) :=
  .test (iLt x c1)
   (.cas (iter (law36_Distinct.s5 k c0 x c1 x x) k (0)) (fun r0 =>
    .ret (.inr (.inl r0))) (fun r1 =>
    .ret (.inl (iAdd .i64 x (1)))))
   (.ret (.inr (.inr ())))
noncomputable def a2 (c0 : Rows) (c1 : Int) (x : Int) : Dt := ⟨[.r c0, .i c1, .i x], [], [], []⟩
noncomputable def o2_0 (c0 : Rows) (c1 : Int) (r : Bool) : X × Dt := (.ret, ⟨[.b r], [], [], []⟩)
noncomputable def o2_1 (c0 : Rows) (c1 : Int) (r : Unit) : X × Dt := (.exit 0, ⟨[], [], [], []⟩)
noncomputable def e2 (k : Nat) (d : Dt) : T (X × Dt) := out2 (iter (s2 k (aR (aN d.a 0)) (aI (aN d.a 1))) k (aI (aN d.a 2))) (o2_0 (aR (aN d.a 0)) (aI (aN d.a 1))) (o2_1 (aR (aN d.a 0)) (aI (aN d.a 1)))
noncomputable def S (k : Nat) : Subs := fun n => bif Nat.beq n 5 then some (loopV Tryz.prog t5 (e5 k)) else bif Nat.beq n 2 then some (loopV Tryz.prog t2 (e2 k)) else none
noncomputable def f (k : Nat) (a0 : Rows) : T Bool :=
  .cas (iter (law36_Distinct.s2 k a0 (rLen a0)) k (0)) (fun r0 =>
   .ret r0) (fun r1 =>
   .ret true)
noncomputable def d (k : Nat) : Fun := mkFun [23] (fun as_ => f k (vRows (vN as_ 0))) default (fun r => .bool r)
theorem hC (k : Nat) : CxOk (C k) := CxOk.cons (p := (23, ref13_KeyOf.d k)) (ref13_KeyOf.ok k) (CxOk.nil)
theorem l5 (k : Nat) : LoopOk Tryz.prog (S k) (lp (lp (bodyF (Go.Proofs.Tryz.f9)) 0) 0) := loopOk_mk (C := C k) (hC k) (Loops.all (n := 0) (by kernel_rfl) trivial) (lt := t5) (den := e5 k) (by kernel_rfl) (N := (Rows × Int × Int × Int × Int)) (A := Int) (R := (Bool ⊕ Unit))
 (fun n x => a5 n.1 n.2.1 n.2.2.1 n.2.2.2.1 n.2.2.2.2 x) (fun n r => Sum.elim (o5_0 n.1 n.2.1 n.2.2.1 n.2.2.2.1 n.2.2.2.2) (o5_1 n.1 n.2.1 n.2.2.1 n.2.2.2.1 n.2.2.2.2) r) (fun n x => s5 k n.1 n.2.1 n.2.2.1 n.2.2.2.1 n.2.2.2.2 x) k (fun d => ((aR (aN d.a 0)), (aI (aN d.a 1)), (aI (aN d.a 2)), (aI (aN d.a 3)), (aI (aN d.a 4)))) (fun d => (aI (aN d.a 5))) (fun d y h => out2_eval h) (fun d => by kernel_rfl) (fun n x => by kernel_rfl) (fun n r => by rcases r with r | r <;> exact ⟨_, rfl⟩)
theorem l2 (k : Nat) : LoopOk Tryz.prog (S k) (lp (bodyF (Go.Proofs.Tryz.f9)) 0) := loopOk_mk (C := C k) (hC k) (Loops.all (n := 1) (by kernel_rfl) ⟨trivial, l5 k⟩) (lt := t2) (den := e2 k) (by kernel_rfl) (N := (Rows × Int)) (A := Int) (R := (Bool ⊕ Unit))
 (fun n x => a2 n.1 n.2 x) (fun n r => Sum.elim (o2_0 n.1 n.2) (o2_1 n.1 n.2) r) (fun n x => s2 k n.1 n.2 x) k (fun d => ((aR (aN d.a 0)), (aI (aN d.a 1)))) (fun d => (aI (aN d.a 2))) (fun d y h => out2_eval h) (fun d => by kernel_rfl) (fun n x => by kernel_rfl) (fun n r => by rcases r with r | r <;> exact ⟨_, rfl⟩)
theorem ok (k : Nat) : FunOk Tryz.prog 9 (d k) := fun_mk (C := C k) (hC k) (S := S k) Tryz.func9 (by kernel_rfl) (by kernel_rfl) (Loops.all (n := 1) (by kernel_rfl) ⟨trivial, l2 k⟩) (fun as_ => by kernel_rfl)
end law36_Distinct
namespace slices_Values_string_string
noncomputable def f (k : Nat) (a0 : Rows) : T Rows :=
  .ret a0
noncomputable def d (k : Nat) : Fun := mkFun [29] (fun as_ => f k (vRows (vN as_ 0))) default (fun r => .fn 67 [.rptr [.slice 9 r .open]])
theorem ok (k : Nat) : FunOk Tryz.prog 36 (d k) := values_ok
end slices_Values_string_string
namespace slices_Sorted_string
noncomputable def f (k : Nat) (a0 : Rows) : T (Rows × Int) :=
  .test (rOk 16 0 (rLen a0))
   (.ret ((sortC a0), (rLen a0)))
   (.fail)
noncomputable def dm (k : Nat) : FunM := mkFunM 9 false [.fn 67 [29]] (fun _ as_ => f k (vRows (vN (vPtr (vN (vCaps (vN as_ 0)) 0)) 0)))
theorem okM (k : Nat) : FunOkM Tryz.prog 35 (dm k) := sorted_okM
end slices_Sorted_string
namespace slices_Compact_string_string
noncomputable def uq (s : ByteArray) : Rows → Rows
  | [] => []
  | q :: l => bif sEq (rStr q 0) s then uq s l else q :: uq (rStr q 0) l
noncomputable def cq : Rows → Rows
  | [] => []
  | q :: l => q :: uq (rStr q 0) l
noncomputable def zq (es : Rows) : Rows := cq es ++ List.replicate (es.length - (cq es).length) [.str ⟨#[]⟩]
noncomputable def f (k : Nat) (a0 : Rows) : T (Rows × Int) :=
  .test (rOk 16 0 (rLen a0))
   (.ret ((zq a0), (rLen (cq a0))))
   (.fail)
noncomputable def dm (k : Nat) : FunM := mkFunM 9 true [] (fun es_ as_ => f k es_)
theorem uq_eq : ∀ (es : Rows) (s : ByteArray), uq s es = uqA s es
  | [], s => rfl
  | q :: l, s => by unfold uq uqA; rw [uq_eq l s, uq_eq l (rStr q 0)]
theorem cq_eq (es : Rows) : cq es = uqC es := by
  cases es with
  | nil => rfl
  | cons q l => show q :: uq (rStr q 0) l = q :: uqA (rStr q 0) l; rw [uq_eq]
theorem zq_eq (es : Rows) : zq es = uqZ es := by unfold zq uqZ; rw [cq_eq]
theorem okM (k : Nat) : FunOkM Tryz.prog 34 (dm k) := by
  have e : dm k = mkFunM 9 true [] (fun es_ _ => (.test (rOk 16 0 (rLen es_)) (.ret (uqZ es_, rLen (uqC es_))) .fail : T (Rows × Int))) := by
    unfold dm
    congr 1
    funext es_ as_
    unfold f
    rw [cq_eq, zq_eq]
  rw [e]
  exact compact_okM
end slices_Compact_string_string
namespace score_Best_1
noncomputable def C (k : Nat) : Cx := ⟨Tryz.prog, tab [], [], [], tab []⟩
noncomputable def S (k : Nat) : Subs := fun n => none
noncomputable def f (k : Nat) (a0 : Row) (a1 : Row) : T Bool :=
  .ret (sEq (rStr a0 2) (rStr a1 0))
noncomputable def d (k : Nat) : Fun := mkFun [51, .p 9] (fun as_ => f k (vRow (vN as_ 0)) (vPtr (vN as_ 1))) default (fun r => .bool r)
theorem hC (k : Nat) : CxOk (C k) := CxOk.nil
theorem ok (k : Nat) : FunOk Tryz.prog 38 (d k) := fun_mk (C := C k) (hC k) (S := S k) Tryz.func38 (by kernel_rfl) (by kernel_rfl) (Loops.all (n := 0) (by kernel_rfl) trivial) (fun as_ => by kernel_rfl)
end score_Best_1
namespace slices_IndexFunc_api_Node_api_Node_c38
noncomputable def C (k : Nat) : Cx := ⟨Tryz.prog, tab [(38, score_Best_1.d k)], [], [], tab []⟩
noncomputable def t2 : LoopT := ⟨⟨19, [], [(0, .sl 51 none), (1, .fn 38 [9]), (7, .int .i64), (8, .int .i64)], [], [], []⟩, (fun | .ret => some ⟨19, [], [(4, .int .i64)], [], [], []⟩ | .exit 0 => some ⟨19, [], [], [], [], []⟩ | _ => none)⟩
noncomputable def s2 (k : Nat) (c0 : Rows) (c1 : Int) (x : (Row × Int)) : T ((Row × Int) ⊕ (Int ⊕ Unit)) :=
  .test (iLt x.2 c1)
   (.test (iIn x.2 (rLen c0))
    (.bnd (score_Best_1.f k (et 51 (rAt c0 x.2)) [.str (rStr x.1 0)]).eval default fun r0 =>
    .test r0
     (.ret (.inr (.inl x.2)))
     (.ret (.inl ([.str (rStr x.1 0)], (iAdd .i64 x.2 (1))))))
    (.fail))
   (.ret (.inr (.inr ())))
noncomputable def a2 (c0 : Rows) (c1 : Int) (x : (Row × Int)) : Dt := ⟨[.r c0, .c [(et 9 x.1)], .i c1, .i x.2], [], [], []⟩
noncomputable def o2_0 (c0 : Rows) (c1 : Int) (r : Int) : X × Dt := (.ret, ⟨[.i r], [], [], []⟩)
noncomputable def o2_1 (c0 : Rows) (c1 : Int) (r : Unit) : X × Dt := (.exit 0, ⟨[], [], [], []⟩)
noncomputable def e2 (k : Nat) (d : Dt) : T (X × Dt) := out2 (iter (s2 k (aR (aN d.a 0)) (aI (aN d.a 2))) k (((aC (aN d.a 1)).getD 0 []), (aI (aN d.a 3)))) (o2_0 (aR (aN d.a 0)) (aI (aN d.a 2))) (o2_1 (aR (aN d.a 0)) (aI (aN d.a 2)))
noncomputable def S (k : Nat) : Subs := fun n => bif Nat.beq n 2 then some (loopV Tryz.prog t2 (e2 k)) else none
noncomputable def f (k : Nat) (a0 : Rows) (a1 : Row) : T Int :=
  .cas (iter (slices_IndexFunc_api_Node_api_Node_c38.s2 k a0 (rLen a0)) k ([.str (rStr a1 0)], (0))) (fun r0 =>
   .ret r0) (fun r1 =>
   .ret (-1))
noncomputable def d (k : Nat) : Fun := mkFun [22, .fn 38 [9]] (fun as_ => f k (vRows (vN as_ 0)) (vPtr (vN (vCaps (vN as_ 1)) 0))) default (fun r => .int .i64 r)
theorem hC (k : Nat) : CxOk (C k) := CxOk.cons (p := (38, score_Best_1.d k)) (score_Best_1.ok k) (CxOk.nil)
theorem l2 (k : Nat) : LoopOk Tryz.prog (S k) (lp (bodyF (Go.Proofs.Tryz.f37)) 0) := loopOk_mk (C := C k) (hC k) (Loops.all (n := 0) (by kernel_rfl) trivial) (lt := t2) (den := e2 k) (by kernel_rfl) (N := (Rows × Int)) (A := (Row × Int)) (R := (Int ⊕ Unit))
 (fun n x => a2 n.1 n.2 x) (fun n r => Sum.elim (o2_0 n.1 n.2) (o2_1 n.1 n.2) r) (fun n x => s2 k n.1 n.2 x) k (fun d => ((aR (aN d.a 0)), (aI (aN d.a 2)))) (fun d => (((aC (aN d.a 1)).getD 0 []), (aI (aN d.a 3)))) (fun d y h => out2_eval h) (fun d => by kernel_rfl) (fun n x => by kernel_rfl) (fun n r => by rcases r with r | r <;> exact ⟨_, rfl⟩)
theorem ok (k : Nat) : FunOk Tryz.prog 37 (d k) := fun_mk (C := C k) (hC k) (S := S k) Tryz.func37 (by kernel_rfl) (by kernel_rfl) (Loops.all (n := 1) (by kernel_rfl) ⟨trivial, l2 k⟩) (fun as_ => by kernel_rfl)
end slices_IndexFunc_api_Node_api_Node_c38
namespace meta_Key
noncomputable def C (k : Nat) : Cx := ⟨Tryz.prog, tab [], [], [], tab []⟩
noncomputable def S (k : Nat) : Subs := fun n => none
noncomputable def f (k : Nat) (a0 : ByteArray) (a1 : ByteArray) (a2 : ByteArray) : T ByteArray :=
  .test (sOk (sLen a0) (sLen (bs [47])))
   (.test (sOk (sLen (sCat a0 (bs [47]))) (sLen a1))
    (.test (sOk (sLen (sCat (sCat a0 (bs [47])) a1)) (sLen (bs [47])))
     (.test (sOk (sLen (sCat (sCat (sCat a0 (bs [47])) a1) (bs [47]))) (sLen a2))
      (.ret (sCat (sCat (sCat (sCat a0 (bs [47])) a1) (bs [47])) a2))
      (.fail))
     (.fail))
    (.fail))
   (.fail)
noncomputable def d (k : Nat) : Fun := mkFun [9, 9, 9] (fun as_ => f k (vStr (vN as_ 0)) (vStr (vN as_ 1)) (vStr (vN as_ 2))) default (fun r => .str r)
theorem hC (k : Nat) : CxOk (C k) := CxOk.nil
theorem ok (k : Nat) : FunOk Tryz.prog 112 (d k) := fun_mk (C := C k) (hC k) (S := S k) Tryz.func112 (by kernel_rfl) (by kernel_rfl) (Loops.all (n := 0) (by kernel_rfl) trivial) (fun as_ => by kernel_rfl)
end meta_Key
namespace meta_KeyOf
noncomputable def C (k : Nat) : Cx := ⟨Tryz.prog, tab [(112, meta_Key.d k)], [], [], tab []⟩
noncomputable def S (k : Nat) : Subs := fun n => none
noncomputable def f (k : Nat) (a0 : Row) : T ByteArray :=
  .bnd (meta_Key.f k (rStr a0 0) (rStr a0 1) (rStr a0 2)).eval default fun r0 =>
  .ret r0
noncomputable def d (k : Nat) : Fun := mkFun [32] (fun as_ => f k (vRow (vN as_ 0))) default (fun r => .str r)
theorem hC (k : Nat) : CxOk (C k) := CxOk.cons (p := (112, meta_Key.d k)) (meta_Key.ok k) (CxOk.nil)
theorem ok (k : Nat) : FunOk Tryz.prog 80 (d k) := fun_mk (C := C k) (hC k) (S := S k) Tryz.func80 (by kernel_rfl) (by kernel_rfl) (Loops.all (n := 0) (by kernel_rfl) trivial) (fun as_ => by kernel_rfl)
end meta_KeyOf
namespace affinity_others
noncomputable def C (k : Nat) : Cx := ⟨Tryz.prog, tab [(80, meta_KeyOf.d k)], [], [], tab []⟩
noncomputable def t7 : LoopT := ⟨⟨59, [], [(2, .ptr 2 0), (3, .ptr 3 0), (5, .sl 141 (some 55)), (7, .ptr 7 0), (11, .sl 45 none), (12, .int .i64), (13, .int .i64), (37, .sl 51 none), (38, .int .i64), (39, .int .i64)], [], [(2, 26), (3, 45), (7, 45)], []⟩, (fun | .exit 2 => some ⟨59, [], [(2, .ptr 2 0), (3, .ptr 3 0), (5, .sl 141 (some 55)), (11, .sl 45 none), (12, .int .i64), (13, .int .i64)], [], [(2, 26), (3, 45)], []⟩ | _ => none)⟩
noncomputable def s7 (k : Nat) (c0 : Rows) (c1 : Rows) (c2 : Int) (c3 : Int) (c4 : Rows) (c5 : Int) (c6 : Row) (c7 : Row) (c8 : Row) (x : Int) : T (Int ⊕ Rows) :=
  .test (iLt x c5)
   (.test (iIn x (rLen c4))
    (.test (sEq (rStr (rAt c4 x) 2) (rStr c8 13))
     (.test (rOk 784 (rLen c0) (rLen [(rJ [(et 45 c8), (et 32 (rAt c4 x)), [.int .i64 (rInt (rAt c4 x) 13), .int .i64 (rInt (rAt c4 x) 14), .int .i64 (rInt (rAt c4 x) 15), .int .i64 (rInt (rAt c4 x) 16), .bool (rBool (rAt c4 x) 17), .slice 72 (rSl (rAt c4 x) 18) .open, .bool (rBool (rAt c4 x) 19), .int .i64 (rInt (rAt c4 x) 20), .bool (rBool (rAt c4 x) 21), .bool (rBool (rAt c4 x) 22), .slice 247 (rSl (rAt c4 x) 23) .open]])]))
      (.ret (.inr (rCat c0 [(rJ [(et 45 c8), (et 32 (rAt c4 x)), [.int .i64 (rInt (rAt c4 x) 13), .int .i64 (rInt (rAt c4 x) 14), .int .i64 (rInt (rAt c4 x) 15), .int .i64 (rInt (rAt c4 x) 16), .bool (rBool (rAt c4 x) 17), .slice 72 (rSl (rAt c4 x) 18) .open, .bool (rBool (rAt c4 x) 19), .int .i64 (rInt (rAt c4 x) 20), .bool (rBool (rAt c4 x) 21), .bool (rBool (rAt c4 x) 22), .slice 247 (rSl (rAt c4 x) 23) .open]])])))
      (.fail))
     (.ret (.inl (iAdd .i64 x (1)))))
    (.fail))
   (.ret (.inr c0))
noncomputable def a7 (c0 : Rows) (c1 : Rows) (c2 : Int) (c3 : Int) (c4 : Rows) (c5 : Int) (c6 : Row) (c7 : Row) (c8 : Row) (x : Int) : Dt := ⟨[.u, .u, .r c0, .u, .r c1, .i c2, .i c3, .r c4, .i c5, .i x], [], [et 26 c6, et 45 c7, et 45 c8], []⟩
noncomputable def o7_0 (c0 : Rows) (c1 : Rows) (c2 : Int) (c3 : Int) (c4 : Rows) (c5 : Int) (c6 : Row) (c7 : Row) (c8 : Row) (r : Rows) : X × Dt := (.exit 2, ⟨[.u, .u, .r r, .r c1, .i c2, .i c3], [], [(et 26 c6), (et 45 c7)], []⟩)
noncomputable def e7 (k : Nat) (d : Dt) : T (X × Dt) := out1 (iter (s7 k (aR (aN d.a 2)) (aR (aN d.a 4)) (aI (aN d.a 5)) (aI (aN d.a 6)) (aR (aN d.a 7)) (aI (aN d.a 8)) (d.r.getD 0 []) (d.r.getD 1 []) (d.r.getD 2 [])) k (aI (aN d.a 9))) default (o7_0 (aR (aN d.a 2)) (aR (aN d.a 4)) (aI (aN d.a 5)) (aI (aN d.a 6)) (aR (aN d.a 7)) (aI (aN d.a 8)) (d.r.getD 0 []) (d.r.getD 1 []) (d.r.getD 2 []))
noncomputable def t3 : LoopT := ⟨⟨59, [.tmp 5 55 141], [(2, .ptr 2 0), (3, .ptr 3 0), (5, .sl 141 (some 55)), (11, .sl 45 none), (12, .int .i64), (13, .int .i64)], [], [(2, 26), (3, 45)], []⟩, (fun | .exit 0 => some ⟨59, [], [(5, .sl 141 (some 55))], [], [], []⟩ | _ => none)⟩
noncomputable def s3 (k : Nat) (c0 : Rows) (c1 : Int) (c2 : Row) (c3 : Row) (x : (Rows × Int)) : T ((Rows × Int) ⊕ Rows) :=
  .test (iLt x.2 c1)
   (.test (iIn x.2 (rLen c0))
    (.bnd (meta_KeyOf.f k (et 32 (rAt c0 x.2))).eval default fun r0 =>
    .bnd (meta_KeyOf.f k (et 32 c3)).eval default fun r1 =>
    .test (bIte (sEq r0 r1) true (bIte (bNot (iEq (rInt (rAt c0 x.2) 23) (0))) (bNot (iEq (rInt (rAt c0 x.2) 23) (1))) false))
     (.ret (.inl (x.1, (iAdd .i64 x.2 (1)))))
     (.bnd (iter (affinity_others.s7 k x.1 c0 c1 x.2 (rSl c2 0) (rLen (rSl c2 0)) (et 26 c2) (et 45 c3) (et 45 (rAt c0 x.2))) k (0)) default fun r2 =>
     .ret (.inl (r2, (iAdd .i64 x.2 (1))))))
    (.fail))
   (.ret (.inr x.1))
noncomputable def a3 (c0 : Rows) (c1 : Int) (c2 : Row) (c3 : Row) (x : (Rows × Int)) : Dt := ⟨[.u, .u, .r x.1, .r c0, .i c1, .i x.2], [], [et 26 c2, et 45 c3], []⟩
noncomputable def o3_0 (c0 : Rows) (c1 : Int) (c2 : Row) (c3 : Row) (r : Rows) : X × Dt := (.exit 0, ⟨[.r r], [], [], []⟩)
noncomputable def e3 (k : Nat) (d : Dt) : T (X × Dt) := out1 (iter (s3 k (aR (aN d.a 3)) (aI (aN d.a 4)) (d.r.getD 0 []) (d.r.getD 1 [])) k ((aR (aN d.a 2)), (aI (aN d.a 5)))) default (o3_0 (aR (aN d.a 3)) (aI (aN d.a 4)) (d.r.getD 0 []) (d.r.getD 1 []))
noncomputable def S (k : Nat) : Subs := fun n => bif Nat.beq n 7 then some (loopV Tryz.prog t7 (e7 k)) else bif Nat.beq n 3 then some (loopV Tryz.prog t3 (e3 k)) else none
noncomputable def f (k : Nat) (a0 : Row) (a1 : Row) : T Rows :=
  .bnd (iter (affinity_others.s3 k (rSl a0 1) (rLen (rSl a0 1)) (et 26 a0) (et 45 a1)) k ([], (0))) default fun r0 =>
  .ret r0
noncomputable def d (k : Nat) : Fun := mkFun [26, 45] (fun as_ => f k (vRow (vN as_ 0)) (vRow (vN as_ 1))) default (fun r => .slice 141 r .open)
theorem hC (k : Nat) : CxOk (C k) := CxOk.cons (p := (80, meta_KeyOf.d k)) (meta_KeyOf.ok k) (CxOk.nil)
theorem l7 (k : Nat) : LoopOk Tryz.prog (S k) (lp (lp (bodyF (Go.Proofs.Tryz.f51)) 0) 0) := loopOk_mk (C := C k) (hC k) (Loops.all (n := 0) (by kernel_rfl) trivial) (lt := t7) (den := e7 k) (by kernel_rfl) (N := (Rows × Rows × Int × Int × Rows × Int × Row × Row × Row)) (A := Int) (R := Rows)
 (fun n x => a7 n.1 n.2.1 n.2.2.1 n.2.2.2.1 n.2.2.2.2.1 n.2.2.2.2.2.1 n.2.2.2.2.2.2.1 n.2.2.2.2.2.2.2.1 n.2.2.2.2.2.2.2.2 x) (fun n r => o7_0 n.1 n.2.1 n.2.2.1 n.2.2.2.1 n.2.2.2.2.1 n.2.2.2.2.2.1 n.2.2.2.2.2.2.1 n.2.2.2.2.2.2.2.1 n.2.2.2.2.2.2.2.2 r) (fun n x => s7 k n.1 n.2.1 n.2.2.1 n.2.2.2.1 n.2.2.2.2.1 n.2.2.2.2.2.1 n.2.2.2.2.2.2.1 n.2.2.2.2.2.2.2.1 n.2.2.2.2.2.2.2.2 x) k (fun d => ((aR (aN d.a 2)), (aR (aN d.a 4)), (aI (aN d.a 5)), (aI (aN d.a 6)), (aR (aN d.a 7)), (aI (aN d.a 8)), (d.r.getD 0 []), (d.r.getD 1 []), (d.r.getD 2 []))) (fun d => (aI (aN d.a 9))) (fun d y h => out1_eval h) (fun d => by kernel_rfl) (fun n x => by kernel_rfl) (fun n r => ⟨_, rfl⟩)
theorem l3 (k : Nat) : LoopOk Tryz.prog (S k) (lp (bodyF (Go.Proofs.Tryz.f51)) 0) := loopOk_mk (C := C k) (hC k) (Loops.all (n := 1) (by kernel_rfl) ⟨trivial, l7 k⟩) (lt := t3) (den := e3 k) (by kernel_rfl) (N := (Rows × Int × Row × Row)) (A := (Rows × Int)) (R := Rows)
 (fun n x => a3 n.1 n.2.1 n.2.2.1 n.2.2.2 x) (fun n r => o3_0 n.1 n.2.1 n.2.2.1 n.2.2.2 r) (fun n x => s3 k n.1 n.2.1 n.2.2.1 n.2.2.2 x) k (fun d => ((aR (aN d.a 3)), (aI (aN d.a 4)), (d.r.getD 0 []), (d.r.getD 1 []))) (fun d => ((aR (aN d.a 2)), (aI (aN d.a 5)))) (fun d y h => out1_eval h) (fun d => by kernel_rfl) (fun n x => by kernel_rfl) (fun n r => ⟨_, rfl⟩)
theorem ok (k : Nat) : FunOk Tryz.prog 51 (d k) := fun_mk (C := C k) (hC k) (S := S k) Tryz.func51 (by kernel_rfl) (by kernel_rfl) (Loops.all (n := 1) (by kernel_rfl) ⟨trivial, l3 k⟩) (fun as_ => by kernel_rfl)
end affinity_others
namespace label_Get
noncomputable def C (k : Nat) : Cx := ⟨Tryz.prog, tab [], [], [], tab []⟩
noncomputable def t2 : LoopT := ⟨⟨21, [], [(1, .str), (8, .sl 89 none), (9, .int .i64), (10, .int .i64)], [], [], []⟩, (fun | .ret => some ⟨21, [], [(4, .str), (5, .bool)], [], [], []⟩ | .exit 0 => some ⟨21, [], [], [], [], []⟩ | _ => none)⟩
noncomputable def s2 (k : Nat) (c0 : ByteArray) (c1 : Rows) (c2 : Int) (x : Int) : T (Int ⊕ ((ByteArray × Bool) ⊕ Unit)) :=
  .test (iLt x c2)
   (.test (iIn x (rLen c1))
    (.test (sEq (rStr (rAt c1 x) 0) c0)
     (.ret (.inr (.inl ((rStr (rAt c1 x) 1), true))))
     (.ret (.inl (iAdd .i64 x (1)))))
    (.fail))
   (.ret (.inr (.inr ())))
noncomputable def a2 (c0 : ByteArray) (c1 : Rows) (c2 : Int) (x : Int) : Dt := ⟨[.s c0, .r c1, .i c2, .i x], [], [], []⟩
noncomputable def o2_0 (c0 : ByteArray) (c1 : Rows) (c2 : Int) (r : (ByteArray × Bool)) : X × Dt := (.ret, ⟨[.s r.1, .b r.2], [], [], []⟩)
noncomputable def o2_1 (c0 : ByteArray) (c1 : Rows) (c2 : Int) (r : Unit) : X × Dt := (.exit 0, ⟨[], [], [], []⟩)
noncomputable def e2 (k : Nat) (d : Dt) : T (X × Dt) := out2 (iter (s2 k (aS (aN d.a 0)) (aR (aN d.a 1)) (aI (aN d.a 2))) k (aI (aN d.a 3))) (o2_0 (aS (aN d.a 0)) (aR (aN d.a 1)) (aI (aN d.a 2))) (o2_1 (aS (aN d.a 0)) (aR (aN d.a 1)) (aI (aN d.a 2)))
noncomputable def S (k : Nat) : Subs := fun n => bif Nat.beq n 2 then some (loopV Tryz.prog t2 (e2 k)) else none
noncomputable def f (k : Nat) (a0 : Rows) (a1 : ByteArray) : T (ByteArray × Bool) :=
  .cas (iter (label_Get.s2 k a1 a0 (rLen a0)) k (0)) (fun r0 =>
   .ret (r0.1, r0.2)) (fun r1 =>
   .ret (ByteArray.empty, false))
noncomputable def d (k : Nat) : Fun := mkFun [27, 9] (fun as_ => f k (vRows (vN as_ 0)) (vStr (vN as_ 1))) default (fun r => .tuple [.str r.1, .bool r.2])
theorem hC (k : Nat) : CxOk (C k) := CxOk.nil
theorem l2 (k : Nat) : LoopOk Tryz.prog (S k) (lp (bodyF (Go.Proofs.Tryz.f113)) 0) := loopOk_mk (C := C k) (hC k) (Loops.all (n := 0) (by kernel_rfl) trivial) (lt := t2) (den := e2 k) (by kernel_rfl) (N := (ByteArray × Rows × Int)) (A := Int) (R := ((ByteArray × Bool) ⊕ Unit))
 (fun n x => a2 n.1 n.2.1 n.2.2 x) (fun n r => Sum.elim (o2_0 n.1 n.2.1 n.2.2) (o2_1 n.1 n.2.1 n.2.2) r) (fun n x => s2 k n.1 n.2.1 n.2.2 x) k (fun d => ((aS (aN d.a 0)), (aR (aN d.a 1)), (aI (aN d.a 2)))) (fun d => (aI (aN d.a 3))) (fun d y h => out2_eval h) (fun d => by kernel_rfl) (fun n x => by kernel_rfl) (fun n r => by rcases r with r | r <;> exact ⟨_, rfl⟩)
theorem ok (k : Nat) : FunOk Tryz.prog 113 (d k) := fun_mk (C := C k) (hC k) (S := S k) Tryz.func113 (by kernel_rfl) (by kernel_rfl) (Loops.all (n := 1) (by kernel_rfl) ⟨trivial, l2 k⟩) (fun as_ => by kernel_rfl)
end label_Get
namespace slices_Index_string_string
noncomputable def C (k : Nat) : Cx := ⟨Tryz.prog, tab [], [], [], tab []⟩
noncomputable def t2 : LoopT := ⟨⟨19, [], [(0, .sl 9 none), (1, .str), (7, .int .i64), (8, .int .i64)], [], [], []⟩, (fun | .ret => some ⟨19, [], [(4, .int .i64)], [], [], []⟩ | .exit 0 => some ⟨19, [], [], [], [], []⟩ | _ => none)⟩
noncomputable def s2 (k : Nat) (c0 : Rows) (c1 : ByteArray) (c2 : Int) (x : Int) : T (Int ⊕ (Int ⊕ Unit)) :=
  .test (iLt x c2)
   (.test (iIn x (rLen c0))
    (.test (sEq c1 (rStr (rAt c0 x) 0))
     (.ret (.inr (.inl x)))
     (.ret (.inl (iAdd .i64 x (1)))))
    (.fail))
   (.ret (.inr (.inr ())))
noncomputable def a2 (c0 : Rows) (c1 : ByteArray) (c2 : Int) (x : Int) : Dt := ⟨[.r c0, .s c1, .i c2, .i x], [], [], []⟩
noncomputable def o2_0 (c0 : Rows) (c1 : ByteArray) (c2 : Int) (r : Int) : X × Dt := (.ret, ⟨[.i r], [], [], []⟩)
noncomputable def o2_1 (c0 : Rows) (c1 : ByteArray) (c2 : Int) (r : Unit) : X × Dt := (.exit 0, ⟨[], [], [], []⟩)
noncomputable def e2 (k : Nat) (d : Dt) : T (X × Dt) := out2 (iter (s2 k (aR (aN d.a 0)) (aS (aN d.a 1)) (aI (aN d.a 2))) k (aI (aN d.a 3))) (o2_0 (aR (aN d.a 0)) (aS (aN d.a 1)) (aI (aN d.a 2))) (o2_1 (aR (aN d.a 0)) (aS (aN d.a 1)) (aI (aN d.a 2)))
noncomputable def S (k : Nat) : Subs := fun n => bif Nat.beq n 2 then some (loopV Tryz.prog t2 (e2 k)) else none
noncomputable def f (k : Nat) (a0 : Rows) (a1 : ByteArray) : T Int :=
  .cas (iter (slices_Index_string_string.s2 k a0 a1 (rLen a0)) k (0)) (fun r0 =>
   .ret r0) (fun r1 =>
   .ret (-1))
noncomputable def d (k : Nat) : Fun := mkFun [29, 9] (fun as_ => f k (vRows (vN as_ 0)) (vStr (vN as_ 1))) default (fun r => .int .i64 r)
theorem hC (k : Nat) : CxOk (C k) := CxOk.nil
theorem l2 (k : Nat) : LoopOk Tryz.prog (S k) (lp (bodyF (Go.Proofs.Tryz.f147)) 0) := loopOk_mk (C := C k) (hC k) (Loops.all (n := 0) (by kernel_rfl) trivial) (lt := t2) (den := e2 k) (by kernel_rfl) (N := (Rows × ByteArray × Int)) (A := Int) (R := (Int ⊕ Unit))
 (fun n x => a2 n.1 n.2.1 n.2.2 x) (fun n r => Sum.elim (o2_0 n.1 n.2.1 n.2.2) (o2_1 n.1 n.2.1 n.2.2) r) (fun n x => s2 k n.1 n.2.1 n.2.2 x) k (fun d => ((aR (aN d.a 0)), (aS (aN d.a 1)), (aI (aN d.a 2)))) (fun d => (aI (aN d.a 3))) (fun d y h => out2_eval h) (fun d => by kernel_rfl) (fun n x => by kernel_rfl) (fun n r => by rcases r with r | r <;> exact ⟨_, rfl⟩)
theorem ok (k : Nat) : FunOk Tryz.prog 147 (d k) := fun_mk (C := C k) (hC k) (S := S k) Tryz.func147 (by kernel_rfl) (by kernel_rfl) (Loops.all (n := 1) (by kernel_rfl) ⟨trivial, l2 k⟩) (fun as_ => by kernel_rfl)
end slices_Index_string_string
namespace slices_Contains_string_string
noncomputable def C (k : Nat) : Cx := ⟨Tryz.prog, tab [(147, slices_Index_string_string.d k)], [], [], tab []⟩
noncomputable def S (k : Nat) : Subs := fun n => none
noncomputable def f (k : Nat) (a0 : Rows) (a1 : ByteArray) : T Bool :=
  .bnd (slices_Index_string_string.f k a0 a1).eval default fun r0 =>
  .ret (iLe (0) r0)
noncomputable def d (k : Nat) : Fun := mkFun [29, 9] (fun as_ => f k (vRows (vN as_ 0)) (vStr (vN as_ 1))) default (fun r => .bool r)
theorem hC (k : Nat) : CxOk (C k) := CxOk.cons (p := (147, slices_Index_string_string.d k)) (slices_Index_string_string.ok k) (CxOk.nil)
theorem ok (k : Nat) : FunOk Tryz.prog 114 (d k) := fun_mk (C := C k) (hC k) (S := S k) Tryz.func114 (by kernel_rfl) (by kernel_rfl) (Loops.all (n := 0) (by kernel_rfl) trivial) (fun as_ => by kernel_rfl)
end slices_Contains_string_string
namespace label_holds
noncomputable def C (k : Nat) : Cx := ⟨Tryz.prog, tab [(113, label_Get.d k), (114, slices_Contains_string_string.d k)], [], [], tab []⟩
noncomputable def S (k : Nat) : Subs := fun n => none
noncomputable def f (k : Nat) (a0 : Row) (a1 : Rows) : T Bool :=
  .bnd (label_Get.f k a1 (rStr a0 0)).eval default fun r0 =>
  .test (iEq (rInt a0 1) (1))
   (.opt r0.2 (slices_Contains_string_string.f k (rSl a0 2) r0.1).eval default fun r1 =>
   .ret (bIte r0.2 r1 false))
   (.test (iEq (rInt a0 1) (2))
    (.opt (bNot (bNot r0.2)) (slices_Contains_string_string.f k (rSl a0 2) r0.1).eval default fun r2 =>
    .ret (bIte (bNot r0.2) true (bNot r2)))
    (.test (iEq (rInt a0 1) (3))
     (.ret r0.2)
     (.test (iEq (rInt a0 1) (4))
      (.ret (bNot r0.2))
      (.ret false))))
noncomputable def d (k : Nat) : Fun := mkFun [129, 27] (fun as_ => f k (vRow (vN as_ 0)) (vRows (vN as_ 1))) default (fun r => .bool r)
theorem hC (k : Nat) : CxOk (C k) := CxOk.cons (p := (113, label_Get.d k)) (label_Get.ok k) (CxOk.cons (p := (114, slices_Contains_string_string.d k)) (slices_Contains_string_string.ok k) (CxOk.nil))
theorem ok (k : Nat) : FunOk Tryz.prog 81 (d k) := fun_mk (C := C k) (hC k) (S := S k) Tryz.func81 (by kernel_rfl) (by kernel_rfl) (Loops.all (n := 0) (by kernel_rfl) trivial) (fun as_ => by kernel_rfl)
end label_holds
namespace label_Matches
noncomputable def C (k : Nat) : Cx := ⟨Tryz.prog, tab [(81, label_holds.d k)], [], [], tab []⟩
noncomputable def t2 : LoopT := ⟨⟨18, [], [(1, .sl 89 none), (7, .sl 129 none), (8, .int .i64), (9, .int .i64)], [], [], []⟩, (fun | .ret => some ⟨18, [], [(4, .bool)], [], [], []⟩ | .exit 0 => some ⟨18, [], [], [], [], []⟩ | _ => none)⟩
noncomputable def s2 (k : Nat) (c0 : Rows) (c1 : Rows) (c2 : Int) (x : Int) : T (Int ⊕ (Bool ⊕ Unit)) :=
  .test (iLt x c2)
   (.test (iIn x (rLen c1))
    (.bnd (label_holds.f k (et 129 (rAt c1 x)) c0).eval default fun r0 =>
    .test (bNot r0)
     (.ret (.inr (.inl false)))
     (.ret (.inl (iAdd .i64 x (1)))))
    (.fail))
   (.ret (.inr (.inr ())))
noncomputable def a2 (c0 : Rows) (c1 : Rows) (c2 : Int) (x : Int) : Dt := ⟨[.r c0, .r c1, .i c2, .i x], [], [], []⟩
noncomputable def o2_0 (c0 : Rows) (c1 : Rows) (c2 : Int) (r : Bool) : X × Dt := (.ret, ⟨[.b r], [], [], []⟩)
noncomputable def o2_1 (c0 : Rows) (c1 : Rows) (c2 : Int) (r : Unit) : X × Dt := (.exit 0, ⟨[], [], [], []⟩)
noncomputable def e2 (k : Nat) (d : Dt) : T (X × Dt) := out2 (iter (s2 k (aR (aN d.a 0)) (aR (aN d.a 1)) (aI (aN d.a 2))) k (aI (aN d.a 3))) (o2_0 (aR (aN d.a 0)) (aR (aN d.a 1)) (aI (aN d.a 2))) (o2_1 (aR (aN d.a 0)) (aR (aN d.a 1)) (aI (aN d.a 2)))
noncomputable def S (k : Nat) : Subs := fun n => bif Nat.beq n 2 then some (loopV Tryz.prog t2 (e2 k)) else none
noncomputable def f (k : Nat) (a0 : Rows) (a1 : Rows) : T Bool :=
  .cas (iter (label_Matches.s2 k a1 a0 (rLen a0)) k (0)) (fun r0 =>
   .ret r0) (fun r1 =>
   .ret true)
noncomputable def d (k : Nat) : Fun := mkFun [34, 27] (fun as_ => f k (vRows (vN as_ 0)) (vRows (vN as_ 1))) default (fun r => .bool r)
theorem hC (k : Nat) : CxOk (C k) := CxOk.cons (p := (81, label_holds.d k)) (label_holds.ok k) (CxOk.nil)
theorem l2 (k : Nat) : LoopOk Tryz.prog (S k) (lp (bodyF (Go.Proofs.Tryz.f52)) 0) := loopOk_mk (C := C k) (hC k) (Loops.all (n := 0) (by kernel_rfl) trivial) (lt := t2) (den := e2 k) (by kernel_rfl) (N := (Rows × Rows × Int)) (A := Int) (R := (Bool ⊕ Unit))
 (fun n x => a2 n.1 n.2.1 n.2.2 x) (fun n r => Sum.elim (o2_0 n.1 n.2.1 n.2.2) (o2_1 n.1 n.2.1 n.2.2) r) (fun n x => s2 k n.1 n.2.1 n.2.2 x) k (fun d => ((aR (aN d.a 0)), (aR (aN d.a 1)), (aI (aN d.a 2)))) (fun d => (aI (aN d.a 3))) (fun d y h => out2_eval h) (fun d => by kernel_rfl) (fun n x => by kernel_rfl) (fun n r => by rcases r with r | r <;> exact ⟨_, rfl⟩)
theorem ok (k : Nat) : FunOk Tryz.prog 52 (d k) := fun_mk (C := C k) (hC k) (S := S k) Tryz.func52 (by kernel_rfl) (by kernel_rfl) (Loops.all (n := 1) (by kernel_rfl) ⟨trivial, l2 k⟩) (fun as_ => by kernel_rfl)
end label_Matches
namespace affinity_limit
noncomputable def C (k : Nat) : Cx := ⟨Tryz.prog, tab [], [], [], tab []⟩
noncomputable def S (k : Nat) : Subs := fun n => none
noncomputable def f (k : Nat) (a0 : Int) : T Int :=
  .ret (iMin (iMax a0 (-1000000000000000)) (1000000000000000))
noncomputable def d (k : Nat) : Fun := mkFun [3] (fun as_ => f k (vInt (vN as_ 0))) default (fun r => .int .i64 r)
theorem hC (k : Nat) : CxOk (C k) := CxOk.nil
theorem ok (k : Nat) : FunOk Tryz.prog 53 (d k) := fun_mk (C := C k) (hC k) (S := S k) Tryz.func53 (by kernel_rfl) (by kernel_rfl) (Loops.all (n := 0) (by kernel_rfl) trivial) (fun as_ => by kernel_rfl)
end affinity_limit
namespace affinity_selects
noncomputable def C (k : Nat) : Cx := ⟨Tryz.prog, tab [(52, label_Matches.d k)], [], [], tab []⟩
noncomputable def S (k : Nat) : Subs := fun n => none
noncomputable def f (k : Nat) (a0 : Row) (a1 : ByteArray) (a2 : Row) : T Bool :=
  .opt (sEq (rStr a2 1) a1) (label_Matches.f k (rSl a0 2) (rSl a2 9)).eval default fun r0 =>
  .ret (bIte (sEq (rStr a2 1) a1) r0 false)
noncomputable def d (k : Nat) : Fun := mkFun [107, 9, 45] (fun as_ => f k (vRow (vN as_ 0)) (vStr (vN as_ 1)) (vRow (vN as_ 2))) default (fun r => .bool r)
theorem hC (k : Nat) : CxOk (C k) := CxOk.cons (p := (52, label_Matches.d k)) (label_Matches.ok k) (CxOk.nil)
theorem ok (k : Nat) : FunOk Tryz.prog 82 (d k) := fun_mk (C := C k) (hC k) (S := S k) Tryz.func82 (by kernel_rfl) (by kernel_rfl) (Loops.all (n := 0) (by kernel_rfl) trivial) (fun as_ => by kernel_rfl)
end affinity_selects
namespace affinity_Domain
noncomputable def C (k : Nat) : Cx := ⟨Tryz.prog, tab [(113, label_Get.d k)], [], [], tab []⟩
noncomputable def S (k : Nat) : Subs := fun n => none
noncomputable def f (k : Nat) (a0 : Row) (a1 : ByteArray) : T (ByteArray × Bool) :=
  .bnd (label_Get.f k (rSl a0 9) a1).eval default fun r0 =>
  .ret (r0.1, r0.2)
noncomputable def d (k : Nat) : Fun := mkFun [51, 9] (fun as_ => f k (vRow (vN as_ 0)) (vStr (vN as_ 1))) default (fun r => .tuple [.str r.1, .bool r.2])
theorem hC (k : Nat) : CxOk (C k) := CxOk.cons (p := (113, label_Get.d k)) (label_Get.ok k) (CxOk.nil)
theorem ok (k : Nat) : FunOk Tryz.prog 91 (d k) := fun_mk (C := C k) (hC k) (S := S k) Tryz.func91 (by kernel_rfl) (by kernel_rfl) (Loops.all (n := 0) (by kernel_rfl) trivial) (fun as_ => by kernel_rfl)
end affinity_Domain
namespace affinity_together
noncomputable def C (k : Nat) : Cx := ⟨Tryz.prog, tab [(91, affinity_Domain.d k)], [], [], tab []⟩
noncomputable def S (k : Nat) : Subs := fun n => none
noncomputable def f (k : Nat) (a0 : Row) (a1 : Row) (a2 : ByteArray) : T Bool :=
  .bnd (affinity_Domain.f k (et 51 a0) a2).eval default fun r0 =>
  .bnd (affinity_Domain.f k (et 51 a1) a2).eval default fun r1 =>
  .ret (bIte (bIte r0.2 r1.2 false) (sEq r0.1 r1.1) false)
noncomputable def d (k : Nat) : Fun := mkFun [51, 51, 9] (fun as_ => f k (vRow (vN as_ 0)) (vRow (vN as_ 1)) (vStr (vN as_ 2))) default (fun r => .bool r)
theorem hC (k : Nat) : CxOk (C k) := CxOk.cons (p := (91, affinity_Domain.d k)) (affinity_Domain.ok k) (CxOk.nil)
theorem ok (k : Nat) : FunOk Tryz.prog 83 (d k) := fun_mk (C := C k) (hC k) (S := S k) Tryz.func83 (by kernel_rfl) (by kernel_rfl) (Loops.all (n := 0) (by kernel_rfl) trivial) (fun as_ => by kernel_rfl)
end affinity_together
namespace affinity_near
noncomputable def C (k : Nat) : Cx := ⟨Tryz.prog, tab [(82, affinity_selects.d k), (83, affinity_together.d k)], [], [], tab []⟩
noncomputable def t2 : LoopT := ⟨⟨37, [], [(4, .ptr 4 0), (5, .ptr 5 0), (6, .ptr 6 0), (8, .bool), (9, .bool), (12, .sl 141 none), (13, .int .i64), (14, .int .i64)], [], [(4, 107), (5, 45), (6, 51)], []⟩, (fun | .exit 0 => some ⟨37, [], [(8, .bool), (9, .bool)], [], [], []⟩ | _ => none)⟩
noncomputable def s2 (k : Nat) (c0 : Rows) (c1 : Int) (c2 : Row) (c3 : Row) (c4 : Row) (x : (Bool × Bool × Int)) : T ((Bool × Bool × Int) ⊕ (Bool × Bool)) :=
  .test (iLt x.2.2 c1)
   (.test (iIn x.2.2 (rLen c0))
    (.bnd (affinity_selects.f k (et 107 c2) (rStr c3 1) (et 45 (rAt c0 x.2.2))).eval default fun r0 =>
    .test r0
     (.opt (bNot x.1) (affinity_together.f k (et 51 c4) (eo 51 (rAt c0 x.2.2) 32) (rStr c2 3)).eval default fun r1 =>
     .ret (.inl ((bIte x.1 true r1), true, (iAdd .i64 x.2.2 (1)))))
     (.ret (.inl (x.1, x.2.1, (iAdd .i64 x.2.2 (1))))))
    (.fail))
   (.ret (.inr (x.1, x.2.1)))
noncomputable def a2 (c0 : Rows) (c1 : Int) (c2 : Row) (c3 : Row) (c4 : Row) (x : (Bool × Bool × Int)) : Dt := ⟨[.u, .u, .u, .b x.1, .b x.2.1, .r c0, .i c1, .i x.2.2], [], [et 107 c2, et 45 c3, et 51 c4], []⟩
noncomputable def o2_0 (c0 : Rows) (c1 : Int) (c2 : Row) (c3 : Row) (c4 : Row) (r : (Bool × Bool)) : X × Dt := (.exit 0, ⟨[.b r.1, .b r.2], [], [], []⟩)
noncomputable def e2 (k : Nat) (d : Dt) : T (X × Dt) := out1 (iter (s2 k (aR (aN d.a 5)) (aI (aN d.a 6)) (d.r.getD 0 []) (d.r.getD 1 []) (d.r.getD 2 [])) k ((aB (aN d.a 3)), (aB (aN d.a 4)), (aI (aN d.a 7)))) default (o2_0 (aR (aN d.a 5)) (aI (aN d.a 6)) (d.r.getD 0 []) (d.r.getD 1 []) (d.r.getD 2 []))
noncomputable def S (k : Nat) : Subs := fun n => bif Nat.beq n 2 then some (loopV Tryz.prog t2 (e2 k)) else none
noncomputable def f (k : Nat) (a0 : Row) (a1 : Row) (a2 : Row) (a3 : Rows) : T (Bool × Bool) :=
  .bnd (iter (affinity_near.s2 k a3 (rLen a3) (et 107 a0) (et 45 a1) (et 51 a2)) k (false, (false, (0)))) default fun r0 =>
  .ret (r0.1, r0.2)
noncomputable def d (k : Nat) : Fun := mkFun [107, 45, 51, 100] (fun as_ => f k (vRow (vN as_ 0)) (vRow (vN as_ 1)) (vRow (vN as_ 2)) (vRows (vN as_ 3))) default (fun r => .tuple [.bool r.1, .bool r.2])
theorem hC (k : Nat) : CxOk (C k) := CxOk.cons (p := (82, affinity_selects.d k)) (affinity_selects.ok k) (CxOk.cons (p := (83, affinity_together.d k)) (affinity_together.ok k) (CxOk.nil))
theorem l2 (k : Nat) : LoopOk Tryz.prog (S k) (lp (bodyF (Go.Proofs.Tryz.f54)) 0) := loopOk_mk (C := C k) (hC k) (Loops.all (n := 0) (by kernel_rfl) trivial) (lt := t2) (den := e2 k) (by kernel_rfl) (N := (Rows × Int × Row × Row × Row)) (A := (Bool × Bool × Int)) (R := (Bool × Bool))
 (fun n x => a2 n.1 n.2.1 n.2.2.1 n.2.2.2.1 n.2.2.2.2 x) (fun n r => o2_0 n.1 n.2.1 n.2.2.1 n.2.2.2.1 n.2.2.2.2 r) (fun n x => s2 k n.1 n.2.1 n.2.2.1 n.2.2.2.1 n.2.2.2.2 x) k (fun d => ((aR (aN d.a 5)), (aI (aN d.a 6)), (d.r.getD 0 []), (d.r.getD 1 []), (d.r.getD 2 []))) (fun d => ((aB (aN d.a 3)), (aB (aN d.a 4)), (aI (aN d.a 7)))) (fun d y h => out1_eval h) (fun d => by kernel_rfl) (fun n x => by kernel_rfl) (fun n r => ⟨_, rfl⟩)
theorem ok (k : Nat) : FunOk Tryz.prog 54 (d k) := fun_mk (C := C k) (hC k) (S := S k) Tryz.func54 (by kernel_rfl) (by kernel_rfl) (Loops.all (n := 1) (by kernel_rfl) ⟨trivial, l2 k⟩) (fun as_ => by kernel_rfl)
end affinity_near
namespace affinity_Preference
noncomputable def C (k : Nat) : Cx := ⟨Tryz.prog, tab [(51, affinity_others.d k), (52, label_Matches.d k), (53, affinity_limit.d k), (54, affinity_near.d k)], [], [], tab []⟩
noncomputable def t4 : LoopT := ⟨⟨82, [], [(4, .ptr 4 0), (5, .ptr 5 0), (7, .sl 141 none), (8, .int .i64), (20, .sl 103 none), (21, .int .i64), (22, .int .i64)], [], [(4, 45), (5, 51)], []⟩, (fun | .exit 0 => some ⟨82, [], [(4, .ptr 4 0), (5, .ptr 5 0), (7, .sl 141 none), (8, .int .i64)], [], [(4, 45), (5, 51)], []⟩ | _ => none)⟩
noncomputable def s4 (k : Nat) (c0 : Rows) (c1 : Rows) (c2 : Int) (c3 : Row) (c4 : Row) (x : (Int × Int)) : T ((Int × Int) ⊕ Int) :=
  .test (iLt x.2 c2)
   (.test (iIn x.2 (rLen c1))
    (.opt (bNot (rBool (rAt c1 x.2) 0)) (label_Matches.f k (rSl (rAt c1 x.2) 1) (rSl c4 9)).eval default fun r0 =>
    .test (bIte (bNot (rBool (rAt c1 x.2) 0)) r0 false)
     (.bnd (affinity_limit.f k (rInt (rAt c1 x.2) 2)).eval default fun r1 =>
     .ret (.inl ((iAdd .i64 x.1 r1), (iAdd .i64 x.2 (1)))))
     (.ret (.inl (x.1, (iAdd .i64 x.2 (1))))))
    (.fail))
   (.ret (.inr x.1))
noncomputable def a4 (c0 : Rows) (c1 : Rows) (c2 : Int) (c3 : Row) (c4 : Row) (x : (Int × Int)) : Dt := ⟨[.u, .u, .r c0, .i x.1, .r c1, .i c2, .i x.2], [], [et 45 c3, et 51 c4], []⟩
noncomputable def o4_0 (c0 : Rows) (c1 : Rows) (c2 : Int) (c3 : Row) (c4 : Row) (r : Int) : X × Dt := (.exit 0, ⟨[.u, .u, .r c0, .i r], [], [(et 45 c3), (et 51 c4)], []⟩)
noncomputable def e4 (k : Nat) (d : Dt) : T (X × Dt) := out1 (iter (s4 k (aR (aN d.a 2)) (aR (aN d.a 4)) (aI (aN d.a 5)) (d.r.getD 0 []) (d.r.getD 1 [])) k ((aI (aN d.a 3)), (aI (aN d.a 6)))) default (o4_0 (aR (aN d.a 2)) (aR (aN d.a 4)) (aI (aN d.a 5)) (d.r.getD 0 []) (d.r.getD 1 []))
noncomputable def t10 : LoopT := ⟨⟨82, [], [(4, .ptr 4 0), (5, .ptr 5 0), (7, .sl 141 none), (8, .int .i64), (45, .sl 107 none), (46, .int .i64), (47, .int .i64)], [], [(4, 45), (5, 51)], []⟩, (fun | .exit 2 => some ⟨82, [], [(8, .int .i64)], [], [], []⟩ | _ => none)⟩
noncomputable def s10 (k : Nat) (c0 : Rows) (c1 : Rows) (c2 : Int) (c3 : Row) (c4 : Row) (x : (Int × Int)) : T ((Int × Int) ⊕ Int) :=
  .test (iLt x.2 c2)
   (.test (iIn x.2 (rLen c1))
    (.bnd (affinity_near.f k (et 107 (rAt c1 x.2)) (et 45 c3) (et 51 c4) c0).eval default fun r0 =>
    .test (bIte (rBool (rAt c1 x.2) 0) true (bNot r0.1))
     (.ret (.inl (x.1, (iAdd .i64 x.2 (1)))))
     (.test (rBool (rAt c1 x.2) 1)
      (.bnd (affinity_limit.f k (rInt (rAt c1 x.2) 4)).eval default fun r1 =>
      .ret (.inl ((iSub .i64 x.1 r1), (iAdd .i64 x.2 (1)))))
      (.bnd (affinity_limit.f k (rInt (rAt c1 x.2) 4)).eval default fun r2 =>
      .ret (.inl ((iAdd .i64 x.1 r2), (iAdd .i64 x.2 (1)))))))
    (.fail))
   (.ret (.inr x.1))
noncomputable def a10 (c0 : Rows) (c1 : Rows) (c2 : Int) (c3 : Row) (c4 : Row) (x : (Int × Int)) : Dt := ⟨[.u, .u, .r c0, .i x.1, .r c1, .i c2, .i x.2], [], [et 45 c3, et 51 c4], []⟩
noncomputable def o10_0 (c0 : Rows) (c1 : Rows) (c2 : Int) (c3 : Row) (c4 : Row) (r : Int) : X × Dt := (.exit 2, ⟨[.i r], [], [], []⟩)
noncomputable def e10 (k : Nat) (d : Dt) : T (X × Dt) := out1 (iter (s10 k (aR (aN d.a 2)) (aR (aN d.a 4)) (aI (aN d.a 5)) (d.r.getD 0 []) (d.r.getD 1 [])) k ((aI (aN d.a 3)), (aI (aN d.a 6)))) default (o10_0 (aR (aN d.a 2)) (aR (aN d.a 4)) (aI (aN d.a 5)) (d.r.getD 0 []) (d.r.getD 1 []))
noncomputable def S (k : Nat) : Subs := fun n => bif Nat.beq n 4 then some (loopV Tryz.prog t4 (e4 k)) else bif Nat.beq n 10 then some (loopV Tryz.prog t10 (e10 k)) else none
noncomputable def f (k : Nat) (a0 : Row) (a1 : Row) (a2 : Row) : T Int :=
  .bnd (affinity_others.f k (et 26 a0) (et 45 a1)).eval default fun r0 =>
  .bnd (iter (affinity_Preference.s4 k r0 (rSl a1 19) (rLen (rSl a1 19)) (et 45 a1) (et 51 a2)) k ((0), (0))) default fun r1 =>
  .bnd (iter (affinity_Preference.s10 k r0 (rSl a1 20) (rLen (rSl a1 20)) (et 45 a1) (et 51 a2)) k (r1, (0))) default fun r2 =>
  .bnd (affinity_limit.f k r2).eval default fun r3 =>
  .ret r3
noncomputable def d (k : Nat) : Fun := mkFun [26, 45, 51] (fun as_ => f k (vRow (vN as_ 0)) (vRow (vN as_ 1)) (vRow (vN as_ 2))) default (fun r => .int .i64 r)
theorem hC (k : Nat) : CxOk (C k) := CxOk.cons (p := (51, affinity_others.d k)) (affinity_others.ok k) (CxOk.cons (p := (52, label_Matches.d k)) (label_Matches.ok k) (CxOk.cons (p := (53, affinity_limit.d k)) (affinity_limit.ok k) (CxOk.cons (p := (54, affinity_near.d k)) (affinity_near.ok k) (CxOk.nil))))
theorem l4 (k : Nat) : LoopOk Tryz.prog (S k) (lp (bodyF (Go.Proofs.Tryz.f27)) 0) := loopOk_mk (C := C k) (hC k) (Loops.all (n := 0) (by kernel_rfl) trivial) (lt := t4) (den := e4 k) (by kernel_rfl) (N := (Rows × Rows × Int × Row × Row)) (A := (Int × Int)) (R := Int)
 (fun n x => a4 n.1 n.2.1 n.2.2.1 n.2.2.2.1 n.2.2.2.2 x) (fun n r => o4_0 n.1 n.2.1 n.2.2.1 n.2.2.2.1 n.2.2.2.2 r) (fun n x => s4 k n.1 n.2.1 n.2.2.1 n.2.2.2.1 n.2.2.2.2 x) k (fun d => ((aR (aN d.a 2)), (aR (aN d.a 4)), (aI (aN d.a 5)), (d.r.getD 0 []), (d.r.getD 1 []))) (fun d => ((aI (aN d.a 3)), (aI (aN d.a 6)))) (fun d y h => out1_eval h) (fun d => by kernel_rfl) (fun n x => by kernel_rfl) (fun n r => ⟨_, rfl⟩)
theorem l10 (k : Nat) : LoopOk Tryz.prog (S k) (lp (bodyF (Go.Proofs.Tryz.f27)) 1) := loopOk_mk (C := C k) (hC k) (Loops.all (n := 0) (by kernel_rfl) trivial) (lt := t10) (den := e10 k) (by kernel_rfl) (N := (Rows × Rows × Int × Row × Row)) (A := (Int × Int)) (R := Int)
 (fun n x => a10 n.1 n.2.1 n.2.2.1 n.2.2.2.1 n.2.2.2.2 x) (fun n r => o10_0 n.1 n.2.1 n.2.2.1 n.2.2.2.1 n.2.2.2.2 r) (fun n x => s10 k n.1 n.2.1 n.2.2.1 n.2.2.2.1 n.2.2.2.2 x) k (fun d => ((aR (aN d.a 2)), (aR (aN d.a 4)), (aI (aN d.a 5)), (d.r.getD 0 []), (d.r.getD 1 []))) (fun d => ((aI (aN d.a 3)), (aI (aN d.a 6)))) (fun d y h => out1_eval h) (fun d => by kernel_rfl) (fun n x => by kernel_rfl) (fun n r => ⟨_, rfl⟩)
theorem ok (k : Nat) : FunOk Tryz.prog 27 (d k) := fun_mk (C := C k) (hC k) (S := S k) Tryz.func27 (by kernel_rfl) (by kernel_rfl) (Loops.all (n := 2) (by kernel_rfl) ⟨⟨trivial, l4 k⟩, l10 k⟩) (fun as_ => by kernel_rfl)
end affinity_Preference
namespace score_clamp
noncomputable def C (k : Nat) : Cx := ⟨Tryz.prog, tab [], [], [], tab []⟩
noncomputable def S (k : Nat) : Subs := fun n => none
noncomputable def f (k : Nat) (a0 : Int) (a1 : Int) (a2 : Int) : T Int :=
  .ret (iMin (iMax a0 a1) a2)
noncomputable def d (k : Nat) : Fun := mkFun [3, 3, 3] (fun as_ => f k (vInt (vN as_ 0)) (vInt (vN as_ 1)) (vInt (vN as_ 2))) default (fun r => .int .i64 r)
theorem hC (k : Nat) : CxOk (C k) := CxOk.nil
theorem ok (k : Nat) : FunOk Tryz.prog 26 (d k) := fun_mk (C := C k) (hC k) (S := S k) Tryz.func26 (by kernel_rfl) (by kernel_rfl) (Loops.all (n := 0) (by kernel_rfl) trivial) (fun as_ => by kernel_rfl)
end score_clamp
namespace taint_Tolerates
noncomputable def C (k : Nat) : Cx := ⟨Tryz.prog, tab [], [], [], tab []⟩
noncomputable def S (k : Nat) : Subs := fun n => none
noncomputable def f (k : Nat) (a0 : Row) (a1 : Row) : T Bool :=
  .ret (bIte (bIte (bIte (sEq (rStr a0 0) ByteArray.empty) true (sEq (rStr a0 0) (rStr a1 0))) (bIte (rBool a0 2) true (sEq (rStr a0 1) (rStr a1 1))) false) (bIte (iEq (rInt a0 3) (0)) true (iEq (rInt a0 3) (rInt a1 2))) false)
noncomputable def d (k : Nat) : Fun := mkFun [147, 72] (fun as_ => f k (vRow (vN as_ 0)) (vRow (vN as_ 1))) default (fun r => .bool r)
theorem hC (k : Nat) : CxOk (C k) := CxOk.nil
theorem ok (k : Nat) : FunOk Tryz.prog 86 (d k) := fun_mk (C := C k) (hC k) (S := S k) Tryz.func86 (by kernel_rfl) (by kernel_rfl) (Loops.all (n := 0) (by kernel_rfl) trivial) (fun as_ => by kernel_rfl)
end taint_Tolerates
namespace taint_tolerated_1
noncomputable def C (k : Nat) : Cx := ⟨Tryz.prog, tab [(86, taint_Tolerates.d k)], [], [], tab []⟩
noncomputable def S (k : Nat) : Subs := fun n => none
noncomputable def f (k : Nat) (a0 : Row) (a1 : Row) : T Bool :=
  .bnd (taint_Tolerates.f k (et 147 a0) (et 72 a1)).eval default fun r0 =>
  .ret r0
noncomputable def d (k : Nat) : Fun := mkFun [147, .p 72] (fun as_ => f k (vRow (vN as_ 0)) (vPtr (vN as_ 1))) default (fun r => .bool r)
theorem hC (k : Nat) : CxOk (C k) := CxOk.cons (p := (86, taint_Tolerates.d k)) (taint_Tolerates.ok k) (CxOk.nil)
theorem ok (k : Nat) : FunOk Tryz.prog 85 (d k) := fun_mk (C := C k) (hC k) (S := S k) Tryz.func85 (by kernel_rfl) (by kernel_rfl) (Loops.all (n := 0) (by kernel_rfl) trivial) (fun as_ => by kernel_rfl)
end taint_tolerated_1
namespace slices_IndexFunc_api_Toleration_api_Toleration_c85
noncomputable def C (k : Nat) : Cx := ⟨Tryz.prog, tab [(85, taint_tolerated_1.d k)], [], [], tab []⟩
noncomputable def t2 : LoopT := ⟨⟨19, [], [(0, .sl 147 none), (1, .fn 85 [72]), (7, .int .i64), (8, .int .i64)], [], [], []⟩, (fun | .ret => some ⟨19, [], [(4, .int .i64)], [], [], []⟩ | .exit 0 => some ⟨19, [], [], [], [], []⟩ | _ => none)⟩
noncomputable def s2 (k : Nat) (c0 : Rows) (c1 : Row) (c2 : Int) (x : Int) : T (Int ⊕ (Int ⊕ Unit)) :=
  .test (iLt x c2)
   (.test (iIn x (rLen c0))
    (.bnd (taint_tolerated_1.f k (et 147 (rAt c0 x)) (et 72 c1)).eval default fun r0 =>
    .test r0
     (.ret (.inr (.inl x)))
     (.ret (.inl (iAdd .i64 x (1)))))
    (.fail))
   (.ret (.inr (.inr ())))
noncomputable def a2 (c0 : Rows) (c1 : Row) (c2 : Int) (x : Int) : Dt := ⟨[.r c0, .c [(et 72 c1)], .i c2, .i x], [], [], []⟩
noncomputable def o2_0 (c0 : Rows) (c1 : Row) (c2 : Int) (r : Int) : X × Dt := (.ret, ⟨[.i r], [], [], []⟩)
noncomputable def o2_1 (c0 : Rows) (c1 : Row) (c2 : Int) (r : Unit) : X × Dt := (.exit 0, ⟨[], [], [], []⟩)
noncomputable def e2 (k : Nat) (d : Dt) : T (X × Dt) := out2 (iter (s2 k (aR (aN d.a 0)) ((aC (aN d.a 1)).getD 0 []) (aI (aN d.a 2))) k (aI (aN d.a 3))) (o2_0 (aR (aN d.a 0)) ((aC (aN d.a 1)).getD 0 []) (aI (aN d.a 2))) (o2_1 (aR (aN d.a 0)) ((aC (aN d.a 1)).getD 0 []) (aI (aN d.a 2)))
noncomputable def S (k : Nat) : Subs := fun n => bif Nat.beq n 2 then some (loopV Tryz.prog t2 (e2 k)) else none
noncomputable def f (k : Nat) (a0 : Rows) (a1 : Row) : T Int :=
  .cas (iter (slices_IndexFunc_api_Toleration_api_Toleration_c85.s2 k a0 (et 72 a1) (rLen a0)) k (0)) (fun r0 =>
   .ret r0) (fun r1 =>
   .ret (-1))
noncomputable def d (k : Nat) : Fun := mkFun [38, .fn 85 [72]] (fun as_ => f k (vRows (vN as_ 0)) (vPtr (vN (vCaps (vN as_ 1)) 0))) default (fun r => .int .i64 r)
theorem hC (k : Nat) : CxOk (C k) := CxOk.cons (p := (85, taint_tolerated_1.d k)) (taint_tolerated_1.ok k) (CxOk.nil)
theorem l2 (k : Nat) : LoopOk Tryz.prog (S k) (lp (bodyF (Go.Proofs.Tryz.f115)) 0) := loopOk_mk (C := C k) (hC k) (Loops.all (n := 0) (by kernel_rfl) trivial) (lt := t2) (den := e2 k) (by kernel_rfl) (N := (Rows × Row × Int)) (A := Int) (R := (Int ⊕ Unit))
 (fun n x => a2 n.1 n.2.1 n.2.2 x) (fun n r => Sum.elim (o2_0 n.1 n.2.1 n.2.2) (o2_1 n.1 n.2.1 n.2.2) r) (fun n x => s2 k n.1 n.2.1 n.2.2 x) k (fun d => ((aR (aN d.a 0)), ((aC (aN d.a 1)).getD 0 []), (aI (aN d.a 2)))) (fun d => (aI (aN d.a 3))) (fun d y h => out2_eval h) (fun d => by kernel_rfl) (fun n x => by kernel_rfl) (fun n r => by rcases r with r | r <;> exact ⟨_, rfl⟩)
theorem ok (k : Nat) : FunOk Tryz.prog 115 (d k) := fun_mk (C := C k) (hC k) (S := S k) Tryz.func115 (by kernel_rfl) (by kernel_rfl) (Loops.all (n := 1) (by kernel_rfl) ⟨trivial, l2 k⟩) (fun as_ => by kernel_rfl)
end slices_IndexFunc_api_Toleration_api_Toleration_c85
namespace slices_ContainsFunc_api_Toleration_api_Toleration_c85
noncomputable def C (k : Nat) : Cx := ⟨Tryz.prog, tab [(86000115, slices_IndexFunc_api_Toleration_api_Toleration_c85.d k)], [], [], tab []⟩
noncomputable def S (k : Nat) : Subs := fun n => none
noncomputable def f (k : Nat) (a0 : Rows) (a1 : Row) : T Bool :=
  .bnd (slices_IndexFunc_api_Toleration_api_Toleration_c85.f k a0 (et 72 a1)).eval default fun r0 =>
  .ret (iLe (0) r0)
noncomputable def d (k : Nat) : Fun := mkFun [38, .fn 85 [72]] (fun as_ => f k (vRows (vN as_ 0)) (vPtr (vN (vCaps (vN as_ 1)) 0))) default (fun r => .bool r)
theorem hC (k : Nat) : CxOk (C k) := CxOk.consK (p := (86000115, slices_IndexFunc_api_Toleration_api_Toleration_c85.d k)) (by kernel_rfl) (slices_IndexFunc_api_Toleration_api_Toleration_c85.ok k) (CxOk.nil)
theorem ok (k : Nat) : FunOk Tryz.prog 84 (d k) := fun_mk (C := C k) (hC k) (S := S k) Tryz.func84 (by kernel_rfl) (by kernel_rfl) (Loops.all (n := 0) (by kernel_rfl) trivial) (fun as_ => by kernel_rfl)
end slices_ContainsFunc_api_Toleration_api_Toleration_c85
namespace taint_tolerated
noncomputable def C (k : Nat) : Cx := ⟨Tryz.prog, tab [(86000084, slices_ContainsFunc_api_Toleration_api_Toleration_c85.d k)], [], [(1, 2)], tab []⟩
noncomputable def S (k : Nat) : Subs := fun n => none
noncomputable def f (k : Nat) (a0 : Row) (a1 : Rows) : T Bool :=
  .bnd (slices_ContainsFunc_api_Toleration_api_Toleration_c85.f k a1 (et 72 a0)).eval default fun r0 =>
  .ret r0
noncomputable def d (k : Nat) : Fun := mkFun [72, 38] (fun as_ => f k (vRow (vN as_ 0)) (vRows (vN as_ 1))) default (fun r => .bool r)
theorem hC (k : Nat) : CxOk (C k) := CxOk.consK (p := (86000084, slices_ContainsFunc_api_Toleration_api_Toleration_c85.d k)) (by kernel_rfl) (slices_ContainsFunc_api_Toleration_api_Toleration_c85.ok k) (CxOk.nil)
theorem ok (k : Nat) : FunOk Tryz.prog 55 (d k) := fun_mk (C := C k) (hC k) (S := S k) Tryz.func55 (by kernel_rfl) (by kernel_rfl) (Loops.all (n := 0) (by kernel_rfl) trivial) (fun as_ => by kernel_rfl)
end taint_tolerated
namespace taint_Soft
noncomputable def C (k : Nat) : Cx := ⟨Tryz.prog, tab [(55, taint_tolerated.d k)], [], [], tab []⟩
noncomputable def t3 : LoopT := ⟨⟨27, [], [(1, .sl 147 none), (5, .int .i64), (8, .sl 72 none), (9, .int .i64), (10, .int .i64)], [], [], []⟩, (fun | .exit 0 => some ⟨27, [], [(5, .int .i64)], [], [], []⟩ | _ => none)⟩
noncomputable def s3 (k : Nat) (c0 : Rows) (c1 : Rows) (c2 : Int) (x : (Int × Int)) : T ((Int × Int) ⊕ Int) :=
  .test (iLt x.2 c2)
   (.test (iIn x.2 (rLen c1))
    (.opt (iEq (rInt (rAt c1 x.2) 2) (2)) (taint_tolerated.f k (et 72 (rAt c1 x.2)) c0).eval default fun r0 =>
    .test (bIte (iEq (rInt (rAt c1 x.2) 2) (2)) (bNot r0) false)
     (.ret (.inl ((iAdd .i64 x.1 (1)), (iAdd .i64 x.2 (1)))))
     (.ret (.inl (x.1, (iAdd .i64 x.2 (1))))))
    (.fail))
   (.ret (.inr x.1))
noncomputable def a3 (c0 : Rows) (c1 : Rows) (c2 : Int) (x : (Int × Int)) : Dt := ⟨[.r c0, .i x.1, .r c1, .i c2, .i x.2], [], [], []⟩
noncomputable def o3_0 (c0 : Rows) (c1 : Rows) (c2 : Int) (r : Int) : X × Dt := (.exit 0, ⟨[.i r], [], [], []⟩)
noncomputable def e3 (k : Nat) (d : Dt) : T (X × Dt) := out1 (iter (s3 k (aR (aN d.a 0)) (aR (aN d.a 2)) (aI (aN d.a 3))) k ((aI (aN d.a 1)), (aI (aN d.a 4)))) default (o3_0 (aR (aN d.a 0)) (aR (aN d.a 2)) (aI (aN d.a 3)))
noncomputable def S (k : Nat) : Subs := fun n => bif Nat.beq n 3 then some (loopV Tryz.prog t3 (e3 k)) else none
noncomputable def f (k : Nat) (a0 : Rows) (a1 : Rows) : T Int :=
  .bnd (iter (taint_Soft.s3 k a1 a0 (rLen a0)) k ((0), (0))) default fun r0 =>
  .ret r0
noncomputable def d (k : Nat) : Fun := mkFun [48, 38] (fun as_ => f k (vRows (vN as_ 0)) (vRows (vN as_ 1))) default (fun r => .int .i64 r)
theorem hC (k : Nat) : CxOk (C k) := CxOk.cons (p := (55, taint_tolerated.d k)) (taint_tolerated.ok k) (CxOk.nil)
theorem l3 (k : Nat) : LoopOk Tryz.prog (S k) (lp (bodyF (Go.Proofs.Tryz.f28)) 0) := loopOk_mk (C := C k) (hC k) (Loops.all (n := 0) (by kernel_rfl) trivial) (lt := t3) (den := e3 k) (by kernel_rfl) (N := (Rows × Rows × Int)) (A := (Int × Int)) (R := Int)
 (fun n x => a3 n.1 n.2.1 n.2.2 x) (fun n r => o3_0 n.1 n.2.1 n.2.2 r) (fun n x => s3 k n.1 n.2.1 n.2.2 x) k (fun d => ((aR (aN d.a 0)), (aR (aN d.a 2)), (aI (aN d.a 3)))) (fun d => ((aI (aN d.a 1)), (aI (aN d.a 4)))) (fun d y h => out1_eval h) (fun d => by kernel_rfl) (fun n x => by kernel_rfl) (fun n r => ⟨_, rfl⟩)
theorem ok (k : Nat) : FunOk Tryz.prog 28 (d k) := fun_mk (C := C k) (hC k) (S := S k) Tryz.func28 (by kernel_rfl) (by kernel_rfl) (Loops.all (n := 1) (by kernel_rfl) ⟨trivial, l3 k⟩) (fun as_ => by kernel_rfl)
end taint_Soft
namespace slices_Clone_api_Pod_api_Pod
noncomputable def C (k : Nat) : Cx := ⟨Tryz.prog, tab [], [7], [], tab []⟩
noncomputable def f (k : Nat) (a0 : Rows) : T Rows :=
  .test (rOk 480 (0) (rLen a0))
   (.ret a0)
   (.fail)
noncomputable def d (k : Nat) : Fun := mkFun [23] (fun as_ => f k (vRows (vN as_ 0))) default (fun r => .slice 45 r .open)
noncomputable def fm (k : Nat) (a0 : Rows) : T (Rows × Int) :=
  .test (rOk 480 (0) (rLen a0))
   (.ret (a0, (rLen a0)))
   (.fail)
noncomputable def dm (k : Nat) : FunM := mkFunM 45 false [23] (fun _ as_ => fm k (vRows (vN as_ 0)))
theorem okM (k : Nat) : FunOkM Tryz.prog 88 (dm k) := clone_okM (C := C k) CxOk.nil (S := fun n => none) Tryz.func88 (by kernel_rfl) (by kernel_rfl) (Loops.all (n := 0) (by kernel_rfl) trivial) (t := 23) (el := 45) (by_ := 480) (by kernel_rfl) (fun es b => by kernel_rfl)
theorem ok (k : Nat) : FunOk Tryz.prog 88 (d k) := clone_ok (okM k)
end slices_Clone_api_Pod_api_Pod
namespace spread_look_1
noncomputable def C (k : Nat) : Cx := ⟨Tryz.prog, tab [(80, meta_KeyOf.d k)], [], [], tab []⟩
noncomputable def S (k : Nat) : Subs := fun n => none
noncomputable def f (k : Nat) (a0 : Row) (a1 : Row) : T Bool :=
  .bnd (meta_KeyOf.f k (et 32 a0)).eval default fun r0 =>
  .ret (sEq r0 (rStr a1 0))
noncomputable def d (k : Nat) : Fun := mkFun [45, .p 9] (fun as_ => f k (vRow (vN as_ 0)) (vPtr (vN as_ 1))) default (fun r => .bool r)
theorem hC (k : Nat) : CxOk (C k) := CxOk.cons (p := (80, meta_KeyOf.d k)) (meta_KeyOf.ok k) (CxOk.nil)
theorem ok (k : Nat) : FunOk Tryz.prog 89 (d k) := fun_mk (C := C k) (hC k) (S := S k) Tryz.func89 (by kernel_rfl) (by kernel_rfl) (Loops.all (n := 0) (by kernel_rfl) trivial) (fun as_ => by kernel_rfl)
end spread_look_1
namespace slices_IndexFunc_api_Pod_api_Pod_c89
noncomputable def C (k : Nat) : Cx := ⟨Tryz.prog, tab [(89, spread_look_1.d k)], [], [], tab []⟩
noncomputable def t2 : LoopT := ⟨⟨19, [], [(0, .sl 45 none), (1, .fn 89 [9]), (7, .int .i64), (8, .int .i64)], [], [], []⟩, (fun | .ret => some ⟨19, [], [(4, .int .i64)], [], [], []⟩ | .exit 0 => some ⟨19, [], [], [], [], []⟩ | _ => none)⟩
noncomputable def s2 (k : Nat) (c0 : Rows) (c1 : Int) (x : (Row × Int)) : T ((Row × Int) ⊕ (Int ⊕ Unit)) :=
  .test (iLt x.2 c1)
   (.test (iIn x.2 (rLen c0))
    (.bnd (spread_look_1.f k (et 45 (rAt c0 x.2)) [.str (rStr x.1 0)]).eval default fun r0 =>
    .test r0
     (.ret (.inr (.inl x.2)))
     (.ret (.inl ([.str (rStr x.1 0)], (iAdd .i64 x.2 (1))))))
    (.fail))
   (.ret (.inr (.inr ())))
noncomputable def a2 (c0 : Rows) (c1 : Int) (x : (Row × Int)) : Dt := ⟨[.r c0, .c [(et 9 x.1)], .i c1, .i x.2], [], [], []⟩
noncomputable def o2_0 (c0 : Rows) (c1 : Int) (r : Int) : X × Dt := (.ret, ⟨[.i r], [], [], []⟩)
noncomputable def o2_1 (c0 : Rows) (c1 : Int) (r : Unit) : X × Dt := (.exit 0, ⟨[], [], [], []⟩)
noncomputable def e2 (k : Nat) (d : Dt) : T (X × Dt) := out2 (iter (s2 k (aR (aN d.a 0)) (aI (aN d.a 2))) k (((aC (aN d.a 1)).getD 0 []), (aI (aN d.a 3)))) (o2_0 (aR (aN d.a 0)) (aI (aN d.a 2))) (o2_1 (aR (aN d.a 0)) (aI (aN d.a 2)))
noncomputable def S (k : Nat) : Subs := fun n => bif Nat.beq n 2 then some (loopV Tryz.prog t2 (e2 k)) else none
noncomputable def f (k : Nat) (a0 : Rows) (a1 : Row) : T Int :=
  .cas (iter (slices_IndexFunc_api_Pod_api_Pod_c89.s2 k a0 (rLen a0)) k ([.str (rStr a1 0)], (0))) (fun r0 =>
   .ret r0) (fun r1 =>
   .ret (-1))
noncomputable def d (k : Nat) : Fun := mkFun [23, .fn 89 [9]] (fun as_ => f k (vRows (vN as_ 0)) (vPtr (vN (vCaps (vN as_ 1)) 0))) default (fun r => .int .i64 r)
theorem hC (k : Nat) : CxOk (C k) := CxOk.cons (p := (89, spread_look_1.d k)) (spread_look_1.ok k) (CxOk.nil)
theorem l2 (k : Nat) : LoopOk Tryz.prog (S k) (lp (bodyF (Go.Proofs.Tryz.f116)) 0) := loopOk_mk (C := C k) (hC k) (Loops.all (n := 0) (by kernel_rfl) trivial) (lt := t2) (den := e2 k) (by kernel_rfl) (N := (Rows × Int)) (A := (Row × Int)) (R := (Int ⊕ Unit))
 (fun n x => a2 n.1 n.2 x) (fun n r => Sum.elim (o2_0 n.1 n.2) (o2_1 n.1 n.2) r) (fun n x => s2 k n.1 n.2 x) k (fun d => ((aR (aN d.a 0)), (aI (aN d.a 2)))) (fun d => (((aC (aN d.a 1)).getD 0 []), (aI (aN d.a 3)))) (fun d y h => out2_eval h) (fun d => by kernel_rfl) (fun n x => by kernel_rfl) (fun n r => by rcases r with r | r <;> exact ⟨_, rfl⟩)
theorem ok (k : Nat) : FunOk Tryz.prog 116 (d k) := fun_mk (C := C k) (hC k) (S := S k) Tryz.func116 (by kernel_rfl) (by kernel_rfl) (Loops.all (n := 1) (by kernel_rfl) ⟨trivial, l2 k⟩) (fun as_ => by kernel_rfl)
end slices_IndexFunc_api_Pod_api_Pod_c89
namespace slices_DeleteFunc_api_Pod_api_Pod_c89
noncomputable def C (k : Nat) : Cx := ⟨Tryz.prog, tab [(90000116, slices_IndexFunc_api_Pod_api_Pod_c89.d k), (89, spread_look_1.d k)], [], [], tab []⟩
noncomputable def t5 : LoopT := ⟨⟨42, [], [(0, .aref 45 0), (1, .fn 89 [9]), (5, .int .i64), (6, .int .i64)], [], [], [(0, 45)]⟩, (fun | .exit 0 => some ⟨42, [], [(0, .aref 45 0), (5, .int .i64)], [], [], [(0, 45)]⟩ | _ => none)⟩
noncomputable def s5 (k : Nat) (c0 : Int) (x : (Row × Int × Int × Rows)) : T ((Row × Int × Int × Rows) ⊕ (Int × Rows)) :=
  .test (iLt x.2.2.1 c0)
   (.test (iIn x.2.2.1 c0)
    (.bnd (spread_look_1.f k (et 45 (rAt x.2.2.2 x.2.2.1)) [.str (rStr x.1 0)]).eval default fun r0 =>
    .test (bNot r0)
     (.test (iIn x.2.1 c0)
      (.ret (.inl ([.str (rStr x.1 0)], (iAdd .i64 x.2.1 (1)), (iAdd .i64 x.2.2.1 (1)), (rSet x.2.2.2 x.2.1 (et 45 (rAt x.2.2.2 x.2.2.1))))))
      (.fail))
     (.ret (.inl ([.str (rStr x.1 0)], x.2.1, (iAdd .i64 x.2.2.1 (1)), x.2.2.2))))
    (.fail))
   (.ret (.inr (x.2.1, x.2.2.2)))
noncomputable def a5 (c0 : Int) (x : (Row × Int × Int × Rows)) : Dt := ⟨[.i c0, .c [(et 9 x.1)], .i x.2.1, .i x.2.2.1], [], [], [x.2.2.2]⟩
noncomputable def o5_0 (c0 : Int) (r : (Int × Rows)) : X × Dt := (.exit 0, ⟨[.i c0, .i r.1], [], [], [r.2]⟩)
noncomputable def e5 (k : Nat) (d : Dt) : T (X × Dt) := out1 (iter (s5 k (aI (aN d.a 0))) k (((aC (aN d.a 1)).getD 0 []), (aI (aN d.a 2)), (aI (aN d.a 3)), (d.m.getD 0 []))) default (o5_0 (aI (aN d.a 0)))
noncomputable def S (k : Nat) : Subs := fun n => bif Nat.beq n 5 then some (loopV Tryz.prog t5 (e5 k)) else none
noncomputable def f (k : Nat) (a0 : Rows) (a1 : Row) : T (Rows × Int) :=
  .bnd (slices_IndexFunc_api_Pod_api_Pod_c89.f k (rTake a0 (rLen a0)) [.str (rStr a1 0)]).eval default fun r0 =>
  .test (iEq r0 (-1))
   (.ret (a0, (rLen a0)))
   (.bnd (iter (slices_DeleteFunc_api_Pod_api_Pod_c89.s5 k (rLen a0)) k ([.str (rStr a1 0)], (r0, ((iAdd .i64 r0 (1)), a0)))) default fun r1 =>
   .test (iCut r1.1 (rLen a0) (rLen a0))
    (.test (iCut (0) r1.1 (rLen a0))
     (.ret ((rFill r1.2 r1.1 (iPlus r1.1 (iMinus (rLen a0) r1.1)) [.str ByteArray.empty, .str ByteArray.empty, .str ByteArray.empty, .int .i64 (0), .int .i64 (0), .int .i64 (0), .int .i64 (0), .bool false, .int .i64 (0), .slice 89 [] .open, .slice 91 [] .open, .slice 9 [] .open, .slice 93 [] .open, .str ByteArray.empty, .int .i64 (0), .int .i64 (0), .int .i64 (0), .slice 65 [] .open, .slice 129 [] .open, .slice 103 [] .open, .slice 107 [] .open, .slice 112 [] .open, .slice 147 [] .open, .int .i64 (0), .bool false, .int .i64 (0), .int .i64 (0), .int .i64 (0), .slice 218 [] .open, .int .i64 (0), .str ByteArray.empty, .str ByteArray.empty]), r1.1))
     (.fail))
    (.fail))
noncomputable def dm (k : Nat) : FunM := mkFunM 45 true [.fn 89 [9]] (fun es_ as_ => f k es_ (vPtr (vN (vCaps (vN as_ 0)) 0)))
theorem hC (k : Nat) : CxOk (C k) := CxOk.consK (p := (90000116, slices_IndexFunc_api_Pod_api_Pod_c89.d k)) (by kernel_rfl) (slices_IndexFunc_api_Pod_api_Pod_c89.ok k) (CxOk.cons (p := (89, spread_look_1.d k)) (spread_look_1.ok k) (CxOk.nil))
theorem l5 (k : Nat) : LoopOk Tryz.prog (S k) (lp (bodyF (Go.Proofs.Tryz.f87)) 0) := loopOk_mk (C := C k) (hC k) (Loops.all (n := 0) (by kernel_rfl) trivial) (lt := t5) (den := e5 k) (by kernel_rfl) (N := Int) (A := (Row × Int × Int × Rows)) (R := (Int × Rows))
 (fun n x => a5 n x) (fun n r => o5_0 n r) (fun n x => s5 k n x) k (fun d => (aI (aN d.a 0))) (fun d => (((aC (aN d.a 1)).getD 0 []), (aI (aN d.a 2)), (aI (aN d.a 3)), (d.m.getD 0 []))) (fun d y h => out1_eval h) (fun d => by kernel_rfl) (fun n x => by kernel_rfl) (fun n r => ⟨_, rfl⟩)
theorem okM (k : Nat) : FunOkM Tryz.prog 87 (dm k) := fun_mkM (C := C k) (hC k) (S := S k) Tryz.func87 (by kernel_rfl) (by kernel_rfl) (Loops.all (n := 1) (by kernel_rfl) ⟨trivial, l5 k⟩) (fun es_ as_ => by kernel_rfl)
end slices_DeleteFunc_api_Pod_api_Pod_c89
namespace pod_Active
noncomputable def C (k : Nat) : Cx := ⟨Tryz.prog, tab [], [], [], tab []⟩
noncomputable def S (k : Nat) : Subs := fun n => none
noncomputable def f (k : Nat) (a0 : Row) : T Bool :=
  .ret (bIte (bIte (iEq (rInt a0 23) (0)) true (iEq (rInt a0 23) (1))) (bNot (rBool a0 7)) false)
noncomputable def d (k : Nat) : Fun := mkFun [45] (fun as_ => f k (vRow (vN as_ 0))) default (fun r => .bool r)
theorem hC (k : Nat) : CxOk (C k) := CxOk.nil
theorem ok (k : Nat) : FunOk Tryz.prog 117 (d k) := fun_mk (C := C k) (hC k) (S := S k) Tryz.func117 (by kernel_rfl) (by kernel_rfl) (Loops.all (n := 0) (by kernel_rfl) trivial) (fun as_ => by kernel_rfl)
end pod_Active
namespace strings_Compare
noncomputable def f (k : Nat) (a0 a1 : ByteArray) : T Int :=
  .ret (sCmp a0 a1)
noncomputable def d (k : Nat) : Fun := mkFun [9, 9] (fun as_ => f k (vStr (vN as_ 0)) (vStr (vN as_ 1))) default (fun r => .int .i64 r)
theorem ok (k : Nat) : FunOk Tryz.prog 120 (d k) := compare_ok lay_cmp ⟨_, Tryz.func120, by kernel_rfl, by kernel_rfl⟩
end strings_Compare
namespace spread_Counts_1
noncomputable def C (k : Nat) : Cx := ⟨Tryz.prog, tab [(120, strings_Compare.d k)], [], [], tab []⟩
noncomputable def S (k : Nat) : Subs := fun n => none
noncomputable def f (k : Nat) (a0 : Row) (a1 : Row) : T Int :=
  .bnd (strings_Compare.f k (rStr a0 0) (rStr a1 0)).eval default fun r0 =>
  .ret r0
noncomputable def d (k : Nat) : Fun := mkFun [117, 117] (fun as_ => f k (vRow (vN as_ 0)) (vRow (vN as_ 1))) default (fun r => .int .i64 r)
theorem hC (k : Nat) : CxOk (C k) := CxOk.cons (p := (120, strings_Compare.d k)) (strings_Compare.ok k) (CxOk.nil)
theorem ok (k : Nat) : FunOk Tryz.prog 119 (d k) := fun_mk (C := C k) (hC k) (S := S k) Tryz.func119 (by kernel_rfl) (by kernel_rfl) (Loops.all (n := 0) (by kernel_rfl) trivial) (fun as_ => by kernel_rfl)
end spread_Counts_1
namespace spread_Counts
noncomputable def C (k : Nat) : Cx := ⟨Tryz.prog, tab [(91, affinity_Domain.d k), (117, pod_Active.d k), (52, label_Matches.d k)], [], [], tab []⟩
noncomputable def t5 : LoopT := ⟨⟨118, [], [(1, .str), (3, .ptr 3 0), (5, .ptr 5 0), (7, .mref 21), (8, .mref 22), (9, .mref 23), (25, .sl 51 none), (26, .int .i64), (27, .int .i64)], [], [(3, 26), (5, 112)], [(21, 1000170), (22, 1000171), (23, 1000172)]⟩, (fun | .exit 0 => some ⟨118, [], [(1, .str), (3, .ptr 3 0), (5, .ptr 5 0), (7, .mref 21), (9, .mref 23)], [], [(3, 26), (5, 112)], [(21, 1000170), (23, 1000172)]⟩ | _ => none)⟩
noncomputable def s5 (k : Nat) (c0 : ByteArray) (c1 : Rows) (c2 : Int) (c3 : Row) (c4 : Row) (x : (Int × Rows × Rows × Rows)) : T ((Int × Rows × Rows × Rows) ⊕ (Rows × Rows)) :=
  .test (iLt x.1 c2)
   (.test (iIn x.1 (rLen c1))
    (.bnd (affinity_Domain.f k (et 51 (rAt c1 x.1)) (rStr c4 1)).eval default fun r0 =>
    .test r0.2
     (.test (bIte r0.2 (bNot (rBool (mGet x.2.2.1 (rStr (rAt c1 x.1) 2) [.bool false]) 0)) false)
      (.ret (.inl ((iAdd .i64 x.1 (1)), (mSet x.2.1 (rStr (rAt c1 x.1) 2) [.str r0.1]), (mSet x.2.2.1 (rStr (rAt c1 x.1) 2) [.bool true]), (mSet x.2.2.2 r0.1 [.int .i64 (iAdd .i64 (rInt (mGet x.2.2.2 r0.1 [.int .i64 (0)]) 0) (0))]))))
      (.ret (.inl ((iAdd .i64 x.1 (1)), x.2.1, (mSet x.2.2.1 (rStr (rAt c1 x.1) 2) [.bool true]), (mSet x.2.2.2 r0.1 [.int .i64 (iAdd .i64 (rInt (mGet x.2.2.2 r0.1 [.int .i64 (0)]) 0) (0))])))))
     (.test (bIte r0.2 (bNot (rBool (mGet x.2.2.1 (rStr (rAt c1 x.1) 2) [.bool false]) 0)) false)
      (.ret (.inl ((iAdd .i64 x.1 (1)), (mSet x.2.1 (rStr (rAt c1 x.1) 2) [.str r0.1]), (mSet x.2.2.1 (rStr (rAt c1 x.1) 2) [.bool true]), x.2.2.2)))
      (.ret (.inl ((iAdd .i64 x.1 (1)), x.2.1, (mSet x.2.2.1 (rStr (rAt c1 x.1) 2) [.bool true]), x.2.2.2)))))
    (.fail))
   (.ret (.inr (x.2.1, x.2.2.2)))
noncomputable def a5 (c0 : ByteArray) (c1 : Rows) (c2 : Int) (c3 : Row) (c4 : Row) (x : (Int × Rows × Rows × Rows)) : Dt := ⟨[.s c0, .u, .u, .u, .u, .u, .r c1, .i c2, .i x.1], [], [et 26 c3, et 112 c4], [x.2.1, x.2.2.1, x.2.2.2]⟩
noncomputable def o5_0 (c0 : ByteArray) (c1 : Rows) (c2 : Int) (c3 : Row) (c4 : Row) (r : (Rows × Rows)) : X × Dt := (.exit 0, ⟨[.s c0, .u, .u, .u, .u], [], [(et 26 c3), (et 112 c4)], [r.1, r.2]⟩)
noncomputable def e5 (k : Nat) (d : Dt) : T (X × Dt) := out1 (iter (s5 k (aS (aN d.a 0)) (aR (aN d.a 6)) (aI (aN d.a 7)) (d.r.getD 0 []) (d.r.getD 1 [])) k ((aI (aN d.a 8)), (d.m.getD 0 []), (d.m.getD 1 []), (d.m.getD 2 []))) default (o5_0 (aS (aN d.a 0)) (aR (aN d.a 6)) (aI (aN d.a 7)) (d.r.getD 0 []) (d.r.getD 1 []))
noncomputable def t15 : LoopT := ⟨⟨118, [], [(1, .str), (5, .ptr 5 0), (7, .mref 21), (9, .mref 23), (63, .sl 45 none), (64, .int .i64), (65, .int .i64)], [], [(5, 112)], [(21, 1000170), (23, 1000172)]⟩, (fun | .exit 2 => some ⟨118, [], [(9, .mref 23)], [], [], [(23, 1000172)]⟩ | _ => none)⟩
noncomputable def s15 (k : Nat) (c0 : ByteArray) (c1 : Rows) (c2 : Int) (c3 : Row) (c4 : Rows) (x : (Int × Rows)) : T ((Int × Rows) ⊕ Rows) :=
  .test (iLt x.1 c2)
   (.test (iIn x.1 (rLen c1))
    (.opt (mHas c4 (rStr (rAt c1 x.1) 13)) (pod_Active.f k (et 45 (rAt c1 x.1))).eval default fun r0 =>
    .opt (bIte (bIte (mHas c4 (rStr (rAt c1 x.1) 13)) r0 false) (sEq (rStr (rAt c1 x.1) 1) c0) false) (label_Matches.f k (rSl c3 2) (rSl (rAt c1 x.1) 9)).eval default fun r1 =>
    .test (bIte (bIte (bIte (mHas c4 (rStr (rAt c1 x.1) 13)) r0 false) (sEq (rStr (rAt c1 x.1) 1) c0) false) r1 false)
     (.ret (.inl ((iAdd .i64 x.1 (1)), (mSet x.2 (rStr (mGet c4 (rStr (rAt c1 x.1) 13) [.str ByteArray.empty]) 0) [.int .i64 (iAdd .i64 (rInt (mGet x.2 (rStr (mGet c4 (rStr (rAt c1 x.1) 13) [.str ByteArray.empty]) 0) [.int .i64 (0)]) 0) (1))]))))
     (.ret (.inl ((iAdd .i64 x.1 (1)), x.2))))
    (.fail))
   (.ret (.inr x.2))
noncomputable def a15 (c0 : ByteArray) (c1 : Rows) (c2 : Int) (c3 : Row) (c4 : Rows) (x : (Int × Rows)) : Dt := ⟨[.s c0, .u, .u, .u, .r c1, .i c2, .i x.1], [], [et 112 c3], [c4, x.2]⟩
noncomputable def o15_0 (c0 : ByteArray) (c1 : Rows) (c2 : Int) (c3 : Row) (c4 : Rows) (r : Rows) : X × Dt := (.exit 2, ⟨[.u], [], [], [r]⟩)
noncomputable def e15 (k : Nat) (d : Dt) : T (X × Dt) := out1 (iter (s15 k (aS (aN d.a 0)) (aR (aN d.a 4)) (aI (aN d.a 5)) (d.r.getD 0 []) (d.m.getD 0 [])) k ((aI (aN d.a 6)), (d.m.getD 1 []))) default (o15_0 (aS (aN d.a 0)) (aR (aN d.a 4)) (aI (aN d.a 5)) (d.r.getD 0 []) (d.m.getD 0 []))
noncomputable def S (k : Nat) : Subs := fun n => bif Nat.beq n 5 then some (loopV Tryz.prog t5 (e5 k)) else bif Nat.beq n 15 then some (loopV Tryz.prog t15 (e15 k)) else none
noncomputable def g (k : Nat) (a0 : Row) (a1 : ByteArray) (a2 : Row) : T Rows :=
  .bnd (iter (spread_Counts.s5 k a1 (rSl a0 0) (rLen (rSl a0 0)) (et 26 a0) (et 112 a2)) k ((0), ([], ([], [])))) default fun r0 =>
  .bnd (iter (spread_Counts.s15 k a1 (rSl a0 1) (rLen (rSl a0 1)) (et 112 a2) r0.1) k ((0), r0.2)) default fun r1 =>
  .ret (r1)
noncomputable def gq (k : Nat) (as_ : List V) : T Rows := g k (vRow (vN as_ 0)) (vStr (vN as_ 1)) (vRow (vN as_ 2))
theorem hC (k : Nat) : CxOk (C k) := CxOk.cons (p := (91, affinity_Domain.d k)) (affinity_Domain.ok k) (CxOk.cons (p := (117, pod_Active.d k)) (pod_Active.ok k) (CxOk.cons (p := (52, label_Matches.d k)) (label_Matches.ok k) (CxOk.nil)))
theorem l5 (k : Nat) : LoopOk Tryz.prog (S k) (lp (bodyF (Go.Proofs.YtilppppcafphbaaGreat.Ev.cutF 6 Go.Proofs.Tryz.f90)) 0) := loopOk_mk (C := C k) (hC k) (Loops.all (n := 0) (by kernel_rfl) trivial) (lt := t5) (den := e5 k) (by kernel_rfl) (N := (ByteArray × Rows × Int × Row × Row)) (A := (Int × Rows × Rows × Rows)) (R := (Rows × Rows))
 (fun n x => a5 n.1 n.2.1 n.2.2.1 n.2.2.2.1 n.2.2.2.2 x) (fun n r => o5_0 n.1 n.2.1 n.2.2.1 n.2.2.2.1 n.2.2.2.2 r) (fun n x => s5 k n.1 n.2.1 n.2.2.1 n.2.2.2.1 n.2.2.2.2 x) k (fun d => ((aS (aN d.a 0)), (aR (aN d.a 6)), (aI (aN d.a 7)), (d.r.getD 0 []), (d.r.getD 1 []))) (fun d => ((aI (aN d.a 8)), (d.m.getD 0 []), (d.m.getD 1 []), (d.m.getD 2 []))) (fun d y h => out1_eval h) (fun d => by kernel_rfl) (fun n x => by kernel_rfl) (fun n r => ⟨_, rfl⟩)
theorem l15 (k : Nat) : LoopOk Tryz.prog (S k) (lp (bodyF (Go.Proofs.YtilppppcafphbaaGreat.Ev.cutF 6 Go.Proofs.Tryz.f90)) 1) := loopOk_mk (C := C k) (hC k) (Loops.all (n := 0) (by kernel_rfl) trivial) (lt := t15) (den := e15 k) (by kernel_rfl) (N := (ByteArray × Rows × Int × Row × Rows)) (A := (Int × Rows)) (R := Rows)
 (fun n x => a15 n.1 n.2.1 n.2.2.1 n.2.2.2.1 n.2.2.2.2 x) (fun n r => o15_0 n.1 n.2.1 n.2.2.1 n.2.2.2.1 n.2.2.2.2 r) (fun n x => s15 k n.1 n.2.1 n.2.2.1 n.2.2.2.1 n.2.2.2.2 x) k (fun d => ((aS (aN d.a 0)), (aR (aN d.a 4)), (aI (aN d.a 5)), (d.r.getD 0 []), (d.m.getD 0 []))) (fun d => ((aI (aN d.a 6)), (d.m.getD 1 []))) (fun d y h => out1_eval h) (fun d => by kernel_rfl) (fun n x => by kernel_rfl) (fun n r => ⟨_, rfl⟩)
theorem loops (k : Nat) : Loops (LoopOk Tryz.prog (S k)) (bodyF (Go.Proofs.YtilppppcafphbaaGreat.Ev.cutF 6 Go.Proofs.Tryz.f90)) := Loops.all (n := 2) (by kernel_rfl) ⟨⟨trivial, l5 k⟩, l15 k⟩
theorem run (k : Nat) (as_ : List V) : funQV (C k) (S k) (Go.Proofs.YtilppppcafphbaaGreat.Ev.cutF 6 Go.Proofs.Tryz.f90) 9 (canonAs Tryz.prog [26, 9, 112] 0 as_) = gq k as_ := by kernel_rfl
noncomputable def f (k : Nat) (a0 : Row) (a1 : ByteArray) (a2 : Row) : T Rows :=
  .bnd (spread_Counts.g k a0 a1 a2).eval default fun r0 =>
  .test (bAnd (rOk 24 0 (rLen r0)) (mOk r0))
   (.ret (sortC r0))
   (.fail)
noncomputable def d (k : Nat) : Fun := mkFun [26, 9, 112] (fun as_ => f k (vRow (vN as_ 0)) (vStr (vN as_ 1)) (vRow (vN as_ 2))) default (fun r => .slice 117 r .open)
theorem tail (k : Nat) : CntOk (C k) (S k) Tryz.f90 [26, 9, 112] (gq k) 172 117 24 118 119 where
  ntmps := by kernel_rfl
  loops := loops k
  pre := fun l => by kernel_rfl
  code := by kernel_rfl
  op1 := ⟨by kernel_rfl, by kernel_rfl, by kernel_rfl⟩
  op2 := ⟨by kernel_rfl, by kernel_rfl, by kernel_rfl⟩
  op3 := ⟨by kernel_rfl, by kernel_rfl, by kernel_rfl⟩
  op4 := ⟨by kernel_rfl, by kernel_rfl, by kernel_rfl⟩
  ini := fun r => by kernel_rfl
  lp1 := fun r seen => by kernel_rfl
  lp2 := fun r seen out => by kernel_rfl
  fin1 := fun r seen => by kernel_rfl
  fin2 := fun r seen out => by kernel_rfl
  noLoop := ⟨trivial, trivial, ⟨trivial, trivial⟩, trivial⟩
theorem clo (x y : ByteArray × Int) (W : World) : Calls Tryz.prog 119 #[.agg #[.string x.1, .int .i64 x.2], .agg #[.string y.1, .int .i64 y.2]] W fun e w' => e = .returned (.int .i64 (Lib.compareBytes x.1.data.toList y.1.data.toList)) ∧ ∃ q os', w' = Go.Sort.grow (W.drewN q) os' := by
  have hcon := fun W' => Any.strings_Compare lay_cmp x.1 y.1 W'
  change ∀ W', Calls Tryz.prog 120 _ _ _ at hcon
  generalize Lib.compareBytes x.1.data.toList y.1.data.toList = r at hcon ⊢
  go_enter Tryz.func119, Tryz.ntmps119
  go_wp2_with (go_at_call 120; refine (hcon _).mono ?_; rintro e w' ⟨rfl, rfl⟩)
  go_ret
  exact ⟨rfl, 0, _, by rw [Go.Sort.alloc_eq_grow, Go.Sort.alloc_eq_grow, Go.Sort.grow_grow]; rfl⟩
theorem ok (k : Nat) : FunOk Tryz.prog 90 (d k) :=
  have h := sort_con lay_sort (fun w => by kernel_rfl) (fun w => by kernel_rfl) (enters_of Tryz.func119 (by kernel_rfl) rfl) clo
  counts_ok (hC k) (tail k) Tryz.func90 (by kernel_rfl) (by kernel_rfl) ⟨by kernel_rfl, fun r => by kernel_rfl⟩ (by kernel_rfl : mapE Tryz.prog 172 = some 3) (fun cs => by kernel_rfl) (by decide) ⟨_, Tryz.func118, by kernel_rfl, by kernel_rfl⟩ h.1 h.2
end spread_Counts
namespace spread_look_2
noncomputable def C (k : Nat) : Cx := ⟨Tryz.prog, tab [], [], [], tab []⟩
noncomputable def S (k : Nat) : Subs := fun n => none
noncomputable def f (k : Nat) (a0 : Row) (a1 : Row) : T Bool :=
  .ret (sEq (rStr a0 0) (rStr a1 0))
noncomputable def d (k : Nat) : Fun := mkFun [117, .p 9] (fun as_ => f k (vRow (vN as_ 0)) (vPtr (vN as_ 1))) default (fun r => .bool r)
theorem hC (k : Nat) : CxOk (C k) := CxOk.nil
theorem ok (k : Nat) : FunOk Tryz.prog 93 (d k) := fun_mk (C := C k) (hC k) (S := S k) Tryz.func93 (by kernel_rfl) (by kernel_rfl) (Loops.all (n := 0) (by kernel_rfl) trivial) (fun as_ => by kernel_rfl)
end spread_look_2
namespace slices_IndexFunc_api_Count_api_Count_c93
noncomputable def C (k : Nat) : Cx := ⟨Tryz.prog, tab [(93, spread_look_2.d k)], [], [], tab []⟩
noncomputable def t2 : LoopT := ⟨⟨19, [], [(0, .sl 117 none), (1, .fn 93 [9]), (7, .int .i64), (8, .int .i64)], [], [], []⟩, (fun | .ret => some ⟨19, [], [(4, .int .i64)], [], [], []⟩ | .exit 0 => some ⟨19, [], [], [], [], []⟩ | _ => none)⟩
noncomputable def s2 (k : Nat) (c0 : Rows) (c1 : Int) (x : (Row × Int)) : T ((Row × Int) ⊕ (Int ⊕ Unit)) :=
  .test (iLt x.2 c1)
   (.test (iIn x.2 (rLen c0))
    (.bnd (spread_look_2.f k (et 117 (rAt c0 x.2)) [.str (rStr x.1 0)]).eval default fun r0 =>
    .test r0
     (.ret (.inr (.inl x.2)))
     (.ret (.inl ([.str (rStr x.1 0)], (iAdd .i64 x.2 (1))))))
    (.fail))
   (.ret (.inr (.inr ())))
noncomputable def a2 (c0 : Rows) (c1 : Int) (x : (Row × Int)) : Dt := ⟨[.r c0, .c [(et 9 x.1)], .i c1, .i x.2], [], [], []⟩
noncomputable def o2_0 (c0 : Rows) (c1 : Int) (r : Int) : X × Dt := (.ret, ⟨[.i r], [], [], []⟩)
noncomputable def o2_1 (c0 : Rows) (c1 : Int) (r : Unit) : X × Dt := (.exit 0, ⟨[], [], [], []⟩)
noncomputable def e2 (k : Nat) (d : Dt) : T (X × Dt) := out2 (iter (s2 k (aR (aN d.a 0)) (aI (aN d.a 2))) k (((aC (aN d.a 1)).getD 0 []), (aI (aN d.a 3)))) (o2_0 (aR (aN d.a 0)) (aI (aN d.a 2))) (o2_1 (aR (aN d.a 0)) (aI (aN d.a 2)))
noncomputable def S (k : Nat) : Subs := fun n => bif Nat.beq n 2 then some (loopV Tryz.prog t2 (e2 k)) else none
noncomputable def f (k : Nat) (a0 : Rows) (a1 : Row) : T Int :=
  .cas (iter (slices_IndexFunc_api_Count_api_Count_c93.s2 k a0 (rLen a0)) k ([.str (rStr a1 0)], (0))) (fun r0 =>
   .ret r0) (fun r1 =>
   .ret (-1))
noncomputable def d (k : Nat) : Fun := mkFun [113, .fn 93 [9]] (fun as_ => f k (vRows (vN as_ 0)) (vPtr (vN (vCaps (vN as_ 1)) 0))) default (fun r => .int .i64 r)
theorem hC (k : Nat) : CxOk (C k) := CxOk.cons (p := (93, spread_look_2.d k)) (spread_look_2.ok k) (CxOk.nil)
theorem l2 (k : Nat) : LoopOk Tryz.prog (S k) (lp (bodyF (Go.Proofs.Tryz.f92)) 0) := loopOk_mk (C := C k) (hC k) (Loops.all (n := 0) (by kernel_rfl) trivial) (lt := t2) (den := e2 k) (by kernel_rfl) (N := (Rows × Int)) (A := (Row × Int)) (R := (Int ⊕ Unit))
 (fun n x => a2 n.1 n.2 x) (fun n r => Sum.elim (o2_0 n.1 n.2) (o2_1 n.1 n.2) r) (fun n x => s2 k n.1 n.2 x) k (fun d => ((aR (aN d.a 0)), (aI (aN d.a 2)))) (fun d => (((aC (aN d.a 1)).getD 0 []), (aI (aN d.a 3)))) (fun d y h => out2_eval h) (fun d => by kernel_rfl) (fun n x => by kernel_rfl) (fun n r => by rcases r with r | r <;> exact ⟨_, rfl⟩)
theorem ok (k : Nat) : FunOk Tryz.prog 92 (d k) := fun_mk (C := C k) (hC k) (S := S k) Tryz.func92 (by kernel_rfl) (by kernel_rfl) (Loops.all (n := 1) (by kernel_rfl) ⟨trivial, l2 k⟩) (fun as_ => by kernel_rfl)
end slices_IndexFunc_api_Count_api_Count_c93
namespace spread_look
noncomputable def C (k : Nat) : Cx := ⟨Tryz.prog, tab [(80, meta_KeyOf.d k), (88, slices_Clone_api_Pod_api_Pod.d k), (90, spread_Counts.d k), (91, affinity_Domain.d k), (94000092, slices_IndexFunc_api_Count_api_Count_c93.d k)], [22], [(2, 11), (3, 11), (6, 14), (7, 14), (8, 14), (4, 22)], tab [(88, slices_Clone_api_Pod_api_Pod.dm k), (90000087, slices_DeleteFunc_api_Pod_api_Pod_c89.dm k)]⟩
noncomputable def S (k : Nat) : Subs := fun n => none
noncomputable def f (k : Nat) (a0 : Row) (a1 : Row) (a2 : Row) (a3 : Row) : T (Rows × Int × Bool) :=
  .bnd (meta_KeyOf.f k (et 32 a1)).eval default fun r0 =>
  .bnd (slices_Clone_api_Pod_api_Pod.fm k (rSl a0 1)).eval default fun r1 =>
  .bnd (slices_DeleteFunc_api_Pod_api_Pod_c89.f k (rTake r1.1 r1.2) [.str r0]).eval default fun r2 =>
  .bnd (spread_Counts.f k [.slice 51 (rSl a0 0) .open, .slice 45 (rTake r2.1 r2.2) .open, .slice 86 (rSl a0 2) .open, .int .i64 (rInt a0 3)] (rStr a1 1) (et 112 a3)).eval default fun r3 =>
  .bnd (affinity_Domain.f k (et 51 a2) (rStr a3 1)).eval default fun r4 =>
  .test (bNot r4.2)
   (.ret (r3, (-1), false))
   (.bnd (slices_IndexFunc_api_Count_api_Count_c93.f k r3 [.str r4.1]).eval default fun r5 =>
   .ret (r3, r5, true))
noncomputable def d (k : Nat) : Fun := mkFun [26, 45, 51, 112] (fun as_ => f k (vRow (vN as_ 0)) (vRow (vN as_ 1)) (vRow (vN as_ 2)) (vRow (vN as_ 3))) default (fun r => .tuple [.slice 117 r.1 .open, .int .i64 r.2.1, .bool r.2.2])
theorem hC (k : Nat) : CxOk (C k) := CxOk.cons (p := (80, meta_KeyOf.d k)) (meta_KeyOf.ok k) (CxOk.cons (p := (88, slices_Clone_api_Pod_api_Pod.d k)) (slices_Clone_api_Pod_api_Pod.ok k) (CxOk.cons (p := (90, spread_Counts.d k)) (spread_Counts.ok k) (CxOk.cons (p := (91, affinity_Domain.d k)) (affinity_Domain.ok k) (CxOk.consK (p := (94000092, slices_IndexFunc_api_Count_api_Count_c93.d k)) (by kernel_rfl) (slices_IndexFunc_api_Count_api_Count_c93.ok k) (CxOk.consM (p := (88, slices_Clone_api_Pod_api_Pod.dm k)) (slices_Clone_api_Pod_api_Pod.okM k) (CxOk.consMK (p := (90000087, slices_DeleteFunc_api_Pod_api_Pod_c89.dm k)) (by kernel_rfl) (slices_DeleteFunc_api_Pod_api_Pod_c89.okM k) (CxOk.nil)))))))
theorem ok (k : Nat) : FunOk Tryz.prog 56 (d k) := fun_mk (C := C k) (hC k) (S := S k) Tryz.func56 (by kernel_rfl) (by kernel_rfl) (Loops.all (n := 0) (by kernel_rfl) trivial) (fun as_ => by kernel_rfl)
end spread_look
namespace spread_Score
noncomputable def C (k : Nat) : Cx := ⟨Tryz.prog, tab [(56, spread_look.d k)], [], [], tab []⟩
noncomputable def t3 : LoopT := ⟨⟨49, [], [(3, .ptr 3 0), (4, .ptr 4 0), (5, .ptr 5 0), (7, .int .i64), (15, .sl 112 none), (16, .int .i64), (17, .int .i64)], [], [(3, 26), (4, 45), (5, 51)], []⟩, (fun | .exit 0 => some ⟨49, [], [(7, .int .i64)], [], [], []⟩ | _ => none)⟩
noncomputable def s3 (k : Nat) (c0 : Rows) (c1 : Int) (c2 : Row) (c3 : Row) (c4 : Row) (x : (Int × Int)) : T ((Int × Int) ⊕ Int) :=
  .test (iLt x.2 c1)
   (.test (iIn x.2 (rLen c0))
    (.test (rBool (rAt c0 x.2) 3)
     (.ret (.inl (x.1, (iAdd .i64 x.2 (1)))))
     (.bnd (spread_look.f k (et 26 c2) (et 45 c3) (et 51 c4) (et 112 (rAt c0 x.2))).eval default fun r0 =>
     .test (bNot r0.2.2)
      (.ret (.inl ((iAdd .i64 x.1 (40)), (iAdd .i64 x.2 (1)))))
      (.test (iLe (0) r0.2.1)
       (.test (iIn r0.2.1 (rLen r0.1))
        (.ret (.inl ((iAdd .i64 x.1 (rInt (rAt r0.1 r0.2.1) 1)), (iAdd .i64 x.2 (1)))))
        (.fail))
       (.ret (.inl (x.1, (iAdd .i64 x.2 (1))))))))
    (.fail))
   (.ret (.inr x.1))
noncomputable def a3 (c0 : Rows) (c1 : Int) (c2 : Row) (c3 : Row) (c4 : Row) (x : (Int × Int)) : Dt := ⟨[.u, .u, .u, .i x.1, .r c0, .i c1, .i x.2], [], [et 26 c2, et 45 c3, et 51 c4], []⟩
noncomputable def o3_0 (c0 : Rows) (c1 : Int) (c2 : Row) (c3 : Row) (c4 : Row) (r : Int) : X × Dt := (.exit 0, ⟨[.i r], [], [], []⟩)
noncomputable def e3 (k : Nat) (d : Dt) : T (X × Dt) := out1 (iter (s3 k (aR (aN d.a 4)) (aI (aN d.a 5)) (d.r.getD 0 []) (d.r.getD 1 []) (d.r.getD 2 [])) k ((aI (aN d.a 3)), (aI (aN d.a 6)))) default (o3_0 (aR (aN d.a 4)) (aI (aN d.a 5)) (d.r.getD 0 []) (d.r.getD 1 []) (d.r.getD 2 []))
noncomputable def S (k : Nat) : Subs := fun n => bif Nat.beq n 3 then some (loopV Tryz.prog t3 (e3 k)) else none
noncomputable def f (k : Nat) (a0 : Row) (a1 : Row) (a2 : Row) : T Int :=
  .bnd (iter (spread_Score.s3 k (rSl a1 21) (rLen (rSl a1 21)) (et 26 a0) (et 45 a1) (et 51 a2)) k ((0), (0))) default fun r0 =>
  .ret r0
noncomputable def d (k : Nat) : Fun := mkFun [26, 45, 51] (fun as_ => f k (vRow (vN as_ 0)) (vRow (vN as_ 1)) (vRow (vN as_ 2))) default (fun r => .int .i64 r)
theorem hC (k : Nat) : CxOk (C k) := CxOk.cons (p := (56, spread_look.d k)) (spread_look.ok k) (CxOk.nil)
theorem l3 (k : Nat) : LoopOk Tryz.prog (S k) (lp (bodyF (Go.Proofs.Tryz.f29)) 0) := loopOk_mk (C := C k) (hC k) (Loops.all (n := 0) (by kernel_rfl) trivial) (lt := t3) (den := e3 k) (by kernel_rfl) (N := (Rows × Int × Row × Row × Row)) (A := (Int × Int)) (R := Int)
 (fun n x => a3 n.1 n.2.1 n.2.2.1 n.2.2.2.1 n.2.2.2.2 x) (fun n r => o3_0 n.1 n.2.1 n.2.2.1 n.2.2.2.1 n.2.2.2.2 r) (fun n x => s3 k n.1 n.2.1 n.2.2.1 n.2.2.2.1 n.2.2.2.2 x) k (fun d => ((aR (aN d.a 4)), (aI (aN d.a 5)), (d.r.getD 0 []), (d.r.getD 1 []), (d.r.getD 2 []))) (fun d => ((aI (aN d.a 3)), (aI (aN d.a 6)))) (fun d y h => out1_eval h) (fun d => by kernel_rfl) (fun n x => by kernel_rfl) (fun n r => ⟨_, rfl⟩)
theorem ok (k : Nat) : FunOk Tryz.prog 29 (d k) := fun_mk (C := C k) (hC k) (S := S k) Tryz.func29 (by kernel_rfl) (by kernel_rfl) (Loops.all (n := 1) (by kernel_rfl) ⟨trivial, l3 k⟩) (fun as_ => by kernel_rfl)
end spread_Score
namespace filter_Free_1
noncomputable def C (k : Nat) : Cx := ⟨Tryz.prog, tab [], [], [], tab []⟩
noncomputable def S (k : Nat) : Subs := fun n => none
noncomputable def f (k : Nat) (a0 : Row) (a1 : Row) : T Bool :=
  .ret (sEq (rStr a0 2) (rStr a1 0))
noncomputable def d (k : Nat) : Fun := mkFun [51, .p 9] (fun as_ => f k (vRow (vN as_ 0)) (vPtr (vN as_ 1))) default (fun r => .bool r)
theorem hC (k : Nat) : CxOk (C k) := CxOk.nil
theorem ok (k : Nat) : FunOk Tryz.prog 71 (d k) := fun_mk (C := C k) (hC k) (S := S k) Tryz.func71 (by kernel_rfl) (by kernel_rfl) (Loops.all (n := 0) (by kernel_rfl) trivial) (fun as_ => by kernel_rfl)
end filter_Free_1
namespace slices_IndexFunc_api_Node_api_Node_c71
noncomputable def C (k : Nat) : Cx := ⟨Tryz.prog, tab [(71, filter_Free_1.d k)], [], [], tab []⟩
noncomputable def t2 : LoopT := ⟨⟨19, [], [(0, .sl 51 none), (1, .fn 71 [9]), (7, .int .i64), (8, .int .i64)], [], [], []⟩, (fun | .ret => some ⟨19, [], [(4, .int .i64)], [], [], []⟩ | .exit 0 => some ⟨19, [], [], [], [], []⟩ | _ => none)⟩
noncomputable def s2 (k : Nat) (c0 : Rows) (c1 : Int) (x : (Row × Int)) : T ((Row × Int) ⊕ (Int ⊕ Unit)) :=
  .test (iLt x.2 c1)
   (.test (iIn x.2 (rLen c0))
    (.bnd (filter_Free_1.f k (et 51 (rAt c0 x.2)) [.str (rStr x.1 0)]).eval default fun r0 =>
    .test r0
     (.ret (.inr (.inl x.2)))
     (.ret (.inl ([.str (rStr x.1 0)], (iAdd .i64 x.2 (1))))))
    (.fail))
   (.ret (.inr (.inr ())))
noncomputable def a2 (c0 : Rows) (c1 : Int) (x : (Row × Int)) : Dt := ⟨[.r c0, .c [(et 9 x.1)], .i c1, .i x.2], [], [], []⟩
noncomputable def o2_0 (c0 : Rows) (c1 : Int) (r : Int) : X × Dt := (.ret, ⟨[.i r], [], [], []⟩)
noncomputable def o2_1 (c0 : Rows) (c1 : Int) (r : Unit) : X × Dt := (.exit 0, ⟨[], [], [], []⟩)
noncomputable def e2 (k : Nat) (d : Dt) : T (X × Dt) := out2 (iter (s2 k (aR (aN d.a 0)) (aI (aN d.a 2))) k (((aC (aN d.a 1)).getD 0 []), (aI (aN d.a 3)))) (o2_0 (aR (aN d.a 0)) (aI (aN d.a 2))) (o2_1 (aR (aN d.a 0)) (aI (aN d.a 2)))
noncomputable def S (k : Nat) : Subs := fun n => bif Nat.beq n 2 then some (loopV Tryz.prog t2 (e2 k)) else none
noncomputable def f (k : Nat) (a0 : Rows) (a1 : Row) : T Int :=
  .cas (iter (slices_IndexFunc_api_Node_api_Node_c71.s2 k a0 (rLen a0)) k ([.str (rStr a1 0)], (0))) (fun r0 =>
   .ret r0) (fun r1 =>
   .ret (-1))
noncomputable def d (k : Nat) : Fun := mkFun [22, .fn 71 [9]] (fun as_ => f k (vRows (vN as_ 0)) (vPtr (vN (vCaps (vN as_ 1)) 0))) default (fun r => .int .i64 r)
theorem hC (k : Nat) : CxOk (C k) := CxOk.cons (p := (71, filter_Free_1.d k)) (filter_Free_1.ok k) (CxOk.nil)
theorem l2 (k : Nat) : LoopOk Tryz.prog (S k) (lp (bodyF (Go.Proofs.Tryz.f37)) 0) := loopOk_mk (C := C k) (hC k) (Loops.all (n := 0) (by kernel_rfl) trivial) (lt := t2) (den := e2 k) (by kernel_rfl) (N := (Rows × Int)) (A := (Row × Int)) (R := (Int ⊕ Unit))
 (fun n x => a2 n.1 n.2 x) (fun n r => Sum.elim (o2_0 n.1 n.2) (o2_1 n.1 n.2) r) (fun n x => s2 k n.1 n.2 x) k (fun d => ((aR (aN d.a 0)), (aI (aN d.a 2)))) (fun d => (((aC (aN d.a 1)).getD 0 []), (aI (aN d.a 3)))) (fun d y h => out2_eval h) (fun d => by kernel_rfl) (fun n x => by kernel_rfl) (fun n r => by rcases r with r | r <;> exact ⟨_, rfl⟩)
theorem ok (k : Nat) : FunOk Tryz.prog 37 (d k) := fun_mk (C := C k) (hC k) (S := S k) Tryz.func37 (by kernel_rfl) (by kernel_rfl) (Loops.all (n := 1) (by kernel_rfl) ⟨trivial, l2 k⟩) (fun as_ => by kernel_rfl)
end slices_IndexFunc_api_Node_api_Node_c71
namespace resource_clamp
noncomputable def C (k : Nat) : Cx := ⟨Tryz.prog, tab [], [], [], tab []⟩
noncomputable def S (k : Nat) : Subs := fun n => none
noncomputable def f (k : Nat) (a0 : Int) : T Int :=
  .ret (iMin (iMax a0 (0)) (1000000000000000))
noncomputable def d (k : Nat) : Fun := mkFun [3] (fun as_ => f k (vInt (vN as_ 0))) default (fun r => .int .i64 r)
theorem hC (k : Nat) : CxOk (C k) := CxOk.nil
theorem ok (k : Nat) : FunOk Tryz.prog 75 (d k) := fun_mk (C := C k) (hC k) (S := S k) Tryz.func75 (by kernel_rfl) (by kernel_rfl) (Loops.all (n := 0) (by kernel_rfl) trivial) (fun as_ => by kernel_rfl)
end resource_clamp
namespace resource_Add_1
noncomputable def C (k : Nat) : Cx := ⟨Tryz.prog, tab [(75, resource_clamp.d k)], [], [], tab []⟩
noncomputable def S (k : Nat) : Subs := fun n => none
noncomputable def f (k : Nat) (a0 : Int) (a1 : Int) : T Int :=
  .bnd (resource_clamp.f k (iAdd .i64 a0 a1)).eval default fun r0 =>
  .ret r0
noncomputable def d (k : Nat) : Fun := mkFun [3, 3] (fun as_ => f k (vInt (vN as_ 0)) (vInt (vN as_ 1))) default (fun r => .int .i64 r)
theorem hC (k : Nat) : CxOk (C k) := CxOk.cons (p := (75, resource_clamp.d k)) (resource_clamp.ok k) (CxOk.nil)
theorem ok (k : Nat) : FunOk Tryz.prog 110 (d k) := fun_mk (C := C k) (hC k) (S := S k) Tryz.func110 (by kernel_rfl) (by kernel_rfl) (Loops.all (n := 0) (by kernel_rfl) trivial) (fun as_ => by kernel_rfl)
end resource_Add_1
namespace resource_each_c110
noncomputable def C (k : Nat) : Cx := ⟨Tryz.prog, tab [(75, resource_clamp.d k), (110, resource_Add_1.d k)], [], [], tab []⟩
noncomputable def S (k : Nat) : Subs := fun n => none
noncomputable def f (k : Nat) (a0 : Row) (a1 : Row) : T Row :=
  .bnd (resource_clamp.f k (rInt a0 0)).eval default fun r0 =>
  .bnd (resource_clamp.f k (rInt a1 0)).eval default fun r1 =>
  .bnd (resource_Add_1.f k r0 r1).eval default fun r2 =>
  .bnd (resource_clamp.f k (rInt a0 1)).eval default fun r3 =>
  .bnd (resource_clamp.f k (rInt a1 1)).eval default fun r4 =>
  .bnd (resource_Add_1.f k r3 r4).eval default fun r5 =>
  .bnd (resource_clamp.f k (rInt a0 2)).eval default fun r6 =>
  .bnd (resource_clamp.f k (rInt a1 2)).eval default fun r7 =>
  .bnd (resource_Add_1.f k r6 r7).eval default fun r8 =>
  .ret [.int .i64 r2, .int .i64 r5, .int .i64 r8]
noncomputable def d (k : Nat) : Fun := mkFun [47, 47, .fn 110 []] (fun as_ => f k (vRow (vN as_ 0)) (vRow (vN as_ 1))) default (fun r => .agg (et 47 r))
theorem hC (k : Nat) : CxOk (C k) := CxOk.cons (p := (75, resource_clamp.d k)) (resource_clamp.ok k) (CxOk.cons (p := (110, resource_Add_1.d k)) (resource_Add_1.ok k) (CxOk.nil))
theorem ok (k : Nat) : FunOk Tryz.prog 73 (d k) := fun_mk (C := C k) (hC k) (S := S k) Tryz.func73 (by kernel_rfl) (by kernel_rfl) (Loops.all (n := 0) (by kernel_rfl) trivial) (fun as_ => by kernel_rfl)
end resource_each_c110
namespace resource_Add
noncomputable def C (k : Nat) : Cx := ⟨Tryz.prog, tab [(111000073, resource_each_c110.d k)], [], [], tab []⟩
noncomputable def S (k : Nat) : Subs := fun n => none
noncomputable def f (k : Nat) (a0 : Row) (a1 : Row) : T Row :=
  .bnd (resource_each_c110.f k (et 47 a0) (et 47 a1)).eval default fun r0 =>
  .ret (et 47 r0)
noncomputable def d (k : Nat) : Fun := mkFun [47, 47] (fun as_ => f k (vRow (vN as_ 0)) (vRow (vN as_ 1))) default (fun r => .agg (et 47 r))
theorem hC (k : Nat) : CxOk (C k) := CxOk.consK (p := (111000073, resource_each_c110.d k)) (by kernel_rfl) (resource_each_c110.ok k) (CxOk.nil)
theorem ok (k : Nat) : FunOk Tryz.prog 76 (d k) := fun_mk (C := C k) (hC k) (S := S k) Tryz.func76 (by kernel_rfl) (by kernel_rfl) (Loops.all (n := 0) (by kernel_rfl) trivial) (fun as_ => by kernel_rfl)
end resource_Add
namespace resource_Requests
noncomputable def C (k : Nat) : Cx := ⟨Tryz.prog, tab [(76, resource_Add.d k)], [], [], tab []⟩
noncomputable def t3 : LoopT := ⟨⟨19, [], [(2, .ptr 2 0), (3, .ptr 3 0), (7, .sl 65 none), (8, .int .i64), (9, .int .i64)], [], [(2, 47), (3, 47)], []⟩, (fun | .exit 0 => some ⟨19, [], [(2, .ptr 2 0), (3, .ptr 3 0)], [], [(2, 47), (3, 47)], []⟩ | _ => none)⟩
noncomputable def s3 (k : Nat) (c0 : Rows) (c1 : Int) (c2 : Row) (x : (Int × Row)) : T ((Int × Row) ⊕ Row) :=
  .test (iLt x.1 c1)
   (.test (iIn x.1 (rLen c0))
    (.bnd (resource_Add.f k (et 47 x.2) (eo 47 (rAt c0 x.1) 2)).eval default fun r0 =>
    .ret (.inl ((iAdd .i64 x.1 (1)), (et 47 r0))))
    (.fail))
   (.ret (.inr (et 47 x.2)))
noncomputable def a3 (c0 : Rows) (c1 : Int) (c2 : Row) (x : (Int × Row)) : Dt := ⟨[.u, .u, .r c0, .i c1, .i x.1], [], [et 47 c2, et 47 x.2], []⟩
noncomputable def o3_0 (c0 : Rows) (c1 : Int) (c2 : Row) (r : Row) : X × Dt := (.exit 0, ⟨[.u, .u], [], [(et 47 c2), r], []⟩)
noncomputable def e3 (k : Nat) (d : Dt) : T (X × Dt) := out1 (iter (s3 k (aR (aN d.a 2)) (aI (aN d.a 3)) (d.r.getD 0 [])) k ((aI (aN d.a 4)), (d.r.getD 1 []))) default (o3_0 (aR (aN d.a 2)) (aI (aN d.a 3)) (d.r.getD 0 []))
noncomputable def S (k : Nat) : Subs := fun n => bif Nat.beq n 3 then some (loopV Tryz.prog t3 (e3 k)) else none
noncomputable def f (k : Nat) (a0 : Row) : T Row :=
  .bnd (iter (resource_Requests.s3 k (rSl a0 4) (rLen (rSl a0 4)) [.int .i64 (0), .int .i64 (0), .int .i64 (0)]) k ((0), [.int .i64 (0), .int .i64 (0), .int .i64 (0)])) default fun r0 =>
  .ret (et 47 r0)
noncomputable def d (k : Nat) : Fun := mkFun [40] (fun as_ => f k (vRow (vN as_ 0))) default (fun r => .agg (et 47 r))
theorem hC (k : Nat) : CxOk (C k) := CxOk.cons (p := (76, resource_Add.d k)) (resource_Add.ok k) (CxOk.nil)
theorem l3 (k : Nat) : LoopOk Tryz.prog (S k) (lp (bodyF (Go.Proofs.Tryz.f45)) 0) := loopOk_mk (C := C k) (hC k) (Loops.all (n := 0) (by kernel_rfl) trivial) (lt := t3) (den := e3 k) (by kernel_rfl) (N := (Rows × Int × Row)) (A := (Int × Row)) (R := Row)
 (fun n x => a3 n.1 n.2.1 n.2.2 x) (fun n r => o3_0 n.1 n.2.1 n.2.2 r) (fun n x => s3 k n.1 n.2.1 n.2.2 x) k (fun d => ((aR (aN d.a 2)), (aI (aN d.a 3)), (d.r.getD 0 []))) (fun d => ((aI (aN d.a 4)), (d.r.getD 1 []))) (fun d y h => out1_eval h) (fun d => by kernel_rfl) (fun n x => by kernel_rfl) (fun n r => ⟨_, rfl⟩)
theorem ok (k : Nat) : FunOk Tryz.prog 45 (d k) := fun_mk (C := C k) (hC k) (S := S k) Tryz.func45 (by kernel_rfl) (by kernel_rfl) (Loops.all (n := 1) (by kernel_rfl) ⟨trivial, l3 k⟩) (fun as_ => by kernel_rfl)
end resource_Requests
namespace resource_Sub_1
noncomputable def C (k : Nat) : Cx := ⟨Tryz.prog, tab [(75, resource_clamp.d k)], [], [], tab []⟩
noncomputable def S (k : Nat) : Subs := fun n => none
noncomputable def f (k : Nat) (a0 : Int) (a1 : Int) : T Int :=
  .bnd (resource_clamp.f k (iSub .i64 a0 a1)).eval default fun r0 =>
  .ret r0
noncomputable def d (k : Nat) : Fun := mkFun [3, 3] (fun as_ => f k (vInt (vN as_ 0)) (vInt (vN as_ 1))) default (fun r => .int .i64 r)
theorem hC (k : Nat) : CxOk (C k) := CxOk.cons (p := (75, resource_clamp.d k)) (resource_clamp.ok k) (CxOk.nil)
theorem ok (k : Nat) : FunOk Tryz.prog 74 (d k) := fun_mk (C := C k) (hC k) (S := S k) Tryz.func74 (by kernel_rfl) (by kernel_rfl) (Loops.all (n := 0) (by kernel_rfl) trivial) (fun as_ => by kernel_rfl)
end resource_Sub_1
namespace resource_each_c74
noncomputable def C (k : Nat) : Cx := ⟨Tryz.prog, tab [(75, resource_clamp.d k), (74, resource_Sub_1.d k)], [], [], tab []⟩
noncomputable def S (k : Nat) : Subs := fun n => none
noncomputable def f (k : Nat) (a0 : Row) (a1 : Row) : T Row :=
  .bnd (resource_clamp.f k (rInt a0 0)).eval default fun r0 =>
  .bnd (resource_clamp.f k (rInt a1 0)).eval default fun r1 =>
  .bnd (resource_Sub_1.f k r0 r1).eval default fun r2 =>
  .bnd (resource_clamp.f k (rInt a0 1)).eval default fun r3 =>
  .bnd (resource_clamp.f k (rInt a1 1)).eval default fun r4 =>
  .bnd (resource_Sub_1.f k r3 r4).eval default fun r5 =>
  .bnd (resource_clamp.f k (rInt a0 2)).eval default fun r6 =>
  .bnd (resource_clamp.f k (rInt a1 2)).eval default fun r7 =>
  .bnd (resource_Sub_1.f k r6 r7).eval default fun r8 =>
  .ret [.int .i64 r2, .int .i64 r5, .int .i64 r8]
noncomputable def d (k : Nat) : Fun := mkFun [47, 47, .fn 74 []] (fun as_ => f k (vRow (vN as_ 0)) (vRow (vN as_ 1))) default (fun r => .agg (et 47 r))
theorem hC (k : Nat) : CxOk (C k) := CxOk.cons (p := (75, resource_clamp.d k)) (resource_clamp.ok k) (CxOk.cons (p := (74, resource_Sub_1.d k)) (resource_Sub_1.ok k) (CxOk.nil))
theorem ok (k : Nat) : FunOk Tryz.prog 73 (d k) := fun_mk (C := C k) (hC k) (S := S k) Tryz.func73 (by kernel_rfl) (by kernel_rfl) (Loops.all (n := 0) (by kernel_rfl) trivial) (fun as_ => by kernel_rfl)
end resource_each_c74
namespace resource_Sub
noncomputable def C (k : Nat) : Cx := ⟨Tryz.prog, tab [(75000073, resource_each_c74.d k)], [], [], tab []⟩
noncomputable def S (k : Nat) : Subs := fun n => none
noncomputable def f (k : Nat) (a0 : Row) (a1 : Row) : T Row :=
  .bnd (resource_each_c74.f k (et 47 a0) (et 47 a1)).eval default fun r0 =>
  .ret (et 47 r0)
noncomputable def d (k : Nat) : Fun := mkFun [47, 47] (fun as_ => f k (vRow (vN as_ 0)) (vRow (vN as_ 1))) default (fun r => .agg (et 47 r))
theorem hC (k : Nat) : CxOk (C k) := CxOk.consK (p := (75000073, resource_each_c74.d k)) (by kernel_rfl) (resource_each_c74.ok k) (CxOk.nil)
theorem ok (k : Nat) : FunOk Tryz.prog 44 (d k) := fun_mk (C := C k) (hC k) (S := S k) Tryz.func44 (by kernel_rfl) (by kernel_rfl) (Loops.all (n := 0) (by kernel_rfl) trivial) (fun as_ => by kernel_rfl)
end resource_Sub
namespace filter_room
noncomputable def C (k : Nat) : Cx := ⟨Tryz.prog, tab [(45, resource_Requests.d k), (76, resource_Add.d k), (44, resource_Sub.d k)], [], [], tab []⟩
noncomputable def t4 : LoopT := ⟨⟨52, [], [(3, .ptr 3 0), (4, .ptr 4 0), (6, .ptr 6 0), (7, .int .i64), (13, .sl 45 none), (14, .int .i64), (15, .int .i64)], [], [(3, 51), (4, 47), (6, 47)], []⟩, (fun | .exit 0 => some ⟨52, [], [(3, .ptr 3 0), (4, .ptr 4 0), (6, .ptr 6 0), (7, .int .i64)], [], [(3, 51), (4, 47), (6, 47)], []⟩ | _ => none)⟩
noncomputable def s4 (k : Nat) (c0 : Rows) (c1 : Int) (c2 : Row) (c3 : Row) (x : (Int × Int × Row)) : T ((Int × Int × Row) ⊕ (Int × Row)) :=
  .test (iLt x.2.1 c1)
   (.test (iIn x.2.1 (rLen c0))
    (.test (bIte (sEq (rStr (rAt c0 x.2.1) 13) (rStr c2 2)) (bIte (iEq (rInt (rAt c0 x.2.1) 23) (0)) true (iEq (rInt (rAt c0 x.2.1) 23) (1))) false)
     (.bnd (resource_Requests.f k (eo 40 (rAt c0 x.2.1) 13)).eval default fun r0 =>
     .bnd (resource_Add.f k (et 47 x.2.2) (et 47 r0)).eval default fun r1 =>
     .ret (.inl ((iSub .i64 x.1 (1)), (iAdd .i64 x.2.1 (1)), (et 47 r1))))
     (.ret (.inl (x.1, (iAdd .i64 x.2.1 (1)), (et 47 x.2.2)))))
    (.fail))
   (.ret (.inr (x.1, (et 47 x.2.2))))
noncomputable def a4 (c0 : Rows) (c1 : Int) (c2 : Row) (c3 : Row) (x : (Int × Int × Row)) : Dt := ⟨[.u, .u, .u, .i x.1, .r c0, .i c1, .i x.2.1], [], [et 51 c2, et 47 c3, et 47 x.2.2], []⟩
noncomputable def o4_0 (c0 : Rows) (c1 : Int) (c2 : Row) (c3 : Row) (r : (Int × Row)) : X × Dt := (.exit 0, ⟨[.u, .u, .u, .i r.1], [], [(et 51 c2), (et 47 c3), r.2], []⟩)
noncomputable def e4 (k : Nat) (d : Dt) : T (X × Dt) := out1 (iter (s4 k (aR (aN d.a 4)) (aI (aN d.a 5)) (d.r.getD 0 []) (d.r.getD 1 [])) k ((aI (aN d.a 3)), (aI (aN d.a 6)), (d.r.getD 2 []))) default (o4_0 (aR (aN d.a 4)) (aI (aN d.a 5)) (d.r.getD 0 []) (d.r.getD 1 []))
noncomputable def S (k : Nat) : Subs := fun n => bif Nat.beq n 4 then some (loopV Tryz.prog t4 (e4 k)) else none
noncomputable def f (k : Nat) (a0 : Rows) (a1 : Row) : T (Row × Int) :=
  .bnd (iter (filter_room.s4 k a0 (rLen a0) (et 51 a1) [.int .i64 (0), .int .i64 (0), .int .i64 (0)]) k ((iMax (rInt a1 16) (0)), ((0), [.int .i64 (0), .int .i64 (0), .int .i64 (0)]))) default fun r0 =>
  .bnd (resource_Sub.f k (eo 47 a1 13) (et 47 r0.2)).eval default fun r1 =>
  .ret ((et 47 r1), (iMax r0.1 (0)))
noncomputable def d (k : Nat) : Fun := mkFun [23, 51] (fun as_ => f k (vRows (vN as_ 0)) (vRow (vN as_ 1))) default (fun r => .tuple [.agg (et 47 r.1), .int .i64 r.2])
theorem hC (k : Nat) : CxOk (C k) := CxOk.cons (p := (45, resource_Requests.d k)) (resource_Requests.ok k) (CxOk.cons (p := (76, resource_Add.d k)) (resource_Add.ok k) (CxOk.cons (p := (44, resource_Sub.d k)) (resource_Sub.ok k) (CxOk.nil)))
theorem l4 (k : Nat) : LoopOk Tryz.prog (S k) (lp (bodyF (Go.Proofs.Tryz.f72)) 0) := loopOk_mk (C := C k) (hC k) (Loops.all (n := 0) (by kernel_rfl) trivial) (lt := t4) (den := e4 k) (by kernel_rfl) (N := (Rows × Int × Row × Row)) (A := (Int × Int × Row)) (R := (Int × Row))
 (fun n x => a4 n.1 n.2.1 n.2.2.1 n.2.2.2 x) (fun n r => o4_0 n.1 n.2.1 n.2.2.1 n.2.2.2 r) (fun n x => s4 k n.1 n.2.1 n.2.2.1 n.2.2.2 x) k (fun d => ((aR (aN d.a 4)), (aI (aN d.a 5)), (d.r.getD 0 []), (d.r.getD 1 []))) (fun d => ((aI (aN d.a 3)), (aI (aN d.a 6)), (d.r.getD 2 []))) (fun d y h => out1_eval h) (fun d => by kernel_rfl) (fun n x => by kernel_rfl) (fun n r => ⟨_, rfl⟩)
theorem ok (k : Nat) : FunOk Tryz.prog 72 (d k) := fun_mk (C := C k) (hC k) (S := S k) Tryz.func72 (by kernel_rfl) (by kernel_rfl) (Loops.all (n := 1) (by kernel_rfl) ⟨trivial, l4 k⟩) (fun as_ => by kernel_rfl)
end filter_room
namespace filter_Free
noncomputable def C (k : Nat) : Cx := ⟨Tryz.prog, tab [(72000037, slices_IndexFunc_api_Node_api_Node_c71.d k), (72, filter_room.d k)], [], [(1, 3)], tab []⟩
noncomputable def S (k : Nat) : Subs := fun n => none
noncomputable def f (k : Nat) (a0 : Row) (a1 : ByteArray) : T (Row × Int) :=
  .bnd (slices_IndexFunc_api_Node_api_Node_c71.f k (rSl a0 0) [.str a1]).eval default fun r0 =>
  .test (iLt r0 (0))
   (.ret ([.int .i64 (0), .int .i64 (0), .int .i64 (0)], (0)))
   (.test (iIn r0 (rLen (rSl a0 0)))
    (.bnd (filter_room.f k (rSl a0 1) (et 51 (rAt (rSl a0 0) r0))).eval default fun r1 =>
    .ret ((et 47 r1.1), r1.2))
    (.fail))
noncomputable def d (k : Nat) : Fun := mkFun [26, 9] (fun as_ => f k (vRow (vN as_ 0)) (vStr (vN as_ 1))) default (fun r => .tuple [.agg (et 47 r.1), .int .i64 r.2])
theorem hC (k : Nat) : CxOk (C k) := CxOk.consK (p := (72000037, slices_IndexFunc_api_Node_api_Node_c71.d k)) (by kernel_rfl) (slices_IndexFunc_api_Node_api_Node_c71.ok k) (CxOk.cons (p := (72, filter_room.d k)) (filter_room.ok k) (CxOk.nil))
theorem ok (k : Nat) : FunOk Tryz.prog 43 (d k) := fun_mk (C := C k) (hC k) (S := S k) Tryz.func43 (by kernel_rfl) (by kernel_rfl) (Loops.all (n := 0) (by kernel_rfl) trivial) (fun as_ => by kernel_rfl)
end filter_Free
namespace score_share
noncomputable def C (k : Nat) : Cx := ⟨Tryz.prog, tab [(26, score_clamp.d k)], [], [], tab []⟩
noncomputable def S (k : Nat) : Subs := fun n => none
noncomputable def f (k : Nat) (a0 : Int) (a1 : Int) : T Int :=
  .test (iLe (iMin a1 (1000000000000000)) (0))
   (.ret (0))
   (.test (bNot (iEq (iMin a1 (1000000000000000)) (0)))
    (.bnd (score_clamp.f k (iQuo .i64 (iMul .i64 (100) a0) (iMin a1 (1000000000000000))) (0) (100)).eval default fun r0 =>
    .ret r0)
    (.fail))
noncomputable def d (k : Nat) : Fun := mkFun [3, 3] (fun as_ => f k (vInt (vN as_ 0)) (vInt (vN as_ 1))) default (fun r => .int .i64 r)
theorem hC (k : Nat) : CxOk (C k) := CxOk.cons (p := (26, score_clamp.d k)) (score_clamp.ok k) (CxOk.nil)
theorem ok (k : Nat) : FunOk Tryz.prog 46 (d k) := fun_mk (C := C k) (hC k) (S := S k) Tryz.func46 (by kernel_rfl) (by kernel_rfl) (Loops.all (n := 0) (by kernel_rfl) trivial) (fun as_ => by kernel_rfl)
end score_share
namespace score_shares
noncomputable def C (k : Nat) : Cx := ⟨Tryz.prog, tab [(43, filter_Free.d k), (45, resource_Requests.d k), (44, resource_Sub.d k), (46, score_share.d k)], [], [], tab []⟩
noncomputable def S (k : Nat) : Subs := fun n => none
noncomputable def f (k : Nat) (a0 : Row) (a1 : Row) (a2 : Row) : T (Int × Int) :=
  .bnd (filter_Free.f k (et 26 a0) (rStr a2 2)).eval default fun r0 =>
  .bnd (resource_Requests.f k (eo 40 a1 13)).eval default fun r1 =>
  .bnd (resource_Sub.f k (et 47 r0.1) (et 47 r1)).eval default fun r2 =>
  .bnd (score_share.f k (rInt r2 0) (rInt a2 13)).eval default fun r3 =>
  .bnd (score_share.f k (rInt r2 1) (rInt a2 14)).eval default fun r4 =>
  .ret (r3, r4)
noncomputable def d (k : Nat) : Fun := mkFun [26, 45, 51] (fun as_ => f k (vRow (vN as_ 0)) (vRow (vN as_ 1)) (vRow (vN as_ 2))) default (fun r => .tuple [.int .i64 r.1, .int .i64 r.2])
theorem hC (k : Nat) : CxOk (C k) := CxOk.cons (p := (43, filter_Free.d k)) (filter_Free.ok k) (CxOk.cons (p := (45, resource_Requests.d k)) (resource_Requests.ok k) (CxOk.cons (p := (44, resource_Sub.d k)) (resource_Sub.ok k) (CxOk.cons (p := (46, score_share.d k)) (score_share.ok k) (CxOk.nil))))
theorem ok (k : Nat) : FunOk Tryz.prog 24 (d k) := fun_mk (C := C k) (hC k) (S := S k) Tryz.func24 (by kernel_rfl) (by kernel_rfl) (Loops.all (n := 0) (by kernel_rfl) trivial) (fun as_ => by kernel_rfl)
end score_shares
namespace score_Spare
noncomputable def C (k : Nat) : Cx := ⟨Tryz.prog, tab [(24, score_shares.d k)], [], [], tab []⟩
noncomputable def S (k : Nat) : Subs := fun n => none
noncomputable def f (k : Nat) (a0 : Row) (a1 : Row) (a2 : Row) : T Int :=
  .bnd (score_shares.f k (et 26 a0) (et 45 a1) (et 51 a2)).eval default fun r0 =>
  .test (bNot (iEq (2) (0)))
   (.ret (iQuo .i64 (iAdd .i64 r0.1 r0.2) (2)))
   (.fail)
noncomputable def d (k : Nat) : Fun := mkFun [26, 45, 51] (fun as_ => f k (vRow (vN as_ 0)) (vRow (vN as_ 1)) (vRow (vN as_ 2))) default (fun r => .int .i64 r)
theorem hC (k : Nat) : CxOk (C k) := CxOk.cons (p := (24, score_shares.d k)) (score_shares.ok k) (CxOk.nil)
theorem ok (k : Nat) : FunOk Tryz.prog 11 (d k) := fun_mk (C := C k) (hC k) (S := S k) Tryz.func11 (by kernel_rfl) (by kernel_rfl) (Loops.all (n := 0) (by kernel_rfl) trivial) (fun as_ => by kernel_rfl)
end score_Spare
namespace score_Balance
noncomputable def C (k : Nat) : Cx := ⟨Tryz.prog, tab [(24, score_shares.d k)], [], [], tab []⟩
noncomputable def S (k : Nat) : Subs := fun n => none
noncomputable def f (k : Nat) (a0 : Row) (a1 : Row) (a2 : Row) : T Int :=
  .bnd (score_shares.f k (et 26 a0) (et 45 a1) (et 51 a2)).eval default fun r0 =>
  .ret (iSub .i64 (100) (iMax (iSub .i64 r0.1 r0.2) (iSub .i64 r0.2 r0.1)))
noncomputable def d (k : Nat) : Fun := mkFun [26, 45, 51] (fun as_ => f k (vRow (vN as_ 0)) (vRow (vN as_ 1)) (vRow (vN as_ 2))) default (fun r => .int .i64 r)
theorem hC (k : Nat) : CxOk (C k) := CxOk.cons (p := (24, score_shares.d k)) (score_shares.ok k) (CxOk.nil)
theorem ok (k : Nat) : FunOk Tryz.prog 13 (d k) := fun_mk (C := C k) (hC k) (S := S k) Tryz.func13 (by kernel_rfl) (by kernel_rfl) (Loops.all (n := 0) (by kernel_rfl) trivial) (fun as_ => by kernel_rfl)
end score_Balance
namespace score_Total
noncomputable def C (k : Nat) : Cx := ⟨Tryz.prog, tab [(27, affinity_Preference.d k), (26, score_clamp.d k), (28, taint_Soft.d k), (29, spread_Score.d k), (11, score_Spare.d k), (13, score_Balance.d k)], [], [], tab []⟩
noncomputable def S (k : Nat) : Subs := fun n => none
noncomputable def f (k : Nat) (a0 : Row) (a1 : Row) (a2 : Row) : T Int :=
  .bnd (affinity_Preference.f k (et 26 a0) (et 45 a1) (et 51 a2)).eval default fun r0 =>
  .bnd (score_clamp.f k r0 (-100) (100)).eval default fun r1 =>
  .bnd (taint_Soft.f k (rSl a2 18) (rSl a1 22)).eval default fun r2 =>
  .bnd (spread_Score.f k (et 26 a0) (et 45 a1) (et 51 a2)).eval default fun r3 =>
  .bnd (score_Spare.f k (et 26 a0) (et 45 a1) (et 51 a2)).eval default fun r4 =>
  .bnd (score_Balance.f k (et 26 a0) (et 45 a1) (et 51 a2)).eval default fun r5 =>
  .ret (iSub .i64 (iAdd .i64 (iAdd .i64 r4 r5) r1) (iAdd .i64 (iMul .i64 (10) r2) (iMul .i64 (5) r3)))
noncomputable def d (k : Nat) : Fun := mkFun [26, 45, 51] (fun as_ => f k (vRow (vN as_ 0)) (vRow (vN as_ 1)) (vRow (vN as_ 2))) default (fun r => .int .i64 r)
theorem hC (k : Nat) : CxOk (C k) := CxOk.cons (p := (27, affinity_Preference.d k)) (affinity_Preference.ok k) (CxOk.cons (p := (26, score_clamp.d k)) (score_clamp.ok k) (CxOk.cons (p := (28, taint_Soft.d k)) (taint_Soft.ok k) (CxOk.cons (p := (29, spread_Score.d k)) (spread_Score.ok k) (CxOk.cons (p := (11, score_Spare.d k)) (score_Spare.ok k) (CxOk.cons (p := (13, score_Balance.d k)) (score_Balance.ok k) (CxOk.nil))))))
theorem ok (k : Nat) : FunOk Tryz.prog 15 (d k) := fun_mk (C := C k) (hC k) (S := S k) Tryz.func15 (by kernel_rfl) (by kernel_rfl) (Loops.all (n := 0) (by kernel_rfl) trivial) (fun as_ => by kernel_rfl)
end score_Total
namespace score_Best
noncomputable def C (k : Nat) : Cx := ⟨Tryz.prog, tab [(36, slices_Values_string_string.d k), (39000037, slices_IndexFunc_api_Node_api_Node_c38.d k), (15, score_Total.d k)], [18], [(6, 13), (3, 18)], tab [(68000035, slices_Sorted_string.dm k), (34, slices_Compact_string_string.dm k)]⟩
noncomputable def t4 : LoopT := ⟨⟨52, [], [(3, .ptr 3 0), (4, .ptr 4 0), (9, .str), (10, .int .i64), (11, .bool), (20, .sl 9 none), (21, .int .i64), (22, .int .i64)], [], [(3, 26), (4, 45)], []⟩, (fun | .exit 0 => some ⟨52, [], [(9, .str), (11, .bool)], [], [], []⟩ | _ => none)⟩
noncomputable def s4 (k : Nat) (c0 : Rows) (c1 : Int) (c2 : Row) (c3 : Row) (x : (ByteArray × Int × Bool × Int)) : T ((ByteArray × Int × Bool × Int) ⊕ (ByteArray × Bool)) :=
  .test (iLt x.2.2.2 c1)
   (.test (iIn x.2.2.2 (rLen c0))
    (.bnd (slices_IndexFunc_api_Node_api_Node_c38.f k (rSl c2 0) [.str (rStr (rAt c0 x.2.2.2) 0)]).eval default fun r0 =>
    .test (iLt r0 (0))
     (.ret (.inl (x.1, x.2.1, x.2.2.1, (iAdd .i64 x.2.2.2 (1)))))
     (.test (iIn r0 (rLen (rSl c2 0)))
      (.bnd (score_Total.f k (et 26 c2) (et 45 c3) (et 51 (rAt (rSl c2 0) r0))).eval default fun r1 =>
      .test (bIte (bNot x.2.2.1) true (iLt x.2.1 r1))
       (.ret (.inl ((rStr (rAt c0 x.2.2.2) 0), r1, true, (iAdd .i64 x.2.2.2 (1)))))
       (.ret (.inl (x.1, x.2.1, x.2.2.1, (iAdd .i64 x.2.2.2 (1))))))
      (.fail)))
    (.fail))
   (.ret (.inr (x.1, x.2.2.1)))
noncomputable def a4 (c0 : Rows) (c1 : Int) (c2 : Row) (c3 : Row) (x : (ByteArray × Int × Bool × Int)) : Dt := ⟨[.u, .u, .s x.1, .i x.2.1, .b x.2.2.1, .r c0, .i c1, .i x.2.2.2], [], [et 26 c2, et 45 c3], []⟩
noncomputable def o4_0 (c0 : Rows) (c1 : Int) (c2 : Row) (c3 : Row) (r : (ByteArray × Bool)) : X × Dt := (.exit 0, ⟨[.s r.1, .b r.2], [], [], []⟩)
noncomputable def e4 (k : Nat) (d : Dt) : T (X × Dt) := out1 (iter (s4 k (aR (aN d.a 5)) (aI (aN d.a 6)) (d.r.getD 0 []) (d.r.getD 1 [])) k ((aS (aN d.a 2)), (aI (aN d.a 3)), (aB (aN d.a 4)), (aI (aN d.a 7)))) default (o4_0 (aR (aN d.a 5)) (aI (aN d.a 6)) (d.r.getD 0 []) (d.r.getD 1 []))
noncomputable def S (k : Nat) : Subs := fun n => bif Nat.beq n 4 then some (loopV Tryz.prog t4 (e4 k)) else none
noncomputable def f (k : Nat) (a0 : Row) (a1 : Row) (a2 : Rows) : T (ByteArray × Bool) :=
  .bnd (slices_Values_string_string.f k a2).eval default fun r0 =>
  .bnd (slices_Sorted_string.f k r0).eval default fun r1 =>
  .bnd (slices_Compact_string_string.f k (rTake r1.1 r1.2)).eval default fun r2 =>
  .bnd (iter (score_Best.s4 k (rTake r2.1 r2.2) (rLen (rTake r2.1 r2.2)) (et 26 a0) (et 45 a1)) k (ByteArray.empty, ((0), (false, (0))))) default fun r3 =>
  .ret (r3.1, r3.2)
noncomputable def d (k : Nat) : Fun := mkFun [26, 45, 29] (fun as_ => f k (vRow (vN as_ 0)) (vRow (vN as_ 1)) (vRows (vN as_ 2))) default (fun r => .tuple [.str r.1, .bool r.2])
theorem hC (k : Nat) : CxOk (C k) := CxOk.cons (p := (36, slices_Values_string_string.d k)) (slices_Values_string_string.ok k) (CxOk.consK (p := (39000037, slices_IndexFunc_api_Node_api_Node_c38.d k)) (by kernel_rfl) (slices_IndexFunc_api_Node_api_Node_c38.ok k) (CxOk.cons (p := (15, score_Total.d k)) (score_Total.ok k) (CxOk.consMK (p := (68000035, slices_Sorted_string.dm k)) (by kernel_rfl) (slices_Sorted_string.okM k) (CxOk.consM (p := (34, slices_Compact_string_string.dm k)) (slices_Compact_string_string.okM k) (CxOk.nil)))))
theorem l4 (k : Nat) : LoopOk Tryz.prog (S k) (lp (bodyF (Go.Proofs.Tryz.f17)) 0) := loopOk_mk (C := C k) (hC k) (Loops.all (n := 0) (by kernel_rfl) trivial) (lt := t4) (den := e4 k) (by kernel_rfl) (N := (Rows × Int × Row × Row)) (A := (ByteArray × Int × Bool × Int)) (R := (ByteArray × Bool))
 (fun n x => a4 n.1 n.2.1 n.2.2.1 n.2.2.2 x) (fun n r => o4_0 n.1 n.2.1 n.2.2.1 n.2.2.2 r) (fun n x => s4 k n.1 n.2.1 n.2.2.1 n.2.2.2 x) k (fun d => ((aR (aN d.a 5)), (aI (aN d.a 6)), (d.r.getD 0 []), (d.r.getD 1 []))) (fun d => ((aS (aN d.a 2)), (aI (aN d.a 3)), (aB (aN d.a 4)), (aI (aN d.a 7)))) (fun d y h => out1_eval h) (fun d => by kernel_rfl) (fun n x => by kernel_rfl) (fun n r => ⟨_, rfl⟩)
theorem ok (k : Nat) : FunOk Tryz.prog 17 (d k) := fun_mk (C := C k) (hC k) (S := S k) Tryz.func17 (by kernel_rfl) (by kernel_rfl) (Loops.all (n := 1) (by kernel_rfl) ⟨trivial, l4 k⟩) (fun as_ => by kernel_rfl)
end score_Best
namespace law39_lives
noncomputable def C (k : Nat) : Cx := ⟨Tryz.prog, tab [(17, score_Best.d k), (11, score_Spare.d k), (13, score_Balance.d k), (15, score_Total.d k)], [], [], tab []⟩
noncomputable def S (k : Nat) : Subs := fun n => none
noncomputable def f (k : Nat) : T Bool :=
  .bnd (score_Best.f k [.slice 51 [[.str (bs [78, 111, 100, 101]), .str ByteArray.empty, .str (bs [97]), .int .i64 (0), .int .i64 (0), .int .i64 (0), .int .i64 (0), .bool false, .int .i64 (0), .slice 89 [] .open, .slice 91 [] .open, .slice 9 [] .open, .slice 93 [] .open, .int .i64 (1000), .int .i64 (100), .int .i64 (0), .int .i64 (5), .bool false, .slice 72 [] .open, .bool true, .int .i64 (0), .bool false, .bool false, .slice 247 [] .open], [.str (bs [78, 111, 100, 101]), .str ByteArray.empty, .str (bs [98]), .int .i64 (0), .int .i64 (0), .int .i64 (0), .int .i64 (0), .bool false, .int .i64 (0), .slice 89 [] .open, .slice 91 [] .open, .slice 9 [] .open, .slice 93 [] .open, .int .i64 (1000), .int .i64 (100), .int .i64 (0), .int .i64 (5), .bool false, .slice 72 [[.str (bs [107]), .str ByteArray.empty, .int .i64 (2), .int .i64 (0)]] .open, .bool true, .int .i64 (0), .bool false, .bool false, .slice 247 [] .open]] .open, .slice 45 [] .open, .slice 86 [] .open, .int .i64 (0)] [.str (bs [80, 111, 100]), .str ByteArray.empty, .str (bs [112]), .int .i64 (0), .int .i64 (0), .int .i64 (0), .int .i64 (0), .bool false, .int .i64 (0), .slice 89 [] .open, .slice 91 [] .open, .slice 9 [] .open, .slice 93 [] .open, .str ByteArray.empty, .int .i64 (0), .int .i64 (0), .int .i64 (0), .slice 65 [[.str ByteArray.empty, .str ByteArray.empty, .int .i64 (500), .int .i64 (20), .int .i64 (0), .int .i64 (0), .int .i64 (0), .int .i64 (0), .slice 227 [] .open, .slice 227 [] .open, .slice 227 [] .open]] .open, .slice 129 [] .open, .slice 103 [] .open, .slice 107 [] .open, .slice 112 [] .open, .slice 147 [] .open, .int .i64 (0), .bool false, .int .i64 (0), .int .i64 (0), .int .i64 (0), .slice 218 [] .open, .int .i64 (0), .str ByteArray.empty, .str ByteArray.empty] [[.str (bs [120])], [.str (bs [98])], [.str (bs [97])]]).eval default fun r0 =>
  .bnd (score_Spare.f k [.slice 51 [[.str (bs [78, 111, 100, 101]), .str ByteArray.empty, .str (bs [97]), .int .i64 (0), .int .i64 (0), .int .i64 (0), .int .i64 (0), .bool false, .int .i64 (0), .slice 89 [] .open, .slice 91 [] .open, .slice 9 [] .open, .slice 93 [] .open, .int .i64 (1000), .int .i64 (100), .int .i64 (0), .int .i64 (5), .bool false, .slice 72 [] .open, .bool true, .int .i64 (0), .bool false, .bool false, .slice 247 [] .open], [.str (bs [78, 111, 100, 101]), .str ByteArray.empty, .str (bs [98]), .int .i64 (0), .int .i64 (0), .int .i64 (0), .int .i64 (0), .bool false, .int .i64 (0), .slice 89 [] .open, .slice 91 [] .open, .slice 9 [] .open, .slice 93 [] .open, .int .i64 (1000), .int .i64 (100), .int .i64 (0), .int .i64 (5), .bool false, .slice 72 [[.str (bs [107]), .str ByteArray.empty, .int .i64 (2), .int .i64 (0)]] .open, .bool true, .int .i64 (0), .bool false, .bool false, .slice 247 [] .open]] .open, .slice 45 [] .open, .slice 86 [] .open, .int .i64 (0)] [.str (bs [80, 111, 100]), .str ByteArray.empty, .str (bs [112]), .int .i64 (0), .int .i64 (0), .int .i64 (0), .int .i64 (0), .bool false, .int .i64 (0), .slice 89 [] .open, .slice 91 [] .open, .slice 9 [] .open, .slice 93 [] .open, .str ByteArray.empty, .int .i64 (0), .int .i64 (0), .int .i64 (0), .slice 65 [[.str ByteArray.empty, .str ByteArray.empty, .int .i64 (500), .int .i64 (20), .int .i64 (0), .int .i64 (0), .int .i64 (0), .int .i64 (0), .slice 227 [] .open, .slice 227 [] .open, .slice 227 [] .open]] .open, .slice 129 [] .open, .slice 103 [] .open, .slice 107 [] .open, .slice 112 [] .open, .slice 147 [] .open, .int .i64 (0), .bool false, .int .i64 (0), .int .i64 (0), .int .i64 (0), .slice 218 [] .open, .int .i64 (0), .str ByteArray.empty, .str ByteArray.empty] [.str (bs [78, 111, 100, 101]), .str ByteArray.empty, .str (bs [97]), .int .i64 (0), .int .i64 (0), .int .i64 (0), .int .i64 (0), .bool false, .int .i64 (0), .slice 89 [] .open, .slice 91 [] .open, .slice 9 [] .open, .slice 93 [] .open, .int .i64 (1000), .int .i64 (100), .int .i64 (0), .int .i64 (5), .bool false, .slice 72 [] .open, .bool true, .int .i64 (0), .bool false, .bool false, .slice 247 [] .open]).eval default fun r1 =>
  .opt (iEq r1 (65)) (score_Balance.f k [.slice 51 [[.str (bs [78, 111, 100, 101]), .str ByteArray.empty, .str (bs [97]), .int .i64 (0), .int .i64 (0), .int .i64 (0), .int .i64 (0), .bool false, .int .i64 (0), .slice 89 [] .open, .slice 91 [] .open, .slice 9 [] .open, .slice 93 [] .open, .int .i64 (1000), .int .i64 (100), .int .i64 (0), .int .i64 (5), .bool false, .slice 72 [] .open, .bool true, .int .i64 (0), .bool false, .bool false, .slice 247 [] .open], [.str (bs [78, 111, 100, 101]), .str ByteArray.empty, .str (bs [98]), .int .i64 (0), .int .i64 (0), .int .i64 (0), .int .i64 (0), .bool false, .int .i64 (0), .slice 89 [] .open, .slice 91 [] .open, .slice 9 [] .open, .slice 93 [] .open, .int .i64 (1000), .int .i64 (100), .int .i64 (0), .int .i64 (5), .bool false, .slice 72 [[.str (bs [107]), .str ByteArray.empty, .int .i64 (2), .int .i64 (0)]] .open, .bool true, .int .i64 (0), .bool false, .bool false, .slice 247 [] .open]] .open, .slice 45 [] .open, .slice 86 [] .open, .int .i64 (0)] [.str (bs [80, 111, 100]), .str ByteArray.empty, .str (bs [112]), .int .i64 (0), .int .i64 (0), .int .i64 (0), .int .i64 (0), .bool false, .int .i64 (0), .slice 89 [] .open, .slice 91 [] .open, .slice 9 [] .open, .slice 93 [] .open, .str ByteArray.empty, .int .i64 (0), .int .i64 (0), .int .i64 (0), .slice 65 [[.str ByteArray.empty, .str ByteArray.empty, .int .i64 (500), .int .i64 (20), .int .i64 (0), .int .i64 (0), .int .i64 (0), .int .i64 (0), .slice 227 [] .open, .slice 227 [] .open, .slice 227 [] .open]] .open, .slice 129 [] .open, .slice 103 [] .open, .slice 107 [] .open, .slice 112 [] .open, .slice 147 [] .open, .int .i64 (0), .bool false, .int .i64 (0), .int .i64 (0), .int .i64 (0), .slice 218 [] .open, .int .i64 (0), .str ByteArray.empty, .str ByteArray.empty] [.str (bs [78, 111, 100, 101]), .str ByteArray.empty, .str (bs [97]), .int .i64 (0), .int .i64 (0), .int .i64 (0), .int .i64 (0), .bool false, .int .i64 (0), .slice 89 [] .open, .slice 91 [] .open, .slice 9 [] .open, .slice 93 [] .open, .int .i64 (1000), .int .i64 (100), .int .i64 (0), .int .i64 (5), .bool false, .slice 72 [] .open, .bool true, .int .i64 (0), .bool false, .bool false, .slice 247 [] .open]).eval default fun r2 =>
  .opt (bIte (iEq r1 (65)) (iEq r2 (70)) false) (score_Total.f k [.slice 51 [[.str (bs [78, 111, 100, 101]), .str ByteArray.empty, .str (bs [97]), .int .i64 (0), .int .i64 (0), .int .i64 (0), .int .i64 (0), .bool false, .int .i64 (0), .slice 89 [] .open, .slice 91 [] .open, .slice 9 [] .open, .slice 93 [] .open, .int .i64 (1000), .int .i64 (100), .int .i64 (0), .int .i64 (5), .bool false, .slice 72 [] .open, .bool true, .int .i64 (0), .bool false, .bool false, .slice 247 [] .open], [.str (bs [78, 111, 100, 101]), .str ByteArray.empty, .str (bs [98]), .int .i64 (0), .int .i64 (0), .int .i64 (0), .int .i64 (0), .bool false, .int .i64 (0), .slice 89 [] .open, .slice 91 [] .open, .slice 9 [] .open, .slice 93 [] .open, .int .i64 (1000), .int .i64 (100), .int .i64 (0), .int .i64 (5), .bool false, .slice 72 [[.str (bs [107]), .str ByteArray.empty, .int .i64 (2), .int .i64 (0)]] .open, .bool true, .int .i64 (0), .bool false, .bool false, .slice 247 [] .open]] .open, .slice 45 [] .open, .slice 86 [] .open, .int .i64 (0)] [.str (bs [80, 111, 100]), .str ByteArray.empty, .str (bs [112]), .int .i64 (0), .int .i64 (0), .int .i64 (0), .int .i64 (0), .bool false, .int .i64 (0), .slice 89 [] .open, .slice 91 [] .open, .slice 9 [] .open, .slice 93 [] .open, .str ByteArray.empty, .int .i64 (0), .int .i64 (0), .int .i64 (0), .slice 65 [[.str ByteArray.empty, .str ByteArray.empty, .int .i64 (500), .int .i64 (20), .int .i64 (0), .int .i64 (0), .int .i64 (0), .int .i64 (0), .slice 227 [] .open, .slice 227 [] .open, .slice 227 [] .open]] .open, .slice 129 [] .open, .slice 103 [] .open, .slice 107 [] .open, .slice 112 [] .open, .slice 147 [] .open, .int .i64 (0), .bool false, .int .i64 (0), .int .i64 (0), .int .i64 (0), .slice 218 [] .open, .int .i64 (0), .str ByteArray.empty, .str ByteArray.empty] [.str (bs [78, 111, 100, 101]), .str ByteArray.empty, .str (bs [97]), .int .i64 (0), .int .i64 (0), .int .i64 (0), .int .i64 (0), .bool false, .int .i64 (0), .slice 89 [] .open, .slice 91 [] .open, .slice 9 [] .open, .slice 93 [] .open, .int .i64 (1000), .int .i64 (100), .int .i64 (0), .int .i64 (5), .bool false, .slice 72 [] .open, .bool true, .int .i64 (0), .bool false, .bool false, .slice 247 [] .open]).eval default fun r3 =>
  .opt (bIte (bIte (iEq r1 (65)) (iEq r2 (70)) false) (iEq r3 (135)) false) (score_Total.f k [.slice 51 [[.str (bs [78, 111, 100, 101]), .str ByteArray.empty, .str (bs [97]), .int .i64 (0), .int .i64 (0), .int .i64 (0), .int .i64 (0), .bool false, .int .i64 (0), .slice 89 [] .open, .slice 91 [] .open, .slice 9 [] .open, .slice 93 [] .open, .int .i64 (1000), .int .i64 (100), .int .i64 (0), .int .i64 (5), .bool false, .slice 72 [] .open, .bool true, .int .i64 (0), .bool false, .bool false, .slice 247 [] .open], [.str (bs [78, 111, 100, 101]), .str ByteArray.empty, .str (bs [98]), .int .i64 (0), .int .i64 (0), .int .i64 (0), .int .i64 (0), .bool false, .int .i64 (0), .slice 89 [] .open, .slice 91 [] .open, .slice 9 [] .open, .slice 93 [] .open, .int .i64 (1000), .int .i64 (100), .int .i64 (0), .int .i64 (5), .bool false, .slice 72 [[.str (bs [107]), .str ByteArray.empty, .int .i64 (2), .int .i64 (0)]] .open, .bool true, .int .i64 (0), .bool false, .bool false, .slice 247 [] .open]] .open, .slice 45 [] .open, .slice 86 [] .open, .int .i64 (0)] [.str (bs [80, 111, 100]), .str ByteArray.empty, .str (bs [112]), .int .i64 (0), .int .i64 (0), .int .i64 (0), .int .i64 (0), .bool false, .int .i64 (0), .slice 89 [] .open, .slice 91 [] .open, .slice 9 [] .open, .slice 93 [] .open, .str ByteArray.empty, .int .i64 (0), .int .i64 (0), .int .i64 (0), .slice 65 [[.str ByteArray.empty, .str ByteArray.empty, .int .i64 (500), .int .i64 (20), .int .i64 (0), .int .i64 (0), .int .i64 (0), .int .i64 (0), .slice 227 [] .open, .slice 227 [] .open, .slice 227 [] .open]] .open, .slice 129 [] .open, .slice 103 [] .open, .slice 107 [] .open, .slice 112 [] .open, .slice 147 [] .open, .int .i64 (0), .bool false, .int .i64 (0), .int .i64 (0), .int .i64 (0), .slice 218 [] .open, .int .i64 (0), .str ByteArray.empty, .str ByteArray.empty] [.str (bs [78, 111, 100, 101]), .str ByteArray.empty, .str (bs [98]), .int .i64 (0), .int .i64 (0), .int .i64 (0), .int .i64 (0), .bool false, .int .i64 (0), .slice 89 [] .open, .slice 91 [] .open, .slice 9 [] .open, .slice 93 [] .open, .int .i64 (1000), .int .i64 (100), .int .i64 (0), .int .i64 (5), .bool false, .slice 72 [[.str (bs [107]), .str ByteArray.empty, .int .i64 (2), .int .i64 (0)]] .open, .bool true, .int .i64 (0), .bool false, .bool false, .slice 247 [] .open]).eval default fun r4 =>
  .ret (bIte (bIte (bIte (bIte (bIte (iEq r1 (65)) (iEq r2 (70)) false) (iEq r3 (135)) false) (iEq r4 (125)) false) (sEq r0.1 (bs [97])) false) r0.2 false)
noncomputable def d (k : Nat) : Fun := mkFun [] (fun as_ => f k) default (fun r => .bool r)
theorem hC (k : Nat) : CxOk (C k) := CxOk.cons (p := (17, score_Best.d k)) (score_Best.ok k) (CxOk.cons (p := (11, score_Spare.d k)) (score_Spare.ok k) (CxOk.cons (p := (13, score_Balance.d k)) (score_Balance.ok k) (CxOk.cons (p := (15, score_Total.d k)) (score_Total.ok k) (CxOk.nil))))
theorem ok (k : Nat) : FunOk Tryz.prog 10 (d k) := fun_mk (C := C k) (hC k) (S := S k) Tryz.func10 (by kernel_rfl) (by kernel_rfl) (Loops.all (n := 0) (by kernel_rfl) trivial) (fun as_ => by kernel_rfl)
end law39_lives
namespace ref38_Occupies
noncomputable def C (k : Nat) : Cx := ⟨Tryz.prog, tab [], [], [], tab []⟩
noncomputable def S (k : Nat) : Subs := fun n => none
noncomputable def f (k : Nat) (a0 : Row) (a1 : ByteArray) : T Bool :=
  .ret (bIte (sEq (rStr a0 13) a1) (bIte (iEq (rInt a0 23) (0)) true (iEq (rInt a0 23) (1))) false)
noncomputable def d (k : Nat) : Fun := mkFun [45, 9] (fun as_ => f k (vRow (vN as_ 0)) (vStr (vN as_ 1))) default (fun r => .bool r)
theorem hC (k : Nat) : CxOk (C k) := CxOk.nil
theorem ok (k : Nat) : FunOk Tryz.prog 111 (d k) := fun_mk (C := C k) (hC k) (S := S k) Tryz.func111 (by kernel_rfl) (by kernel_rfl) (Loops.all (n := 0) (by kernel_rfl) trivial) (fun as_ => by kernel_rfl)
end ref38_Occupies
namespace ref02_clamp
noncomputable def C (k : Nat) : Cx := ⟨Tryz.prog, tab [], [], [], tab []⟩
noncomputable def S (k : Nat) : Subs := fun n => none
noncomputable def f (k : Nat) (a0 : Int) : T Int :=
  .ret (iMin (1000000000000000) (iMax (0) a0))
noncomputable def d (k : Nat) : Fun := mkFun [3] (fun as_ => f k (vInt (vN as_ 0))) default (fun r => .int .i64 r)
theorem hC (k : Nat) : CxOk (C k) := CxOk.nil
theorem ok (k : Nat) : FunOk Tryz.prog 78 (d k) := fun_mk (C := C k) (hC k) (S := S k) Tryz.func78 (by kernel_rfl) (by kernel_rfl) (Loops.all (n := 0) (by kernel_rfl) trivial) (fun as_ => by kernel_rfl)
end ref02_clamp
namespace ref02_Add
noncomputable def C (k : Nat) : Cx := ⟨Tryz.prog, tab [(78, ref02_clamp.d k)], [], [], tab []⟩
noncomputable def S (k : Nat) : Subs := fun n => none
noncomputable def f (k : Nat) (a0 : Row) (a1 : Row) : T Row :=
  .bnd (ref02_clamp.f k (rInt a0 0)).eval default fun r0 =>
  .bnd (ref02_clamp.f k (rInt a1 0)).eval default fun r1 =>
  .bnd (ref02_clamp.f k (iAdd .i64 r0 r1)).eval default fun r2 =>
  .bnd (ref02_clamp.f k (rInt a0 1)).eval default fun r3 =>
  .bnd (ref02_clamp.f k (rInt a1 1)).eval default fun r4 =>
  .bnd (ref02_clamp.f k (iAdd .i64 r3 r4)).eval default fun r5 =>
  .bnd (ref02_clamp.f k (rInt a0 2)).eval default fun r6 =>
  .bnd (ref02_clamp.f k (rInt a1 2)).eval default fun r7 =>
  .bnd (ref02_clamp.f k (iAdd .i64 r6 r7)).eval default fun r8 =>
  .ret [.int .i64 r2, .int .i64 r5, .int .i64 r8]
noncomputable def d (k : Nat) : Fun := mkFun [47, 47] (fun as_ => f k (vRow (vN as_ 0)) (vRow (vN as_ 1))) default (fun r => .agg (et 47 r))
theorem hC (k : Nat) : CxOk (C k) := CxOk.cons (p := (78, ref02_clamp.d k)) (ref02_clamp.ok k) (CxOk.nil)
theorem ok (k : Nat) : FunOk Tryz.prog 79 (d k) := fun_mk (C := C k) (hC k) (S := S k) Tryz.func79 (by kernel_rfl) (by kernel_rfl) (Loops.all (n := 0) (by kernel_rfl) trivial) (fun as_ => by kernel_rfl)
end ref02_Add
namespace ref02_Requests
noncomputable def C (k : Nat) : Cx := ⟨Tryz.prog, tab [(79, ref02_Add.d k)], [], [], tab []⟩
noncomputable def t3 : LoopT := ⟨⟨22, [], [(1, .ptr 1 0), (2, .ptr 2 0), (3, .ptr 3 0), (4, .int .i64)], [], [(1, 40), (2, 47), (3, 47)], []⟩, (fun | .exit 0 => some ⟨22, [], [(2, .ptr 2 0), (3, .ptr 3 0)], [], [(2, 47), (3, 47)], []⟩ | _ => none)⟩
noncomputable def s3 (k : Nat) (c0 : Row) (c1 : Row) (x : (Int × Row)) : T ((Int × Row) ⊕ Row) :=
  .test (iLt x.1 (rLen (rSl c0 4)))
   (.test (iIn x.1 (rLen (rSl c0 4)))
    (.bnd (ref02_Add.f k (et 47 x.2) (eo 47 (rAt (rSl c0 4) x.1) 2)).eval default fun r0 =>
    .ret (.inl ((iAdd .i64 x.1 (1)), (et 47 r0))))
    (.fail))
   (.ret (.inr (et 47 x.2)))
noncomputable def a3 (c0 : Row) (c1 : Row) (x : (Int × Row)) : Dt := ⟨[.u, .u, .u, .i x.1], [], [et 40 c0, et 47 c1, et 47 x.2], []⟩
noncomputable def o3_0 (c0 : Row) (c1 : Row) (r : Row) : X × Dt := (.exit 0, ⟨[.u, .u], [], [(et 47 c1), r], []⟩)
noncomputable def e3 (k : Nat) (d : Dt) : T (X × Dt) := out1 (iter (s3 k (d.r.getD 0 []) (d.r.getD 1 [])) k ((aI (aN d.a 3)), (d.r.getD 2 []))) default (o3_0 (d.r.getD 0 []) (d.r.getD 1 []))
noncomputable def S (k : Nat) : Subs := fun n => bif Nat.beq n 3 then some (loopV Tryz.prog t3 (e3 k)) else none
noncomputable def f (k : Nat) (a0 : Row) : T Row :=
  .bnd (iter (ref02_Requests.s3 k (et 40 a0) [.int .i64 (0), .int .i64 (0), .int .i64 (0)]) k ((0), [.int .i64 (0), .int .i64 (0), .int .i64 (0)])) default fun r0 =>
  .ret (et 47 r0)
noncomputable def d (k : Nat) : Fun := mkFun [40] (fun as_ => f k (vRow (vN as_ 0))) default (fun r => .agg (et 47 r))
theorem hC (k : Nat) : CxOk (C k) := CxOk.cons (p := (79, ref02_Add.d k)) (ref02_Add.ok k) (CxOk.nil)
theorem l3 (k : Nat) : LoopOk Tryz.prog (S k) (lp (bodyF (Go.Proofs.Tryz.f49)) 0) := loopOk_mk (C := C k) (hC k) (Loops.all (n := 0) (by kernel_rfl) trivial) (lt := t3) (den := e3 k) (by kernel_rfl) (N := (Row × Row)) (A := (Int × Row)) (R := Row)
 (fun n x => a3 n.1 n.2 x) (fun n r => o3_0 n.1 n.2 r) (fun n x => s3 k n.1 n.2 x) k (fun d => ((d.r.getD 0 []), (d.r.getD 1 []))) (fun d => ((aI (aN d.a 3)), (d.r.getD 2 []))) (fun d y h => out1_eval h) (fun d => by kernel_rfl) (fun n x => by kernel_rfl) (fun n r => ⟨_, rfl⟩)
theorem ok (k : Nat) : FunOk Tryz.prog 49 (d k) := fun_mk (C := C k) (hC k) (S := S k) Tryz.func49 (by kernel_rfl) (by kernel_rfl) (Loops.all (n := 1) (by kernel_rfl) ⟨trivial, l3 k⟩) (fun as_ => by kernel_rfl)
end ref02_Requests
namespace ref02_Sub
noncomputable def C (k : Nat) : Cx := ⟨Tryz.prog, tab [(78, ref02_clamp.d k)], [], [], tab []⟩
noncomputable def S (k : Nat) : Subs := fun n => none
noncomputable def f (k : Nat) (a0 : Row) (a1 : Row) : T Row :=
  .bnd (ref02_clamp.f k (rInt a0 0)).eval default fun r0 =>
  .bnd (ref02_clamp.f k (rInt a1 0)).eval default fun r1 =>
  .bnd (ref02_clamp.f k (iSub .i64 r0 r1)).eval default fun r2 =>
  .bnd (ref02_clamp.f k (rInt a0 1)).eval default fun r3 =>
  .bnd (ref02_clamp.f k (rInt a1 1)).eval default fun r4 =>
  .bnd (ref02_clamp.f k (iSub .i64 r3 r4)).eval default fun r5 =>
  .bnd (ref02_clamp.f k (rInt a0 2)).eval default fun r6 =>
  .bnd (ref02_clamp.f k (rInt a1 2)).eval default fun r7 =>
  .bnd (ref02_clamp.f k (iSub .i64 r6 r7)).eval default fun r8 =>
  .ret [.int .i64 r2, .int .i64 r5, .int .i64 r8]
noncomputable def d (k : Nat) : Fun := mkFun [47, 47] (fun as_ => f k (vRow (vN as_ 0)) (vRow (vN as_ 1))) default (fun r => .agg (et 47 r))
theorem hC (k : Nat) : CxOk (C k) := CxOk.cons (p := (78, ref02_clamp.d k)) (ref02_clamp.ok k) (CxOk.nil)
theorem ok (k : Nat) : FunOk Tryz.prog 48 (d k) := fun_mk (C := C k) (hC k) (S := S k) Tryz.func48 (by kernel_rfl) (by kernel_rfl) (Loops.all (n := 0) (by kernel_rfl) trivial) (fun as_ => by kernel_rfl)
end ref02_Sub
namespace ref38_free
noncomputable def C (k : Nat) : Cx := ⟨Tryz.prog, tab [(111, ref38_Occupies.d k), (49, ref02_Requests.d k), (79, ref02_Add.d k), (48, ref02_Sub.d k)], [], [], tab []⟩
noncomputable def t3 : LoopT := ⟨⟨50, [], [(0, .sl 45 none), (3, .ptr 3 0), (4, .ptr 4 0), (6, .ptr 6 0), (7, .int .i64), (8, .int .i64)], [], [(3, 51), (4, 47), (6, 47)], []⟩, (fun | .exit 0 => some ⟨50, [], [(3, .ptr 3 0), (4, .ptr 4 0), (6, .ptr 6 0), (7, .int .i64)], [], [(3, 51), (4, 47), (6, 47)], []⟩ | _ => none)⟩
noncomputable def s3 (k : Nat) (c0 : Rows) (c1 : Row) (c2 : Row) (x : (Int × Int × Row)) : T ((Int × Int × Row) ⊕ (Int × Row)) :=
  .test (iLt x.2.1 (rLen c0))
   (.test (iIn x.2.1 (rLen c0))
    (.bnd (ref38_Occupies.f k (et 45 (rAt c0 x.2.1)) (rStr c1 2)).eval default fun r0 =>
    .test r0
     (.test (iIn x.2.1 (rLen c0))
      (.bnd (ref02_Requests.f k (eo 40 (rAt c0 x.2.1) 13)).eval default fun r1 =>
      .bnd (ref02_Add.f k (et 47 x.2.2) (et 47 r1)).eval default fun r2 =>
      .ret (.inl ((iAdd .i64 x.1 (1)), (iAdd .i64 x.2.1 (1)), (et 47 r2))))
      (.fail))
     (.ret (.inl (x.1, (iAdd .i64 x.2.1 (1)), (et 47 x.2.2)))))
    (.fail))
   (.ret (.inr (x.1, (et 47 x.2.2))))
noncomputable def a3 (c0 : Rows) (c1 : Row) (c2 : Row) (x : (Int × Int × Row)) : Dt := ⟨[.r c0, .u, .u, .u, .i x.1, .i x.2.1], [], [et 51 c1, et 47 c2, et 47 x.2.2], []⟩
noncomputable def o3_0 (c0 : Rows) (c1 : Row) (c2 : Row) (r : (Int × Row)) : X × Dt := (.exit 0, ⟨[.u, .u, .u, .i r.1], [], [(et 51 c1), (et 47 c2), r.2], []⟩)
noncomputable def e3 (k : Nat) (d : Dt) : T (X × Dt) := out1 (iter (s3 k (aR (aN d.a 0)) (d.r.getD 0 []) (d.r.getD 1 [])) k ((aI (aN d.a 4)), (aI (aN d.a 5)), (d.r.getD 2 []))) default (o3_0 (aR (aN d.a 0)) (d.r.getD 0 []) (d.r.getD 1 []))
noncomputable def S (k : Nat) : Subs := fun n => bif Nat.beq n 3 then some (loopV Tryz.prog t3 (e3 k)) else none
noncomputable def f (k : Nat) (a0 : Rows) (a1 : Row) : T (Row × Int) :=
  .bnd (iter (ref38_free.s3 k a0 (et 51 a1) [.int .i64 (0), .int .i64 (0), .int .i64 (0)]) k ((0), ((0), [.int .i64 (0), .int .i64 (0), .int .i64 (0)]))) default fun r0 =>
  .test (iLe (rInt a1 16) r0.1)
   (.bnd (ref02_Sub.f k (eo 47 a1 13) (et 47 r0.2)).eval default fun r1 =>
   .ret ((et 47 r1), (0)))
   (.bnd (ref02_Sub.f k (eo 47 a1 13) (et 47 r0.2)).eval default fun r2 =>
   .ret ((et 47 r2), (iSub .i64 (rInt a1 16) r0.1)))
noncomputable def d (k : Nat) : Fun := mkFun [23, 51] (fun as_ => f k (vRows (vN as_ 0)) (vRow (vN as_ 1))) default (fun r => .tuple [.agg (et 47 r.1), .int .i64 r.2])
theorem hC (k : Nat) : CxOk (C k) := CxOk.cons (p := (111, ref38_Occupies.d k)) (ref38_Occupies.ok k) (CxOk.cons (p := (49, ref02_Requests.d k)) (ref02_Requests.ok k) (CxOk.cons (p := (79, ref02_Add.d k)) (ref02_Add.ok k) (CxOk.cons (p := (48, ref02_Sub.d k)) (ref02_Sub.ok k) (CxOk.nil))))
theorem l3 (k : Nat) : LoopOk Tryz.prog (S k) (lp (bodyF (Go.Proofs.Tryz.f77)) 0) := loopOk_mk (C := C k) (hC k) (Loops.all (n := 0) (by kernel_rfl) trivial) (lt := t3) (den := e3 k) (by kernel_rfl) (N := (Rows × Row × Row)) (A := (Int × Int × Row)) (R := (Int × Row))
 (fun n x => a3 n.1 n.2.1 n.2.2 x) (fun n r => o3_0 n.1 n.2.1 n.2.2 r) (fun n x => s3 k n.1 n.2.1 n.2.2 x) k (fun d => ((aR (aN d.a 0)), (d.r.getD 0 []), (d.r.getD 1 []))) (fun d => ((aI (aN d.a 4)), (aI (aN d.a 5)), (d.r.getD 2 []))) (fun d y h => out1_eval h) (fun d => by kernel_rfl) (fun n x => by kernel_rfl) (fun n r => ⟨_, rfl⟩)
theorem ok (k : Nat) : FunOk Tryz.prog 77 (d k) := fun_mk (C := C k) (hC k) (S := S k) Tryz.func77 (by kernel_rfl) (by kernel_rfl) (Loops.all (n := 1) (by kernel_rfl) ⟨trivial, l3 k⟩) (fun as_ => by kernel_rfl)
end ref38_free
namespace ref38_Free
noncomputable def C (k : Nat) : Cx := ⟨Tryz.prog, tab [(77, ref38_free.d k)], [], [], tab []⟩
noncomputable def t2 : LoopT := ⟨⟨34, [], [(1, .str), (2, .ptr 2 0), (4, .ptr 4 0), (6, .int .i64)], [], [(2, 26), (4, 47)], []⟩, (fun | .ret => some ⟨34, [], [(4, .ptr 4 0), (5, .int .i64)], [], [(4, 47)], []⟩ | .exit 0 => some ⟨34, [], [(4, .ptr 4 0)], [], [(4, 47)], []⟩ | _ => none)⟩
noncomputable def s2 (k : Nat) (c0 : ByteArray) (c1 : Row) (c2 : Row) (x : Int) : T (Int ⊕ ((Int × Row) ⊕ Unit)) :=
  .test (iLt x (rLen (rSl c1 0)))
   (.test (iIn x (rLen (rSl c1 0)))
    (.test (sEq (rStr (rAt (rSl c1 0) x) 2) c0)
     (.test (iIn x (rLen (rSl c1 0)))
      (.bnd (ref38_free.f k (rSl c1 1) (et 51 (rAt (rSl c1 0) x))).eval default fun r0 =>
      .ret (.inr (.inl (r0.2, (et 47 r0.1)))))
      (.fail))
     (.ret (.inl (iAdd .i64 x (1)))))
    (.fail))
   (.ret (.inr (.inr ())))
noncomputable def a2 (c0 : ByteArray) (c1 : Row) (c2 : Row) (x : Int) : Dt := ⟨[.s c0, .u, .u, .i x], [], [et 26 c1, et 47 c2], []⟩
noncomputable def o2_0 (c0 : ByteArray) (c1 : Row) (c2 : Row) (r : (Int × Row)) : X × Dt := (.ret, ⟨[.u, .i r.1], [], [r.2], []⟩)
noncomputable def o2_1 (c0 : ByteArray) (c1 : Row) (c2 : Row) (r : Unit) : X × Dt := (.exit 0, ⟨[.u], [], [(et 47 c2)], []⟩)
noncomputable def e2 (k : Nat) (d : Dt) : T (X × Dt) := out2 (iter (s2 k (aS (aN d.a 0)) (d.r.getD 0 []) (d.r.getD 1 [])) k (aI (aN d.a 3))) (o2_0 (aS (aN d.a 0)) (d.r.getD 0 []) (d.r.getD 1 [])) (o2_1 (aS (aN d.a 0)) (d.r.getD 0 []) (d.r.getD 1 []))
noncomputable def S (k : Nat) : Subs := fun n => bif Nat.beq n 2 then some (loopV Tryz.prog t2 (e2 k)) else none
noncomputable def f (k : Nat) (a0 : Row) (a1 : ByteArray) : T (Row × Int) :=
  .cas (iter (ref38_Free.s2 k a1 (et 26 a0) [.int .i64 (0), .int .i64 (0), .int .i64 (0)]) k (0)) (fun r0 =>
   .ret ((et 47 r0.2), r0.1)) (fun r1 =>
   .ret ([.int .i64 (0), .int .i64 (0), .int .i64 (0)], (0)))
noncomputable def d (k : Nat) : Fun := mkFun [26, 9] (fun as_ => f k (vRow (vN as_ 0)) (vStr (vN as_ 1))) default (fun r => .tuple [.agg (et 47 r.1), .int .i64 r.2])
theorem hC (k : Nat) : CxOk (C k) := CxOk.cons (p := (77, ref38_free.d k)) (ref38_free.ok k) (CxOk.nil)
theorem l2 (k : Nat) : LoopOk Tryz.prog (S k) (lp (bodyF (Go.Proofs.Tryz.f47)) 0) := loopOk_mk (C := C k) (hC k) (Loops.all (n := 0) (by kernel_rfl) trivial) (lt := t2) (den := e2 k) (by kernel_rfl) (N := (ByteArray × Row × Row)) (A := Int) (R := ((Int × Row) ⊕ Unit))
 (fun n x => a2 n.1 n.2.1 n.2.2 x) (fun n r => Sum.elim (o2_0 n.1 n.2.1 n.2.2) (o2_1 n.1 n.2.1 n.2.2) r) (fun n x => s2 k n.1 n.2.1 n.2.2 x) k (fun d => ((aS (aN d.a 0)), (d.r.getD 0 []), (d.r.getD 1 []))) (fun d => (aI (aN d.a 3))) (fun d y h => out2_eval h) (fun d => by kernel_rfl) (fun n x => by kernel_rfl) (fun n r => by rcases r with r | r <;> exact ⟨_, rfl⟩)
theorem ok (k : Nat) : FunOk Tryz.prog 47 (d k) := fun_mk (C := C k) (hC k) (S := S k) Tryz.func47 (by kernel_rfl) (by kernel_rfl) (Loops.all (n := 1) (by kernel_rfl) ⟨trivial, l2 k⟩) (fun as_ => by kernel_rfl)
end ref38_Free
namespace ref01_Clamp
noncomputable def C (k : Nat) : Cx := ⟨Tryz.prog, tab [], [], [], tab []⟩
noncomputable def S (k : Nat) : Subs := fun n => none
noncomputable def f (k : Nat) (a0 : Int) (a1 : Int) (a2 : Int) : T Int :=
  .ret (iMin (iMax a0 a1) a2)
noncomputable def d (k : Nat) : Fun := mkFun [3, 3, 3] (fun as_ => f k (vInt (vN as_ 0)) (vInt (vN as_ 1)) (vInt (vN as_ 2))) default (fun r => .int .i64 r)
theorem hC (k : Nat) : CxOk (C k) := CxOk.nil
theorem ok (k : Nat) : FunOk Tryz.prog 30 (d k) := fun_mk (C := C k) (hC k) (S := S k) Tryz.func30 (by kernel_rfl) (by kernel_rfl) (Loops.all (n := 0) (by kernel_rfl) trivial) (fun as_ => by kernel_rfl)
end ref01_Clamp
namespace ref39_share
noncomputable def C (k : Nat) : Cx := ⟨Tryz.prog, tab [(30, ref01_Clamp.d k)], [], [], tab []⟩
noncomputable def S (k : Nat) : Subs := fun n => none
noncomputable def f (k : Nat) (a0 : Int) (a1 : Int) : T Int :=
  .test (iLe a1 (0))
   (.ret (0))
   (.bnd (ref01_Clamp.f k a1 (1) (1000000000000000)).eval default fun r0 =>
   .test (bNot (iEq r0 (0)))
    (.bnd (ref01_Clamp.f k (iQuo .i64 (iMul .i64 (100) a0) r0) (0) (100)).eval default fun r1 =>
    .ret r1)
    (.fail))
noncomputable def d (k : Nat) : Fun := mkFun [3, 3] (fun as_ => f k (vInt (vN as_ 0)) (vInt (vN as_ 1))) default (fun r => .int .i64 r)
theorem hC (k : Nat) : CxOk (C k) := CxOk.cons (p := (30, ref01_Clamp.d k)) (ref01_Clamp.ok k) (CxOk.nil)
theorem ok (k : Nat) : FunOk Tryz.prog 50 (d k) := fun_mk (C := C k) (hC k) (S := S k) Tryz.func50 (by kernel_rfl) (by kernel_rfl) (Loops.all (n := 0) (by kernel_rfl) trivial) (fun as_ => by kernel_rfl)
end ref39_share
namespace ref39_shares
noncomputable def C (k : Nat) : Cx := ⟨Tryz.prog, tab [(47, ref38_Free.d k), (49, ref02_Requests.d k), (48, ref02_Sub.d k), (50, ref39_share.d k)], [], [], tab []⟩
noncomputable def S (k : Nat) : Subs := fun n => none
noncomputable def f (k : Nat) (a0 : Row) (a1 : Row) (a2 : Row) : T (Int × Int) :=
  .bnd (ref38_Free.f k (et 26 a0) (rStr a2 2)).eval default fun r0 =>
  .bnd (ref02_Requests.f k (eo 40 a1 13)).eval default fun r1 =>
  .bnd (ref02_Sub.f k (et 47 r0.1) (et 47 r1)).eval default fun r2 =>
  .bnd (ref39_share.f k (rInt r2 0) (rInt a2 13)).eval default fun r3 =>
  .bnd (ref39_share.f k (rInt r2 1) (rInt a2 14)).eval default fun r4 =>
  .ret (r3, r4)
noncomputable def d (k : Nat) : Fun := mkFun [26, 45, 51] (fun as_ => f k (vRow (vN as_ 0)) (vRow (vN as_ 1)) (vRow (vN as_ 2))) default (fun r => .tuple [.int .i64 r.1, .int .i64 r.2])
theorem hC (k : Nat) : CxOk (C k) := CxOk.cons (p := (47, ref38_Free.d k)) (ref38_Free.ok k) (CxOk.cons (p := (49, ref02_Requests.d k)) (ref02_Requests.ok k) (CxOk.cons (p := (48, ref02_Sub.d k)) (ref02_Sub.ok k) (CxOk.cons (p := (50, ref39_share.d k)) (ref39_share.ok k) (CxOk.nil))))
theorem ok (k : Nat) : FunOk Tryz.prog 25 (d k) := fun_mk (C := C k) (hC k) (S := S k) Tryz.func25 (by kernel_rfl) (by kernel_rfl) (Loops.all (n := 0) (by kernel_rfl) trivial) (fun as_ => by kernel_rfl)
end ref39_shares
namespace ref39_Spare
noncomputable def C (k : Nat) : Cx := ⟨Tryz.prog, tab [(25, ref39_shares.d k)], [], [], tab []⟩
noncomputable def S (k : Nat) : Subs := fun n => none
noncomputable def f (k : Nat) (a0 : Row) (a1 : Row) (a2 : Row) : T Int :=
  .bnd (ref39_shares.f k (et 26 a0) (et 45 a1) (et 51 a2)).eval default fun r0 =>
  .test (bNot (iEq (2) (0)))
   (.ret (iQuo .i64 (iAdd .i64 r0.1 r0.2) (2)))
   (.fail)
noncomputable def d (k : Nat) : Fun := mkFun [26, 45, 51] (fun as_ => f k (vRow (vN as_ 0)) (vRow (vN as_ 1)) (vRow (vN as_ 2))) default (fun r => .int .i64 r)
theorem hC (k : Nat) : CxOk (C k) := CxOk.cons (p := (25, ref39_shares.d k)) (ref39_shares.ok k) (CxOk.nil)
theorem ok (k : Nat) : FunOk Tryz.prog 12 (d k) := fun_mk (C := C k) (hC k) (S := S k) Tryz.func12 (by kernel_rfl) (by kernel_rfl) (Loops.all (n := 0) (by kernel_rfl) trivial) (fun as_ => by kernel_rfl)
end ref39_Spare
namespace ref39_Balance
noncomputable def C (k : Nat) : Cx := ⟨Tryz.prog, tab [(25, ref39_shares.d k)], [], [], tab []⟩
noncomputable def S (k : Nat) : Subs := fun n => none
noncomputable def f (k : Nat) (a0 : Row) (a1 : Row) (a2 : Row) : T Int :=
  .bnd (ref39_shares.f k (et 26 a0) (et 45 a1) (et 51 a2)).eval default fun r0 =>
  .test (iLt r0.2 r0.1)
   (.ret (iAdd .i64 (iSub .i64 (100) r0.1) r0.2))
   (.ret (iAdd .i64 (iSub .i64 (100) r0.2) r0.1))
noncomputable def d (k : Nat) : Fun := mkFun [26, 45, 51] (fun as_ => f k (vRow (vN as_ 0)) (vRow (vN as_ 1)) (vRow (vN as_ 2))) default (fun r => .int .i64 r)
theorem hC (k : Nat) : CxOk (C k) := CxOk.cons (p := (25, ref39_shares.d k)) (ref39_shares.ok k) (CxOk.nil)
theorem ok (k : Nat) : FunOk Tryz.prog 14 (d k) := fun_mk (C := C k) (hC k) (S := S k) Tryz.func14 (by kernel_rfl) (by kernel_rfl) (Loops.all (n := 0) (by kernel_rfl) trivial) (fun as_ => by kernel_rfl)
end ref39_Balance
namespace ref03_Get
noncomputable def C (k : Nat) : Cx := ⟨Tryz.prog, tab [], [], [], tab []⟩
noncomputable def t2 : LoopT := ⟨⟨25, [], [(0, .sl 89 none), (1, .str), (6, .int .i64)], [], [], []⟩, (fun | .ret => some ⟨25, [], [(4, .str), (5, .bool)], [], [], []⟩ | .exit 0 => some ⟨25, [], [], [], [], []⟩ | _ => none)⟩
noncomputable def s2 (k : Nat) (c0 : Rows) (c1 : ByteArray) (x : Int) : T (Int ⊕ ((ByteArray × Bool) ⊕ Unit)) :=
  .test (iLt x (rLen c0))
   (.test (iIn x (rLen c0))
    (.test (sEq (rStr (rAt c0 x) 0) c1)
     (.test (iIn x (rLen c0))
      (.ret (.inr (.inl ((rStr (rAt c0 x) 1), true))))
      (.fail))
     (.ret (.inl (iAdd .i64 x (1)))))
    (.fail))
   (.ret (.inr (.inr ())))
noncomputable def a2 (c0 : Rows) (c1 : ByteArray) (x : Int) : Dt := ⟨[.r c0, .s c1, .i x], [], [], []⟩
noncomputable def o2_0 (c0 : Rows) (c1 : ByteArray) (r : (ByteArray × Bool)) : X × Dt := (.ret, ⟨[.s r.1, .b r.2], [], [], []⟩)
noncomputable def o2_1 (c0 : Rows) (c1 : ByteArray) (r : Unit) : X × Dt := (.exit 0, ⟨[], [], [], []⟩)
noncomputable def e2 (k : Nat) (d : Dt) : T (X × Dt) := out2 (iter (s2 k (aR (aN d.a 0)) (aS (aN d.a 1))) k (aI (aN d.a 2))) (o2_0 (aR (aN d.a 0)) (aS (aN d.a 1))) (o2_1 (aR (aN d.a 0)) (aS (aN d.a 1)))
noncomputable def S (k : Nat) : Subs := fun n => bif Nat.beq n 2 then some (loopV Tryz.prog t2 (e2 k)) else none
noncomputable def f (k : Nat) (a0 : Rows) (a1 : ByteArray) : T (ByteArray × Bool) :=
  .cas (iter (ref03_Get.s2 k a0 a1) k (0)) (fun r0 =>
   .ret (r0.1, r0.2)) (fun r1 =>
   .ret (ByteArray.empty, false))
noncomputable def d (k : Nat) : Fun := mkFun [27, 9] (fun as_ => f k (vRows (vN as_ 0)) (vStr (vN as_ 1))) default (fun r => .tuple [.str r.1, .bool r.2])
theorem hC (k : Nat) : CxOk (C k) := CxOk.nil
theorem l2 (k : Nat) : LoopOk Tryz.prog (S k) (lp (bodyF (Go.Proofs.Tryz.f98)) 0) := loopOk_mk (C := C k) (hC k) (Loops.all (n := 0) (by kernel_rfl) trivial) (lt := t2) (den := e2 k) (by kernel_rfl) (N := (Rows × ByteArray)) (A := Int) (R := ((ByteArray × Bool) ⊕ Unit))
 (fun n x => a2 n.1 n.2 x) (fun n r => Sum.elim (o2_0 n.1 n.2) (o2_1 n.1 n.2) r) (fun n x => s2 k n.1 n.2 x) k (fun d => ((aR (aN d.a 0)), (aS (aN d.a 1)))) (fun d => (aI (aN d.a 2))) (fun d y h => out2_eval h) (fun d => by kernel_rfl) (fun n x => by kernel_rfl) (fun n r => by rcases r with r | r <;> exact ⟨_, rfl⟩)
theorem ok (k : Nat) : FunOk Tryz.prog 98 (d k) := fun_mk (C := C k) (hC k) (S := S k) Tryz.func98 (by kernel_rfl) (by kernel_rfl) (Loops.all (n := 1) (by kernel_rfl) ⟨trivial, l2 k⟩) (fun as_ => by kernel_rfl)
end ref03_Get
namespace ref03_among
noncomputable def C (k : Nat) : Cx := ⟨Tryz.prog, tab [], [], [], tab []⟩
noncomputable def t2 : LoopT := ⟨⟨18, [], [(0, .sl 9 none), (1, .str), (5, .int .i64)], [], [], []⟩, (fun | .ret => some ⟨18, [], [(4, .bool)], [], [], []⟩ | .exit 0 => some ⟨18, [], [], [], [], []⟩ | _ => none)⟩
noncomputable def s2 (k : Nat) (c0 : Rows) (c1 : ByteArray) (x : Int) : T (Int ⊕ (Bool ⊕ Unit)) :=
  .test (iLt x (rLen c0))
   (.test (iIn x (rLen c0))
    (.test (sEq (rStr (rAt c0 x) 0) c1)
     (.ret (.inr (.inl true)))
     (.ret (.inl (iAdd .i64 x (1)))))
    (.fail))
   (.ret (.inr (.inr ())))
noncomputable def a2 (c0 : Rows) (c1 : ByteArray) (x : Int) : Dt := ⟨[.r c0, .s c1, .i x], [], [], []⟩
noncomputable def o2_0 (c0 : Rows) (c1 : ByteArray) (r : Bool) : X × Dt := (.ret, ⟨[.b r], [], [], []⟩)
noncomputable def o2_1 (c0 : Rows) (c1 : ByteArray) (r : Unit) : X × Dt := (.exit 0, ⟨[], [], [], []⟩)
noncomputable def e2 (k : Nat) (d : Dt) : T (X × Dt) := out2 (iter (s2 k (aR (aN d.a 0)) (aS (aN d.a 1))) k (aI (aN d.a 2))) (o2_0 (aR (aN d.a 0)) (aS (aN d.a 1))) (o2_1 (aR (aN d.a 0)) (aS (aN d.a 1)))
noncomputable def S (k : Nat) : Subs := fun n => bif Nat.beq n 2 then some (loopV Tryz.prog t2 (e2 k)) else none
noncomputable def f (k : Nat) (a0 : Rows) (a1 : ByteArray) : T Bool :=
  .cas (iter (ref03_among.s2 k a0 a1) k (0)) (fun r0 =>
   .ret r0) (fun r1 =>
   .ret false)
noncomputable def d (k : Nat) : Fun := mkFun [29, 9] (fun as_ => f k (vRows (vN as_ 0)) (vStr (vN as_ 1))) default (fun r => .bool r)
theorem hC (k : Nat) : CxOk (C k) := CxOk.nil
theorem l2 (k : Nat) : LoopOk Tryz.prog (S k) (lp (bodyF (Go.Proofs.Tryz.f121)) 0) := loopOk_mk (C := C k) (hC k) (Loops.all (n := 0) (by kernel_rfl) trivial) (lt := t2) (den := e2 k) (by kernel_rfl) (N := (Rows × ByteArray)) (A := Int) (R := (Bool ⊕ Unit))
 (fun n x => a2 n.1 n.2 x) (fun n r => Sum.elim (o2_0 n.1 n.2) (o2_1 n.1 n.2) r) (fun n x => s2 k n.1 n.2 x) k (fun d => ((aR (aN d.a 0)), (aS (aN d.a 1)))) (fun d => (aI (aN d.a 2))) (fun d y h => out2_eval h) (fun d => by kernel_rfl) (fun n x => by kernel_rfl) (fun n r => by rcases r with r | r <;> exact ⟨_, rfl⟩)
theorem ok (k : Nat) : FunOk Tryz.prog 121 (d k) := fun_mk (C := C k) (hC k) (S := S k) Tryz.func121 (by kernel_rfl) (by kernel_rfl) (Loops.all (n := 1) (by kernel_rfl) ⟨trivial, l2 k⟩) (fun as_ => by kernel_rfl)
end ref03_among
end Go.Proofs.YtilppppcafphbaaGreat.Ev
