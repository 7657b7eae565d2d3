/- Go functions as Lean functions, printed by a program of this claim's author; each with its proof. Conditions: stated at each. -/
import Derived.Test.YtohhdiifohhghaaSndV
import Derived.Test.YtohhdiifohhghaaProg
namespace Go.Proofs.Ytohhdiifohhghaa.Ev
open Go
set_option linter.unusedVariables false
set_option maxRecDepth 100000
/-- A row in its type's form. -/
noncomputable abbrev et (t : Nat) (r : Row) : Row := eta Try.prog t r
/-- A part of a row, in its type's form. -/
noncomputable abbrev eo (t : Nat) (r : Row) (o : Nat) : Row := etaL Try.prog r o (ctsOf Try.prog t)

/-- Where the library's functions lie in this program. -/
def lay_sort_ren : Shelf.Ren := ⟨fun n => bif Nat.beq n 6 then 28 else bif Nat.beq n 15 then 43 else bif Nat.beq n 14 then 42 else bif Nat.beq n 28 then 63 else bif Nat.beq n 29 then 64 else bif Nat.beq n 20 then 55 else bif Nat.beq n 21 then 56 else bif Nat.beq n 22 then 57 else bif Nat.beq n 23 then 58 else bif Nat.beq n 24 then 59 else bif Nat.beq n 25 then 60 else bif Nat.beq n 26 then 61 else bif Nat.beq n 27 then 62 else bif Nat.beq n 46 then 69 else bif Nat.beq n 47 then 70 else bif Nat.beq n 48 then 71 else bif Nat.beq n 49 then 72 else bif Nat.beq n 50 then 73 else bif Nat.beq n 57 then 74 else n, fun n => bif Nat.beq n 22 then 51 else bif Nat.beq n 24 then 54 else bif Nat.beq n 25 then 83 else bif Nat.beq n 3 then 3 else bif Nat.beq n 39 then 98 else bif Nat.beq n 0 then 0 else bif Nat.beq n 53 then 115 else bif Nat.beq n 55 then 117 else bif Nat.beq n 4 then 4 else bif Nat.beq n 46 then 108 else bif Nat.beq n 45 then 107 else bif Nat.beq n 50 then 112 else bif Nat.beq n 5 then 5 else bif Nat.beq n 9 then 9 else bif Nat.beq n 66 then 120 else bif Nat.beq n 70 then 124 else bif Nat.beq n 76 then 126 else bif Nat.beq n 77 then 127 else n, fun n => n⟩
theorem lay_sort : SlLaysF0.n6 Try.prog lay_sort_ren where
  mixed := by kernel_rfl
  f6 := ⟨ "slices.SortFunc[[]orchestrator/api.Count,orchestrator/api.Count]", by kernel_rfl, Try.func28.trans (congrArg some (by kernel_rfl))⟩
  f14 := ⟨ "slices.pdqsortCmpFunc[orchestrator/api.Count]", by kernel_rfl, Try.func42.trans (congrArg some (by kernel_rfl))⟩
  f15 := by kernel_rfl
  f20 := ⟨ "slices.insertionSortCmpFunc[orchestrator/api.Count]", by kernel_rfl, Try.func55.trans (congrArg some (by kernel_rfl))⟩
  f21 := ⟨ "slices.heapSortCmpFunc[orchestrator/api.Count]", by kernel_rfl, Try.func56.trans (congrArg some (by kernel_rfl))⟩
  f22 := ⟨ "slices.breakPatternsCmpFunc[orchestrator/api.Count]", by kernel_rfl, Try.func57.trans (congrArg some (by kernel_rfl))⟩
  f23 := ⟨ "slices.choosePivotCmpFunc[orchestrator/api.Count]", by kernel_rfl, Try.func58.trans (congrArg some (by kernel_rfl))⟩
  f24 := ⟨ "slices.reverseRangeCmpFunc[orchestrator/api.Count]", by kernel_rfl, Try.func59.trans (congrArg some (by kernel_rfl))⟩
  f25 := ⟨ "slices.partialInsertionSortCmpFunc[orchestrator/api.Count]", by kernel_rfl, Try.func60.trans (congrArg some (by kernel_rfl))⟩
  f26 := ⟨ "slices.partitionEqualCmpFunc[orchestrator/api.Count]", by kernel_rfl, Try.func61.trans (congrArg some (by kernel_rfl))⟩
  f27 := ⟨ "slices.partitionCmpFunc[orchestrator/api.Count]", by kernel_rfl, Try.func62.trans (congrArg some (by kernel_rfl))⟩
  f28 := by kernel_rfl
  f29 := by kernel_rfl
  f46 := ⟨ "slices.siftDownCmpFunc[orchestrator/api.Count]", by kernel_rfl, Try.func69.trans (congrArg some (by kernel_rfl))⟩
  f47 := by kernel_rfl
  f48 := by kernel_rfl
  f49 := ⟨ "slices.medianAdjacentCmpFunc[orchestrator/api.Count]", by kernel_rfl, Try.func72.trans (congrArg some (by kernel_rfl))⟩
  f50 := ⟨ "slices.medianCmpFunc[orchestrator/api.Count]", by kernel_rfl, Try.func73.trans (congrArg some (by kernel_rfl))⟩
  f57 := ⟨ "slices.order2CmpFunc[orchestrator/api.Count]", by kernel_rfl, Try.func74.trans (congrArg some (by kernel_rfl))⟩
  t0 := by kernel_rfl
  a0 := fun w => by kernel_rfl
  z0 := fun w => by kernel_rfl
  v0 := fun w => by kernel_rfl
  t3 := by kernel_rfl
  a3 := fun w => by kernel_rfl
  z3 := fun w => by kernel_rfl
  v3 := fun w => by kernel_rfl
  t4 := by kernel_rfl
  a4 := fun w => by kernel_rfl
  z4 := fun w => by kernel_rfl
  v4 := fun w => by kernel_rfl
  t5 := by kernel_rfl
  a5 := fun w => by kernel_rfl
  z5 := fun w => by kernel_rfl
  v5 := fun w => by kernel_rfl
  t9 := by kernel_rfl
  a9 := fun w => by kernel_rfl
  z9 := fun w => by kernel_rfl
  v9 := fun w => by kernel_rfl
  t22 := by kernel_rfl
  a22 := fun w => by kernel_rfl
  z22 := fun w => by kernel_rfl
  v22 := fun w => by kernel_rfl
  t25 := by kernel_rfl
  a25 := fun w => by kernel_rfl
  z25 := fun w => by kernel_rfl
  v25 := fun w => by kernel_rfl
  t39 := by kernel_rfl
  a39 := fun w => by kernel_rfl
  z39 := fun w => by kernel_rfl
  v39 := fun w => by kernel_rfl
  t45 := by kernel_rfl
  a45 := fun w => by kernel_rfl
  z45 := fun w => by kernel_rfl
  v45 := fun w => by kernel_rfl
  t46 := by kernel_rfl
  a46 := fun w => by kernel_rfl
  z46 := fun w => by kernel_rfl
  v46 := fun w => by kernel_rfl
  t50 := by kernel_rfl
  a50 := fun w => by kernel_rfl
  z50 := fun w => by kernel_rfl
  v50 := fun w => by kernel_rfl
  t53 := by kernel_rfl
  a53 := fun w => by kernel_rfl
  z53 := fun w => by kernel_rfl
  v53 := fun w => by kernel_rfl
  t55 := by kernel_rfl
  a55 := fun w => by kernel_rfl
  z55 := fun w => by kernel_rfl
  v55 := fun w => by kernel_rfl
  t66 := by kernel_rfl
  a66 := fun w => by kernel_rfl
  z66 := fun w => by kernel_rfl
  v66 := fun w => by kernel_rfl
  t70 := by kernel_rfl
  a70 := fun w => by kernel_rfl
  z70 := fun w => by kernel_rfl
  v70 := fun w => by kernel_rfl
  t76 := by kernel_rfl
  a76 := fun w => by kernel_rfl
  z76 := fun w => by kernel_rfl
  v76 := fun w => by kernel_rfl
  t77 := by kernel_rfl
  a77 := fun w => by kernel_rfl
  z77 := fun w => by kernel_rfl
  v77 := fun w => by kernel_rfl
/-- Where the library's functions lie in this program. -/
def lay_cmp_ren : Shelf.Ren := ⟨fun n => bif Nat.beq n 106 then 30 else bif Nat.beq n 213 then 44 else bif Nat.beq n 265 then 65 else n, fun n => bif Nat.beq n 9 then 9 else bif Nat.beq n 3 then 3 else n, fun n => n⟩
theorem lay_cmp : Lays.n106 Try.prog lay_cmp_ren where
  mixed := by kernel_rfl
  f106 := by kernel_rfl
  f213 := by kernel_rfl
  f265 := by kernel_rfl
  t3 := by kernel_rfl
  a3 := fun w => by kernel_rfl
  z3 := fun w => by kernel_rfl
  v3 := fun w => by kernel_rfl
  t9 := by kernel_rfl
  a9 := fun w => by kernel_rfl
  z9 := fun w => by kernel_rfl
  v9 := fun w => by kernel_rfl
namespace law37_wide
noncomputable def C (k : Nat) : Cx := ⟨Try.prog, tab [], [], [], tab []⟩
noncomputable def t2 : LoopT := ⟨⟨20, [], [(0, .sl 76 none), (3, .int .i64)], [], [], []⟩, (fun | .ret => some ⟨20, [], [(2, .bool)], [], [], []⟩ | .exit 0 => some ⟨20, [], [(0, .sl 76 none)], [], [], []⟩ | _ => none)⟩
noncomputable def s2 (k : Nat) (c0 : Rows) (x : Int) : T (Int ⊕ (Bool ⊕ Unit)) :=
  .test (iLt x (rLen c0))
   (.test (iIn x (rLen c0))
    (.test (iLt (40) (rLen (rSl (rAt c0 x) 2)))
     (.ret (.inr (.inl true)))
     (.ret (.inl (iAdd .i64 x (1)))))
    (.fail))
   (.ret (.inr (.inr ())))
noncomputable def a2 (c0 : Rows) (x : Int) : Dt := ⟨[.r c0, .i x], [], [], []⟩
noncomputable def o2_0 (c0 : Rows) (r : Bool) : X × Dt := (.ret, ⟨[.b r], [], [], []⟩)
noncomputable def o2_1 (c0 : Rows) (r : Unit) : X × Dt := (.exit 0, ⟨[.r c0], [], [], []⟩)
noncomputable def e2 (k : Nat) (d : Dt) : T (X × Dt) := out2 (iter (s2 k (aR (aN d.a 0))) k (aI (aN d.a 1))) (o2_0 (aR (aN d.a 0))) (o2_1 (aR (aN d.a 0)))
noncomputable def S (k : Nat) : Subs := fun n => bif Nat.beq n 2 then some (loopV Try.prog t2 (e2 k)) else none
noncomputable def f (k : Nat) (a0 : Rows) : T Bool :=
  .cas (iter (law37_wide.s2 k a0) k (0)) (fun r0 =>
   .ret r0) (fun r1 =>
   .ret (iLt (20) (rLen a0)))
noncomputable def d (k : Nat) : Fun := mkFun [27] (fun as_ => f k (vRows (vN as_ 0))) default (fun r => .bool r)
theorem hC (k : Nat) : CxOk (C k) := CxOk.nil
theorem l2 (k : Nat) : LoopOk Try.prog (S k) (lp (bodyF (Go.Proofs.Try.f8)) 0) := loopOk_mk (C := C k) (hC k) (Loops.all (n := 0) (by kernel_rfl) trivial) (lt := t2) (den := e2 k) (by kernel_rfl) (N := Rows) (A := Int) (R := (Bool ⊕ Unit))
 (fun n x => a2 n x) (fun n r => Sum.elim (o2_0 n) (o2_1 n) r) (fun n x => s2 k n x) k (fun d => (aR (aN d.a 0))) (fun d => (aI (aN d.a 1))) (fun d y h => out2_eval h) (fun d => by kernel_rfl) (fun n x => by kernel_rfl) (fun n r => by rcases r with r | r <;> exact ⟨_, rfl⟩)
theorem ok (k : Nat) : FunOk Try.prog 8 (d k) := fun_mk (C := C k) (hC k) (S := S k) Try.func8 (by kernel_rfl) (by kernel_rfl) (Loops.all (n := 1) (by kernel_rfl) ⟨trivial, l2 k⟩) (fun as_ => by kernel_rfl)
end law37_wide
namespace law37_heavy
noncomputable def C (k : Nat) : Cx := ⟨Try.prog, tab [(8, law37_wide.d k)], [], [], tab []⟩
noncomputable def t2 : LoopT := ⟨⟨80, [], [(2, .ptr 2 0), (3, .ptr 3 0), (5, .int .i64)], [], [(2, 26), (3, 48)], []⟩, (fun | .ret => some ⟨80, [], [(4, .bool)], [], [], []⟩ | .exit 0 => some ⟨80, [], [(2, .ptr 2 0), (3, .ptr 3 0)], [], [(2, 26), (3, 48)], []⟩ | _ => none)⟩
noncomputable def s2 (k : Nat) (c0 : Row) (c1 : Row) (x : Int) : T (Int ⊕ (Bool ⊕ Unit)) :=
  .test (iLt x (rLen (rSl c0 0)))
   (.test (iIn x (rLen (rSl c0 0)))
    (.test (iLt (30) (rLen (rSl (rAt (rSl c0 0) x) 9)))
     (.ret (.inr (.inl true)))
     (.ret (.inl (iAdd .i64 x (1)))))
    (.fail))
   (.ret (.inr (.inr ())))
noncomputable def a2 (c0 : Row) (c1 : Row) (x : Int) : Dt := ⟨[.u, .u, .i x], [], [et 26 c0, et 48 c1], []⟩
noncomputable def o2_0 (c0 : Row) (c1 : Row) (r : Bool) : X × Dt := (.ret, ⟨[.b r], [], [], []⟩)
noncomputable def o2_1 (c0 : Row) (c1 : Row) (r : Unit) : X × Dt := (.exit 0, ⟨[.u, .u], [], [(et 26 c0), (et 48 c1)], []⟩)
noncomputable def e2 (k : Nat) (d : Dt) : T (X × Dt) := out2 (iter (s2 k (d.r.getD 0 []) (d.r.getD 1 [])) k (aI (aN d.a 2))) (o2_0 (d.r.getD 0 []) (d.r.getD 1 [])) (o2_1 (d.r.getD 0 []) (d.r.getD 1 []))
noncomputable def t7 : LoopT := ⟨⟨80, [], [(2, .ptr 2 0), (3, .ptr 3 0), (6, .int .i64)], [], [(2, 26), (3, 48)], []⟩, (fun | .ret => some ⟨80, [], [(4, .bool)], [], [], []⟩ | .exit 2 => some ⟨80, [], [(2, .ptr 2 0), (3, .ptr 3 0)], [], [(2, 26), (3, 48)], []⟩ | _ => none)⟩
noncomputable def s7 (k : Nat) (c0 : Row) (c1 : Row) (x : Int) : T (Int ⊕ (Bool ⊕ Unit)) :=
  .test (iLt x (rLen (rSl c0 1)))
   (.test (iIn x (rLen (rSl c0 1)))
    (.test (iLt (30) (rLen (rSl (rAt (rSl c0 1) x) 9)))
     (.ret (.inr (.inl true)))
     (.ret (.inl (iAdd .i64 x (1)))))
    (.fail))
   (.ret (.inr (.inr ())))
noncomputable def a7 (c0 : Row) (c1 : Row) (x : Int) : Dt := ⟨[.u, .u, .i x], [], [et 26 c0, et 48 c1], []⟩
noncomputable def o7_0 (c0 : Row) (c1 : Row) (r : Bool) : X × Dt := (.ret, ⟨[.b r], [], [], []⟩)
noncomputable def o7_1 (c0 : Row) (c1 : Row) (r : Unit) : X × Dt := (.exit 2, ⟨[.u, .u], [], [(et 26 c0), (et 48 c1)], []⟩)
noncomputable def e7 (k : Nat) (d : Dt) : T (X × Dt) := out2 (iter (s7 k (d.r.getD 0 []) (d.r.getD 1 [])) k (aI (aN d.a 2))) (o7_0 (d.r.getD 0 []) (d.r.getD 1 [])) (o7_1 (d.r.getD 0 []) (d.r.getD 1 []))
noncomputable def t12 : LoopT := ⟨⟨80, [], [(2, .ptr 2 0), (3, .ptr 3 0), (7, .int .i64)], [], [(2, 26), (3, 48)], []⟩, (fun | .ret => some ⟨80, [], [(4, .bool)], [], [], []⟩ | .exit 4 => some ⟨80, [], [(2, .ptr 2 0), (3, .ptr 3 0)], [], [(2, 26), (3, 48)], []⟩ | _ => none)⟩
noncomputable def s12 (k : Nat) (c0 : Row) (c1 : Row) (x : Int) : T (Int ⊕ (Bool ⊕ Unit)) :=
  .test (iLt x (rLen (rSl c1 21)))
   (.test (iIn x (rLen (rSl c1 21)))
    (.bnd (law37_wide.f k (rSl (rAt (rSl c1 21) x) 2)).eval default fun r0 =>
    .test r0
     (.ret (.inr (.inl true)))
     (.ret (.inl (iAdd .i64 x (1)))))
    (.fail))
   (.ret (.inr (.inr ())))
noncomputable def a12 (c0 : Row) (c1 : Row) (x : Int) : Dt := ⟨[.u, .u, .i x], [], [et 26 c0, et 48 c1], []⟩
noncomputable def o12_0 (c0 : Row) (c1 : Row) (r : Bool) : X × Dt := (.ret, ⟨[.b r], [], [], []⟩)
noncomputable def o12_1 (c0 : Row) (c1 : Row) (r : Unit) : X × Dt := (.exit 4, ⟨[.u, .u], [], [(et 26 c0), (et 48 c1)], []⟩)
noncomputable def e12 (k : Nat) (d : Dt) : T (X × Dt) := out2 (iter (s12 k (d.r.getD 0 []) (d.r.getD 1 [])) k (aI (aN d.a 2))) (o12_0 (d.r.getD 0 []) (d.r.getD 1 [])) (o12_1 (d.r.getD 0 []) (d.r.getD 1 []))
noncomputable def S (k : Nat) : Subs := fun n => bif Nat.beq n 2 then some (loopV Try.prog t2 (e2 k)) else bif Nat.beq n 7 then some (loopV Try.prog t7 (e7 k)) else bif Nat.beq n 12 then some (loopV Try.prog t12 (e12 k)) else none
noncomputable def f (k : Nat) (a0 : Row) (a1 : Row) : T Bool :=
  .cas (iter (law37_heavy.s2 k (et 26 a0) (et 48 a1)) k (0)) (fun r0 =>
   .ret r0) (fun r1 =>
   .cas (iter (law37_heavy.s7 k (et 26 a0) (et 48 a1)) k (0)) (fun r2 =>
    .ret r2) (fun r3 =>
    .cas (iter (law37_heavy.s12 k (et 26 a0) (et 48 a1)) k (0)) (fun r4 =>
     .ret r4) (fun r5 =>
     .ret (bIte (bIte (bIte (iLt (12) (rLen (rSl a0 0))) true (iLt (24) (rLen (rSl a0 1)))) true (iLt (6) (rLen (rSl a1 21)))) true (iLt (30) (rLen (rSl a1 9)))))))
noncomputable def d (k : Nat) : Fun := mkFun [26, 48] (fun as_ => f k (vRow (vN as_ 0)) (vRow (vN as_ 1))) default (fun r => .bool r)
theorem hC (k : Nat) : CxOk (C k) := CxOk.cons (p := (8, law37_wide.d k)) (law37_wide.ok k) (CxOk.nil)
theorem l2 (k : Nat) : LoopOk Try.prog (S k) (lp (bodyF (Go.Proofs.Try.f7)) 0) := loopOk_mk (C := C k) (hC k) (Loops.all (n := 0) (by kernel_rfl) trivial) (lt := t2) (den := e2 k) (by kernel_rfl) (N := (Row × Row)) (A := Int) (R := (Bool ⊕ Unit))
 (fun n x => a2 n.1 n.2 x) (fun n r => Sum.elim (o2_0 n.1 n.2) (o2_1 n.1 n.2) r) (fun n x => s2 k n.1 n.2 x) k (fun d => ((d.r.getD 0 []), (d.r.getD 1 []))) (fun d => (aI (aN d.a 2))) (fun d y h => out2_eval h) (fun d => by kernel_rfl) (fun n x => by kernel_rfl) (fun n r => by rcases r with r | r <;> exact ⟨_, rfl⟩)
theorem l7 (k : Nat) : LoopOk Try.prog (S k) (lp (bodyF (Go.Proofs.Try.f7)) 1) := loopOk_mk (C := C k) (hC k) (Loops.all (n := 0) (by kernel_rfl) trivial) (lt := t7) (den := e7 k) (by kernel_rfl) (N := (Row × Row)) (A := Int) (R := (Bool ⊕ Unit))
 (fun n x => a7 n.1 n.2 x) (fun n r => Sum.elim (o7_0 n.1 n.2) (o7_1 n.1 n.2) r) (fun n x => s7 k n.1 n.2 x) k (fun d => ((d.r.getD 0 []), (d.r.getD 1 []))) (fun d => (aI (aN d.a 2))) (fun d y h => out2_eval h) (fun d => by kernel_rfl) (fun n x => by kernel_rfl) (fun n r => by rcases r with r | r <;> exact ⟨_, rfl⟩)
theorem l12 (k : Nat) : LoopOk Try.prog (S k) (lp (bodyF (Go.Proofs.Try.f7)) 2) := loopOk_mk (C := C k) (hC k) (Loops.all (n := 0) (by kernel_rfl) trivial) (lt := t12) (den := e12 k) (by kernel_rfl) (N := (Row × Row)) (A := Int) (R := (Bool ⊕ Unit))
 (fun n x => a12 n.1 n.2 x) (fun n r => Sum.elim (o12_0 n.1 n.2) (o12_1 n.1 n.2) r) (fun n x => s12 k n.1 n.2 x) k (fun d => ((d.r.getD 0 []), (d.r.getD 1 []))) (fun d => (aI (aN d.a 2))) (fun d y h => out2_eval h) (fun d => by kernel_rfl) (fun n x => by kernel_rfl) (fun n r => by rcases r with r | r <;> exact ⟨_, rfl⟩)
theorem ok (k : Nat) : FunOk Try.prog 7 (d k) := fun_mk (C := C k) (hC k) (S := S k) Try.func7 (by kernel_rfl) (by kernel_rfl) (Loops.all (n := 3) (by kernel_rfl) ⟨⟨⟨trivial, l2 k⟩, l7 k⟩, l12 k⟩) (fun as_ => by kernel_rfl)
end law37_heavy
namespace law37_node
noncomputable def C (k : Nat) : Cx := ⟨Try.prog, tab [], [], [], tab []⟩
noncomputable def S (k : Nat) : Subs := fun n => none
noncomputable def f (k : Nat) (a0 : ByteArray) (a1 : ByteArray) : T Row :=
  .ret [.str (bs [78, 111, 100, 101]), .str ByteArray.empty, .str a0, .int .i64 (0), .int .i64 (0), .int .i64 (0), .int .i64 (0), .bool false, .int .i64 (0), .slice 93 [[.str (bs [122, 111, 110, 101]), .str a1]] .open, .slice 149 [] .open, .slice 9 [] .open, .slice 151 [] .open, .int .i64 (0), .int .i64 (0), .int .i64 (0), .int .i64 (0), .bool false, .slice 164 [] .open, .bool false, .int .i64 (0), .bool false, .bool false, .slice 166 [] .open]
noncomputable def d (k : Nat) : Fun := mkFun [9, 9] (fun as_ => f k (vStr (vN as_ 0)) (vStr (vN as_ 1))) default (fun r => .agg (et 61 r))
theorem hC (k : Nat) : CxOk (C k) := CxOk.nil
theorem ok (k : Nat) : FunOk Try.prog 24 (d k) := fun_mk (C := C k) (hC k) (S := S k) Try.func24 (by kernel_rfl) (by kernel_rfl) (Loops.all (n := 0) (by kernel_rfl) trivial) (fun as_ => by kernel_rfl)
end law37_node
namespace law37_member
noncomputable def C (k : Nat) : Cx := ⟨Try.prog, tab [], [], [], tab []⟩
noncomputable def S (k : Nat) : Subs := fun n => none
noncomputable def f (k : Nat) (a0 : ByteArray) (a1 : ByteArray) : T Row :=
  .ret [.str (bs [80, 111, 100]), .str (bs [110, 115]), .str a0, .int .i64 (0), .int .i64 (0), .int .i64 (0), .int .i64 (0), .bool false, .int .i64 (0), .slice 93 [[.str (bs [97, 112, 112]), .str (bs [119, 101, 98])]] .open, .slice 149 [] .open, .slice 9 [] .open, .slice 151 [] .open, .str a1, .int .i64 (0), .int .i64 (0), .int .i64 (0), .slice 154 [] .open, .slice 76 [] .open, .slice 156 [] .open, .slice 158 [] .open, .slice 29 [] .open, .slice 160 [] .open, .int .i64 (1), .bool false, .int .i64 (0), .int .i64 (0), .int .i64 (0), .slice 162 [] .open, .int .i64 (0), .str ByteArray.empty, .str ByteArray.empty]
noncomputable def d (k : Nat) : Fun := mkFun [9, 9] (fun as_ => f k (vStr (vN as_ 0)) (vStr (vN as_ 1))) default (fun r => .agg (et 48 r))
theorem hC (k : Nat) : CxOk (C k) := CxOk.nil
theorem ok (k : Nat) : FunOk Try.prog 16 (d k) := fun_mk (C := C k) (hC k) (S := S k) Try.func16 (by kernel_rfl) (by kernel_rfl) (Loops.all (n := 0) (by kernel_rfl) trivial) (fun as_ => by kernel_rfl)
end law37_member
namespace label_Get
noncomputable def C (k : Nat) : Cx := ⟨Try.prog, tab [], [], [], tab []⟩
noncomputable def t2 : LoopT := ⟨⟨21, [], [(1, .str), (8, .sl 93 none), (9, .int .i64), (10, .int .i64)], [], [], []⟩, (fun | .ret => some ⟨21, [], [(4, .str), (5, .bool)], [], [], []⟩ | .exit 0 => some ⟨21, [], [], [], [], []⟩ | _ => none)⟩
noncomputable def s2 (k : Nat) (c0 : ByteArray) (c1 : Rows) (c2 : Int) (x : Int) : T (Int ⊕ ((ByteArray × Bool) ⊕ Unit)) :=
  .test (iLt x c2)
   (.test (iIn x (rLen c1))
    (.test (sEq (rStr (rAt c1 x) 0) c0)
     (.ret (.inr (.inl ((rStr (rAt c1 x) 1), true))))
     (.ret (.inl (iAdd .i64 x (1)))))
    (.fail))
   (.ret (.inr (.inr ())))
noncomputable def a2 (c0 : ByteArray) (c1 : Rows) (c2 : Int) (x : Int) : Dt := ⟨[.s c0, .r c1, .i c2, .i x], [], [], []⟩
noncomputable def o2_0 (c0 : ByteArray) (c1 : Rows) (c2 : Int) (r : (ByteArray × Bool)) : X × Dt := (.ret, ⟨[.s r.1, .b r.2], [], [], []⟩)
noncomputable def o2_1 (c0 : ByteArray) (c1 : Rows) (c2 : Int) (r : Unit) : X × Dt := (.exit 0, ⟨[], [], [], []⟩)
noncomputable def e2 (k : Nat) (d : Dt) : T (X × Dt) := out2 (iter (s2 k (aS (aN d.a 0)) (aR (aN d.a 1)) (aI (aN d.a 2))) k (aI (aN d.a 3))) (o2_0 (aS (aN d.a 0)) (aR (aN d.a 1)) (aI (aN d.a 2))) (o2_1 (aS (aN d.a 0)) (aR (aN d.a 1)) (aI (aN d.a 2)))
noncomputable def S (k : Nat) : Subs := fun n => bif Nat.beq n 2 then some (loopV Try.prog t2 (e2 k)) else none
noncomputable def f (k : Nat) (a0 : Rows) (a1 : ByteArray) : T (ByteArray × Bool) :=
  .cas (iter (label_Get.s2 k a1 a0 (rLen a0)) k (0)) (fun r0 =>
   .ret (r0.1, r0.2)) (fun r1 =>
   .ret (ByteArray.empty, false))
noncomputable def d (k : Nat) : Fun := mkFun [31, 9] (fun as_ => f k (vRows (vN as_ 0)) (vStr (vN as_ 1))) default (fun r => .tuple [.str r.1, .bool r.2])
theorem hC (k : Nat) : CxOk (C k) := CxOk.nil
theorem l2 (k : Nat) : LoopOk Try.prog (S k) (lp (bodyF (Go.Proofs.Try.f40)) 0) := loopOk_mk (C := C k) (hC k) (Loops.all (n := 0) (by kernel_rfl) trivial) (lt := t2) (den := e2 k) (by kernel_rfl) (N := (ByteArray × Rows × Int)) (A := Int) (R := ((ByteArray × Bool) ⊕ Unit))
 (fun n x => a2 n.1 n.2.1 n.2.2 x) (fun n r => Sum.elim (o2_0 n.1 n.2.1 n.2.2) (o2_1 n.1 n.2.1 n.2.2) r) (fun n x => s2 k n.1 n.2.1 n.2.2 x) k (fun d => ((aS (aN d.a 0)), (aR (aN d.a 1)), (aI (aN d.a 2)))) (fun d => (aI (aN d.a 3))) (fun d y h => out2_eval h) (fun d => by kernel_rfl) (fun n x => by kernel_rfl) (fun n r => by rcases r with r | r <;> exact ⟨_, rfl⟩)
theorem ok (k : Nat) : FunOk Try.prog 40 (d k) := fun_mk (C := C k) (hC k) (S := S k) Try.func40 (by kernel_rfl) (by kernel_rfl) (Loops.all (n := 1) (by kernel_rfl) ⟨trivial, l2 k⟩) (fun as_ => by kernel_rfl)
end label_Get
namespace affinity_Domain
noncomputable def C (k : Nat) : Cx := ⟨Try.prog, tab [(40, label_Get.d k)], [], [], tab []⟩
noncomputable def S (k : Nat) : Subs := fun n => none
noncomputable def f (k : Nat) (a0 : Row) (a1 : ByteArray) : T (ByteArray × Bool) :=
  .bnd (label_Get.f k (rSl a0 9) a1).eval default fun r0 =>
  .ret (r0.1, r0.2)
noncomputable def d (k : Nat) : Fun := mkFun [61, 9] (fun as_ => f k (vRow (vN as_ 0)) (vStr (vN as_ 1))) default (fun r => .tuple [.str r.1, .bool r.2])
theorem hC (k : Nat) : CxOk (C k) := CxOk.cons (p := (40, label_Get.d k)) (label_Get.ok k) (CxOk.nil)
theorem ok (k : Nat) : FunOk Try.prog 25 (d k) := fun_mk (C := C k) (hC k) (S := S k) Try.func25 (by kernel_rfl) (by kernel_rfl) (Loops.all (n := 0) (by kernel_rfl) trivial) (fun as_ => by kernel_rfl)
end affinity_Domain
namespace pod_Active
noncomputable def C (k : Nat) : Cx := ⟨Try.prog, tab [], [], [], tab []⟩
noncomputable def S (k : Nat) : Subs := fun n => none
noncomputable def f (k : Nat) (a0 : Row) : T Bool :=
  .ret (bIte (bIte (iEq (rInt a0 23) (0)) true (iEq (rInt a0 23) (1))) (bNot (rBool a0 7)) false)
noncomputable def d (k : Nat) : Fun := mkFun [48] (fun as_ => f k (vRow (vN as_ 0))) default (fun r => .bool r)
theorem hC (k : Nat) : CxOk (C k) := CxOk.nil
theorem ok (k : Nat) : FunOk Try.prog 26 (d k) := fun_mk (C := C k) (hC k) (S := S k) Try.func26 (by kernel_rfl) (by kernel_rfl) (Loops.all (n := 0) (by kernel_rfl) trivial) (fun as_ => by kernel_rfl)
end pod_Active
namespace slices_Index_string_string
noncomputable def C (k : Nat) : Cx := ⟨Try.prog, tab [], [], [], tab []⟩
noncomputable def t2 : LoopT := ⟨⟨19, [], [(0, .sl 9 none), (1, .str), (7, .int .i64), (8, .int .i64)], [], [], []⟩, (fun | .ret => some ⟨19, [], [(4, .int .i64)], [], [], []⟩ | .exit 0 => some ⟨19, [], [], [], [], []⟩ | _ => none)⟩
noncomputable def s2 (k : Nat) (c0 : Rows) (c1 : ByteArray) (c2 : Int) (x : Int) : T (Int ⊕ (Int ⊕ Unit)) :=
  .test (iLt x c2)
   (.test (iIn x (rLen c0))
    (.test (sEq c1 (rStr (rAt c0 x) 0))
     (.ret (.inr (.inl x)))
     (.ret (.inl (iAdd .i64 x (1)))))
    (.fail))
   (.ret (.inr (.inr ())))
noncomputable def a2 (c0 : Rows) (c1 : ByteArray) (c2 : Int) (x : Int) : Dt := ⟨[.r c0, .s c1, .i c2, .i x], [], [], []⟩
noncomputable def o2_0 (c0 : Rows) (c1 : ByteArray) (c2 : Int) (r : Int) : X × Dt := (.ret, ⟨[.i r], [], [], []⟩)
noncomputable def o2_1 (c0 : Rows) (c1 : ByteArray) (c2 : Int) (r : Unit) : X × Dt := (.exit 0, ⟨[], [], [], []⟩)
noncomputable def e2 (k : Nat) (d : Dt) : T (X × Dt) := out2 (iter (s2 k (aR (aN d.a 0)) (aS (aN d.a 1)) (aI (aN d.a 2))) k (aI (aN d.a 3))) (o2_0 (aR (aN d.a 0)) (aS (aN d.a 1)) (aI (aN d.a 2))) (o2_1 (aR (aN d.a 0)) (aS (aN d.a 1)) (aI (aN d.a 2)))
noncomputable def S (k : Nat) : Subs := fun n => bif Nat.beq n 2 then some (loopV Try.prog t2 (e2 k)) else none
noncomputable def f (k : Nat) (a0 : Rows) (a1 : ByteArray) : T Int :=
  .cas (iter (slices_Index_string_string.s2 k a0 a1 (rLen a0)) k (0)) (fun r0 =>
   .ret r0) (fun r1 =>
   .ret (-1))
noncomputable def d (k : Nat) : Fun := mkFun [33, 9] (fun as_ => f k (vRows (vN as_ 0)) (vStr (vN as_ 1))) default (fun r => .int .i64 r)
theorem hC (k : Nat) : CxOk (C k) := CxOk.nil
theorem l2 (k : Nat) : LoopOk Try.prog (S k) (lp (bodyF (Go.Proofs.Try.f68)) 0) := loopOk_mk (C := C k) (hC k) (Loops.all (n := 0) (by kernel_rfl) trivial) (lt := t2) (den := e2 k) (by kernel_rfl) (N := (Rows × ByteArray × Int)) (A := Int) (R := (Int ⊕ Unit))
 (fun n x => a2 n.1 n.2.1 n.2.2 x) (fun n r => Sum.elim (o2_0 n.1 n.2.1 n.2.2) (o2_1 n.1 n.2.1 n.2.2) r) (fun n x => s2 k n.1 n.2.1 n.2.2 x) k (fun d => ((aR (aN d.a 0)), (aS (aN d.a 1)), (aI (aN d.a 2)))) (fun d => (aI (aN d.a 3))) (fun d y h => out2_eval h) (fun d => by kernel_rfl) (fun n x => by kernel_rfl) (fun n r => by rcases r with r | r <;> exact ⟨_, rfl⟩)
theorem ok (k : Nat) : FunOk Try.prog 68 (d k) := fun_mk (C := C k) (hC k) (S := S k) Try.func68 (by kernel_rfl) (by kernel_rfl) (Loops.all (n := 1) (by kernel_rfl) ⟨trivial, l2 k⟩) (fun as_ => by kernel_rfl)
end slices_Index_string_string
namespace slices_Contains_string_string
noncomputable def C (k : Nat) : Cx := ⟨Try.prog, tab [(68, slices_Index_string_string.d k)], [], [], tab []⟩
noncomputable def S (k : Nat) : Subs := fun n => none
noncomputable def f (k : Nat) (a0 : Rows) (a1 : ByteArray) : T Bool :=
  .bnd (slices_Index_string_string.f k a0 a1).eval default fun r0 =>
  .ret (iLe (0) r0)
noncomputable def d (k : Nat) : Fun := mkFun [33, 9] (fun as_ => f k (vRows (vN as_ 0)) (vStr (vN as_ 1))) default (fun r => .bool r)
theorem hC (k : Nat) : CxOk (C k) := CxOk.cons (p := (68, slices_Index_string_string.d k)) (slices_Index_string_string.ok k) (CxOk.nil)
theorem ok (k : Nat) : FunOk Try.prog 54 (d k) := fun_mk (C := C k) (hC k) (S := S k) Try.func54 (by kernel_rfl) (by kernel_rfl) (Loops.all (n := 0) (by kernel_rfl) trivial) (fun as_ => by kernel_rfl)
end slices_Contains_string_string
namespace label_holds
noncomputable def C (k : Nat) : Cx := ⟨Try.prog, tab [(40, label_Get.d k), (54, slices_Contains_string_string.d k)], [], [], tab []⟩
noncomputable def S (k : Nat) : Subs := fun n => none
noncomputable def f (k : Nat) (a0 : Row) (a1 : Rows) : T Bool :=
  .bnd (label_Get.f k a1 (rStr a0 0)).eval default fun r0 =>
  .test (iEq (rInt a0 1) (1))
   (.opt r0.2 (slices_Contains_string_string.f k (rSl a0 2) r0.1).eval default fun r1 =>
   .ret (bIte r0.2 r1 false))
   (.test (iEq (rInt a0 1) (2))
    (.opt (bNot (bNot r0.2)) (slices_Contains_string_string.f k (rSl a0 2) r0.1).eval default fun r2 =>
    .ret (bIte (bNot r0.2) true (bNot r2)))
    (.test (iEq (rInt a0 1) (3))
     (.ret r0.2)
     (.test (iEq (rInt a0 1) (4))
      (.ret (bNot r0.2))
      (.ret false))))
noncomputable def d (k : Nat) : Fun := mkFun [76, 31] (fun as_ => f k (vRow (vN as_ 0)) (vRows (vN as_ 1))) default (fun r => .bool r)
theorem hC (k : Nat) : CxOk (C k) := CxOk.cons (p := (40, label_Get.d k)) (label_Get.ok k) (CxOk.cons (p := (54, slices_Contains_string_string.d k)) (slices_Contains_string_string.ok k) (CxOk.nil))
theorem ok (k : Nat) : FunOk Try.prog 41 (d k) := fun_mk (C := C k) (hC k) (S := S k) Try.func41 (by kernel_rfl) (by kernel_rfl) (Loops.all (n := 0) (by kernel_rfl) trivial) (fun as_ => by kernel_rfl)
end label_holds
namespace label_Matches
noncomputable def C (k : Nat) : Cx := ⟨Try.prog, tab [(41, label_holds.d k)], [], [], tab []⟩
noncomputable def t2 : LoopT := ⟨⟨18, [], [(1, .sl 93 none), (7, .sl 76 none), (8, .int .i64), (9, .int .i64)], [], [], []⟩, (fun | .ret => some ⟨18, [], [(4, .bool)], [], [], []⟩ | .exit 0 => some ⟨18, [], [], [], [], []⟩ | _ => none)⟩
noncomputable def s2 (k : Nat) (c0 : Rows) (c1 : Rows) (c2 : Int) (x : Int) : T (Int ⊕ (Bool ⊕ Unit)) :=
  .test (iLt x c2)
   (.test (iIn x (rLen c1))
    (.bnd (label_holds.f k (et 76 (rAt c1 x)) c0).eval default fun r0 =>
    .test (bNot r0)
     (.ret (.inr (.inl false)))
     (.ret (.inl (iAdd .i64 x (1)))))
    (.fail))
   (.ret (.inr (.inr ())))
noncomputable def a2 (c0 : Rows) (c1 : Rows) (c2 : Int) (x : Int) : Dt := ⟨[.r c0, .r c1, .i c2, .i x], [], [], []⟩
noncomputable def o2_0 (c0 : Rows) (c1 : Rows) (c2 : Int) (r : Bool) : X × Dt := (.ret, ⟨[.b r], [], [], []⟩)
noncomputable def o2_1 (c0 : Rows) (c1 : Rows) (c2 : Int) (r : Unit) : X × Dt := (.exit 0, ⟨[], [], [], []⟩)
noncomputable def e2 (k : Nat) (d : Dt) : T (X × Dt) := out2 (iter (s2 k (aR (aN d.a 0)) (aR (aN d.a 1)) (aI (aN d.a 2))) k (aI (aN d.a 3))) (o2_0 (aR (aN d.a 0)) (aR (aN d.a 1)) (aI (aN d.a 2))) (o2_1 (aR (aN d.a 0)) (aR (aN d.a 1)) (aI (aN d.a 2)))
noncomputable def S (k : Nat) : Subs := fun n => bif Nat.beq n 2 then some (loopV Try.prog t2 (e2 k)) else none
noncomputable def f (k : Nat) (a0 : Rows) (a1 : Rows) : T Bool :=
  .cas (iter (label_Matches.s2 k a1 a0 (rLen a0)) k (0)) (fun r0 =>
   .ret r0) (fun r1 =>
   .ret true)
noncomputable def d (k : Nat) : Fun := mkFun [27, 31] (fun as_ => f k (vRows (vN as_ 0)) (vRows (vN as_ 1))) default (fun r => .bool r)
theorem hC (k : Nat) : CxOk (C k) := CxOk.cons (p := (41, label_holds.d k)) (label_holds.ok k) (CxOk.nil)
theorem l2 (k : Nat) : LoopOk Try.prog (S k) (lp (bodyF (Go.Proofs.Try.f27)) 0) := loopOk_mk (C := C k) (hC k) (Loops.all (n := 0) (by kernel_rfl) trivial) (lt := t2) (den := e2 k) (by kernel_rfl) (N := (Rows × Rows × Int)) (A := Int) (R := (Bool ⊕ Unit))
 (fun n x => a2 n.1 n.2.1 n.2.2 x) (fun n r => Sum.elim (o2_0 n.1 n.2.1 n.2.2) (o2_1 n.1 n.2.1 n.2.2) r) (fun n x => s2 k n.1 n.2.1 n.2.2 x) k (fun d => ((aR (aN d.a 0)), (aR (aN d.a 1)), (aI (aN d.a 2)))) (fun d => (aI (aN d.a 3))) (fun d y h => out2_eval h) (fun d => by kernel_rfl) (fun n x => by kernel_rfl) (fun n r => by rcases r with r | r <;> exact ⟨_, rfl⟩)
theorem ok (k : Nat) : FunOk Try.prog 27 (d k) := fun_mk (C := C k) (hC k) (S := S k) Try.func27 (by kernel_rfl) (by kernel_rfl) (Loops.all (n := 1) (by kernel_rfl) ⟨trivial, l2 k⟩) (fun as_ => by kernel_rfl)
end label_Matches
namespace strings_Compare
noncomputable def f (k : Nat) (a0 a1 : ByteArray) : T Int :=
  .ret (sCmp a0 a1)
noncomputable def d (k : Nat) : Fun := mkFun [9, 9] (fun as_ => f k (vStr (vN as_ 0)) (vStr (vN as_ 1))) default (fun r => .int .i64 r)
theorem ok (k : Nat) : FunOk Try.prog 30 (d k) := compare_ok lay_cmp ⟨_, Try.func30, by kernel_rfl, by kernel_rfl⟩
end strings_Compare
namespace spread_Counts_1
noncomputable def C (k : Nat) : Cx := ⟨Try.prog, tab [(30, strings_Compare.d k)], [], [], tab []⟩
noncomputable def S (k : Nat) : Subs := fun n => none
noncomputable def f (k : Nat) (a0 : Row) (a1 : Row) : T Int :=
  .bnd (strings_Compare.f k (rStr a0 0) (rStr a1 0)).eval default fun r0 =>
  .ret r0
noncomputable def d (k : Nat) : Fun := mkFun [54, 54] (fun as_ => f k (vRow (vN as_ 0)) (vRow (vN as_ 1))) default (fun r => .int .i64 r)
theorem hC (k : Nat) : CxOk (C k) := CxOk.cons (p := (30, strings_Compare.d k)) (strings_Compare.ok k) (CxOk.nil)
theorem ok (k : Nat) : FunOk Try.prog 29 (d k) := fun_mk (C := C k) (hC k) (S := S k) Try.func29 (by kernel_rfl) (by kernel_rfl) (Loops.all (n := 0) (by kernel_rfl) trivial) (fun as_ => by kernel_rfl)
end spread_Counts_1
namespace spread_Counts
noncomputable def C (k : Nat) : Cx := ⟨Try.prog, tab [(25, affinity_Domain.d k), (26, pod_Active.d k), (27, label_Matches.d k)], [], [], tab []⟩
noncomputable def t5 : LoopT := ⟨⟨118, [], [(1, .str), (3, .ptr 3 0), (5, .ptr 5 0), (7, .mref 21), (8, .mref 22), (9, .mref 23), (25, .sl 61 none), (26, .int .i64), (27, .int .i64)], [], [(3, 26), (5, 29)], [(21, 1000078), (22, 1000079), (23, 1000080)]⟩, (fun | .exit 0 => some ⟨118, [], [(1, .str), (3, .ptr 3 0), (5, .ptr 5 0), (7, .mref 21), (9, .mref 23)], [], [(3, 26), (5, 29)], [(21, 1000078), (23, 1000080)]⟩ | _ => none)⟩
noncomputable def s5 (k : Nat) (c0 : ByteArray) (c1 : Rows) (c2 : Int) (c3 : Row) (c4 : Row) (x : (Int × Rows × Rows × Rows)) : T ((Int × Rows × Rows × Rows) ⊕ (Rows × Rows)) :=
  .test (iLt x.1 c2)
   (.test (iIn x.1 (rLen c1))
    (.bnd (affinity_Domain.f k (et 61 (rAt c1 x.1)) (rStr c4 1)).eval default fun r0 =>
    .test r0.2
     (.test (bIte r0.2 (bNot (rBool (mGet x.2.2.1 (rStr (rAt c1 x.1) 2) [.bool false]) 0)) false)
      (.ret (.inl ((iAdd .i64 x.1 (1)), (mSet x.2.1 (rStr (rAt c1 x.1) 2) [.str r0.1]), (mSet x.2.2.1 (rStr (rAt c1 x.1) 2) [.bool true]), (mSet x.2.2.2 r0.1 [.int .i64 (iAdd .i64 (rInt (mGet x.2.2.2 r0.1 [.int .i64 (0)]) 0) (0))]))))
      (.ret (.inl ((iAdd .i64 x.1 (1)), x.2.1, (mSet x.2.2.1 (rStr (rAt c1 x.1) 2) [.bool true]), (mSet x.2.2.2 r0.1 [.int .i64 (iAdd .i64 (rInt (mGet x.2.2.2 r0.1 [.int .i64 (0)]) 0) (0))])))))
     (.test (bIte r0.2 (bNot (rBool (mGet x.2.2.1 (rStr (rAt c1 x.1) 2) [.bool false]) 0)) false)
      (.ret (.inl ((iAdd .i64 x.1 (1)), (mSet x.2.1 (rStr (rAt c1 x.1) 2) [.str r0.1]), (mSet x.2.2.1 (rStr (rAt c1 x.1) 2) [.bool true]), x.2.2.2)))
      (.ret (.inl ((iAdd .i64 x.1 (1)), x.2.1, (mSet x.2.2.1 (rStr (rAt c1 x.1) 2) [.bool true]), x.2.2.2)))))
    (.fail))
   (.ret (.inr (x.2.1, x.2.2.2)))
noncomputable def a5 (c0 : ByteArray) (c1 : Rows) (c2 : Int) (c3 : Row) (c4 : Row) (x : (Int × Rows × Rows × Rows)) : Dt := ⟨[.s c0, .u, .u, .u, .u, .u, .r c1, .i c2, .i x.1], [], [et 26 c3, et 29 c4], [x.2.1, x.2.2.1, x.2.2.2]⟩
noncomputable def o5_0 (c0 : ByteArray) (c1 : Rows) (c2 : Int) (c3 : Row) (c4 : Row) (r : (Rows × Rows)) : X × Dt := (.exit 0, ⟨[.s c0, .u, .u, .u, .u], [], [(et 26 c3), (et 29 c4)], [r.1, r.2]⟩)
noncomputable def e5 (k : Nat) (d : Dt) : T (X × Dt) := out1 (iter (s5 k (aS (aN d.a 0)) (aR (aN d.a 6)) (aI (aN d.a 7)) (d.r.getD 0 []) (d.r.getD 1 [])) k ((aI (aN d.a 8)), (d.m.getD 0 []), (d.m.getD 1 []), (d.m.getD 2 []))) default (o5_0 (aS (aN d.a 0)) (aR (aN d.a 6)) (aI (aN d.a 7)) (d.r.getD 0 []) (d.r.getD 1 []))
noncomputable def t15 : LoopT := ⟨⟨118, [], [(1, .str), (5, .ptr 5 0), (7, .mref 21), (9, .mref 23), (63, .sl 48 none), (64, .int .i64), (65, .int .i64)], [], [(5, 29)], [(21, 1000078), (23, 1000080)]⟩, (fun | .exit 2 => some ⟨118, [], [(9, .mref 23)], [], [], [(23, 1000080)]⟩ | _ => none)⟩
noncomputable def s15 (k : Nat) (c0 : ByteArray) (c1 : Rows) (c2 : Int) (c3 : Row) (c4 : Rows) (x : (Int × Rows)) : T ((Int × Rows) ⊕ Rows) :=
  .test (iLt x.1 c2)
   (.test (iIn x.1 (rLen c1))
    (.opt (mHas c4 (rStr (rAt c1 x.1) 13)) (pod_Active.f k (et 48 (rAt c1 x.1))).eval default fun r0 =>
    .opt (bIte (bIte (mHas c4 (rStr (rAt c1 x.1) 13)) r0 false) (sEq (rStr (rAt c1 x.1) 1) c0) false) (label_Matches.f k (rSl c3 2) (rSl (rAt c1 x.1) 9)).eval default fun r1 =>
    .test (bIte (bIte (bIte (mHas c4 (rStr (rAt c1 x.1) 13)) r0 false) (sEq (rStr (rAt c1 x.1) 1) c0) false) r1 false)
     (.ret (.inl ((iAdd .i64 x.1 (1)), (mSet x.2 (rStr (mGet c4 (rStr (rAt c1 x.1) 13) [.str ByteArray.empty]) 0) [.int .i64 (iAdd .i64 (rInt (mGet x.2 (rStr (mGet c4 (rStr (rAt c1 x.1) 13) [.str ByteArray.empty]) 0) [.int .i64 (0)]) 0) (1))]))))
     (.ret (.inl ((iAdd .i64 x.1 (1)), x.2))))
    (.fail))
   (.ret (.inr x.2))
noncomputable def a15 (c0 : ByteArray) (c1 : Rows) (c2 : Int) (c3 : Row) (c4 : Rows) (x : (Int × Rows)) : Dt := ⟨[.s c0, .u, .u, .u, .r c1, .i c2, .i x.1], [], [et 29 c3], [c4, x.2]⟩
noncomputable def o15_0 (c0 : ByteArray) (c1 : Rows) (c2 : Int) (c3 : Row) (c4 : Rows) (r : Rows) : X × Dt := (.exit 2, ⟨[.u], [], [], [r]⟩)
noncomputable def e15 (k : Nat) (d : Dt) : T (X × Dt) := out1 (iter (s15 k (aS (aN d.a 0)) (aR (aN d.a 4)) (aI (aN d.a 5)) (d.r.getD 0 []) (d.m.getD 0 [])) k ((aI (aN d.a 6)), (d.m.getD 1 []))) default (o15_0 (aS (aN d.a 0)) (aR (aN d.a 4)) (aI (aN d.a 5)) (d.r.getD 0 []) (d.m.getD 0 []))
noncomputable def S (k : Nat) : Subs := fun n => bif Nat.beq n 5 then some (loopV Try.prog t5 (e5 k)) else bif Nat.beq n 15 then some (loopV Try.prog t15 (e15 k)) else none
noncomputable def g (k : Nat) (a0 : Row) (a1 : ByteArray) (a2 : Row) : T Rows :=
  .bnd (iter (spread_Counts.s5 k a1 (rSl a0 0) (rLen (rSl a0 0)) (et 26 a0) (et 29 a2)) k ((0), ([], ([], [])))) default fun r0 =>
  .bnd (iter (spread_Counts.s15 k a1 (rSl a0 1) (rLen (rSl a0 1)) (et 29 a2) r0.1) k ((0), r0.2)) default fun r1 =>
  .ret (r1)
noncomputable def gq (k : Nat) (as_ : List V) : T Rows := g k (vRow (vN as_ 0)) (vStr (vN as_ 1)) (vRow (vN as_ 2))
theorem hC (k : Nat) : CxOk (C k) := CxOk.cons (p := (25, affinity_Domain.d k)) (affinity_Domain.ok k) (CxOk.cons (p := (26, pod_Active.d k)) (pod_Active.ok k) (CxOk.cons (p := (27, label_Matches.d k)) (label_Matches.ok k) (CxOk.nil)))
theorem l5 (k : Nat) : LoopOk Try.prog (S k) (lp (bodyF (Go.Proofs.Ytohhdiifohhghaa.Ev.cutF 6 Go.Proofs.Try.f10)) 0) := loopOk_mk (C := C k) (hC k) (Loops.all (n := 0) (by kernel_rfl) trivial) (lt := t5) (den := e5 k) (by kernel_rfl) (N := (ByteArray × Rows × Int × Row × Row)) (A := (Int × Rows × Rows × Rows)) (R := (Rows × Rows))
 (fun n x => a5 n.1 n.2.1 n.2.2.1 n.2.2.2.1 n.2.2.2.2 x) (fun n r => o5_0 n.1 n.2.1 n.2.2.1 n.2.2.2.1 n.2.2.2.2 r) (fun n x => s5 k n.1 n.2.1 n.2.2.1 n.2.2.2.1 n.2.2.2.2 x) k (fun d => ((aS (aN d.a 0)), (aR (aN d.a 6)), (aI (aN d.a 7)), (d.r.getD 0 []), (d.r.getD 1 []))) (fun d => ((aI (aN d.a 8)), (d.m.getD 0 []), (d.m.getD 1 []), (d.m.getD 2 []))) (fun d y h => out1_eval h) (fun d => by kernel_rfl) (fun n x => by kernel_rfl) (fun n r => ⟨_, rfl⟩)
theorem l15 (k : Nat) : LoopOk Try.prog (S k) (lp (bodyF (Go.Proofs.Ytohhdiifohhghaa.Ev.cutF 6 Go.Proofs.Try.f10)) 1) := loopOk_mk (C := C k) (hC k) (Loops.all (n := 0) (by kernel_rfl) trivial) (lt := t15) (den := e15 k) (by kernel_rfl) (N := (ByteArray × Rows × Int × Row × Rows)) (A := (Int × Rows)) (R := Rows)
 (fun n x => a15 n.1 n.2.1 n.2.2.1 n.2.2.2.1 n.2.2.2.2 x) (fun n r => o15_0 n.1 n.2.1 n.2.2.1 n.2.2.2.1 n.2.2.2.2 r) (fun n x => s15 k n.1 n.2.1 n.2.2.1 n.2.2.2.1 n.2.2.2.2 x) k (fun d => ((aS (aN d.a 0)), (aR (aN d.a 4)), (aI (aN d.a 5)), (d.r.getD 0 []), (d.m.getD 0 []))) (fun d => ((aI (aN d.a 6)), (d.m.getD 1 []))) (fun d y h => out1_eval h) (fun d => by kernel_rfl) (fun n x => by kernel_rfl) (fun n r => ⟨_, rfl⟩)
theorem loops (k : Nat) : Loops (LoopOk Try.prog (S k)) (bodyF (Go.Proofs.Ytohhdiifohhghaa.Ev.cutF 6 Go.Proofs.Try.f10)) := Loops.all (n := 2) (by kernel_rfl) ⟨⟨trivial, l5 k⟩, l15 k⟩
theorem run (k : Nat) (as_ : List V) : funQV (C k) (S k) (Go.Proofs.Ytohhdiifohhghaa.Ev.cutF 6 Go.Proofs.Try.f10) 9 (canonAs Try.prog [26, 9, 29] 0 as_) = gq k as_ := by kernel_rfl
noncomputable def f (k : Nat) (a0 : Row) (a1 : ByteArray) (a2 : Row) : T Rows :=
  .bnd (spread_Counts.g k a0 a1 a2).eval default fun r0 =>
  .test (bAnd (rOk 24 0 (rLen r0)) (mOk r0))
   (.ret (sortC r0))
   (.fail)
noncomputable def d (k : Nat) : Fun := mkFun [26, 9, 29] (fun as_ => f k (vRow (vN as_ 0)) (vStr (vN as_ 1)) (vRow (vN as_ 2))) default (fun r => .slice 54 r .open)
theorem tail (k : Nat) : CntOk (C k) (S k) Try.f10 [26, 9, 29] (gq k) 80 54 24 28 29 where
  ntmps := by kernel_rfl
  loops := loops k
  pre := fun l => by kernel_rfl
  code := by kernel_rfl
  op1 := ⟨by kernel_rfl, by kernel_rfl, by kernel_rfl⟩
  op2 := ⟨by kernel_rfl, by kernel_rfl, by kernel_rfl⟩
  op3 := ⟨by kernel_rfl, by kernel_rfl, by kernel_rfl⟩
  op4 := ⟨by kernel_rfl, by kernel_rfl, by kernel_rfl⟩
  ini := fun r => by kernel_rfl
  lp1 := fun r seen => by kernel_rfl
  lp2 := fun r seen out => by kernel_rfl
  fin1 := fun r seen => by kernel_rfl
  fin2 := fun r seen out => by kernel_rfl
  noLoop := ⟨trivial, trivial, ⟨trivial, trivial⟩, trivial⟩
theorem clo (x y : ByteArray × Int) (W : World) : Calls Try.prog 29 #[.agg #[.string x.1, .int .i64 x.2], .agg #[.string y.1, .int .i64 y.2]] W fun e w' => e = .returned (.int .i64 (Lib.compareBytes x.1.data.toList y.1.data.toList)) ∧ ∃ q os', w' = Go.Sort.grow (W.drewN q) os' := by
  have hcon := fun W' => Any.strings_Compare lay_cmp x.1 y.1 W'
  change ∀ W', Calls Try.prog 30 _ _ _ at hcon
  generalize Lib.compareBytes x.1.data.toList y.1.data.toList = r at hcon ⊢
  go_enter Try.func29, Try.ntmps29
  go_wp2_with (go_at_call 30; refine (hcon _).mono ?_; rintro e w' ⟨rfl, rfl⟩)
  go_ret
  exact ⟨rfl, 0, _, by rw [Go.Sort.alloc_eq_grow, Go.Sort.alloc_eq_grow, Go.Sort.grow_grow]; rfl⟩
theorem ok (k : Nat) : FunOk Try.prog 10 (d k) :=
  have h := sort_con lay_sort (fun w => by kernel_rfl) (fun w => by kernel_rfl) (enters_of Try.func29 (by kernel_rfl) rfl) clo
  counts_ok (hC k) (tail k) Try.func10 (by kernel_rfl) (by kernel_rfl) ⟨by kernel_rfl, fun r => by kernel_rfl⟩ (by kernel_rfl : mapE Try.prog 80 = some 3) (fun cs => by kernel_rfl) (by decide) ⟨_, Try.func28, by kernel_rfl, by kernel_rfl⟩ h.1 h.2
end spread_Counts
namespace meta_Key
noncomputable def C (k : Nat) : Cx := ⟨Try.prog, tab [], [], [], tab []⟩
noncomputable def S (k : Nat) : Subs := fun n => none
noncomputable def f (k : Nat) (a0 : ByteArray) (a1 : ByteArray) (a2 : ByteArray) : T ByteArray :=
  .test (sOk (sLen a0) (sLen (bs [47])))
   (.test (sOk (sLen (sCat a0 (bs [47]))) (sLen a1))
    (.test (sOk (sLen (sCat (sCat a0 (bs [47])) a1)) (sLen (bs [47])))
     (.test (sOk (sLen (sCat (sCat (sCat a0 (bs [47])) a1) (bs [47]))) (sLen a2))
      (.ret (sCat (sCat (sCat (sCat a0 (bs [47])) a1) (bs [47])) a2))
      (.fail))
     (.fail))
    (.fail))
   (.fail)
noncomputable def d (k : Nat) : Fun := mkFun [9, 9, 9] (fun as_ => f k (vStr (vN as_ 0)) (vStr (vN as_ 1)) (vStr (vN as_ 2))) default (fun r => .str r)
theorem hC (k : Nat) : CxOk (C k) := CxOk.nil
theorem ok (k : Nat) : FunOk Try.prog 66 (d k) := fun_mk (C := C k) (hC k) (S := S k) Try.func66 (by kernel_rfl) (by kernel_rfl) (Loops.all (n := 0) (by kernel_rfl) trivial) (fun as_ => by kernel_rfl)
end meta_Key
namespace meta_KeyOf
noncomputable def C (k : Nat) : Cx := ⟨Try.prog, tab [(66, meta_Key.d k)], [], [], tab []⟩
noncomputable def S (k : Nat) : Subs := fun n => none
noncomputable def f (k : Nat) (a0 : Row) : T ByteArray :=
  .bnd (meta_Key.f k (rStr a0 0) (rStr a0 1) (rStr a0 2)).eval default fun r0 =>
  .ret r0
noncomputable def d (k : Nat) : Fun := mkFun [36] (fun as_ => f k (vRow (vN as_ 0))) default (fun r => .str r)
theorem hC (k : Nat) : CxOk (C k) := CxOk.cons (p := (66, meta_Key.d k)) (meta_Key.ok k) (CxOk.nil)
theorem ok (k : Nat) : FunOk Try.prog 46 (d k) := fun_mk (C := C k) (hC k) (S := S k) Try.func46 (by kernel_rfl) (by kernel_rfl) (Loops.all (n := 0) (by kernel_rfl) trivial) (fun as_ => by kernel_rfl)
end meta_KeyOf
namespace slices_Clone_api_Pod_api_Pod
noncomputable def C (k : Nat) : Cx := ⟨Try.prog, tab [], [7], [], tab []⟩
noncomputable def f (k : Nat) (a0 : Rows) : T Rows :=
  .test (rOk 480 (0) (rLen a0))
   (.ret a0)
   (.fail)
noncomputable def d (k : Nat) : Fun := mkFun [23] (fun as_ => f k (vRows (vN as_ 0))) default (fun r => .slice 48 r .open)
noncomputable def fm (k : Nat) (a0 : Rows) : T (Rows × Int) :=
  .test (rOk 480 (0) (rLen a0))
   (.ret (a0, (rLen a0)))
   (.fail)
noncomputable def dm (k : Nat) : FunM := mkFunM 48 false [23] (fun _ as_ => fm k (vRows (vN as_ 0)))
theorem okM (k : Nat) : FunOkM Try.prog 48 (dm k) := clone_okM (C := C k) CxOk.nil (S := fun n => none) Try.func48 (by kernel_rfl) (by kernel_rfl) (Loops.all (n := 0) (by kernel_rfl) trivial) (t := 23) (el := 48) (by_ := 480) (by kernel_rfl) (fun es b => by kernel_rfl)
theorem ok (k : Nat) : FunOk Try.prog 48 (d k) := clone_ok (okM k)
end slices_Clone_api_Pod_api_Pod
namespace spread_look_1
noncomputable def C (k : Nat) : Cx := ⟨Try.prog, tab [(46, meta_KeyOf.d k)], [], [], tab []⟩
noncomputable def S (k : Nat) : Subs := fun n => none
noncomputable def f (k : Nat) (a0 : Row) (a1 : Row) : T Bool :=
  .bnd (meta_KeyOf.f k (et 36 a0)).eval default fun r0 =>
  .ret (sEq r0 (rStr a1 0))
noncomputable def d (k : Nat) : Fun := mkFun [48, .p 9] (fun as_ => f k (vRow (vN as_ 0)) (vPtr (vN as_ 1))) default (fun r => .bool r)
theorem hC (k : Nat) : CxOk (C k) := CxOk.cons (p := (46, meta_KeyOf.d k)) (meta_KeyOf.ok k) (CxOk.nil)
theorem ok (k : Nat) : FunOk Try.prog 49 (d k) := fun_mk (C := C k) (hC k) (S := S k) Try.func49 (by kernel_rfl) (by kernel_rfl) (Loops.all (n := 0) (by kernel_rfl) trivial) (fun as_ => by kernel_rfl)
end spread_look_1
namespace slices_IndexFunc_api_Pod_api_Pod_c49
noncomputable def C (k : Nat) : Cx := ⟨Try.prog, tab [(49, spread_look_1.d k)], [], [], tab []⟩
noncomputable def t2 : LoopT := ⟨⟨19, [], [(0, .sl 48 none), (1, .fn 49 [9]), (7, .int .i64), (8, .int .i64)], [], [], []⟩, (fun | .ret => some ⟨19, [], [(4, .int .i64)], [], [], []⟩ | .exit 0 => some ⟨19, [], [], [], [], []⟩ | _ => none)⟩
noncomputable def s2 (k : Nat) (c0 : Rows) (c1 : Int) (x : (Row × Int)) : T ((Row × Int) ⊕ (Int ⊕ Unit)) :=
  .test (iLt x.2 c1)
   (.test (iIn x.2 (rLen c0))
    (.bnd (spread_look_1.f k (et 48 (rAt c0 x.2)) [.str (rStr x.1 0)]).eval default fun r0 =>
    .test r0
     (.ret (.inr (.inl x.2)))
     (.ret (.inl ([.str (rStr x.1 0)], (iAdd .i64 x.2 (1))))))
    (.fail))
   (.ret (.inr (.inr ())))
noncomputable def a2 (c0 : Rows) (c1 : Int) (x : (Row × Int)) : Dt := ⟨[.r c0, .c [(et 9 x.1)], .i c1, .i x.2], [], [], []⟩
noncomputable def o2_0 (c0 : Rows) (c1 : Int) (r : Int) : X × Dt := (.ret, ⟨[.i r], [], [], []⟩)
noncomputable def o2_1 (c0 : Rows) (c1 : Int) (r : Unit) : X × Dt := (.exit 0, ⟨[], [], [], []⟩)
noncomputable def e2 (k : Nat) (d : Dt) : T (X × Dt) := out2 (iter (s2 k (aR (aN d.a 0)) (aI (aN d.a 2))) k (((aC (aN d.a 1)).getD 0 []), (aI (aN d.a 3)))) (o2_0 (aR (aN d.a 0)) (aI (aN d.a 2))) (o2_1 (aR (aN d.a 0)) (aI (aN d.a 2)))
noncomputable def S (k : Nat) : Subs := fun n => bif Nat.beq n 2 then some (loopV Try.prog t2 (e2 k)) else none
noncomputable def f (k : Nat) (a0 : Rows) (a1 : Row) : T Int :=
  .cas (iter (slices_IndexFunc_api_Pod_api_Pod_c49.s2 k a0 (rLen a0)) k ([.str (rStr a1 0)], (0))) (fun r0 =>
   .ret r0) (fun r1 =>
   .ret (-1))
noncomputable def d (k : Nat) : Fun := mkFun [23, .fn 49 [9]] (fun as_ => f k (vRows (vN as_ 0)) (vPtr (vN (vCaps (vN as_ 1)) 0))) default (fun r => .int .i64 r)
theorem hC (k : Nat) : CxOk (C k) := CxOk.cons (p := (49, spread_look_1.d k)) (spread_look_1.ok k) (CxOk.nil)
theorem l2 (k : Nat) : LoopOk Try.prog (S k) (lp (bodyF (Go.Proofs.Try.f67)) 0) := loopOk_mk (C := C k) (hC k) (Loops.all (n := 0) (by kernel_rfl) trivial) (lt := t2) (den := e2 k) (by kernel_rfl) (N := (Rows × Int)) (A := (Row × Int)) (R := (Int ⊕ Unit))
 (fun n x => a2 n.1 n.2 x) (fun n r => Sum.elim (o2_0 n.1 n.2) (o2_1 n.1 n.2) r) (fun n x => s2 k n.1 n.2 x) k (fun d => ((aR (aN d.a 0)), (aI (aN d.a 2)))) (fun d => (((aC (aN d.a 1)).getD 0 []), (aI (aN d.a 3)))) (fun d y h => out2_eval h) (fun d => by kernel_rfl) (fun n x => by kernel_rfl) (fun n r => by rcases r with r | r <;> exact ⟨_, rfl⟩)
theorem ok (k : Nat) : FunOk Try.prog 67 (d k) := fun_mk (C := C k) (hC k) (S := S k) Try.func67 (by kernel_rfl) (by kernel_rfl) (Loops.all (n := 1) (by kernel_rfl) ⟨trivial, l2 k⟩) (fun as_ => by kernel_rfl)
end slices_IndexFunc_api_Pod_api_Pod_c49
namespace slices_DeleteFunc_api_Pod_api_Pod_c49
noncomputable def C (k : Nat) : Cx := ⟨Try.prog, tab [(50000067, slices_IndexFunc_api_Pod_api_Pod_c49.d k), (49, spread_look_1.d k)], [], [], tab []⟩
noncomputable def t5 : LoopT := ⟨⟨42, [], [(0, .aref 48 0), (1, .fn 49 [9]), (5, .int .i64), (6, .int .i64)], [], [], [(0, 48)]⟩, (fun | .exit 0 => some ⟨42, [], [(0, .aref 48 0), (5, .int .i64)], [], [], [(0, 48)]⟩ | _ => none)⟩
noncomputable def s5 (k : Nat) (c0 : Int) (x : (Row × Int × Int × Rows)) : T ((Row × Int × Int × Rows) ⊕ (Int × Rows)) :=
  .test (iLt x.2.2.1 c0)
   (.test (iIn x.2.2.1 c0)
    (.bnd (spread_look_1.f k (et 48 (rAt x.2.2.2 x.2.2.1)) [.str (rStr x.1 0)]).eval default fun r0 =>
    .test (bNot r0)
     (.test (iIn x.2.1 c0)
      (.ret (.inl ([.str (rStr x.1 0)], (iAdd .i64 x.2.1 (1)), (iAdd .i64 x.2.2.1 (1)), (rSet x.2.2.2 x.2.1 (et 48 (rAt x.2.2.2 x.2.2.1))))))
      (.fail))
     (.ret (.inl ([.str (rStr x.1 0)], x.2.1, (iAdd .i64 x.2.2.1 (1)), x.2.2.2))))
    (.fail))
   (.ret (.inr (x.2.1, x.2.2.2)))
noncomputable def a5 (c0 : Int) (x : (Row × Int × Int × Rows)) : Dt := ⟨[.i c0, .c [(et 9 x.1)], .i x.2.1, .i x.2.2.1], [], [], [x.2.2.2]⟩
noncomputable def o5_0 (c0 : Int) (r : (Int × Rows)) : X × Dt := (.exit 0, ⟨[.i c0, .i r.1], [], [], [r.2]⟩)
noncomputable def e5 (k : Nat) (d : Dt) : T (X × Dt) := out1 (iter (s5 k (aI (aN d.a 0))) k (((aC (aN d.a 1)).getD 0 []), (aI (aN d.a 2)), (aI (aN d.a 3)), (d.m.getD 0 []))) default (o5_0 (aI (aN d.a 0)))
noncomputable def S (k : Nat) : Subs := fun n => bif Nat.beq n 5 then some (loopV Try.prog t5 (e5 k)) else none
noncomputable def f (k : Nat) (a0 : Rows) (a1 : Row) : T (Rows × Int) :=
  .bnd (slices_IndexFunc_api_Pod_api_Pod_c49.f k (rTake a0 (rLen a0)) [.str (rStr a1 0)]).eval default fun r0 =>
  .test (iEq r0 (-1))
   (.ret (a0, (rLen a0)))
   (.bnd (iter (slices_DeleteFunc_api_Pod_api_Pod_c49.s5 k (rLen a0)) k ([.str (rStr a1 0)], (r0, ((iAdd .i64 r0 (1)), a0)))) default fun r1 =>
   .test (iCut r1.1 (rLen a0) (rLen a0))
    (.test (iCut (0) r1.1 (rLen a0))
     (.ret ((rFill r1.2 r1.1 (iPlus r1.1 (iMinus (rLen a0) r1.1)) [.str ByteArray.empty, .str ByteArray.empty, .str ByteArray.empty, .int .i64 (0), .int .i64 (0), .int .i64 (0), .int .i64 (0), .bool false, .int .i64 (0), .slice 93 [] .open, .slice 149 [] .open, .slice 9 [] .open, .slice 151 [] .open, .str ByteArray.empty, .int .i64 (0), .int .i64 (0), .int .i64 (0), .slice 154 [] .open, .slice 76 [] .open, .slice 156 [] .open, .slice 158 [] .open, .slice 29 [] .open, .slice 160 [] .open, .int .i64 (0), .bool false, .int .i64 (0), .int .i64 (0), .int .i64 (0), .slice 162 [] .open, .int .i64 (0), .str ByteArray.empty, .str ByteArray.empty]), r1.1))
     (.fail))
    (.fail))
noncomputable def dm (k : Nat) : FunM := mkFunM 48 true [.fn 49 [9]] (fun es_ as_ => f k es_ (vPtr (vN (vCaps (vN as_ 0)) 0)))
theorem hC (k : Nat) : CxOk (C k) := CxOk.consK (p := (50000067, slices_IndexFunc_api_Pod_api_Pod_c49.d k)) (by kernel_rfl) (slices_IndexFunc_api_Pod_api_Pod_c49.ok k) (CxOk.cons (p := (49, spread_look_1.d k)) (spread_look_1.ok k) (CxOk.nil))
theorem l5 (k : Nat) : LoopOk Try.prog (S k) (lp (bodyF (Go.Proofs.Try.f47)) 0) := loopOk_mk (C := C k) (hC k) (Loops.all (n := 0) (by kernel_rfl) trivial) (lt := t5) (den := e5 k) (by kernel_rfl) (N := Int) (A := (Row × Int × Int × Rows)) (R := (Int × Rows))
 (fun n x => a5 n x) (fun n r => o5_0 n r) (fun n x => s5 k n x) k (fun d => (aI (aN d.a 0))) (fun d => (((aC (aN d.a 1)).getD 0 []), (aI (aN d.a 2)), (aI (aN d.a 3)), (d.m.getD 0 []))) (fun d y h => out1_eval h) (fun d => by kernel_rfl) (fun n x => by kernel_rfl) (fun n r => ⟨_, rfl⟩)
theorem okM (k : Nat) : FunOkM Try.prog 47 (dm k) := fun_mkM (C := C k) (hC k) (S := S k) Try.func47 (by kernel_rfl) (by kernel_rfl) (Loops.all (n := 1) (by kernel_rfl) ⟨trivial, l5 k⟩) (fun es_ as_ => by kernel_rfl)
end slices_DeleteFunc_api_Pod_api_Pod_c49
namespace spread_look_2
noncomputable def C (k : Nat) : Cx := ⟨Try.prog, tab [], [], [], tab []⟩
noncomputable def S (k : Nat) : Subs := fun n => none
noncomputable def f (k : Nat) (a0 : Row) (a1 : Row) : T Bool :=
  .ret (sEq (rStr a0 0) (rStr a1 0))
noncomputable def d (k : Nat) : Fun := mkFun [54, .p 9] (fun as_ => f k (vRow (vN as_ 0)) (vPtr (vN as_ 1))) default (fun r => .bool r)
theorem hC (k : Nat) : CxOk (C k) := CxOk.nil
theorem ok (k : Nat) : FunOk Try.prog 51 (d k) := fun_mk (C := C k) (hC k) (S := S k) Try.func51 (by kernel_rfl) (by kernel_rfl) (Loops.all (n := 0) (by kernel_rfl) trivial) (fun as_ => by kernel_rfl)
end spread_look_2
namespace slices_IndexFunc_api_Count_api_Count_c51
noncomputable def C (k : Nat) : Cx := ⟨Try.prog, tab [(51, spread_look_2.d k)], [], [], tab []⟩
noncomputable def t2 : LoopT := ⟨⟨19, [], [(0, .sl 54 none), (1, .fn 51 [9]), (7, .int .i64), (8, .int .i64)], [], [], []⟩, (fun | .ret => some ⟨19, [], [(4, .int .i64)], [], [], []⟩ | .exit 0 => some ⟨19, [], [], [], [], []⟩ | _ => none)⟩
noncomputable def s2 (k : Nat) (c0 : Rows) (c1 : Int) (x : (Row × Int)) : T ((Row × Int) ⊕ (Int ⊕ Unit)) :=
  .test (iLt x.2 c1)
   (.test (iIn x.2 (rLen c0))
    (.bnd (spread_look_2.f k (et 54 (rAt c0 x.2)) [.str (rStr x.1 0)]).eval default fun r0 =>
    .test r0
     (.ret (.inr (.inl x.2)))
     (.ret (.inl ([.str (rStr x.1 0)], (iAdd .i64 x.2 (1))))))
    (.fail))
   (.ret (.inr (.inr ())))
noncomputable def a2 (c0 : Rows) (c1 : Int) (x : (Row × Int)) : Dt := ⟨[.r c0, .c [(et 9 x.1)], .i c1, .i x.2], [], [], []⟩
noncomputable def o2_0 (c0 : Rows) (c1 : Int) (r : Int) : X × Dt := (.ret, ⟨[.i r], [], [], []⟩)
noncomputable def o2_1 (c0 : Rows) (c1 : Int) (r : Unit) : X × Dt := (.exit 0, ⟨[], [], [], []⟩)
noncomputable def e2 (k : Nat) (d : Dt) : T (X × Dt) := out2 (iter (s2 k (aR (aN d.a 0)) (aI (aN d.a 2))) k (((aC (aN d.a 1)).getD 0 []), (aI (aN d.a 3)))) (o2_0 (aR (aN d.a 0)) (aI (aN d.a 2))) (o2_1 (aR (aN d.a 0)) (aI (aN d.a 2)))
noncomputable def S (k : Nat) : Subs := fun n => bif Nat.beq n 2 then some (loopV Try.prog t2 (e2 k)) else none
noncomputable def f (k : Nat) (a0 : Rows) (a1 : Row) : T Int :=
  .cas (iter (slices_IndexFunc_api_Count_api_Count_c51.s2 k a0 (rLen a0)) k ([.str (rStr a1 0)], (0))) (fun r0 =>
   .ret r0) (fun r1 =>
   .ret (-1))
noncomputable def d (k : Nat) : Fun := mkFun [51, .fn 51 [9]] (fun as_ => f k (vRows (vN as_ 0)) (vPtr (vN (vCaps (vN as_ 1)) 0))) default (fun r => .int .i64 r)
theorem hC (k : Nat) : CxOk (C k) := CxOk.cons (p := (51, spread_look_2.d k)) (spread_look_2.ok k) (CxOk.nil)
theorem l2 (k : Nat) : LoopOk Try.prog (S k) (lp (bodyF (Go.Proofs.Try.f50)) 0) := loopOk_mk (C := C k) (hC k) (Loops.all (n := 0) (by kernel_rfl) trivial) (lt := t2) (den := e2 k) (by kernel_rfl) (N := (Rows × Int)) (A := (Row × Int)) (R := (Int ⊕ Unit))
 (fun n x => a2 n.1 n.2 x) (fun n r => Sum.elim (o2_0 n.1 n.2) (o2_1 n.1 n.2) r) (fun n x => s2 k n.1 n.2 x) k (fun d => ((aR (aN d.a 0)), (aI (aN d.a 2)))) (fun d => (((aC (aN d.a 1)).getD 0 []), (aI (aN d.a 3)))) (fun d y h => out2_eval h) (fun d => by kernel_rfl) (fun n x => by kernel_rfl) (fun n r => by rcases r with r | r <;> exact ⟨_, rfl⟩)
theorem ok (k : Nat) : FunOk Try.prog 50 (d k) := fun_mk (C := C k) (hC k) (S := S k) Try.func50 (by kernel_rfl) (by kernel_rfl) (Loops.all (n := 1) (by kernel_rfl) ⟨trivial, l2 k⟩) (fun as_ => by kernel_rfl)
end slices_IndexFunc_api_Count_api_Count_c51
namespace spread_look
noncomputable def C (k : Nat) : Cx := ⟨Try.prog, tab [(46, meta_KeyOf.d k), (48, slices_Clone_api_Pod_api_Pod.d k), (10, spread_Counts.d k), (25, affinity_Domain.d k), (52000050, slices_IndexFunc_api_Count_api_Count_c51.d k)], [22], [(2, 11), (3, 11), (6, 14), (7, 14), (8, 14), (4, 22)], tab [(48, slices_Clone_api_Pod_api_Pod.dm k), (50000047, slices_DeleteFunc_api_Pod_api_Pod_c49.dm k)]⟩
noncomputable def S (k : Nat) : Subs := fun n => none
noncomputable def f (k : Nat) (a0 : Row) (a1 : Row) (a2 : Row) (a3 : Row) : T (Rows × Int × Bool) :=
  .bnd (meta_KeyOf.f k (et 36 a1)).eval default fun r0 =>
  .bnd (slices_Clone_api_Pod_api_Pod.fm k (rSl a0 1)).eval default fun r1 =>
  .bnd (slices_DeleteFunc_api_Pod_api_Pod_c49.f k (rTake r1.1 r1.2) [.str r0]).eval default fun r2 =>
  .bnd (spread_Counts.f k [.slice 61 (rSl a0 0) .open, .slice 48 (rTake r2.1 r2.2) .open, .slice 147 (rSl a0 2) .open, .int .i64 (rInt a0 3)] (rStr a1 1) (et 29 a3)).eval default fun r3 =>
  .bnd (affinity_Domain.f k (et 61 a2) (rStr a3 1)).eval default fun r4 =>
  .test (bNot r4.2)
   (.ret (r3, (-1), false))
   (.bnd (slices_IndexFunc_api_Count_api_Count_c51.f k r3 [.str r4.1]).eval default fun r5 =>
   .ret (r3, r5, true))
noncomputable def d (k : Nat) : Fun := mkFun [26, 48, 61, 29] (fun as_ => f k (vRow (vN as_ 0)) (vRow (vN as_ 1)) (vRow (vN as_ 2)) (vRow (vN as_ 3))) default (fun r => .tuple [.slice 54 r.1 .open, .int .i64 r.2.1, .bool r.2.2])
theorem hC (k : Nat) : CxOk (C k) := CxOk.cons (p := (46, meta_KeyOf.d k)) (meta_KeyOf.ok k) (CxOk.cons (p := (48, slices_Clone_api_Pod_api_Pod.d k)) (slices_Clone_api_Pod_api_Pod.ok k) (CxOk.cons (p := (10, spread_Counts.d k)) (spread_Counts.ok k) (CxOk.cons (p := (25, affinity_Domain.d k)) (affinity_Domain.ok k) (CxOk.consK (p := (52000050, slices_IndexFunc_api_Count_api_Count_c51.d k)) (by kernel_rfl) (slices_IndexFunc_api_Count_api_Count_c51.ok k) (CxOk.consM (p := (48, slices_Clone_api_Pod_api_Pod.dm k)) (slices_Clone_api_Pod_api_Pod.okM k) (CxOk.consMK (p := (50000047, slices_DeleteFunc_api_Pod_api_Pod_c49.dm k)) (by kernel_rfl) (slices_DeleteFunc_api_Pod_api_Pod_c49.okM k) (CxOk.nil)))))))
theorem ok (k : Nat) : FunOk Try.prog 33 (d k) := fun_mk (C := C k) (hC k) (S := S k) Try.func33 (by kernel_rfl) (by kernel_rfl) (Loops.all (n := 0) (by kernel_rfl) trivial) (fun as_ => by kernel_rfl)
end spread_look
namespace spread_Fits
noncomputable def C (k : Nat) : Cx := ⟨Try.prog, tab [(33, spread_look.d k), (27, label_Matches.d k)], [], [], tab []⟩
noncomputable def t10 : LoopT := ⟨⟨76, [], [(3, .ptr 3 0), (4, .ptr 4 0), (5, .ptr 5 0), (8, .ptr 8 0), (12, .int .i64), (13, .int .i64), (18, .sl 29 none), (19, .int .i64), (20, .int .i64), (48, .sl 54 none), (49, .int .i64), (50, .int .i64)], [], [(3, 26), (4, 48), (5, 61), (8, 29)], []⟩, (fun | .exit 2 => some ⟨76, [], [(3, .ptr 3 0), (4, .ptr 4 0), (5, .ptr 5 0), (8, .ptr 8 0), (12, .int .i64), (13, .int .i64), (18, .sl 29 none), (19, .int .i64), (20, .int .i64)], [], [(3, 26), (4, 48), (5, 61), (8, 29)], []⟩ | _ => none)⟩
noncomputable def s10 (k : Nat) (c0 : Int) (c1 : Rows) (c2 : Int) (c3 : Int) (c4 : Rows) (c5 : Int) (c6 : Row) (c7 : Row) (c8 : Row) (c9 : Row) (x : (Int × Int)) : T ((Int × Int) ⊕ Int) :=
  .test (iLt x.2 c5)
   (.test (iIn x.2 (rLen c4))
    (.ret (.inl ((iMin x.1 (rInt (rAt c4 x.2) 1)), (iAdd .i64 x.2 (1)))))
    (.fail))
   (.ret (.inr x.1))
noncomputable def a10 (c0 : Int) (c1 : Rows) (c2 : Int) (c3 : Int) (c4 : Rows) (c5 : Int) (c6 : Row) (c7 : Row) (c8 : Row) (c9 : Row) (x : (Int × Int)) : Dt := ⟨[.u, .u, .u, .u, .i c0, .i x.1, .r c1, .i c2, .i c3, .r c4, .i c5, .i x.2], [], [et 26 c6, et 48 c7, et 61 c8, et 29 c9], []⟩
noncomputable def o10_0 (c0 : Int) (c1 : Rows) (c2 : Int) (c3 : Int) (c4 : Rows) (c5 : Int) (c6 : Row) (c7 : Row) (c8 : Row) (c9 : Row) (r : Int) : X × Dt := (.exit 2, ⟨[.u, .u, .u, .u, .i c0, .i r, .r c1, .i c2, .i c3], [], [(et 26 c6), (et 48 c7), (et 61 c8), (et 29 c9)], []⟩)
noncomputable def e10 (k : Nat) (d : Dt) : T (X × Dt) := out1 (iter (s10 k (aI (aN d.a 4)) (aR (aN d.a 6)) (aI (aN d.a 7)) (aI (aN d.a 8)) (aR (aN d.a 9)) (aI (aN d.a 10)) (d.r.getD 0 []) (d.r.getD 1 []) (d.r.getD 2 []) (d.r.getD 3 [])) k ((aI (aN d.a 5)), (aI (aN d.a 11)))) default (o10_0 (aI (aN d.a 4)) (aR (aN d.a 6)) (aI (aN d.a 7)) (aI (aN d.a 8)) (aR (aN d.a 9)) (aI (aN d.a 10)) (d.r.getD 0 []) (d.r.getD 1 []) (d.r.getD 2 []) (d.r.getD 3 []))
noncomputable def t2 : LoopT := ⟨⟨76, [], [(3, .ptr 3 0), (4, .ptr 4 0), (5, .ptr 5 0), (18, .sl 29 none), (19, .int .i64), (20, .int .i64)], [], [(3, 26), (4, 48), (5, 61)], []⟩, (fun | .ret => some ⟨76, [], [(6, .bool)], [], [], []⟩ | .exit 0 => some ⟨76, [], [], [], [], []⟩ | _ => none)⟩
noncomputable def s2 (k : Nat) (c0 : Rows) (c1 : Int) (c2 : Row) (c3 : Row) (c4 : Row) (x : Int) : T (Int ⊕ (Bool ⊕ Unit)) :=
  .test (iLt x c1)
   (.test (iIn x (rLen c0))
    (.test (bNot (rBool (rAt c0 x) 3))
     (.ret (.inl (iAdd .i64 x (1))))
     (.bnd (spread_look.f k (et 26 c2) (et 48 c3) (et 61 c4) (et 29 (rAt c0 x))).eval default fun r0 =>
     .test (iLt r0.2.1 (0))
      (.ret (.inr (.inl false)))
      (.test (iIn r0.2.1 (rLen r0.1))
       (.test (iIn r0.2.1 (rLen r0.1))
        (.bnd (iter (spread_Fits.s10 k (rInt (rAt r0.1 r0.2.1) 1) c0 c1 x r0.1 (rLen r0.1) (et 26 c2) (et 48 c3) (et 61 c4) (et 29 (rAt c0 x))) k ((rInt (rAt r0.1 r0.2.1) 1), (0))) default fun r1 =>
        .bnd (label_Matches.f k (rSl (rAt c0 x) 2) (rSl c3 9)).eval default fun r2 =>
        .test r2
         (.test (iLt (iAdd .i64 r1 (iMin (iMax (rInt (rAt c0 x) 0) (0)) (1000000000000000))) (iAdd .i64 (rInt (rAt r0.1 r0.2.1) 1) (1)))
          (.ret (.inr (.inl false)))
          (.ret (.inl (iAdd .i64 x (1)))))
         (.test (iLt (iAdd .i64 r1 (iMin (iMax (rInt (rAt c0 x) 0) (0)) (1000000000000000))) (rInt (rAt r0.1 r0.2.1) 1))
          (.ret (.inr (.inl false)))
          (.ret (.inl (iAdd .i64 x (1))))))
        (.fail))
       (.fail))))
    (.fail))
   (.ret (.inr (.inr ())))
noncomputable def a2 (c0 : Rows) (c1 : Int) (c2 : Row) (c3 : Row) (c4 : Row) (x : Int) : Dt := ⟨[.u, .u, .u, .r c0, .i c1, .i x], [], [et 26 c2, et 48 c3, et 61 c4], []⟩
noncomputable def o2_0 (c0 : Rows) (c1 : Int) (c2 : Row) (c3 : Row) (c4 : Row) (r : Bool) : X × Dt := (.ret, ⟨[.b r], [], [], []⟩)
noncomputable def o2_1 (c0 : Rows) (c1 : Int) (c2 : Row) (c3 : Row) (c4 : Row) (r : Unit) : X × Dt := (.exit 0, ⟨[], [], [], []⟩)
noncomputable def e2 (k : Nat) (d : Dt) : T (X × Dt) := out2 (iter (s2 k (aR (aN d.a 3)) (aI (aN d.a 4)) (d.r.getD 0 []) (d.r.getD 1 []) (d.r.getD 2 [])) k (aI (aN d.a 5))) (o2_0 (aR (aN d.a 3)) (aI (aN d.a 4)) (d.r.getD 0 []) (d.r.getD 1 []) (d.r.getD 2 [])) (o2_1 (aR (aN d.a 3)) (aI (aN d.a 4)) (d.r.getD 0 []) (d.r.getD 1 []) (d.r.getD 2 []))
noncomputable def S (k : Nat) : Subs := fun n => bif Nat.beq n 10 then some (loopV Try.prog t10 (e10 k)) else bif Nat.beq n 2 then some (loopV Try.prog t2 (e2 k)) else none
noncomputable def f (k : Nat) (a0 : Row) (a1 : Row) (a2 : Row) : T Bool :=
  .cas (iter (spread_Fits.s2 k (rSl a1 21) (rLen (rSl a1 21)) (et 26 a0) (et 48 a1) (et 61 a2)) k (0)) (fun r0 =>
   .ret r0) (fun r1 =>
   .ret true)
noncomputable def d (k : Nat) : Fun := mkFun [26, 48, 61] (fun as_ => f k (vRow (vN as_ 0)) (vRow (vN as_ 1)) (vRow (vN as_ 2))) default (fun r => .bool r)
theorem hC (k : Nat) : CxOk (C k) := CxOk.cons (p := (33, spread_look.d k)) (spread_look.ok k) (CxOk.cons (p := (27, label_Matches.d k)) (label_Matches.ok k) (CxOk.nil))
theorem l10 (k : Nat) : LoopOk Try.prog (S k) (lp (lp (bodyF (Go.Proofs.Try.f12)) 0) 0) := loopOk_mk (C := C k) (hC k) (Loops.all (n := 0) (by kernel_rfl) trivial) (lt := t10) (den := e10 k) (by kernel_rfl) (N := (Int × Rows × Int × Int × Rows × Int × Row × Row × Row × Row)) (A := (Int × Int)) (R := Int)
 (fun n x => a10 n.1 n.2.1 n.2.2.1 n.2.2.2.1 n.2.2.2.2.1 n.2.2.2.2.2.1 n.2.2.2.2.2.2.1 n.2.2.2.2.2.2.2.1 n.2.2.2.2.2.2.2.2.1 n.2.2.2.2.2.2.2.2.2 x) (fun n r => o10_0 n.1 n.2.1 n.2.2.1 n.2.2.2.1 n.2.2.2.2.1 n.2.2.2.2.2.1 n.2.2.2.2.2.2.1 n.2.2.2.2.2.2.2.1 n.2.2.2.2.2.2.2.2.1 n.2.2.2.2.2.2.2.2.2 r) (fun n x => s10 k n.1 n.2.1 n.2.2.1 n.2.2.2.1 n.2.2.2.2.1 n.2.2.2.2.2.1 n.2.2.2.2.2.2.1 n.2.2.2.2.2.2.2.1 n.2.2.2.2.2.2.2.2.1 n.2.2.2.2.2.2.2.2.2 x) k (fun d => ((aI (aN d.a 4)), (aR (aN d.a 6)), (aI (aN d.a 7)), (aI (aN d.a 8)), (aR (aN d.a 9)), (aI (aN d.a 10)), (d.r.getD 0 []), (d.r.getD 1 []), (d.r.getD 2 []), (d.r.getD 3 []))) (fun d => ((aI (aN d.a 5)), (aI (aN d.a 11)))) (fun d y h => out1_eval h) (fun d => by kernel_rfl) (fun n x => by kernel_rfl) (fun n r => ⟨_, rfl⟩)
theorem l2 (k : Nat) : LoopOk Try.prog (S k) (lp (bodyF (Go.Proofs.Try.f12)) 0) := loopOk_mk (C := C k) (hC k) (Loops.all (n := 1) (by kernel_rfl) ⟨trivial, l10 k⟩) (lt := t2) (den := e2 k) (by kernel_rfl) (N := (Rows × Int × Row × Row × Row)) (A := Int) (R := (Bool ⊕ Unit))
 (fun n x => a2 n.1 n.2.1 n.2.2.1 n.2.2.2.1 n.2.2.2.2 x) (fun n r => Sum.elim (o2_0 n.1 n.2.1 n.2.2.1 n.2.2.2.1 n.2.2.2.2) (o2_1 n.1 n.2.1 n.2.2.1 n.2.2.2.1 n.2.2.2.2) r) (fun n x => s2 k n.1 n.2.1 n.2.2.1 n.2.2.2.1 n.2.2.2.2 x) k (fun d => ((aR (aN d.a 3)), (aI (aN d.a 4)), (d.r.getD 0 []), (d.r.getD 1 []), (d.r.getD 2 []))) (fun d => (aI (aN d.a 5))) (fun d y h => out2_eval h) (fun d => by kernel_rfl) (fun n x => by kernel_rfl) (fun n r => by rcases r with r | r <;> exact ⟨_, rfl⟩)
theorem ok (k : Nat) : FunOk Try.prog 12 (d k) := fun_mk (C := C k) (hC k) (S := S k) Try.func12 (by kernel_rfl) (by kernel_rfl) (Loops.all (n := 1) (by kernel_rfl) ⟨trivial, l2 k⟩) (fun as_ => by kernel_rfl)
end spread_Fits
namespace spread_Score
noncomputable def C (k : Nat) : Cx := ⟨Try.prog, tab [(33, spread_look.d k)], [], [], tab []⟩
noncomputable def t3 : LoopT := ⟨⟨49, [], [(3, .ptr 3 0), (4, .ptr 4 0), (5, .ptr 5 0), (7, .int .i64), (15, .sl 29 none), (16, .int .i64), (17, .int .i64)], [], [(3, 26), (4, 48), (5, 61)], []⟩, (fun | .exit 0 => some ⟨49, [], [(7, .int .i64)], [], [], []⟩ | _ => none)⟩
noncomputable def s3 (k : Nat) (c0 : Rows) (c1 : Int) (c2 : Row) (c3 : Row) (c4 : Row) (x : (Int × Int)) : T ((Int × Int) ⊕ Int) :=
  .test (iLt x.2 c1)
   (.test (iIn x.2 (rLen c0))
    (.test (rBool (rAt c0 x.2) 3)
     (.ret (.inl (x.1, (iAdd .i64 x.2 (1)))))
     (.bnd (spread_look.f k (et 26 c2) (et 48 c3) (et 61 c4) (et 29 (rAt c0 x.2))).eval default fun r0 =>
     .test (bNot r0.2.2)
      (.ret (.inl ((iAdd .i64 x.1 (40)), (iAdd .i64 x.2 (1)))))
      (.test (iLe (0) r0.2.1)
       (.test (iIn r0.2.1 (rLen r0.1))
        (.ret (.inl ((iAdd .i64 x.1 (rInt (rAt r0.1 r0.2.1) 1)), (iAdd .i64 x.2 (1)))))
        (.fail))
       (.ret (.inl (x.1, (iAdd .i64 x.2 (1))))))))
    (.fail))
   (.ret (.inr x.1))
noncomputable def a3 (c0 : Rows) (c1 : Int) (c2 : Row) (c3 : Row) (c4 : Row) (x : (Int × Int)) : Dt := ⟨[.u, .u, .u, .i x.1, .r c0, .i c1, .i x.2], [], [et 26 c2, et 48 c3, et 61 c4], []⟩
noncomputable def o3_0 (c0 : Rows) (c1 : Int) (c2 : Row) (c3 : Row) (c4 : Row) (r : Int) : X × Dt := (.exit 0, ⟨[.i r], [], [], []⟩)
noncomputable def e3 (k : Nat) (d : Dt) : T (X × Dt) := out1 (iter (s3 k (aR (aN d.a 4)) (aI (aN d.a 5)) (d.r.getD 0 []) (d.r.getD 1 []) (d.r.getD 2 [])) k ((aI (aN d.a 3)), (aI (aN d.a 6)))) default (o3_0 (aR (aN d.a 4)) (aI (aN d.a 5)) (d.r.getD 0 []) (d.r.getD 1 []) (d.r.getD 2 []))
noncomputable def S (k : Nat) : Subs := fun n => bif Nat.beq n 3 then some (loopV Try.prog t3 (e3 k)) else none
noncomputable def f (k : Nat) (a0 : Row) (a1 : Row) (a2 : Row) : T Int :=
  .bnd (iter (spread_Score.s3 k (rSl a1 21) (rLen (rSl a1 21)) (et 26 a0) (et 48 a1) (et 61 a2)) k ((0), (0))) default fun r0 =>
  .ret r0
noncomputable def d (k : Nat) : Fun := mkFun [26, 48, 61] (fun as_ => f k (vRow (vN as_ 0)) (vRow (vN as_ 1)) (vRow (vN as_ 2))) default (fun r => .int .i64 r)
theorem hC (k : Nat) : CxOk (C k) := CxOk.cons (p := (33, spread_look.d k)) (spread_look.ok k) (CxOk.nil)
theorem l3 (k : Nat) : LoopOk Try.prog (S k) (lp (bodyF (Go.Proofs.Try.f14)) 0) := loopOk_mk (C := C k) (hC k) (Loops.all (n := 0) (by kernel_rfl) trivial) (lt := t3) (den := e3 k) (by kernel_rfl) (N := (Rows × Int × Row × Row × Row)) (A := (Int × Int)) (R := Int)
 (fun n x => a3 n.1 n.2.1 n.2.2.1 n.2.2.2.1 n.2.2.2.2 x) (fun n r => o3_0 n.1 n.2.1 n.2.2.1 n.2.2.2.1 n.2.2.2.2 r) (fun n x => s3 k n.1 n.2.1 n.2.2.1 n.2.2.2.1 n.2.2.2.2 x) k (fun d => ((aR (aN d.a 4)), (aI (aN d.a 5)), (d.r.getD 0 []), (d.r.getD 1 []), (d.r.getD 2 []))) (fun d => ((aI (aN d.a 3)), (aI (aN d.a 6)))) (fun d y h => out1_eval h) (fun d => by kernel_rfl) (fun n x => by kernel_rfl) (fun n r => ⟨_, rfl⟩)
theorem ok (k : Nat) : FunOk Try.prog 14 (d k) := fun_mk (C := C k) (hC k) (S := S k) Try.func14 (by kernel_rfl) (by kernel_rfl) (Loops.all (n := 1) (by kernel_rfl) ⟨trivial, l3 k⟩) (fun as_ => by kernel_rfl)
end spread_Score
namespace law37_awake
noncomputable def C (k : Nat) : Cx := ⟨Try.prog, tab [(24, law37_node.d k), (16, law37_member.d k), (10, spread_Counts.d k), (12, spread_Fits.d k), (14, spread_Score.d k)], [], [], tab []⟩
noncomputable def S (k : Nat) : Subs := fun n => none
noncomputable def f (k : Nat) : T Bool :=
  .bnd (law37_node.f k (bs [110, 49]) (bs [97])).eval default fun r0 =>
  .bnd (law37_node.f k (bs [110, 50]) (bs [98])).eval default fun r1 =>
  .bnd (law37_member.f k (bs [112, 49]) (bs [110, 49])).eval default fun r2 =>
  .bnd (law37_member.f k (bs [112, 50]) (bs [110, 49])).eval default fun r3 =>
  .bnd (law37_member.f k (bs [112, 51]) (bs [110, 50])).eval default fun r4 =>
  .bnd (law37_member.f k (bs [112, 52]) ByteArray.empty).eval default fun r5 =>
  .bnd (spread_Counts.f k [.slice 61 [(et 61 r0), (et 61 r1)] .open, .slice 48 [(et 48 r2), (et 48 r3), (et 48 r4)] .open, .slice 147 [] .open, .int .i64 (0)] (bs [110, 115]) [.int .i64 (1), .str (bs [122, 111, 110, 101]), .slice 76 [[.str (bs [97, 112, 112]), .int .i64 (3), .slice 9 [] .open]] .open, .bool true]).eval default fun r6 =>
  .test (bNot (iEq (rLen r6) (2)))
   (.ret false)
   (.test (iIn (0) (rLen r6))
    (.test (bImp (bAnd (sEq (rStr (rAt r6 (0)) 0) (bs [97])) (iEq (rInt (rAt r6 (0)) 1) (2))) (iIn (1) (rLen r6)))
     (.test (bImp (bIte (bAnd (sEq (rStr (rAt r6 (0)) 0) (bs [97])) (iEq (rInt (rAt r6 (0)) 1) (2))) (bAnd (sEq (rStr (rAt r6 (1)) 0) (bs [98])) (iEq (rInt (rAt r6 (1)) 1) (1))) false) (iIn (1) (rLen [(et 61 r0), (et 61 r1)])))
      (.opt (bIte (bAnd (sEq (rStr (rAt r6 (0)) 0) (bs [97])) (iEq (rInt (rAt r6 (0)) 1) (2))) (bAnd (sEq (rStr (rAt r6 (1)) 0) (bs [98])) (iEq (rInt (rAt r6 (1)) 1) (1))) false) (spread_Fits.f k [.slice 61 [(et 61 r0), (et 61 r1)] .open, .slice 48 [(et 48 r2), (et 48 r3), (et 48 r4)] .open, .slice 147 [] .open, .int .i64 (0)] [.str (rStr r5 0), .str (rStr r5 1), .str (rStr r5 2), .int .i64 (rInt r5 3), .int .i64 (rInt r5 4), .int .i64 (rInt r5 5), .int .i64 (rInt r5 6), .bool (rBool r5 7), .int .i64 (rInt r5 8), .slice 93 (rSl r5 9) .open, .slice 149 (rSl r5 10) .open, .slice 9 (rSl r5 11) .open, .slice 151 (rSl r5 12) .open, .str (rStr r5 13), .int .i64 (rInt r5 14), .int .i64 (rInt r5 15), .int .i64 (rInt r5 16), .slice 154 (rSl r5 17) .open, .slice 76 (rSl r5 18) .open, .slice 156 (rSl r5 19) .open, .slice 158 (rSl r5 20) .open, .slice 29 [[.int .i64 (1), .str (bs [122, 111, 110, 101]), .slice 76 [[.str (bs [97, 112, 112]), .int .i64 (3), .slice 9 [] .open]] .open, .bool true]] .open, .slice 160 (rSl r5 22) .open, .int .i64 (rInt r5 23), .bool (rBool r5 24), .int .i64 (rInt r5 25), .int .i64 (rInt r5 26), .int .i64 (rInt r5 27), .slice 162 (rSl r5 28) .open, .int .i64 (rInt r5 29), .str (rStr r5 30), .str (rStr r5 31)] (et 61 (rAt [(et 61 r0), (et 61 r1)] (1)))).eval default fun r7 =>
      .test (bImp (bIte (bIte (bAnd (sEq (rStr (rAt r6 (0)) 0) (bs [97])) (iEq (rInt (rAt r6 (0)) 1) (2))) (bAnd (sEq (rStr (rAt r6 (1)) 0) (bs [98])) (iEq (rInt (rAt r6 (1)) 1) (1))) false) r7 false) (iIn (0) (rLen [(et 61 r0), (et 61 r1)])))
       (.opt (bIte (bIte (bAnd (sEq (rStr (rAt r6 (0)) 0) (bs [97])) (iEq (rInt (rAt r6 (0)) 1) (2))) (bAnd (sEq (rStr (rAt r6 (1)) 0) (bs [98])) (iEq (rInt (rAt r6 (1)) 1) (1))) false) r7 false) (spread_Fits.f k [.slice 61 [(et 61 r0), (et 61 r1)] .open, .slice 48 [(et 48 r2), (et 48 r3), (et 48 r4)] .open, .slice 147 [] .open, .int .i64 (0)] [.str (rStr r5 0), .str (rStr r5 1), .str (rStr r5 2), .int .i64 (rInt r5 3), .int .i64 (rInt r5 4), .int .i64 (rInt r5 5), .int .i64 (rInt r5 6), .bool (rBool r5 7), .int .i64 (rInt r5 8), .slice 93 (rSl r5 9) .open, .slice 149 (rSl r5 10) .open, .slice 9 (rSl r5 11) .open, .slice 151 (rSl r5 12) .open, .str (rStr r5 13), .int .i64 (rInt r5 14), .int .i64 (rInt r5 15), .int .i64 (rInt r5 16), .slice 154 (rSl r5 17) .open, .slice 76 (rSl r5 18) .open, .slice 156 (rSl r5 19) .open, .slice 158 (rSl r5 20) .open, .slice 29 [[.int .i64 (1), .str (bs [122, 111, 110, 101]), .slice 76 [[.str (bs [97, 112, 112]), .int .i64 (3), .slice 9 [] .open]] .open, .bool true]] .open, .slice 160 (rSl r5 22) .open, .int .i64 (rInt r5 23), .bool (rBool r5 24), .int .i64 (rInt r5 25), .int .i64 (rInt r5 26), .int .i64 (rInt r5 27), .slice 162 (rSl r5 28) .open, .int .i64 (rInt r5 29), .str (rStr r5 30), .str (rStr r5 31)] (et 61 (rAt [(et 61 r0), (et 61 r1)] (0)))).eval default fun r8 =>
       .test (bImp (bIte (bIte (bIte (bAnd (sEq (rStr (rAt r6 (0)) 0) (bs [97])) (iEq (rInt (rAt r6 (0)) 1) (2))) (bAnd (sEq (rStr (rAt r6 (1)) 0) (bs [98])) (iEq (rInt (rAt r6 (1)) 1) (1))) false) r7 false) (bNot r8) false) (iIn (0) (rLen [(et 61 r0), (et 61 r1)])))
        (.opt (bIte (bIte (bIte (bAnd (sEq (rStr (rAt r6 (0)) 0) (bs [97])) (iEq (rInt (rAt r6 (0)) 1) (2))) (bAnd (sEq (rStr (rAt r6 (1)) 0) (bs [98])) (iEq (rInt (rAt r6 (1)) 1) (1))) false) r7 false) (bNot r8) false) (spread_Score.f k [.slice 61 [(et 61 r0), (et 61 r1)] .open, .slice 48 [(et 48 r2), (et 48 r3), (et 48 r4)] .open, .slice 147 [] .open, .int .i64 (0)] [.str (rStr r5 0), .str (rStr r5 1), .str (rStr r5 2), .int .i64 (rInt r5 3), .int .i64 (rInt r5 4), .int .i64 (rInt r5 5), .int .i64 (rInt r5 6), .bool (rBool r5 7), .int .i64 (rInt r5 8), .slice 93 (rSl r5 9) .open, .slice 149 (rSl r5 10) .open, .slice 9 (rSl r5 11) .open, .slice 151 (rSl r5 12) .open, .str (rStr r5 13), .int .i64 (rInt r5 14), .int .i64 (rInt r5 15), .int .i64 (rInt r5 16), .slice 154 (rSl r5 17) .open, .slice 76 (rSl r5 18) .open, .slice 156 (rSl r5 19) .open, .slice 158 (rSl r5 20) .open, .slice 29 [[.int .i64 (1), .str (bs [122, 111, 110, 101]), .slice 76 [[.str (bs [97, 112, 112]), .int .i64 (3), .slice 9 [] .open]] .open, .bool false]] .open, .slice 160 (rSl r5 22) .open, .int .i64 (rInt r5 23), .bool (rBool r5 24), .int .i64 (rInt r5 25), .int .i64 (rInt r5 26), .int .i64 (rInt r5 27), .slice 162 (rSl r5 28) .open, .int .i64 (rInt r5 29), .str (rStr r5 30), .str (rStr r5 31)] (et 61 (rAt [(et 61 r0), (et 61 r1)] (0)))).eval default fun r9 =>
        .test (bImp (bIte (bIte (bIte (bIte (bAnd (sEq (rStr (rAt r6 (0)) 0) (bs [97])) (iEq (rInt (rAt r6 (0)) 1) (2))) (bAnd (sEq (rStr (rAt r6 (1)) 0) (bs [98])) (iEq (rInt (rAt r6 (1)) 1) (1))) false) r7 false) (bNot r8) false) (iEq r9 (2)) false) (iIn (0) (rLen [(et 61 r0), (et 61 r1)])))
         (.opt (bIte (bIte (bIte (bIte (bAnd (sEq (rStr (rAt r6 (0)) 0) (bs [97])) (iEq (rInt (rAt r6 (0)) 1) (2))) (bAnd (sEq (rStr (rAt r6 (1)) 0) (bs [98])) (iEq (rInt (rAt r6 (1)) 1) (1))) false) r7 false) (bNot r8) false) (iEq r9 (2)) false) (spread_Fits.f k [.slice 61 [(et 61 r0), (et 61 r1)] .open, .slice 48 [(et 48 r2), (et 48 r3), (et 48 r4)] .open, .slice 147 [] .open, .int .i64 (0)] [.str (rStr r5 0), .str (rStr r5 1), .str (rStr r5 2), .int .i64 (rInt r5 3), .int .i64 (rInt r5 4), .int .i64 (rInt r5 5), .int .i64 (rInt r5 6), .bool (rBool r5 7), .int .i64 (rInt r5 8), .slice 93 (rSl r5 9) .open, .slice 149 (rSl r5 10) .open, .slice 9 (rSl r5 11) .open, .slice 151 (rSl r5 12) .open, .str (rStr r5 13), .int .i64 (rInt r5 14), .int .i64 (rInt r5 15), .int .i64 (rInt r5 16), .slice 154 (rSl r5 17) .open, .slice 76 (rSl r5 18) .open, .slice 156 (rSl r5 19) .open, .slice 158 (rSl r5 20) .open, .slice 29 [[.int .i64 (1), .str (bs [122, 111, 110, 101]), .slice 76 [[.str (bs [97, 112, 112]), .int .i64 (3), .slice 9 [] .open]] .open, .bool false]] .open, .slice 160 (rSl r5 22) .open, .int .i64 (rInt r5 23), .bool (rBool r5 24), .int .i64 (rInt r5 25), .int .i64 (rInt r5 26), .int .i64 (rInt r5 27), .slice 162 (rSl r5 28) .open, .int .i64 (rInt r5 29), .str (rStr r5 30), .str (rStr r5 31)] (et 61 (rAt [(et 61 r0), (et 61 r1)] (0)))).eval default fun r10 =>
         .ret (bIte (bIte (bIte (bIte (bIte (bAnd (sEq (rStr (rAt r6 (0)) 0) (bs [97])) (iEq (rInt (rAt r6 (0)) 1) (2))) (bAnd (sEq (rStr (rAt r6 (1)) 0) (bs [98])) (iEq (rInt (rAt r6 (1)) 1) (1))) false) r7 false) (bNot r8) false) (iEq r9 (2)) false) r10 false))
         (.fail))
        (.fail))
       (.fail))
      (.fail))
     (.fail))
    (.fail))
noncomputable def d (k : Nat) : Fun := mkFun [] (fun as_ => f k) default (fun r => .bool r)
theorem hC (k : Nat) : CxOk (C k) := CxOk.cons (p := (24, law37_node.d k)) (law37_node.ok k) (CxOk.cons (p := (16, law37_member.d k)) (law37_member.ok k) (CxOk.cons (p := (10, spread_Counts.d k)) (spread_Counts.ok k) (CxOk.cons (p := (12, spread_Fits.d k)) (spread_Fits.ok k) (CxOk.cons (p := (14, spread_Score.d k)) (spread_Score.ok k) (CxOk.nil)))))
theorem ok (k : Nat) : FunOk Try.prog 9 (d k) := fun_mk (C := C k) (hC k) (S := S k) Try.func9 (by kernel_rfl) (by kernel_rfl) (Loops.all (n := 0) (by kernel_rfl) trivial) (fun as_ => by kernel_rfl)
end law37_awake
namespace ref03_Get
noncomputable def C (k : Nat) : Cx := ⟨Try.prog, tab [], [], [], tab []⟩
noncomputable def t2 : LoopT := ⟨⟨25, [], [(0, .sl 93 none), (1, .str), (6, .int .i64)], [], [], []⟩, (fun | .ret => some ⟨25, [], [(4, .str), (5, .bool)], [], [], []⟩ | .exit 0 => some ⟨25, [], [], [], [], []⟩ | _ => none)⟩
noncomputable def s2 (k : Nat) (c0 : Rows) (c1 : ByteArray) (x : Int) : T (Int ⊕ ((ByteArray × Bool) ⊕ Unit)) :=
  .test (iLt x (rLen c0))
   (.test (iIn x (rLen c0))
    (.test (sEq (rStr (rAt c0 x) 0) c1)
     (.test (iIn x (rLen c0))
      (.ret (.inr (.inl ((rStr (rAt c0 x) 1), true))))
      (.fail))
     (.ret (.inl (iAdd .i64 x (1)))))
    (.fail))
   (.ret (.inr (.inr ())))
noncomputable def a2 (c0 : Rows) (c1 : ByteArray) (x : Int) : Dt := ⟨[.r c0, .s c1, .i x], [], [], []⟩
noncomputable def o2_0 (c0 : Rows) (c1 : ByteArray) (r : (ByteArray × Bool)) : X × Dt := (.ret, ⟨[.s r.1, .b r.2], [], [], []⟩)
noncomputable def o2_1 (c0 : Rows) (c1 : ByteArray) (r : Unit) : X × Dt := (.exit 0, ⟨[], [], [], []⟩)
noncomputable def e2 (k : Nat) (d : Dt) : T (X × Dt) := out2 (iter (s2 k (aR (aN d.a 0)) (aS (aN d.a 1))) k (aI (aN d.a 2))) (o2_0 (aR (aN d.a 0)) (aS (aN d.a 1))) (o2_1 (aR (aN d.a 0)) (aS (aN d.a 1)))
noncomputable def S (k : Nat) : Subs := fun n => bif Nat.beq n 2 then some (loopV Try.prog t2 (e2 k)) else none
noncomputable def f (k : Nat) (a0 : Rows) (a1 : ByteArray) : T (ByteArray × Bool) :=
  .cas (iter (ref03_Get.s2 k a0 a1) k (0)) (fun r0 =>
   .ret (r0.1, r0.2)) (fun r1 =>
   .ret (ByteArray.empty, false))
noncomputable def d (k : Nat) : Fun := mkFun [31, 9] (fun as_ => f k (vRows (vN as_ 0)) (vStr (vN as_ 1))) default (fun r => .tuple [.str r.1, .bool r.2])
theorem hC (k : Nat) : CxOk (C k) := CxOk.nil
theorem l2 (k : Nat) : LoopOk Try.prog (S k) (lp (bodyF (Go.Proofs.Try.f39)) 0) := loopOk_mk (C := C k) (hC k) (Loops.all (n := 0) (by kernel_rfl) trivial) (lt := t2) (den := e2 k) (by kernel_rfl) (N := (Rows × ByteArray)) (A := Int) (R := ((ByteArray × Bool) ⊕ Unit))
 (fun n x => a2 n.1 n.2 x) (fun n r => Sum.elim (o2_0 n.1 n.2) (o2_1 n.1 n.2) r) (fun n x => s2 k n.1 n.2 x) k (fun d => ((aR (aN d.a 0)), (aS (aN d.a 1)))) (fun d => (aI (aN d.a 2))) (fun d y h => out2_eval h) (fun d => by kernel_rfl) (fun n x => by kernel_rfl) (fun n r => by rcases r with r | r <;> exact ⟨_, rfl⟩)
theorem ok (k : Nat) : FunOk Try.prog 39 (d k) := fun_mk (C := C k) (hC k) (S := S k) Try.func39 (by kernel_rfl) (by kernel_rfl) (Loops.all (n := 1) (by kernel_rfl) ⟨trivial, l2 k⟩) (fun as_ => by kernel_rfl)
end ref03_Get
namespace ref36_Domain
noncomputable def C (k : Nat) : Cx := ⟨Try.prog, tab [(39, ref03_Get.d k)], [], [], tab []⟩
noncomputable def S (k : Nat) : Subs := fun n => none
noncomputable def f (k : Nat) (a0 : Row) (a1 : ByteArray) : T (ByteArray × Bool) :=
  .bnd (ref03_Get.f k (rSl a0 9) a1).eval default fun r0 =>
  .ret (r0.1, r0.2)
noncomputable def d (k : Nat) : Fun := mkFun [61, 9] (fun as_ => f k (vRow (vN as_ 0)) (vStr (vN as_ 1))) default (fun r => .tuple [.str r.1, .bool r.2])
theorem hC (k : Nat) : CxOk (C k) := CxOk.cons (p := (39, ref03_Get.d k)) (ref03_Get.ok k) (CxOk.nil)
theorem ok (k : Nat) : FunOk Try.prog 22 (d k) := fun_mk (C := C k) (hC k) (S := S k) Try.func22 (by kernel_rfl) (by kernel_rfl) (Loops.all (n := 0) (by kernel_rfl) trivial) (fun as_ => by kernel_rfl)
end ref36_Domain
namespace ref10_put
noncomputable def C (k : Nat) : Cx := ⟨Try.prog, tab [], [], [], tab []⟩
noncomputable def t4 : LoopT := ⟨⟨48, [.tmp 5 27 9], [(0, .sl 9 none), (1, .str), (5, .sl 9 (some 27)), (6, .bool), (7, .int .i64)], [], [], []⟩, (fun | .exit 0 => some ⟨48, [], [(1, .str), (5, .sl 9 (some 27)), (6, .bool)], [], [], []⟩ | _ => none)⟩
noncomputable def s4 (k : Nat) (c0 : Rows) (c1 : ByteArray) (x : (Rows × Bool × Int)) : T ((Rows × Bool × Int) ⊕ (Rows × Bool)) :=
  .test (iLt x.2.2 (rLen c0))
   (.test (bImp (bNot x.2.1) (iIn x.2.2 (rLen c0)))
    (.test (bIte (bNot x.2.1) (bOr (sLt c1 (rStr (rAt c0 x.2.2) 0)) (sEq c1 (rStr (rAt c0 x.2.2) 0))) false)
     (.test (rOk 16 (rLen x.1) (rLen [[.str c1]]))
      (.test (iIn x.2.2 (rLen c0))
       (.test (bNot (sEq (rStr (rAt c0 x.2.2) 0) c1))
        (.test (iIn x.2.2 (rLen c0))
         (.test (rOk 16 (rLen (rCat x.1 [[.str c1]])) (rLen [[.str (rStr (rAt c0 x.2.2) 0)]]))
          (.ret (.inl ((rCat (rCat x.1 [[.str c1]]) [[.str (rStr (rAt c0 x.2.2) 0)]]), true, (iAdd .i64 x.2.2 (1)))))
          (.fail))
         (.fail))
        (.ret (.inl ((rCat x.1 [[.str c1]]), true, (iAdd .i64 x.2.2 (1))))))
       (.fail))
      (.fail))
     (.test (iIn x.2.2 (rLen c0))
      (.test (bNot (sEq (rStr (rAt c0 x.2.2) 0) c1))
       (.test (iIn x.2.2 (rLen c0))
        (.test (rOk 16 (rLen x.1) (rLen [[.str (rStr (rAt c0 x.2.2) 0)]]))
         (.ret (.inl ((rCat x.1 [[.str (rStr (rAt c0 x.2.2) 0)]]), x.2.1, (iAdd .i64 x.2.2 (1)))))
         (.fail))
        (.fail))
       (.ret (.inl (x.1, x.2.1, (iAdd .i64 x.2.2 (1))))))
      (.fail)))
    (.fail))
   (.ret (.inr (x.1, x.2.1)))
noncomputable def a4 (c0 : Rows) (c1 : ByteArray) (x : (Rows × Bool × Int)) : Dt := ⟨[.r c0, .s c1, .r x.1, .b x.2.1, .i x.2.2], [], [], []⟩
noncomputable def o4_0 (c0 : Rows) (c1 : ByteArray) (r : (Rows × Bool)) : X × Dt := (.exit 0, ⟨[.s c1, .r r.1, .b r.2], [], [], []⟩)
noncomputable def e4 (k : Nat) (d : Dt) : T (X × Dt) := out1 (iter (s4 k (aR (aN d.a 0)) (aS (aN d.a 1))) k ((aR (aN d.a 2)), (aB (aN d.a 3)), (aI (aN d.a 4)))) default (o4_0 (aR (aN d.a 0)) (aS (aN d.a 1)))
noncomputable def S (k : Nat) : Subs := fun n => bif Nat.beq n 4 then some (loopV Try.prog t4 (e4 k)) else none
noncomputable def f (k : Nat) (a0 : Rows) (a1 : ByteArray) : T Rows :=
  .bnd (iter (ref10_put.s4 k a0 a1) k ([], (false, (0)))) default fun r0 =>
  .test (bNot r0.2)
   (.test (rOk 16 (rLen r0.1) (rLen [[.str a1]]))
    (.ret (rCat r0.1 [[.str a1]]))
    (.fail))
   (.ret r0.1)
noncomputable def d (k : Nat) : Fun := mkFun [33, 9] (fun as_ => f k (vRows (vN as_ 0)) (vStr (vN as_ 1))) default (fun r => .slice 9 r .open)
theorem hC (k : Nat) : CxOk (C k) := CxOk.nil
theorem l4 (k : Nat) : LoopOk Try.prog (S k) (lp (bodyF (Go.Proofs.Try.f45)) 0) := loopOk_mk (C := C k) (hC k) (Loops.all (n := 0) (by kernel_rfl) trivial) (lt := t4) (den := e4 k) (by kernel_rfl) (N := (Rows × ByteArray)) (A := (Rows × Bool × Int)) (R := (Rows × Bool))
 (fun n x => a4 n.1 n.2 x) (fun n r => o4_0 n.1 n.2 r) (fun n x => s4 k n.1 n.2 x) k (fun d => ((aR (aN d.a 0)), (aS (aN d.a 1)))) (fun d => ((aR (aN d.a 2)), (aB (aN d.a 3)), (aI (aN d.a 4)))) (fun d y h => out1_eval h) (fun d => by kernel_rfl) (fun n x => by kernel_rfl) (fun n r => ⟨_, rfl⟩)
theorem ok (k : Nat) : FunOk Try.prog 45 (d k) := fun_mk (C := C k) (hC k) (S := S k) Try.func45 (by kernel_rfl) (by kernel_rfl) (Loops.all (n := 1) (by kernel_rfl) ⟨trivial, l4 k⟩) (fun as_ => by kernel_rfl)
end ref10_put
namespace ref10_Union
noncomputable def C (k : Nat) : Cx := ⟨Try.prog, tab [(45, ref10_put.d k)], [], [], tab []⟩
noncomputable def t3 : LoopT := ⟨⟨33, [], [(0, .sl 9 none), (1, .sl 9 none), (5, .sl 9 none), (6, .int .i64)], [], [], []⟩, (fun | .exit 0 => some ⟨33, [], [(1, .sl 9 none), (5, .sl 9 none)], [], [], []⟩ | _ => none)⟩
noncomputable def s3 (k : Nat) (c0 : Rows) (c1 : Rows) (x : (Rows × Int)) : T ((Rows × Int) ⊕ Rows) :=
  .test (iLt x.2 (rLen c0))
   (.test (iIn x.2 (rLen c0))
    (.bnd (ref10_put.f k x.1 (rStr (rAt c0 x.2) 0)).eval default fun r0 =>
    .ret (.inl (r0, (iAdd .i64 x.2 (1)))))
    (.fail))
   (.ret (.inr x.1))
noncomputable def a3 (c0 : Rows) (c1 : Rows) (x : (Rows × Int)) : Dt := ⟨[.r c0, .r c1, .r x.1, .i x.2], [], [], []⟩
noncomputable def o3_0 (c0 : Rows) (c1 : Rows) (r : Rows) : X × Dt := (.exit 0, ⟨[.r c1, .r r], [], [], []⟩)
noncomputable def e3 (k : Nat) (d : Dt) : T (X × Dt) := out1 (iter (s3 k (aR (aN d.a 0)) (aR (aN d.a 1))) k ((aR (aN d.a 2)), (aI (aN d.a 3)))) default (o3_0 (aR (aN d.a 0)) (aR (aN d.a 1)))
noncomputable def t7 : LoopT := ⟨⟨33, [], [(1, .sl 9 none), (5, .sl 9 none), (7, .int .i64)], [], [], []⟩, (fun | .exit 2 => some ⟨33, [], [(5, .sl 9 none)], [], [], []⟩ | _ => none)⟩
noncomputable def s7 (k : Nat) (c0 : Rows) (x : (Rows × Int)) : T ((Rows × Int) ⊕ Rows) :=
  .test (iLt x.2 (rLen c0))
   (.test (iIn x.2 (rLen c0))
    (.bnd (ref10_put.f k x.1 (rStr (rAt c0 x.2) 0)).eval default fun r0 =>
    .ret (.inl (r0, (iAdd .i64 x.2 (1)))))
    (.fail))
   (.ret (.inr x.1))
noncomputable def a7 (c0 : Rows) (x : (Rows × Int)) : Dt := ⟨[.r c0, .r x.1, .i x.2], [], [], []⟩
noncomputable def o7_0 (c0 : Rows) (r : Rows) : X × Dt := (.exit 2, ⟨[.r r], [], [], []⟩)
noncomputable def e7 (k : Nat) (d : Dt) : T (X × Dt) := out1 (iter (s7 k (aR (aN d.a 0))) k ((aR (aN d.a 1)), (aI (aN d.a 2)))) default (o7_0 (aR (aN d.a 0)))
noncomputable def S (k : Nat) : Subs := fun n => bif Nat.beq n 3 then some (loopV Try.prog t3 (e3 k)) else bif Nat.beq n 7 then some (loopV Try.prog t7 (e7 k)) else none
noncomputable def f (k : Nat) (a0 : Rows) (a1 : Rows) : T Rows :=
  .bnd (iter (ref10_Union.s3 k a0 a1) k ([], (0))) default fun r0 =>
  .bnd (iter (ref10_Union.s7 k a1) k (r0, (0))) default fun r1 =>
  .ret r1
noncomputable def d (k : Nat) : Fun := mkFun [33, 33] (fun as_ => f k (vRows (vN as_ 0)) (vRows (vN as_ 1))) default (fun r => .slice 9 r .open)
theorem hC (k : Nat) : CxOk (C k) := CxOk.cons (p := (45, ref10_put.d k)) (ref10_put.ok k) (CxOk.nil)
theorem l3 (k : Nat) : LoopOk Try.prog (S k) (lp (bodyF (Go.Proofs.Try.f31)) 0) := loopOk_mk (C := C k) (hC k) (Loops.all (n := 0) (by kernel_rfl) trivial) (lt := t3) (den := e3 k) (by kernel_rfl) (N := (Rows × Rows)) (A := (Rows × Int)) (R := Rows)
 (fun n x => a3 n.1 n.2 x) (fun n r => o3_0 n.1 n.2 r) (fun n x => s3 k n.1 n.2 x) k (fun d => ((aR (aN d.a 0)), (aR (aN d.a 1)))) (fun d => ((aR (aN d.a 2)), (aI (aN d.a 3)))) (fun d y h => out1_eval h) (fun d => by kernel_rfl) (fun n x => by kernel_rfl) (fun n r => ⟨_, rfl⟩)
theorem l7 (k : Nat) : LoopOk Try.prog (S k) (lp (bodyF (Go.Proofs.Try.f31)) 1) := loopOk_mk (C := C k) (hC k) (Loops.all (n := 0) (by kernel_rfl) trivial) (lt := t7) (den := e7 k) (by kernel_rfl) (N := Rows) (A := (Rows × Int)) (R := Rows)
 (fun n x => a7 n x) (fun n r => o7_0 n r) (fun n x => s7 k n x) k (fun d => (aR (aN d.a 0))) (fun d => ((aR (aN d.a 1)), (aI (aN d.a 2)))) (fun d y h => out1_eval h) (fun d => by kernel_rfl) (fun n x => by kernel_rfl) (fun n r => ⟨_, rfl⟩)
theorem ok (k : Nat) : FunOk Try.prog 31 (d k) := fun_mk (C := C k) (hC k) (S := S k) Try.func31 (by kernel_rfl) (by kernel_rfl) (Loops.all (n := 2) (by kernel_rfl) ⟨⟨trivial, l3 k⟩, l7 k⟩) (fun as_ => by kernel_rfl)
end ref10_Union
namespace ref37_domain
noncomputable def C (k : Nat) : Cx := ⟨Try.prog, tab [(22, ref36_Domain.d k)], [], [], tab []⟩
noncomputable def t2 : LoopT := ⟨⟨34, [], [(1, .str), (2, .str), (3, .ptr 3 0), (8, .int .i64)], [], [(3, 26)], []⟩, (fun | .ret => some ⟨34, [], [(6, .str), (7, .bool)], [], [], []⟩ | .exit 0 => some ⟨34, [], [], [], [], []⟩ | _ => none)⟩
noncomputable def s2 (k : Nat) (c0 : ByteArray) (c1 : ByteArray) (c2 : Row) (x : Int) : T (Int ⊕ ((ByteArray × Bool) ⊕ Unit)) :=
  .test (iLt x (rLen (rSl c2 0)))
   (.test (iIn x (rLen (rSl c2 0)))
    (.test (sEq (rStr (rAt (rSl c2 0) x) 2) c0)
     (.test (iIn x (rLen (rSl c2 0)))
      (.bnd (ref36_Domain.f k (et 61 (rAt (rSl c2 0) x)) c1).eval default fun r0 =>
      .ret (.inr (.inl (r0.1, r0.2))))
      (.fail))
     (.ret (.inl (iAdd .i64 x (1)))))
    (.fail))
   (.ret (.inr (.inr ())))
noncomputable def a2 (c0 : ByteArray) (c1 : ByteArray) (c2 : Row) (x : Int) : Dt := ⟨[.s c0, .s c1, .u, .i x], [], [et 26 c2], []⟩
noncomputable def o2_0 (c0 : ByteArray) (c1 : ByteArray) (c2 : Row) (r : (ByteArray × Bool)) : X × Dt := (.ret, ⟨[.s r.1, .b r.2], [], [], []⟩)
noncomputable def o2_1 (c0 : ByteArray) (c1 : ByteArray) (c2 : Row) (r : Unit) : X × Dt := (.exit 0, ⟨[], [], [], []⟩)
noncomputable def e2 (k : Nat) (d : Dt) : T (X × Dt) := out2 (iter (s2 k (aS (aN d.a 0)) (aS (aN d.a 1)) (d.r.getD 0 [])) k (aI (aN d.a 3))) (o2_0 (aS (aN d.a 0)) (aS (aN d.a 1)) (d.r.getD 0 [])) (o2_1 (aS (aN d.a 0)) (aS (aN d.a 1)) (d.r.getD 0 []))
noncomputable def S (k : Nat) : Subs := fun n => bif Nat.beq n 2 then some (loopV Try.prog t2 (e2 k)) else none
noncomputable def f (k : Nat) (a0 : Row) (a1 : ByteArray) (a2 : ByteArray) : T (ByteArray × Bool) :=
  .cas (iter (ref37_domain.s2 k a1 a2 (et 26 a0)) k (0)) (fun r0 =>
   .ret (r0.1, r0.2)) (fun r1 =>
   .ret (ByteArray.empty, false))
noncomputable def d (k : Nat) : Fun := mkFun [26, 9, 9] (fun as_ => f k (vRow (vN as_ 0)) (vStr (vN as_ 1)) (vStr (vN as_ 2))) default (fun r => .tuple [.str r.1, .bool r.2])
theorem hC (k : Nat) : CxOk (C k) := CxOk.cons (p := (22, ref36_Domain.d k)) (ref36_Domain.ok k) (CxOk.nil)
theorem l2 (k : Nat) : LoopOk Try.prog (S k) (lp (bodyF (Go.Proofs.Try.f32)) 0) := loopOk_mk (C := C k) (hC k) (Loops.all (n := 0) (by kernel_rfl) trivial) (lt := t2) (den := e2 k) (by kernel_rfl) (N := (ByteArray × ByteArray × Row)) (A := Int) (R := ((ByteArray × Bool) ⊕ Unit))
 (fun n x => a2 n.1 n.2.1 n.2.2 x) (fun n r => Sum.elim (o2_0 n.1 n.2.1 n.2.2) (o2_1 n.1 n.2.1 n.2.2) r) (fun n x => s2 k n.1 n.2.1 n.2.2 x) k (fun d => ((aS (aN d.a 0)), (aS (aN d.a 1)), (d.r.getD 0 []))) (fun d => (aI (aN d.a 3))) (fun d y h => out2_eval h) (fun d => by kernel_rfl) (fun n x => by kernel_rfl) (fun n r => by rcases r with r | r <;> exact ⟨_, rfl⟩)
theorem ok (k : Nat) : FunOk Try.prog 32 (d k) := fun_mk (C := C k) (hC k) (S := S k) Try.func32 (by kernel_rfl) (by kernel_rfl) (Loops.all (n := 1) (by kernel_rfl) ⟨trivial, l2 k⟩) (fun as_ => by kernel_rfl)
end ref37_domain
namespace ref33_Active
noncomputable def C (k : Nat) : Cx := ⟨Try.prog, tab [], [], [], tab []⟩
noncomputable def S (k : Nat) : Subs := fun n => none
noncomputable def f (k : Nat) (a0 : Row) : T Bool :=
  .ret (bIte (bIte (iEq (rInt a0 23) (0)) true (iEq (rInt a0 23) (1))) (bNot (rBool a0 7)) false)
noncomputable def d (k : Nat) : Fun := mkFun [48] (fun as_ => f k (vRow (vN as_ 0))) default (fun r => .bool r)
theorem hC (k : Nat) : CxOk (C k) := CxOk.nil
theorem ok (k : Nat) : FunOk Try.prog 23 (d k) := fun_mk (C := C k) (hC k) (S := S k) Try.func23 (by kernel_rfl) (by kernel_rfl) (Loops.all (n := 0) (by kernel_rfl) trivial) (fun as_ => by kernel_rfl)
end ref33_Active
namespace ref03_among
noncomputable def C (k : Nat) : Cx := ⟨Try.prog, tab [], [], [], tab []⟩
noncomputable def t2 : LoopT := ⟨⟨18, [], [(0, .sl 9 none), (1, .str), (5, .int .i64)], [], [], []⟩, (fun | .ret => some ⟨18, [], [(4, .bool)], [], [], []⟩ | .exit 0 => some ⟨18, [], [], [], [], []⟩ | _ => none)⟩
noncomputable def s2 (k : Nat) (c0 : Rows) (c1 : ByteArray) (x : Int) : T (Int ⊕ (Bool ⊕ Unit)) :=
  .test (iLt x (rLen c0))
   (.test (iIn x (rLen c0))
    (.test (sEq (rStr (rAt c0 x) 0) c1)
     (.ret (.inr (.inl true)))
     (.ret (.inl (iAdd .i64 x (1)))))
    (.fail))
   (.ret (.inr (.inr ())))
noncomputable def a2 (c0 : Rows) (c1 : ByteArray) (x : Int) : Dt := ⟨[.r c0, .s c1, .i x], [], [], []⟩
noncomputable def o2_0 (c0 : Rows) (c1 : ByteArray) (r : Bool) : X × Dt := (.ret, ⟨[.b r], [], [], []⟩)
noncomputable def o2_1 (c0 : Rows) (c1 : ByteArray) (r : Unit) : X × Dt := (.exit 0, ⟨[], [], [], []⟩)
noncomputable def e2 (k : Nat) (d : Dt) : T (X × Dt) := out2 (iter (s2 k (aR (aN d.a 0)) (aS (aN d.a 1))) k (aI (aN d.a 2))) (o2_0 (aR (aN d.a 0)) (aS (aN d.a 1))) (o2_1 (aR (aN d.a 0)) (aS (aN d.a 1)))
noncomputable def S (k : Nat) : Subs := fun n => bif Nat.beq n 2 then some (loopV Try.prog t2 (e2 k)) else none
noncomputable def f (k : Nat) (a0 : Rows) (a1 : ByteArray) : T Bool :=
  .cas (iter (ref03_among.s2 k a0 a1) k (0)) (fun r0 =>
   .ret r0) (fun r1 =>
   .ret false)
noncomputable def d (k : Nat) : Fun := mkFun [33, 9] (fun as_ => f k (vRows (vN as_ 0)) (vStr (vN as_ 1))) default (fun r => .bool r)
theorem hC (k : Nat) : CxOk (C k) := CxOk.nil
theorem l2 (k : Nat) : LoopOk Try.prog (S k) (lp (bodyF (Go.Proofs.Try.f53)) 0) := loopOk_mk (C := C k) (hC k) (Loops.all (n := 0) (by kernel_rfl) trivial) (lt := t2) (den := e2 k) (by kernel_rfl) (N := (Rows × ByteArray)) (A := Int) (R := (Bool ⊕ Unit))
 (fun n x => a2 n.1 n.2 x) (fun n r => Sum.elim (o2_0 n.1 n.2) (o2_1 n.1 n.2) r) (fun n x => s2 k n.1 n.2 x) k (fun d => ((aR (aN d.a 0)), (aS (aN d.a 1)))) (fun d => (aI (aN d.a 2))) (fun d y h => out2_eval h) (fun d => by kernel_rfl) (fun n x => by kernel_rfl) (fun n r => by rcases r with r | r <;> exact ⟨_, rfl⟩)
theorem ok (k : Nat) : FunOk Try.prog 53 (d k) := fun_mk (C := C k) (hC k) (S := S k) Try.func53 (by kernel_rfl) (by kernel_rfl) (Loops.all (n := 1) (by kernel_rfl) ⟨trivial, l2 k⟩) (fun as_ => by kernel_rfl)
end ref03_among
namespace ref03_holds
noncomputable def C (k : Nat) : Cx := ⟨Try.prog, tab [(39, ref03_Get.d k), (53, ref03_among.d k)], [], [], tab []⟩
noncomputable def S (k : Nat) : Subs := fun n => none
noncomputable def f (k : Nat) (a0 : Row) (a1 : Rows) : T Bool :=
  .bnd (ref03_Get.f k a1 (rStr a0 0)).eval default fun r0 =>
  .test (iEq (rInt a0 1) (1))
   (.opt r0.2 (ref03_among.f k (rSl a0 2) r0.1).eval default fun r1 =>
   .ret (bIte r0.2 r1 false))
   (.test (iEq (rInt a0 1) (2))
    (.opt (bNot (bNot r0.2)) (ref03_among.f k (rSl a0 2) r0.1).eval default fun r2 =>
    .ret (bIte (bNot r0.2) true (bNot r2)))
    (.ret (bIte (bIte (iEq (rInt a0 1) (3)) r0.2 false) true (bIte (iEq (rInt a0 1) (4)) (bNot r0.2) false))))
noncomputable def d (k : Nat) : Fun := mkFun [76, 31] (fun as_ => f k (vRow (vN as_ 0)) (vRows (vN as_ 1))) default (fun r => .bool r)
theorem hC (k : Nat) : CxOk (C k) := CxOk.cons (p := (39, ref03_Get.d k)) (ref03_Get.ok k) (CxOk.cons (p := (53, ref03_among.d k)) (ref03_among.ok k) (CxOk.nil))
theorem ok (k : Nat) : FunOk Try.prog 37 (d k) := fun_mk (C := C k) (hC k) (S := S k) Try.func37 (by kernel_rfl) (by kernel_rfl) (Loops.all (n := 0) (by kernel_rfl) trivial) (fun as_ => by kernel_rfl)
end ref03_holds
namespace ref03_Matches
noncomputable def C (k : Nat) : Cx := ⟨Try.prog, tab [(37, ref03_holds.d k)], [], [], tab []⟩
noncomputable def t2 : LoopT := ⟨⟨19, [], [(0, .sl 76 none), (1, .sl 93 none), (5, .int .i64)], [], [], []⟩, (fun | .ret => some ⟨19, [], [(4, .bool)], [], [], []⟩ | .exit 0 => some ⟨19, [], [], [], [], []⟩ | _ => none)⟩
noncomputable def s2 (k : Nat) (c0 : Rows) (c1 : Rows) (x : Int) : T (Int ⊕ (Bool ⊕ Unit)) :=
  .test (iLt x (rLen c0))
   (.test (iIn x (rLen c0))
    (.bnd (ref03_holds.f k (et 76 (rAt c0 x)) c1).eval default fun r0 =>
    .test (bNot r0)
     (.ret (.inr (.inl false)))
     (.ret (.inl (iAdd .i64 x (1)))))
    (.fail))
   (.ret (.inr (.inr ())))
noncomputable def a2 (c0 : Rows) (c1 : Rows) (x : Int) : Dt := ⟨[.r c0, .r c1, .i x], [], [], []⟩
noncomputable def o2_0 (c0 : Rows) (c1 : Rows) (r : Bool) : X × Dt := (.ret, ⟨[.b r], [], [], []⟩)
noncomputable def o2_1 (c0 : Rows) (c1 : Rows) (r : Unit) : X × Dt := (.exit 0, ⟨[], [], [], []⟩)
noncomputable def e2 (k : Nat) (d : Dt) : T (X × Dt) := out2 (iter (s2 k (aR (aN d.a 0)) (aR (aN d.a 1))) k (aI (aN d.a 2))) (o2_0 (aR (aN d.a 0)) (aR (aN d.a 1))) (o2_1 (aR (aN d.a 0)) (aR (aN d.a 1)))
noncomputable def S (k : Nat) : Subs := fun n => bif Nat.beq n 2 then some (loopV Try.prog t2 (e2 k)) else none
noncomputable def f (k : Nat) (a0 : Rows) (a1 : Rows) : T Bool :=
  .cas (iter (ref03_Matches.s2 k a0 a1) k (0)) (fun r0 =>
   .ret r0) (fun r1 =>
   .ret true)
noncomputable def d (k : Nat) : Fun := mkFun [27, 31] (fun as_ => f k (vRows (vN as_ 0)) (vRows (vN as_ 1))) default (fun r => .bool r)
theorem hC (k : Nat) : CxOk (C k) := CxOk.cons (p := (37, ref03_holds.d k)) (ref03_holds.ok k) (CxOk.nil)
theorem l2 (k : Nat) : LoopOk Try.prog (S k) (lp (bodyF (Go.Proofs.Try.f17)) 0) := loopOk_mk (C := C k) (hC k) (Loops.all (n := 0) (by kernel_rfl) trivial) (lt := t2) (den := e2 k) (by kernel_rfl) (N := (Rows × Rows)) (A := Int) (R := (Bool ⊕ Unit))
 (fun n x => a2 n.1 n.2 x) (fun n r => Sum.elim (o2_0 n.1 n.2) (o2_1 n.1 n.2) r) (fun n x => s2 k n.1 n.2 x) k (fun d => ((aR (aN d.a 0)), (aR (aN d.a 1)))) (fun d => (aI (aN d.a 2))) (fun d y h => out2_eval h) (fun d => by kernel_rfl) (fun n x => by kernel_rfl) (fun n r => by rcases r with r | r <;> exact ⟨_, rfl⟩)
theorem ok (k : Nat) : FunOk Try.prog 17 (d k) := fun_mk (C := C k) (hC k) (S := S k) Try.func17 (by kernel_rfl) (by kernel_rfl) (Loops.all (n := 1) (by kernel_rfl) ⟨trivial, l2 k⟩) (fun as_ => by kernel_rfl)
end ref03_Matches
namespace ref37_Counts
noncomputable def C (k : Nat) : Cx := ⟨Try.prog, tab [(22, ref36_Domain.d k), (31, ref10_Union.d k), (32, ref37_domain.d k), (23, ref33_Active.d k), (17, ref03_Matches.d k)], [], [], tab []⟩
noncomputable def t3 : LoopT := ⟨⟨111, [], [(1, .str), (3, .ptr 3 0), (5, .ptr 5 0), (7, .sl 9 none), (8, .int .i64)], [], [(3, 26), (5, 29)], []⟩, (fun | .exit 0 => some ⟨111, [], [(1, .str), (3, .ptr 3 0), (5, .ptr 5 0), (7, .sl 9 none)], [], [(3, 26), (5, 29)], []⟩ | _ => none)⟩
noncomputable def s3 (k : Nat) (c0 : ByteArray) (c1 : Row) (c2 : Row) (x : (Rows × Int)) : T ((Rows × Int) ⊕ Rows) :=
  .test (iLt x.2 (rLen (rSl c1 0)))
   (.test (iIn x.2 (rLen (rSl c1 0)))
    (.bnd (ref36_Domain.f k (et 61 (rAt (rSl c1 0) x.2)) (rStr c2 1)).eval default fun r0 =>
    .test r0.2
     (.bnd (ref10_Union.f k x.1 [[.str r0.1]]).eval default fun r1 =>
     .ret (.inl (r1, (iAdd .i64 x.2 (1)))))
     (.ret (.inl (x.1, (iAdd .i64 x.2 (1))))))
    (.fail))
   (.ret (.inr x.1))
noncomputable def a3 (c0 : ByteArray) (c1 : Row) (c2 : Row) (x : (Rows × Int)) : Dt := ⟨[.s c0, .u, .u, .r x.1, .i x.2], [], [et 26 c1, et 29 c2], []⟩
noncomputable def o3_0 (c0 : ByteArray) (c1 : Row) (c2 : Row) (r : Rows) : X × Dt := (.exit 0, ⟨[.s c0, .u, .u, .r r], [], [(et 26 c1), (et 29 c2)], []⟩)
noncomputable def e3 (k : Nat) (d : Dt) : T (X × Dt) := out1 (iter (s3 k (aS (aN d.a 0)) (d.r.getD 0 []) (d.r.getD 1 [])) k ((aR (aN d.a 3)), (aI (aN d.a 4)))) default (o3_0 (aS (aN d.a 0)) (d.r.getD 0 []) (d.r.getD 1 []))
noncomputable def t14 : LoopT := ⟨⟨111, [], [(1, .str), (3, .ptr 3 0), (5, .ptr 5 0), (7, .sl 9 none), (11, .sl 54 (some 109)), (12, .int .i64), (13, .ptr 13 0), (14, .int .i64)], [], [(3, 26), (5, 29), (13, 54)], []⟩, (fun | .exit 4 => some ⟨111, [], [(1, .str), (3, .ptr 3 0), (5, .ptr 5 0), (7, .sl 9 none), (11, .sl 54 (some 109)), (12, .int .i64), (13, .ptr 13 0)], [], [(3, 26), (5, 29), (13, 54)], []⟩ | _ => none)⟩
noncomputable def s14 (k : Nat) (c0 : ByteArray) (c1 : Rows) (c2 : Rows) (c3 : Int) (c4 : Row) (c5 : Row) (x : (Int × Row)) : T ((Int × Row) ⊕ Row) :=
  .test (iLt x.1 (rLen (rSl c4 1)))
   (.test (iIn x.1 (rLen (rSl c4 1)))
    (.bnd (ref37_domain.f k (et 26 c4) (rStr (rAt (rSl c4 1) x.1) 13) (rStr c5 1)).eval default fun r0 =>
    .test (bImp r0.2 (iIn c3 (rLen c1)))
     (.opt (bIte r0.2 (sEq r0.1 (rStr (rAt c1 c3) 0)) false) (ref33_Active.f k (et 48 (rAt (rSl c4 1) x.1))).eval default fun r1 =>
     .opt (bIte (bIte (bIte r0.2 (sEq r0.1 (rStr (rAt c1 c3) 0)) false) r1 false) (sEq (rStr (rAt (rSl c4 1) x.1) 1) c0) false) (ref03_Matches.f k (rSl c5 2) (rSl (rAt (rSl c4 1) x.1) 9)).eval default fun r2 =>
     .test (bIte (bIte (bIte (bIte r0.2 (sEq r0.1 (rStr (rAt c1 c3) 0)) false) r1 false) (sEq (rStr (rAt (rSl c4 1) x.1) 1) c0) false) r2 false)
      (.ret (.inl ((iAdd .i64 x.1 (1)), [.str (rStr x.2 0), .int .i64 (iAdd .i64 (rInt x.2 1) (1))])))
      (.ret (.inl ((iAdd .i64 x.1 (1)), (et 54 x.2)))))
     (.fail))
    (.fail))
   (.ret (.inr (et 54 x.2)))
noncomputable def a14 (c0 : ByteArray) (c1 : Rows) (c2 : Rows) (c3 : Int) (c4 : Row) (c5 : Row) (x : (Int × Row)) : Dt := ⟨[.s c0, .u, .u, .r c1, .r c2, .i c3, .u, .i x.1], [], [et 26 c4, et 29 c5, et 54 x.2], []⟩
noncomputable def o14_0 (c0 : ByteArray) (c1 : Rows) (c2 : Rows) (c3 : Int) (c4 : Row) (c5 : Row) (r : Row) : X × Dt := (.exit 4, ⟨[.s c0, .u, .u, .r c1, .r c2, .i c3, .u], [], [(et 26 c4), (et 29 c5), r], []⟩)
noncomputable def e14 (k : Nat) (d : Dt) : T (X × Dt) := out1 (iter (s14 k (aS (aN d.a 0)) (aR (aN d.a 3)) (aR (aN d.a 4)) (aI (aN d.a 5)) (d.r.getD 0 []) (d.r.getD 1 [])) k ((aI (aN d.a 7)), (d.r.getD 2 []))) default (o14_0 (aS (aN d.a 0)) (aR (aN d.a 3)) (aR (aN d.a 4)) (aI (aN d.a 5)) (d.r.getD 0 []) (d.r.getD 1 []))
noncomputable def t10 : LoopT := ⟨⟨111, [.tmp 11 109 54], [(1, .str), (3, .ptr 3 0), (5, .ptr 5 0), (7, .sl 9 none), (11, .sl 54 (some 109)), (12, .int .i64)], [], [(3, 26), (5, 29)], []⟩, (fun | .exit 2 => some ⟨111, [], [(11, .sl 54 (some 109))], [], [], []⟩ | _ => none)⟩
noncomputable def s10 (k : Nat) (c0 : ByteArray) (c1 : Rows) (c2 : Row) (c3 : Row) (x : (Rows × Int)) : T ((Rows × Int) ⊕ Rows) :=
  .test (iLt x.2 (rLen c1))
   (.test (iIn x.2 (rLen c1))
    (.bnd (iter (ref37_Counts.s14 k c0 c1 x.1 x.2 (et 26 c2) (et 29 c3)) k ((0), [.str (rStr (rAt c1 x.2) 0), .int .i64 (0)])) default fun r0 =>
    .test (rOk 24 (rLen x.1) (rLen [(et 54 r0)]))
     (.ret (.inl ((rCat x.1 [(et 54 r0)]), (iAdd .i64 x.2 (1)))))
     (.fail))
    (.fail))
   (.ret (.inr x.1))
noncomputable def a10 (c0 : ByteArray) (c1 : Rows) (c2 : Row) (c3 : Row) (x : (Rows × Int)) : Dt := ⟨[.s c0, .u, .u, .r c1, .r x.1, .i x.2], [], [et 26 c2, et 29 c3], []⟩
noncomputable def o10_0 (c0 : ByteArray) (c1 : Rows) (c2 : Row) (c3 : Row) (r : Rows) : X × Dt := (.exit 2, ⟨[.r r], [], [], []⟩)
noncomputable def e10 (k : Nat) (d : Dt) : T (X × Dt) := out1 (iter (s10 k (aS (aN d.a 0)) (aR (aN d.a 3)) (d.r.getD 0 []) (d.r.getD 1 [])) k ((aR (aN d.a 4)), (aI (aN d.a 5)))) default (o10_0 (aS (aN d.a 0)) (aR (aN d.a 3)) (d.r.getD 0 []) (d.r.getD 1 []))
noncomputable def S (k : Nat) : Subs := fun n => bif Nat.beq n 3 then some (loopV Try.prog t3 (e3 k)) else bif Nat.beq n 14 then some (loopV Try.prog t14 (e14 k)) else bif Nat.beq n 10 then some (loopV Try.prog t10 (e10 k)) else none
noncomputable def f (k : Nat) (a0 : Row) (a1 : ByteArray) (a2 : Row) : T Rows :=
  .bnd (iter (ref37_Counts.s3 k a1 (et 26 a0) (et 29 a2)) k ([], (0))) default fun r0 =>
  .bnd (iter (ref37_Counts.s10 k a1 r0 (et 26 a0) (et 29 a2)) k ([], (0))) default fun r1 =>
  .ret r1
noncomputable def d (k : Nat) : Fun := mkFun [26, 9, 29] (fun as_ => f k (vRow (vN as_ 0)) (vStr (vN as_ 1)) (vRow (vN as_ 2))) default (fun r => .slice 54 r .open)
theorem hC (k : Nat) : CxOk (C k) := CxOk.cons (p := (22, ref36_Domain.d k)) (ref36_Domain.ok k) (CxOk.cons (p := (31, ref10_Union.d k)) (ref10_Union.ok k) (CxOk.cons (p := (32, ref37_domain.d k)) (ref37_domain.ok k) (CxOk.cons (p := (23, ref33_Active.d k)) (ref33_Active.ok k) (CxOk.cons (p := (17, ref03_Matches.d k)) (ref03_Matches.ok k) (CxOk.nil)))))
theorem l3 (k : Nat) : LoopOk Try.prog (S k) (lp (bodyF (Go.Proofs.Try.f11)) 0) := loopOk_mk (C := C k) (hC k) (Loops.all (n := 0) (by kernel_rfl) trivial) (lt := t3) (den := e3 k) (by kernel_rfl) (N := (ByteArray × Row × Row)) (A := (Rows × Int)) (R := Rows)
 (fun n x => a3 n.1 n.2.1 n.2.2 x) (fun n r => o3_0 n.1 n.2.1 n.2.2 r) (fun n x => s3 k n.1 n.2.1 n.2.2 x) k (fun d => ((aS (aN d.a 0)), (d.r.getD 0 []), (d.r.getD 1 []))) (fun d => ((aR (aN d.a 3)), (aI (aN d.a 4)))) (fun d y h => out1_eval h) (fun d => by kernel_rfl) (fun n x => by kernel_rfl) (fun n r => ⟨_, rfl⟩)
theorem l14 (k : Nat) : LoopOk Try.prog (S k) (lp (lp (bodyF (Go.Proofs.Try.f11)) 1) 0) := loopOk_mk (C := C k) (hC k) (Loops.all (n := 0) (by kernel_rfl) trivial) (lt := t14) (den := e14 k) (by kernel_rfl) (N := (ByteArray × Rows × Rows × Int × Row × Row)) (A := (Int × Row)) (R := Row)
 (fun n x => a14 n.1 n.2.1 n.2.2.1 n.2.2.2.1 n.2.2.2.2.1 n.2.2.2.2.2 x) (fun n r => o14_0 n.1 n.2.1 n.2.2.1 n.2.2.2.1 n.2.2.2.2.1 n.2.2.2.2.2 r) (fun n x => s14 k n.1 n.2.1 n.2.2.1 n.2.2.2.1 n.2.2.2.2.1 n.2.2.2.2.2 x) k (fun d => ((aS (aN d.a 0)), (aR (aN d.a 3)), (aR (aN d.a 4)), (aI (aN d.a 5)), (d.r.getD 0 []), (d.r.getD 1 []))) (fun d => ((aI (aN d.a 7)), (d.r.getD 2 []))) (fun d y h => out1_eval h) (fun d => by kernel_rfl) (fun n x => by kernel_rfl) (fun n r => ⟨_, rfl⟩)
theorem l10 (k : Nat) : LoopOk Try.prog (S k) (lp (bodyF (Go.Proofs.Try.f11)) 1) := loopOk_mk (C := C k) (hC k) (Loops.all (n := 1) (by kernel_rfl) ⟨trivial, l14 k⟩) (lt := t10) (den := e10 k) (by kernel_rfl) (N := (ByteArray × Rows × Row × Row)) (A := (Rows × Int)) (R := Rows)
 (fun n x => a10 n.1 n.2.1 n.2.2.1 n.2.2.2 x) (fun n r => o10_0 n.1 n.2.1 n.2.2.1 n.2.2.2 r) (fun n x => s10 k n.1 n.2.1 n.2.2.1 n.2.2.2 x) k (fun d => ((aS (aN d.a 0)), (aR (aN d.a 3)), (d.r.getD 0 []), (d.r.getD 1 []))) (fun d => ((aR (aN d.a 4)), (aI (aN d.a 5)))) (fun d y h => out1_eval h) (fun d => by kernel_rfl) (fun n x => by kernel_rfl) (fun n r => ⟨_, rfl⟩)
theorem ok (k : Nat) : FunOk Try.prog 11 (d k) := fun_mk (C := C k) (hC k) (S := S k) Try.func11 (by kernel_rfl) (by kernel_rfl) (Loops.all (n := 2) (by kernel_rfl) ⟨⟨trivial, l3 k⟩, l10 k⟩) (fun as_ => by kernel_rfl)
end ref37_Counts
namespace law37_SpreadCounts
noncomputable def C (k : Nat) : Cx := ⟨Try.prog, tab [(7, law37_heavy.d k), (8, law37_wide.d k), (9, law37_awake.d k), (10, spread_Counts.d k), (11, ref37_Counts.d k)], [], [], tab []⟩
noncomputable def t7 : LoopT := ⟨⟨48, [], [(7, .sl 54 none), (8, .sl 54 none), (9, .int .i64)], [], [], []⟩, (fun | .ret => some ⟨48, [], [(6, .bool)], [], [], []⟩ | .exit 0 => some ⟨48, [], [], [], [], []⟩ | _ => none)⟩
noncomputable def s7 (k : Nat) (c0 : Rows) (c1 : Rows) (x : Int) : T (Int ⊕ (Bool ⊕ Unit)) :=
  .test (iLt x (rLen c0))
   (.test (iIn x (rLen c0))
    (.test (iIn x (rLen c1))
     (.test (bNot (bAnd (sEq (rStr (rAt c0 x) 0) (rStr (rAt c1 x) 0)) (iEq (rInt (rAt c0 x) 1) (rInt (rAt c1 x) 1))))
      (.ret (.inr (.inl false)))
      (.ret (.inl (iAdd .i64 x (1)))))
     (.fail))
    (.fail))
   (.ret (.inr (.inr ())))
noncomputable def a7 (c0 : Rows) (c1 : Rows) (x : Int) : Dt := ⟨[.r c0, .r c1, .i x], [], [], []⟩
noncomputable def o7_0 (c0 : Rows) (c1 : Rows) (r : Bool) : X × Dt := (.ret, ⟨[.b r], [], [], []⟩)
noncomputable def o7_1 (c0 : Rows) (c1 : Rows) (r : Unit) : X × Dt := (.exit 0, ⟨[], [], [], []⟩)
noncomputable def e7 (k : Nat) (d : Dt) : T (X × Dt) := out2 (iter (s7 k (aR (aN d.a 0)) (aR (aN d.a 1))) k (aI (aN d.a 2))) (o7_0 (aR (aN d.a 0)) (aR (aN d.a 1))) (o7_1 (aR (aN d.a 0)) (aR (aN d.a 1)))
noncomputable def S (k : Nat) : Subs := fun n => bif Nat.beq n 7 then some (loopV Try.prog t7 (e7 k)) else none
noncomputable def f (k : Nat) (a0 : Row) (a1 : ByteArray) (a2 : Row) : T Bool :=
  .bnd (law37_heavy.f k (et 26 a0) [.str ByteArray.empty, .str ByteArray.empty, .str ByteArray.empty, .int .i64 (0), .int .i64 (0), .int .i64 (0), .int .i64 (0), .bool false, .int .i64 (0), .slice 93 [] .open, .slice 149 [] .open, .slice 9 [] .open, .slice 151 [] .open, .str ByteArray.empty, .int .i64 (0), .int .i64 (0), .int .i64 (0), .slice 154 [] .open, .slice 76 [] .open, .slice 156 [] .open, .slice 158 [] .open, .slice 29 [] .open, .slice 160 [] .open, .int .i64 (0), .bool false, .int .i64 (0), .int .i64 (0), .int .i64 (0), .slice 162 [] .open, .int .i64 (0), .str ByteArray.empty, .str ByteArray.empty]).eval default fun r0 =>
  .opt (bNot r0) (law37_wide.f k (rSl a2 2)).eval default fun r1 =>
  .test (bIte r0 true r1)
   (.bnd (law37_awake.f k).eval default fun r2 =>
   .ret r2)
   (.bnd (spread_Counts.f k (et 26 a0) a1 (et 29 a2)).eval default fun r3 =>
   .bnd (ref37_Counts.f k (et 26 a0) a1 (et 29 a2)).eval default fun r4 =>
   .test (bNot (iEq (rLen r3) (rLen r4)))
    (.ret false)
    (.cas (iter (law37_SpreadCounts.s7 k r3 r4) k (0)) (fun r5 =>
     .ret r5) (fun r6 =>
     .bnd (law37_awake.f k).eval default fun r7 =>
     .ret r7)))
noncomputable def d (k : Nat) : Fun := mkFun [26, 9, 29] (fun as_ => f k (vRow (vN as_ 0)) (vStr (vN as_ 1)) (vRow (vN as_ 2))) default (fun r => .bool r)
theorem hC (k : Nat) : CxOk (C k) := CxOk.cons (p := (7, law37_heavy.d k)) (law37_heavy.ok k) (CxOk.cons (p := (8, law37_wide.d k)) (law37_wide.ok k) (CxOk.cons (p := (9, law37_awake.d k)) (law37_awake.ok k) (CxOk.cons (p := (10, spread_Counts.d k)) (spread_Counts.ok k) (CxOk.cons (p := (11, ref37_Counts.d k)) (ref37_Counts.ok k) (CxOk.nil)))))
theorem l7 (k : Nat) : LoopOk Try.prog (S k) (lp (bodyF (Go.Proofs.Try.f3)) 0) := loopOk_mk (C := C k) (hC k) (Loops.all (n := 0) (by kernel_rfl) trivial) (lt := t7) (den := e7 k) (by kernel_rfl) (N := (Rows × Rows)) (A := Int) (R := (Bool ⊕ Unit))
 (fun n x => a7 n.1 n.2 x) (fun n r => Sum.elim (o7_0 n.1 n.2) (o7_1 n.1 n.2) r) (fun n x => s7 k n.1 n.2 x) k (fun d => ((aR (aN d.a 0)), (aR (aN d.a 1)))) (fun d => (aI (aN d.a 2))) (fun d y h => out2_eval h) (fun d => by kernel_rfl) (fun n x => by kernel_rfl) (fun n r => by rcases r with r | r <;> exact ⟨_, rfl⟩)
theorem ok (k : Nat) : FunOk Try.prog 3 (d k) := fun_mk (C := C k) (hC k) (S := S k) Try.func3 (by kernel_rfl) (by kernel_rfl) (Loops.all (n := 1) (by kernel_rfl) ⟨trivial, l7 k⟩) (fun as_ => by kernel_rfl)
end law37_SpreadCounts
namespace ref13_Key
noncomputable def C (k : Nat) : Cx := ⟨Try.prog, tab [], [], [], tab []⟩
noncomputable def S (k : Nat) : Subs := fun n => none
noncomputable def f (k : Nat) (a0 : ByteArray) (a1 : ByteArray) (a2 : ByteArray) : T ByteArray :=
  .test (sOk (sLen a0) (sLen (bs [47])))
   (.test (sOk (sLen (sCat a0 (bs [47]))) (sLen a1))
    (.test (sOk (sLen (sCat (sCat a0 (bs [47])) a1)) (sLen (bs [47])))
     (.test (sOk (sLen (sCat (sCat (sCat a0 (bs [47])) a1) (bs [47]))) (sLen a2))
      (.ret (sCat (sCat (sCat (sCat a0 (bs [47])) a1) (bs [47])) a2))
      (.fail))
     (.fail))
    (.fail))
   (.fail)
noncomputable def d (k : Nat) : Fun := mkFun [9, 9, 9] (fun as_ => f k (vStr (vN as_ 0)) (vStr (vN as_ 1)) (vStr (vN as_ 2))) default (fun r => .str r)
theorem hC (k : Nat) : CxOk (C k) := CxOk.nil
theorem ok (k : Nat) : FunOk Try.prog 52 (d k) := fun_mk (C := C k) (hC k) (S := S k) Try.func52 (by kernel_rfl) (by kernel_rfl) (Loops.all (n := 0) (by kernel_rfl) trivial) (fun as_ => by kernel_rfl)
end ref13_Key
namespace ref13_KeyOf
noncomputable def C (k : Nat) : Cx := ⟨Try.prog, tab [(52, ref13_Key.d k)], [], [], tab []⟩
noncomputable def S (k : Nat) : Subs := fun n => none
noncomputable def f (k : Nat) (a0 : Row) : T ByteArray :=
  .bnd (ref13_Key.f k (rStr a0 0) (rStr a0 1) (rStr a0 2)).eval default fun r0 =>
  .ret r0
noncomputable def d (k : Nat) : Fun := mkFun [36] (fun as_ => f k (vRow (vN as_ 0))) default (fun r => .str r)
theorem hC (k : Nat) : CxOk (C k) := CxOk.cons (p := (52, ref13_Key.d k)) (ref13_Key.ok k) (CxOk.nil)
theorem ok (k : Nat) : FunOk Try.prog 35 (d k) := fun_mk (C := C k) (hC k) (S := S k) Try.func35 (by kernel_rfl) (by kernel_rfl) (Loops.all (n := 0) (by kernel_rfl) trivial) (fun as_ => by kernel_rfl)
end ref13_KeyOf
namespace ref37_others
noncomputable def C (k : Nat) : Cx := ⟨Try.prog, tab [(35, ref13_KeyOf.d k)], [], [], tab []⟩
noncomputable def t4 : LoopT := ⟨⟨36, [.cell 5 1 33 48], [(1, .str), (2, .ptr 2 0), (4, .ptr 4 0), (5, .ptr 5 0), (6, .int .i64)], [(5, [.sl 61 none, .sl 48 (some 33), .sl 147 none, .int .i64])], [(2, 26), (4, 26)], []⟩, (fun | .exit 0 => some ⟨36, [], [(4, .ptr 4 0), (5, .ptr 5 0)], [(5, [.sl 61 none, .sl 48 (some 33), .sl 147 none, .int .i64])], [(4, 26)], []⟩ | _ => none)⟩
noncomputable def s4 (k : Nat) (c0 : ByteArray) (c1 : Rows) (c2 : Rows) (c3 : Int) (c4 : Row) (c5 : Row) (x : (Int × Rows)) : T ((Int × Rows) ⊕ Rows) :=
  .test (iLt x.1 (rLen (rSl c4 1)))
   (.test (iIn x.1 (rLen (rSl c4 1)))
    (.bnd (ref13_KeyOf.f k (et 36 (rAt (rSl c4 1) x.1))).eval default fun r0 =>
    .test (bNot (sEq r0 c0))
     (.test (iIn x.1 (rLen (rSl c4 1)))
      (.test (rOk 480 (rLen x.2) (rLen [(rJ [(et 36 (rAt (rSl c4 1) x.1)), [.str (rStr (rAt (rSl c4 1) x.1) 13), .int .i64 (rInt (rAt (rSl c4 1) x.1) 14), .int .i64 (rInt (rAt (rSl c4 1) x.1) 15), .int .i64 (rInt (rAt (rSl c4 1) x.1) 16), .slice 154 (rSl (rAt (rSl c4 1) x.1) 17) .open, .slice 76 (rSl (rAt (rSl c4 1) x.1) 18) .open, .slice 156 (rSl (rAt (rSl c4 1) x.1) 19) .open, .slice 158 (rSl (rAt (rSl c4 1) x.1) 20) .open, .slice 29 (rSl (rAt (rSl c4 1) x.1) 21) .open, .slice 160 (rSl (rAt (rSl c4 1) x.1) 22) .open, .int .i64 (rInt (rAt (rSl c4 1) x.1) 23), .bool (rBool (rAt (rSl c4 1) x.1) 24), .int .i64 (rInt (rAt (rSl c4 1) x.1) 25), .int .i64 (rInt (rAt (rSl c4 1) x.1) 26), .int .i64 (rInt (rAt (rSl c4 1) x.1) 27), .slice 162 (rSl (rAt (rSl c4 1) x.1) 28) .open, .int .i64 (rInt (rAt (rSl c4 1) x.1) 29), .str (rStr (rAt (rSl c4 1) x.1) 30), .str (rStr (rAt (rSl c4 1) x.1) 31)]])]))
       (.ret (.inl ((iAdd .i64 x.1 (1)), (rCat x.2 [(rJ [(et 36 (rAt (rSl c4 1) x.1)), [.str (rStr (rAt (rSl c4 1) x.1) 13), .int .i64 (rInt (rAt (rSl c4 1) x.1) 14), .int .i64 (rInt (rAt (rSl c4 1) x.1) 15), .int .i64 (rInt (rAt (rSl c4 1) x.1) 16), .slice 154 (rSl (rAt (rSl c4 1) x.1) 17) .open, .slice 76 (rSl (rAt (rSl c4 1) x.1) 18) .open, .slice 156 (rSl (rAt (rSl c4 1) x.1) 19) .open, .slice 158 (rSl (rAt (rSl c4 1) x.1) 20) .open, .slice 29 (rSl (rAt (rSl c4 1) x.1) 21) .open, .slice 160 (rSl (rAt (rSl c4 1) x.1) 22) .open, .int .i64 (rInt (rAt (rSl c4 1) x.1) 23), .bool (rBool (rAt (rSl c4 1) x.1) 24), .int .i64 (rInt (rAt (rSl c4 1) x.1) 25), .int .i64 (rInt (rAt (rSl c4 1) x.1) 26), .int .i64 (rInt (rAt (rSl c4 1) x.1) 27), .slice 162 (rSl (rAt (rSl c4 1) x.1) 28) .open, .int .i64 (rInt (rAt (rSl c4 1) x.1) 29), .str (rStr (rAt (rSl c4 1) x.1) 30), .str (rStr (rAt (rSl c4 1) x.1) 31)]])]))))
       (.fail))
      (.fail))
     (.ret (.inl ((iAdd .i64 x.1 (1)), x.2))))
    (.fail))
   (.ret (.inr x.2))
noncomputable def a4 (c0 : ByteArray) (c1 : Rows) (c2 : Rows) (c3 : Int) (c4 : Row) (c5 : Row) (x : (Int × Rows)) : Dt := ⟨[.s c0, .u, .u, .u, .i x.1], [[.r c1, .r x.2, .r c2, .i c3]], [et 26 c4, et 26 c5], []⟩
noncomputable def o4_0 (c0 : ByteArray) (c1 : Rows) (c2 : Rows) (c3 : Int) (c4 : Row) (c5 : Row) (r : Rows) : X × Dt := (.exit 0, ⟨[.u, .u], [[.r c1, .r r, .r c2, .i c3]], [(et 26 c5)], []⟩)
noncomputable def e4 (k : Nat) (d : Dt) : T (X × Dt) := out1 (iter (s4 k (aS (aN d.a 0)) (aR (aN (d.b.getD 0 []) 0)) (aR (aN (d.b.getD 0 []) 2)) (aI (aN (d.b.getD 0 []) 3)) (d.r.getD 0 []) (d.r.getD 1 [])) k ((aI (aN d.a 4)), (aR (aN (d.b.getD 0 []) 1)))) default (o4_0 (aS (aN d.a 0)) (aR (aN (d.b.getD 0 []) 0)) (aR (aN (d.b.getD 0 []) 2)) (aI (aN (d.b.getD 0 []) 3)) (d.r.getD 0 []) (d.r.getD 1 []))
noncomputable def S (k : Nat) : Subs := fun n => bif Nat.beq n 4 then some (loopV Try.prog t4 (e4 k)) else none
noncomputable def f (k : Nat) (a0 : Row) (a1 : ByteArray) : T Row :=
  .bnd (iter (ref37_others.s4 k a1 (rSl a0 0) (rSl a0 2) (rInt a0 3) (et 26 a0) [.slice 61 [] .open, .slice 48 [] .open, .slice 147 [] .open, .int .i64 (0)]) k ((0), [])) default fun r0 =>
  .ret [.slice 61 (rSl a0 0) .open, .slice 48 r0 .open, .slice 147 (rSl a0 2) .open, .int .i64 (rInt a0 3)]
noncomputable def d (k : Nat) : Fun := mkFun [26, 9] (fun as_ => f k (vRow (vN as_ 0)) (vStr (vN as_ 1))) default (fun r => .agg (et 26 r))
theorem hC (k : Nat) : CxOk (C k) := CxOk.cons (p := (35, ref13_KeyOf.d k)) (ref13_KeyOf.ok k) (CxOk.nil)
theorem l4 (k : Nat) : LoopOk Try.prog (S k) (lp (bodyF (Go.Proofs.Try.f34)) 0) := loopOk_mk (C := C k) (hC k) (Loops.all (n := 0) (by kernel_rfl) trivial) (lt := t4) (den := e4 k) (by kernel_rfl) (N := (ByteArray × Rows × Rows × Int × Row × Row)) (A := (Int × Rows)) (R := Rows)
 (fun n x => a4 n.1 n.2.1 n.2.2.1 n.2.2.2.1 n.2.2.2.2.1 n.2.2.2.2.2 x) (fun n r => o4_0 n.1 n.2.1 n.2.2.1 n.2.2.2.1 n.2.2.2.2.1 n.2.2.2.2.2 r) (fun n x => s4 k n.1 n.2.1 n.2.2.1 n.2.2.2.1 n.2.2.2.2.1 n.2.2.2.2.2 x) k (fun d => ((aS (aN d.a 0)), (aR (aN (d.b.getD 0 []) 0)), (aR (aN (d.b.getD 0 []) 2)), (aI (aN (d.b.getD 0 []) 3)), (d.r.getD 0 []), (d.r.getD 1 []))) (fun d => ((aI (aN d.a 4)), (aR (aN (d.b.getD 0 []) 1)))) (fun d y h => out1_eval h) (fun d => by kernel_rfl) (fun n x => by kernel_rfl) (fun n r => ⟨_, rfl⟩)
theorem ok (k : Nat) : FunOk Try.prog 34 (d k) := fun_mk (C := C k) (hC k) (S := S k) Try.func34 (by kernel_rfl) (by kernel_rfl) (Loops.all (n := 1) (by kernel_rfl) ⟨trivial, l4 k⟩) (fun as_ => by kernel_rfl)
end ref37_others
namespace ref37_of
noncomputable def C (k : Nat) : Cx := ⟨Try.prog, tab [], [], [], tab []⟩
noncomputable def t3 : LoopT := ⟨⟨48, [], [(0, .sl 54 none), (1, .str), (7, .int .i64), (8, .int .i64), (9, .bool), (10, .int .i64)], [], [], []⟩, (fun | .exit 0 => some ⟨48, [], [(7, .int .i64), (8, .int .i64), (9, .bool)], [], [], []⟩ | _ => none)⟩
noncomputable def s3 (k : Nat) (c0 : Rows) (c1 : ByteArray) (x : (Int × Int × Bool × Int)) : T ((Int × Int × Bool × Int) ⊕ (Int × Int × Bool)) :=
  .test (iLt x.2.2.2 (rLen c0))
   (.test (bImp (bNot (iEq x.2.2.2 (0))) (iIn x.2.2.2 (rLen c0)))
    (.test (bIte (iEq x.2.2.2 (0)) true (iLt (rInt (rAt c0 x.2.2.2) 1) x.2.1))
     (.test (iIn x.2.2.2 (rLen c0))
      (.test (iIn x.2.2.2 (rLen c0))
       (.test (sEq (rStr (rAt c0 x.2.2.2) 0) c1)
        (.test (iIn x.2.2.2 (rLen c0))
         (.ret (.inl ((rInt (rAt c0 x.2.2.2) 1), (rInt (rAt c0 x.2.2.2) 1), true, (iAdd .i64 x.2.2.2 (1)))))
         (.fail))
        (.ret (.inl (x.1, (rInt (rAt c0 x.2.2.2) 1), x.2.2.1, (iAdd .i64 x.2.2.2 (1))))))
       (.fail))
      (.fail))
     (.test (iIn x.2.2.2 (rLen c0))
      (.test (sEq (rStr (rAt c0 x.2.2.2) 0) c1)
       (.test (iIn x.2.2.2 (rLen c0))
        (.ret (.inl ((rInt (rAt c0 x.2.2.2) 1), x.2.1, true, (iAdd .i64 x.2.2.2 (1)))))
        (.fail))
       (.ret (.inl (x.1, x.2.1, x.2.2.1, (iAdd .i64 x.2.2.2 (1))))))
      (.fail)))
    (.fail))
   (.ret (.inr (x.1, x.2.1, x.2.2.1)))
noncomputable def a3 (c0 : Rows) (c1 : ByteArray) (x : (Int × Int × Bool × Int)) : Dt := ⟨[.r c0, .s c1, .i x.1, .i x.2.1, .b x.2.2.1, .i x.2.2.2], [], [], []⟩
noncomputable def o3_0 (c0 : Rows) (c1 : ByteArray) (r : (Int × Int × Bool)) : X × Dt := (.exit 0, ⟨[.i r.1, .i r.2.1, .b r.2.2], [], [], []⟩)
noncomputable def e3 (k : Nat) (d : Dt) : T (X × Dt) := out1 (iter (s3 k (aR (aN d.a 0)) (aS (aN d.a 1))) k ((aI (aN d.a 2)), (aI (aN d.a 3)), (aB (aN d.a 4)), (aI (aN d.a 5)))) default (o3_0 (aR (aN d.a 0)) (aS (aN d.a 1)))
noncomputable def S (k : Nat) : Subs := fun n => bif Nat.beq n 3 then some (loopV Try.prog t3 (e3 k)) else none
noncomputable def f (k : Nat) (a0 : Rows) (a1 : ByteArray) : T (Int × Int × Bool) :=
  .bnd (iter (ref37_of.s3 k a0 a1) k ((0), ((0), (false, (0))))) default fun r0 =>
  .ret (r0.1, r0.2.1, r0.2.2)
noncomputable def d (k : Nat) : Fun := mkFun [51, 9] (fun as_ => f k (vRows (vN as_ 0)) (vStr (vN as_ 1))) default (fun r => .tuple [.int .i64 r.1, .int .i64 r.2.1, .bool r.2.2])
theorem hC (k : Nat) : CxOk (C k) := CxOk.nil
theorem l3 (k : Nat) : LoopOk Try.prog (S k) (lp (bodyF (Go.Proofs.Try.f36)) 0) := loopOk_mk (C := C k) (hC k) (Loops.all (n := 0) (by kernel_rfl) trivial) (lt := t3) (den := e3 k) (by kernel_rfl) (N := (Rows × ByteArray)) (A := (Int × Int × Bool × Int)) (R := (Int × Int × Bool))
 (fun n x => a3 n.1 n.2 x) (fun n r => o3_0 n.1 n.2 r) (fun n x => s3 k n.1 n.2 x) k (fun d => ((aR (aN d.a 0)), (aS (aN d.a 1)))) (fun d => ((aI (aN d.a 2)), (aI (aN d.a 3)), (aB (aN d.a 4)), (aI (aN d.a 5)))) (fun d y h => out1_eval h) (fun d => by kernel_rfl) (fun n x => by kernel_rfl) (fun n r => ⟨_, rfl⟩)
theorem ok (k : Nat) : FunOk Try.prog 36 (d k) := fun_mk (C := C k) (hC k) (S := S k) Try.func36 (by kernel_rfl) (by kernel_rfl) (Loops.all (n := 1) (by kernel_rfl) ⟨trivial, l3 k⟩) (fun as_ => by kernel_rfl)
end ref37_of
namespace ref01_Clamp
noncomputable def C (k : Nat) : Cx := ⟨Try.prog, tab [], [], [], tab []⟩
noncomputable def S (k : Nat) : Subs := fun n => none
noncomputable def f (k : Nat) (a0 : Int) (a1 : Int) (a2 : Int) : T Int :=
  .ret (iMin (iMax a0 a1) a2)
noncomputable def d (k : Nat) : Fun := mkFun [3, 3, 3] (fun as_ => f k (vInt (vN as_ 0)) (vInt (vN as_ 1)) (vInt (vN as_ 2))) default (fun r => .int .i64 r)
theorem hC (k : Nat) : CxOk (C k) := CxOk.nil
theorem ok (k : Nat) : FunOk Try.prog 21 (d k) := fun_mk (C := C k) (hC k) (S := S k) Try.func21 (by kernel_rfl) (by kernel_rfl) (Loops.all (n := 0) (by kernel_rfl) trivial) (fun as_ => by kernel_rfl)
end ref01_Clamp
namespace ref37_Fits
noncomputable def C (k : Nat) : Cx := ⟨Try.prog, tab [(35, ref13_KeyOf.d k), (34, ref37_others.d k), (22, ref36_Domain.d k), (11, ref37_Counts.d k), (36, ref37_of.d k), (17, ref03_Matches.d k), (21, ref01_Clamp.d k)], [], [], tab []⟩
noncomputable def t3 : LoopT := ⟨⟨79, [], [(4, .ptr 4 0), (5, .ptr 5 0), (7, .ptr 7 0), (8, .int .i64)], [], [(4, 48), (5, 61), (7, 26)], []⟩, (fun | .ret => some ⟨79, [], [(6, .bool)], [], [], []⟩ | .exit 0 => some ⟨79, [], [], [], [], []⟩ | _ => none)⟩
noncomputable def s3 (k : Nat) (c0 : Row) (c1 : Row) (c2 : Row) (x : Int) : T (Int ⊕ (Bool ⊕ Unit)) :=
  .test (iLt x (rLen (rSl c0 21)))
   (.test (iIn x (rLen (rSl c0 21)))
    (.test (bNot (rBool (rAt (rSl c0 21) x) 3))
     (.ret (.inl (iAdd .i64 x (1))))
     (.bnd (ref36_Domain.f k (et 61 c1) (rStr (rAt (rSl c0 21) x) 1)).eval default fun r0 =>
     .bnd (ref37_Counts.f k (et 26 c2) (rStr c0 1) (et 29 (rAt (rSl c0 21) x))).eval default fun r1 =>
     .bnd (ref37_of.f k r1 r0.1).eval default fun r2 =>
     .bnd (ref03_Matches.f k (rSl (rAt (rSl c0 21) x) 2) (rSl c0 9)).eval default fun r3 =>
     .test r3
      (.opt (bNot (bIte (bNot r0.2) true (bNot r2.2.2))) (ref01_Clamp.f k (rInt (rAt (rSl c0 21) x) 0) (0) (1000000000000000)).eval default fun r4 =>
      .test (bIte (bIte (bNot r0.2) true (bNot r2.2.2)) true (iLt (iAdd .i64 r2.2.1 r4) (iAdd .i64 r2.1 (1))))
       (.ret (.inr (.inl false)))
       (.ret (.inl (iAdd .i64 x (1)))))
      (.opt (bNot (bIte (bNot r0.2) true (bNot r2.2.2))) (ref01_Clamp.f k (rInt (rAt (rSl c0 21) x) 0) (0) (1000000000000000)).eval default fun r5 =>
      .test (bIte (bIte (bNot r0.2) true (bNot r2.2.2)) true (iLt (iAdd .i64 r2.2.1 r5) r2.1))
       (.ret (.inr (.inl false)))
       (.ret (.inl (iAdd .i64 x (1)))))))
    (.fail))
   (.ret (.inr (.inr ())))
noncomputable def a3 (c0 : Row) (c1 : Row) (c2 : Row) (x : Int) : Dt := ⟨[.u, .u, .u, .i x], [], [et 48 c0, et 61 c1, et 26 c2], []⟩
noncomputable def o3_0 (c0 : Row) (c1 : Row) (c2 : Row) (r : Bool) : X × Dt := (.ret, ⟨[.b r], [], [], []⟩)
noncomputable def o3_1 (c0 : Row) (c1 : Row) (c2 : Row) (r : Unit) : X × Dt := (.exit 0, ⟨[], [], [], []⟩)
noncomputable def e3 (k : Nat) (d : Dt) : T (X × Dt) := out2 (iter (s3 k (d.r.getD 0 []) (d.r.getD 1 []) (d.r.getD 2 [])) k (aI (aN d.a 3))) (o3_0 (d.r.getD 0 []) (d.r.getD 1 []) (d.r.getD 2 [])) (o3_1 (d.r.getD 0 []) (d.r.getD 1 []) (d.r.getD 2 []))
noncomputable def S (k : Nat) : Subs := fun n => bif Nat.beq n 3 then some (loopV Try.prog t3 (e3 k)) else none
noncomputable def f (k : Nat) (a0 : Row) (a1 : Row) (a2 : Row) : T Bool :=
  .bnd (ref13_KeyOf.f k (et 36 a1)).eval default fun r0 =>
  .bnd (ref37_others.f k (et 26 a0) r0).eval default fun r1 =>
  .cas (iter (ref37_Fits.s3 k (et 48 a1) (et 61 a2) (et 26 r1)) k (0)) (fun r2 =>
   .ret r2) (fun r3 =>
   .ret true)
noncomputable def d (k : Nat) : Fun := mkFun [26, 48, 61] (fun as_ => f k (vRow (vN as_ 0)) (vRow (vN as_ 1)) (vRow (vN as_ 2))) default (fun r => .bool r)
theorem hC (k : Nat) : CxOk (C k) := CxOk.cons (p := (35, ref13_KeyOf.d k)) (ref13_KeyOf.ok k) (CxOk.cons (p := (34, ref37_others.d k)) (ref37_others.ok k) (CxOk.cons (p := (22, ref36_Domain.d k)) (ref36_Domain.ok k) (CxOk.cons (p := (11, ref37_Counts.d k)) (ref37_Counts.ok k) (CxOk.cons (p := (36, ref37_of.d k)) (ref37_of.ok k) (CxOk.cons (p := (17, ref03_Matches.d k)) (ref03_Matches.ok k) (CxOk.cons (p := (21, ref01_Clamp.d k)) (ref01_Clamp.ok k) (CxOk.nil)))))))
theorem l3 (k : Nat) : LoopOk Try.prog (S k) (lp (bodyF (Go.Proofs.Try.f13)) 0) := loopOk_mk (C := C k) (hC k) (Loops.all (n := 0) (by kernel_rfl) trivial) (lt := t3) (den := e3 k) (by kernel_rfl) (N := (Row × Row × Row)) (A := Int) (R := (Bool ⊕ Unit))
 (fun n x => a3 n.1 n.2.1 n.2.2 x) (fun n r => Sum.elim (o3_0 n.1 n.2.1 n.2.2) (o3_1 n.1 n.2.1 n.2.2) r) (fun n x => s3 k n.1 n.2.1 n.2.2 x) k (fun d => ((d.r.getD 0 []), (d.r.getD 1 []), (d.r.getD 2 []))) (fun d => (aI (aN d.a 3))) (fun d y h => out2_eval h) (fun d => by kernel_rfl) (fun n x => by kernel_rfl) (fun n r => by rcases r with r | r <;> exact ⟨_, rfl⟩)
theorem ok (k : Nat) : FunOk Try.prog 13 (d k) := fun_mk (C := C k) (hC k) (S := S k) Try.func13 (by kernel_rfl) (by kernel_rfl) (Loops.all (n := 1) (by kernel_rfl) ⟨trivial, l3 k⟩) (fun as_ => by kernel_rfl)
end ref37_Fits
namespace ref37_Score
noncomputable def C (k : Nat) : Cx := ⟨Try.prog, tab [(35, ref13_KeyOf.d k), (34, ref37_others.d k), (22, ref36_Domain.d k), (11, ref37_Counts.d k), (36, ref37_of.d k)], [], [], tab []⟩
noncomputable def t4 : LoopT := ⟨⟨63, [], [(4, .ptr 4 0), (5, .ptr 5 0), (7, .ptr 7 0), (8, .int .i64), (9, .int .i64)], [], [(4, 48), (5, 61), (7, 26)], []⟩, (fun | .exit 0 => some ⟨63, [], [(8, .int .i64)], [], [], []⟩ | _ => none)⟩
noncomputable def s4 (k : Nat) (c0 : Row) (c1 : Row) (c2 : Row) (x : (Int × Int)) : T ((Int × Int) ⊕ Int) :=
  .test (iLt x.2 (rLen (rSl c0 21)))
   (.test (iIn x.2 (rLen (rSl c0 21)))
    (.test (rBool (rAt (rSl c0 21) x.2) 3)
     (.ret (.inl (x.1, (iAdd .i64 x.2 (1)))))
     (.bnd (ref36_Domain.f k (et 61 c1) (rStr (rAt (rSl c0 21) x.2) 1)).eval default fun r0 =>
     .test r0.2
      (.bnd (ref37_Counts.f k (et 26 c2) (rStr c0 1) (et 29 (rAt (rSl c0 21) x.2))).eval default fun r1 =>
      .bnd (ref37_of.f k r1 r0.1).eval default fun r2 =>
      .ret (.inl ((iAdd .i64 x.1 r2.1), (iAdd .i64 x.2 (1)))))
      (.ret (.inl ((iAdd .i64 x.1 (40)), (iAdd .i64 x.2 (1)))))))
    (.fail))
   (.ret (.inr x.1))
noncomputable def a4 (c0 : Row) (c1 : Row) (c2 : Row) (x : (Int × Int)) : Dt := ⟨[.u, .u, .u, .i x.1, .i x.2], [], [et 48 c0, et 61 c1, et 26 c2], []⟩
noncomputable def o4_0 (c0 : Row) (c1 : Row) (c2 : Row) (r : Int) : X × Dt := (.exit 0, ⟨[.i r], [], [], []⟩)
noncomputable def e4 (k : Nat) (d : Dt) : T (X × Dt) := out1 (iter (s4 k (d.r.getD 0 []) (d.r.getD 1 []) (d.r.getD 2 [])) k ((aI (aN d.a 3)), (aI (aN d.a 4)))) default (o4_0 (d.r.getD 0 []) (d.r.getD 1 []) (d.r.getD 2 []))
noncomputable def S (k : Nat) : Subs := fun n => bif Nat.beq n 4 then some (loopV Try.prog t4 (e4 k)) else none
noncomputable def f (k : Nat) (a0 : Row) (a1 : Row) (a2 : Row) : T Int :=
  .bnd (ref13_KeyOf.f k (et 36 a1)).eval default fun r0 =>
  .bnd (ref37_others.f k (et 26 a0) r0).eval default fun r1 =>
  .bnd (iter (ref37_Score.s4 k (et 48 a1) (et 61 a2) (et 26 r1)) k ((0), (0))) default fun r2 =>
  .ret r2
noncomputable def d (k : Nat) : Fun := mkFun [26, 48, 61] (fun as_ => f k (vRow (vN as_ 0)) (vRow (vN as_ 1)) (vRow (vN as_ 2))) default (fun r => .int .i64 r)
theorem hC (k : Nat) : CxOk (C k) := CxOk.cons (p := (35, ref13_KeyOf.d k)) (ref13_KeyOf.ok k) (CxOk.cons (p := (34, ref37_others.d k)) (ref37_others.ok k) (CxOk.cons (p := (22, ref36_Domain.d k)) (ref36_Domain.ok k) (CxOk.cons (p := (11, ref37_Counts.d k)) (ref37_Counts.ok k) (CxOk.cons (p := (36, ref37_of.d k)) (ref37_of.ok k) (CxOk.nil)))))
theorem l4 (k : Nat) : LoopOk Try.prog (S k) (lp (bodyF (Go.Proofs.Try.f15)) 0) := loopOk_mk (C := C k) (hC k) (Loops.all (n := 0) (by kernel_rfl) trivial) (lt := t4) (den := e4 k) (by kernel_rfl) (N := (Row × Row × Row)) (A := (Int × Int)) (R := Int)
 (fun n x => a4 n.1 n.2.1 n.2.2 x) (fun n r => o4_0 n.1 n.2.1 n.2.2 r) (fun n x => s4 k n.1 n.2.1 n.2.2 x) k (fun d => ((d.r.getD 0 []), (d.r.getD 1 []), (d.r.getD 2 []))) (fun d => ((aI (aN d.a 3)), (aI (aN d.a 4)))) (fun d y h => out1_eval h) (fun d => by kernel_rfl) (fun n x => by kernel_rfl) (fun n r => ⟨_, rfl⟩)
theorem ok (k : Nat) : FunOk Try.prog 15 (d k) := fun_mk (C := C k) (hC k) (S := S k) Try.func15 (by kernel_rfl) (by kernel_rfl) (Loops.all (n := 1) (by kernel_rfl) ⟨trivial, l4 k⟩) (fun as_ => by kernel_rfl)
end ref37_Score
namespace law37_SpreadFits
noncomputable def C (k : Nat) : Cx := ⟨Try.prog, tab [(7, law37_heavy.d k), (9, law37_awake.d k), (12, spread_Fits.d k), (13, ref37_Fits.d k), (14, spread_Score.d k), (15, ref37_Score.d k)], [], [], tab []⟩
noncomputable def S (k : Nat) : Subs := fun n => none
noncomputable def f (k : Nat) (a0 : Row) (a1 : Row) (a2 : Row) : T Bool :=
  .bnd (law37_heavy.f k (et 26 a0) (et 48 a1)).eval default fun r0 =>
  .test (bIte r0 true (iLt (30) (rLen (rSl a2 9))))
   (.bnd (law37_awake.f k).eval default fun r1 =>
   .ret r1)
   (.bnd (spread_Fits.f k (et 26 a0) (et 48 a1) (et 61 a2)).eval default fun r2 =>
   .bnd (ref37_Fits.f k (et 26 a0) (et 48 a1) (et 61 a2)).eval default fun r3 =>
   .opt (bEq r2 r3) (spread_Score.f k (et 26 a0) (et 48 a1) (et 61 a2)).eval default fun r4 =>
   .opt (bEq r2 r3) (ref37_Score.f k (et 26 a0) (et 48 a1) (et 61 a2)).eval default fun r5 =>
   .opt (bIte (bEq r2 r3) (iEq r4 r5) false) (law37_awake.f k).eval default fun r6 =>
   .ret (bIte (bIte (bEq r2 r3) (iEq r4 r5) false) r6 false))
noncomputable def d (k : Nat) : Fun := mkFun [26, 48, 61] (fun as_ => f k (vRow (vN as_ 0)) (vRow (vN as_ 1)) (vRow (vN as_ 2))) default (fun r => .bool r)
theorem hC (k : Nat) : CxOk (C k) := CxOk.cons (p := (7, law37_heavy.d k)) (law37_heavy.ok k) (CxOk.cons (p := (9, law37_awake.d k)) (law37_awake.ok k) (CxOk.cons (p := (12, spread_Fits.d k)) (spread_Fits.ok k) (CxOk.cons (p := (13, ref37_Fits.d k)) (ref37_Fits.ok k) (CxOk.cons (p := (14, spread_Score.d k)) (spread_Score.ok k) (CxOk.cons (p := (15, ref37_Score.d k)) (ref37_Score.ok k) (CxOk.nil))))))
theorem ok (k : Nat) : FunOk Try.prog 4 (d k) := fun_mk (C := C k) (hC k) (S := S k) Try.func4 (by kernel_rfl) (by kernel_rfl) (Loops.all (n := 0) (by kernel_rfl) trivial) (fun as_ => by kernel_rfl)
end law37_SpreadFits
namespace ref01_text
noncomputable def C (k : Nat) : Cx := ⟨Try.prog, tab [], [], [], tab []⟩
noncomputable def t2 : LoopT := ⟨⟨23, [], [(0, .int .i64), (3, .str)], [], [], []⟩, (fun | .exit 0 => some ⟨23, [], [(3, .str)], [], [], []⟩ | _ => none)⟩
noncomputable def s2 (k : Nat) (x : (Int × ByteArray)) : T ((Int × ByteArray) ⊕ ByteArray) :=
  .test (iLe (10) x.1)
   (.test (bNot (iEq (10) (0)))
    (.test (bNot (iEq (10) (0)))
     (.test (sOk (sLen (sRows [[.int .u8 (iCv .u8 (iAdd .i64 (48) (iRem (iQuo .i64 x.1 (10)) (10))))]])) (sLen x.2))
      (.ret (.inl ((iQuo .i64 x.1 (10)), (sCat (sRows [[.int .u8 (iCv .u8 (iAdd .i64 (48) (iRem (iQuo .i64 x.1 (10)) (10))))]]) x.2))))
      (.fail))
     (.fail))
    (.fail))
   (.ret (.inr x.2))
noncomputable def a2 (x : (Int × ByteArray)) : Dt := ⟨[.i x.1, .s x.2], [], [], []⟩
noncomputable def o2_0 (r : ByteArray) : X × Dt := (.exit 0, ⟨[.s r], [], [], []⟩)
noncomputable def e2 (k : Nat) (d : Dt) : T (X × Dt) := out1 (iter (s2 k) k ((aI (aN d.a 0)), (aS (aN d.a 1)))) default (o2_0)
noncomputable def S (k : Nat) : Subs := fun n => bif Nat.beq n 2 then some (loopV Try.prog t2 (e2 k)) else none
noncomputable def f (k : Nat) (a0 : Int) : T ByteArray :=
  .test (bNot (iEq (10) (0)))
   (.bnd (iter (ref01_text.s2 k) k (a0, (sRows [[.int .u8 (iCv .u8 (iAdd .i64 (48) (iRem a0 (10))))]]))) default fun r0 =>
   .ret r0)
   (.fail)
noncomputable def d (k : Nat) : Fun := mkFun [3] (fun as_ => f k (vInt (vN as_ 0))) default (fun r => .str r)
theorem hC (k : Nat) : CxOk (C k) := CxOk.nil
theorem l2 (k : Nat) : LoopOk Try.prog (S k) (lp (bodyF (Go.Proofs.Try.f38)) 0) := loopOk_mk (C := C k) (hC k) (Loops.all (n := 0) (by kernel_rfl) trivial) (lt := t2) (den := e2 k) (by kernel_rfl) (N := Unit) (A := (Int × ByteArray)) (R := ByteArray)
 (fun n x => a2 x) (fun n r => o2_0 r) (fun n x => s2 k x) k (fun d => ()) (fun d => ((aI (aN d.a 0)), (aS (aN d.a 1)))) (fun d y h => out1_eval h) (fun d => by kernel_rfl) (fun n x => by kernel_rfl) (fun n r => ⟨_, rfl⟩)
theorem ok (k : Nat) : FunOk Try.prog 38 (d k) := fun_mk (C := C k) (hC k) (S := S k) Try.func38 (by kernel_rfl) (by kernel_rfl) (Loops.all (n := 1) (by kernel_rfl) ⟨trivial, l2 k⟩) (fun as_ => by kernel_rfl)
end ref01_text
namespace ref01_Decimal
noncomputable def C (k : Nat) : Cx := ⟨Try.prog, tab [(38, ref01_text.d k)], [], [], tab []⟩
noncomputable def S (k : Nat) : Subs := fun n => none
noncomputable def f (k : Nat) (a0 : Int) : T ByteArray :=
  .test (iLe (0) a0)
   (.bnd (ref01_text.f k a0).eval default fun r0 =>
   .ret r0)
   (.test (bNot (iEq (10) (0)))
    (.test (iEq (iQuo .i64 a0 (10)) (0))
     (.bnd (ref01_text.f k (iSub .i64 (0) a0)).eval default fun r1 =>
     .test (sOk (sLen (bs [45])) (sLen r1))
      (.ret (sCat (bs [45]) r1))
      (.fail))
     (.test (bNot (iEq (10) (0)))
      (.bnd (ref01_text.f k (iSub .i64 (0) (iQuo .i64 a0 (10)))).eval default fun r2 =>
      .test (sOk (sLen (bs [45])) (sLen r2))
       (.test (bNot (iEq (10) (0)))
        (.bnd (ref01_text.f k (iSub .i64 (0) (iRem a0 (10)))).eval default fun r3 =>
        .test (sOk (sLen (sCat (bs [45]) r2)) (sLen r3))
         (.ret (sCat (sCat (bs [45]) r2) r3))
         (.fail))
        (.fail))
       (.fail))
      (.fail)))
    (.fail))
noncomputable def d (k : Nat) : Fun := mkFun [3] (fun as_ => f k (vInt (vN as_ 0))) default (fun r => .str r)
theorem hC (k : Nat) : CxOk (C k) := CxOk.cons (p := (38, ref01_text.d k)) (ref01_text.ok k) (CxOk.nil)
theorem ok (k : Nat) : FunOk Try.prog 18 (d k) := fun_mk (C := C k) (hC k) (S := S k) Try.func18 (by kernel_rfl) (by kernel_rfl) (Loops.all (n := 0) (by kernel_rfl) trivial) (fun as_ => by kernel_rfl)
end ref01_Decimal
namespace law37_distinct
noncomputable def C (k : Nat) : Cx := ⟨Try.prog, tab [], [], [], tab []⟩
noncomputable def t5 : LoopT := ⟨⟨29, [], [(0, .sl 61 none), (3, .int .i64), (4, .int .i64)], [], [], []⟩, (fun | .ret => some ⟨29, [], [(2, .bool)], [], [], []⟩ | .exit 2 => some ⟨29, [], [(0, .sl 61 none), (3, .int .i64)], [], [], []⟩ | _ => none)⟩
noncomputable def s5 (k : Nat) (c0 : Rows) (c1 : Int) (x : Int) : T (Int ⊕ (Bool ⊕ Unit)) :=
  .test (iLt x c1)
   (.test (iIn c1 (rLen c0))
    (.test (iIn x (rLen c0))
     (.test (sEq (rStr (rAt c0 c1) 2) (rStr (rAt c0 x) 2))
      (.ret (.inr (.inl false)))
      (.ret (.inl (iAdd .i64 x (1)))))
     (.fail))
    (.fail))
   (.ret (.inr (.inr ())))
noncomputable def a5 (c0 : Rows) (c1 : Int) (x : Int) : Dt := ⟨[.r c0, .i c1, .i x], [], [], []⟩
noncomputable def o5_0 (c0 : Rows) (c1 : Int) (r : Bool) : X × Dt := (.ret, ⟨[.b r], [], [], []⟩)
noncomputable def o5_1 (c0 : Rows) (c1 : Int) (r : Unit) : X × Dt := (.exit 2, ⟨[.r c0, .i c1], [], [], []⟩)
noncomputable def e5 (k : Nat) (d : Dt) : T (X × Dt) := out2 (iter (s5 k (aR (aN d.a 0)) (aI (aN d.a 1))) k (aI (aN d.a 2))) (o5_0 (aR (aN d.a 0)) (aI (aN d.a 1))) (o5_1 (aR (aN d.a 0)) (aI (aN d.a 1)))
noncomputable def t2 : LoopT := ⟨⟨29, [], [(0, .sl 61 none), (3, .int .i64)], [], [], []⟩, (fun | .ret => some ⟨29, [], [(2, .bool)], [], [], []⟩ | .exit 0 => some ⟨29, [], [], [], [], []⟩ | _ => none)⟩
noncomputable def s2 (k : Nat) (c0 : Rows) (x : Int) : T (Int ⊕ (Bool ⊕ Unit)) :=
  .test (iLt x (rLen c0))
   (.cas (iter (law37_distinct.s5 k c0 x) k (0)) (fun r0 =>
    .ret (.inr (.inl r0))) (fun r1 =>
    .ret (.inl (iAdd .i64 x (1)))))
   (.ret (.inr (.inr ())))
noncomputable def a2 (c0 : Rows) (x : Int) : Dt := ⟨[.r c0, .i x], [], [], []⟩
noncomputable def o2_0 (c0 : Rows) (r : Bool) : X × Dt := (.ret, ⟨[.b r], [], [], []⟩)
noncomputable def o2_1 (c0 : Rows) (r : Unit) : X × Dt := (.exit 0, ⟨[], [], [], []⟩)
noncomputable def e2 (k : Nat) (d : Dt) : T (X × Dt) := out2 (iter (s2 k (aR (aN d.a 0))) k (aI (aN d.a 1))) (o2_0 (aR (aN d.a 0))) (o2_1 (aR (aN d.a 0)))
noncomputable def S (k : Nat) : Subs := fun n => bif Nat.beq n 5 then some (loopV Try.prog t5 (e5 k)) else bif Nat.beq n 2 then some (loopV Try.prog t2 (e2 k)) else none
noncomputable def f (k : Nat) (a0 : Rows) : T Bool :=
  .cas (iter (law37_distinct.s2 k a0) k (0)) (fun r0 =>
   .ret r0) (fun r1 =>
   .ret true)
noncomputable def d (k : Nat) : Fun := mkFun [22] (fun as_ => f k (vRows (vN as_ 0))) default (fun r => .bool r)
theorem hC (k : Nat) : CxOk (C k) := CxOk.nil
theorem l5 (k : Nat) : LoopOk Try.prog (S k) (lp (lp (bodyF (Go.Proofs.Try.f19)) 0) 0) := loopOk_mk (C := C k) (hC k) (Loops.all (n := 0) (by kernel_rfl) trivial) (lt := t5) (den := e5 k) (by kernel_rfl) (N := (Rows × Int)) (A := Int) (R := (Bool ⊕ Unit))
 (fun n x => a5 n.1 n.2 x) (fun n r => Sum.elim (o5_0 n.1 n.2) (o5_1 n.1 n.2) r) (fun n x => s5 k n.1 n.2 x) k (fun d => ((aR (aN d.a 0)), (aI (aN d.a 1)))) (fun d => (aI (aN d.a 2))) (fun d y h => out2_eval h) (fun d => by kernel_rfl) (fun n x => by kernel_rfl) (fun n r => by rcases r with r | r <;> exact ⟨_, rfl⟩)
theorem l2 (k : Nat) : LoopOk Try.prog (S k) (lp (bodyF (Go.Proofs.Try.f19)) 0) := loopOk_mk (C := C k) (hC k) (Loops.all (n := 1) (by kernel_rfl) ⟨trivial, l5 k⟩) (lt := t2) (den := e2 k) (by kernel_rfl) (N := Rows) (A := Int) (R := (Bool ⊕ Unit))
 (fun n x => a2 n x) (fun n r => Sum.elim (o2_0 n) (o2_1 n) r) (fun n x => s2 k n x) k (fun d => (aR (aN d.a 0))) (fun d => (aI (aN d.a 1))) (fun d y h => out2_eval h) (fun d => by kernel_rfl) (fun n x => by kernel_rfl) (fun n r => by rcases r with r | r <;> exact ⟨_, rfl⟩)
theorem ok (k : Nat) : FunOk Try.prog 19 (d k) := fun_mk (C := C k) (hC k) (S := S k) Try.func19 (by kernel_rfl) (by kernel_rfl) (Loops.all (n := 1) (by kernel_rfl) ⟨trivial, l2 k⟩) (fun as_ => by kernel_rfl)
end law37_distinct
namespace law37_gap
noncomputable def C (k : Nat) : Cx := ⟨Try.prog, tab [], [], [], tab []⟩
noncomputable def t3 : LoopT := ⟨⟨47, [], [(0, .sl 54 none), (3, .int .i64), (4, .int .i64), (5, .int .i64)], [], [], []⟩, (fun | .exit 0 => some ⟨47, [], [(3, .int .i64), (4, .int .i64)], [], [], []⟩ | _ => none)⟩
noncomputable def s3 (k : Nat) (c0 : Rows) (x : (Int × Int × Int)) : T ((Int × Int × Int) ⊕ (Int × Int)) :=
  .test (iLt x.2.2 (rLen c0))
   (.test (bImp (bNot (iEq x.2.2 (0))) (iIn x.2.2 (rLen c0)))
    (.test (bIte (iEq x.2.2 (0)) true (iLt x.1 (rInt (rAt c0 x.2.2) 1)))
     (.test (iIn x.2.2 (rLen c0))
      (.test (bImp (bNot (iEq x.2.2 (0))) (iIn x.2.2 (rLen c0)))
       (.test (bIte (iEq x.2.2 (0)) true (iLt (rInt (rAt c0 x.2.2) 1) x.2.1))
        (.test (iIn x.2.2 (rLen c0))
         (.ret (.inl ((rInt (rAt c0 x.2.2) 1), (rInt (rAt c0 x.2.2) 1), (iAdd .i64 x.2.2 (1)))))
         (.fail))
        (.ret (.inl ((rInt (rAt c0 x.2.2) 1), x.2.1, (iAdd .i64 x.2.2 (1))))))
       (.fail))
      (.fail))
     (.test (bImp (bNot (iEq x.2.2 (0))) (iIn x.2.2 (rLen c0)))
      (.test (bIte (iEq x.2.2 (0)) true (iLt (rInt (rAt c0 x.2.2) 1) x.2.1))
       (.test (iIn x.2.2 (rLen c0))
        (.ret (.inl (x.1, (rInt (rAt c0 x.2.2) 1), (iAdd .i64 x.2.2 (1)))))
        (.fail))
       (.ret (.inl (x.1, x.2.1, (iAdd .i64 x.2.2 (1))))))
      (.fail)))
    (.fail))
   (.ret (.inr (x.1, x.2.1)))
noncomputable def a3 (c0 : Rows) (x : (Int × Int × Int)) : Dt := ⟨[.r c0, .i x.1, .i x.2.1, .i x.2.2], [], [], []⟩
noncomputable def o3_0 (c0 : Rows) (r : (Int × Int)) : X × Dt := (.exit 0, ⟨[.i r.1, .i r.2], [], [], []⟩)
noncomputable def e3 (k : Nat) (d : Dt) : T (X × Dt) := out1 (iter (s3 k (aR (aN d.a 0))) k ((aI (aN d.a 1)), (aI (aN d.a 2)), (aI (aN d.a 3)))) default (o3_0 (aR (aN d.a 0)))
noncomputable def S (k : Nat) : Subs := fun n => bif Nat.beq n 3 then some (loopV Try.prog t3 (e3 k)) else none
noncomputable def f (k : Nat) (a0 : Rows) : T Int :=
  .bnd (iter (law37_gap.s3 k a0) k ((0), ((0), (0)))) default fun r0 =>
  .ret (iSub .i64 r0.1 r0.2)
noncomputable def d (k : Nat) : Fun := mkFun [51] (fun as_ => f k (vRows (vN as_ 0))) default (fun r => .int .i64 r)
theorem hC (k : Nat) : CxOk (C k) := CxOk.nil
theorem l3 (k : Nat) : LoopOk Try.prog (S k) (lp (bodyF (Go.Proofs.Try.f20)) 0) := loopOk_mk (C := C k) (hC k) (Loops.all (n := 0) (by kernel_rfl) trivial) (lt := t3) (den := e3 k) (by kernel_rfl) (N := Rows) (A := (Int × Int × Int)) (R := (Int × Int))
 (fun n x => a3 n x) (fun n r => o3_0 n r) (fun n x => s3 k n x) k (fun d => (aR (aN d.a 0))) (fun d => ((aI (aN d.a 1)), (aI (aN d.a 2)), (aI (aN d.a 3)))) (fun d y h => out1_eval h) (fun d => by kernel_rfl) (fun n x => by kernel_rfl) (fun n r => ⟨_, rfl⟩)
theorem ok (k : Nat) : FunOk Try.prog 20 (d k) := fun_mk (C := C k) (hC k) (S := S k) Try.func20 (by kernel_rfl) (by kernel_rfl) (Loops.all (n := 1) (by kernel_rfl) ⟨trivial, l3 k⟩) (fun as_ => by kernel_rfl)
end law37_gap
namespace law37_SpreadSkew
noncomputable def C (k : Nat) : Cx := ⟨Try.prog, tab [(8, law37_wide.d k), (9, law37_awake.d k), (16, law37_member.d k), (7, law37_heavy.d k), (17, ref03_Matches.d k), (18, ref01_Decimal.d k), (12, spread_Fits.d k), (19, law37_distinct.d k), (10, spread_Counts.d k), (20, law37_gap.d k), (21, ref01_Clamp.d k)], [], [], tab []⟩
noncomputable def t10 : LoopT := ⟨⟨108, [], [(0, .sl 61 none), (2, .sl 5 none), (4, .ptr 4 0), (7, .ptr 7 0), (8, .ptr 8 0), (9, .int .i64)], [], [(4, 29), (7, 26), (8, 48)], []⟩, (fun | .ret => some ⟨108, [], [(6, .bool)], [], [], []⟩ | .exit 0 => some ⟨108, [], [], [], [], []⟩ | _ => none)⟩
noncomputable def s10 (k : Nat) (c0 : Rows) (c1 : Rows) (c2 : Row) (x : (Int × Row × Row)) : T ((Int × Row × Row) ⊕ (Bool ⊕ Unit)) :=
  .test (iLt x.1 (rLen c1))
   (.test (iIn x.1 (rLen c1))
    (.test (bNot (iEq (rLen c0) (0)))
     (.test (iIn (iRem (iCv .i64 (rInt (rAt c1 x.1) 0)) (rLen c0)) (rLen c0))
      (.bnd (ref01_Decimal.f k x.1).eval default fun r0 =>
      .test (sOk (sLen (bs [112])) (sLen r0))
       (.bnd (spread_Fits.f k (et 26 x.2.1) [.str (rStr x.2.2 0), .str (rStr x.2.2 1), .str (sCat (bs [112]) r0), .int .i64 (rInt x.2.2 3), .int .i64 (rInt x.2.2 4), .int .i64 (rInt x.2.2 5), .int .i64 (rInt x.2.2 6), .bool (rBool x.2.2 7), .int .i64 (rInt x.2.2 8), .slice 93 (rSl x.2.2 9) .open, .slice 149 (rSl x.2.2 10) .open, .slice 9 (rSl x.2.2 11) .open, .slice 151 (rSl x.2.2 12) .open, .str (rStr x.2.2 13), .int .i64 (rInt x.2.2 14), .int .i64 (rInt x.2.2 15), .int .i64 (rInt x.2.2 16), .slice 154 (rSl x.2.2 17) .open, .slice 76 (rSl x.2.2 18) .open, .slice 156 (rSl x.2.2 19) .open, .slice 158 (rSl x.2.2 20) .open, .slice 29 (rSl x.2.2 21) .open, .slice 160 (rSl x.2.2 22) .open, .int .i64 (rInt x.2.2 23), .bool (rBool x.2.2 24), .int .i64 (rInt x.2.2 25), .int .i64 (rInt x.2.2 26), .int .i64 (rInt x.2.2 27), .slice 162 (rSl x.2.2 28) .open, .int .i64 (rInt x.2.2 29), .str (rStr x.2.2 30), .str (rStr x.2.2 31)] (et 61 (rAt c0 (iRem (iCv .i64 (rInt (rAt c1 x.1) 0)) (rLen c0))))).eval default fun r1 =>
       .test (bNot r1)
        (.ret (.inl ((iAdd .i64 x.1 (1)), (et 26 x.2.1), [.str (rStr x.2.2 0), .str (rStr x.2.2 1), .str (sCat (bs [112]) r0), .int .i64 (rInt x.2.2 3), .int .i64 (rInt x.2.2 4), .int .i64 (rInt x.2.2 5), .int .i64 (rInt x.2.2 6), .bool (rBool x.2.2 7), .int .i64 (rInt x.2.2 8), .slice 93 (rSl x.2.2 9) .open, .slice 149 (rSl x.2.2 10) .open, .slice 9 (rSl x.2.2 11) .open, .slice 151 (rSl x.2.2 12) .open, .str (rStr x.2.2 13), .int .i64 (rInt x.2.2 14), .int .i64 (rInt x.2.2 15), .int .i64 (rInt x.2.2 16), .slice 154 (rSl x.2.2 17) .open, .slice 76 (rSl x.2.2 18) .open, .slice 156 (rSl x.2.2 19) .open, .slice 158 (rSl x.2.2 20) .open, .slice 29 (rSl x.2.2 21) .open, .slice 160 (rSl x.2.2 22) .open, .int .i64 (rInt x.2.2 23), .bool (rBool x.2.2 24), .int .i64 (rInt x.2.2 25), .int .i64 (rInt x.2.2 26), .int .i64 (rInt x.2.2 27), .slice 162 (rSl x.2.2 28) .open, .int .i64 (rInt x.2.2 29), .str (rStr x.2.2 30), .str (rStr x.2.2 31)])))
        (.test (rOk 480 (rLen []) (rLen (rSl x.2.1 1)))
         (.test (rOk 480 (rLen (rCat [] (rSl x.2.1 1))) (rLen [[.str (rStr x.2.2 0), .str (rStr x.2.2 1), .str (sCat (bs [112]) r0), .int .i64 (rInt x.2.2 3), .int .i64 (rInt x.2.2 4), .int .i64 (rInt x.2.2 5), .int .i64 (rInt x.2.2 6), .bool (rBool x.2.2 7), .int .i64 (rInt x.2.2 8), .slice 93 (rSl x.2.2 9) .open, .slice 149 (rSl x.2.2 10) .open, .slice 9 (rSl x.2.2 11) .open, .slice 151 (rSl x.2.2 12) .open, .str (rStr (rAt c0 (iRem (iCv .i64 (rInt (rAt c1 x.1) 0)) (rLen c0))) 2), .int .i64 (rInt x.2.2 14), .int .i64 (rInt x.2.2 15), .int .i64 (rInt x.2.2 16), .slice 154 (rSl x.2.2 17) .open, .slice 76 (rSl x.2.2 18) .open, .slice 156 (rSl x.2.2 19) .open, .slice 158 (rSl x.2.2 20) .open, .slice 29 (rSl x.2.2 21) .open, .slice 160 (rSl x.2.2 22) .open, .int .i64 (rInt x.2.2 23), .bool (rBool x.2.2 24), .int .i64 (rInt x.2.2 25), .int .i64 (rInt x.2.2 26), .int .i64 (rInt x.2.2 27), .slice 162 (rSl x.2.2 28) .open, .int .i64 (rInt x.2.2 29), .str (rStr x.2.2 30), .str (rStr x.2.2 31)]]))
          (.bnd (law37_distinct.f k c0).eval default fun r2 =>
          .test (bNot r2)
           (.ret (.inl ((iAdd .i64 x.1 (1)), [.slice 61 (rSl x.2.1 0) .open, .slice 48 (rCat (rCat [] (rSl x.2.1 1)) [[.str (rStr x.2.2 0), .str (rStr x.2.2 1), .str (sCat (bs [112]) r0), .int .i64 (rInt x.2.2 3), .int .i64 (rInt x.2.2 4), .int .i64 (rInt x.2.2 5), .int .i64 (rInt x.2.2 6), .bool (rBool x.2.2 7), .int .i64 (rInt x.2.2 8), .slice 93 (rSl x.2.2 9) .open, .slice 149 (rSl x.2.2 10) .open, .slice 9 (rSl x.2.2 11) .open, .slice 151 (rSl x.2.2 12) .open, .str (rStr (rAt c0 (iRem (iCv .i64 (rInt (rAt c1 x.1) 0)) (rLen c0))) 2), .int .i64 (rInt x.2.2 14), .int .i64 (rInt x.2.2 15), .int .i64 (rInt x.2.2 16), .slice 154 (rSl x.2.2 17) .open, .slice 76 (rSl x.2.2 18) .open, .slice 156 (rSl x.2.2 19) .open, .slice 158 (rSl x.2.2 20) .open, .slice 29 (rSl x.2.2 21) .open, .slice 160 (rSl x.2.2 22) .open, .int .i64 (rInt x.2.2 23), .bool (rBool x.2.2 24), .int .i64 (rInt x.2.2 25), .int .i64 (rInt x.2.2 26), .int .i64 (rInt x.2.2 27), .slice 162 (rSl x.2.2 28) .open, .int .i64 (rInt x.2.2 29), .str (rStr x.2.2 30), .str (rStr x.2.2 31)]]) .open, .slice 147 (rSl x.2.1 2) .open, .int .i64 (rInt x.2.1 3)], [.str (rStr x.2.2 0), .str (rStr x.2.2 1), .str (sCat (bs [112]) r0), .int .i64 (rInt x.2.2 3), .int .i64 (rInt x.2.2 4), .int .i64 (rInt x.2.2 5), .int .i64 (rInt x.2.2 6), .bool (rBool x.2.2 7), .int .i64 (rInt x.2.2 8), .slice 93 (rSl x.2.2 9) .open, .slice 149 (rSl x.2.2 10) .open, .slice 9 (rSl x.2.2 11) .open, .slice 151 (rSl x.2.2 12) .open, .str (rStr x.2.2 13), .int .i64 (rInt x.2.2 14), .int .i64 (rInt x.2.2 15), .int .i64 (rInt x.2.2 16), .slice 154 (rSl x.2.2 17) .open, .slice 76 (rSl x.2.2 18) .open, .slice 156 (rSl x.2.2 19) .open, .slice 158 (rSl x.2.2 20) .open, .slice 29 (rSl x.2.2 21) .open, .slice 160 (rSl x.2.2 22) .open, .int .i64 (rInt x.2.2 23), .bool (rBool x.2.2 24), .int .i64 (rInt x.2.2 25), .int .i64 (rInt x.2.2 26), .int .i64 (rInt x.2.2 27), .slice 162 (rSl x.2.2 28) .open, .int .i64 (rInt x.2.2 29), .str (rStr x.2.2 30), .str (rStr x.2.2 31)])))
           (.bnd (spread_Counts.f k [.slice 61 (rSl x.2.1 0) .open, .slice 48 (rCat (rCat [] (rSl x.2.1 1)) [[.str (rStr x.2.2 0), .str (rStr x.2.2 1), .str (sCat (bs [112]) r0), .int .i64 (rInt x.2.2 3), .int .i64 (rInt x.2.2 4), .int .i64 (rInt x.2.2 5), .int .i64 (rInt x.2.2 6), .bool (rBool x.2.2 7), .int .i64 (rInt x.2.2 8), .slice 93 (rSl x.2.2 9) .open, .slice 149 (rSl x.2.2 10) .open, .slice 9 (rSl x.2.2 11) .open, .slice 151 (rSl x.2.2 12) .open, .str (rStr (rAt c0 (iRem (iCv .i64 (rInt (rAt c1 x.1) 0)) (rLen c0))) 2), .int .i64 (rInt x.2.2 14), .int .i64 (rInt x.2.2 15), .int .i64 (rInt x.2.2 16), .slice 154 (rSl x.2.2 17) .open, .slice 76 (rSl x.2.2 18) .open, .slice 156 (rSl x.2.2 19) .open, .slice 158 (rSl x.2.2 20) .open, .slice 29 (rSl x.2.2 21) .open, .slice 160 (rSl x.2.2 22) .open, .int .i64 (rInt x.2.2 23), .bool (rBool x.2.2 24), .int .i64 (rInt x.2.2 25), .int .i64 (rInt x.2.2 26), .int .i64 (rInt x.2.2 27), .slice 162 (rSl x.2.2 28) .open, .int .i64 (rInt x.2.2 29), .str (rStr x.2.2 30), .str (rStr x.2.2 31)]]) .open, .slice 147 (rSl x.2.1 2) .open, .int .i64 (rInt x.2.1 3)] (bs [110, 115]) (et 29 c2)).eval default fun r3 =>
           .bnd (law37_gap.f k r3).eval default fun r4 =>
           .bnd (ref01_Clamp.f k (rInt c2 0) (0) (1000000000000000)).eval default fun r5 =>
           .test (iLt r5 r4)
            (.ret (.inr (.inl false)))
            (.ret (.inl ((iAdd .i64 x.1 (1)), [.slice 61 (rSl x.2.1 0) .open, .slice 48 (rCat (rCat [] (rSl x.2.1 1)) [[.str (rStr x.2.2 0), .str (rStr x.2.2 1), .str (sCat (bs [112]) r0), .int .i64 (rInt x.2.2 3), .int .i64 (rInt x.2.2 4), .int .i64 (rInt x.2.2 5), .int .i64 (rInt x.2.2 6), .bool (rBool x.2.2 7), .int .i64 (rInt x.2.2 8), .slice 93 (rSl x.2.2 9) .open, .slice 149 (rSl x.2.2 10) .open, .slice 9 (rSl x.2.2 11) .open, .slice 151 (rSl x.2.2 12) .open, .str (rStr (rAt c0 (iRem (iCv .i64 (rInt (rAt c1 x.1) 0)) (rLen c0))) 2), .int .i64 (rInt x.2.2 14), .int .i64 (rInt x.2.2 15), .int .i64 (rInt x.2.2 16), .slice 154 (rSl x.2.2 17) .open, .slice 76 (rSl x.2.2 18) .open, .slice 156 (rSl x.2.2 19) .open, .slice 158 (rSl x.2.2 20) .open, .slice 29 (rSl x.2.2 21) .open, .slice 160 (rSl x.2.2 22) .open, .int .i64 (rInt x.2.2 23), .bool (rBool x.2.2 24), .int .i64 (rInt x.2.2 25), .int .i64 (rInt x.2.2 26), .int .i64 (rInt x.2.2 27), .slice 162 (rSl x.2.2 28) .open, .int .i64 (rInt x.2.2 29), .str (rStr x.2.2 30), .str (rStr x.2.2 31)]]) .open, .slice 147 (rSl x.2.1 2) .open, .int .i64 (rInt x.2.1 3)], [.str (rStr x.2.2 0), .str (rStr x.2.2 1), .str (sCat (bs [112]) r0), .int .i64 (rInt x.2.2 3), .int .i64 (rInt x.2.2 4), .int .i64 (rInt x.2.2 5), .int .i64 (rInt x.2.2 6), .bool (rBool x.2.2 7), .int .i64 (rInt x.2.2 8), .slice 93 (rSl x.2.2 9) .open, .slice 149 (rSl x.2.2 10) .open, .slice 9 (rSl x.2.2 11) .open, .slice 151 (rSl x.2.2 12) .open, .str (rStr x.2.2 13), .int .i64 (rInt x.2.2 14), .int .i64 (rInt x.2.2 15), .int .i64 (rInt x.2.2 16), .slice 154 (rSl x.2.2 17) .open, .slice 76 (rSl x.2.2 18) .open, .slice 156 (rSl x.2.2 19) .open, .slice 158 (rSl x.2.2 20) .open, .slice 29 (rSl x.2.2 21) .open, .slice 160 (rSl x.2.2 22) .open, .int .i64 (rInt x.2.2 23), .bool (rBool x.2.2 24), .int .i64 (rInt x.2.2 25), .int .i64 (rInt x.2.2 26), .int .i64 (rInt x.2.2 27), .slice 162 (rSl x.2.2 28) .open, .int .i64 (rInt x.2.2 29), .str (rStr x.2.2 30), .str (rStr x.2.2 31)])))))
          (.fail))
         (.fail)))
       (.fail))
      (.fail))
     (.fail))
    (.fail))
   (.ret (.inr (.inr ())))
noncomputable def a10 (c0 : Rows) (c1 : Rows) (c2 : Row) (x : (Int × Row × Row)) : Dt := ⟨[.r c0, .r c1, .u, .u, .u, .i x.1], [], [et 29 c2, et 26 x.2.1, et 48 x.2.2], []⟩
noncomputable def o10_0 (c0 : Rows) (c1 : Rows) (c2 : Row) (r : Bool) : X × Dt := (.ret, ⟨[.b r], [], [], []⟩)
noncomputable def o10_1 (c0 : Rows) (c1 : Rows) (c2 : Row) (r : Unit) : X × Dt := (.exit 0, ⟨[], [], [], []⟩)
noncomputable def e10 (k : Nat) (d : Dt) : T (X × Dt) := out2 (iter (s10 k (aR (aN d.a 0)) (aR (aN d.a 1)) (d.r.getD 0 [])) k ((aI (aN d.a 5)), (d.r.getD 1 []), (d.r.getD 2 []))) (o10_0 (aR (aN d.a 0)) (aR (aN d.a 1)) (d.r.getD 0 [])) (o10_1 (aR (aN d.a 0)) (aR (aN d.a 1)) (d.r.getD 0 []))
noncomputable def S (k : Nat) : Subs := fun n => bif Nat.beq n 10 then some (loopV Try.prog t10 (e10 k)) else none
noncomputable def f (k : Nat) (a0 : Rows) (a1 : Row) (a2 : Rows) : T Bool :=
  .opt (bNot (bIte (bIte (iLt (8) (rLen a0)) true (iLt (16) (rLen a2))) true (iEq (rLen a0) (0)))) (law37_wide.f k (rSl a1 2)).eval default fun r0 =>
  .test (bIte (bIte (bIte (iLt (8) (rLen a0)) true (iLt (16) (rLen a2))) true (iEq (rLen a0) (0))) true r0)
   (.bnd (law37_awake.f k).eval default fun r1 =>
   .ret r1)
   (.bnd (law37_member.f k ByteArray.empty ByteArray.empty).eval default fun r2 =>
   .bnd (law37_heavy.f k [.slice 61 a0 .open, .slice 48 [] .open, .slice 147 [] .open, .int .i64 (0)] [.str (rStr r2 0), .str (rStr r2 1), .str (rStr r2 2), .int .i64 (rInt r2 3), .int .i64 (rInt r2 4), .int .i64 (rInt r2 5), .int .i64 (rInt r2 6), .bool (rBool r2 7), .int .i64 (rInt r2 8), .slice 93 (rSl r2 9) .open, .slice 149 (rSl r2 10) .open, .slice 9 (rSl r2 11) .open, .slice 151 (rSl r2 12) .open, .str (rStr r2 13), .int .i64 (rInt r2 14), .int .i64 (rInt r2 15), .int .i64 (rInt r2 16), .slice 154 (rSl r2 17) .open, .slice 76 (rSl r2 18) .open, .slice 156 (rSl r2 19) .open, .slice 158 (rSl r2 20) .open, .slice 29 [[.int .i64 (rInt a1 0), .str (rStr a1 1), .slice 76 (rSl a1 2) .open, .bool true]] .open, .slice 160 (rSl r2 22) .open, .int .i64 (rInt r2 23), .bool (rBool r2 24), .int .i64 (rInt r2 25), .int .i64 (rInt r2 26), .int .i64 (rInt r2 27), .slice 162 (rSl r2 28) .open, .int .i64 (rInt r2 29), .str (rStr r2 30), .str (rStr r2 31)]).eval default fun r3 =>
   .opt (bNot r3) (ref03_Matches.f k (rSl a1 2) (rSl r2 9)).eval default fun r4 =>
   .test (bIte r3 true (bNot r4))
    (.bnd (law37_awake.f k).eval default fun r5 =>
    .ret r5)
    (.cas (iter (law37_SpreadSkew.s10 k a0 a2 [.int .i64 (rInt a1 0), .str (rStr a1 1), .slice 76 (rSl a1 2) .open, .bool true]) k ((0), ([.slice 61 a0 .open, .slice 48 [] .open, .slice 147 [] .open, .int .i64 (0)], [.str (rStr r2 0), .str (rStr r2 1), .str (rStr r2 2), .int .i64 (rInt r2 3), .int .i64 (rInt r2 4), .int .i64 (rInt r2 5), .int .i64 (rInt r2 6), .bool (rBool r2 7), .int .i64 (rInt r2 8), .slice 93 (rSl r2 9) .open, .slice 149 (rSl r2 10) .open, .slice 9 (rSl r2 11) .open, .slice 151 (rSl r2 12) .open, .str (rStr r2 13), .int .i64 (rInt r2 14), .int .i64 (rInt r2 15), .int .i64 (rInt r2 16), .slice 154 (rSl r2 17) .open, .slice 76 (rSl r2 18) .open, .slice 156 (rSl r2 19) .open, .slice 158 (rSl r2 20) .open, .slice 29 [[.int .i64 (rInt a1 0), .str (rStr a1 1), .slice 76 (rSl a1 2) .open, .bool true]] .open, .slice 160 (rSl r2 22) .open, .int .i64 (rInt r2 23), .bool (rBool r2 24), .int .i64 (rInt r2 25), .int .i64 (rInt r2 26), .int .i64 (rInt r2 27), .slice 162 (rSl r2 28) .open, .int .i64 (rInt r2 29), .str (rStr r2 30), .str (rStr r2 31)]))) (fun r6 =>
     .ret r6) (fun r7 =>
     .bnd (law37_awake.f k).eval default fun r8 =>
     .ret r8)))
noncomputable def d (k : Nat) : Fun := mkFun [22, 29, 64] (fun as_ => f k (vRows (vN as_ 0)) (vRow (vN as_ 1)) (vRows (vN as_ 2))) default (fun r => .bool r)
theorem hC (k : Nat) : CxOk (C k) := CxOk.cons (p := (8, law37_wide.d k)) (law37_wide.ok k) (CxOk.cons (p := (9, law37_awake.d k)) (law37_awake.ok k) (CxOk.cons (p := (16, law37_member.d k)) (law37_member.ok k) (CxOk.cons (p := (7, law37_heavy.d k)) (law37_heavy.ok k) (CxOk.cons (p := (17, ref03_Matches.d k)) (ref03_Matches.ok k) (CxOk.cons (p := (18, ref01_Decimal.d k)) (ref01_Decimal.ok k) (CxOk.cons (p := (12, spread_Fits.d k)) (spread_Fits.ok k) (CxOk.cons (p := (19, law37_distinct.d k)) (law37_distinct.ok k) (CxOk.cons (p := (10, spread_Counts.d k)) (spread_Counts.ok k) (CxOk.cons (p := (20, law37_gap.d k)) (law37_gap.ok k) (CxOk.cons (p := (21, ref01_Clamp.d k)) (ref01_Clamp.ok k) (CxOk.nil)))))))))))
theorem l10 (k : Nat) : LoopOk Try.prog (S k) (lp (bodyF (Go.Proofs.Try.f5)) 0) := loopOk_mk (C := C k) (hC k) (Loops.all (n := 0) (by kernel_rfl) trivial) (lt := t10) (den := e10 k) (by kernel_rfl) (N := (Rows × Rows × Row)) (A := (Int × Row × Row)) (R := (Bool ⊕ Unit))
 (fun n x => a10 n.1 n.2.1 n.2.2 x) (fun n r => Sum.elim (o10_0 n.1 n.2.1 n.2.2) (o10_1 n.1 n.2.1 n.2.2) r) (fun n x => s10 k n.1 n.2.1 n.2.2 x) k (fun d => ((aR (aN d.a 0)), (aR (aN d.a 1)), (d.r.getD 0 []))) (fun d => ((aI (aN d.a 5)), (d.r.getD 1 []), (d.r.getD 2 []))) (fun d y h => out2_eval h) (fun d => by kernel_rfl) (fun n x => by kernel_rfl) (fun n r => by rcases r with r | r <;> exact ⟨_, rfl⟩)
theorem ok (k : Nat) : FunOk Try.prog 5 (d k) := fun_mk (C := C k) (hC k) (S := S k) Try.func5 (by kernel_rfl) (by kernel_rfl) (Loops.all (n := 1) (by kernel_rfl) ⟨trivial, l10 k⟩) (fun as_ => by kernel_rfl)
end law37_SpreadSkew
namespace law37_SpreadTotal
noncomputable def C (k : Nat) : Cx := ⟨Try.prog, tab [(7, law37_heavy.d k), (8, law37_wide.d k), (9, law37_awake.d k), (10, spread_Counts.d k), (22, ref36_Domain.d k), (23, ref33_Active.d k), (17, ref03_Matches.d k)], [], [], tab []⟩
noncomputable def t6 : LoopT := ⟨⟨138, [], [(1, .str), (3, .ptr 3 0), (5, .ptr 5 0), (7, .sl 54 none), (8, .int .i64), (9, .int .i64), (10, .int .i64)], [], [(3, 26), (5, 29)], []⟩, (fun | .ret => some ⟨138, [], [(6, .bool)], [], [], []⟩ | .exit 0 => some ⟨138, [], [(1, .str), (3, .ptr 3 0), (5, .ptr 5 0), (8, .int .i64), (9, .int .i64)], [], [(3, 26), (5, 29)], []⟩ | _ => none)⟩
noncomputable def s6 (k : Nat) (c0 : ByteArray) (c1 : Rows) (c2 : Int) (c3 : Row) (c4 : Row) (x : (Int × Int)) : T ((Int × Int) ⊕ (Bool ⊕ Int)) :=
  .test (iLt x.2 (rLen c1))
   (.test (iIn x.2 (rLen c1))
    (.test (iIn x.2 (rLen c1))
     (.test (bImp (bAnd (bNot (iLt (rInt (rAt c1 x.2) 1) (0))) (iLt (0) x.2)) (iIn x.2 (rLen c1)))
      (.test (bImp (bAnd (bNot (iLt (rInt (rAt c1 x.2) 1) (0))) (iLt (0) x.2)) (iIn (iSub .i64 x.2 (1)) (rLen c1)))
       (.test (bIte (iLt (rInt (rAt c1 x.2) 1) (0)) true (bIte (iLt (0) x.2) (bOr (sLt (rStr (rAt c1 x.2) 0) (rStr (rAt c1 (iSub .i64 x.2 (1))) 0)) (sEq (rStr (rAt c1 x.2) 0) (rStr (rAt c1 (iSub .i64 x.2 (1))) 0))) false))
        (.ret (.inr (.inl false)))
        (.ret (.inl ((iAdd .i64 x.1 (rInt (rAt c1 x.2) 1)), (iAdd .i64 x.2 (1))))))
       (.fail))
      (.fail))
     (.fail))
    (.fail))
   (.ret (.inr (.inr x.1)))
noncomputable def a6 (c0 : ByteArray) (c1 : Rows) (c2 : Int) (c3 : Row) (c4 : Row) (x : (Int × Int)) : Dt := ⟨[.s c0, .u, .u, .r c1, .i x.1, .i c2, .i x.2], [], [et 26 c3, et 29 c4], []⟩
noncomputable def o6_0 (c0 : ByteArray) (c1 : Rows) (c2 : Int) (c3 : Row) (c4 : Row) (r : Bool) : X × Dt := (.ret, ⟨[.b r], [], [], []⟩)
noncomputable def o6_1 (c0 : ByteArray) (c1 : Rows) (c2 : Int) (c3 : Row) (c4 : Row) (r : Int) : X × Dt := (.exit 0, ⟨[.s c0, .u, .u, .i r, .i c2], [], [(et 26 c3), (et 29 c4)], []⟩)
noncomputable def e6 (k : Nat) (d : Dt) : T (X × Dt) := out2 (iter (s6 k (aS (aN d.a 0)) (aR (aN d.a 3)) (aI (aN d.a 5)) (d.r.getD 0 []) (d.r.getD 1 [])) k ((aI (aN d.a 4)), (aI (aN d.a 6)))) (o6_0 (aS (aN d.a 0)) (aR (aN d.a 3)) (aI (aN d.a 5)) (d.r.getD 0 []) (d.r.getD 1 [])) (o6_1 (aS (aN d.a 0)) (aR (aN d.a 3)) (aI (aN d.a 5)) (d.r.getD 0 []) (d.r.getD 1 []))
noncomputable def t17 : LoopT := ⟨⟨138, [], [(1, .str), (3, .ptr 3 0), (5, .ptr 5 0), (8, .int .i64), (9, .int .i64), (11, .int .i64), (12, .ptr 12 0), (13, .bool), (14, .int .i64)], [], [(3, 26), (5, 29), (12, 48)], []⟩, (fun | .exit 4 => some ⟨138, [], [(1, .str), (3, .ptr 3 0), (5, .ptr 5 0), (8, .int .i64), (9, .int .i64), (11, .int .i64), (12, .ptr 12 0), (13, .bool)], [], [(3, 26), (5, 29), (12, 48)], []⟩ | _ => none)⟩
noncomputable def s17 (k : Nat) (c0 : ByteArray) (c1 : Int) (c2 : Int) (c3 : Int) (c4 : Row) (c5 : Row) (c6 : Row) (x : (Bool × Int)) : T ((Bool × Int) ⊕ Bool) :=
  .test (iLe (0) x.2)
   (.test (iIn x.2 (rLen (rSl c4 0)))
    (.bnd (ref36_Domain.f k (et 61 (rAt (rSl c4 0) x.2)) (rStr c5 1)).eval default fun r0 =>
    .test (iIn x.2 (rLen (rSl c4 0)))
     (.test (sEq (rStr (rAt (rSl c4 0) x.2) 2) (rStr c6 13))
      (.ret (.inl (r0.2, (iSub .i64 x.2 (1)))))
      (.ret (.inl (x.1, (iSub .i64 x.2 (1))))))
     (.fail))
    (.fail))
   (.ret (.inr x.1))
noncomputable def a17 (c0 : ByteArray) (c1 : Int) (c2 : Int) (c3 : Int) (c4 : Row) (c5 : Row) (c6 : Row) (x : (Bool × Int)) : Dt := ⟨[.s c0, .u, .u, .i c1, .i c2, .i c3, .u, .b x.1, .i x.2], [], [et 26 c4, et 29 c5, et 48 c6], []⟩
noncomputable def o17_0 (c0 : ByteArray) (c1 : Int) (c2 : Int) (c3 : Int) (c4 : Row) (c5 : Row) (c6 : Row) (r : Bool) : X × Dt := (.exit 4, ⟨[.s c0, .u, .u, .i c1, .i c2, .i c3, .u, .b r], [], [(et 26 c4), (et 29 c5), (et 48 c6)], []⟩)
noncomputable def e17 (k : Nat) (d : Dt) : T (X × Dt) := out1 (iter (s17 k (aS (aN d.a 0)) (aI (aN d.a 3)) (aI (aN d.a 4)) (aI (aN d.a 5)) (d.r.getD 0 []) (d.r.getD 1 []) (d.r.getD 2 [])) k ((aB (aN d.a 7)), (aI (aN d.a 8)))) default (o17_0 (aS (aN d.a 0)) (aI (aN d.a 3)) (aI (aN d.a 4)) (aI (aN d.a 5)) (d.r.getD 0 []) (d.r.getD 1 []) (d.r.getD 2 []))
noncomputable def t12 : LoopT := ⟨⟨138, [], [(1, .str), (3, .ptr 3 0), (5, .ptr 5 0), (8, .int .i64), (9, .int .i64), (11, .int .i64)], [], [(3, 26), (5, 29)], []⟩, (fun | .exit 2 => some ⟨138, [], [(8, .int .i64), (9, .int .i64)], [], [], []⟩ | _ => none)⟩
noncomputable def s12 (k : Nat) (c0 : ByteArray) (c1 : Int) (c2 : Row) (c3 : Row) (x : (Int × Int)) : T ((Int × Int) ⊕ Int) :=
  .test (iLt x.2 (rLen (rSl c2 1)))
   (.test (iIn x.2 (rLen (rSl c2 1)))
    (.bnd (iter (law37_SpreadTotal.s17 k c0 c1 x.1 x.2 (et 26 c2) (et 29 c3) (et 48 (rAt (rSl c2 1) x.2))) k (false, (iSub .i64 (rLen (rSl c2 0)) (1)))) default fun r0 =>
    .opt r0 (ref33_Active.f k (et 48 (rAt (rSl c2 1) x.2))).eval default fun r1 =>
    .opt (bIte (bIte r0 r1 false) (sEq (rStr (rAt (rSl c2 1) x.2) 1) c0) false) (ref03_Matches.f k (rSl c3 2) (rSl (rAt (rSl c2 1) x.2) 9)).eval default fun r2 =>
    .test (bIte (bIte (bIte r0 r1 false) (sEq (rStr (rAt (rSl c2 1) x.2) 1) c0) false) r2 false)
     (.ret (.inl ((iAdd .i64 x.1 (1)), (iAdd .i64 x.2 (1)))))
     (.ret (.inl (x.1, (iAdd .i64 x.2 (1))))))
    (.fail))
   (.ret (.inr x.1))
noncomputable def a12 (c0 : ByteArray) (c1 : Int) (c2 : Row) (c3 : Row) (x : (Int × Int)) : Dt := ⟨[.s c0, .u, .u, .i c1, .i x.1, .i x.2], [], [et 26 c2, et 29 c3], []⟩
noncomputable def o12_0 (c0 : ByteArray) (c1 : Int) (c2 : Row) (c3 : Row) (r : Int) : X × Dt := (.exit 2, ⟨[.i c1, .i r], [], [], []⟩)
noncomputable def e12 (k : Nat) (d : Dt) : T (X × Dt) := out1 (iter (s12 k (aS (aN d.a 0)) (aI (aN d.a 3)) (d.r.getD 0 []) (d.r.getD 1 [])) k ((aI (aN d.a 4)), (aI (aN d.a 5)))) default (o12_0 (aS (aN d.a 0)) (aI (aN d.a 3)) (d.r.getD 0 []) (d.r.getD 1 []))
noncomputable def S (k : Nat) : Subs := fun n => bif Nat.beq n 6 then some (loopV Try.prog t6 (e6 k)) else bif Nat.beq n 17 then some (loopV Try.prog t17 (e17 k)) else bif Nat.beq n 12 then some (loopV Try.prog t12 (e12 k)) else none
noncomputable def f (k : Nat) (a0 : Row) (a1 : ByteArray) (a2 : Row) : T Bool :=
  .bnd (law37_heavy.f k (et 26 a0) [.str ByteArray.empty, .str ByteArray.empty, .str ByteArray.empty, .int .i64 (0), .int .i64 (0), .int .i64 (0), .int .i64 (0), .bool false, .int .i64 (0), .slice 93 [] .open, .slice 149 [] .open, .slice 9 [] .open, .slice 151 [] .open, .str ByteArray.empty, .int .i64 (0), .int .i64 (0), .int .i64 (0), .slice 154 [] .open, .slice 76 [] .open, .slice 156 [] .open, .slice 158 [] .open, .slice 29 [] .open, .slice 160 [] .open, .int .i64 (0), .bool false, .int .i64 (0), .int .i64 (0), .int .i64 (0), .slice 162 [] .open, .int .i64 (0), .str ByteArray.empty, .str ByteArray.empty]).eval default fun r0 =>
  .opt (bNot r0) (law37_wide.f k (rSl a2 2)).eval default fun r1 =>
  .test (bIte r0 true r1)
   (.bnd (law37_awake.f k).eval default fun r2 =>
   .ret r2)
   (.bnd (spread_Counts.f k (et 26 a0) a1 (et 29 a2)).eval default fun r3 =>
   .cas (iter (law37_SpreadTotal.s6 k a1 r3 (0) (et 26 a0) (et 29 a2)) k ((0), (0))) (fun r4 =>
    .ret r4) (fun r5 =>
    .bnd (iter (law37_SpreadTotal.s12 k a1 r5 (et 26 a0) (et 29 a2)) k ((0), (0))) default fun r6 =>
    .opt (iEq r5 r6) (law37_awake.f k).eval default fun r7 =>
    .ret (bIte (iEq r5 r6) r7 false)))
noncomputable def d (k : Nat) : Fun := mkFun [26, 9, 29] (fun as_ => f k (vRow (vN as_ 0)) (vStr (vN as_ 1)) (vRow (vN as_ 2))) default (fun r => .bool r)
theorem hC (k : Nat) : CxOk (C k) := CxOk.cons (p := (7, law37_heavy.d k)) (law37_heavy.ok k) (CxOk.cons (p := (8, law37_wide.d k)) (law37_wide.ok k) (CxOk.cons (p := (9, law37_awake.d k)) (law37_awake.ok k) (CxOk.cons (p := (10, spread_Counts.d k)) (spread_Counts.ok k) (CxOk.cons (p := (22, ref36_Domain.d k)) (ref36_Domain.ok k) (CxOk.cons (p := (23, ref33_Active.d k)) (ref33_Active.ok k) (CxOk.cons (p := (17, ref03_Matches.d k)) (ref03_Matches.ok k) (CxOk.nil)))))))
theorem l6 (k : Nat) : LoopOk Try.prog (S k) (lp (bodyF (Go.Proofs.Try.f6)) 0) := loopOk_mk (C := C k) (hC k) (Loops.all (n := 0) (by kernel_rfl) trivial) (lt := t6) (den := e6 k) (by kernel_rfl) (N := (ByteArray × Rows × Int × Row × Row)) (A := (Int × Int)) (R := (Bool ⊕ Int))
 (fun n x => a6 n.1 n.2.1 n.2.2.1 n.2.2.2.1 n.2.2.2.2 x) (fun n r => Sum.elim (o6_0 n.1 n.2.1 n.2.2.1 n.2.2.2.1 n.2.2.2.2) (o6_1 n.1 n.2.1 n.2.2.1 n.2.2.2.1 n.2.2.2.2) r) (fun n x => s6 k n.1 n.2.1 n.2.2.1 n.2.2.2.1 n.2.2.2.2 x) k (fun d => ((aS (aN d.a 0)), (aR (aN d.a 3)), (aI (aN d.a 5)), (d.r.getD 0 []), (d.r.getD 1 []))) (fun d => ((aI (aN d.a 4)), (aI (aN d.a 6)))) (fun d y h => out2_eval h) (fun d => by kernel_rfl) (fun n x => by kernel_rfl) (fun n r => by rcases r with r | r <;> exact ⟨_, rfl⟩)
theorem l17 (k : Nat) : LoopOk Try.prog (S k) (lp (lp (bodyF (Go.Proofs.Try.f6)) 1) 0) := loopOk_mk (C := C k) (hC k) (Loops.all (n := 0) (by kernel_rfl) trivial) (lt := t17) (den := e17 k) (by kernel_rfl) (N := (ByteArray × Int × Int × Int × Row × Row × Row)) (A := (Bool × Int)) (R := Bool)
 (fun n x => a17 n.1 n.2.1 n.2.2.1 n.2.2.2.1 n.2.2.2.2.1 n.2.2.2.2.2.1 n.2.2.2.2.2.2 x) (fun n r => o17_0 n.1 n.2.1 n.2.2.1 n.2.2.2.1 n.2.2.2.2.1 n.2.2.2.2.2.1 n.2.2.2.2.2.2 r) (fun n x => s17 k n.1 n.2.1 n.2.2.1 n.2.2.2.1 n.2.2.2.2.1 n.2.2.2.2.2.1 n.2.2.2.2.2.2 x) k (fun d => ((aS (aN d.a 0)), (aI (aN d.a 3)), (aI (aN d.a 4)), (aI (aN d.a 5)), (d.r.getD 0 []), (d.r.getD 1 []), (d.r.getD 2 []))) (fun d => ((aB (aN d.a 7)), (aI (aN d.a 8)))) (fun d y h => out1_eval h) (fun d => by kernel_rfl) (fun n x => by kernel_rfl) (fun n r => ⟨_, rfl⟩)
theorem l12 (k : Nat) : LoopOk Try.prog (S k) (lp (bodyF (Go.Proofs.Try.f6)) 1) := loopOk_mk (C := C k) (hC k) (Loops.all (n := 1) (by kernel_rfl) ⟨trivial, l17 k⟩) (lt := t12) (den := e12 k) (by kernel_rfl) (N := (ByteArray × Int × Row × Row)) (A := (Int × Int)) (R := Int)
 (fun n x => a12 n.1 n.2.1 n.2.2.1 n.2.2.2 x) (fun n r => o12_0 n.1 n.2.1 n.2.2.1 n.2.2.2 r) (fun n x => s12 k n.1 n.2.1 n.2.2.1 n.2.2.2 x) k (fun d => ((aS (aN d.a 0)), (aI (aN d.a 3)), (d.r.getD 0 []), (d.r.getD 1 []))) (fun d => ((aI (aN d.a 4)), (aI (aN d.a 5)))) (fun d y h => out1_eval h) (fun d => by kernel_rfl) (fun n x => by kernel_rfl) (fun n r => ⟨_, rfl⟩)
theorem ok (k : Nat) : FunOk Try.prog 6 (d k) := fun_mk (C := C k) (hC k) (S := S k) Try.func6 (by kernel_rfl) (by kernel_rfl) (Loops.all (n := 2) (by kernel_rfl) ⟨⟨trivial, l6 k⟩, l12 k⟩) (fun as_ => by kernel_rfl)
end law37_SpreadTotal
end Go.Proofs.Ytohhdiifohhghaa.Ev
