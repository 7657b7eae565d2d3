/- Part of a claim: see its row. Conditions: stated at each. -/
import Derived.Test.YtkdikhonafbgdaaRows
import Derived.Test.YtkdikhonafbgdaaZMQSNetpolicyMonotone
import Derived.Test.YtkdikhonafbgdaaZMPureNetpolicyMonotone
import Derived.WalkKit
import Derived.ProofKit
import Derived.OpenShut
import Derived.ShutString
import Derived.ChangeOld
import Derived.Below
import Derived.SizedLaws
namespace Go.Proofs.Ytkdikhonafbgdaa.netpolicyMonotone
open Go.ChangeShapes Go.WideShapes Go.ChangeAt Go.RowKit
open Go.ChangeMaps (open_string shut_string)
open Go.Proofs.Ytkdikhonafbgdaa.Opn Go.Proofs.Ytkdikhonafbgdaa.Q Go.Proofs.YtkdikhonafbgdaaW.PrintWords
set_option linter.unusedVariables false
theorem own : ownKnob Try.prog.godebug = none := by kernel_rfl
theorem laidOut : laidOutB Try.prog = true := by kernel_rfl
set_option maxRecDepth 100000 in
set_option maxHeartbeats 4000000 in
theorem lifted (os : Os) (started : os.Started) (H : Type) (enc : TypeId × Value → H) :
    ReturnsInHanded {} Try.checked os 5 .any (Rows.netpolicyMonotoneSpec.pre6 enc Try.prog Try.f5 Rows.netpolicyMonotoneRow.domain false) (Rows.netpolicyMonotoneSpec.post enc Try.prog Try.f5 false true false false) := by
  refine returnsInHanded_of_change_sized (C := Try.checked) own started (by kernel_rfl) Try.func5
    (ChangeSpec.witness6 (enc := enc) (C := Try.checked) false ⟨#[], #[(.slice none 0 0), (.agg #[(.string ⟨#[]⟩), (.string ⟨#[]⟩), (.string ⟨#[]⟩), (.int .i64 0), (.int .i64 0), (.int .i64 0), (.int .i64 0), (.bool false), (.int .i64 0), (.slice none 0 0), (.slice none 0 0), (.slice none 0 0), (.slice none 0 0), (.string ⟨#[]⟩), (.int .i64 0), (.int .i64 0), (.int .i64 0), (.slice none 0 0), (.slice none 0 0), (.slice none 0 0), (.slice none 0 0), (.slice none 0 0), (.slice none 0 0), (.int .i64 0), (.bool false), (.int .i64 0), (.int .i64 0), (.int .i64 0), (.slice none 0 0), (.int .i64 0), (.string ⟨#[]⟩), (.string ⟨#[]⟩)]), (.agg #[(.string ⟨#[]⟩), (.string ⟨#[]⟩), (.string ⟨#[]⟩), (.int .i64 0), (.int .i64 0), (.int .i64 0), (.int .i64 0), (.bool false), (.int .i64 0), (.slice none 0 0), (.slice none 0 0), (.slice none 0 0), (.slice none 0 0), (.string ⟨#[]⟩), (.int .i64 0), (.int .i64 0), (.int .i64 0), (.slice none 0 0), (.slice none 0 0), (.slice none 0 0), (.slice none 0 0), (.slice none 0 0), (.slice none 0 0), (.int .i64 0), (.bool false), (.int .i64 0), (.int .i64 0), (.int .i64 0), (.slice none 0 0), (.int .i64 0), (.string ⟨#[]⟩), (.string ⟨#[]⟩)]), (.int .i64 0), (.agg #[(.string ⟨#[]⟩), (.string ⟨#[]⟩), (.string ⟨#[]⟩), (.int .i64 0), (.int .i64 0), (.int .i64 0), (.int .i64 0), (.bool false), (.int .i64 0), (.slice none 0 0), (.slice none 0 0), (.slice none 0 0), (.slice none 0 0), (.slice none 0 0), (.bool false), (.bool false), (.slice none 0 0)]), (.agg #[(.bool false), (.slice none 0 0), (.slice none 0 0)]), (.int .i64 0)], []⟩ 64 (by kernel_rfl) (by kernel_rfl) (by kernel_rfl) (by kernel_rfl)) ?_
  intro W base args ds gs before hval0 hW hcnd hsz0 _
  have hsz : (DataW.weightsEach Try.prog (Try.f5.params.toList ++ Rows.netpolicyMonotoneSpec.plain.varTypes Try.prog) (ds ++ gs)).all (· ≤ reachBytes) = true := hsz0
  have hval : ∀ (j : Nat) t v, Try.f5.params[j]? = some t → args[j]? = some v → Value.okWide Try.prog W .any base t v := hval0
  have hW' := hW
  obtain ⟨p, q, hA0, hV, rfl, hfz, hnd⟩ := hW
  have hA : DataW.TrodAll enc Try.prog W 0 (fun _ => true) true Try.f5.params.toList args.toList ds p := hA0
  rw [Try.params5] at hA hval hsz
  obtain ⟨v0, vs0, d0, ds0, p0, q0, hargs, rfl, rfl, h0, r0⟩ := trodAll_cons hA
  obtain ⟨v1, vs1, d1, ds1, p1, q1, rfl, rfl, rfl, h1, r1⟩ := trodAll_cons r0
  obtain ⟨v2, vs2, d2, ds2, p2, q2, rfl, rfl, rfl, h2, r2⟩ := trodAll_cons r1
  obtain ⟨v3, vs3, d3, ds3, p3, q3, rfl, rfl, rfl, h3, r3⟩ := trodAll_cons r2
  obtain ⟨v4, vs4, d4, ds4, p4, q4, rfl, rfl, rfl, h4, r4⟩ := trodAll_cons r3
  obtain ⟨v5, vs5, d5, ds5, p5, q5, rfl, rfl, rfl, h5, r5⟩ := trodAll_cons r4
  obtain ⟨v6, vs6, d6, ds6, p6, q6, rfl, rfl, rfl, h6, r6⟩ := trodAll_cons r5
  obtain ⟨rfl, rfl, rfl⟩ := trodAll_nil r6
  obtain rfl : args = #[v0, v1, v2, v3, v4, v5, v6] := by cases args; simp_all
  obtain ⟨rfl, rfl⟩ := trodVars_none hV
  have k0 := h0
  have lt0 : ∀ x ∈ p0, x.block < W.heap.size := by obtain ⟨m, hm⟩ := k0; exact DataW.trod_lt m _ _ _ hm
  obtain ⟨x0, K0, X0⟩ := open_arg (j := 0) (Opens.slice Try.underlying22 (by kernel_rfl) (by kernel_rfl) opens54) hsz rfl rfl h0
  obtain ⟨a0, len0, cap0, rfl⟩ := okWide_slice Try.underlying22 (hval 0 22 v0 rfl rfl)
  obtain ⟨A0, c0, e0, hc0, hr0⟩ := K0
  obtain ⟨rfl, rfl, rfl⟩ : a0 = A0 ∧ len0 = x0.length ∧ cap0 = c0 := by simpa [Value.cells] using e0
  have k1 := h1
  have lt1 : ∀ x ∈ p1, x.block < W.heap.size := by obtain ⟨m, hm⟩ := k1; exact DataW.trod_lt m _ _ _ hm
  obtain ⟨x1, K1, X1⟩ := open_arg (j := 1) opens41 hsz rfl rfl h1
  obtain ⟨cs1, rfl, _⟩ := okWide_struct Try.underlying41 (hval 1 41 v1 rfl rfl)
  obtain ⟨A1_9, c1_9, A1_10, c1_10, A1_11, c1_11, A1_12, c1_12, A1_17, c1_17, A1_18, c1_18, A1_19, c1_19, A1_20, c1_20, A1_21, c1_21, A1_22, c1_22, A1_28, c1_28, e1, hc1_9, hr1_9, hc1_10, hr1_10, hc1_11, hr1_11, hc1_12, hr1_12, hc1_17, hr1_17, hc1_18, hr1_18, hc1_19, hr1_19, hc1_20, hr1_20, hc1_21, hr1_21, hc1_22, hr1_22, hc1_28, hr1_28⟩ := k41_open K1
  obtain rfl : cs1 = #[.string x1.f0.f0, .string x1.f0.f1, .string x1.f0.f2, .int .i64 x1.f0.f3, .int .i64 x1.f0.f4, .int .i64 x1.f0.f5, .int .i64 x1.f0.f6, .bool x1.f0.f7, .int .i64 x1.f0.f8, .slice A1_9 (x1.f0.f9).length c1_9, .slice A1_10 (x1.f0.f10).length c1_10, .slice A1_11 (x1.f0.f11).length c1_11, .slice A1_12 (x1.f0.f12).length c1_12, .string x1.f1.f0, .int .i64 x1.f1.f1, .int .i64 x1.f1.f2, .int .i64 x1.f1.f3, .slice A1_17 (x1.f1.f4).length c1_17, .slice A1_18 (x1.f1.f5).length c1_18, .slice A1_19 (x1.f1.f6).length c1_19, .slice A1_20 (x1.f1.f7).length c1_20, .slice A1_21 (x1.f1.f8).length c1_21, .slice A1_22 (x1.f1.f9).length c1_22, .int .i64 x1.f2.f0, .bool x1.f2.f1, .int .i64 x1.f2.f2, .int .i64 x1.f2.f3, .int .i64 x1.f2.f4, .slice A1_28 (x1.f2.f5).length c1_28, .int .i64 x1.f2.f6, .string x1.f2.f7, .string x1.f2.f8] := Array.ext' e1
  have k2 := h2
  have lt2 : ∀ x ∈ p2, x.block < W.heap.size := by obtain ⟨m, hm⟩ := k2; exact DataW.trod_lt m _ _ _ hm
  obtain ⟨x2, K2, X2⟩ := open_arg (j := 2) opens41 hsz rfl rfl h2
  obtain ⟨cs2, rfl, _⟩ := okWide_struct Try.underlying41 (hval 2 41 v2 rfl rfl)
  obtain ⟨A2_9, c2_9, A2_10, c2_10, A2_11, c2_11, A2_12, c2_12, A2_17, c2_17, A2_18, c2_18, A2_19, c2_19, A2_20, c2_20, A2_21, c2_21, A2_22, c2_22, A2_28, c2_28, e2, hc2_9, hr2_9, hc2_10, hr2_10, hc2_11, hr2_11, hc2_12, hr2_12, hc2_17, hr2_17, hc2_18, hr2_18, hc2_19, hr2_19, hc2_20, hr2_20, hc2_21, hr2_21, hc2_22, hr2_22, hc2_28, hr2_28⟩ := k41_open K2
  obtain rfl : cs2 = #[.string x2.f0.f0, .string x2.f0.f1, .string x2.f0.f2, .int .i64 x2.f0.f3, .int .i64 x2.f0.f4, .int .i64 x2.f0.f5, .int .i64 x2.f0.f6, .bool x2.f0.f7, .int .i64 x2.f0.f8, .slice A2_9 (x2.f0.f9).length c2_9, .slice A2_10 (x2.f0.f10).length c2_10, .slice A2_11 (x2.f0.f11).length c2_11, .slice A2_12 (x2.f0.f12).length c2_12, .string x2.f1.f0, .int .i64 x2.f1.f1, .int .i64 x2.f1.f2, .int .i64 x2.f1.f3, .slice A2_17 (x2.f1.f4).length c2_17, .slice A2_18 (x2.f1.f5).length c2_18, .slice A2_19 (x2.f1.f6).length c2_19, .slice A2_20 (x2.f1.f7).length c2_20, .slice A2_21 (x2.f1.f8).length c2_21, .slice A2_22 (x2.f1.f9).length c2_22, .int .i64 x2.f2.f0, .bool x2.f2.f1, .int .i64 x2.f2.f2, .int .i64 x2.f2.f3, .int .i64 x2.f2.f4, .slice A2_28 (x2.f2.f5).length c2_28, .int .i64 x2.f2.f6, .string x2.f2.f7, .string x2.f2.f8] := Array.ext' e2
  have k3 := h3
  have lt3 : ∀ x ∈ p3, x.block < W.heap.size := by obtain ⟨m, hm⟩ := k3; exact DataW.trod_lt m _ _ _ hm
  obtain ⟨x3, K3, X3⟩ := open_arg (j := 3) (Opens.i64 Try.underlying3) hsz rfl rfl h3
  obtain ⟨y3, rfl⟩ := okWide_int Try.underlying3 (hval 3 3 v3 rfl rfl)
  obtain rfl : x3 = y3 := (by have e_ : ([.int .i64 y3] : List Value) = [.int .i64 x3] := K3; injection e_ with e_; injection e_ : y3 = x3).symm
  have k4 := h4
  have lt4 : ∀ x ∈ p4, x.block < W.heap.size := by obtain ⟨m, hm⟩ := k4; exact DataW.trod_lt m _ _ _ hm
  obtain ⟨x4, K4, X4⟩ := open_arg (j := 4) opens54 hsz rfl rfl h4
  obtain ⟨cs4, rfl, _⟩ := okWide_struct Try.underlying54 (hval 4 54 v4 rfl rfl)
  obtain ⟨A4_9, c4_9, A4_10, c4_10, A4_11, c4_11, A4_12, c4_12, A4_13, c4_13, A4_16, c4_16, e4, hc4_9, hr4_9, hc4_10, hr4_10, hc4_11, hr4_11, hc4_12, hr4_12, hc4_13, hr4_13, hc4_16, hr4_16⟩ := k54_open K4
  obtain rfl : cs4 = #[.string x4.f0.f0, .string x4.f0.f1, .string x4.f0.f2, .int .i64 x4.f0.f3, .int .i64 x4.f0.f4, .int .i64 x4.f0.f5, .int .i64 x4.f0.f6, .bool x4.f0.f7, .int .i64 x4.f0.f8, .slice A4_9 (x4.f0.f9).length c4_9, .slice A4_10 (x4.f0.f10).length c4_10, .slice A4_11 (x4.f0.f11).length c4_11, .slice A4_12 (x4.f0.f12).length c4_12, .slice A4_13 (x4.f1).length c4_13, .bool x4.f2, .bool x4.f3, .slice A4_16 (x4.f4).length c4_16] := Array.ext' e4
  have k5 := h5
  have lt5 : ∀ x ∈ p5, x.block < W.heap.size := by obtain ⟨m, hm⟩ := k5; exact DataW.trod_lt m _ _ _ hm
  obtain ⟨x5, K5, X5⟩ := open_arg (j := 5) opens58 hsz rfl rfl h5
  obtain ⟨cs5, rfl, _⟩ := okWide_struct Try.underlying58 (hval 5 58 v5 rfl rfl)
  obtain ⟨A5_1, c5_1, A5_2, c5_2, e5, hc5_1, hr5_1, hc5_2, hr5_2⟩ := k58_open K5
  obtain rfl : cs5 = #[.bool x5.f0, .slice A5_1 (x5.f1).length c5_1, .slice A5_2 (x5.f2).length c5_2] := Array.ext' e5
  have k6 := h6
  have lt6 : ∀ x ∈ p6, x.block < W.heap.size := by obtain ⟨m, hm⟩ := k6; exact DataW.trod_lt m _ _ _ hm
  obtain ⟨x6, K6, X6⟩ := open_arg (j := 6) (Opens.i64 Try.underlying3) hsz rfl rfl h6
  obtain ⟨y6, rfl⟩ := okWide_int Try.underlying3 (hval 6 3 v6 rfl rfl)
  obtain rfl : x6 = y6 := (by have e_ : ([.int .i64 y6] : List Value) = [.int .i64 x6] := K6; injection e_ with e_; injection e_ : y6 = x6).symm
  obtain ⟨k, h⟩ := Pure.NetpolicyMonotone x0 x1 x2 x3 x4 x5 x6 X0 X1 X2 X3 X4 X5 X6
  clear hA0 hval0 hsz0 hsz hval
  refine (orchestratorlaw57_NetpolicyMonotone.calls k (fun k_ => k_ < W.heap.size) _ _ x0 x1.f0.f0 x1.f0.f1 x1.f0.f2 x1.f0.f3 x1.f0.f4 x1.f0.f5 x1.f0.f6 x1.f0.f7 x1.f0.f8 _ _ (x1.f0.f9) _ _ (x1.f0.f10) _ _ (x1.f0.f11) _ _ (x1.f0.f12) x1.f1.f0 x1.f1.f1 x1.f1.f2 x1.f1.f3 _ _ (x1.f1.f4) _ _ (x1.f1.f5) _ _ (x1.f1.f6) _ _ (x1.f1.f7) _ _ (x1.f1.f8) _ _ (x1.f1.f9) x1.f2.f0 x1.f2.f1 x1.f2.f2 x1.f2.f3 x1.f2.f4 _ _ (x1.f2.f5) x1.f2.f6 x1.f2.f7 x1.f2.f8 x2.f0.f0 x2.f0.f1 x2.f0.f2 x2.f0.f3 x2.f0.f4 x2.f0.f5 x2.f0.f6 x2.f0.f7 x2.f0.f8 _ _ (x2.f0.f9) _ _ (x2.f0.f10) _ _ (x2.f0.f11) _ _ (x2.f0.f12) x2.f1.f0 x2.f1.f1 x2.f1.f2 x2.f1.f3 _ _ (x2.f1.f4) _ _ (x2.f1.f5) _ _ (x2.f1.f6) _ _ (x2.f1.f7) _ _ (x2.f1.f8) _ _ (x2.f1.f9) x2.f2.f0 x2.f2.f1 x2.f2.f2 x2.f2.f3 x2.f2.f4 _ _ (x2.f2.f5) x2.f2.f6 x2.f2.f7 x2.f2.f8 x3 x4.f0.f0 x4.f0.f1 x4.f0.f2 x4.f0.f3 x4.f0.f4 x4.f0.f5 x4.f0.f6 x4.f0.f7 x4.f0.f8 (fun k_ => k_ < W.heap.size) _ _ (x4.f0.f9) (fun k_ => k_ < W.heap.size) _ _ (x4.f0.f10) (fun k_ => k_ < W.heap.size) _ _ (x4.f0.f11) (fun k_ => k_ < W.heap.size) _ _ (x4.f0.f12) (fun k_ => k_ < W.heap.size) _ _ (x4.f1) x4.f2 x4.f3 (fun k_ => k_ < W.heap.size) _ _ (x4.f4) x5.f0 (fun k_ => k_ < W.heap.size) _ _ (x5.f1) (fun k_ => k_ < W.heap.size) _ _ (x5.f2) x6 W (Kd.V_mk hc0 (Kd.C_F k54_heap hr0)) hr1_9 hc1_9 hr1_10 hc1_10 hr1_11 hc1_11 hr1_12 hc1_12 hr1_17 hc1_17 hr1_18 hc1_18 hr1_19 hc1_19 hr1_20 hc1_20 hr1_21 hc1_21 hr1_22 hc1_22 hr1_28 hc1_28 hr2_9 hc2_9 hr2_10 hc2_10 hr2_11 hc2_11 hr2_12 hc2_12 hr2_17 hc2_17 hr2_18 hc2_18 hr2_19 hc2_19 hr2_20 hc2_20 hr2_21 hc2_21 hr2_22 hc2_22 hr2_28 hc2_28 (Kd.V_mk hc4_9 (Kd.C_F k72_heap hr4_9)) (Kd.V_mk hc4_10 (Kd.C_F k110_heap hr4_10)) (Kd.V_mk hc4_11 (Kd.C_F Kd.heap_string hr4_11)) (Kd.V_mk hc4_12 (Kd.C_F k112_heap hr4_12)) (Kd.V_mk hc4_13 (Kd.C_F k74_heap hr4_13)) (Kd.V_mk hc4_16 (Kd.C_F k58_heap hr4_16)) (Kd.V_mk hc5_1 (Kd.C_F k64_heap hr5_1)) (Kd.V_mk hc5_2 (Kd.C_F (Kd.heap_int .i64) hr5_2)) h).mono fun e W' ⟨he, hd⟩ => ?_
  have bel : Below W.heap.size W W' := hd
  subst he
  exact ⟨_, rfl, _, _, _, [], _, [], hW', trodAll_mk1 (shut_bool Try.underlying4 _), (trodAll_cons_mk (Below.trod laidOut (by kernel_rfl) (of_decide_eq_true (by kernel_rfl)) k0 bel lt0) (trodAll_cons_mk (Below.trod laidOut (by kernel_rfl) (of_decide_eq_true (by kernel_rfl)) k1 bel lt1) (trodAll_cons_mk (Below.trod laidOut (by kernel_rfl) (of_decide_eq_true (by kernel_rfl)) k2 bel lt2) (trodAll_cons_mk (Below.trod laidOut (by kernel_rfl) (of_decide_eq_true (by kernel_rfl)) k3 bel lt3) (trodAll_cons_mk (Below.trod laidOut (by kernel_rfl) (of_decide_eq_true (by kernel_rfl)) k4 bel lt4) (trodAll_cons_mk (Below.trod laidOut (by kernel_rfl) (of_decide_eq_true (by kernel_rfl)) k5 bel lt5) (trodAll_cons_mk (Below.trod laidOut (by kernel_rfl) (of_decide_eq_true (by kernel_rfl)) k6 bel lt6) trodAll_mk0))))))), rfl, bel.frame _, fun h => by cases h⟩
theorem over : Rows.netpolicyMonotoneRow.holds Try.pinned (OpenSpec.ofChange Rows.netpolicyMonotoneSpec) :=
  OpenClaim.holds_of_wide 5 Try.f5 rfl rfl rfl rfl rfl rfl rfl ⟨rfl, rfl, rfl, rfl, rfl⟩ rfl rfl rfl rfl rfl (by kernel_rfl) Try.func5 (by kernel_rfl)
    (of_decide_eq_true (by kernel_rfl)) (by unfold Func.isWrapper; first | (rw [if_pos (by decide +kernel)]; kernel_rfl) | (rw [if_neg (by decide +kernel)]; exact ⟨rfl, rfl⟩))
    (fun os started H enc _ => lifted os started H enc)
theorem proved : Rows.NetpolicyMonotoneSaid := over
#print axioms proved
end Go.Proofs.Ytkdikhonafbgdaa.netpolicyMonotone
namespace Go.Proofs.Ytkdikhonafbgdaa
theorem netpolicyMonotone_holds : Rows.NetpolicyMonotoneSaid := netpolicyMonotone.proved
end Go.Proofs.Ytkdikhonafbgdaa
