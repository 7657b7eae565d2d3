/- Part of a claim: see its row. Conditions: stated at each. -/
import Derived.Test.YtkdikhonafbgdaaRows
import Derived.Test.YtkdikhonafbgdaaZAQSNetpolicyAllows
import Derived.Test.YtkdikhonafbgdaaZAPureNetpolicyAllows
import Derived.WalkKit
import Derived.ProofKit
import Derived.OpenShut
import Derived.ShutString
import Derived.ChangeOld
import Derived.Below
import Derived.SizedLaws
namespace Go.Proofs.Ytkdikhonafbgdaa.netpolicyAllows
open Go.ChangeShapes Go.WideShapes Go.ChangeAt Go.RowKit
open Go.ChangeMaps (open_string shut_string)
open Go.Proofs.Ytkdikhonafbgdaa.Opn Go.Proofs.Ytkdikhonafbgdaa.Q Go.Proofs.YtkdikhonafbgdaaW.PrintWords
set_option linter.unusedVariables false
theorem own : ownKnob Try.prog.godebug = none := by kernel_rfl
theorem laidOut : laidOutB Try.prog = true := by kernel_rfl
set_option maxRecDepth 100000 in
set_option maxHeartbeats 4000000 in
theorem lifted (os : Os) (started : os.Started) (H : Type) (enc : TypeId × Value → H) :
    ReturnsInHanded {} Try.checked os 3 .any (Rows.netpolicyAllowsSpec.pre6 enc Try.prog Try.f3 Rows.netpolicyAllowsRow.domain false) (Rows.netpolicyAllowsSpec.post enc Try.prog Try.f3 false true false false) := by
  refine returnsInHanded_of_change_sized (C := Try.checked) own started (by kernel_rfl) Try.func3
    (ChangeSpec.witness6 (enc := enc) (C := Try.checked) false ⟨#[], #[(.slice none 0 0), (.agg #[(.string ⟨#[]⟩), (.string ⟨#[]⟩), (.string ⟨#[]⟩), (.int .i64 0), (.int .i64 0), (.int .i64 0), (.int .i64 0), (.bool false), (.int .i64 0), (.slice none 0 0), (.slice none 0 0), (.slice none 0 0), (.slice none 0 0), (.string ⟨#[]⟩), (.int .i64 0), (.int .i64 0), (.int .i64 0), (.slice none 0 0), (.slice none 0 0), (.slice none 0 0), (.slice none 0 0), (.slice none 0 0), (.slice none 0 0), (.int .i64 0), (.bool false), (.int .i64 0), (.int .i64 0), (.int .i64 0), (.slice none 0 0), (.int .i64 0), (.string ⟨#[]⟩), (.string ⟨#[]⟩)]), (.agg #[(.string ⟨#[]⟩), (.string ⟨#[]⟩), (.string ⟨#[]⟩), (.int .i64 0), (.int .i64 0), (.int .i64 0), (.int .i64 0), (.bool false), (.int .i64 0), (.slice none 0 0), (.slice none 0 0), (.slice none 0 0), (.slice none 0 0), (.string ⟨#[]⟩), (.int .i64 0), (.int .i64 0), (.int .i64 0), (.slice none 0 0), (.slice none 0 0), (.slice none 0 0), (.slice none 0 0), (.slice none 0 0), (.slice none 0 0), (.int .i64 0), (.bool false), (.int .i64 0), (.int .i64 0), (.int .i64 0), (.slice none 0 0), (.int .i64 0), (.string ⟨#[]⟩), (.string ⟨#[]⟩)]), (.int .i64 0)], []⟩ 64 (by kernel_rfl) (by kernel_rfl) (by kernel_rfl) (by kernel_rfl)) ?_
  intro W base args ds gs before hval0 hW hcnd hsz0 _
  have hsz : (DataW.weightsEach Try.prog (Try.f3.params.toList ++ Rows.netpolicyAllowsSpec.plain.varTypes Try.prog) (ds ++ gs)).all (· ≤ reachBytes) = true := hsz0
  have hval : ∀ (j : Nat) t v, Try.f3.params[j]? = some t → args[j]? = some v → Value.okWide Try.prog W .any base t v := hval0
  have hW' := hW
  obtain ⟨p, q, hA0, hV, rfl, hfz, hnd⟩ := hW
  have hA : DataW.TrodAll enc Try.prog W 0 (fun _ => true) true Try.f3.params.toList args.toList ds p := hA0
  rw [Try.params3] at hA hval hsz
  obtain ⟨v0, vs0, d0, ds0, p0, q0, hargs, rfl, rfl, h0, r0⟩ := trodAll_cons hA
  obtain ⟨v1, vs1, d1, ds1, p1, q1, rfl, rfl, rfl, h1, r1⟩ := trodAll_cons r0
  obtain ⟨v2, vs2, d2, ds2, p2, q2, rfl, rfl, rfl, h2, r2⟩ := trodAll_cons r1
  obtain ⟨v3, vs3, d3, ds3, p3, q3, rfl, rfl, rfl, h3, r3⟩ := trodAll_cons r2
  obtain ⟨rfl, rfl, rfl⟩ := trodAll_nil r3
  obtain rfl : args = #[v0, v1, v2, v3] := by cases args; simp_all
  obtain ⟨rfl, rfl⟩ := trodVars_none hV
  have k0 := h0
  have lt0 : ∀ x ∈ p0, x.block < W.heap.size := by obtain ⟨m, hm⟩ := k0; exact DataW.trod_lt m _ _ _ hm
  obtain ⟨x0, K0, X0⟩ := open_arg (j := 0) (Opens.slice Try.underlying22 (by kernel_rfl) (by kernel_rfl) opens54) hsz rfl rfl h0
  obtain ⟨a0, len0, cap0, rfl⟩ := okWide_slice Try.underlying22 (hval 0 22 v0 rfl rfl)
  obtain ⟨A0, c0, e0, hc0, hr0⟩ := K0
  obtain ⟨rfl, rfl, rfl⟩ : a0 = A0 ∧ len0 = x0.length ∧ cap0 = c0 := by simpa [Value.cells] using e0
  have k1 := h1
  have lt1 : ∀ x ∈ p1, x.block < W.heap.size := by obtain ⟨m, hm⟩ := k1; exact DataW.trod_lt m _ _ _ hm
  obtain ⟨x1, K1, X1⟩ := open_arg (j := 1) opens41 hsz rfl rfl h1
  obtain ⟨cs1, rfl, _⟩ := okWide_struct Try.underlying41 (hval 1 41 v1 rfl rfl)
  obtain ⟨A1_9, c1_9, A1_10, c1_10, A1_11, c1_11, A1_12, c1_12, A1_17, c1_17, A1_18, c1_18, A1_19, c1_19, A1_20, c1_20, A1_21, c1_21, A1_22, c1_22, A1_28, c1_28, e1, hc1_9, hr1_9, hc1_10, hr1_10, hc1_11, hr1_11, hc1_12, hr1_12, hc1_17, hr1_17, hc1_18, hr1_18, hc1_19, hr1_19, hc1_20, hr1_20, hc1_21, hr1_21, hc1_22, hr1_22, hc1_28, hr1_28⟩ := k41_open K1
  obtain rfl : cs1 = #[.string x1.f0.f0, .string x1.f0.f1, .string x1.f0.f2, .int .i64 x1.f0.f3, .int .i64 x1.f0.f4, .int .i64 x1.f0.f5, .int .i64 x1.f0.f6, .bool x1.f0.f7, .int .i64 x1.f0.f8, .slice A1_9 (x1.f0.f9).length c1_9, .slice A1_10 (x1.f0.f10).length c1_10, .slice A1_11 (x1.f0.f11).length c1_11, .slice A1_12 (x1.f0.f12).length c1_12, .string x1.f1.f0, .int .i64 x1.f1.f1, .int .i64 x1.f1.f2, .int .i64 x1.f1.f3, .slice A1_17 (x1.f1.f4).length c1_17, .slice A1_18 (x1.f1.f5).length c1_18, .slice A1_19 (x1.f1.f6).length c1_19, .slice A1_20 (x1.f1.f7).length c1_20, .slice A1_21 (x1.f1.f8).length c1_21, .slice A1_22 (x1.f1.f9).length c1_22, .int .i64 x1.f2.f0, .bool x1.f2.f1, .int .i64 x1.f2.f2, .int .i64 x1.f2.f3, .int .i64 x1.f2.f4, .slice A1_28 (x1.f2.f5).length c1_28, .int .i64 x1.f2.f6, .string x1.f2.f7, .string x1.f2.f8] := Array.ext' e1
  have k2 := h2
  have lt2 : ∀ x ∈ p2, x.block < W.heap.size := by obtain ⟨m, hm⟩ := k2; exact DataW.trod_lt m _ _ _ hm
  obtain ⟨x2, K2, X2⟩ := open_arg (j := 2) opens41 hsz rfl rfl h2
  obtain ⟨cs2, rfl, _⟩ := okWide_struct Try.underlying41 (hval 2 41 v2 rfl rfl)
  obtain ⟨A2_9, c2_9, A2_10, c2_10, A2_11, c2_11, A2_12, c2_12, A2_17, c2_17, A2_18, c2_18, A2_19, c2_19, A2_20, c2_20, A2_21, c2_21, A2_22, c2_22, A2_28, c2_28, e2, hc2_9, hr2_9, hc2_10, hr2_10, hc2_11, hr2_11, hc2_12, hr2_12, hc2_17, hr2_17, hc2_18, hr2_18, hc2_19, hr2_19, hc2_20, hr2_20, hc2_21, hr2_21, hc2_22, hr2_22, hc2_28, hr2_28⟩ := k41_open K2
  obtain rfl : cs2 = #[.string x2.f0.f0, .string x2.f0.f1, .string x2.f0.f2, .int .i64 x2.f0.f3, .int .i64 x2.f0.f4, .int .i64 x2.f0.f5, .int .i64 x2.f0.f6, .bool x2.f0.f7, .int .i64 x2.f0.f8, .slice A2_9 (x2.f0.f9).length c2_9, .slice A2_10 (x2.f0.f10).length c2_10, .slice A2_11 (x2.f0.f11).length c2_11, .slice A2_12 (x2.f0.f12).length c2_12, .string x2.f1.f0, .int .i64 x2.f1.f1, .int .i64 x2.f1.f2, .int .i64 x2.f1.f3, .slice A2_17 (x2.f1.f4).length c2_17, .slice A2_18 (x2.f1.f5).length c2_18, .slice A2_19 (x2.f1.f6).length c2_19, .slice A2_20 (x2.f1.f7).length c2_20, .slice A2_21 (x2.f1.f8).length c2_21, .slice A2_22 (x2.f1.f9).length c2_22, .int .i64 x2.f2.f0, .bool x2.f2.f1, .int .i64 x2.f2.f2, .int .i64 x2.f2.f3, .int .i64 x2.f2.f4, .slice A2_28 (x2.f2.f5).length c2_28, .int .i64 x2.f2.f6, .string x2.f2.f7, .string x2.f2.f8] := Array.ext' e2
  have k3 := h3
  have lt3 : ∀ x ∈ p3, x.block < W.heap.size := by obtain ⟨m, hm⟩ := k3; exact DataW.trod_lt m _ _ _ hm
  obtain ⟨x3, K3, X3⟩ := open_arg (j := 3) (Opens.i64 Try.underlying3) hsz rfl rfl h3
  obtain ⟨y3, rfl⟩ := okWide_int Try.underlying3 (hval 3 3 v3 rfl rfl)
  obtain rfl : x3 = y3 := (by have e_ : ([.int .i64 y3] : List Value) = [.int .i64 x3] := K3; injection e_ with e_; injection e_ : y3 = x3).symm
  obtain ⟨k, h⟩ := Pure.NetpolicyAllows x0 x1 x2 x3 X0 X1 X2 X3
  clear hA0 hval0 hsz0 hsz hval
  refine (orchestratorlaw57_NetpolicyAllows.calls k _ _ x0 x1.f0.f0 x1.f0.f1 x1.f0.f2 x1.f0.f3 x1.f0.f4 x1.f0.f5 x1.f0.f6 x1.f0.f7 x1.f0.f8 _ _ (x1.f0.f9) _ _ (x1.f0.f10) _ _ (x1.f0.f11) _ _ (x1.f0.f12) x1.f1.f0 x1.f1.f1 x1.f1.f2 x1.f1.f3 _ _ (x1.f1.f4) _ _ (x1.f1.f5) _ _ (x1.f1.f6) _ _ (x1.f1.f7) _ _ (x1.f1.f8) _ _ (x1.f1.f9) x1.f2.f0 x1.f2.f1 x1.f2.f2 x1.f2.f3 x1.f2.f4 _ _ (x1.f2.f5) x1.f2.f6 x1.f2.f7 x1.f2.f8 x2.f0.f0 x2.f0.f1 x2.f0.f2 x2.f0.f3 x2.f0.f4 x2.f0.f5 x2.f0.f6 x2.f0.f7 x2.f0.f8 _ _ (x2.f0.f9) _ _ (x2.f0.f10) _ _ (x2.f0.f11) _ _ (x2.f0.f12) x2.f1.f0 x2.f1.f1 x2.f1.f2 x2.f1.f3 _ _ (x2.f1.f4) _ _ (x2.f1.f5) _ _ (x2.f1.f6) _ _ (x2.f1.f7) _ _ (x2.f1.f8) _ _ (x2.f1.f9) x2.f2.f0 x2.f2.f1 x2.f2.f2 x2.f2.f3 x2.f2.f4 _ _ (x2.f2.f5) x2.f2.f6 x2.f2.f7 x2.f2.f8 x3 W hr0 hc0 hr1_9 hc1_9 hr1_10 hc1_10 hr1_11 hc1_11 hr1_12 hc1_12 hr1_17 hc1_17 hr1_18 hc1_18 hr1_19 hc1_19 hr1_20 hc1_20 hr1_21 hc1_21 hr1_22 hc1_22 hr1_28 hc1_28 hr2_9 hc2_9 hr2_10 hc2_10 hr2_11 hc2_11 hr2_12 hc2_12 hr2_17 hc2_17 hr2_18 hc2_18 hr2_19 hc2_19 hr2_20 hc2_20 hr2_21 hc2_21 hr2_22 hc2_22 hr2_28 hc2_28 h).mono fun e W' ⟨he, hd⟩ => ?_
  have bel : Below W.heap.size W W' := hd
  subst he
  exact ⟨_, rfl, _, _, _, [], _, [], hW', trodAll_mk1 (shut_bool Try.underlying4 _), (trodAll_cons_mk (Below.trod laidOut (by kernel_rfl) (of_decide_eq_true (by kernel_rfl)) k0 bel lt0) (trodAll_cons_mk (Below.trod laidOut (by kernel_rfl) (of_decide_eq_true (by kernel_rfl)) k1 bel lt1) (trodAll_cons_mk (Below.trod laidOut (by kernel_rfl) (of_decide_eq_true (by kernel_rfl)) k2 bel lt2) (trodAll_cons_mk (Below.trod laidOut (by kernel_rfl) (of_decide_eq_true (by kernel_rfl)) k3 bel lt3) trodAll_mk0)))), rfl, bel.frame _, fun h => by cases h⟩
theorem over : Rows.netpolicyAllowsRow.holds Try.pinned (OpenSpec.ofChange Rows.netpolicyAllowsSpec) :=
  OpenClaim.holds_of_wide 3 Try.f3 rfl rfl rfl rfl rfl rfl rfl ⟨rfl, rfl, rfl, rfl, rfl⟩ rfl rfl rfl rfl rfl (by kernel_rfl) Try.func3 (by kernel_rfl)
    (of_decide_eq_true (by kernel_rfl)) (by unfold Func.isWrapper; first | (rw [if_pos (by decide +kernel)]; kernel_rfl) | (rw [if_neg (by decide +kernel)]; exact ⟨rfl, rfl⟩))
    (fun os started H enc _ => lifted os started H enc)
theorem proved : Rows.NetpolicyAllowsSaid := over
#print axioms proved
end Go.Proofs.Ytkdikhonafbgdaa.netpolicyAllows
namespace Go.Proofs.Ytkdikhonafbgdaa
theorem netpolicyAllows_holds : Rows.NetpolicyAllowsSaid := netpolicyAllows.proved
end Go.Proofs.Ytkdikhonafbgdaa
