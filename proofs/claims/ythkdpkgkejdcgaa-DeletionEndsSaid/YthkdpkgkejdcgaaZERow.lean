/- Part of a claim: see its row. Conditions: stated at each. -/
import Derived.Test.YthkdpkgkejdcgaaRows
import Derived.Test.YthkdpkgkejdcgaaZEQSDeletionEnds
import Derived.Test.YthkdpkgkejdcgaaZEPureDeletionEnds
import Derived.WalkKit
import Derived.ProofKit
import Derived.OpenShut
import Derived.ShutString
import Derived.ChangeOld
import Derived.Below
import Derived.SizedLaws
namespace Go.Proofs.Ythkdpkgkejdcgaa.deletionEnds
open Go.ChangeShapes Go.WideShapes Go.ChangeAt Go.RowKit
open Go.ChangeMaps (open_string shut_string)
open Go.Proofs.Ythkdpkgkejdcgaa.Opn Go.Proofs.Ythkdpkgkejdcgaa.Q Go.Proofs.YthkdpkgkejdcgaaW.PrintWords
set_option linter.unusedVariables false
theorem own : ownKnob Try.prog.godebug = none := by kernel_rfl
theorem laidOut : laidOutB Try.prog = true := by kernel_rfl
set_option maxRecDepth 100000 in
set_option maxHeartbeats 4000000 in
theorem lifted (os : Os) (started : os.Started) (H : Type) (enc : TypeId × Value → H) :
    ReturnsInHanded {} Try.checked os 6 .any (Rows.deletionEndsSpec.pre6 enc Try.prog Try.f6 Rows.deletionEndsRow.domain false) (Rows.deletionEndsSpec.post enc Try.prog Try.f6 false true false false) := by
  refine returnsInHanded_of_change_sized (C := Try.checked) own started (by kernel_rfl) Try.func6
    (ChangeSpec.witness6 (enc := enc) (C := Try.checked) false ⟨#[], #[(.agg #[(.string ⟨#[]⟩), (.string ⟨#[]⟩), (.string ⟨#[]⟩), (.int .i64 0), (.int .i64 0), (.int .i64 0), (.int .i64 0), (.bool false), (.int .i64 0), (.slice none 0 0), (.slice none 0 0), (.slice none 0 0), (.slice none 0 0), (.int .i64 0), (.int .i64 0), (.string ⟨#[]⟩), (.slice none 0 0), (.slice none 0 0), (.int .i64 0), (.int .i64 0), (.string ⟨#[]⟩), (.slice none 0 0), (.slice none 0 0)]), (.int .i64 0), (.int .i64 0), (.int .i64 0)], []⟩ 64 (by kernel_rfl) (by kernel_rfl) (by kernel_rfl) (by kernel_rfl)) ?_
  intro W base args ds gs before hval0 hW hcnd hsz0 _
  have hsz : (DataW.weightsEach Try.prog (Try.f6.params.toList ++ Rows.deletionEndsSpec.plain.varTypes Try.prog) (ds ++ gs)).all (· ≤ reachBytes) = true := hsz0
  have hval : ∀ (j : Nat) t v, Try.f6.params[j]? = some t → args[j]? = some v → Value.okWide Try.prog W .any base t v := hval0
  have hW' := hW
  obtain ⟨p, q, hA0, hV, rfl, hfz, hnd⟩ := hW
  have hA : DataW.TrodAll enc Try.prog W 0 (fun _ => true) true Try.f6.params.toList args.toList ds p := hA0
  rw [Try.params6] at hA hval hsz
  obtain ⟨v0, vs0, d0, ds0, p0, q0, hargs, rfl, rfl, h0, r0⟩ := trodAll_cons hA
  obtain ⟨v1, vs1, d1, ds1, p1, q1, rfl, rfl, rfl, h1, r1⟩ := trodAll_cons r0
  obtain ⟨v2, vs2, d2, ds2, p2, q2, rfl, rfl, rfl, h2, r2⟩ := trodAll_cons r1
  obtain ⟨v3, vs3, d3, ds3, p3, q3, rfl, rfl, rfl, h3, r3⟩ := trodAll_cons r2
  obtain ⟨rfl, rfl, rfl⟩ := trodAll_nil r3
  obtain rfl : args = #[v0, v1, v2, v3] := by cases args; simp_all
  obtain ⟨rfl, rfl⟩ := trodVars_none hV
  have k0 := h0
  have lt0 : ∀ x ∈ p0, x.block < W.heap.size := by obtain ⟨m, hm⟩ := k0; exact DataW.trod_lt m _ _ _ hm
  obtain ⟨x0, K0, X0⟩ := open_arg (j := 0) opens33 hsz rfl rfl h0
  obtain ⟨cs0, rfl, _⟩ := okWide_struct Try.underlying33 (hval 0 33 v0 rfl rfl)
  obtain ⟨A0_9, c0_9, A0_10, c0_10, A0_11, c0_11, A0_12, c0_12, A0_16, c0_16, A0_17, c0_17, A0_21, c0_21, A0_22, c0_22, e0, hc0_9, hr0_9, hc0_10, hr0_10, hc0_11, hr0_11, hc0_12, hr0_12, hc0_16, hr0_16, hc0_17, hr0_17, hc0_21, hr0_21, hc0_22, hr0_22⟩ := k33_open K0
  obtain rfl : cs0 = #[.string x0.f0.f0, .string x0.f0.f1, .string x0.f0.f2, .int .i64 x0.f0.f3, .int .i64 x0.f0.f4, .int .i64 x0.f0.f5, .int .i64 x0.f0.f6, .bool x0.f0.f7, .int .i64 x0.f0.f8, .slice A0_9 (x0.f0.f9).length c0_9, .slice A0_10 (x0.f0.f10).length c0_10, .slice A0_11 (x0.f0.f11).length c0_11, .slice A0_12 (x0.f0.f12).length c0_12, .int .i64 x0.f1.f0, .int .i64 x0.f1.f1, .string x0.f1.f2, .slice A0_16 (x0.f1.f3).length c0_16, .slice A0_17 (x0.f1.f4).length c0_17, .int .i64 x0.f2.f0, .int .i64 x0.f2.f1, .string x0.f2.f2, .slice A0_21 (x0.f2.f3).length c0_21, .slice A0_22 (x0.f2.f4).length c0_22] := Array.ext' e0
  have k1 := h1
  have lt1 : ∀ x ∈ p1, x.block < W.heap.size := by obtain ⟨m, hm⟩ := k1; exact DataW.trod_lt m _ _ _ hm
  obtain ⟨x1, K1, X1⟩ := open_arg (j := 1) (Opens.i64 Try.underlying3) hsz rfl rfl h1
  obtain ⟨y1, rfl⟩ := okWide_int Try.underlying3 (hval 1 3 v1 rfl rfl)
  obtain rfl : x1 = y1 := (by have e_ : ([.int .i64 y1] : List Value) = [.int .i64 x1] := K1; injection e_ with e_; injection e_ : y1 = x1).symm
  have k2 := h2
  have lt2 : ∀ x ∈ p2, x.block < W.heap.size := by obtain ⟨m, hm⟩ := k2; exact DataW.trod_lt m _ _ _ hm
  obtain ⟨x2, K2, X2⟩ := open_arg (j := 2) (Opens.i64 Try.underlying3) hsz rfl rfl h2
  obtain ⟨y2, rfl⟩ := okWide_int Try.underlying3 (hval 2 3 v2 rfl rfl)
  obtain rfl : x2 = y2 := (by have e_ : ([.int .i64 y2] : List Value) = [.int .i64 x2] := K2; injection e_ with e_; injection e_ : y2 = x2).symm
  have k3 := h3
  have lt3 : ∀ x ∈ p3, x.block < W.heap.size := by obtain ⟨m, hm⟩ := k3; exact DataW.trod_lt m _ _ _ hm
  obtain ⟨x3, K3, X3⟩ := open_arg (j := 3) (Opens.i64 Try.underlying3) hsz rfl rfl h3
  obtain ⟨y3, rfl⟩ := okWide_int Try.underlying3 (hval 3 3 v3 rfl rfl)
  obtain rfl : x3 = y3 := (by have e_ : ([.int .i64 y3] : List Value) = [.int .i64 x3] := K3; injection e_ with e_; injection e_ : y3 = x3).symm
  obtain ⟨k, h⟩ := Pure.DeletionEnds x0 x1 x2 x3 X0 X1 X2 X3
  clear hA0 hval0 hsz0 hsz hval
  refine (orchestratorlaw21_DeletionEnds.calls k x0.f0.f0 x0.f0.f1 x0.f0.f2 x0.f0.f3 x0.f0.f4 x0.f0.f5 x0.f0.f6 x0.f0.f7 x0.f0.f8 _ _ (x0.f0.f9) _ _ (x0.f0.f10) _ _ (x0.f0.f11) _ _ (x0.f0.f12) x0.f1.f0 x0.f1.f1 x0.f1.f2 _ _ (x0.f1.f3) _ _ (x0.f1.f4) x0.f2.f0 x0.f2.f1 x0.f2.f2 _ _ (x0.f2.f3) _ _ (x0.f2.f4) x1 x2 x3 W hr0_9 hc0_9 hr0_10 hc0_10 hr0_11 hc0_11 hr0_12 hc0_12 hr0_16 hc0_16 hr0_17 hc0_17 hr0_21 hc0_21 hr0_22 hc0_22 h).mono fun e W' ⟨he, hd⟩ => ?_
  have bel : Below W.heap.size W W' := hd
  subst he
  exact ⟨_, rfl, _, _, _, [], _, [], hW', trodAll_mk1 (shut_bool Try.underlying4 _), (trodAll_cons_mk (Below.trod laidOut (by kernel_rfl) (of_decide_eq_true (by kernel_rfl)) k0 bel lt0) (trodAll_cons_mk (Below.trod laidOut (by kernel_rfl) (of_decide_eq_true (by kernel_rfl)) k1 bel lt1) (trodAll_cons_mk (Below.trod laidOut (by kernel_rfl) (of_decide_eq_true (by kernel_rfl)) k2 bel lt2) (trodAll_cons_mk (Below.trod laidOut (by kernel_rfl) (of_decide_eq_true (by kernel_rfl)) k3 bel lt3) trodAll_mk0)))), rfl, bel.frame _, fun h => by cases h⟩
theorem over : Rows.deletionEndsRow.holds Try.pinned (OpenSpec.ofChange Rows.deletionEndsSpec) :=
  OpenClaim.holds_of_wide 6 Try.f6 rfl rfl rfl rfl rfl rfl rfl ⟨rfl, rfl, rfl, rfl, rfl⟩ rfl rfl rfl rfl rfl (by kernel_rfl) Try.func6 (by kernel_rfl)
    (of_decide_eq_true (by kernel_rfl)) (by unfold Func.isWrapper; first | (rw [if_pos (by decide +kernel)]; kernel_rfl) | (rw [if_neg (by decide +kernel)]; exact ⟨rfl, rfl⟩))
    (fun os started H enc _ => lifted os started H enc)
theorem proved : Rows.DeletionEndsSaid := over
#print axioms proved
end Go.Proofs.Ythkdpkgkejdcgaa.deletionEnds
namespace Go.Proofs.Ythkdpkgkejdcgaa
theorem deletionEnds_holds : Rows.DeletionEndsSaid := deletionEnds.proved
end Go.Proofs.Ythkdpkgkejdcgaa
