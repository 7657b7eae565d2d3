/- Part of a claim: see its row. Conditions: stated at each. -/
import Derived.Test.YthkdpkgkejdcgaaRows
import Derived.Test.YthkdpkgkejdcgaaZKQSDeletionKeeps
import Derived.Test.YthkdpkgkejdcgaaZKPureDeletionKeeps
import Derived.WalkKit
import Derived.ProofKit
import Derived.OpenShut
import Derived.ShutString
import Derived.ChangeOld
import Derived.Below
import Derived.SizedLaws
namespace Go.Proofs.Ythkdpkgkejdcgaa.deletionKeeps
open Go.ChangeShapes Go.WideShapes Go.ChangeAt Go.RowKit
open Go.ChangeMaps (open_string shut_string)
open Go.Proofs.Ythkdpkgkejdcgaa.Opn Go.Proofs.Ythkdpkgkejdcgaa.Q Go.Proofs.YthkdpkgkejdcgaaW.PrintWords
set_option linter.unusedVariables false
theorem own : ownKnob Try.prog.godebug = none := by kernel_rfl
theorem laidOut : laidOutB Try.prog = true := by kernel_rfl
set_option maxRecDepth 100000 in
set_option maxHeartbeats 4000000 in
theorem lifted (os : Os) (started : os.Started) (H : Type) (enc : TypeId × Value → H) :
    ReturnsInHanded {} Try.checked os 7 .any (Rows.deletionKeepsSpec.pre6 enc Try.prog Try.f7 Rows.deletionKeepsRow.domain false) (Rows.deletionKeepsSpec.post enc Try.prog Try.f7 false true false false) := by
  refine returnsInHanded_of_change_sized (C := Try.checked) own started (by kernel_rfl) Try.func7
    (ChangeSpec.witness6 (enc := enc) (C := Try.checked) false ⟨#[], #[(.agg #[(.string ⟨#[]⟩), (.string ⟨#[]⟩), (.string ⟨#[]⟩), (.int .i64 0), (.int .i64 0), (.int .i64 0), (.int .i64 0), (.bool false), (.int .i64 0), (.slice none 0 0), (.slice none 0 0), (.slice none 0 0), (.slice none 0 0), (.int .i64 0), (.int .i64 0), (.string ⟨#[]⟩), (.slice none 0 0), (.slice none 0 0), (.int .i64 0), (.int .i64 0), (.string ⟨#[]⟩), (.slice none 0 0), (.slice none 0 0)]), (.string ⟨#[]⟩), (.agg #[(.string ⟨#[]⟩), (.int .i64 0), (.int .i64 0), (.int .i64 0)]), (.agg #[(.string ⟨#[]⟩), (.int .i64 0), (.int .i64 0), (.int .i64 0)])], []⟩ 64 (by kernel_rfl) (by kernel_rfl) (by kernel_rfl) (by kernel_rfl)) ?_
  intro W base args ds gs before hval0 hW hcnd hsz0 _
  have hsz : (DataW.weightsEach Try.prog (Try.f7.params.toList ++ Rows.deletionKeepsSpec.plain.varTypes Try.prog) (ds ++ gs)).all (· ≤ reachBytes) = true := hsz0
  have hval : ∀ (j : Nat) t v, Try.f7.params[j]? = some t → args[j]? = some v → Value.okWide Try.prog W .any base t v := hval0
  have hW' := hW
  obtain ⟨p, q, hA0, hV, rfl, hfz, hnd⟩ := hW
  have hA : DataW.TrodAll enc Try.prog W 0 (fun _ => true) true Try.f7.params.toList args.toList ds p := hA0
  rw [Try.params7] at hA hval hsz
  obtain ⟨v0, vs0, d0, ds0, p0, q0, hargs, rfl, rfl, h0, r0⟩ := trodAll_cons hA
  obtain ⟨v1, vs1, d1, ds1, p1, q1, rfl, rfl, rfl, h1, r1⟩ := trodAll_cons r0
  obtain ⟨v2, vs2, d2, ds2, p2, q2, rfl, rfl, rfl, h2, r2⟩ := trodAll_cons r1
  obtain ⟨v3, vs3, d3, ds3, p3, q3, rfl, rfl, rfl, h3, r3⟩ := trodAll_cons r2
  obtain ⟨rfl, rfl, rfl⟩ := trodAll_nil r3
  obtain rfl : args = #[v0, v1, v2, v3] := by cases args; simp_all
  obtain ⟨rfl, rfl⟩ := trodVars_none hV
  have k0 := h0
  have lt0 : ∀ x ∈ p0, x.block < W.heap.size := by obtain ⟨m, hm⟩ := k0; exact DataW.trod_lt m _ _ _ hm
  obtain ⟨x0, K0, X0⟩ := open_arg (j := 0) opens33 hsz rfl rfl h0
  obtain ⟨cs0, rfl, _⟩ := okWide_struct Try.underlying33 (hval 0 33 v0 rfl rfl)
  obtain ⟨A0_9, c0_9, A0_10, c0_10, A0_11, c0_11, A0_12, c0_12, A0_16, c0_16, A0_17, c0_17, A0_21, c0_21, A0_22, c0_22, e0, hc0_9, hr0_9, hc0_10, hr0_10, hc0_11, hr0_11, hc0_12, hr0_12, hc0_16, hr0_16, hc0_17, hr0_17, hc0_21, hr0_21, hc0_22, hr0_22⟩ := k33_open K0
  obtain rfl : cs0 = #[.string x0.f0.f0, .string x0.f0.f1, .string x0.f0.f2, .int .i64 x0.f0.f3, .int .i64 x0.f0.f4, .int .i64 x0.f0.f5, .int .i64 x0.f0.f6, .bool x0.f0.f7, .int .i64 x0.f0.f8, .slice A0_9 (x0.f0.f9).length c0_9, .slice A0_10 (x0.f0.f10).length c0_10, .slice A0_11 (x0.f0.f11).length c0_11, .slice A0_12 (x0.f0.f12).length c0_12, .int .i64 x0.f1.f0, .int .i64 x0.f1.f1, .string x0.f1.f2, .slice A0_16 (x0.f1.f3).length c0_16, .slice A0_17 (x0.f1.f4).length c0_17, .int .i64 x0.f2.f0, .int .i64 x0.f2.f1, .string x0.f2.f2, .slice A0_21 (x0.f2.f3).length c0_21, .slice A0_22 (x0.f2.f4).length c0_22] := Array.ext' e0
  have k1 := h1
  have lt1 : ∀ x ∈ p1, x.block < W.heap.size := by obtain ⟨m, hm⟩ := k1; exact DataW.trod_lt m _ _ _ hm
  obtain ⟨x1, K1, X1⟩ := open_arg (j := 1) (Opens.string Try.underlying9) hsz rfl rfl h1
  obtain ⟨y1, rfl⟩ := okWide_string Try.underlying9 (hval 1 9 v1 rfl rfl)
  obtain rfl : x1 = y1 := (by have e_ : ([.string y1] : List Value) = [.string x1] := K1; injection e_ with e_; injection e_ : y1 = x1).symm
  have k2 := h2
  have lt2 : ∀ x ∈ p2, x.block < W.heap.size := by obtain ⟨m, hm⟩ := k2; exact DataW.trod_lt m _ _ _ hm
  obtain ⟨x2, K2, X2⟩ := open_arg (j := 2) opens45 hsz rfl rfl h2
  obtain ⟨cs2, rfl, _⟩ := okWide_struct Try.underlying45 (hval 2 45 v2 rfl rfl)
  obtain e2 := k45_open K2
  obtain rfl : cs2 = #[.string x2.f0, .int .i64 x2.f1, .int .i64 x2.f2, .int .i64 x2.f3] := Array.ext' e2
  have k3 := h3
  have lt3 : ∀ x ∈ p3, x.block < W.heap.size := by obtain ⟨m, hm⟩ := k3; exact DataW.trod_lt m _ _ _ hm
  obtain ⟨x3, K3, X3⟩ := open_arg (j := 3) opens45 hsz rfl rfl h3
  obtain ⟨cs3, rfl, _⟩ := okWide_struct Try.underlying45 (hval 3 45 v3 rfl rfl)
  obtain e3 := k45_open K3
  obtain rfl : cs3 = #[.string x3.f0, .int .i64 x3.f1, .int .i64 x3.f2, .int .i64 x3.f3] := Array.ext' e3
  obtain ⟨k, h⟩ := Pure.DeletionKeeps x0 x1 x2 x3 X0 X1 X2 X3
  clear hA0 hval0 hsz0 hsz hval
  refine (orchestratorlaw21_DeletionKeeps.calls k x0.f0.f0 x0.f0.f1 x0.f0.f2 x0.f0.f3 x0.f0.f4 x0.f0.f5 x0.f0.f6 x0.f0.f7 x0.f0.f8 _ _ (x0.f0.f9) _ _ (x0.f0.f10) _ _ (x0.f0.f11) _ _ (x0.f0.f12) x0.f1.f0 x0.f1.f1 x0.f1.f2 _ _ (x0.f1.f3) _ _ (x0.f1.f4) x0.f2.f0 x0.f2.f1 x0.f2.f2 _ _ (x0.f2.f3) _ _ (x0.f2.f4) x1 x2.f0 x2.f1 x2.f2 x2.f3 x3.f0 x3.f1 x3.f2 x3.f3 W hr0_9 hc0_9 hr0_10 hc0_10 hr0_11 hc0_11 hr0_12 hc0_12 hr0_16 hc0_16 hr0_17 hc0_17 hr0_21 hc0_21 hr0_22 hc0_22 h).mono fun e W' ⟨he, hd⟩ => ?_
  have bel : Below W.heap.size W W' := hd
  subst he
  exact ⟨_, rfl, _, _, _, [], _, [], hW', trodAll_mk1 (shut_bool Try.underlying4 _), (trodAll_cons_mk (Below.trod laidOut (by kernel_rfl) (of_decide_eq_true (by kernel_rfl)) k0 bel lt0) (trodAll_cons_mk (Below.trod laidOut (by kernel_rfl) (of_decide_eq_true (by kernel_rfl)) k1 bel lt1) (trodAll_cons_mk (Below.trod laidOut (by kernel_rfl) (of_decide_eq_true (by kernel_rfl)) k2 bel lt2) (trodAll_cons_mk (Below.trod laidOut (by kernel_rfl) (of_decide_eq_true (by kernel_rfl)) k3 bel lt3) trodAll_mk0)))), rfl, bel.frame _, fun h => by cases h⟩
theorem over : Rows.deletionKeepsRow.holds Try.pinned (OpenSpec.ofChange Rows.deletionKeepsSpec) :=
  OpenClaim.holds_of_wide 7 Try.f7 rfl rfl rfl rfl rfl rfl rfl ⟨rfl, rfl, rfl, rfl, rfl⟩ rfl rfl rfl rfl rfl (by kernel_rfl) Try.func7 (by kernel_rfl)
    (of_decide_eq_true (by kernel_rfl)) (by unfold Func.isWrapper; first | (rw [if_pos (by decide +kernel)]; kernel_rfl) | (rw [if_neg (by decide +kernel)]; exact ⟨rfl, rfl⟩))
    (fun os started H enc _ => lifted os started H enc)
theorem proved : Rows.DeletionKeepsSaid := over
#print axioms proved
end Go.Proofs.Ythkdpkgkejdcgaa.deletionKeeps
namespace Go.Proofs.Ythkdpkgkejdcgaa
theorem deletionKeeps_holds : Rows.DeletionKeepsSaid := deletionKeeps.proved
end Go.Proofs.Ythkdpkgkejdcgaa
