/- The law SpreadSkew: it answers true, and its arguments read as they did. Conditions: none but the row's own. -/
import Derived.Test.YtohhdiifohhghaaRows
import Derived.Test.YtohhdiifohhghaaL37d
import Derived.WalkKit
import Derived.ProofKit
import Derived.OpenShut
import Derived.ShutString
import Derived.JoinedCond
import Derived.Below
import Derived.SizedLaws
import Derived.ChangeOld
namespace Go.Proofs.Ytohhdiifohhghaa.spreadSkew
open Go.ChangeShapes Go.WideShapes Go.ChangeAt Go.RowKit
open Go.Proofs.Ytohhdiifohhghaa.Ev
set_option linter.unusedVariables false
set_option maxRecDepth 100000
theorem own : ownKnob Try.prog.godebug = none := by kernel_rfl
theorem laidOut : laidOutB Try.prog = true := by kernel_rfl
noncomputable def Ts : List Nat := closeT Try.prog 9 [22, 29, 64]
theorem okTs : Ts.all (okT Try.prog Ts) = true := by kernel_rfl
noncomputable def zv (t : Nat) : Value := ((Try.prog.info? t).bind (·.zero)).getD undef
theorem contract (H : Type) (enc : TypeId × Value → H) (W : World) (base : Nat) (args : Array Value) (ds gs : List (DataW H)) (before : List MemPlace)
    (hval : ∀ (j : Nat) t v, Try.f5.params[j]? = some t → args[j]? = some v → Value.okWide Try.prog W .any base t v)
    (hW : DataW.Whole enc Try.prog Try.f5.params.toList Rows.spreadSkewSpec.vars false W args.toList ds gs before) (hsz0 : (DataW.weightsEach Try.prog (Try.f5.params.toList ++ Rows.spreadSkewSpec.plain.varTypes Try.prog) (ds ++ gs)).all (· ≤ reachBytes) = true) :
    Calls Try.prog 5 args W fun e W' => ∃ v, e = .returned v ∧ Rows.spreadSkewSpec.post enc Try.prog Try.f5 false true false false W args v W' := by
  have hW' := hW
  obtain ⟨p, q, hA0, hV, rfl, hfz, hnd⟩ := hW
  have hA : DataW.TrodAll enc Try.prog W 0 (fun _ => true) true Try.f5.params.toList args.toList ds p := hA0
  have hsz : (DataW.weightsEach Try.prog (Try.f5.params.toList ++ Rows.spreadSkewSpec.plain.varTypes Try.prog) (ds ++ gs)).all (· ≤ reachBytes) = true := hsz0
  rw [Try.params5] at hA hval hsz
  obtain ⟨v0, vs0, d0, ds0, p0, q0, hargs, rfl, rfl, h0, r0⟩ := trodAll_cons hA
  obtain ⟨v1, vs1, d1, ds1, p1, q1, rfl, rfl, rfl, h1, r1⟩ := trodAll_cons r0
  obtain ⟨v2, vs2, d2, ds2, p2, q2, rfl, rfl, rfl, h2, r2⟩ := trodAll_cons r1
  obtain ⟨rfl, rfl, rfl⟩ := trodAll_nil r2
  obtain rfl : args = #[v0, v1, v2] := by cases args; simp_all
  obtain ⟨rfl, rfl⟩ := trodVars_none hV
  have lt0 : ∀ x ∈ p0, x.block < W.heap.size := by obtain ⟨m, hm⟩ := h0; exact DataW.trod_lt m _ _ _ hm
  have k0 := h0
  obtain ⟨n0, hf0⟩ := h0
  obtain ⟨z0, O0⟩ := open_cells Bnd.reach okTs n0 (natIn_mem (show natIn 22 Ts = true by kernel_rfl)) hf0 (fun m hm => of_decide_eq_true (List.all_eq_true.1 hsz m (weightsEach_mem_ (i := 0) (t := 22) (d := d0) rfl rfl m hm)))
  obtain ⟨b0, l0, c0, rfl⟩ := okWide_slice Try.underlying22 (hval 0 22 v0 rfl rfl)
  obtain ⟨es0, R0, P0⟩ := arg_slice Try.underlying22 (by kernel_rfl) O0
  have lt1 : ∀ x ∈ p1, x.block < W.heap.size := by obtain ⟨m, hm⟩ := h1; exact DataW.trod_lt m _ _ _ hm
  have k1 := h1
  obtain ⟨n1, hf1⟩ := h1
  obtain ⟨z1, O1⟩ := open_cells Bnd.reach okTs n1 (natIn_mem (show natIn 29 Ts = true by kernel_rfl)) hf1 (fun m hm => of_decide_eq_true (List.all_eq_true.1 hsz m (weightsEach_mem_ (i := 1) (t := 29) (d := d1) rfl rfl m hm)))
  obtain ⟨cs1, rfl, _⟩ := okWide_struct Try.underlying29 (hval 1 29 v1 rfl rfl)
  obtain ⟨R1, P1⟩ := arg_struct O1
  have lt2 : ∀ x ∈ p2, x.block < W.heap.size := by obtain ⟨m, hm⟩ := h2; exact DataW.trod_lt m _ _ _ hm
  have k2 := h2
  obtain ⟨n2, hf2⟩ := h2
  obtain ⟨z2, O2⟩ := open_cells Bnd.reach okTs n2 (natIn_mem (show natIn 64 Ts = true by kernel_rfl)) hf2 (fun m hm => of_decide_eq_true (List.all_eq_true.1 hsz m (weightsEach_mem_ (i := 2) (t := 64) (d := d2) rfl rfl m hm)))
  obtain ⟨b2, l2, c2, rfl⟩ := okWide_slice Try.underlying64 (hval 2 64 v2 rfl rfl)
  obtain ⟨es2, R2, H2, P2⟩ := arg_octs Try.underlying64 (by kernel_rfl) Try.underlying5 (by kernel_rfl) O2
  obtain ⟨b, hb, K, hK⟩ := law37_SpreadSkew.true_ es0 z1 es2 R0 R1.br R2 H2
  subst hb
  have hx : ∀ (i : Nat) (x : V), ([(.slice 61 es0 .open), (.agg z1), (.slice 5 es2 .open)] : List V)[i]? = some x → Rep Try.prog (E0 W (All W)) ((#[(.slice b0 l0 c0), (.agg cs1), (.slice b2 l2 c2)] : Array Value).getD i undef) x := by
    intro i x hi
    match i, hi with
    | 0, hi => injection hi with hi; subst hi; exact P0
    | 1, hi => injection hi with hi; subst hi; exact P1
    | 2, hi => injection hi with hi; subst hi; exact P2
    | i + 3, hi => simp at hi
  refine (law_calls (b := true) (law37_SpreadSkew.ok K) (xs := [(.slice 61 es0 .open), (.agg z1), (.slice 5 es2 .open)]) rfl (normAs_cons (norm_slice es0 .open Try.underlying22) (normAs_cons (R1.norm Try.underlying29) (normAs_cons (norm_slice es2 .open Try.underlying64) rfl))) hx ?_).mono fun e W' ⟨he, bel⟩ => ?_
  · show ((law37_SpreadSkew.f K es0 z1 es2).eval.bind fun r => some (V.bool r)) = _
    rw [show (law37_SpreadSkew.f K es0 z1 es2).eval = some true from hK K (Nat.le_refl _)]; rfl
  · subst he
    exact ⟨_, rfl, _, _, _, [], _, [], hW', trodAll_mk1 (shut_bool Try.underlying4 _), (trodAll_cons_mk (Below.trod laidOut (by kernel_rfl) (of_decide_eq_true (by kernel_rfl)) k0 bel lt0) (trodAll_cons_mk (Below.trod laidOut (by kernel_rfl) (of_decide_eq_true (by kernel_rfl)) k1 bel lt1) (trodAll_cons_mk (Below.trod laidOut (by kernel_rfl) (of_decide_eq_true (by kernel_rfl)) k2 bel lt2) trodAll_mk0))), rfl, bel.frame _, fun h => by cases h⟩
theorem lifted (os : Os) (started : os.Started) (H : Type) (enc : TypeId × Value → H) :
    ReturnsInHanded {} Try.checked os 5 .any (Rows.spreadSkewSpec.pre6 enc Try.prog Try.f5 Rows.spreadSkewRow.domain false) (Rows.spreadSkewSpec.post enc Try.prog Try.f5 false true false false) := by
  refine returnsInHanded_of_change_sized (C := Try.checked) own started (by kernel_rfl) Try.func5
    (ChangeSpec.witness6 (enc := enc) (C := Try.checked) false ⟨#[], #[.slice none 0 0, zv 29, .slice none 0 0], []⟩ 64 (by kernel_rfl) (by kernel_rfl) (by kernel_rfl) (by kernel_rfl)) ?_
  intro W base args ds gs before hval hW _ hsz0 _
  exact contract H enc W base args ds gs before hval hW hsz0
theorem proved : Rows.SpreadSkewSaid :=
  OpenClaim.holds_of_wide 5 Try.f5 rfl rfl rfl rfl rfl rfl rfl ⟨rfl, rfl, rfl, rfl, rfl⟩ rfl rfl rfl rfl rfl (by kernel_rfl) Try.func5 (by kernel_rfl)
    (of_decide_eq_true (by kernel_rfl)) (by unfold Func.isWrapper; first | (rw [if_pos (by decide +kernel)]; kernel_rfl) | (rw [if_neg (by decide +kernel)]; exact ⟨rfl, rfl⟩))
    (fun os started H enc _ => lifted os started H enc)
end Go.Proofs.Ytohhdiifohhghaa.spreadSkew
namespace Go.Proofs.Ytohhdiifohhghaa
/-- The row, under a short name, for the claim. -/
theorem spreadSkew_holds : Rows.SpreadSkewSaid := spreadSkew.proved
#print axioms spreadSkew_holds
end Go.Proofs.Ytohhdiifohhghaa
