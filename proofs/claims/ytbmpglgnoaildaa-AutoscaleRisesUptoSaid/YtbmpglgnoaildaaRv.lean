/- The law AutoscaleRises, for arguments of small bulk: it answers true, and its arguments read as they did. Conditions: none but the row's own. -/
import Derived.Test.YtbmpglgnoaildaaRows
import Derived.Test.YtbmpglgnoaildaaL49r
import Derived.WalkKit
import Derived.ProofKit
import Derived.OpenShut
import Derived.ShutString
import Derived.JoinedCond
import Derived.Below
import Derived.SizedLaws
namespace Go.Proofs.Ytbmpglgnoaildaa.autoscaleRises
open Go.ChangeShapes Go.WideShapes Go.ChangeAt Go.RowKit
open Go.Proofs.Ytbmpglgnoaildaa.Ev
set_option linter.unusedVariables false
set_option maxRecDepth 100000
theorem own : ownKnob Try.prog.godebug = none := by kernel_rfl
theorem laidOut : laidOutB Try.prog = true := by kernel_rfl
noncomputable def Ts : List Nat := closeT Try.prog 9 [33, 3, 34, 35, 5, 3]
theorem okTs : Ts.all (okT Try.prog Ts) = true := by kernel_rfl
noncomputable def zv (t : Nat) : Value := ((Try.prog.info? t).bind (·.zero)).getD undef
theorem contract (H : Type) (enc : TypeId × Value → H) (W : World) (base : Nat) (args : Array Value) (ds gs : List (DataW H)) (before : List MemPlace)
    (hval : ∀ (j : Nat) t v, Try.f4.params[j]? = some t → args[j]? = some v → Value.okWide Try.prog W .any base t v)
    (hW : DataW.Whole enc Try.prog Try.f4.params.toList Rows.autoscaleRisesSpec.vars false W args.toList ds gs before) (hk : Rows.uptoSmall H (ds ++ gs) = true) :
    Calls Try.prog 4 args W fun e W' => ∃ v, e = .returned v ∧ Rows.autoscaleRisesSpec.post enc Try.prog Try.f4 false true false false W args v W' := by
  have hW' := hW
  obtain ⟨p, q, hA0, hV, rfl, hfz, hnd⟩ := hW
  have hA : DataW.TrodAll enc Try.prog W 0 (fun _ => true) true Try.f4.params.toList args.toList ds p := hA0
  rw [Try.params4] at hA hval
  obtain ⟨v0, vs0, d0, ds0, p0, q0, hargs, rfl, rfl, h0, r0⟩ := trodAll_cons hA
  obtain ⟨v1, vs1, d1, ds1, p1, q1, rfl, rfl, rfl, h1, r1⟩ := trodAll_cons r0
  obtain ⟨v2, vs2, d2, ds2, p2, q2, rfl, rfl, rfl, h2, r2⟩ := trodAll_cons r1
  obtain ⟨v3, vs3, d3, ds3, p3, q3, rfl, rfl, rfl, h3, r3⟩ := trodAll_cons r2
  obtain ⟨v4, vs4, d4, ds4, p4, q4, rfl, rfl, rfl, h4, r4⟩ := trodAll_cons r3
  obtain ⟨v5, vs5, d5, ds5, p5, q5, rfl, rfl, rfl, h5, r5⟩ := trodAll_cons r4
  obtain ⟨rfl, rfl, rfl⟩ := trodAll_nil r5
  obtain rfl : args = #[v0, v1, v2, v3, v4, v5] := by cases args; simp_all
  obtain ⟨rfl, rfl⟩ := trodVars_none hV
  have hbulk : Rows.uptoBulkAll ([d0, d1, d2, d3, d4, d5] ++ []) ≤ 1048576 := of_decide_eq_true hk
  simp only [List.append_nil, Rows.uptoBulkAll] at hbulk
  have lt0 : ∀ x ∈ p0, x.block < W.heap.size := by obtain ⟨m, hm⟩ := h0; exact DataW.trod_lt m _ _ _ hm
  have k0 := h0
  obtain ⟨n0, hf0⟩ := h0
  obtain ⟨z0, O0⟩ := open_cells Bnd.bulk okTs n0 (natIn_mem (show natIn 33 Ts = true by kernel_rfl)) hf0 (by show Rows.uptoBulk d0 ≤ 1048576; omega)
  obtain ⟨cs0, rfl, _⟩ := okWide_struct Try.underlying33 (hval 0 33 v0 rfl rfl)
  obtain ⟨R0, P0⟩ := arg_struct O0
  have lt1 : ∀ x ∈ p1, x.block < W.heap.size := by obtain ⟨m, hm⟩ := h1; exact DataW.trod_lt m _ _ _ hm
  have k1 := h1
  obtain ⟨n1, hf1⟩ := h1
  obtain ⟨z1, O1⟩ := open_cells Bnd.bulk okTs n1 (natIn_mem (show natIn 3 Ts = true by kernel_rfl)) hf1 (by show Rows.uptoBulk d1 ≤ 1048576; omega)
  obtain ⟨m1, rfl⟩ := okWide_int Try.underlying3 (hval 1 3 v1 rfl rfl)
  have P1 : Rep Try.prog (E0 W (All W)) (.int .i64 m1) (.int .i64 m1) := .int _ _
  have lt2 : ∀ x ∈ p2, x.block < W.heap.size := by obtain ⟨m, hm⟩ := h2; exact DataW.trod_lt m _ _ _ hm
  have k2 := h2
  obtain ⟨n2, hf2⟩ := h2
  obtain ⟨z2, O2⟩ := open_cells Bnd.bulk okTs n2 (natIn_mem (show natIn 34 Ts = true by kernel_rfl)) hf2 (by show Rows.uptoBulk d2 ≤ 1048576; omega)
  obtain ⟨b2, l2, c2, rfl⟩ := okWide_slice Try.underlying34 (hval 2 34 v2 rfl rfl)
  obtain ⟨es2, R2, P2⟩ := arg_slice Try.underlying34 (by kernel_rfl) O2
  have lt3 : ∀ x ∈ p3, x.block < W.heap.size := by obtain ⟨m, hm⟩ := h3; exact DataW.trod_lt m _ _ _ hm
  have k3 := h3
  obtain ⟨n3, hf3⟩ := h3
  obtain ⟨z3, O3⟩ := open_cells Bnd.bulk okTs n3 (natIn_mem (show natIn 35 Ts = true by kernel_rfl)) hf3 (by show Rows.uptoBulk d3 ≤ 1048576; omega)
  obtain ⟨b3, l3, c3, rfl⟩ := okWide_slice Try.underlying35 (hval 3 35 v3 rfl rfl)
  obtain ⟨es3, R3, P3⟩ := arg_slice Try.underlying35 (by kernel_rfl) O3
  have lt4 : ∀ x ∈ p4, x.block < W.heap.size := by obtain ⟨m, hm⟩ := h4; exact DataW.trod_lt m _ _ _ hm
  have k4 := h4
  obtain ⟨n4, hf4⟩ := h4
  obtain ⟨z4, O4⟩ := open_cells Bnd.bulk okTs n4 (natIn_mem (show natIn 5 Ts = true by kernel_rfl)) hf4 (by show Rows.uptoBulk d4 ≤ 1048576; omega)
  obtain ⟨m4, rfl⟩ := okWide_int Try.underlying5 (hval 4 5 v4 rfl rfl)
  have P4 : Rep Try.prog (E0 W (All W)) (.int .u8 m4) (.int .u8 m4) := .int _ _
  have H4 := arg_u8 Try.underlying5 (by kernel_rfl) O4
  have lt5 : ∀ x ∈ p5, x.block < W.heap.size := by obtain ⟨m, hm⟩ := h5; exact DataW.trod_lt m _ _ _ hm
  have k5 := h5
  obtain ⟨n5, hf5⟩ := h5
  obtain ⟨z5, O5⟩ := open_cells Bnd.bulk okTs n5 (natIn_mem (show natIn 3 Ts = true by kernel_rfl)) hf5 (by show Rows.uptoBulk d5 ≤ 1048576; omega)
  obtain ⟨m5, rfl⟩ := okWide_int Try.underlying3 (hval 5 3 v5 rfl rfl)
  have P5 : Rep Try.prog (E0 W (All W)) (.int .i64 m5) (.int .i64 m5) := .int _ _
  obtain ⟨b, hb, K, hK⟩ := law49_AutoscaleRises.true_ z0 m1 es2 es3 m4 m5 R0.br R2 R3 H4
  subst hb
  have hx : ∀ (i : Nat) (x : V), ([(.agg z0), (.int .i64 m1), (.slice 57 es2 .open), (.slice 64 es3 .open), (.int .u8 m4), (.int .i64 m5)] : List V)[i]? = some x → Rep Try.prog (E0 W (All W)) ((#[(.agg cs0), (.int .i64 m1), (.slice b2 l2 c2), (.slice b3 l3 c3), (.int .u8 m4), (.int .i64 m5)] : Array Value).getD i undef) x := by
    intro i x hi
    match i, hi with
    | 0, hi => injection hi with hi; subst hi; exact P0
    | 1, hi => injection hi with hi; subst hi; exact P1
    | 2, hi => injection hi with hi; subst hi; exact P2
    | 3, hi => injection hi with hi; subst hi; exact P3
    | 4, hi => injection hi with hi; subst hi; exact P4
    | 5, hi => injection hi with hi; subst hi; exact P5
    | i + 6, hi => simp at hi
  refine (law_calls (b := true) (law49_AutoscaleRises.ok K) (xs := [(.agg z0), (.int .i64 m1), (.slice 57 es2 .open), (.slice 64 es3 .open), (.int .u8 m4), (.int .i64 m5)]) rfl (normAs_cons (R0.norm Try.underlying33) (normAs_cons (norm_int m1 Try.underlying3) (normAs_cons (norm_slice es2 .open Try.underlying34) (normAs_cons (norm_slice es3 .open Try.underlying35) (normAs_cons (norm_int m4 Try.underlying5) (normAs_cons (norm_int m5 Try.underlying3) rfl)))))) hx ?_).mono fun e W' ⟨he, bel⟩ => ?_
  · show ((law49_AutoscaleRises.f K z0 m1 es2 es3 m4 m5).eval.bind fun r => some (V.bool r)) = _
    rw [show (law49_AutoscaleRises.f K z0 m1 es2 es3 m4 m5).eval = some true from hK K (Nat.le_refl _)]; rfl
  · subst he
    exact ⟨_, rfl, _, _, _, [], _, [], hW', trodAll_mk1 (shut_bool Try.underlying4 _), (trodAll_cons_mk (Below.trod laidOut (by kernel_rfl) (of_decide_eq_true (by kernel_rfl)) k0 bel lt0) (trodAll_cons_mk (Below.trod laidOut (by kernel_rfl) (of_decide_eq_true (by kernel_rfl)) k1 bel lt1) (trodAll_cons_mk (Below.trod laidOut (by kernel_rfl) (of_decide_eq_true (by kernel_rfl)) k2 bel lt2) (trodAll_cons_mk (Below.trod laidOut (by kernel_rfl) (of_decide_eq_true (by kernel_rfl)) k3 bel lt3) (trodAll_cons_mk (Below.trod laidOut (by kernel_rfl) (of_decide_eq_true (by kernel_rfl)) k4 bel lt4) (trodAll_cons_mk (Below.trod laidOut (by kernel_rfl) (of_decide_eq_true (by kernel_rfl)) k5 bel lt5) trodAll_mk0)))))), rfl, bel.frame _, fun h => by cases h⟩
theorem lifted (os : Os) (started : os.Started) (H : Type) (enc : TypeId × Value → H) (F : Stop.Interp) :
    ReturnsInHanded {} Try.checked os 4 .any ((Rows.OpenSpec.upto Rows.autoscaleRisesSpec).pre6 enc Try.prog Try.f4 Rows.autoscaleRisesUptoRow.domain false) (((Rows.OpenSpec.upto Rows.autoscaleRisesSpec).at F).post enc Try.prog Try.f4 false true false false) := by
  refine returnsInHanded_of_cond (C := Try.checked) (s := (Rows.OpenSpec.upto Rows.autoscaleRisesSpec)) (k := Rows.uptoSmall) rfl own started (by kernel_rfl) Try.func4
    (OpenSpec.witness (enc := enc) (C := Try.checked) (s := (Rows.OpenSpec.upto Rows.autoscaleRisesSpec)) (k := Rows.uptoSmall) rfl false ⟨#[], #[zv 33, .int .i64 0, .slice none 0 0, .slice none 0 0, .int .u8 0, .int .i64 0], []⟩ 64 (by kernel_rfl) (by kernel_rfl) (by kernel_rfl)
      (x := (DataW.whole enc Try.prog (World.plainHolding Try.prog os ⟨#[], #[zv 33, .int .i64 0, .slice none 0 0, .slice none 0 0, .int .u8 0, .int .i64 0], []⟩).memory Try.f4.params.toList (Rows.OpenSpec.upto Rows.autoscaleRisesSpec).vars false [zv 33, .int .i64 0, .slice none 0 0, .slice none 0 0, .int .u8 0, .int .i64 0] 64).getD ([], [], [])) (by kernel_rfl) rfl (by kernel_rfl)) ?_
  intro W base args ds gs before hval hW _ hk _
  exact contract H enc W base args ds gs before hval hW hk
theorem proved : Rows.AutoscaleRisesUptoSaid :=
  OpenClaim.holds_of_cond 4 Try.f4 rfl rfl rfl rfl rfl rfl rfl ⟨rfl, rfl, rfl, rfl, rfl⟩ rfl rfl rfl rfl rfl (by kernel_rfl) Try.func4 (by kernel_rfl)
    (of_decide_eq_true (by kernel_rfl)) (by unfold Func.isWrapper; first | (rw [if_pos (by decide +kernel)]; kernel_rfl) | (rw [if_neg (by decide +kernel)]; exact ⟨rfl, rfl⟩))
    (fun os started H enc _ F => lifted os started H enc F)
end Go.Proofs.Ytbmpglgnoaildaa.autoscaleRises
namespace Go.Proofs.Ytbmpglgnoaildaa
/-- The row, under a short name, for the claim. -/
theorem autoscaleRises_holds : Rows.AutoscaleRisesUptoSaid := autoscaleRises.proved
#print axioms autoscaleRises_holds
end Go.Proofs.Ytbmpglgnoaildaa
