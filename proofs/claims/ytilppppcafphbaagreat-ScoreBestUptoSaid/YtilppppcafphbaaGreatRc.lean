/- The law ScoreBest, for arguments of small bulk: it answers true, and its arguments read as they did. Conditions: none but the row's own. -/
import Derived.Test.YtilppppcafphbaaGreatRows
import Derived.Test.YtilppppcafphbaaGreatL39u
import Derived.WalkKit
import Derived.ProofKit
import Derived.OpenShut
import Derived.ShutString
import Derived.JoinedCond
import Derived.Below
import Derived.SizedLaws
namespace Go.Proofs.YtilppppcafphbaaGreat.scoreBest
open Go.ChangeShapes Go.WideShapes Go.ChangeAt Go.RowKit
open Go.Proofs.YtilppppcafphbaaGreat.Ev
set_option linter.unusedVariables false
set_option maxRecDepth 100000
theorem own : ownKnob Tryz.prog.godebug = none := by kernel_rfl
theorem laidOut : laidOutB Tryz.prog = true := by kernel_rfl
noncomputable def Ts : List Nat := closeT Tryz.prog 9 [26, 45, 29, 5]
theorem okTs : Ts.all (okT Tryz.prog Ts) = true := by kernel_rfl
noncomputable def zv (t : Nat) : Value := ((Tryz.prog.info? t).bind (·.zero)).getD undef
theorem contract (H : Type) (enc : TypeId × Value → H) (W : World) (base : Nat) (args : Array Value) (ds gs : List (DataW H)) (before : List MemPlace)
    (hval : ∀ (j : Nat) t v, Tryz.f5.params[j]? = some t → args[j]? = some v → Value.okWide Tryz.prog W .any base t v)
    (hW : DataW.Whole enc Tryz.prog Tryz.f5.params.toList Rows.scoreBestSpec.vars false W args.toList ds gs before) (hk : Rows.uptoSmall H (ds ++ gs) = true) :
    Calls Tryz.prog 5 args W fun e W' => ∃ v, e = .returned v ∧ Rows.scoreBestSpec.post enc Tryz.prog Tryz.f5 false true false false W args v W' := by
  have hW' := hW
  obtain ⟨p, q, hA0, hV, rfl, hfz, hnd⟩ := hW
  have hA : DataW.TrodAll enc Tryz.prog W 0 (fun _ => true) true Tryz.f5.params.toList args.toList ds p := hA0
  rw [Tryz.params5] at hA hval
  obtain ⟨v0, vs0, d0, ds0, p0, q0, hargs, rfl, rfl, h0, r0⟩ := trodAll_cons hA
  obtain ⟨v1, vs1, d1, ds1, p1, q1, rfl, rfl, rfl, h1, r1⟩ := trodAll_cons r0
  obtain ⟨v2, vs2, d2, ds2, p2, q2, rfl, rfl, rfl, h2, r2⟩ := trodAll_cons r1
  obtain ⟨v3, vs3, d3, ds3, p3, q3, rfl, rfl, rfl, h3, r3⟩ := trodAll_cons r2
  obtain ⟨rfl, rfl, rfl⟩ := trodAll_nil r3
  obtain rfl : args = #[v0, v1, v2, v3] := by cases args; simp_all
  obtain ⟨rfl, rfl⟩ := trodVars_none hV
  have hbulk : Rows.uptoBulkAll ([d0, d1, d2, d3] ++ []) ≤ 1048576 := of_decide_eq_true hk
  simp only [List.append_nil, Rows.uptoBulkAll] at hbulk
  have lt0 : ∀ x ∈ p0, x.block < W.heap.size := by obtain ⟨m, hm⟩ := h0; exact DataW.trod_lt m _ _ _ hm
  have k0 := h0
  obtain ⟨n0, hf0⟩ := h0
  obtain ⟨z0, O0⟩ := open_cells Bnd.bulk okTs n0 (natIn_mem (show natIn 26 Ts = true by kernel_rfl)) hf0 (by show Rows.uptoBulk d0 ≤ 1048576; omega)
  obtain ⟨cs0, rfl, _⟩ := okWide_struct Tryz.underlying26 (hval 0 26 v0 rfl rfl)
  obtain ⟨R0, P0⟩ := arg_struct O0
  have lt1 : ∀ x ∈ p1, x.block < W.heap.size := by obtain ⟨m, hm⟩ := h1; exact DataW.trod_lt m _ _ _ hm
  have k1 := h1
  obtain ⟨n1, hf1⟩ := h1
  obtain ⟨z1, O1⟩ := open_cells Bnd.bulk okTs n1 (natIn_mem (show natIn 45 Ts = true by kernel_rfl)) hf1 (by show Rows.uptoBulk d1 ≤ 1048576; omega)
  obtain ⟨cs1, rfl, _⟩ := okWide_struct Tryz.underlying45 (hval 1 45 v1 rfl rfl)
  obtain ⟨R1, P1⟩ := arg_struct O1
  have lt2 : ∀ x ∈ p2, x.block < W.heap.size := by obtain ⟨m, hm⟩ := h2; exact DataW.trod_lt m _ _ _ hm
  have k2 := h2
  obtain ⟨n2, hf2⟩ := h2
  obtain ⟨z2, O2⟩ := open_cells Bnd.bulk okTs n2 (natIn_mem (show natIn 29 Ts = true by kernel_rfl)) hf2 (by show Rows.uptoBulk d2 ≤ 1048576; omega)
  obtain ⟨b2, l2, c2, rfl⟩ := okWide_slice Tryz.underlying29 (hval 2 29 v2 rfl rfl)
  obtain ⟨es2, R2, P2⟩ := arg_slice Tryz.underlying29 (by kernel_rfl) O2
  have lt3 : ∀ x ∈ p3, x.block < W.heap.size := by obtain ⟨m, hm⟩ := h3; exact DataW.trod_lt m _ _ _ hm
  have k3 := h3
  obtain ⟨n3, hf3⟩ := h3
  obtain ⟨z3, O3⟩ := open_cells Bnd.bulk okTs n3 (natIn_mem (show natIn 5 Ts = true by kernel_rfl)) hf3 (by show Rows.uptoBulk d3 ≤ 1048576; omega)
  obtain ⟨m3, rfl⟩ := okWide_int Tryz.underlying5 (hval 3 5 v3 rfl rfl)
  have P3 : Rep Tryz.prog (E0 W (All W)) (.int .u8 m3) (.int .u8 m3) := .int _ _
  have H3 := arg_u8 Tryz.underlying5 (by kernel_rfl) O3
  obtain ⟨b, hb, K, hK⟩ := law39_ScoreBest.true_ z0 z1 es2 m3 R0.br R1.br R2 H3
  subst hb
  have hx : ∀ (i : Nat) (x : V), ([(.agg z0), (.agg z1), (.slice 9 es2 .open), (.int .u8 m3)] : List V)[i]? = some x → Rep Tryz.prog (E0 W (All W)) ((#[(.agg cs0), (.agg cs1), (.slice b2 l2 c2), (.int .u8 m3)] : Array Value).getD i undef) x := by
    intro i x hi
    match i, hi with
    | 0, hi => injection hi with hi; subst hi; exact P0
    | 1, hi => injection hi with hi; subst hi; exact P1
    | 2, hi => injection hi with hi; subst hi; exact P2
    | 3, hi => injection hi with hi; subst hi; exact P3
    | i + 4, hi => simp at hi
  refine (law_calls (b := true) (law39_ScoreBest.ok K) (xs := [(.agg z0), (.agg z1), (.slice 9 es2 .open), (.int .u8 m3)]) rfl (normAs_cons (R0.norm Tryz.underlying26) (normAs_cons (R1.norm Tryz.underlying45) (normAs_cons (norm_slice es2 .open Tryz.underlying29) (normAs_cons (norm_int m3 Tryz.underlying5) rfl)))) hx ?_).mono fun e W' ⟨he, bel⟩ => ?_
  · show ((law39_ScoreBest.f K z0 z1 es2 m3).eval.bind fun r => some (V.bool r)) = _
    rw [show (law39_ScoreBest.f K z0 z1 es2 m3).eval = some true from hK K (Nat.le_refl _)]; rfl
  · subst he
    exact ⟨_, rfl, _, _, _, [], _, [], hW', trodAll_mk1 (shut_bool Tryz.underlying4 _), (trodAll_cons_mk (Below.trod laidOut (by kernel_rfl) (of_decide_eq_true (by kernel_rfl)) k0 bel lt0) (trodAll_cons_mk (Below.trod laidOut (by kernel_rfl) (of_decide_eq_true (by kernel_rfl)) k1 bel lt1) (trodAll_cons_mk (Below.trod laidOut (by kernel_rfl) (of_decide_eq_true (by kernel_rfl)) k2 bel lt2) (trodAll_cons_mk (Below.trod laidOut (by kernel_rfl) (of_decide_eq_true (by kernel_rfl)) k3 bel lt3) trodAll_mk0)))), rfl, bel.frame _, fun h => by cases h⟩
theorem lifted (os : Os) (started : os.Started) (H : Type) (enc : TypeId × Value → H) (F : Stop.Interp) :
    ReturnsInHanded {} Tryz.checked os 5 .any ((Rows.OpenSpec.upto Rows.scoreBestSpec).pre6 enc Tryz.prog Tryz.f5 Rows.scoreBestUptoRow.domain false) (((Rows.OpenSpec.upto Rows.scoreBestSpec).at F).post enc Tryz.prog Tryz.f5 false true false false) := by
  refine returnsInHanded_of_cond (C := Tryz.checked) (s := (Rows.OpenSpec.upto Rows.scoreBestSpec)) (k := Rows.uptoSmall) rfl own started (by kernel_rfl) Tryz.func5
    (OpenSpec.witness (enc := enc) (C := Tryz.checked) (s := (Rows.OpenSpec.upto Rows.scoreBestSpec)) (k := Rows.uptoSmall) rfl false ⟨#[], #[zv 26, zv 45, .slice none 0 0, .int .u8 0], []⟩ 64 (by kernel_rfl) (by kernel_rfl) (by kernel_rfl)
      (x := (DataW.whole enc Tryz.prog (World.plainHolding Tryz.prog os ⟨#[], #[zv 26, zv 45, .slice none 0 0, .int .u8 0], []⟩).memory Tryz.f5.params.toList (Rows.OpenSpec.upto Rows.scoreBestSpec).vars false [zv 26, zv 45, .slice none 0 0, .int .u8 0] 64).getD ([], [], [])) (by kernel_rfl) rfl (by kernel_rfl)) ?_
  intro W base args ds gs before hval hW _ hk _
  exact contract H enc W base args ds gs before hval hW hk
theorem proved : Rows.ScoreBestUptoSaid :=
  OpenClaim.holds_of_cond 5 Tryz.f5 rfl rfl rfl rfl rfl rfl rfl ⟨rfl, rfl, rfl, rfl, rfl⟩ rfl rfl rfl rfl rfl (by kernel_rfl) Tryz.func5 (by kernel_rfl)
    (of_decide_eq_true (by kernel_rfl)) (by unfold Func.isWrapper; first | (rw [if_pos (by decide +kernel)]; kernel_rfl) | (rw [if_neg (by decide +kernel)]; exact ⟨rfl, rfl⟩))
    (fun os started H enc _ F => lifted os started H enc F)
end Go.Proofs.YtilppppcafphbaaGreat.scoreBest
namespace Go.Proofs.YtilppppcafphbaaGreat
/-- The row, under a short name, for the claim. -/
theorem scoreBest_holds : Rows.ScoreBestUptoSaid := scoreBest.proved
#print axioms scoreBest_holds
end Go.Proofs.YtilppppcafphbaaGreat
