/- The law StatefulsetCounts, for arguments of small bulk: it answers true, and its arguments read as they did. Conditions: none but the row's own. -/
import Derived.Test.YtolackmpfnndhaaGreatDoorCards
import Derived.Test.YtolackmpfnndhaaGreatDoorTie
import Derived.Deep.DeepHandedRow
import Derived.Test.YtolackmpfnndhaaGreatDoorLk
import Derived.WalkKit
import Derived.ProofKit
import Derived.OpenShut
import Derived.ShutString
import Derived.JoinedCond
import Derived.Below
import Derived.SizedLaws
namespace Go.Proofs.YtolackmpfnndhaaGreatDoor.statefulsetCounts
open Go.ChangeShapes Go.WideShapes Go.ChangeAt Go.RowKit
open Go.Proofs.YtolackmpfnndhaaGreatDoor.Ev
set_option linter.unusedVariables false
set_option maxRecDepth 100000
theorem own : ownKnob Tryz.prog.godebug = none := by kernel_rfl
theorem laidOut : laidOutB Tryz.prog = true := by kernel_rfl
noncomputable def Ts : List Nat := closeT Tryz.prog 9 [41, 42, 3]
theorem okTs : Ts.all (okT Tryz.prog Ts) = true := by kernel_rfl
noncomputable def zv (t : Nat) : Value := ((Tryz.prog.info? t).bind (·.zero)).getD undef
theorem contract (H : Type) (enc : TypeId × Value → H) (W : World) (base : Nat) (args : Array Value) (ds gs : List (DataW H)) (before : List MemPlace)
    (hval : ∀ (j : Nat) t v, Tryz.f4.params[j]? = some t → args[j]? = some v → Value.okWide Tryz.prog W .any base t v)
    (hW : DataW.Whole enc Tryz.prog Tryz.f4.params.toList Rows.statefulsetCountsSpec.vars false W args.toList ds gs before) (hk : Rows.uptoSmall H (ds ++ gs) = true) (hG : GOk W (fun _ => False)) :
    Calls Tryz.prog 4 args W fun e W' => ∃ v, e = .returned v ∧ Rows.statefulsetCountsSpec.post enc Tryz.prog Tryz.f4 false true false false W args v W' := by
  have hW' := hW
  obtain ⟨p, q, hA0, hV, rfl, hfz, hnd⟩ := hW
  have hA : DataW.TrodAll enc Tryz.prog W 0 (fun _ => true) true Tryz.f4.params.toList args.toList ds p := hA0
  rw [Tryz.params4] at hA hval
  obtain ⟨v0, vs0, d0, ds0, p0, q0, hargs, rfl, rfl, h0, r0⟩ := trodAll_cons hA
  obtain ⟨v1, vs1, d1, ds1, p1, q1, rfl, rfl, rfl, h1, r1⟩ := trodAll_cons r0
  obtain ⟨v2, vs2, d2, ds2, p2, q2, rfl, rfl, rfl, h2, r2⟩ := trodAll_cons r1
  obtain ⟨rfl, rfl, rfl⟩ := trodAll_nil r2
  obtain rfl : args = #[v0, v1, v2] := by cases args; simp_all
  obtain ⟨rfl, rfl⟩ := trodVars_none hV
  have hbulk : Rows.uptoBulkAll ([d0, d1, d2] ++ []) ≤ 1048576 := of_decide_eq_true hk
  simp only [List.append_nil, Rows.uptoBulkAll] at hbulk
  have lt0 : ∀ x ∈ p0, x.block < W.heap.size := by obtain ⟨m, hm⟩ := h0; exact DataW.trod_lt m _ _ _ hm
  have k0 := h0
  obtain ⟨n0, hf0⟩ := h0
  obtain ⟨z0, O0⟩ := open_cells Bnd.bulk okTs n0 (natIn_mem (show natIn 41 Ts = true by kernel_rfl)) hf0 (by show Rows.uptoBulk d0 ≤ 1048576; omega)
  obtain ⟨cs0, rfl, _⟩ := okWide_struct Tryz.underlying41 (hval 0 41 v0 rfl rfl)
  obtain ⟨R0, P0⟩ := arg_struct O0
  have lt1 : ∀ x ∈ p1, x.block < W.heap.size := by obtain ⟨m, hm⟩ := h1; exact DataW.trod_lt m _ _ _ hm
  have k1 := h1
  obtain ⟨n1, hf1⟩ := h1
  obtain ⟨z1, O1⟩ := open_cells Bnd.bulk okTs n1 (natIn_mem (show natIn 42 Ts = true by kernel_rfl)) hf1 (by show Rows.uptoBulk d1 ≤ 1048576; omega)
  obtain ⟨b1, l1, c1, rfl⟩ := okWide_slice Tryz.underlying42 (hval 1 42 v1 rfl rfl)
  obtain ⟨es1, R1, P1⟩ := arg_slice Tryz.underlying42 (by kernel_rfl) O1
  have lt2 : ∀ x ∈ p2, x.block < W.heap.size := by obtain ⟨m, hm⟩ := h2; exact DataW.trod_lt m _ _ _ hm
  have k2 := h2
  obtain ⟨n2, hf2⟩ := h2
  obtain ⟨z2, O2⟩ := open_cells Bnd.bulk okTs n2 (natIn_mem (show natIn 3 Ts = true by kernel_rfl)) hf2 (by show Rows.uptoBulk d2 ≤ 1048576; omega)
  obtain ⟨m2, rfl⟩ := okWide_int Tryz.underlying3 (hval 2 3 v2 rfl rfl)
  have P2 : Rep Tryz.prog (E0 W (All W)) (.int .i64 m2) (.int .i64 m2) := .int _ _
  obtain ⟨b, hb, K, hK⟩ := law47_StatefulsetCounts.true_ z0 es1 m2 R0.br R1
  subst hb
  have hx : ∀ (i : Nat) (x : V), ([(.agg z0), (.slice 61 es1 .open), (.int .i64 m2)] : List V)[i]? = some x → Rep Tryz.prog (E0 W (All W)) ((#[(.agg cs0), (.slice b1 l1 c1), (.int .i64 m2)] : Array Value).getD i undef) x := by
    intro i x hi
    match i, hi with
    | 0, hi => injection hi with hi; subst hi; exact P0
    | 1, hi => injection hi with hi; subst hi; exact P1
    | 2, hi => injection hi with hi; subst hi; exact P2
    | i + 3, hi => simp at hi
  refine (law_calls (b := true) (law47_StatefulsetCounts.ok K) (xs := [(.agg z0), (.slice 61 es1 .open), (.int .i64 m2)]) rfl (normAs_cons (R0.norm Tryz.underlying41) (normAs_cons (norm_slice es1 .open Tryz.underlying42) (normAs_cons (norm_int m2 Tryz.underlying3) rfl))) hx ?_ hG).mono fun e W' ⟨he, bel⟩ => ?_
  · show ((law47_StatefulsetCounts.f K z0 es1 m2).eval.bind fun r => some (V.bool r)) = _
    rw [show (law47_StatefulsetCounts.f K z0 es1 m2).eval = some true from hK K (Nat.le_refl _)]; rfl
  · subst he
    exact ⟨_, rfl, _, _, _, [], _, [], hW', trodAll_mk1 (shut_bool Tryz.underlying4 _), (trodAll_cons_mk (Below.trod laidOut (by kernel_rfl) (of_decide_eq_true (by kernel_rfl)) k0 bel lt0) (trodAll_cons_mk (Below.trod laidOut (by kernel_rfl) (of_decide_eq_true (by kernel_rfl)) k1 bel lt1) (trodAll_cons_mk (Below.trod laidOut (by kernel_rfl) (of_decide_eq_true (by kernel_rfl)) k2 bel lt2) trodAll_mk0))), rfl, bel.frame _, fun h => by cases h⟩
theorem tab_row : ("internal/strconv.uint64pow10", (Lib.tabData .u64 Lib.pow10Tab : DataW Unit)) ∈ Rows.statefulsetCountsUptoRow.laid := by
  have e : (Rows.laid_internal_strconv_uint64pow10 : DataW Unit) = Lib.tabData .u64 Lib.pow10Tab := by kernel_rfl
  rw [← e]
  exact List.mem_cons_of_mem _ (List.mem_cons_of_mem _ (List.mem_cons_self ..))
theorem gok_of {W : World} (hL : laidMetH Tryz.prog Rows.statefulsetCountsUptoRow.laid W) : GOk W (fun _ => False) := fun p hp => by
  rw [MakeChecks.laidMetH_plain _ _ _ (by kernel_rfl)] at hL
  obtain ⟨ty, fz, h⟩ := laid_tab hL tab_row (g := 0) (t := 205) (e := 187) (n := 20) (by kernel_rfl) (by kernel_rfl) (by kernel_rfl) (by kernel_rfl) (by kernel_rfl) (by kernel_rfl)
  obtain rfl := List.mem_singleton.1 hp
  exact ⟨⟨ty, fz, h.trans (by kernel_rfl)⟩, fun h => h⟩
noncomputable def laidWorld (os : Os) : World :=
  { World.holding Tryz.prog os ⟨#[], #[], []⟩ with heap := ((((World.holding Tryz.prog os ⟨#[], #[], []⟩).heap.modify 2 fun | .cells _ t frozen => .cells #[.int .u8 0, .int .u8 1, .int .u8 28, .int .u8 2, .int .u8 29, .int .u8 14, .int .u8 24, .int .u8 3, .int .u8 30, .int .u8 22, .int .u8 20, .int .u8 15, .int .u8 25, .int .u8 17, .int .u8 4, .int .u8 8, .int .u8 31, .int .u8 27, .int .u8 13, .int .u8 23, .int .u8 21, .int .u8 19, .int .u8 16, .int .u8 7, .int .u8 26, .int .u8 12, .int .u8 18, .int .u8 6, .int .u8 11, .int .u8 5, .int .u8 10, .int .u8 9] t frozen | o => o).modify 3 fun | .cells _ t frozen => .cells #[.int .u8 0, .int .u8 1, .int .u8 56, .int .u8 2, .int .u8 57, .int .u8 49, .int .u8 28, .int .u8 3, .int .u8 61, .int .u8 58, .int .u8 42, .int .u8 50, .int .u8 38, .int .u8 29, .int .u8 17, .int .u8 4, .int .u8 62, .int .u8 47, .int .u8 59, .int .u8 36, .int .u8 45, .int .u8 43, .int .u8 51, .int .u8 22, .int .u8 53, .int .u8 39, .int .u8 33, .int .u8 30, .int .u8 24, .int .u8 18, .int .u8 12, .int .u8 5, .int .u8 63, .int .u8 55, .int .u8 48, .int .u8 27, .int .u8 60, .int .u8 41, .int .u8 37, .int .u8 16, .int .u8 46, .int .u8 35, .int .u8 44, .int .u8 21, .int .u8 52, .int .u8 32, .int .u8 23, .int .u8 11, .int .u8 54, .int .u8 26, .int .u8 40, .int .u8 15, .int .u8 34, .int .u8 20, .int .u8 31, .int .u8 10, .int .u8 25, .int .u8 14, .int .u8 19, .int .u8 9, .int .u8 13, .int .u8 8, .int .u8 7, .int .u8 6] t frozen | o => o).modify 0 fun | .cells _ t frozen => .cells #[.int .u64 1, .int .u64 10, .int .u64 100, .int .u64 1000, .int .u64 10000, .int .u64 100000, .int .u64 1000000, .int .u64 10000000, .int .u64 100000000, .int .u64 1000000000, .int .u64 10000000000, .int .u64 100000000000, .int .u64 1000000000000, .int .u64 10000000000000, .int .u64 100000000000000, .int .u64 1000000000000000, .int .u64 10000000000000000, .int .u64 100000000000000000, .int .u64 1000000000000000000, .int .u64 10000000000000000000] t frozen | o => o) }
theorem laid_met (os : Os) : laidMet Tryz.prog Rows.statefulsetCountsUptoRow.laid ((laidWorld os).forCall (fun _ _ => 0) ⟨#[], #[zv 41, .slice none 0 0, .int .i64 0], []⟩).memory :=
  laidMet_of_run' 8 (by kernel_rfl) (by kernel_rfl)
noncomputable def rd (os : Os) {H : Type} (enc : TypeId × Value → H) : List (DataW H) × List (DataW H) × List MemPlace := (DataW.whole enc Tryz.prog ((laidWorld os).forCall (fun _ _ => 0) ⟨#[], #[zv 41, .slice none 0 0, .int .i64 0], []⟩).memory Tryz.f4.params.toList (Rows.OpenSpec.upto Rows.statefulsetCountsSpec).vars false #[zv 41, .slice none 0 0, .int .i64 0].toList 64).getD ([], [], [])
theorem reads (os : Os) {H : Type} (enc : TypeId × Value → H) : DataW.whole enc Tryz.prog ((laidWorld os).forCall (fun _ _ => 0) ⟨#[], #[zv 41, .slice none 0 0, .int .i64 0], []⟩).memory Tryz.f4.params.toList (Rows.OpenSpec.upto Rows.statefulsetCountsSpec).vars false #[zv 41, .slice none 0 0, .int .i64 0].toList 64 = some (rd os enc) := by kernel_rfl
theorem lifted (os : Os) (started : os.Started) (H : Type) (enc : TypeId × Value → H) (F : Stop.Interp) :
    ReturnsInHanded {} Tryz.checked os 4 .any ((Rows.OpenSpec.upto Rows.statefulsetCountsSpec).preRow enc Tryz.prog Tryz.f4 Rows.statefulsetCountsUptoRow.domain false Rows.statefulsetCountsUptoRow.laid) (((Rows.OpenSpec.upto Rows.statefulsetCountsSpec).at F).post enc Tryz.prog Tryz.f4 false true false false) := by
  refine returnsInHanded_of_row (C := Tryz.checked) (s := (Rows.OpenSpec.upto Rows.statefulsetCountsSpec)) own started (by kernel_rfl) Tryz.func4
    (witness_row_at (enc := enc) (C := Tryz.checked) false (laidWorld os) #[zv 41, .slice none 0 0, .int .i64 0] rfl (by kernel_rfl) (by kernel_rfl) (by kernel_rfl)
      (OpenSpec.preRow_of_cond 64 (reads os enc) (by kernel_rfl) (fun k hk => by cases hk; kernel_rfl) (by kernel_rfl) (laid_met os))) ?_
  intro W base args ds gs before hval hW _ hcond _ hL _ _
  exact contract H enc W base args ds gs before hval hW (hcond _ rfl) (gok_of hL)
theorem said : Rows.StatefulsetCountsUptoSaid :=
  OpenClaim.holds_of_cond 4 Tryz.f4 rfl rfl rfl rfl rfl rfl rfl ⟨rfl, rfl, rfl, rfl, rfl⟩ rfl rfl rfl rfl rfl (by kernel_rfl) Tryz.func4 (by kernel_rfl)
    (of_decide_eq_true (by kernel_rfl)) (by unfold Func.isWrapper; first | (rw [if_pos (by decide +kernel)]; kernel_rfl) | (rw [if_neg (by decide +kernel)]; exact ⟨rfl, rfl⟩))
    (fun os started H enc _ F => by rw [OpenClaim.pre_eq_preRow]; exact lifted os started H enc F)
/-- No parameter wants a stand-in; the program's own looks are off. -/
theorem plain (f : FuncId) (fn : Func) (hf : Tryz.pinned.checked.prog.funcNamed "orchestrator/orchestratorlaw47.StatefulsetCounts" = some f) (hfn : Tryz.pinned.checked.prog.funcs[f]? = some fn) :
    false = Tryz.pinned.checked.prog.looks [] ∧ ∀ (j : Nat) t, fn.params[j]? = some t → Tryz.pinned.checked.prog.wantsStandIn t = false := by
  obtain rfl : f = 4 := Option.some.inj ((show Tryz.prog.funcNamed "orchestrator/orchestratorlaw47.StatefulsetCounts" = some 4 by kernel_rfl).symm.trans hf) |>.symm
  obtain rfl : fn = Tryz.f4 := (Option.some.inj (Tryz.func4.symm.trans hfn)).symm
  refine ⟨by kernel_rfl, fun j t ht => ?_⟩
  have hall : (Tryz.f4.params.all fun t => Tryz.prog.wantsStandIn t == false) = true := by kernel_rfl
  exact beq_iff_eq.1 (Array.all_eq_true_iff_forall_mem.1 hall t (Array.mem_of_getElem? ht))
/-- The card. -/
theorem card : Rows.StatefulsetCountsUptoCardSaid :=
  Claim7.holds_tied_plain_at .later [] _ _ _ _ said (fun _ h => by cases h) (by kernel_rfl) (fun _ h => by cases h) statefulsetCountsUpto_row_tie rfl ⟨rfl, rfl⟩ (by kernel_rfl) rfl plain (by kernel_rfl)
end Go.Proofs.YtolackmpfnndhaaGreatDoor.statefulsetCounts
namespace Go.Proofs.YtolackmpfnndhaaGreatDoor
/-- The card, under a short name, for the claim. -/
theorem statefulsetCounts_holds : Rows.StatefulsetCountsUptoCardSaid := statefulsetCounts.card
#print axioms statefulsetCounts_holds
end Go.Proofs.YtolackmpfnndhaaGreatDoor
