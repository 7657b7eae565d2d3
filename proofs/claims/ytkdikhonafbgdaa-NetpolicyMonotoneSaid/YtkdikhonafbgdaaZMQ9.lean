/- Part of a claim: see its row. Conditions: stated at each. -/
import Derived.Test.YtkdikhonafbgdaaZMQ0
import Derived.Test.YtkdikhonafbgdaaZMQ3
import Derived.Test.YtkdikhonafbgdaaZMQ6
import Derived.Test.YtkdikhonafbgdaaZMQ7
import Derived.Test.YtkdikhonafbgdaaZMQ8
namespace Go.Proofs.Ytkdikhonafbgdaa.Q
open Go.RowKit Go.Proofs.YtkdikhonafbgdaaW.PrintWords Go.Proofs.YtkdikhonafbgdaaW.PrintLast Go.Proofs.YtkdikhonafbgdaaW.PrintMore Go.Proofs.Ytkdikhonafbgdaa.Sh
attribute [local go_sem] max2_int min2_int max_two min_two max_three min_three max_four min_four
set_option linter.unusedVariables false
set_option linter.unusedSimpArgs false
def orchestratorlaw57_pod.f (a0 : ByteArray) (a1 : ByteArray) : Option (ByteArray × ByteArray × ByteArray × Int × Int × Int × Int × Bool × Int × (List (S72)) × (List (S110)) × List ByteArray × (List (S112)) × ByteArray × Int × Int × Int × (List (S117)) × (List (S74)) × (List (S119)) × (List (S121)) × (List (S123)) × (List (S125)) × Int × Bool × Int × Int × Int × (List (S127)) × Int × ByteArray × ByteArray) := some ((⟨#[80, 111, 100]⟩ : ByteArray), (⟨#[120]⟩ : ByteArray), a0, 0, 0, 0, 0, false, 0, (([(⟨(⟨#[97, 112, 112]⟩ : ByteArray), a1⟩ : S72)] : List (S72))), ([] : List (S110)), ([] : List ByteArray), ([] : List (S112)), (⟨#[]⟩ : ByteArray), 0, 0, 0, ([] : List (S117)), ([] : List (S74)), ([] : List (S119)), ([] : List (S121)), ([] : List (S123)), ([] : List (S125)), 0, false, 0, 0, 0, ([] : List (S127)), 0, (⟨#[]⟩ : ByteArray), (⟨#[]⟩ : ByteArray))
set_option maxHeartbeats 8000000 in
set_option maxRecDepth 100000 in
theorem orchestratorlaw57_pod.calls (a0 : ByteArray) (a1 : ByteArray) (r1 : ByteArray) (r2 : ByteArray) (r3 : ByteArray) (r4 : Int) (r5 : Int) (r6 : Int) (r7 : Int) (r8 : Bool) (r9 : Int) (r10 : List (S72)) (r11 : List (S110)) (r12 : List ByteArray) (r13 : List (S112)) (r14 : ByteArray) (r15 : Int) (r16 : Int) (r17 : Int) (r18 : List (S117)) (r19 : List (S74)) (r20 : List (S119)) (r21 : List (S121)) (r22 : List (S123)) (r23 : List (S125)) (r24 : Int) (r25 : Bool) (r26 : Int) (r27 : Int) (r28 : Int) (r29 : List (S127)) (r30 : Int) (r31 : ByteArray) (r32 : ByteArray) (w : World) (h : orchestratorlaw57_pod.f a0 a1 = some (r1, r2, r3, r4, r5, r6, r7, r8, r9, r10, r11, r12, r13, r14, r15, r16, r17, r18, r19, r20, r21, r22, r23, r24, r25, r26, r27, r28, r29, r30, r31, r32)) :
  Calls Try.prog 16 #[.string a0, .string a1] w fun e w' => ∃ v9_ : Value, e = .returned (.agg #[.string (⟨#[80, 111, 100]⟩ : ByteArray), .string (⟨#[120]⟩ : ByteArray), .string r3, .int .i64 0, .int .i64 0, .int .i64 0, .int .i64 0, .bool false, .int .i64 0, v9_, .slice none 0 0, .slice none 0 0, .slice none 0 0, .string (⟨#[]⟩ : ByteArray), .int .i64 0, .int .i64 0, .int .i64 0, .slice none 0 0, .slice none 0 0, .slice none 0 0, .slice none 0 0, .slice none 0 0, .slice none 0 0, .int .i64 0, .bool false, .int .i64 0, .int .i64 0, .int .i64 0, .slice none 0 0, .int .i64 0, .string (⟨#[]⟩ : ByteArray), .string (⟨#[]⟩ : ByteArray)]) ∧ Kd.R k72 72 w' w.heap.size (fun _ => True) v9_ r10 ∧ Below w.heap.size w w' := by
 have hu41 := Try.underlying41
 have hu72 := Try.underlying72
 have hu28 := Try.underlying28
 have HB := s_a (Below.refl w.heap.size w)
 have H := h; unfold orchestratorlaw57_pod.f at H
 clear h
 obtain ⟨y229, hy229⟩ : ∃ y_ : List (S72), y_ = (([(⟨(⟨#[97, 112, 112]⟩ : ByteArray), a1⟩ : S72)] : List (S72))) := ⟨_, rfl⟩
 (try rw [← hy229] at H)
 have Ny229 := s_a hy229
 clear hy229
 simp only [Option.some.injEq, Prod.mk.injEq] at H
 obtain ⟨rfl, rfl, rfl, rfl, rfl, rfl, rfl, rfl, rfl, rfl, rfl, rfl, rfl, rfl, rfl, rfl, rfl, rfl, rfl, rfl, rfl, rfl, rfl, rfl, rfl, rfl, rfl, rfl, rfl, rfl, rfl, rfl⟩ := H
 go_enter Try.func16, Try.ntmps16
 go_wp2_with (first | ((with_reducible refine gate_dst (N := 4) rfl ?_); refine box_event ?hg (N := 4) ?hd (cs := #[.string (⟨#[]⟩ : ByteArray), .string (⟨#[]⟩ : ByteArray), .string (⟨#[]⟩ : ByteArray), .int .i64 0, .int .i64 0, .int .i64 0, .int .i64 0, .bool false, .int .i64 0, .slice none 0 0, .slice none 0 0, .slice none 0 0, .slice none 0 0, .string (⟨#[]⟩ : ByteArray), .int .i64 0, .int .i64 0, .int .i64 0, .slice none 0 0, .slice none 0 0, .slice none 0 0, .slice none 0 0, .slice none 0 0, .slice none 0 0, .int .i64 0, .bool false, .int .i64 0, .int .i64 0, .int .i64 0, .slice none 0 0, .int .i64 0, .string (⟨#[]⟩ : ByteArray), .string (⟨#[]⟩ : ByteArray)]) (t := 41) ?hr ?_; (case hd => rfl); (case hg => rfl); (case hr => first | (go_simp; done) | (go_simp; rfl)); intro gb228 hg w3 hbox hb; have BK228 := s_a (hbox); have GW228 := s_a ((by rw [hg]; exact (below_size (by exact s_b HB.out)) : w.heap.size ≤ gb228)); have GE228 := s_a ((by rw [hg]; exact (below_size (by exact s_b HB.out)) : w.heap.size ≤ gb228)); replace HB := s_a (below_step (by exact s_b HB.out) hb); clear hb hbox hg) | ((with_reducible refine gate_dst (N := 8) rfl ?_); refine Kd.R_lit k72 _ 72 ?hg (N := 8) ?hd (xs := ([(⟨(⟨#[97, 112, 112]⟩ : ByteArray), a1⟩ : S72)] : List (S72))) (inner := [.string (⟨#[97, 112, 112]⟩ : ByteArray), .string a1]) (ok := fun _ => True) (okp := fun _ => True) ?hr ?hp (fun _ hk => hk) trivial (Below.refl _ _) (Nat.le_refl _) (by simp) ?_; (case hd => rfl); (case hg => rfl); (case hr => first | (go_simp; done) | (go_simp; rfl)); (case hp => exact (Reps.c2 (show Kd.M k72 _ _ _ (⟨(⟨#[97, 112, 112]⟩ : ByteArray), a1⟩ : S72) [.string (⟨#[97, 112, 112]⟩ : ByteArray), .string a1] from (k72_mkM _ _ _ (⟨(⟨#[97, 112, 112]⟩ : ByteArray), a1⟩ : S72) )) (Reps.none _ _))); intro v230 w4 ho5 hb hg_ hnew_; clear hg_ hnew_; (first | rw [← Ny229.out] at ho5 | (simp only [Int.reduceToNat] at ho5; rw [← Ny229.out] at ho5)); have HO231 := s_a (Kd.R_lower ho5 (below_size (by exact s_b HB.out))); replace BK228 := s_a (blk_below (s_k BK228.out) hb); replace HB := s_a (below_step (by exact s_b HB.out) hb); clear hb ho5; obtain ⟨Ao6, co6, eo6⟩ := Kd.R_slice HO231.out; subst eo6; obtain ⟨hcz7_0, hcz7_1, hcz7_2, hcz7_3, hcz7_4, hcz7_5, hcz7_6, hcz7_7, hcz7_8, hcz7_9, hcz7_10, hcz7_11, hcz7_12, hcz7_13, hcz7_14, hcz7_15, hcz7_16, hcz7_17, hcz7_18, hcz7_19, hcz7_20, hcz7_21, hcz7_22, hcz7_23, hcz7_24, hcz7_25, hcz7_26, hcz7_27, hcz7_28, hcz7_29, hcz7_30, hcz7_31⟩ := cells41 BK228.out; have hfz7_0 := blk_frozen BK228.out 0; have hfz7_1 := blk_frozen BK228.out 1; have hfz7_2 := blk_frozen BK228.out 2; have hfz7_3 := blk_frozen BK228.out 3; have hfz7_4 := blk_frozen BK228.out 4; have hfz7_5 := blk_frozen BK228.out 5; have hfz7_6 := blk_frozen BK228.out 6; have hfz7_7 := blk_frozen BK228.out 7; have hfz7_8 := blk_frozen BK228.out 8; have hfz7_9 := blk_frozen BK228.out 9; have hfz7_10 := blk_frozen BK228.out 10; have hfz7_11 := blk_frozen BK228.out 11; have hfz7_12 := blk_frozen BK228.out 12; have hfz7_13 := blk_frozen BK228.out 13; have hfz7_14 := blk_frozen BK228.out 14; have hfz7_15 := blk_frozen BK228.out 15; have hfz7_16 := blk_frozen BK228.out 16; have hfz7_17 := blk_frozen BK228.out 17; have hfz7_18 := blk_frozen BK228.out 18; have hfz7_19 := blk_frozen BK228.out 19; have hfz7_20 := blk_frozen BK228.out 20; have hfz7_21 := blk_frozen BK228.out 21; have hfz7_22 := blk_frozen BK228.out 22; have hfz7_23 := blk_frozen BK228.out 23; have hfz7_24 := blk_frozen BK228.out 24; have hfz7_25 := blk_frozen BK228.out 25; have hfz7_26 := blk_frozen BK228.out 26; have hfz7_27 := blk_frozen BK228.out 27; have hfz7_28 := blk_frozen BK228.out 28; have hfz7_29 := blk_frozen BK228.out 29; have hfz7_30 := blk_frozen BK228.out 30; have hfz7_31 := blk_frozen BK228.out 31) | ((with_reducible refine gate_store (t := 41) (p := 4) rfl ?_); refine store_all rfl 41 (.tmp 4) _ rfl gb228 #[.string (⟨#[80, 111, 100]⟩ : ByteArray), .string (⟨#[120]⟩ : ByteArray), .string a0, .int .i64 0, .int .i64 0, .int .i64 0, .int .i64 0, .bool false, .int .i64 0, .slice Ao6 y229.length co6, .slice none 0 0, .slice none 0 0, .slice none 0 0, .string (⟨#[]⟩ : ByteArray), .int .i64 0, .int .i64 0, .int .i64 0, .slice none 0 0, .slice none 0 0, .slice none 0 0, .slice none 0 0, .slice none 0 0, .slice none 0 0, .int .i64 0, .bool false, .int .i64 0, .int .i64 0, .int .i64 0, .slice none 0 0, .int .i64 0, .string (⟨#[]⟩ : ByteArray), .string (⟨#[]⟩ : ByteArray)] rfl rfl 41 _ (s_k BK228.out) sz41 rfl (by first | rfl | simp [Value.oneCell']) rfl ?_; intro w8 hnb hgr; have n0_ := s_a (s_g HB.out hgr GE228.out); have n1_ := s_a (Kd.R_mono (Kd.R_grown (Kd.R_types HO231.out BK228.out (by decide)) hgr (fun _ hk_ => some_ne hk_.2)) (fun _ hk_ => hk_.1)); clear HB; clear HO231; have HB := n0_; have HO231 := n1_; clear n0_ n1_; replace BK228 := s_a (hnb); clear hnb hgr))
 refine bodyPost_ret (results_cell_row rfl _ _ gb228 41 #[.string (⟨#[80, 111, 100]⟩ : ByteArray), .string (⟨#[120]⟩ : ByteArray), .string a0, .int .i64 0, .int .i64 0, .int .i64 0, .int .i64 0, .bool false, .int .i64 0, .slice Ao6 y229.length co6, .slice none 0 0, .slice none 0 0, .slice none 0 0, .string (⟨#[]⟩ : ByteArray), .int .i64 0, .int .i64 0, .int .i64 0, .slice none 0 0, .slice none 0 0, .slice none 0 0, .slice none 0 0, .slice none 0 0, .slice none 0 0, .int .i64 0, .bool false, .int .i64 0, .int .i64 0, .int .i64 0, .slice none 0 0, .int .i64 0, .string (⟨#[]⟩ : ByteArray), .string (⟨#[]⟩ : ByteArray)] (0, 0) _ rfl (by exact s_k BK228.out) Try.underlying41 rfl (by kernel_rfl)) rfl ?_
 exact ⟨_, by first | rfl | (simp [errW_none, errW_some] <;> rfl) | (simp [*, errW_none, errW_some] <;> rfl), by exact s_R (HO231.out), by exact s_b HB.out⟩
def orchestratorlaw57_app.f (a0 : ByteArray) : Option ((List (S74))) := some (([(⟨(⟨#[97, 112, 112]⟩ : ByteArray), 1, (([a0] : List ByteArray))⟩ : S74)] : List (S74)))
set_option maxHeartbeats 8000000 in
set_option maxRecDepth 100000 in
theorem orchestratorlaw57_app.calls (a0 : ByteArray) (r : List (S74)) (w : World) (h : orchestratorlaw57_app.f a0 = some r) :
  Calls Try.prog 17 #[.string a0] w fun e w' => ∃ v0_ : Value, e = .returned (v0_) ∧ Kd.N k74 74 w' w.heap.size (fun k_ => (w.heap.size ≤ k_)) v0_ r ∧ Below w.heap.size w w' := by
 have hu74 := Try.underlying74
 have HB := s_a (Below.refl w.heap.size w)
 have H : (some (([(⟨(⟨#[97, 112, 112]⟩ : ByteArray), 1, (([a0] : List ByteArray))⟩ : S74)] : List (S74)))) = some r := h
 clear h
 obtain ⟨y232, hy232⟩ : ∃ y_ : List ByteArray, y_ = (([a0] : List ByteArray)) := ⟨_, rfl⟩
 replace H : (some (([(⟨(⟨#[97, 112, 112]⟩ : ByteArray), 1, y232⟩ : S74)] : List (S74)))) = some r := by first | (rw [hy232]; with_reducible exact H) | (have H2_ := (Option.bind_some _ _).symm.trans H; rw [hy232]; with_reducible exact H2_) | (have H2_ := (Option.bind_some _ _).symm.trans H; with_reducible exact H2_) | with_reducible exact H | (rw [hy232]; exact H) | exact H
 have Ny232 := s_a hy232
 clear hy232
 obtain ⟨y235, hy235⟩ : ∃ y_ : List (S74), y_ = (([(⟨(⟨#[97, 112, 112]⟩ : ByteArray), 1, y232⟩ : S74)] : List (S74))) := ⟨_, rfl⟩
 replace H : (some y235) = some r := by first | (rw [hy235]; with_reducible exact H) | (have H2_ := (Option.bind_some _ _).symm.trans H; rw [hy235]; with_reducible exact H2_) | (have H2_ := (Option.bind_some _ _).symm.trans H; with_reducible exact H2_) | with_reducible exact H | (rw [hy235]; exact H) | exact H
 have Ny235 := s_a hy235
 clear hy235
 obtain rfl := Option.some.inj H
 go_enter Try.func17, Try.ntmps17
 go_wp2_with (first | ((with_reducible refine gate_dst (N := 4) rfl ?_); refine Kd.R_lit Kd.string _ 9 ?hg (N := 4) ?hd (xs := ([a0] : List ByteArray)) (inner := [.string a0]) (ok := fun _ => True) (okp := fun _ => True) ?hr ?hp (fun _ hk => hk) trivial (Below.refl _ _) (Nat.le_refl _) (by simp) ?_; (case hd => rfl); (case hg => rfl); (case hr => first | (go_simp; done) | (go_simp; rfl)); (case hp => exact (Reps.one (show Kd.M Kd.string _ _ _ a0 [.string a0] from rfl) (Reps.none _ _))); intro v233 w2 ho3 hb hg_ hnew_; clear hg_ hnew_; (first | rw [← Ny232.out] at ho3 | (simp only [Int.reduceToNat] at ho3; rw [← Ny232.out] at ho3)); have HO234 := s_a (Kd.R_lower (Kd.R_newM (M := fun k_ => (w.heap.size ≤ k_)) ho3 (below_size (by exact s_b HB.out)) (fun k_ h_ => h_)) (below_size (by exact s_b HB.out))); replace HB := s_a (below_step (by exact s_b HB.out) hb); clear hb ho3; obtain ⟨Ao4, co4, eo4⟩ := Kd.R_slice HO234.out; subst eo4) | ((with_reducible refine gate_dst (N := 6) rfl ?_); refine Kd.N_lit k74 _ 74 ?hg (N' := 6) ?hd (xs := ([(⟨(⟨#[97, 112, 112]⟩ : ByteArray), 1, y232⟩ : S74)] : List (S74))) (inner := [.string (⟨#[97, 112, 112]⟩ : ByteArray), .int .i64 1, .slice Ao4 y232.length co4]) (ok := (fun k_ => (w.heap.size ≤ k_))) (okp := (fun k_ => (w.heap.size ≤ k_))) ?hr ?hp (fun _ hk => hk) ((show ∀ k_, w2.heap.size ≤ k_ → (fun k_ => (w.heap.size ≤ k_)) k_ from fun k_ hk => (Nat.le_trans (below_size (by exact s_b HB.out)) hk)) _ (Nat.le_refl _)) (Below.refl _ _) (Nat.le_refl _) (by simp) ?_; (case hd => rfl); (case hg => rfl); (case hr => first | (go_simp; done) | (go_simp; rfl)); (case hp => exact (Reps.c3 (show Kd.FK k74 _ _ (⟨(⟨#[97, 112, 112]⟩ : ByteArray), 1, y232⟩ : S74) [.string (⟨#[97, 112, 112]⟩ : ByteArray), .int .i64 1, .slice Ao4 y232.length co4] from (k74_mkF _ _ (⟨(⟨#[97, 112, 112]⟩ : ByteArray), 1, y232⟩ : S74) (Kd.R_reads' (Kd.R_mono (ok' := (fun k_ => (w.heap.size ≤ k_))) (HO234.out) (fun k_ hk => hk.1))).2.1 (Kd.R_F (Kd.R_mono (ok' := (fun k_ => (w.heap.size ≤ k_))) (HO234.out) (fun k_ hk => hk.1))))) (Reps.none _ _))); intro v236 w5 ho6 hb hg_ hnew_; clear hg_ hnew_; (first | rw [← Ny235.out] at ho6 | (simp only [Int.reduceToNat] at ho6; rw [← Ny235.out] at ho6)); have n0_ := s_a (Kd.N_lower ho6 (below_size (by exact s_b HB.out))); clear HO234; have HO237 := n0_; clear n0_; replace HB := s_a (below_step (by exact s_b HB.out) hb); clear hb ho6))
 go_ret
 exact ⟨_, by first | rfl | (simp [errW_none, errW_some] <;> rfl) | (simp [*, errW_none, errW_some] <;> rfl), by exact s_N (HO237.out), by exact s_b HB.out⟩
def orchestratorlaw57_lives.f (k : Nat)  : Option (Bool) := (orchestratorlaw57_pod.f (⟨#[97]⟩ : ByteArray) (⟨#[100, 98]⟩ : ByteArray)).bind fun bt238 => ((orchestratorlaw57_pod.f (⟨#[98]⟩ : ByteArray) (⟨#[119, 101, 98]⟩ : ByteArray)).bind fun bt292 => ((orchestratorlaw57_pod.f (⟨#[99]⟩ : ByteArray) (⟨#[106, 111, 98]⟩ : ByteArray)).bind fun bt346 => ((orchestratorlaw57_app.f (⟨#[100, 98]⟩ : ByteArray)).bind fun t403 => ((orchestratorlaw57_app.f (⟨#[119, 101, 98]⟩ : ByteArray)).bind fun t406 => ((some (([(⟨(⟨(⟨#[]⟩ : ByteArray), (⟨#[120]⟩ : ByteArray), (⟨#[]⟩ : ByteArray), 0, 0, 0, 0, false, 0, ([] : List (S72)), ([] : List (S110)), ([] : List ByteArray), ([] : List (S112))⟩ : S28), t403, true, false, (([(⟨false, (([(⟨(⟨#[]⟩ : ByteArray), t406⟩ : S64)] : List (S64))), (([5432] : List Int))⟩ : S58)] : List (S58)))⟩ : S54)] : List (S54)) : List (S54))).bind fun y418 => ((netpolicy_Isolated.f k y418 (⟨#[80, 111, 100]⟩ : ByteArray) (⟨#[120]⟩ : ByteArray) bt238.2.2.1 0 0 0 0 false 0 bt238.2.2.2.2.2.2.2.2.2.1 ([] : List (S110)) ([] : List ByteArray) ([] : List (S112)) (⟨#[]⟩ : ByteArray) 0 0 0 ([] : List (S117)) ([] : List (S74)) ([] : List (S119)) ([] : List (S121)) ([] : List (S123)) ([] : List (S125)) 0 false 0 0 0 ([] : List (S127)) 0 (⟨#[]⟩ : ByteArray) (⟨#[]⟩ : ByteArray) false).bind fun t421 => (if t421 = true then ((netpolicy_Isolated.f k y418 (⟨#[80, 111, 100]⟩ : ByteArray) (⟨#[120]⟩ : ByteArray) bt238.2.2.1 0 0 0 0 false 0 bt238.2.2.2.2.2.2.2.2.2.1 ([] : List (S110)) ([] : List ByteArray) ([] : List (S112)) (⟨#[]⟩ : ByteArray) 0 0 0 ([] : List (S117)) ([] : List (S74)) ([] : List (S119)) ([] : List (S121)) ([] : List (S123)) ([] : List (S125)) 0 false 0 0 0 ([] : List (S127)) 0 (⟨#[]⟩ : ByteArray) (⟨#[]⟩ : ByteArray) true).bind fun t422 => (if t422 = true then (some false) else ((netpolicy_Allowed.f k y418 (⟨#[80, 111, 100]⟩ : ByteArray) (⟨#[120]⟩ : ByteArray) bt292.2.2.1 0 0 0 0 false 0 bt292.2.2.2.2.2.2.2.2.2.1 ([] : List (S110)) ([] : List ByteArray) ([] : List (S112)) (⟨#[]⟩ : ByteArray) 0 0 0 ([] : List (S117)) ([] : List (S74)) ([] : List (S119)) ([] : List (S121)) ([] : List (S123)) ([] : List (S125)) 0 false 0 0 0 ([] : List (S127)) 0 (⟨#[]⟩ : ByteArray) (⟨#[]⟩ : ByteArray) (⟨#[80, 111, 100]⟩ : ByteArray) (⟨#[120]⟩ : ByteArray) bt238.2.2.1 0 0 0 0 false 0 bt238.2.2.2.2.2.2.2.2.2.1 ([] : List (S110)) ([] : List ByteArray) ([] : List (S112)) (⟨#[]⟩ : ByteArray) 0 0 0 ([] : List (S117)) ([] : List (S74)) ([] : List (S119)) ([] : List (S121)) ([] : List (S123)) ([] : List (S125)) 0 false 0 0 0 ([] : List (S127)) 0 (⟨#[]⟩ : ByteArray) (⟨#[]⟩ : ByteArray) 5432).bind fun t423 => (if t423 = true then ((netpolicy_Allowed.f k y418 (⟨#[80, 111, 100]⟩ : ByteArray) (⟨#[120]⟩ : ByteArray) bt292.2.2.1 0 0 0 0 false 0 bt292.2.2.2.2.2.2.2.2.2.1 ([] : List (S110)) ([] : List ByteArray) ([] : List (S112)) (⟨#[]⟩ : ByteArray) 0 0 0 ([] : List (S117)) ([] : List (S74)) ([] : List (S119)) ([] : List (S121)) ([] : List (S123)) ([] : List (S125)) 0 false 0 0 0 ([] : List (S127)) 0 (⟨#[]⟩ : ByteArray) (⟨#[]⟩ : ByteArray) (⟨#[80, 111, 100]⟩ : ByteArray) (⟨#[120]⟩ : ByteArray) bt238.2.2.1 0 0 0 0 false 0 bt238.2.2.2.2.2.2.2.2.2.1 ([] : List (S110)) ([] : List ByteArray) ([] : List (S112)) (⟨#[]⟩ : ByteArray) 0 0 0 ([] : List (S117)) ([] : List (S74)) ([] : List (S119)) ([] : List (S121)) ([] : List (S123)) ([] : List (S125)) 0 false 0 0 0 ([] : List (S127)) 0 (⟨#[]⟩ : ByteArray) (⟨#[]⟩ : ByteArray) 80).bind fun t424 => (if t424 = true then (some false) else ((netpolicy_Allowed.f k y418 (⟨#[80, 111, 100]⟩ : ByteArray) (⟨#[120]⟩ : ByteArray) bt346.2.2.1 0 0 0 0 false 0 bt346.2.2.2.2.2.2.2.2.2.1 ([] : List (S110)) ([] : List ByteArray) ([] : List (S112)) (⟨#[]⟩ : ByteArray) 0 0 0 ([] : List (S117)) ([] : List (S74)) ([] : List (S119)) ([] : List (S121)) ([] : List (S123)) ([] : List (S125)) 0 false 0 0 0 ([] : List (S127)) 0 (⟨#[]⟩ : ByteArray) (⟨#[]⟩ : ByteArray) (⟨#[80, 111, 100]⟩ : ByteArray) (⟨#[120]⟩ : ByteArray) bt238.2.2.1 0 0 0 0 false 0 bt238.2.2.2.2.2.2.2.2.2.1 ([] : List (S110)) ([] : List ByteArray) ([] : List (S112)) (⟨#[]⟩ : ByteArray) 0 0 0 ([] : List (S117)) ([] : List (S74)) ([] : List (S119)) ([] : List (S121)) ([] : List (S123)) ([] : List (S125)) 0 false 0 0 0 ([] : List (S127)) 0 (⟨#[]⟩ : ByteArray) (⟨#[]⟩ : ByteArray) 5432).bind fun t425 => (if t425 = true then (some false) else ((netpolicy_Allowed.f k y418 (⟨#[80, 111, 100]⟩ : ByteArray) (⟨#[120]⟩ : ByteArray) bt238.2.2.1 0 0 0 0 false 0 bt238.2.2.2.2.2.2.2.2.2.1 ([] : List (S110)) ([] : List ByteArray) ([] : List (S112)) (⟨#[]⟩ : ByteArray) 0 0 0 ([] : List (S117)) ([] : List (S74)) ([] : List (S119)) ([] : List (S121)) ([] : List (S123)) ([] : List (S125)) 0 false 0 0 0 ([] : List (S127)) 0 (⟨#[]⟩ : ByteArray) (⟨#[]⟩ : ByteArray) (⟨#[80, 111, 100]⟩ : ByteArray) (⟨#[120]⟩ : ByteArray) bt292.2.2.1 0 0 0 0 false 0 bt292.2.2.2.2.2.2.2.2.2.1 ([] : List (S110)) ([] : List ByteArray) ([] : List (S112)) (⟨#[]⟩ : ByteArray) 0 0 0 ([] : List (S117)) ([] : List (S74)) ([] : List (S119)) ([] : List (S121)) ([] : List (S123)) ([] : List (S125)) 0 false 0 0 0 ([] : List (S127)) 0 (⟨#[]⟩ : ByteArray) (⟨#[]⟩ : ByteArray) 80).bind fun t426 => (if t426 = true then ((netpolicy_Allowed.f k y418 (⟨#[80, 111, 100]⟩ : ByteArray) (⟨#[120]⟩ : ByteArray) bt238.2.2.1 0 0 0 0 false 0 bt238.2.2.2.2.2.2.2.2.2.1 ([] : List (S110)) ([] : List ByteArray) ([] : List (S112)) (⟨#[]⟩ : ByteArray) 0 0 0 ([] : List (S117)) ([] : List (S74)) ([] : List (S119)) ([] : List (S121)) ([] : List (S123)) ([] : List (S125)) 0 false 0 0 0 ([] : List (S127)) 0 (⟨#[]⟩ : ByteArray) (⟨#[]⟩ : ByteArray) (⟨#[80, 111, 100]⟩ : ByteArray) (⟨#[120]⟩ : ByteArray) bt238.2.2.1 0 0 0 0 false 0 bt238.2.2.2.2.2.2.2.2.2.1 ([] : List (S110)) ([] : List ByteArray) ([] : List (S112)) (⟨#[]⟩ : ByteArray) 0 0 0 ([] : List (S117)) ([] : List (S74)) ([] : List (S119)) ([] : List (S121)) ([] : List (S123)) ([] : List (S125)) 0 false 0 0 0 ([] : List (S127)) 0 (⟨#[]⟩ : ByteArray) (⟨#[]⟩ : ByteArray) 1).bind fun t427 => (if t427 = true then ((netpolicy_Reach.f k y418 (([(⟨(⟨(⟨#[80, 111, 100]⟩ : ByteArray), (⟨#[120]⟩ : ByteArray), bt238.2.2.1, 0, 0, 0, 0, false, 0, bt238.2.2.2.2.2.2.2.2.2.1, ([] : List (S110)), ([] : List ByteArray), ([] : List (S112))⟩ : S28), (⟨(⟨#[]⟩ : ByteArray), 0, 0, 0, ([] : List (S117)), ([] : List (S74)), ([] : List (S119)), ([] : List (S121)), ([] : List (S123)), ([] : List (S125))⟩ : S36), (⟨0, false, 0, 0, 0, ([] : List (S127)), 0, (⟨#[]⟩ : ByteArray), (⟨#[]⟩ : ByteArray)⟩ : S39)⟩ : S41), (⟨(⟨(⟨#[80, 111, 100]⟩ : ByteArray), (⟨#[120]⟩ : ByteArray), bt292.2.2.1, 0, 0, 0, 0, false, 0, bt292.2.2.2.2.2.2.2.2.2.1, ([] : List (S110)), ([] : List ByteArray), ([] : List (S112))⟩ : S28), (⟨(⟨#[]⟩ : ByteArray), 0, 0, 0, ([] : List (S117)), ([] : List (S74)), ([] : List (S119)), ([] : List (S121)), ([] : List (S123)), ([] : List (S125))⟩ : S36), (⟨0, false, 0, 0, 0, ([] : List (S127)), 0, (⟨#[]⟩ : ByteArray), (⟨#[]⟩ : ByteArray)⟩ : S39)⟩ : S41), (⟨(⟨(⟨#[80, 111, 100]⟩ : ByteArray), (⟨#[120]⟩ : ByteArray), bt346.2.2.1, 0, 0, 0, 0, false, 0, bt346.2.2.2.2.2.2.2.2.2.1, ([] : List (S110)), ([] : List ByteArray), ([] : List (S112))⟩ : S28), (⟨(⟨#[]⟩ : ByteArray), 0, 0, 0, ([] : List (S117)), ([] : List (S74)), ([] : List (S119)), ([] : List (S121)), ([] : List (S123)), ([] : List (S125))⟩ : S36), (⟨0, false, 0, 0, 0, ([] : List (S127)), 0, (⟨#[]⟩ : ByteArray), (⟨#[]⟩ : ByteArray)⟩ : S39)⟩ : S41)] : List (S41))) 80).bind fun t431 => ((orchestratorref57_Pairs.f k t431 (([(⟨0, 1⟩ : S48), (⟨0, 2⟩ : S48), (⟨1, 2⟩ : S48), (⟨2, 1⟩ : S48)] : List (S48)))).bind fun t437 => (if t437 = true then (some true) else (some false)))) else (some false))) else (some false))))))) else (some false))))) else (some false))))))))
theorem orchestratorlaw57_lives.mono : ∀ k, LeO (orchestratorlaw57_lives.f k ) (orchestratorlaw57_lives.f (k + 1) ) := by
 intro  k
 unfold orchestratorlaw57_lives.f
 repeat' first
   | (with_reducible exact netpolicy_Allowed.mono _ _ _ _ _ _ _ _ _ _ _ _ _ _ _ _ _ _ _ _ _ _ _ _ _ _ _ _ _ _ _ _ _ _ _ _ _ _ _ _ _ _ _ _ _ _ _ _ _ _ _ _ _ _ _ _ _ _ _ _ _ _ _ _ _ _ _)
   | (with_reducible exact netpolicy_Isolated.mono _ _ _ _ _ _ _ _ _ _ _ _ _ _ _ _ _ _ _ _ _ _ _ _ _ _ _ _ _ _ _ _ _ _ _)
   | (with_reducible exact netpolicy_Reach.mono _ _ _ _)
   | (with_reducible exact orchestratorref57_Pairs.mono _ _ _)
   | (with_reducible exact LeO.refl _)
   | (with_reducible exact LeO.none _)
   | (with_reducible refine LeO.ite ?_ ?_)
   | (with_reducible refine LeO.bind ?_ (fun _ => ?_))
   | exact netpolicy_Allowed.mono _ _ _ _ _ _ _ _ _ _ _ _ _ _ _ _ _ _ _ _ _ _ _ _ _ _ _ _ _ _ _ _ _ _ _ _ _ _ _ _ _ _ _ _ _ _ _ _ _ _ _ _ _ _ _ _ _ _ _ _ _ _ _ _ _ _ _
   | exact netpolicy_Isolated.mono _ _ _ _ _ _ _ _ _ _ _ _ _ _ _ _ _ _ _ _ _ _ _ _ _ _ _ _ _ _ _ _ _ _ _
   | exact netpolicy_Reach.mono _ _ _ _
   | exact orchestratorref57_Pairs.mono _ _ _
   | exact LeO.none _
   | refine LeO.ite ?_ ?_
   | refine LeO.bind ?_ (fun _ => ?_)
set_option maxHeartbeats 8000000 in
set_option maxRecDepth 100000 in
theorem orchestratorlaw57_lives.calls (k : Nat)  (w : World) (h : orchestratorlaw57_lives.f k  = some true) :
  Calls Try.prog 8 #[] w fun e w' => e = .returned (.bool true) ∧ Below w.heap.size w w' := by
 have hu41 := Try.underlying41
 have hu28 := Try.underlying28
 have hu64 := Try.underlying64
 have hu58 := Try.underlying58
 have hu54 := Try.underlying54
 have hu48 := Try.underlying48
 have HB := s_a (Below.refl w.heap.size w)
 have H := h; unfold orchestratorlaw57_lives.f at H
 clear h
 replace H := Option.bind_eq_some_iff.mp H
 obtain ⟨⟨t238, t239, t240, t241, t242, t243, t244, t245, t246, t247, t250, t253, t256, t259, t260, t261, t262, t263, t266, t269, t272, t275, t278, t281, t282, t283, t284, t285, t286, t289, t290, t291⟩, A10, H⟩ := H
 (try dsimp only at H)
 have A1 := s_a A10
 clear A10
 replace H := Option.bind_eq_some_iff.mp H
 obtain ⟨⟨t292, t293, t294, t295, t296, t297, t298, t299, t300, t301, t304, t307, t310, t313, t314, t315, t316, t317, t320, t323, t326, t329, t332, t335, t336, t337, t338, t339, t340, t343, t344, t345⟩, A20, H⟩ := H
 (try dsimp only at H)
 have A2 := s_a A20
 clear A20
 replace H := Option.bind_eq_some_iff.mp H
 obtain ⟨⟨t346, t347, t348, t349, t350, t351, t352, t353, t354, t355, t358, t361, t364, t367, t368, t369, t370, t371, t374, t377, t380, t383, t386, t389, t390, t391, t392, t393, t394, t397, t398, t399⟩, A30, H⟩ := H
 (try dsimp only at H)
 have A3 := s_a A30
 clear A30
 replace H := Option.bind_eq_some_iff.mp H
 obtain ⟨t403, A40, H⟩ := H
 (try dsimp only at H)
 have A4 := s_a A40
 clear A40
 replace H := Option.bind_eq_some_iff.mp H
 obtain ⟨t406, A50, H⟩ := H
 (try dsimp only at H)
 have A5 := s_a A50
 clear A50
 obtain ⟨y409, hy409⟩ : ∃ y_ : List (S64), y_ = (([(⟨(⟨#[]⟩ : ByteArray), t406⟩ : S64)] : List (S64))) := ⟨_, rfl⟩
 (try rw [← hy409] at H)
 have Ny409 := s_a hy409
 clear hy409
 obtain ⟨y412, hy412⟩ : ∃ y_ : List Int, y_ = (([5432] : List Int)) := ⟨_, rfl⟩
 (try rw [← hy412] at H)
 have Ny412 := s_a hy412
 clear hy412
 obtain ⟨y415, hy415⟩ : ∃ y_ : List (S58), y_ = (([(⟨false, y409, y412⟩ : S58)] : List (S58))) := ⟨_, rfl⟩
 (try rw [← hy415] at H)
 have Ny415 := s_a hy415
 clear hy415
 obtain ⟨y418, hy418⟩ : ∃ y_ : List (S54), y_ = (([(⟨(⟨(⟨#[]⟩ : ByteArray), (⟨#[120]⟩ : ByteArray), (⟨#[]⟩ : ByteArray), 0, 0, 0, 0, false, 0, ([] : List (S72)), ([] : List (S110)), ([] : List ByteArray), ([] : List (S112))⟩ : S28), t403, true, false, y415⟩ : S54)] : List (S54))) := ⟨_, rfl⟩
 replace H := (Option.bind_some _ _).symm.trans H; (try dsimp only at H); (try rw [← hy418] at H)
 have Ny418 := s_a hy418
 clear hy418
 replace H := Option.bind_eq_some_iff.mp H
 obtain ⟨t421, A60, H⟩ := H
 (try dsimp only at H)
 have A6 := s_a A60
 clear A60
 by_cases c7 : t421 = true
 ·subst c7
  (try rw [if_pos rfl] at H)
  replace H := Option.bind_eq_some_iff.mp H
  obtain ⟨t422, A80, H⟩ := H
  (try dsimp only at H)
  have A8 := s_a A80
  clear A80
  by_cases c9 : t422 = true
  ·subst c9
   (try rw [if_pos rfl] at H)
   exact absurd H (by simp)
  ·replace c9 := Bool.eq_false_iff.mpr c9
   subst c9
   (try rw [if_neg (show ¬ (false = true) by decide)] at H)
   replace H := Option.bind_eq_some_iff.mp H
   obtain ⟨t423, A100, H⟩ := H
   (try dsimp only at H)
   have A10 := s_a A100
   clear A100
   by_cases c11 : t423 = true
   ·subst c11
    (try rw [if_pos rfl] at H)
    replace H := Option.bind_eq_some_iff.mp H
    obtain ⟨t424, A120, H⟩ := H
    (try dsimp only at H)
    have A12 := s_a A120
    clear A120
    by_cases c13 : t424 = true
    ·subst c13
     (try rw [if_pos rfl] at H)
     exact absurd H (by simp)
    ·replace c13 := Bool.eq_false_iff.mpr c13
     subst c13
     (try rw [if_neg (show ¬ (false = true) by decide)] at H)
     replace H := Option.bind_eq_some_iff.mp H
     obtain ⟨t425, A140, H⟩ := H
     (try dsimp only at H)
     have A14 := s_a A140
     clear A140
     by_cases c15 : t425 = true
     ·subst c15
      (try rw [if_pos rfl] at H)
      exact absurd H (by simp)
     ·replace c15 := Bool.eq_false_iff.mpr c15
      subst c15
      (try rw [if_neg (show ¬ (false = true) by decide)] at H)
      replace H := Option.bind_eq_some_iff.mp H
      obtain ⟨t426, A160, H⟩ := H
      (try dsimp only at H)
      have A16 := s_a A160
      clear A160
      by_cases c17 : t426 = true
      ·subst c17
       (try rw [if_pos rfl] at H)
       replace H := Option.bind_eq_some_iff.mp H
       obtain ⟨t427, A180, H⟩ := H
       (try dsimp only at H)
       have A18 := s_a A180
       clear A180
       by_cases c19 : t427 = true
       ·subst c19
        (try rw [if_pos rfl] at H)
        obtain ⟨y428, hy428⟩ : ∃ y_ : List (S41), y_ = (([(⟨(⟨(⟨#[80, 111, 100]⟩ : ByteArray), (⟨#[120]⟩ : ByteArray), t240, 0, 0, 0, 0, false, 0, t247, ([] : List (S110)), ([] : List ByteArray), ([] : List (S112))⟩ : S28), (⟨(⟨#[]⟩ : ByteArray), 0, 0, 0, ([] : List (S117)), ([] : List (S74)), ([] : List (S119)), ([] : List (S121)), ([] : List (S123)), ([] : List (S125))⟩ : S36), (⟨0, false, 0, 0, 0, ([] : List (S127)), 0, (⟨#[]⟩ : ByteArray), (⟨#[]⟩ : ByteArray)⟩ : S39)⟩ : S41), (⟨(⟨(⟨#[80, 111, 100]⟩ : ByteArray), (⟨#[120]⟩ : ByteArray), t294, 0, 0, 0, 0, false, 0, t301, ([] : List (S110)), ([] : List ByteArray), ([] : List (S112))⟩ : S28), (⟨(⟨#[]⟩ : ByteArray), 0, 0, 0, ([] : List (S117)), ([] : List (S74)), ([] : List (S119)), ([] : List (S121)), ([] : List (S123)), ([] : List (S125))⟩ : S36), (⟨0, false, 0, 0, 0, ([] : List (S127)), 0, (⟨#[]⟩ : ByteArray), (⟨#[]⟩ : ByteArray)⟩ : S39)⟩ : S41), (⟨(⟨(⟨#[80, 111, 100]⟩ : ByteArray), (⟨#[120]⟩ : ByteArray), t348, 0, 0, 0, 0, false, 0, t355, ([] : List (S110)), ([] : List ByteArray), ([] : List (S112))⟩ : S28), (⟨(⟨#[]⟩ : ByteArray), 0, 0, 0, ([] : List (S117)), ([] : List (S74)), ([] : List (S119)), ([] : List (S121)), ([] : List (S123)), ([] : List (S125))⟩ : S36), (⟨0, false, 0, 0, 0, ([] : List (S127)), 0, (⟨#[]⟩ : ByteArray), (⟨#[]⟩ : ByteArray)⟩ : S39)⟩ : S41)] : List (S41))) := ⟨_, rfl⟩
        replace H : ((netpolicy_Reach.f k y418 y428 80).bind fun t431 => ((orchestratorref57_Pairs.f k t431 (([(⟨0, 1⟩ : S48), (⟨0, 2⟩ : S48), (⟨1, 2⟩ : S48), (⟨2, 1⟩ : S48)] : List (S48)))).bind fun t437 => (if t437 = true then (some true) else (some false)))) = some true := by first | (rw [hy428]; with_reducible exact H) | (have H2_ := (Option.bind_some _ _).symm.trans H; rw [hy428]; with_reducible exact H2_) | (have H2_ := (Option.bind_some _ _).symm.trans H; with_reducible exact H2_) | with_reducible exact H | (rw [hy428]; exact H) | exact H
        have Ny428 := s_a hy428
        clear hy428
        replace H := Option.bind_eq_some_iff.mp H
        obtain ⟨t431, A200, H⟩ := H
        replace H : ((orchestratorref57_Pairs.f k t431 (([(⟨0, 1⟩ : S48), (⟨0, 2⟩ : S48), (⟨1, 2⟩ : S48), (⟨2, 1⟩ : S48)] : List (S48)))).bind fun t437 => (if t437 = true then (some true) else (some false))) = some true := H
        have A20 := s_a A200
        clear A200
        obtain ⟨y434, hy434⟩ : ∃ y_ : List (S48), y_ = (([(⟨0, 1⟩ : S48), (⟨0, 2⟩ : S48), (⟨1, 2⟩ : S48), (⟨2, 1⟩ : S48)] : List (S48))) := ⟨_, rfl⟩
        replace H : ((orchestratorref57_Pairs.f k t431 y434).bind fun t437 => (if t437 = true then (some true) else (some false))) = some true := by first | (rw [hy434]; with_reducible exact H) | (have H2_ := (Option.bind_some _ _).symm.trans H; rw [hy434]; with_reducible exact H2_) | (have H2_ := (Option.bind_some _ _).symm.trans H; with_reducible exact H2_) | with_reducible exact H | (rw [hy434]; exact H) | exact H
        have Ny434 := s_a hy434
        clear hy434
        replace H := Option.bind_eq_some_iff.mp H
        obtain ⟨t437, A210, H⟩ := H
        replace H : (if t437 = true then (some true) else (some false)) = some true := H
        have A21 := s_a A210
        clear A210
        by_cases c22 : t437 = true
        ·subst c22
         (try rw [if_pos rfl] at H)
         clear H
         go_enter Try.func8, Try.ntmps8
         go_wp2_with (first | ((with_reducible refine gate_callee (f := 16) rfl ?_); refine goesL_ (some 5) rfl rfl Try.func16 (by kernel_rfl) rfl #[.string (⟨#[97]⟩ : ByteArray), .string (⟨#[100, 98]⟩ : ByteArray)] rfl (by (try simp only [List.map_toArray, List.map_cons, List.map_nil]); first | done | rfl | (simp only [List.length_drop, List.length_take]; rfl)) ?_; (with_reducible refine (orchestratorlaw57_pod.calls _ _ _ _ _ _ _ _ _ _ _ _ _ _ _ _ _ _ _ _ _ _ _ _ _ _ _ _ _ _ _ _ _ _ _ A1.out).mono ?_); rintro e w23 ⟨v248, rfl, ho0, hb⟩; refine ⟨_, rfl, ?_⟩; have HO249 := s_a (Kd.R_lower ho0 (below_size (by exact s_b HB.out))); replace HB := s_a (below_step (by exact s_b HB.out) hb); (try clear hb); (try clear ho0)) | ((with_reducible refine gate_callee (f := 16) rfl ?_); refine goesL_ (some 6) rfl rfl Try.func16 (by kernel_rfl) rfl #[.string (⟨#[98]⟩ : ByteArray), .string (⟨#[119, 101, 98]⟩ : ByteArray)] rfl (by (try simp only [List.map_toArray, List.map_cons, List.map_nil]); first | done | rfl | (simp only [List.length_drop, List.length_take]; rfl)) ?_; (with_reducible refine (orchestratorlaw57_pod.calls _ _ _ _ _ _ _ _ _ _ _ _ _ _ _ _ _ _ _ _ _ _ _ _ _ _ _ _ _ _ _ _ _ _ _ A2.out).mono ?_); rintro e w24 ⟨v302, rfl, ho0, hb⟩; refine ⟨_, rfl, ?_⟩; have HO303 := s_a (Kd.R_lower (Kd.R_new' ho0 (Kd.R_lt (by exact s_R (HO249.out)))) (below_size (by exact s_b HB.out))); replace HO249 := s_a (Kd.R_elder' (by exact s_R (HO249.out)) (Kd.R_base ho0) hb); replace HB := s_a (below_step (by exact s_b HB.out) hb); (try clear hb); (try clear ho0)) | ((with_reducible refine gate_callee (f := 16) rfl ?_); refine goesL_ (some 7) rfl rfl Try.func16 (by kernel_rfl) rfl #[.string (⟨#[99]⟩ : ByteArray), .string (⟨#[106, 111, 98]⟩ : ByteArray)] rfl (by (try simp only [List.map_toArray, List.map_cons, List.map_nil]); first | done | rfl | (simp only [List.length_drop, List.length_take]; rfl)) ?_; (with_reducible refine (orchestratorlaw57_pod.calls _ _ _ _ _ _ _ _ _ _ _ _ _ _ _ _ _ _ _ _ _ _ _ _ _ _ _ _ _ _ _ _ _ _ _ A3.out).mono ?_); rintro e w25 ⟨v356, rfl, ho0, hb⟩; refine ⟨_, rfl, ?_⟩; have HO357 := s_a (Kd.R_lower (Kd.R_new' (Kd.R_new' ho0 (Kd.R_lt (by exact s_R (HO249.out)))) (Kd.R_lt (by exact s_R (HO303.out)))) (below_size (by exact s_b HB.out))); replace HO249 := s_a (Kd.R_elder' (by exact s_R (HO249.out)) (Kd.R_base ho0) hb); replace HO303 := s_a (Kd.R_elder' (by exact s_R (HO303.out)) (Kd.R_base ho0) hb); replace HB := s_a (below_step (by exact s_b HB.out) hb); (try clear hb); (try clear ho0)) | ((with_reducible refine gate_dst (N := 1) rfl ?_); (try (refine gate_guard (by rfl) ?_; dsimp only)); refine box_event ?hg (N := 1) ?hd (cs := #[.string (⟨#[]⟩ : ByteArray), .string (⟨#[]⟩ : ByteArray), .string (⟨#[]⟩ : ByteArray), .int .i64 0, .int .i64 0, .int .i64 0, .int .i64 0, .bool false, .int .i64 0, .slice none 0 0, .slice none 0 0, .slice none 0 0, .slice none 0 0, .string (⟨#[]⟩ : ByteArray), .int .i64 0, .int .i64 0, .int .i64 0, .slice none 0 0, .slice none 0 0, .slice none 0 0, .slice none 0 0, .slice none 0 0, .slice none 0 0, .int .i64 0, .bool false, .int .i64 0, .int .i64 0, .int .i64 0, .slice none 0 0, .int .i64 0, .string (⟨#[]⟩ : ByteArray), .string (⟨#[]⟩ : ByteArray)]) (t := 41) ?hr ?_; (case hd => rfl); (case hg => rfl); (case hr => first | (go_simp; done) | (go_simp; rfl)); intro gb400 hg w26 hbox hb; have BK400 := s_a (hbox); have GW400 := s_a ((by rw [hg]; exact (below_size (by exact s_b HB.out)) : w.heap.size ≤ gb400)); have GE400 := s_a ((by rw [hg]; exact (below_size (by exact s_b HB.out)) : w.heap.size ≤ gb400)); replace HO249 := s_a (Kd.R_below (by exact s_R (HO249.out)) hb); replace HO303 := s_a (Kd.R_below (by exact s_R (HO303.out)) hb); replace HO357 := s_a (Kd.R_below (by exact s_R (HO357.out)) hb); replace HB := s_a (below_step (by exact s_b HB.out) hb); clear hb hbox hg) | ((with_reducible refine gate_dst (N := 2) rfl ?_); (try (refine gate_guard (by rfl) ?_; dsimp only)); refine box_event ?hg (N := 2) ?hd (cs := #[.string (⟨#[]⟩ : ByteArray), .string (⟨#[]⟩ : ByteArray), .string (⟨#[]⟩ : ByteArray), .int .i64 0, .int .i64 0, .int .i64 0, .int .i64 0, .bool false, .int .i64 0, .slice none 0 0, .slice none 0 0, .slice none 0 0, .slice none 0 0, .string (⟨#[]⟩ : ByteArray), .int .i64 0, .int .i64 0, .int .i64 0, .slice none 0 0, .slice none 0 0, .slice none 0 0, .slice none 0 0, .slice none 0 0, .slice none 0 0, .int .i64 0, .bool false, .int .i64 0, .int .i64 0, .int .i64 0, .slice none 0 0, .int .i64 0, .string (⟨#[]⟩ : ByteArray), .string (⟨#[]⟩ : ByteArray)]) (t := 41) ?hr ?_; (case hd => rfl); (case hg => rfl); (case hr => first | (go_simp; done) | (go_simp; rfl)); intro gb401 hg w27 hbox hb; have BK401 := s_a (hbox); have GW401 := s_a ((by rw [hg]; exact (below_size (by exact s_b HB.out)) : w.heap.size ≤ gb401)); have GE401 := s_a ((by rw [hg]; exact (below_size (by exact s_b HB.out)) : w.heap.size ≤ gb401)); have NB400_401 := s_a ((by rw [hg]; exact Nat.ne_of_lt (blk_lt (s_k BK400.out)) : gb400 ≠ gb401)); have NB401_400 := s_a ((by rw [hg]; exact Nat.ne_of_gt (blk_lt (s_k BK400.out)) : gb401 ≠ gb400)); replace HO249 := s_a (Kd.R_below (by exact s_R (HO249.out)) hb); replace HO303 := s_a (Kd.R_below (by exact s_R (HO303.out)) hb); replace HO357 := s_a (Kd.R_below (by exact s_R (HO357.out)) hb); replace BK400 := s_a (blk_below (s_k BK400.out) hb); replace HB := s_a (below_step (by exact s_b HB.out) hb); clear hb hbox hg) | ((with_reducible refine gate_dst (N := 3) rfl ?_); (try (refine gate_guard (by rfl) ?_; dsimp only)); refine box_event ?hg (N := 3) ?hd (cs := #[.string (⟨#[]⟩ : ByteArray), .string (⟨#[]⟩ : ByteArray), .string (⟨#[]⟩ : ByteArray), .int .i64 0, .int .i64 0, .int .i64 0, .int .i64 0, .bool false, .int .i64 0, .slice none 0 0, .slice none 0 0, .slice none 0 0, .slice none 0 0, .string (⟨#[]⟩ : ByteArray), .int .i64 0, .int .i64 0, .int .i64 0, .slice none 0 0, .slice none 0 0, .slice none 0 0, .slice none 0 0, .slice none 0 0, .slice none 0 0, .int .i64 0, .bool false, .int .i64 0, .int .i64 0, .int .i64 0, .slice none 0 0, .int .i64 0, .string (⟨#[]⟩ : ByteArray), .string (⟨#[]⟩ : ByteArray)]) (t := 41) ?hr ?_; (case hd => rfl); (case hg => rfl); (case hr => first | (go_simp; done) | (go_simp; rfl)); intro gb402 hg w28 hbox hb; have BK402 := s_a (hbox); have GW402 := s_a ((by rw [hg]; exact (below_size (by exact s_b HB.out)) : w.heap.size ≤ gb402)); have GE402 := s_a ((by rw [hg]; exact (below_size (by exact s_b HB.out)) : w.heap.size ≤ gb402)); have NB400_402 := s_a ((by rw [hg]; exact Nat.ne_of_lt (blk_lt (s_k BK400.out)) : gb400 ≠ gb402)); have NB402_400 := s_a ((by rw [hg]; exact Nat.ne_of_gt (blk_lt (s_k BK400.out)) : gb402 ≠ gb400)); have NB401_402 := s_a ((by rw [hg]; exact Nat.ne_of_lt (blk_lt (s_k BK401.out)) : gb401 ≠ gb402)); have NB402_401 := s_a ((by rw [hg]; exact Nat.ne_of_gt (blk_lt (s_k BK401.out)) : gb402 ≠ gb401)); replace HO249 := s_a (Kd.R_below (by exact s_R (HO249.out)) hb); replace HO303 := s_a (Kd.R_below (by exact s_R (HO303.out)) hb); replace HO357 := s_a (Kd.R_below (by exact s_R (HO357.out)) hb); replace BK400 := s_a (blk_below (s_k BK400.out) hb); replace BK401 := s_a (blk_below (s_k BK401.out) hb); replace HB := s_a (below_step (by exact s_b HB.out) hb); clear hb hbox hg; have hnb29 := NB400_401.out; have hnc29 := NB401_400.out; have hnb30 := NB400_402.out; have hnc30 := NB402_400.out; obtain ⟨hcz31_0, hcz31_1, hcz31_2, hcz31_3, hcz31_4, hcz31_5, hcz31_6, hcz31_7, hcz31_8, hcz31_9, hcz31_10, hcz31_11, hcz31_12, hcz31_13, hcz31_14, hcz31_15, hcz31_16, hcz31_17, hcz31_18, hcz31_19, hcz31_20, hcz31_21, hcz31_22, hcz31_23, hcz31_24, hcz31_25, hcz31_26, hcz31_27, hcz31_28, hcz31_29, hcz31_30, hcz31_31⟩ := cells41 BK400.out; have hfz31_0 := blk_frozen BK400.out 0; have hfz31_1 := blk_frozen BK400.out 1; have hfz31_2 := blk_frozen BK400.out 2; have hfz31_3 := blk_frozen BK400.out 3; have hfz31_4 := blk_frozen BK400.out 4; have hfz31_5 := blk_frozen BK400.out 5; have hfz31_6 := blk_frozen BK400.out 6; have hfz31_7 := blk_frozen BK400.out 7; have hfz31_8 := blk_frozen BK400.out 8; have hfz31_9 := blk_frozen BK400.out 9; have hfz31_10 := blk_frozen BK400.out 10; have hfz31_11 := blk_frozen BK400.out 11; have hfz31_12 := blk_frozen BK400.out 12; have hfz31_13 := blk_frozen BK400.out 13; have hfz31_14 := blk_frozen BK400.out 14; have hfz31_15 := blk_frozen BK400.out 15; have hfz31_16 := blk_frozen BK400.out 16; have hfz31_17 := blk_frozen BK400.out 17; have hfz31_18 := blk_frozen BK400.out 18; have hfz31_19 := blk_frozen BK400.out 19; have hfz31_20 := blk_frozen BK400.out 20; have hfz31_21 := blk_frozen BK400.out 21; have hfz31_22 := blk_frozen BK400.out 22; have hfz31_23 := blk_frozen BK400.out 23; have hfz31_24 := blk_frozen BK400.out 24; have hfz31_25 := blk_frozen BK400.out 25; have hfz31_26 := blk_frozen BK400.out 26; have hfz31_27 := blk_frozen BK400.out 27; have hfz31_28 := blk_frozen BK400.out 28; have hfz31_29 := blk_frozen BK400.out 29; have hfz31_30 := blk_frozen BK400.out 30; have hfz31_31 := blk_frozen BK400.out 31; obtain ⟨Ao32, co32, eo32⟩ := Kd.R_slice HO249.out; subst eo32) | ((with_reducible refine gate_store (t := 41) (p := 1) rfl ?_); refine store_all rfl 41 (.tmp 1) _ rfl gb400 #[.string (⟨#[80, 111, 100]⟩ : ByteArray), .string (⟨#[120]⟩ : ByteArray), .string t240, .int .i64 0, .int .i64 0, .int .i64 0, .int .i64 0, .bool false, .int .i64 0, .slice Ao32 t247.length co32, .slice none 0 0, .slice none 0 0, .slice none 0 0, .string (⟨#[]⟩ : ByteArray), .int .i64 0, .int .i64 0, .int .i64 0, .slice none 0 0, .slice none 0 0, .slice none 0 0, .slice none 0 0, .slice none 0 0, .slice none 0 0, .int .i64 0, .bool false, .int .i64 0, .int .i64 0, .int .i64 0, .slice none 0 0, .int .i64 0, .string (⟨#[]⟩ : ByteArray), .string (⟨#[]⟩ : ByteArray)] rfl rfl 41 _ (s_k BK400.out) sz41 rfl (by first | rfl | simp [Value.oneCell']) rfl ?_; intro w33 hnb hgr; have n0_ := s_a (s_g HB.out hgr GE400.out); have n1_ := s_a (Kd.R_mono (Kd.R_grown (Kd.R_types HO249.out BK400.out (by decide)) hgr (fun _ hk_ => some_ne hk_.2)) (fun _ hk_ => hk_.1)); have n2_ := s_a (Kd.R_mono (Kd.R_grown (Kd.R_types HO303.out BK400.out (by decide)) hgr (fun _ hk_ => some_ne hk_.2)) (fun _ hk_ => hk_.1)); have n3_ := s_a (Kd.R_mono (Kd.R_grown (Kd.R_types HO357.out BK400.out (by decide)) hgr (fun _ hk_ => some_ne hk_.2)) (fun _ hk_ => hk_.1)); have n4_ := s_a (blk_grown (s_k BK401.out) hgr (some_ne NB401_400.out)); have n5_ := s_a (blk_grown (s_k BK402.out) hgr (some_ne NB402_400.out)); clear HB; clear HO249; clear HO303; clear HO357; clear BK401; clear BK402; have HB := n0_; have HO249 := n1_; have HO303 := n2_; have HO357 := n3_; have BK401 := n4_; have BK402 := n5_; clear n0_ n1_ n2_ n3_ n4_ n5_; replace BK400 := s_a (hnb); clear hnb hgr; have hnb34 := NB401_402.out; have hnc34 := NB402_401.out; obtain ⟨hcz35_0, hcz35_1, hcz35_2, hcz35_3, hcz35_4, hcz35_5, hcz35_6, hcz35_7, hcz35_8, hcz35_9, hcz35_10, hcz35_11, hcz35_12, hcz35_13, hcz35_14, hcz35_15, hcz35_16, hcz35_17, hcz35_18, hcz35_19, hcz35_20, hcz35_21, hcz35_22, hcz35_23, hcz35_24, hcz35_25, hcz35_26, hcz35_27, hcz35_28, hcz35_29, hcz35_30, hcz35_31⟩ := cells41 BK401.out; have hfz35_0 := blk_frozen BK401.out 0; have hfz35_1 := blk_frozen BK401.out 1; have hfz35_2 := blk_frozen BK401.out 2; have hfz35_3 := blk_frozen BK401.out 3; have hfz35_4 := blk_frozen BK401.out 4; have hfz35_5 := blk_frozen BK401.out 5; have hfz35_6 := blk_frozen BK401.out 6; have hfz35_7 := blk_frozen BK401.out 7; have hfz35_8 := blk_frozen BK401.out 8; have hfz35_9 := blk_frozen BK401.out 9; have hfz35_10 := blk_frozen BK401.out 10; have hfz35_11 := blk_frozen BK401.out 11; have hfz35_12 := blk_frozen BK401.out 12; have hfz35_13 := blk_frozen BK401.out 13; have hfz35_14 := blk_frozen BK401.out 14; have hfz35_15 := blk_frozen BK401.out 15; have hfz35_16 := blk_frozen BK401.out 16; have hfz35_17 := blk_frozen BK401.out 17; have hfz35_18 := blk_frozen BK401.out 18; have hfz35_19 := blk_frozen BK401.out 19; have hfz35_20 := blk_frozen BK401.out 20; have hfz35_21 := blk_frozen BK401.out 21; have hfz35_22 := blk_frozen BK401.out 22; have hfz35_23 := blk_frozen BK401.out 23; have hfz35_24 := blk_frozen BK401.out 24; have hfz35_25 := blk_frozen BK401.out 25; have hfz35_26 := blk_frozen BK401.out 26; have hfz35_27 := blk_frozen BK401.out 27; have hfz35_28 := blk_frozen BK401.out 28; have hfz35_29 := blk_frozen BK401.out 29; have hfz35_30 := blk_frozen BK401.out 30; have hfz35_31 := blk_frozen BK401.out 31; obtain ⟨Ao36, co36, eo36⟩ := Kd.R_slice HO303.out; subst eo36) | ((with_reducible refine gate_store (t := 41) (p := 2) rfl ?_); refine store_all rfl 41 (.tmp 2) _ rfl gb401 #[.string (⟨#[80, 111, 100]⟩ : ByteArray), .string (⟨#[120]⟩ : ByteArray), .string t294, .int .i64 0, .int .i64 0, .int .i64 0, .int .i64 0, .bool false, .int .i64 0, .slice Ao36 t301.length co36, .slice none 0 0, .slice none 0 0, .slice none 0 0, .string (⟨#[]⟩ : ByteArray), .int .i64 0, .int .i64 0, .int .i64 0, .slice none 0 0, .slice none 0 0, .slice none 0 0, .slice none 0 0, .slice none 0 0, .slice none 0 0, .int .i64 0, .bool false, .int .i64 0, .int .i64 0, .int .i64 0, .slice none 0 0, .int .i64 0, .string (⟨#[]⟩ : ByteArray), .string (⟨#[]⟩ : ByteArray)] rfl rfl 41 _ (s_k BK401.out) sz41 rfl (by first | rfl | simp [Value.oneCell']) rfl ?_; intro w37 hnb hgr; have n0_ := s_a (s_g HB.out hgr GE401.out); have n1_ := s_a (Kd.R_mono (Kd.R_grown (Kd.R_types HO249.out BK401.out (by decide)) hgr (fun _ hk_ => some_ne hk_.2)) (fun _ hk_ => hk_.1)); have n2_ := s_a (Kd.R_mono (Kd.R_grown (Kd.R_types HO303.out BK401.out (by decide)) hgr (fun _ hk_ => some_ne hk_.2)) (fun _ hk_ => hk_.1)); have n3_ := s_a (Kd.R_mono (Kd.R_grown (Kd.R_types HO357.out BK401.out (by decide)) hgr (fun _ hk_ => some_ne hk_.2)) (fun _ hk_ => hk_.1)); have n4_ := s_a (blk_grown (s_k BK400.out) hgr (some_ne NB400_401.out)); have n5_ := s_a (blk_grown (s_k BK402.out) hgr (some_ne NB402_401.out)); clear HB; clear HO249; clear HO303; clear HO357; clear BK400; clear BK402; have HB := n0_; have HO249 := n1_; have HO303 := n2_; have HO357 := n3_; have BK400 := n4_; have BK402 := n5_; clear n0_ n1_ n2_ n3_ n4_ n5_; replace BK401 := s_a (hnb); clear hnb hgr; obtain ⟨hcz38_0, hcz38_1, hcz38_2, hcz38_3, hcz38_4, hcz38_5, hcz38_6, hcz38_7, hcz38_8, hcz38_9, hcz38_10, hcz38_11, hcz38_12, hcz38_13, hcz38_14, hcz38_15, hcz38_16, hcz38_17, hcz38_18, hcz38_19, hcz38_20, hcz38_21, hcz38_22, hcz38_23, hcz38_24, hcz38_25, hcz38_26, hcz38_27, hcz38_28, hcz38_29, hcz38_30, hcz38_31⟩ := cells41 BK402.out; have hfz38_0 := blk_frozen BK402.out 0; have hfz38_1 := blk_frozen BK402.out 1; have hfz38_2 := blk_frozen BK402.out 2; have hfz38_3 := blk_frozen BK402.out 3; have hfz38_4 := blk_frozen BK402.out 4; have hfz38_5 := blk_frozen BK402.out 5; have hfz38_6 := blk_frozen BK402.out 6; have hfz38_7 := blk_frozen BK402.out 7; have hfz38_8 := blk_frozen BK402.out 8; have hfz38_9 := blk_frozen BK402.out 9; have hfz38_10 := blk_frozen BK402.out 10; have hfz38_11 := blk_frozen BK402.out 11; have hfz38_12 := blk_frozen BK402.out 12; have hfz38_13 := blk_frozen BK402.out 13; have hfz38_14 := blk_frozen BK402.out 14; have hfz38_15 := blk_frozen BK402.out 15; have hfz38_16 := blk_frozen BK402.out 16; have hfz38_17 := blk_frozen BK402.out 17; have hfz38_18 := blk_frozen BK402.out 18; have hfz38_19 := blk_frozen BK402.out 19; have hfz38_20 := blk_frozen BK402.out 20; have hfz38_21 := blk_frozen BK402.out 21; have hfz38_22 := blk_frozen BK402.out 22; have hfz38_23 := blk_frozen BK402.out 23; have hfz38_24 := blk_frozen BK402.out 24; have hfz38_25 := blk_frozen BK402.out 25; have hfz38_26 := blk_frozen BK402.out 26; have hfz38_27 := blk_frozen BK402.out 27; have hfz38_28 := blk_frozen BK402.out 28; have hfz38_29 := blk_frozen BK402.out 29; have hfz38_30 := blk_frozen BK402.out 30; have hfz38_31 := blk_frozen BK402.out 31; obtain ⟨Ao39, co39, eo39⟩ := Kd.R_slice HO357.out; subst eo39) | ((with_reducible refine gate_store (t := 41) (p := 3) rfl ?_); refine store_all rfl 41 (.tmp 3) _ rfl gb402 #[.string (⟨#[80, 111, 100]⟩ : ByteArray), .string (⟨#[120]⟩ : ByteArray), .string t348, .int .i64 0, .int .i64 0, .int .i64 0, .int .i64 0, .bool false, .int .i64 0, .slice Ao39 t355.length co39, .slice none 0 0, .slice none 0 0, .slice none 0 0, .string (⟨#[]⟩ : ByteArray), .int .i64 0, .int .i64 0, .int .i64 0, .slice none 0 0, .slice none 0 0, .slice none 0 0, .slice none 0 0, .slice none 0 0, .slice none 0 0, .int .i64 0, .bool false, .int .i64 0, .int .i64 0, .int .i64 0, .slice none 0 0, .int .i64 0, .string (⟨#[]⟩ : ByteArray), .string (⟨#[]⟩ : ByteArray)] rfl rfl 41 _ (s_k BK402.out) sz41 rfl (by first | rfl | simp [Value.oneCell']) rfl ?_; intro w40 hnb hgr; have n0_ := s_a (s_g HB.out hgr GE402.out); have n1_ := s_a (Kd.R_mono (Kd.R_grown (Kd.R_types HO249.out BK402.out (by decide)) hgr (fun _ hk_ => some_ne hk_.2)) (fun _ hk_ => hk_.1)); have n2_ := s_a (Kd.R_mono (Kd.R_grown (Kd.R_types HO303.out BK402.out (by decide)) hgr (fun _ hk_ => some_ne hk_.2)) (fun _ hk_ => hk_.1)); have n3_ := s_a (Kd.R_mono (Kd.R_grown (Kd.R_types HO357.out BK402.out (by decide)) hgr (fun _ hk_ => some_ne hk_.2)) (fun _ hk_ => hk_.1)); have n4_ := s_a (blk_grown (s_k BK400.out) hgr (some_ne NB400_402.out)); have n5_ := s_a (blk_grown (s_k BK401.out) hgr (some_ne NB401_402.out)); clear HB; clear HO249; clear HO303; clear HO357; clear BK400; clear BK401; have HB := n0_; have HO249 := n1_; have HO303 := n2_; have HO357 := n3_; have BK400 := n4_; have BK401 := n5_; clear n0_ n1_ n2_ n3_ n4_ n5_; replace BK402 := s_a (hnb); clear hnb hgr) | ((with_reducible refine gate_callee (f := 17) rfl ?_); refine goesL_ (some 9) rfl rfl Try.func17 (by kernel_rfl) rfl #[.string (⟨#[100, 98]⟩ : ByteArray)] rfl (by (try simp only [List.map_toArray, List.map_cons, List.map_nil]); first | done | rfl | (simp only [List.length_drop, List.length_take]; rfl)) ?_; (with_reducible refine (orchestratorlaw57_app.calls _ _ _ A4.out).mono ?_); rintro e w41 ⟨v404, rfl, ho0, hb⟩; refine ⟨_, rfl, ?_⟩; have HO405 := s_a (Kd.N_lower (Kd.N_mono (ok' := fun k_ => some k_ ≠ (.slice Ao32 t247.length co32 : Value).ownBlock ∧ some k_ ≠ (.slice Ao36 t301.length co36 : Value).ownBlock ∧ some k_ ≠ (.slice Ao39 t355.length co39 : Value).ownBlock ∧ k_ ≠ gb400 ∧ k_ ≠ gb401 ∧ k_ ≠ gb402) ho0 (fun k_ hk_ => ⟨(Kd.fresh' (Kd.R_lt (by exact s_R (HO249.out))) k_ hk_), (Kd.fresh' (Kd.R_lt (by exact s_R (HO303.out))) k_ hk_), (Kd.fresh' (Kd.R_lt (by exact s_R (HO357.out))) k_ hk_), (Kd.freshB (s_k BK400.out) k_ hk_), (Kd.freshB (s_k BK401.out) k_ hk_), (Kd.freshB (s_k BK402.out) k_ hk_)⟩)) (below_size (by exact s_b HB.out))); replace HO249 := s_a (Kd.R_below (by exact s_R (HO249.out)) hb); replace HO303 := s_a (Kd.R_below (by exact s_R (HO303.out)) hb); replace HO357 := s_a (Kd.R_below (by exact s_R (HO357.out)) hb); replace BK400 := s_a (blk_below (s_k BK400.out) hb); replace BK401 := s_a (blk_below (s_k BK401.out) hb); replace BK402 := s_a (blk_below (s_k BK402.out) hb); replace HB := s_a (below_step (by exact s_b HB.out) hb); (try clear hb); (try clear ho0)) | ((with_reducible refine gate_callee (f := 17) rfl ?_); refine goesL_ (some 10) rfl rfl Try.func17 (by kernel_rfl) rfl #[.string (⟨#[119, 101, 98]⟩ : ByteArray)] rfl (by (try simp only [List.map_toArray, List.map_cons, List.map_nil]); first | done | rfl | (simp only [List.length_drop, List.length_take]; rfl)) ?_; (with_reducible refine (orchestratorlaw57_app.calls _ _ _ A5.out).mono ?_); rintro e w42 ⟨v407, rfl, ho0, hb⟩; refine ⟨_, rfl, ?_⟩; have HO408 := s_a (Kd.N_lower (Kd.N_mono (ok' := fun k_ => some k_ ≠ (.slice Ao32 t247.length co32 : Value).ownBlock ∧ some k_ ≠ (.slice Ao36 t301.length co36 : Value).ownBlock ∧ some k_ ≠ (.slice Ao39 t355.length co39 : Value).ownBlock ∧ some k_ ≠ (v404 : Value).ownBlock ∧ k_ ≠ gb400 ∧ k_ ≠ gb401 ∧ k_ ≠ gb402) ho0 (fun k_ hk_ => ⟨(Kd.fresh' (Kd.R_lt (by exact s_R (HO249.out))) k_ hk_), (Kd.fresh' (Kd.R_lt (by exact s_R (HO303.out))) k_ hk_), (Kd.fresh' (Kd.R_lt (by exact s_R (HO357.out))) k_ hk_), (Kd.fresh' (Kd.N_lt (by exact s_N (HO405.out))) k_ hk_), (Kd.freshB (s_k BK400.out) k_ hk_), (Kd.freshB (s_k BK401.out) k_ hk_), (Kd.freshB (s_k BK402.out) k_ hk_)⟩)) (below_size (by exact s_b HB.out))); replace HO249 := s_a (Kd.R_below (by exact s_R (HO249.out)) hb); replace HO303 := s_a (Kd.R_below (by exact s_R (HO303.out)) hb); replace HO357 := s_a (Kd.R_below (by exact s_R (HO357.out)) hb); replace HO405 := s_a (Kd.N_elder' (by exact s_N (HO405.out)) (Kd.N_base ho0) hb); replace BK400 := s_a (blk_below (s_k BK400.out) hb); replace BK401 := s_a (blk_below (s_k BK401.out) hb); replace BK402 := s_a (blk_below (s_k BK402.out) hb); replace HB := s_a (below_step (by exact s_b HB.out) hb); (try clear hb); (try clear ho0); obtain ⟨Ao43, co43, eo43⟩ := Kd.N_slice HO408.out; subst eo43) | ((with_reducible refine gate_dst (N := 12) rfl ?_); (try (refine gate_guard (by rfl) ?_; dsimp only)); refine Kd.N_lit k64 _ 64 ?hg (N' := 12) ?hd (xs := ([(⟨(⟨#[]⟩ : ByteArray), t406⟩ : S64)] : List (S64))) (inner := [.string (⟨#[]⟩ : ByteArray), .slice Ao43 t406.length co43]) (ok := (fun k_ => some k_ ≠ (.slice Ao32 t247.length co32 : Value).ownBlock ∧ some k_ ≠ (.slice Ao36 t301.length co36 : Value).ownBlock ∧ some k_ ≠ (.slice Ao39 t355.length co39 : Value).ownBlock ∧ some k_ ≠ (v404 : Value).ownBlock ∧ k_ ≠ gb400 ∧ k_ ≠ gb401 ∧ k_ ≠ gb402)) (okp := (fun k_ => some k_ ≠ (.slice Ao32 t247.length co32 : Value).ownBlock ∧ some k_ ≠ (.slice Ao36 t301.length co36 : Value).ownBlock ∧ some k_ ≠ (.slice Ao39 t355.length co39 : Value).ownBlock ∧ some k_ ≠ (v404 : Value).ownBlock ∧ k_ ≠ gb400 ∧ k_ ≠ gb401 ∧ k_ ≠ gb402)) ?hr ?hp (fun _ hk => hk) ((show ∀ k_, w42.heap.size ≤ k_ → (fun k_ => some k_ ≠ (.slice Ao32 t247.length co32 : Value).ownBlock ∧ some k_ ≠ (.slice Ao36 t301.length co36 : Value).ownBlock ∧ some k_ ≠ (.slice Ao39 t355.length co39 : Value).ownBlock ∧ some k_ ≠ (v404 : Value).ownBlock ∧ k_ ≠ gb400 ∧ k_ ≠ gb401 ∧ k_ ≠ gb402) k_ from fun k_ hk => ⟨Kd.fresh' (Kd.R_lt (by exact s_R (HO249.out))) k_ hk, Kd.fresh' (Kd.R_lt (by exact s_R (HO303.out))) k_ hk, Kd.fresh' (Kd.R_lt (by exact s_R (HO357.out))) k_ hk, Kd.fresh' (Kd.N_lt (by exact s_N (HO405.out))) k_ hk, Kd.freshB (s_k BK400.out) k_ hk, Kd.freshB (s_k BK401.out) k_ hk, Kd.freshB (s_k BK402.out) k_ hk⟩) _ (Nat.le_refl _)) (Below.refl _ _) (Nat.le_refl _) (by simp) ?_; (case hd => rfl); (case hg => rfl); (case hr => first | (go_simp; done) | (go_simp; rfl)); (case hp => exact (Reps.c2 (show Kd.FK k64 _ _ (⟨(⟨#[]⟩ : ByteArray), t406⟩ : S64) [.string (⟨#[]⟩ : ByteArray), .slice Ao43 t406.length co43] from (k64_mkF _ _ (⟨(⟨#[]⟩ : ByteArray), t406⟩ : S64) (Kd.N_reads' (Kd.N_mono (ok' := (fun k_ => some k_ ≠ (.slice Ao32 t247.length co32 : Value).ownBlock ∧ some k_ ≠ (.slice Ao36 t301.length co36 : Value).ownBlock ∧ some k_ ≠ (.slice Ao39 t355.length co39 : Value).ownBlock ∧ some k_ ≠ (v404 : Value).ownBlock ∧ k_ ≠ gb400 ∧ k_ ≠ gb401 ∧ k_ ≠ gb402)) (HO408.out) (fun k_ hk => ⟨hk.1, ⟨hk.2.1, ⟨hk.2.2.1, ⟨hk.2.2.2.1, ⟨hk.2.2.2.2.1, ⟨hk.2.2.2.2.2.1, hk.2.2.2.2.2.2⟩⟩⟩⟩⟩⟩))).2.1 (Kd.N_F (Kd.N_mono (ok' := (fun k_ => some k_ ≠ (.slice Ao32 t247.length co32 : Value).ownBlock ∧ some k_ ≠ (.slice Ao36 t301.length co36 : Value).ownBlock ∧ some k_ ≠ (.slice Ao39 t355.length co39 : Value).ownBlock ∧ some k_ ≠ (v404 : Value).ownBlock ∧ k_ ≠ gb400 ∧ k_ ≠ gb401 ∧ k_ ≠ gb402)) (HO408.out) (fun k_ hk => ⟨hk.1, ⟨hk.2.1, ⟨hk.2.2.1, ⟨hk.2.2.2.1, ⟨hk.2.2.2.2.1, ⟨hk.2.2.2.2.2.1, hk.2.2.2.2.2.2⟩⟩⟩⟩⟩⟩))))) (Reps.none _ _))); intro v410 w44 ho45 hb hg_ hnew_; clear hg_ hnew_; (first | rw [← Ny409.out] at ho45 | (simp only [Int.reduceToNat] at ho45; rw [← Ny409.out] at ho45)); have n0_ := s_a (Kd.N_lower ho45 (below_size (by exact s_b HB.out))); clear HO408; have HO411 := n0_; clear n0_; replace HO249 := s_a (Kd.R_below (by exact s_R (HO249.out)) hb); replace HO303 := s_a (Kd.R_below (by exact s_R (HO303.out)) hb); replace HO357 := s_a (Kd.R_below (by exact s_R (HO357.out)) hb); replace HO405 := s_a (Kd.N_elder' (by exact s_N (HO405.out)) (Kd.N_base ho45) hb); replace BK400 := s_a (blk_below (s_k BK400.out) hb); replace BK401 := s_a (blk_below (s_k BK401.out) hb); replace BK402 := s_a (blk_below (s_k BK402.out) hb); replace HB := s_a (below_step (by exact s_b HB.out) hb); clear hb ho45) | ((with_reducible refine gate_dst (N := 13) rfl ?_); (try (refine gate_guard (by rfl) ?_; dsimp only)); refine Kd.R_lit (Kd.int .i64) _ 3 ?hg (N := 13) ?hd (xs := ([5432] : List Int)) (inner := [.int .i64 5432]) (ok := fun _ => True) (okp := fun _ => True) ?hr ?hp (fun _ hk => hk) trivial (Below.refl _ _) (Nat.le_refl _) (by simp) ?_; (case hd => rfl); (case hg => rfl); (case hr => first | (go_simp; done) | (go_simp; rfl)); (case hp => exact (Reps.one (show Kd.M (Kd.int .i64) _ _ _ 5432 [.int .i64 5432] from rfl) (Reps.none _ _))); intro v413 w46 ho47 hb hg_ hnew_; clear hg_ hnew_; (first | rw [← Ny412.out] at ho47 | (simp only [Int.reduceToNat] at ho47; rw [← Ny412.out] at ho47)); have HO414 := s_a (Kd.R_lower ho47 (below_size (by exact s_b HB.out))); replace HO249 := s_a (Kd.R_below (by exact s_R (HO249.out)) hb); replace HO303 := s_a (Kd.R_below (by exact s_R (HO303.out)) hb); replace HO357 := s_a (Kd.R_below (by exact s_R (HO357.out)) hb); replace HO405 := s_a (Kd.N_elder' (by exact s_N (HO405.out)) (Kd.R_base ho47) hb); replace HO411 := s_a (Kd.N_elder' (by exact s_N (HO411.out)) (Kd.R_base ho47) hb); replace BK400 := s_a (blk_below (s_k BK400.out) hb); replace BK401 := s_a (blk_below (s_k BK401.out) hb); replace BK402 := s_a (blk_below (s_k BK402.out) hb); replace HB := s_a (below_step (by exact s_b HB.out) hb); clear hb ho47; obtain ⟨Ao48, co48, eo48⟩ := Kd.R_slice HO414.out; subst eo48; obtain ⟨Ao49, co49, eo49⟩ := Kd.N_slice HO411.out; subst eo49) | ((with_reducible refine gate_dst (N := 15) rfl ?_); (try (refine gate_guard (by rfl) ?_; dsimp only)); refine Kd.N_lit k58 _ 58 ?hg (N' := 15) ?hd (xs := ([(⟨false, y409, y412⟩ : S58)] : List (S58))) (inner := [.bool false, .slice Ao49 y409.length co49, .slice Ao48 y412.length co48]) (ok := (fun k_ => some k_ ≠ (.slice Ao32 t247.length co32 : Value).ownBlock ∧ some k_ ≠ (.slice Ao36 t301.length co36 : Value).ownBlock ∧ some k_ ≠ (.slice Ao39 t355.length co39 : Value).ownBlock ∧ some k_ ≠ (v404 : Value).ownBlock ∧ k_ ≠ gb400 ∧ k_ ≠ gb401 ∧ k_ ≠ gb402)) (okp := (fun k_ => some k_ ≠ (.slice Ao32 t247.length co32 : Value).ownBlock ∧ some k_ ≠ (.slice Ao36 t301.length co36 : Value).ownBlock ∧ some k_ ≠ (.slice Ao39 t355.length co39 : Value).ownBlock ∧ some k_ ≠ (v404 : Value).ownBlock ∧ k_ ≠ gb400 ∧ k_ ≠ gb401 ∧ k_ ≠ gb402)) ?hr ?hp (fun _ hk => hk) ((show ∀ k_, w46.heap.size ≤ k_ → (fun k_ => some k_ ≠ (.slice Ao32 t247.length co32 : Value).ownBlock ∧ some k_ ≠ (.slice Ao36 t301.length co36 : Value).ownBlock ∧ some k_ ≠ (.slice Ao39 t355.length co39 : Value).ownBlock ∧ some k_ ≠ (v404 : Value).ownBlock ∧ k_ ≠ gb400 ∧ k_ ≠ gb401 ∧ k_ ≠ gb402) k_ from fun k_ hk => ⟨Kd.fresh' (Kd.R_lt (by exact s_R (HO249.out))) k_ hk, Kd.fresh' (Kd.R_lt (by exact s_R (HO303.out))) k_ hk, Kd.fresh' (Kd.R_lt (by exact s_R (HO357.out))) k_ hk, Kd.fresh' (Kd.N_lt (by exact s_N (HO405.out))) k_ hk, Kd.freshB (s_k BK400.out) k_ hk, Kd.freshB (s_k BK401.out) k_ hk, Kd.freshB (s_k BK402.out) k_ hk⟩) _ (Nat.le_refl _)) (Below.refl _ _) (Nat.le_refl _) (by simp) ?_; (case hd => rfl); (case hg => rfl); (case hr => first | (go_simp; done) | (go_simp; rfl)); (case hp => exact (Reps.c3 (show Kd.FK k58 _ _ (⟨false, y409, y412⟩ : S58) [.bool false, .slice Ao49 y409.length co49, .slice Ao48 y412.length co48] from (k58_mkF _ _ (⟨false, y409, y412⟩ : S58) (Kd.N_reads' (Kd.N_mono (ok' := (fun k_ => some k_ ≠ (.slice Ao32 t247.length co32 : Value).ownBlock ∧ some k_ ≠ (.slice Ao36 t301.length co36 : Value).ownBlock ∧ some k_ ≠ (.slice Ao39 t355.length co39 : Value).ownBlock ∧ some k_ ≠ (v404 : Value).ownBlock ∧ k_ ≠ gb400 ∧ k_ ≠ gb401 ∧ k_ ≠ gb402)) (HO411.out) (fun k_ hk => ⟨hk.1.1, ⟨hk.1.2.1, ⟨hk.1.2.2.1, ⟨hk.1.2.2.2.1, ⟨hk.1.2.2.2.2.1, ⟨hk.1.2.2.2.2.2.1, hk.1.2.2.2.2.2.2⟩⟩⟩⟩⟩⟩))).2.1 (Kd.N_F (Kd.N_mono (ok' := (fun k_ => some k_ ≠ (.slice Ao32 t247.length co32 : Value).ownBlock ∧ some k_ ≠ (.slice Ao36 t301.length co36 : Value).ownBlock ∧ some k_ ≠ (.slice Ao39 t355.length co39 : Value).ownBlock ∧ some k_ ≠ (v404 : Value).ownBlock ∧ k_ ≠ gb400 ∧ k_ ≠ gb401 ∧ k_ ≠ gb402)) (HO411.out) (fun k_ hk => ⟨hk.1.1, ⟨hk.1.2.1, ⟨hk.1.2.2.1, ⟨hk.1.2.2.2.1, ⟨hk.1.2.2.2.2.1, ⟨hk.1.2.2.2.2.2.1, hk.1.2.2.2.2.2.2⟩⟩⟩⟩⟩⟩))) (Kd.R_reads' (Kd.R_mono (ok' := (fun k_ => some k_ ≠ (.slice Ao32 t247.length co32 : Value).ownBlock ∧ some k_ ≠ (.slice Ao36 t301.length co36 : Value).ownBlock ∧ some k_ ≠ (.slice Ao39 t355.length co39 : Value).ownBlock ∧ some k_ ≠ (v404 : Value).ownBlock ∧ k_ ≠ gb400 ∧ k_ ≠ gb401 ∧ k_ ≠ gb402)) (Kd.R_types (Kd.R_types (Kd.R_types (Kd.R_apart' (Kd.R_apart' (Kd.R_apart' (Kd.R_apart' (HO414.out) (Kd.R_typed HO249.out) (by decide)) (Kd.R_typed HO303.out) (by decide)) (Kd.R_typed HO357.out) (by decide)) (Kd.N_typed HO405.out) (by decide)) BK400.out (by decide)) BK401.out (by decide)) BK402.out (by decide)) (fun k_ hk => ⟨hk.1.1.1.1.1.1.2, ⟨hk.1.1.1.1.1.2, ⟨hk.1.1.1.1.2, ⟨hk.1.1.1.2, ⟨hk.1.1.2, ⟨hk.1.2, hk.2⟩⟩⟩⟩⟩⟩))).2.1 (Kd.R_F (Kd.R_mono (ok' := (fun k_ => some k_ ≠ (.slice Ao32 t247.length co32 : Value).ownBlock ∧ some k_ ≠ (.slice Ao36 t301.length co36 : Value).ownBlock ∧ some k_ ≠ (.slice Ao39 t355.length co39 : Value).ownBlock ∧ some k_ ≠ (v404 : Value).ownBlock ∧ k_ ≠ gb400 ∧ k_ ≠ gb401 ∧ k_ ≠ gb402)) (Kd.R_types (Kd.R_types (Kd.R_types (Kd.R_apart' (Kd.R_apart' (Kd.R_apart' (Kd.R_apart' (HO414.out) (Kd.R_typed HO249.out) (by decide)) (Kd.R_typed HO303.out) (by decide)) (Kd.R_typed HO357.out) (by decide)) (Kd.N_typed HO405.out) (by decide)) BK400.out (by decide)) BK401.out (by decide)) BK402.out (by decide)) (fun k_ hk => ⟨hk.1.1.1.1.1.1.2, ⟨hk.1.1.1.1.1.2, ⟨hk.1.1.1.1.2, ⟨hk.1.1.1.2, ⟨hk.1.1.2, ⟨hk.1.2, hk.2⟩⟩⟩⟩⟩⟩))))) (Reps.none _ _))); intro v416 w50 ho51 hb hg_ hnew_; clear hg_ hnew_; (first | rw [← Ny415.out] at ho51 | (simp only [Int.reduceToNat] at ho51; rw [← Ny415.out] at ho51)); have n0_ := s_a (Kd.N_lower ho51 (below_size (by exact s_b HB.out))); clear HO411; clear HO414; have HO417 := n0_; clear n0_; replace HO249 := s_a (Kd.R_below (by exact s_R (HO249.out)) hb); replace HO303 := s_a (Kd.R_below (by exact s_R (HO303.out)) hb); replace HO357 := s_a (Kd.R_below (by exact s_R (HO357.out)) hb); replace HO405 := s_a (Kd.N_elder' (by exact s_N (HO405.out)) (Kd.N_base ho51) hb); replace BK400 := s_a (blk_below (s_k BK400.out) hb); replace BK401 := s_a (blk_below (s_k BK401.out) hb); replace BK402 := s_a (blk_below (s_k BK402.out) hb); replace HB := s_a (below_step (by exact s_b HB.out) hb); clear hb ho51; obtain ⟨Ao52, co52, eo52⟩ := Kd.N_slice HO417.out; subst eo52; obtain ⟨Ao53, co53, eo53⟩ := Kd.N_slice HO405.out; subst eo53) | ((with_reducible refine gate_dst (N := 17) rfl ?_); (try (refine gate_guard (by rfl) ?_; dsimp only)); refine Kd.N_lit k54 _ 54 ?hg (N' := 17) ?hd (xs := ([(⟨(⟨(⟨#[]⟩ : ByteArray), (⟨#[120]⟩ : ByteArray), (⟨#[]⟩ : ByteArray), 0, 0, 0, 0, false, 0, ([] : List (S72)), ([] : List (S110)), ([] : List ByteArray), ([] : List (S112))⟩ : S28), t403, true, false, y415⟩ : S54)] : List (S54))) (inner := [.string (⟨#[]⟩ : ByteArray), .string (⟨#[120]⟩ : ByteArray), .string (⟨#[]⟩ : ByteArray), .int .i64 0, .int .i64 0, .int .i64 0, .int .i64 0, .bool false, .int .i64 0, .slice none 0 0, .slice none 0 0, .slice none 0 0, .slice none 0 0, .slice Ao53 t403.length co53, .bool true, .bool false, .slice Ao52 y415.length co52]) (ok := (fun k_ => some k_ ≠ (.slice Ao32 t247.length co32 : Value).ownBlock ∧ some k_ ≠ (.slice Ao36 t301.length co36 : Value).ownBlock ∧ some k_ ≠ (.slice Ao39 t355.length co39 : Value).ownBlock ∧ k_ ≠ gb400 ∧ k_ ≠ gb401 ∧ k_ ≠ gb402)) (okp := (fun k_ => some k_ ≠ (.slice Ao32 t247.length co32 : Value).ownBlock ∧ some k_ ≠ (.slice Ao36 t301.length co36 : Value).ownBlock ∧ some k_ ≠ (.slice Ao39 t355.length co39 : Value).ownBlock ∧ k_ ≠ gb400 ∧ k_ ≠ gb401 ∧ k_ ≠ gb402)) ?hr ?hp (fun _ hk => hk) ((show ∀ k_, w50.heap.size ≤ k_ → (fun k_ => some k_ ≠ (.slice Ao32 t247.length co32 : Value).ownBlock ∧ some k_ ≠ (.slice Ao36 t301.length co36 : Value).ownBlock ∧ some k_ ≠ (.slice Ao39 t355.length co39 : Value).ownBlock ∧ k_ ≠ gb400 ∧ k_ ≠ gb401 ∧ k_ ≠ gb402) k_ from fun k_ hk => ⟨Kd.fresh' (Kd.R_lt (by exact s_R (HO249.out))) k_ hk, Kd.fresh' (Kd.R_lt (by exact s_R (HO303.out))) k_ hk, Kd.fresh' (Kd.R_lt (by exact s_R (HO357.out))) k_ hk, Kd.freshB (s_k BK400.out) k_ hk, Kd.freshB (s_k BK401.out) k_ hk, Kd.freshB (s_k BK402.out) k_ hk⟩) _ (Nat.le_refl _)) (Below.refl _ _) (Nat.le_refl _) (by simp) ?_; (case hd => rfl); (case hg => rfl); (case hr => first | (go_simp; done) | (go_simp; rfl)); (case hp => exact (Reps.front (show Kd.FK k54 _ _ (⟨(⟨(⟨#[]⟩ : ByteArray), (⟨#[120]⟩ : ByteArray), (⟨#[]⟩ : ByteArray), 0, 0, 0, 0, false, 0, ([] : List (S72)), ([] : List (S110)), ([] : List ByteArray), ([] : List (S112))⟩ : S28), t403, true, false, y415⟩ : S54) [.string (⟨#[]⟩ : ByteArray), .string (⟨#[120]⟩ : ByteArray), .string (⟨#[]⟩ : ByteArray), .int .i64 0, .int .i64 0, .int .i64 0, .int .i64 0, .bool false, .int .i64 0, .slice none 0 0, .slice none 0 0, .slice none 0 0, .slice none 0 0, .slice Ao53 t403.length co53, .bool true, .bool false, .slice Ao52 y415.length co52] from (k54_mkF _ _ (⟨(⟨(⟨#[]⟩ : ByteArray), (⟨#[120]⟩ : ByteArray), (⟨#[]⟩ : ByteArray), 0, 0, 0, 0, false, 0, ([] : List (S72)), ([] : List (S110)), ([] : List ByteArray), ([] : List (S112))⟩ : S28), t403, true, false, y415⟩ : S54) (Nat.le_refl _) (Kd.F_nil _ _ _) (Nat.le_refl _) (Kd.F_nil _ _ _) (Nat.le_refl _) (Kd.F_nil _ _ _) (Nat.le_refl _) (Kd.F_nil _ _ _) (Kd.N_reads' (Kd.N_mono (ok' := (fun k_ => some k_ ≠ (.slice Ao32 t247.length co32 : Value).ownBlock ∧ some k_ ≠ (.slice Ao36 t301.length co36 : Value).ownBlock ∧ some k_ ≠ (.slice Ao39 t355.length co39 : Value).ownBlock ∧ k_ ≠ gb400 ∧ k_ ≠ gb401 ∧ k_ ≠ gb402)) (HO405.out) (fun k_ hk => ⟨hk.1.1.1.1.1, ⟨hk.1.1.1.1.2.1, ⟨hk.1.1.1.1.2.2.1, ⟨hk.1.1.1.1.2.2.2.1, ⟨hk.1.1.1.1.2.2.2.2.1, hk.1.1.1.1.2.2.2.2.2⟩⟩⟩⟩⟩))).2.1 (Kd.N_F (Kd.N_mono (ok' := (fun k_ => some k_ ≠ (.slice Ao32 t247.length co32 : Value).ownBlock ∧ some k_ ≠ (.slice Ao36 t301.length co36 : Value).ownBlock ∧ some k_ ≠ (.slice Ao39 t355.length co39 : Value).ownBlock ∧ k_ ≠ gb400 ∧ k_ ≠ gb401 ∧ k_ ≠ gb402)) (HO405.out) (fun k_ hk => ⟨hk.1.1.1.1.1, ⟨hk.1.1.1.1.2.1, ⟨hk.1.1.1.1.2.2.1, ⟨hk.1.1.1.1.2.2.2.1, ⟨hk.1.1.1.1.2.2.2.2.1, hk.1.1.1.1.2.2.2.2.2⟩⟩⟩⟩⟩))) (Kd.N_reads' (Kd.N_mono (ok' := (fun k_ => some k_ ≠ (.slice Ao32 t247.length co32 : Value).ownBlock ∧ some k_ ≠ (.slice Ao36 t301.length co36 : Value).ownBlock ∧ some k_ ≠ (.slice Ao39 t355.length co39 : Value).ownBlock ∧ k_ ≠ gb400 ∧ k_ ≠ gb401 ∧ k_ ≠ gb402)) (HO417.out) (fun k_ hk => ⟨hk.1, ⟨hk.2.1, ⟨hk.2.2.1, ⟨hk.2.2.2.2.1, ⟨hk.2.2.2.2.2.1, hk.2.2.2.2.2.2⟩⟩⟩⟩⟩))).2.1 (Kd.N_F (Kd.N_mono (ok' := (fun k_ => some k_ ≠ (.slice Ao32 t247.length co32 : Value).ownBlock ∧ some k_ ≠ (.slice Ao36 t301.length co36 : Value).ownBlock ∧ some k_ ≠ (.slice Ao39 t355.length co39 : Value).ownBlock ∧ k_ ≠ gb400 ∧ k_ ≠ gb401 ∧ k_ ≠ gb402)) (HO417.out) (fun k_ hk => ⟨hk.1, ⟨hk.2.1, ⟨hk.2.2.1, ⟨hk.2.2.2.2.1, ⟨hk.2.2.2.2.2.1, hk.2.2.2.2.2.2⟩⟩⟩⟩⟩))))) rfl (Reps.none _ _) rfl)); intro v419 w54 ho55 hb hg_ hnew_; clear hg_ hnew_; (first | rw [← Ny418.out] at ho55 | (simp only [Int.reduceToNat] at ho55; rw [← Ny418.out] at ho55)); have n0_ := s_a (Kd.N_lower ho55 (below_size (by exact s_b HB.out))); clear HO405; clear HO417; have HO420 := n0_; clear n0_; replace HO249 := s_a (Kd.R_below (by exact s_R (HO249.out)) hb); replace HO303 := s_a (Kd.R_below (by exact s_R (HO303.out)) hb); replace HO357 := s_a (Kd.R_below (by exact s_R (HO357.out)) hb); replace BK400 := s_a (blk_below (s_k BK400.out) hb); replace BK401 := s_a (blk_below (s_k BK401.out) hb); replace BK402 := s_a (blk_below (s_k BK402.out) hb); replace HB := s_a (below_step (by exact s_b HB.out) hb); clear hb ho55) | ((with_reducible refine gate_dst (N := 19) rfl ?_); (try (refine gate_guard (by rfl) ?_; dsimp only)); refine wpList_load_row rfl 41 (.tmp 1) rfl gb400 rfl 41 _ (0, 0) _ (s_k BK400.out) Try.underlying41 rfl sz41 ?_; obtain ⟨Ao56, co56, eo56⟩ := Kd.N_slice HO420.out; subst eo56) | ((with_reducible refine gate_callee (f := 9) rfl ?_); refine goesL_ (some 20) rfl rfl Try.func9 (by kernel_rfl) rfl #[.slice Ao56 y418.length co56, .agg #[.string (⟨#[80, 111, 100]⟩ : ByteArray), .string (⟨#[120]⟩ : ByteArray), .string t240, .int .i64 0, .int .i64 0, .int .i64 0, .int .i64 0, .bool false, .int .i64 0, .slice Ao32 t247.length co32, .slice none 0 0, .slice none 0 0, .slice none 0 0, .string (⟨#[]⟩ : ByteArray), .int .i64 0, .int .i64 0, .int .i64 0, .slice none 0 0, .slice none 0 0, .slice none 0 0, .slice none 0 0, .slice none 0 0, .slice none 0 0, .int .i64 0, .bool false, .int .i64 0, .int .i64 0, .int .i64 0, .slice none 0 0, .int .i64 0, .string (⟨#[]⟩ : ByteArray), .string (⟨#[]⟩ : ByteArray)], .bool false] rfl (by (try simp only [List.map_toArray, List.map_cons, List.map_nil]); first | done | rfl | (simp only [List.length_drop, List.length_take]; rfl)) ?_; (refine (netpolicy_Isolated.calls k _ _ _ _ _ _ _ _ _ _ _ _ _ _ _ _ _ _ _ _ _ _ _ _ _ _ _ _ _ _ _ _ _ _ _ _ _ _ _ _ _ _ _ _ _ _ _ _ _ _ _ _ _ _ _ _ _ _ _ _ ?side1 ?side2 ?side3 ?side4 ?side5 ?side6 ?side7 ?side8 ?side9 ?side10 ?side11 ?side12 ?side13 ?side14 ?side15 ?side16 ?side17 ?side18 ?side19 ?side20 ?side21 ?side22 ?side23 ?side24 A6.out).mono ?_); (case side1 => exact s_C (Kd.N_reads' HO420.out).2.2); (case side2 => exact (Kd.N_reads' HO420.out).2.1); (case side3 => exact s_C (Kd.R_reads' HO249.out).2.2); (case side4 => exact (Kd.R_reads' HO249.out).2.1); (case side5 => exact Kd.C_nil _ _); (case side6 => exact Nat.le_refl _); (case side7 => exact Kd.C_nil _ _); (case side8 => exact Nat.le_refl _); (case side9 => exact Kd.C_nil _ _); (case side10 => exact Nat.le_refl _); (case side11 => exact Kd.C_nil _ _); (case side12 => exact Nat.le_refl _); (case side13 => exact Kd.C_nil _ _); (case side14 => exact Nat.le_refl _); (case side15 => exact Kd.C_nil _ _); (case side16 => exact Nat.le_refl _); (case side17 => exact Kd.C_nil _ _); (case side18 => exact Nat.le_refl _); (case side19 => exact Kd.C_nil _ _); (case side20 => exact Nat.le_refl _); (case side21 => exact Kd.C_nil _ _); (case side22 => exact Nat.le_refl _); (case side23 => exact Kd.C_nil _ _); (case side24 => exact Nat.le_refl _); rintro e w57 ⟨rfl, hb⟩; refine ⟨_, rfl, ?_⟩; replace HO249 := s_a (Kd.R_below (by exact s_R (HO249.out)) hb); replace HO303 := s_a (Kd.R_below (by exact s_R (HO303.out)) hb); replace HO357 := s_a (Kd.R_below (by exact s_R (HO357.out)) hb); replace HO420 := s_a (Kd.N_below (by exact s_N (HO420.out)) hb); replace BK400 := s_a (blk_below (s_k BK400.out) hb); replace BK401 := s_a (blk_below (s_k BK401.out) hb); replace BK402 := s_a (blk_below (s_k BK402.out) hb); replace HB := s_a (below_step (by exact s_b HB.out) hb); (try clear hb)) | ((with_reducible refine gate_dst (N := 23) rfl ?_); (try (refine gate_guard (by rfl) ?_; dsimp only)); refine wpList_load_row rfl 41 (.tmp 1) rfl gb400 rfl 41 _ (0, 0) _ (s_k BK400.out) Try.underlying41 rfl sz41 ?_) | (go_at_call 9; (refine (netpolicy_Isolated.calls k _ _ _ _ _ _ _ _ _ _ _ _ _ _ _ _ _ _ _ _ _ _ _ _ _ _ _ _ _ _ _ _ _ _ _ _ _ _ _ _ _ _ _ _ _ _ _ _ _ _ _ _ _ _ _ _ _ _ _ _ ?side1 ?side2 ?side3 ?side4 ?side5 ?side6 ?side7 ?side8 ?side9 ?side10 ?side11 ?side12 ?side13 ?side14 ?side15 ?side16 ?side17 ?side18 ?side19 ?side20 ?side21 ?side22 ?side23 ?side24 A8.out).mono ?_); (case side1 => exact s_C (Kd.N_reads' HO420.out).2.2); (case side2 => exact (Kd.N_reads' HO420.out).2.1); (case side3 => exact s_C (Kd.R_reads' HO249.out).2.2); (case side4 => exact (Kd.R_reads' HO249.out).2.1); (case side5 => exact Kd.C_nil _ _); (case side6 => exact Nat.le_refl _); (case side7 => exact Kd.C_nil _ _); (case side8 => exact Nat.le_refl _); (case side9 => exact Kd.C_nil _ _); (case side10 => exact Nat.le_refl _); (case side11 => exact Kd.C_nil _ _); (case side12 => exact Nat.le_refl _); (case side13 => exact Kd.C_nil _ _); (case side14 => exact Nat.le_refl _); (case side15 => exact Kd.C_nil _ _); (case side16 => exact Nat.le_refl _); (case side17 => exact Kd.C_nil _ _); (case side18 => exact Nat.le_refl _); (case side19 => exact Kd.C_nil _ _); (case side20 => exact Nat.le_refl _); (case side21 => exact Kd.C_nil _ _); (case side22 => exact Nat.le_refl _); (case side23 => exact Kd.C_nil _ _); (case side24 => exact Nat.le_refl _); rintro e w58 ⟨rfl, hb⟩; (try clear A8); replace HO249 := s_a (Kd.R_below (by exact s_R (HO249.out)) hb); replace HO303 := s_a (Kd.R_below (by exact s_R (HO303.out)) hb); replace HO357 := s_a (Kd.R_below (by exact s_R (HO357.out)) hb); replace HO420 := s_a (Kd.N_below (by exact s_N (HO420.out)) hb); replace BK400 := s_a (blk_below (s_k BK400.out) hb); replace BK401 := s_a (blk_below (s_k BK401.out) hb); replace BK402 := s_a (blk_below (s_k BK402.out) hb); replace HB := s_a (below_step (by exact s_b HB.out) hb); (try clear hb)) | ((with_reducible refine gate_dst (N := 29) rfl ?_); (try (refine gate_guard (by rfl) ?_; dsimp only)); refine wpList_load_row rfl 41 (.tmp 2) rfl gb401 rfl 41 _ (0, 0) _ (s_k BK401.out) Try.underlying41 rfl sz41 ?_) | ((with_reducible refine gate_dst (N := 30) rfl ?_); (try (refine gate_guard (by rfl) ?_; dsimp only)); refine wpList_load_row rfl 41 (.tmp 1) rfl gb400 rfl 41 _ (0, 0) _ (s_k BK400.out) Try.underlying41 rfl sz41 ?_) | (go_at_call 11; (refine (netpolicy_Allowed.calls k _ _ _ _ _ _ _ _ _ _ _ _ _ _ _ _ _ _ _ _ _ _ _ _ _ _ _ _ _ _ _ _ _ _ _ _ _ _ _ _ _ _ _ _ _ _ _ _ _ _ _ _ _ _ _ _ _ _ _ _ _ _ _ _ _ _ _ _ _ _ _ _ _ _ _ _ _ _ _ _ _ _ _ _ _ _ _ _ _ _ _ _ _ _ _ _ _ _ _ _ _ _ _ _ _ _ _ _ _ _ _ _ _ _ ?side1 ?side2 ?side3 ?side4 ?side5 ?side6 ?side7 ?side8 ?side9 ?side10 ?side11 ?side12 ?side13 ?side14 ?side15 ?side16 ?side17 ?side18 ?side19 ?side20 ?side21 ?side22 ?side23 ?side24 ?side25 ?side26 ?side27 ?side28 ?side29 ?side30 ?side31 ?side32 ?side33 ?side34 ?side35 ?side36 ?side37 ?side38 ?side39 ?side40 ?side41 ?side42 ?side43 ?side44 ?side45 ?side46 A10.out).mono ?_); (case side1 => exact s_C (Kd.N_reads' HO420.out).2.2); (case side2 => exact (Kd.N_reads' HO420.out).2.1); (case side3 => exact s_C (Kd.R_reads' HO303.out).2.2); (case side4 => exact (Kd.R_reads' HO303.out).2.1); (case side5 => exact Kd.C_nil _ _); (case side6 => exact Nat.le_refl _); (case side7 => exact Kd.C_nil _ _); (case side8 => exact Nat.le_refl _); (case side9 => exact Kd.C_nil _ _); (case side10 => exact Nat.le_refl _); (case side11 => exact Kd.C_nil _ _); (case side12 => exact Nat.le_refl _); (case side13 => exact Kd.C_nil _ _); (case side14 => exact Nat.le_refl _); (case side15 => exact Kd.C_nil _ _); (case side16 => exact Nat.le_refl _); (case side17 => exact Kd.C_nil _ _); (case side18 => exact Nat.le_refl _); (case side19 => exact Kd.C_nil _ _); (case side20 => exact Nat.le_refl _); (case side21 => exact Kd.C_nil _ _); (case side22 => exact Nat.le_refl _); (case side23 => exact Kd.C_nil _ _); (case side24 => exact Nat.le_refl _); (case side25 => exact s_C (Kd.R_reads' HO249.out).2.2); (case side26 => exact (Kd.R_reads' HO249.out).2.1); (case side27 => exact Kd.C_nil _ _); (case side28 => exact Nat.le_refl _); (case side29 => exact Kd.C_nil _ _); (case side30 => exact Nat.le_refl _); (case side31 => exact Kd.C_nil _ _); (case side32 => exact Nat.le_refl _); (case side33 => exact Kd.C_nil _ _); (case side34 => exact Nat.le_refl _); (case side35 => exact Kd.C_nil _ _); (case side36 => exact Nat.le_refl _); (case side37 => exact Kd.C_nil _ _); (case side38 => exact Nat.le_refl _); (case side39 => exact Kd.C_nil _ _); (case side40 => exact Nat.le_refl _); (case side41 => exact Kd.C_nil _ _); (case side42 => exact Nat.le_refl _); (case side43 => exact Kd.C_nil _ _); (case side44 => exact Nat.le_refl _); (case side45 => exact Kd.C_nil _ _); (case side46 => exact Nat.le_refl _); rintro e w59 ⟨rfl, hb⟩; (try clear A10); replace HO249 := s_a (Kd.R_below (by exact s_R (HO249.out)) hb); replace HO303 := s_a (Kd.R_below (by exact s_R (HO303.out)) hb); replace HO357 := s_a (Kd.R_below (by exact s_R (HO357.out)) hb); replace HO420 := s_a (Kd.N_below (by exact s_N (HO420.out)) hb); replace BK400 := s_a (blk_below (s_k BK400.out) hb); replace BK401 := s_a (blk_below (s_k BK401.out) hb); replace BK402 := s_a (blk_below (s_k BK402.out) hb); replace HB := s_a (below_step (by exact s_b HB.out) hb); (try clear hb)) | ((with_reducible refine gate_dst (N := 35) rfl ?_); (try (refine gate_guard (by rfl) ?_; dsimp only)); refine wpList_load_row rfl 41 (.tmp 2) rfl gb401 rfl 41 _ (0, 0) _ (s_k BK401.out) Try.underlying41 rfl sz41 ?_) | ((with_reducible refine gate_dst (N := 36) rfl ?_); (try (refine gate_guard (by rfl) ?_; dsimp only)); refine wpList_load_row rfl 41 (.tmp 1) rfl gb400 rfl 41 _ (0, 0) _ (s_k BK400.out) Try.underlying41 rfl sz41 ?_) | (go_at_call 11; (refine (netpolicy_Allowed.calls k _ _ _ _ _ _ _ _ _ _ _ _ _ _ _ _ _ _ _ _ _ _ _ _ _ _ _ _ _ _ _ _ _ _ _ _ _ _ _ _ _ _ _ _ _ _ _ _ _ _ _ _ _ _ _ _ _ _ _ _ _ _ _ _ _ _ _ _ _ _ _ _ _ _ _ _ _ _ _ _ _ _ _ _ _ _ _ _ _ _ _ _ _ _ _ _ _ _ _ _ _ _ _ _ _ _ _ _ _ _ _ _ _ _ ?side1 ?side2 ?side3 ?side4 ?side5 ?side6 ?side7 ?side8 ?side9 ?side10 ?side11 ?side12 ?side13 ?side14 ?side15 ?side16 ?side17 ?side18 ?side19 ?side20 ?side21 ?side22 ?side23 ?side24 ?side25 ?side26 ?side27 ?side28 ?side29 ?side30 ?side31 ?side32 ?side33 ?side34 ?side35 ?side36 ?side37 ?side38 ?side39 ?side40 ?side41 ?side42 ?side43 ?side44 ?side45 ?side46 A12.out).mono ?_); (case side1 => exact s_C (Kd.N_reads' HO420.out).2.2); (case side2 => exact (Kd.N_reads' HO420.out).2.1); (case side3 => exact s_C (Kd.R_reads' HO303.out).2.2); (case side4 => exact (Kd.R_reads' HO303.out).2.1); (case side5 => exact Kd.C_nil _ _); (case side6 => exact Nat.le_refl _); (case side7 => exact Kd.C_nil _ _); (case side8 => exact Nat.le_refl _); (case side9 => exact Kd.C_nil _ _); (case side10 => exact Nat.le_refl _); (case side11 => exact Kd.C_nil _ _); (case side12 => exact Nat.le_refl _); (case side13 => exact Kd.C_nil _ _); (case side14 => exact Nat.le_refl _); (case side15 => exact Kd.C_nil _ _); (case side16 => exact Nat.le_refl _); (case side17 => exact Kd.C_nil _ _); (case side18 => exact Nat.le_refl _); (case side19 => exact Kd.C_nil _ _); (case side20 => exact Nat.le_refl _); (case side21 => exact Kd.C_nil _ _); (case side22 => exact Nat.le_refl _); (case side23 => exact Kd.C_nil _ _); (case side24 => exact Nat.le_refl _); (case side25 => exact s_C (Kd.R_reads' HO249.out).2.2); (case side26 => exact (Kd.R_reads' HO249.out).2.1); (case side27 => exact Kd.C_nil _ _); (case side28 => exact Nat.le_refl _); (case side29 => exact Kd.C_nil _ _); (case side30 => exact Nat.le_refl _); (case side31 => exact Kd.C_nil _ _); (case side32 => exact Nat.le_refl _); (case side33 => exact Kd.C_nil _ _); (case side34 => exact Nat.le_refl _); (case side35 => exact Kd.C_nil _ _); (case side36 => exact Nat.le_refl _); (case side37 => exact Kd.C_nil _ _); (case side38 => exact Nat.le_refl _); (case side39 => exact Kd.C_nil _ _); (case side40 => exact Nat.le_refl _); (case side41 => exact Kd.C_nil _ _); (case side42 => exact Nat.le_refl _); (case side43 => exact Kd.C_nil _ _); (case side44 => exact Nat.le_refl _); (case side45 => exact Kd.C_nil _ _); (case side46 => exact Nat.le_refl _); rintro e w60 ⟨rfl, hb⟩; (try clear A12); replace HO249 := s_a (Kd.R_below (by exact s_R (HO249.out)) hb); replace HO303 := s_a (Kd.R_below (by exact s_R (HO303.out)) hb); replace HO357 := s_a (Kd.R_below (by exact s_R (HO357.out)) hb); replace HO420 := s_a (Kd.N_below (by exact s_N (HO420.out)) hb); replace BK400 := s_a (blk_below (s_k BK400.out) hb); replace BK401 := s_a (blk_below (s_k BK401.out) hb); replace BK402 := s_a (blk_below (s_k BK402.out) hb); replace HB := s_a (below_step (by exact s_b HB.out) hb); (try clear hb)) | ((with_reducible refine gate_dst (N := 42) rfl ?_); (try (refine gate_guard (by rfl) ?_; dsimp only)); refine wpList_load_row rfl 41 (.tmp 3) rfl gb402 rfl 41 _ (0, 0) _ (s_k BK402.out) Try.underlying41 rfl sz41 ?_) | ((with_reducible refine gate_dst (N := 43) rfl ?_); (try (refine gate_guard (by rfl) ?_; dsimp only)); refine wpList_load_row rfl 41 (.tmp 1) rfl gb400 rfl 41 _ (0, 0) _ (s_k BK400.out) Try.underlying41 rfl sz41 ?_) | (go_at_call 11; (refine (netpolicy_Allowed.calls k _ _ _ _ _ _ _ _ _ _ _ _ _ _ _ _ _ _ _ _ _ _ _ _ _ _ _ _ _ _ _ _ _ _ _ _ _ _ _ _ _ _ _ _ _ _ _ _ _ _ _ _ _ _ _ _ _ _ _ _ _ _ _ _ _ _ _ _ _ _ _ _ _ _ _ _ _ _ _ _ _ _ _ _ _ _ _ _ _ _ _ _ _ _ _ _ _ _ _ _ _ _ _ _ _ _ _ _ _ _ _ _ _ _ ?side1 ?side2 ?side3 ?side4 ?side5 ?side6 ?side7 ?side8 ?side9 ?side10 ?side11 ?side12 ?side13 ?side14 ?side15 ?side16 ?side17 ?side18 ?side19 ?side20 ?side21 ?side22 ?side23 ?side24 ?side25 ?side26 ?side27 ?side28 ?side29 ?side30 ?side31 ?side32 ?side33 ?side34 ?side35 ?side36 ?side37 ?side38 ?side39 ?side40 ?side41 ?side42 ?side43 ?side44 ?side45 ?side46 A14.out).mono ?_); (case side1 => exact s_C (Kd.N_reads' HO420.out).2.2); (case side2 => exact (Kd.N_reads' HO420.out).2.1); (case side3 => exact s_C (Kd.R_reads' HO357.out).2.2); (case side4 => exact (Kd.R_reads' HO357.out).2.1); (case side5 => exact Kd.C_nil _ _); (case side6 => exact Nat.le_refl _); (case side7 => exact Kd.C_nil _ _); (case side8 => exact Nat.le_refl _); (case side9 => exact Kd.C_nil _ _); (case side10 => exact Nat.le_refl _); (case side11 => exact Kd.C_nil _ _); (case side12 => exact Nat.le_refl _); (case side13 => exact Kd.C_nil _ _); (case side14 => exact Nat.le_refl _); (case side15 => exact Kd.C_nil _ _); (case side16 => exact Nat.le_refl _); (case side17 => exact Kd.C_nil _ _); (case side18 => exact Nat.le_refl _); (case side19 => exact Kd.C_nil _ _); (case side20 => exact Nat.le_refl _); (case side21 => exact Kd.C_nil _ _); (case side22 => exact Nat.le_refl _); (case side23 => exact Kd.C_nil _ _); (case side24 => exact Nat.le_refl _); (case side25 => exact s_C (Kd.R_reads' HO249.out).2.2); (case side26 => exact (Kd.R_reads' HO249.out).2.1); (case side27 => exact Kd.C_nil _ _); (case side28 => exact Nat.le_refl _); (case side29 => exact Kd.C_nil _ _); (case side30 => exact Nat.le_refl _); (case side31 => exact Kd.C_nil _ _); (case side32 => exact Nat.le_refl _); (case side33 => exact Kd.C_nil _ _); (case side34 => exact Nat.le_refl _); (case side35 => exact Kd.C_nil _ _); (case side36 => exact Nat.le_refl _); (case side37 => exact Kd.C_nil _ _); (case side38 => exact Nat.le_refl _); (case side39 => exact Kd.C_nil _ _); (case side40 => exact Nat.le_refl _); (case side41 => exact Kd.C_nil _ _); (case side42 => exact Nat.le_refl _); (case side43 => exact Kd.C_nil _ _); (case side44 => exact Nat.le_refl _); (case side45 => exact Kd.C_nil _ _); (case side46 => exact Nat.le_refl _); rintro e w61 ⟨rfl, hb⟩; (try clear A14); replace HO249 := s_a (Kd.R_below (by exact s_R (HO249.out)) hb); replace HO303 := s_a (Kd.R_below (by exact s_R (HO303.out)) hb); replace HO357 := s_a (Kd.R_below (by exact s_R (HO357.out)) hb); replace HO420 := s_a (Kd.N_below (by exact s_N (HO420.out)) hb); replace BK400 := s_a (blk_below (s_k BK400.out) hb); replace BK401 := s_a (blk_below (s_k BK401.out) hb); replace BK402 := s_a (blk_below (s_k BK402.out) hb); replace HB := s_a (below_step (by exact s_b HB.out) hb); (try clear hb)) | ((with_reducible refine gate_dst (N := 49) rfl ?_); (try (refine gate_guard (by rfl) ?_; dsimp only)); refine wpList_load_row rfl 41 (.tmp 1) rfl gb400 rfl 41 _ (0, 0) _ (s_k BK400.out) Try.underlying41 rfl sz41 ?_) | ((with_reducible refine gate_dst (N := 50) rfl ?_); (try (refine gate_guard (by rfl) ?_; dsimp only)); refine wpList_load_row rfl 41 (.tmp 2) rfl gb401 rfl 41 _ (0, 0) _ (s_k BK401.out) Try.underlying41 rfl sz41 ?_) | (go_at_call 11; (refine (netpolicy_Allowed.calls k _ _ _ _ _ _ _ _ _ _ _ _ _ _ _ _ _ _ _ _ _ _ _ _ _ _ _ _ _ _ _ _ _ _ _ _ _ _ _ _ _ _ _ _ _ _ _ _ _ _ _ _ _ _ _ _ _ _ _ _ _ _ _ _ _ _ _ _ _ _ _ _ _ _ _ _ _ _ _ _ _ _ _ _ _ _ _ _ _ _ _ _ _ _ _ _ _ _ _ _ _ _ _ _ _ _ _ _ _ _ _ _ _ _ ?side1 ?side2 ?side3 ?side4 ?side5 ?side6 ?side7 ?side8 ?side9 ?side10 ?side11 ?side12 ?side13 ?side14 ?side15 ?side16 ?side17 ?side18 ?side19 ?side20 ?side21 ?side22 ?side23 ?side24 ?side25 ?side26 ?side27 ?side28 ?side29 ?side30 ?side31 ?side32 ?side33 ?side34 ?side35 ?side36 ?side37 ?side38 ?side39 ?side40 ?side41 ?side42 ?side43 ?side44 ?side45 ?side46 A16.out).mono ?_); (case side1 => exact s_C (Kd.N_reads' HO420.out).2.2); (case side2 => exact (Kd.N_reads' HO420.out).2.1); (case side3 => exact s_C (Kd.R_reads' HO249.out).2.2); (case side4 => exact (Kd.R_reads' HO249.out).2.1); (case side5 => exact Kd.C_nil _ _); (case side6 => exact Nat.le_refl _); (case side7 => exact Kd.C_nil _ _); (case side8 => exact Nat.le_refl _); (case side9 => exact Kd.C_nil _ _); (case side10 => exact Nat.le_refl _); (case side11 => exact Kd.C_nil _ _); (case side12 => exact Nat.le_refl _); (case side13 => exact Kd.C_nil _ _); (case side14 => exact Nat.le_refl _); (case side15 => exact Kd.C_nil _ _); (case side16 => exact Nat.le_refl _); (case side17 => exact Kd.C_nil _ _); (case side18 => exact Nat.le_refl _); (case side19 => exact Kd.C_nil _ _); (case side20 => exact Nat.le_refl _); (case side21 => exact Kd.C_nil _ _); (case side22 => exact Nat.le_refl _); (case side23 => exact Kd.C_nil _ _); (case side24 => exact Nat.le_refl _); (case side25 => exact s_C (Kd.R_reads' HO303.out).2.2); (case side26 => exact (Kd.R_reads' HO303.out).2.1); (case side27 => exact Kd.C_nil _ _); (case side28 => exact Nat.le_refl _); (case side29 => exact Kd.C_nil _ _); (case side30 => exact Nat.le_refl _); (case side31 => exact Kd.C_nil _ _); (case side32 => exact Nat.le_refl _); (case side33 => exact Kd.C_nil _ _); (case side34 => exact Nat.le_refl _); (case side35 => exact Kd.C_nil _ _); (case side36 => exact Nat.le_refl _); (case side37 => exact Kd.C_nil _ _); (case side38 => exact Nat.le_refl _); (case side39 => exact Kd.C_nil _ _); (case side40 => exact Nat.le_refl _); (case side41 => exact Kd.C_nil _ _); (case side42 => exact Nat.le_refl _); (case side43 => exact Kd.C_nil _ _); (case side44 => exact Nat.le_refl _); (case side45 => exact Kd.C_nil _ _); (case side46 => exact Nat.le_refl _); rintro e w62 ⟨rfl, hb⟩; (try clear A16); replace HO249 := s_a (Kd.R_below (by exact s_R (HO249.out)) hb); replace HO303 := s_a (Kd.R_below (by exact s_R (HO303.out)) hb); replace HO357 := s_a (Kd.R_below (by exact s_R (HO357.out)) hb); replace HO420 := s_a (Kd.N_below (by exact s_N (HO420.out)) hb); replace BK400 := s_a (blk_below (s_k BK400.out) hb); replace BK401 := s_a (blk_below (s_k BK401.out) hb); replace BK402 := s_a (blk_below (s_k BK402.out) hb); replace HB := s_a (below_step (by exact s_b HB.out) hb); (try clear hb)) | ((with_reducible refine gate_dst (N := 55) rfl ?_); (try (refine gate_guard (by rfl) ?_; dsimp only)); refine wpList_load_row rfl 41 (.tmp 1) rfl gb400 rfl 41 _ (0, 0) _ (s_k BK400.out) Try.underlying41 rfl sz41 ?_) | ((with_reducible refine gate_dst (N := 56) rfl ?_); (try (refine gate_guard (by rfl) ?_; dsimp only)); refine wpList_load_row rfl 41 (.tmp 1) rfl gb400 rfl 41 _ (0, 0) _ (s_k BK400.out) Try.underlying41 rfl sz41 ?_) | (go_at_call 11; (refine (netpolicy_Allowed.calls k _ _ _ _ _ _ _ _ _ _ _ _ _ _ _ _ _ _ _ _ _ _ _ _ _ _ _ _ _ _ _ _ _ _ _ _ _ _ _ _ _ _ _ _ _ _ _ _ _ _ _ _ _ _ _ _ _ _ _ _ _ _ _ _ _ _ _ _ _ _ _ _ _ _ _ _ _ _ _ _ _ _ _ _ _ _ _ _ _ _ _ _ _ _ _ _ _ _ _ _ _ _ _ _ _ _ _ _ _ _ _ _ _ _ ?side1 ?side2 ?side3 ?side4 ?side5 ?side6 ?side7 ?side8 ?side9 ?side10 ?side11 ?side12 ?side13 ?side14 ?side15 ?side16 ?side17 ?side18 ?side19 ?side20 ?side21 ?side22 ?side23 ?side24 ?side25 ?side26 ?side27 ?side28 ?side29 ?side30 ?side31 ?side32 ?side33 ?side34 ?side35 ?side36 ?side37 ?side38 ?side39 ?side40 ?side41 ?side42 ?side43 ?side44 ?side45 ?side46 A18.out).mono ?_); (case side1 => exact s_C (Kd.N_reads' HO420.out).2.2); (case side2 => exact (Kd.N_reads' HO420.out).2.1); (case side3 => exact s_C (Kd.R_reads' HO249.out).2.2); (case side4 => exact (Kd.R_reads' HO249.out).2.1); (case side5 => exact Kd.C_nil _ _); (case side6 => exact Nat.le_refl _); (case side7 => exact Kd.C_nil _ _); (case side8 => exact Nat.le_refl _); (case side9 => exact Kd.C_nil _ _); (case side10 => exact Nat.le_refl _); (case side11 => exact Kd.C_nil _ _); (case side12 => exact Nat.le_refl _); (case side13 => exact Kd.C_nil _ _); (case side14 => exact Nat.le_refl _); (case side15 => exact Kd.C_nil _ _); (case side16 => exact Nat.le_refl _); (case side17 => exact Kd.C_nil _ _); (case side18 => exact Nat.le_refl _); (case side19 => exact Kd.C_nil _ _); (case side20 => exact Nat.le_refl _); (case side21 => exact Kd.C_nil _ _); (case side22 => exact Nat.le_refl _); (case side23 => exact Kd.C_nil _ _); (case side24 => exact Nat.le_refl _); (case side25 => exact s_C (Kd.R_reads' HO249.out).2.2); (case side26 => exact (Kd.R_reads' HO249.out).2.1); (case side27 => exact Kd.C_nil _ _); (case side28 => exact Nat.le_refl _); (case side29 => exact Kd.C_nil _ _); (case side30 => exact Nat.le_refl _); (case side31 => exact Kd.C_nil _ _); (case side32 => exact Nat.le_refl _); (case side33 => exact Kd.C_nil _ _); (case side34 => exact Nat.le_refl _); (case side35 => exact Kd.C_nil _ _); (case side36 => exact Nat.le_refl _); (case side37 => exact Kd.C_nil _ _); (case side38 => exact Nat.le_refl _); (case side39 => exact Kd.C_nil _ _); (case side40 => exact Nat.le_refl _); (case side41 => exact Kd.C_nil _ _); (case side42 => exact Nat.le_refl _); (case side43 => exact Kd.C_nil _ _); (case side44 => exact Nat.le_refl _); (case side45 => exact Kd.C_nil _ _); (case side46 => exact Nat.le_refl _); rintro e w63 ⟨rfl, hb⟩; (try clear A18); replace HO249 := s_a (Kd.R_below (by exact s_R (HO249.out)) hb); replace HO303 := s_a (Kd.R_below (by exact s_R (HO303.out)) hb); replace HO357 := s_a (Kd.R_below (by exact s_R (HO357.out)) hb); replace HO420 := s_a (Kd.N_below (by exact s_N (HO420.out)) hb); replace BK400 := s_a (blk_below (s_k BK400.out) hb); replace BK401 := s_a (blk_below (s_k BK401.out) hb); replace BK402 := s_a (blk_below (s_k BK402.out) hb); replace HB := s_a (below_step (by exact s_b HB.out) hb); (try clear hb)) | ((with_reducible refine gate_dst (N := 61) rfl ?_); (try (refine gate_guard (by rfl) ?_; dsimp only)); refine wpList_load_row rfl 41 (.tmp 1) rfl gb400 rfl 41 _ (0, 0) _ (s_k BK400.out) Try.underlying41 rfl sz41 ?_) | ((with_reducible refine gate_dst (N := 62) rfl ?_); (try (refine gate_guard (by rfl) ?_; dsimp only)); refine wpList_load_row rfl 41 (.tmp 2) rfl gb401 rfl 41 _ (0, 0) _ (s_k BK401.out) Try.underlying41 rfl sz41 ?_) | ((with_reducible refine gate_dst (N := 63) rfl ?_); (try (refine gate_guard (by rfl) ?_; dsimp only)); refine wpList_load_row rfl 41 (.tmp 3) rfl gb402 rfl 41 _ (0, 0) _ (s_k BK402.out) Try.underlying41 rfl sz41 ?_) | ((with_reducible refine gate_dst (N := 64) rfl ?_); (try (refine gate_guard (by rfl) ?_; dsimp only)); refine Kd.N_lit k41 _ 41 ?hg (N' := 64) ?hd (xs := ([(⟨(⟨(⟨#[80, 111, 100]⟩ : ByteArray), (⟨#[120]⟩ : ByteArray), t240, 0, 0, 0, 0, false, 0, t247, ([] : List (S110)), ([] : List ByteArray), ([] : List (S112))⟩ : S28), (⟨(⟨#[]⟩ : ByteArray), 0, 0, 0, ([] : List (S117)), ([] : List (S74)), ([] : List (S119)), ([] : List (S121)), ([] : List (S123)), ([] : List (S125))⟩ : S36), (⟨0, false, 0, 0, 0, ([] : List (S127)), 0, (⟨#[]⟩ : ByteArray), (⟨#[]⟩ : ByteArray)⟩ : S39)⟩ : S41), (⟨(⟨(⟨#[80, 111, 100]⟩ : ByteArray), (⟨#[120]⟩ : ByteArray), t294, 0, 0, 0, 0, false, 0, t301, ([] : List (S110)), ([] : List ByteArray), ([] : List (S112))⟩ : S28), (⟨(⟨#[]⟩ : ByteArray), 0, 0, 0, ([] : List (S117)), ([] : List (S74)), ([] : List (S119)), ([] : List (S121)), ([] : List (S123)), ([] : List (S125))⟩ : S36), (⟨0, false, 0, 0, 0, ([] : List (S127)), 0, (⟨#[]⟩ : ByteArray), (⟨#[]⟩ : ByteArray)⟩ : S39)⟩ : S41), (⟨(⟨(⟨#[80, 111, 100]⟩ : ByteArray), (⟨#[120]⟩ : ByteArray), t348, 0, 0, 0, 0, false, 0, t355, ([] : List (S110)), ([] : List ByteArray), ([] : List (S112))⟩ : S28), (⟨(⟨#[]⟩ : ByteArray), 0, 0, 0, ([] : List (S117)), ([] : List (S74)), ([] : List (S119)), ([] : List (S121)), ([] : List (S123)), ([] : List (S125))⟩ : S36), (⟨0, false, 0, 0, 0, ([] : List (S127)), 0, (⟨#[]⟩ : ByteArray), (⟨#[]⟩ : ByteArray)⟩ : S39)⟩ : S41)] : List (S41))) (inner := [.string (⟨#[80, 111, 100]⟩ : ByteArray), .string (⟨#[120]⟩ : ByteArray), .string t240, .int .i64 0, .int .i64 0, .int .i64 0, .int .i64 0, .bool false, .int .i64 0, .slice Ao32 t247.length co32, .slice none 0 0, .slice none 0 0, .slice none 0 0, .string (⟨#[]⟩ : ByteArray), .int .i64 0, .int .i64 0, .int .i64 0, .slice none 0 0, .slice none 0 0, .slice none 0 0, .slice none 0 0, .slice none 0 0, .slice none 0 0, .int .i64 0, .bool false, .int .i64 0, .int .i64 0, .int .i64 0, .slice none 0 0, .int .i64 0, .string (⟨#[]⟩ : ByteArray), .string (⟨#[]⟩ : ByteArray), .string (⟨#[80, 111, 100]⟩ : ByteArray), .string (⟨#[120]⟩ : ByteArray), .string t294, .int .i64 0, .int .i64 0, .int .i64 0, .int .i64 0, .bool false, .int .i64 0, .slice Ao36 t301.length co36, .slice none 0 0, .slice none 0 0, .slice none 0 0, .string (⟨#[]⟩ : ByteArray), .int .i64 0, .int .i64 0, .int .i64 0, .slice none 0 0, .slice none 0 0, .slice none 0 0, .slice none 0 0, .slice none 0 0, .slice none 0 0, .int .i64 0, .bool false, .int .i64 0, .int .i64 0, .int .i64 0, .slice none 0 0, .int .i64 0, .string (⟨#[]⟩ : ByteArray), .string (⟨#[]⟩ : ByteArray), .string (⟨#[80, 111, 100]⟩ : ByteArray), .string (⟨#[120]⟩ : ByteArray), .string t348, .int .i64 0, .int .i64 0, .int .i64 0, .int .i64 0, .bool false, .int .i64 0, .slice Ao39 t355.length co39, .slice none 0 0, .slice none 0 0, .slice none 0 0, .string (⟨#[]⟩ : ByteArray), .int .i64 0, .int .i64 0, .int .i64 0, .slice none 0 0, .slice none 0 0, .slice none 0 0, .slice none 0 0, .slice none 0 0, .slice none 0 0, .int .i64 0, .bool false, .int .i64 0, .int .i64 0, .int .i64 0, .slice none 0 0, .int .i64 0, .string (⟨#[]⟩ : ByteArray), .string (⟨#[]⟩ : ByteArray)]) (ok := (fun k_ => some k_ ≠ (.slice Ao56 y418.length co56 : Value).ownBlock ∧ k_ ≠ gb400 ∧ k_ ≠ gb401 ∧ k_ ≠ gb402)) (okp := (fun k_ => some k_ ≠ (.slice Ao56 y418.length co56 : Value).ownBlock ∧ k_ ≠ gb400 ∧ k_ ≠ gb401 ∧ k_ ≠ gb402)) ?hr ?hp (fun _ hk => hk) ((show ∀ k_, w63.heap.size ≤ k_ → (fun k_ => some k_ ≠ (.slice Ao56 y418.length co56 : Value).ownBlock ∧ k_ ≠ gb400 ∧ k_ ≠ gb401 ∧ k_ ≠ gb402) k_ from fun k_ hk => ⟨Kd.fresh' (Kd.N_lt (by exact s_N (HO420.out))) k_ hk, Kd.freshB (s_k BK400.out) k_ hk, Kd.freshB (s_k BK401.out) k_ hk, Kd.freshB (s_k BK402.out) k_ hk⟩) _ (Nat.le_refl _)) (Below.refl _ _) (Nat.le_refl _) (by simp) ?_; (case hd => rfl); (case hg => rfl); (case hr => first | (go_simp; done) | (go_simp; rfl)); (case hp => exact (Reps.front (show Kd.FK k41 _ _ (⟨(⟨(⟨#[80, 111, 100]⟩ : ByteArray), (⟨#[120]⟩ : ByteArray), t240, 0, 0, 0, 0, false, 0, t247, ([] : List (S110)), ([] : List ByteArray), ([] : List (S112))⟩ : S28), (⟨(⟨#[]⟩ : ByteArray), 0, 0, 0, ([] : List (S117)), ([] : List (S74)), ([] : List (S119)), ([] : List (S121)), ([] : List (S123)), ([] : List (S125))⟩ : S36), (⟨0, false, 0, 0, 0, ([] : List (S127)), 0, (⟨#[]⟩ : ByteArray), (⟨#[]⟩ : ByteArray)⟩ : S39)⟩ : S41) [.string (⟨#[80, 111, 100]⟩ : ByteArray), .string (⟨#[120]⟩ : ByteArray), .string t240, .int .i64 0, .int .i64 0, .int .i64 0, .int .i64 0, .bool false, .int .i64 0, .slice Ao32 t247.length co32, .slice none 0 0, .slice none 0 0, .slice none 0 0, .string (⟨#[]⟩ : ByteArray), .int .i64 0, .int .i64 0, .int .i64 0, .slice none 0 0, .slice none 0 0, .slice none 0 0, .slice none 0 0, .slice none 0 0, .slice none 0 0, .int .i64 0, .bool false, .int .i64 0, .int .i64 0, .int .i64 0, .slice none 0 0, .int .i64 0, .string (⟨#[]⟩ : ByteArray), .string (⟨#[]⟩ : ByteArray)] from (k41_mkF _ _ (⟨(⟨(⟨#[80, 111, 100]⟩ : ByteArray), (⟨#[120]⟩ : ByteArray), t240, 0, 0, 0, 0, false, 0, t247, ([] : List (S110)), ([] : List ByteArray), ([] : List (S112))⟩ : S28), (⟨(⟨#[]⟩ : ByteArray), 0, 0, 0, ([] : List (S117)), ([] : List (S74)), ([] : List (S119)), ([] : List (S121)), ([] : List (S123)), ([] : List (S125))⟩ : S36), (⟨0, false, 0, 0, 0, ([] : List (S127)), 0, (⟨#[]⟩ : ByteArray), (⟨#[]⟩ : ByteArray)⟩ : S39)⟩ : S41) (Kd.R_reads' (Kd.R_mono (ok' := (fun k_ => some k_ ≠ (.slice Ao56 y418.length co56 : Value).ownBlock ∧ k_ ≠ gb400 ∧ k_ ≠ gb401 ∧ k_ ≠ gb402)) (Kd.R_types (Kd.R_types (Kd.R_types (Kd.R_apart' (HO249.out) (Kd.N_typed HO420.out) (by decide)) BK400.out (by decide)) BK401.out (by decide)) BK402.out (by decide)) (fun k_ hk => ⟨hk.1.1.1.2, ⟨hk.1.1.2, ⟨hk.1.2, hk.2⟩⟩⟩))).2.1 (Kd.R_F (Kd.R_mono (ok' := (fun k_ => some k_ ≠ (.slice Ao56 y418.length co56 : Value).ownBlock ∧ k_ ≠ gb400 ∧ k_ ≠ gb401 ∧ k_ ≠ gb402)) (Kd.R_types (Kd.R_types (Kd.R_types (Kd.R_apart' (HO249.out) (Kd.N_typed HO420.out) (by decide)) BK400.out (by decide)) BK401.out (by decide)) BK402.out (by decide)) (fun k_ hk => ⟨hk.1.1.1.2, ⟨hk.1.1.2, ⟨hk.1.2, hk.2⟩⟩⟩))) (Nat.le_refl _) (Kd.F_nil _ _ _) (Nat.le_refl _) (Kd.F_nil _ _ _) (Nat.le_refl _) (Kd.F_nil _ _ _) (Nat.le_refl _) (Kd.F_nil _ _ _) (Nat.le_refl _) (Kd.F_nil _ _ _) (Nat.le_refl _) (Kd.F_nil _ _ _) (Nat.le_refl _) (Kd.F_nil _ _ _) (Nat.le_refl _) (Kd.F_nil _ _ _) (Nat.le_refl _) (Kd.F_nil _ _ _) (Nat.le_refl _) (Kd.F_nil _ _ _))) rfl (Reps.front (show Kd.FK k41 _ _ (⟨(⟨(⟨#[80, 111, 100]⟩ : ByteArray), (⟨#[120]⟩ : ByteArray), t294, 0, 0, 0, 0, false, 0, t301, ([] : List (S110)), ([] : List ByteArray), ([] : List (S112))⟩ : S28), (⟨(⟨#[]⟩ : ByteArray), 0, 0, 0, ([] : List (S117)), ([] : List (S74)), ([] : List (S119)), ([] : List (S121)), ([] : List (S123)), ([] : List (S125))⟩ : S36), (⟨0, false, 0, 0, 0, ([] : List (S127)), 0, (⟨#[]⟩ : ByteArray), (⟨#[]⟩ : ByteArray)⟩ : S39)⟩ : S41) [.string (⟨#[80, 111, 100]⟩ : ByteArray), .string (⟨#[120]⟩ : ByteArray), .string t294, .int .i64 0, .int .i64 0, .int .i64 0, .int .i64 0, .bool false, .int .i64 0, .slice Ao36 t301.length co36, .slice none 0 0, .slice none 0 0, .slice none 0 0, .string (⟨#[]⟩ : ByteArray), .int .i64 0, .int .i64 0, .int .i64 0, .slice none 0 0, .slice none 0 0, .slice none 0 0, .slice none 0 0, .slice none 0 0, .slice none 0 0, .int .i64 0, .bool false, .int .i64 0, .int .i64 0, .int .i64 0, .slice none 0 0, .int .i64 0, .string (⟨#[]⟩ : ByteArray), .string (⟨#[]⟩ : ByteArray)] from (k41_mkF _ _ (⟨(⟨(⟨#[80, 111, 100]⟩ : ByteArray), (⟨#[120]⟩ : ByteArray), t294, 0, 0, 0, 0, false, 0, t301, ([] : List (S110)), ([] : List ByteArray), ([] : List (S112))⟩ : S28), (⟨(⟨#[]⟩ : ByteArray), 0, 0, 0, ([] : List (S117)), ([] : List (S74)), ([] : List (S119)), ([] : List (S121)), ([] : List (S123)), ([] : List (S125))⟩ : S36), (⟨0, false, 0, 0, 0, ([] : List (S127)), 0, (⟨#[]⟩ : ByteArray), (⟨#[]⟩ : ByteArray)⟩ : S39)⟩ : S41) (Kd.R_reads' (Kd.R_mono (ok' := (fun k_ => some k_ ≠ (.slice Ao56 y418.length co56 : Value).ownBlock ∧ k_ ≠ gb400 ∧ k_ ≠ gb401 ∧ k_ ≠ gb402)) (Kd.R_types (Kd.R_types (Kd.R_types (Kd.R_apart' (HO303.out) (Kd.N_typed HO420.out) (by decide)) BK400.out (by decide)) BK401.out (by decide)) BK402.out (by decide)) (fun k_ hk => ⟨hk.1.1.1.2, ⟨hk.1.1.2, ⟨hk.1.2, hk.2⟩⟩⟩))).2.1 (Kd.R_F (Kd.R_mono (ok' := (fun k_ => some k_ ≠ (.slice Ao56 y418.length co56 : Value).ownBlock ∧ k_ ≠ gb400 ∧ k_ ≠ gb401 ∧ k_ ≠ gb402)) (Kd.R_types (Kd.R_types (Kd.R_types (Kd.R_apart' (HO303.out) (Kd.N_typed HO420.out) (by decide)) BK400.out (by decide)) BK401.out (by decide)) BK402.out (by decide)) (fun k_ hk => ⟨hk.1.1.1.2, ⟨hk.1.1.2, ⟨hk.1.2, hk.2⟩⟩⟩))) (Nat.le_refl _) (Kd.F_nil _ _ _) (Nat.le_refl _) (Kd.F_nil _ _ _) (Nat.le_refl _) (Kd.F_nil _ _ _) (Nat.le_refl _) (Kd.F_nil _ _ _) (Nat.le_refl _) (Kd.F_nil _ _ _) (Nat.le_refl _) (Kd.F_nil _ _ _) (Nat.le_refl _) (Kd.F_nil _ _ _) (Nat.le_refl _) (Kd.F_nil _ _ _) (Nat.le_refl _) (Kd.F_nil _ _ _) (Nat.le_refl _) (Kd.F_nil _ _ _))) rfl (Reps.front (show Kd.FK k41 _ _ (⟨(⟨(⟨#[80, 111, 100]⟩ : ByteArray), (⟨#[120]⟩ : ByteArray), t348, 0, 0, 0, 0, false, 0, t355, ([] : List (S110)), ([] : List ByteArray), ([] : List (S112))⟩ : S28), (⟨(⟨#[]⟩ : ByteArray), 0, 0, 0, ([] : List (S117)), ([] : List (S74)), ([] : List (S119)), ([] : List (S121)), ([] : List (S123)), ([] : List (S125))⟩ : S36), (⟨0, false, 0, 0, 0, ([] : List (S127)), 0, (⟨#[]⟩ : ByteArray), (⟨#[]⟩ : ByteArray)⟩ : S39)⟩ : S41) [.string (⟨#[80, 111, 100]⟩ : ByteArray), .string (⟨#[120]⟩ : ByteArray), .string t348, .int .i64 0, .int .i64 0, .int .i64 0, .int .i64 0, .bool false, .int .i64 0, .slice Ao39 t355.length co39, .slice none 0 0, .slice none 0 0, .slice none 0 0, .string (⟨#[]⟩ : ByteArray), .int .i64 0, .int .i64 0, .int .i64 0, .slice none 0 0, .slice none 0 0, .slice none 0 0, .slice none 0 0, .slice none 0 0, .slice none 0 0, .int .i64 0, .bool false, .int .i64 0, .int .i64 0, .int .i64 0, .slice none 0 0, .int .i64 0, .string (⟨#[]⟩ : ByteArray), .string (⟨#[]⟩ : ByteArray)] from (k41_mkF _ _ (⟨(⟨(⟨#[80, 111, 100]⟩ : ByteArray), (⟨#[120]⟩ : ByteArray), t348, 0, 0, 0, 0, false, 0, t355, ([] : List (S110)), ([] : List ByteArray), ([] : List (S112))⟩ : S28), (⟨(⟨#[]⟩ : ByteArray), 0, 0, 0, ([] : List (S117)), ([] : List (S74)), ([] : List (S119)), ([] : List (S121)), ([] : List (S123)), ([] : List (S125))⟩ : S36), (⟨0, false, 0, 0, 0, ([] : List (S127)), 0, (⟨#[]⟩ : ByteArray), (⟨#[]⟩ : ByteArray)⟩ : S39)⟩ : S41) (Kd.R_reads' (Kd.R_mono (ok' := (fun k_ => some k_ ≠ (.slice Ao56 y418.length co56 : Value).ownBlock ∧ k_ ≠ gb400 ∧ k_ ≠ gb401 ∧ k_ ≠ gb402)) (Kd.R_types (Kd.R_types (Kd.R_types (Kd.R_apart' (HO357.out) (Kd.N_typed HO420.out) (by decide)) BK400.out (by decide)) BK401.out (by decide)) BK402.out (by decide)) (fun k_ hk => ⟨hk.1.1.1.2, ⟨hk.1.1.2, ⟨hk.1.2, hk.2⟩⟩⟩))).2.1 (Kd.R_F (Kd.R_mono (ok' := (fun k_ => some k_ ≠ (.slice Ao56 y418.length co56 : Value).ownBlock ∧ k_ ≠ gb400 ∧ k_ ≠ gb401 ∧ k_ ≠ gb402)) (Kd.R_types (Kd.R_types (Kd.R_types (Kd.R_apart' (HO357.out) (Kd.N_typed HO420.out) (by decide)) BK400.out (by decide)) BK401.out (by decide)) BK402.out (by decide)) (fun k_ hk => ⟨hk.1.1.1.2, ⟨hk.1.1.2, ⟨hk.1.2, hk.2⟩⟩⟩))) (Nat.le_refl _) (Kd.F_nil _ _ _) (Nat.le_refl _) (Kd.F_nil _ _ _) (Nat.le_refl _) (Kd.F_nil _ _ _) (Nat.le_refl _) (Kd.F_nil _ _ _) (Nat.le_refl _) (Kd.F_nil _ _ _) (Nat.le_refl _) (Kd.F_nil _ _ _) (Nat.le_refl _) (Kd.F_nil _ _ _) (Nat.le_refl _) (Kd.F_nil _ _ _) (Nat.le_refl _) (Kd.F_nil _ _ _) (Nat.le_refl _) (Kd.F_nil _ _ _))) rfl (Reps.none _ _) rfl) rfl) rfl)); intro v429 w64 ho65 hb hg_ hnew_; clear hg_ hnew_; (first | rw [← Ny428.out] at ho65 | (simp only [Int.reduceToNat] at ho65; rw [← Ny428.out] at ho65)); have n0_ := s_a (Kd.N_lower ho65 (below_size (by exact s_b HB.out))); clear HO249; clear HO303; clear HO357; have HO430 := n0_; clear n0_; replace HO420 := s_a (Kd.N_elder' (by exact s_N (HO420.out)) (Kd.N_base ho65) hb); replace BK400 := s_a (blk_below (s_k BK400.out) hb); replace BK401 := s_a (blk_below (s_k BK401.out) hb); replace BK402 := s_a (blk_below (s_k BK402.out) hb); replace HB := s_a (below_step (by exact s_b HB.out) hb); clear hb ho65; obtain ⟨Ao66, co66, eo66⟩ := Kd.N_slice HO430.out; subst eo66) | (go_at_call 14; (with_reducible refine (netpolicy_Reach.calls k _ _ _ _ _ _ _ _ _ ?side1 ?side2 ?side3 ?side4 A20.out).mono ?_); (case side1 => exact s_C (Kd.N_reads' HO420.out).2.2); (case side2 => exact (Kd.N_reads' HO420.out).2.1); (case side3 => exact s_C (Kd.N_reads' HO430.out).2.2); (case side4 => exact (Kd.N_reads' HO430.out).2.1); rintro e w67 ⟨v432, rfl, ho0, hb⟩; (try clear A20); have HO433 := s_a (Kd.R_lower ho0 (below_size (by exact s_b HB.out))); replace HO420 := s_a (Kd.N_elder' (by exact s_N (HO420.out)) (Kd.R_base ho0) hb); replace HO430 := s_a (Kd.N_elder' (by exact s_N (HO430.out)) (Kd.R_base ho0) hb); replace BK400 := s_a (blk_below (s_k BK400.out) hb); replace BK401 := s_a (blk_below (s_k BK401.out) hb); replace BK402 := s_a (blk_below (s_k BK402.out) hb); replace HB := s_a (below_step (by exact s_b HB.out) hb); (try clear hb); (try clear ho0)) | ((with_reducible refine gate_dst (N := 70) rfl ?_); (try (refine gate_guard (by rfl) ?_; dsimp only)); refine Kd.R_lit k48 _ 48 ?hg (N := 70) ?hd (xs := ([(⟨0, 1⟩ : S48), (⟨0, 2⟩ : S48), (⟨1, 2⟩ : S48), (⟨2, 1⟩ : S48)] : List (S48))) (inner := [.int .i64 0, .int .i64 1, .int .i64 0, .int .i64 2, .int .i64 1, .int .i64 2, .int .i64 2, .int .i64 1]) (ok := fun _ => True) (okp := fun _ => True) ?hr ?hp (fun _ hk => hk) trivial (Below.refl _ _) (Nat.le_refl _) (by simp) ?_; (case hd => rfl); (case hg => rfl); (case hr => first | (go_simp; done) | (go_simp; rfl)); (case hp => exact (Reps.c2 (show Kd.M k48 _ _ _ (⟨0, 1⟩ : S48) [.int .i64 0, .int .i64 1] from (k48_mkM _ _ _ (⟨0, 1⟩ : S48) )) (Reps.c2 (show Kd.M k48 _ _ _ (⟨0, 2⟩ : S48) [.int .i64 0, .int .i64 2] from (k48_mkM _ _ _ (⟨0, 2⟩ : S48) )) (Reps.c2 (show Kd.M k48 _ _ _ (⟨1, 2⟩ : S48) [.int .i64 1, .int .i64 2] from (k48_mkM _ _ _ (⟨1, 2⟩ : S48) )) (Reps.c2 (show Kd.M k48 _ _ _ (⟨2, 1⟩ : S48) [.int .i64 2, .int .i64 1] from (k48_mkM _ _ _ (⟨2, 1⟩ : S48) )) (Reps.none _ _)))))); intro v435 w68 ho69 hb hg_ hnew_; clear hg_ hnew_; (first | rw [← Ny434.out] at ho69 | (simp only [Int.reduceToNat] at ho69; rw [← Ny434.out] at ho69)); have HO436 := s_a (Kd.R_lower (Kd.R_new' ho69 (Kd.R_lt (by exact s_R (HO433.out)))) (below_size (by exact s_b HB.out))); replace HO420 := s_a (Kd.N_elder' (by exact s_N (HO420.out)) (Kd.R_base ho69) hb); replace HO430 := s_a (Kd.N_elder' (by exact s_N (HO430.out)) (Kd.R_base ho69) hb); replace HO433 := s_a (Kd.R_elder' (by exact s_R (HO433.out)) (Kd.R_base ho69) hb); replace BK400 := s_a (blk_below (s_k BK400.out) hb); replace BK401 := s_a (blk_below (s_k BK401.out) hb); replace BK402 := s_a (blk_below (s_k BK402.out) hb); replace HB := s_a (below_step (by exact s_b HB.out) hb); clear hb ho69; obtain ⟨Ao70, co70, eo70⟩ := Kd.R_slice HO433.out; subst eo70; obtain ⟨Ao71, co71, eo71⟩ := Kd.R_slice HO436.out; subst eo71) | (go_at_call 13; (with_reducible refine (orchestratorref57_Pairs.calls k _ _ _ _ _ _ _ _ ?side1 ?side2 ?side3 ?side4 A21.out).mono ?_); (case side1 => exact s_C (Kd.R_reads' HO433.out).2.2); (case side2 => exact (Kd.R_reads' HO433.out).2.1); (case side3 => exact s_C (Kd.R_reads' HO436.out).2.2); (case side4 => exact (Kd.R_reads' HO436.out).2.1); rintro e w' ⟨rfl, ⟨nd, rfl⟩⟩))
         go_ret
         exact ⟨by first | rfl | (simp [errW_none, errW_some] <;> rfl) | (simp [*, errW_none, errW_some] <;> rfl), by exact s_b HB.out⟩
        ·replace c22 := Bool.eq_false_iff.mpr c22
         subst c22
         (try rw [if_neg (show ¬ (false = true) by decide)] at H)
         exact absurd H (by simp)
       ·replace c19 := Bool.eq_false_iff.mpr c19
        subst c19
        (try rw [if_neg (show ¬ (false = true) by decide)] at H)
        exact absurd H (by simp)
      ·replace c17 := Bool.eq_false_iff.mpr c17
       subst c17
       (try rw [if_neg (show ¬ (false = true) by decide)] at H)
       exact absurd H (by simp)
   ·replace c11 := Bool.eq_false_iff.mpr c11
    subst c11
    (try rw [if_neg (show ¬ (false = true) by decide)] at H)
    exact absurd H (by simp)
 ·replace c7 := Bool.eq_false_iff.mpr c7
  subst c7
  (try rw [if_neg (show ¬ (false = true) by decide)] at H)
  exact absurd H (by simp)
def orchestratorref03_Get.l0 : Nat → List (S72) → ByteArray → Int → Option (ByteArray × Bool)
 | 0, _, _, _ => none
 | k + 1, x0, x1, x6 => if x6 < (x0.length : Int) then (if 0 ≤ x6 then (if ((rd_T72 x0 x6).f0).toList = x1.toList then (some ((rd_T72 x0 x6).f1, true)) else (orchestratorref03_Get.l0 k x0 x1 (wrap64 (x6 + 1)))) else (none)) else (some ((⟨#[]⟩ : ByteArray), false))
def orchestratorref03_Get.f (k : Nat) (l0 : List (S72)) (a1 : ByteArray) : Option (ByteArray × Bool) := orchestratorref03_Get.l0 k l0 a1 0
theorem orchestratorref03_Get.mono_l : ∀ k, (∀ y0 y1 y2, LeO (orchestratorref03_Get.l0 k y0 y1 y2) (orchestratorref03_Get.l0 (k + 1) y0 y1 y2))
 | 0 => fun _ _ _ r h => by simp [orchestratorref03_Get.l0] at h
 | k + 1 => by
  have ih0 := orchestratorref03_Get.mono_l k
  ·intro y0 y1 y2
   unfold orchestratorref03_Get.l0
   repeat' first
   | (with_reducible exact ih0 _ _ _)
   | (with_reducible exact LeO.refl _)
   | (with_reducible exact LeO.none _)
   | (with_reducible refine LeO.ite ?_ ?_)
   | (with_reducible refine LeO.bind ?_ (fun _ => ?_))
   | exact ih0 _ _ _
   | exact LeO.none _
   | refine LeO.ite ?_ ?_
   | refine LeO.bind ?_ (fun _ => ?_)
theorem orchestratorref03_Get.mono : ∀ a0 a1 k, LeO (orchestratorref03_Get.f k a0 a1) (orchestratorref03_Get.f (k + 1) a0 a1) := by
 intro a0 a1 k
 have ih0 := orchestratorref03_Get.mono_l k
 unfold orchestratorref03_Get.f
 repeat' first
   | (with_reducible exact ih0 _ _ _)
   | (with_reducible exact LeO.refl _)
   | (with_reducible exact LeO.none _)
   | (with_reducible refine LeO.ite ?_ ?_)
   | (with_reducible refine LeO.bind ?_ (fun _ => ?_))
   | exact ih0 _ _ _
   | exact LeO.none _
   | refine LeO.ite ?_ ?_
   | refine LeO.bind ?_ (fun _ => ?_)
set_option maxHeartbeats 8000000 in
set_option maxRecDepth 100000 in
theorem orchestratorref03_Get.calls (k : Nat) (A0 : Option Addr) (c0 : Nat) (l0 : List (S72)) (a1 : ByteArray) (r1 : ByteArray) (r2 : Bool) (w : World) (hr0 : Kd.C k72 w A0 l0.length l0) (hc0 : l0.length ≤ c0) (h : orchestratorref03_Get.f k l0 a1 = some (r1, r2)) :
  Calls Try.prog 45 #[.slice A0 l0.length c0, .string a1] w fun e w' => e = .returned (.tuple #[.string r1, .bool r2]) ∧ Drawn0 w w' := by
 have HR0 := s_a hr0
 have HC0 := s_a hc0
 clear hr0 hc0
 have H : (orchestratorref03_Get.l0 k l0 a1 0) = some (r1, r2) := h
 clear h
 have H' := s_a H
 clear H
 go_enter Try.func45, Try.ntmps45
 go_wp2
 go_loopg [6] k (fun kq v6 w' => ∃ (x6_1 : Int), v6 = .int .i64 x6_1 ∧ Aside0 (orchestratorref03_Get.l0 kq l0 a1 x6_1 = some (r1, r2)) ∧ Aside0 (kq ≤ k) ∧ Drawn0 w w')
 case atStart => exact ⟨(0), (by first | rfl | (simp; done) | (simp [*]; done)), H', ⟨Nat.le_refl _⟩, by repeat (first | exact Drawn0.refl _ | apply Drawn0.step)⟩
 case round =>
  clear H'
  try clear p2
  obtain ⟨x6_1, rfl, HA, HK1, ⟨m1, rfl⟩⟩ := hrel
  cases gk with
  | zero => exact absurd HA.out (by simp [orchestratorref03_Get.l0])
  | succ k1 =>
   have H := HA.out
   clear HA
   simp only [orchestratorref03_Get.l0] at H
   by_cases c3 : x6_1 < (l0.length : Int)
   ·rw [if_pos c3] at H
    have c3b0 : decide (x6_1 < (l0.length : Int)) = true := decide_eq_true c3
    clear c3
    by_cases c4 : 0 ≤ x6_1
    ·rw [if_pos c4] at H
     have c4b0 : decide (0 ≤ x6_1) = true := decide_eq_true c4
     clear c4
     by_cases c5 : ((rd_T72 l0 x6_1).f0).toList = a1.toList
     ·rw [if_pos c5] at H
      have c5b0 : (((rd_T72 l0 x6_1).f0).toList == a1.toList) = true := beq_iff_eq.mpr c5
      have c5b1 : (((rd_T72 l0 x6_1).f0).toList != a1.toList) = false := bne_eq_false_iff_eq.mpr c5
      clear c5
      simp only [Option.some.injEq, Prod.mk.injEq] at H
      obtain ⟨rfl, rfl⟩ := H
      have p438 : 0 ≤ (x6_1 : Int) := of_decide_eq_true (by first | (with_reducible assumption) | assumption)
      have q438 : x6_1 < (l0.length : Int) := of_decide_eq_true (by first | (with_reducible assumption) | assumption)
      obtain ⟨ad438, e438, hx438_0, hx438_1⟩ := at_T72 HR0.out x6_1 p438 q438
      cases e438
      replace p438 := eq_true p438
      replace q438 := eq_true q438
      have p439 : 0 ≤ (x6_1 : Int) := of_decide_eq_true (by first | (with_reducible assumption) | assumption)
      have q439 : x6_1 < (l0.length : Int) := of_decide_eq_true (by first | (with_reducible assumption) | assumption)
      obtain ⟨ad439, e439, hx439_0, hx439_1⟩ := at_T72 HR0.out x6_1 p439 q439
      obtain rfl : ad438 = ad439 := (by injection e439)
      replace p439 := eq_true p439
      replace q439 := eq_true q439
      go_wp2
      go_ret2
      exact ⟨by first | rfl | (simp; done) | (simp [*]; done), by repeat (first | exact Drawn0.refl _ | apply Drawn0.step)⟩
     ·rw [if_neg c5] at H
      have c5b0 : (((rd_T72 l0 x6_1).f0).toList == a1.toList) = false := beq_eq_false_iff_ne.mpr c5
      have c5b1 : (((rd_T72 l0 x6_1).f0).toList != a1.toList) = true := bne_iff_ne.mpr c5
      have H' := s_a H
      clear H
      have p438 : 0 ≤ (x6_1 : Int) := of_decide_eq_true (by first | (with_reducible assumption) | assumption)
      have q438 : x6_1 < (l0.length : Int) := of_decide_eq_true (by first | (with_reducible assumption) | assumption)
      obtain ⟨ad438, e438, hx438_0, hx438_1⟩ := at_T72 HR0.out x6_1 p438 q438
      cases e438
      replace p438 := eq_true p438
      replace q438 := eq_true q438
      go_wp2
      go_roundg k1
      case measure => have := HK1.out; omega
      case rel => exact ⟨(wrap64 (x6_1 + 1)), (by first | rfl | (simp; done) | (simp [*]; done)), H', ⟨by have := HK1.out; omega⟩, by repeat (first | exact Drawn0.refl _ | apply Drawn0.step)⟩
    ·rw [if_neg c4] at H
     exact absurd H (by simp)
   ·rw [if_neg c3] at H
    have c3b0 : decide (x6_1 < (l0.length : Int)) = false := decide_eq_false c3
    clear c3
    simp only [Option.some.injEq, Prod.mk.injEq] at H
    obtain ⟨rfl, rfl⟩ := H
    go_wp2
    go_ret2
    exact ⟨by first | rfl | (simp; done) | (simp [*]; done), by repeat (first | exact Drawn0.refl _ | apply Drawn0.step)⟩
def orchestratorref03_among.l0 : Nat → List ByteArray → ByteArray → Int → Option (Bool)
 | 0, _, _, _ => none
 | k + 1, x0, x1, x5 => if x5 < (x0.length : Int) then (if 0 ≤ x5 then (if (rdOf ByteArray.empty x0 x5).toList = x1.toList then (some true) else (orchestratorref03_among.l0 k x0 x1 (wrap64 (x5 + 1)))) else (none)) else (some false)
def orchestratorref03_among.f (k : Nat) (l0 : List ByteArray) (a1 : ByteArray) : Option (Bool) := orchestratorref03_among.l0 k l0 a1 0
theorem orchestratorref03_among.mono_l : ∀ k, (∀ y0 y1 y2, LeO (orchestratorref03_among.l0 k y0 y1 y2) (orchestratorref03_among.l0 (k + 1) y0 y1 y2))
 | 0 => fun _ _ _ r h => by simp [orchestratorref03_among.l0] at h
 | k + 1 => by
  have ih0 := orchestratorref03_among.mono_l k
  ·intro y0 y1 y2
   unfold orchestratorref03_among.l0
   repeat' first
   | (with_reducible exact ih0 _ _ _)
   | (with_reducible exact LeO.refl _)
   | (with_reducible exact LeO.none _)
   | (with_reducible refine LeO.ite ?_ ?_)
   | (with_reducible refine LeO.bind ?_ (fun _ => ?_))
   | exact ih0 _ _ _
   | exact LeO.none _
   | refine LeO.ite ?_ ?_
   | refine LeO.bind ?_ (fun _ => ?_)
theorem orchestratorref03_among.mono : ∀ a0 a1 k, LeO (orchestratorref03_among.f k a0 a1) (orchestratorref03_among.f (k + 1) a0 a1) := by
 intro a0 a1 k
 have ih0 := orchestratorref03_among.mono_l k
 unfold orchestratorref03_among.f
 repeat' first
   | (with_reducible exact ih0 _ _ _)
   | (with_reducible exact LeO.refl _)
   | (with_reducible exact LeO.none _)
   | (with_reducible refine LeO.ite ?_ ?_)
   | (with_reducible refine LeO.bind ?_ (fun _ => ?_))
   | exact ih0 _ _ _
   | exact LeO.none _
   | refine LeO.ite ?_ ?_
   | refine LeO.bind ?_ (fun _ => ?_)
set_option maxHeartbeats 8000000 in
set_option maxRecDepth 100000 in
theorem orchestratorref03_among.calls (k : Nat) (A0 : Option Addr) (c0 : Nat) (l0 : List ByteArray) (a1 : ByteArray) (r : Bool) (w : World) (hr0 : Kd.C Kd.string w A0 l0.length l0) (hc0 : l0.length ≤ c0) (h : orchestratorref03_among.f k l0 a1 = some r) :
  Calls Try.prog 46 #[.slice A0 l0.length c0, .string a1] w fun e w' => e = .returned (.bool r) ∧ Drawn0 w w' := by
 have HR0 := s_a hr0
 have HC0 := s_a hc0
 clear hr0 hc0
 have H : (orchestratorref03_among.l0 k l0 a1 0) = some r := h
 clear h
 have H' := s_a H
 clear H
 go_enter Try.func46, Try.ntmps46
 go_wp2
 go_loopg [5] k (fun kq v5 w' => ∃ (x5_1 : Int), v5 = .int .i64 x5_1 ∧ Aside0 (orchestratorref03_among.l0 kq l0 a1 x5_1 = some r) ∧ Aside0 (kq ≤ k) ∧ Drawn0 w w')
 case atStart => exact ⟨(0), (by first | rfl | (simp; done) | (simp [*]; done)), H', ⟨Nat.le_refl _⟩, by repeat (first | exact Drawn0.refl _ | apply Drawn0.step)⟩
 case round =>
  clear H'
  try clear p2
  obtain ⟨x5_1, rfl, HA, HK1, ⟨m1, rfl⟩⟩ := hrel
  cases gk with
  | zero => exact absurd HA.out (by simp [orchestratorref03_among.l0])
  | succ k1 =>
   have H := HA.out
   clear HA
   simp only [orchestratorref03_among.l0] at H
   by_cases c3 : x5_1 < (l0.length : Int)
   ·rw [if_pos c3] at H
    have c3b0 : decide (x5_1 < (l0.length : Int)) = true := decide_eq_true c3
    clear c3
    by_cases c4 : 0 ≤ x5_1
    ·rw [if_pos c4] at H
     have c4b0 : decide (0 ≤ x5_1) = true := decide_eq_true c4
     clear c4
     by_cases c5 : (rdOf ByteArray.empty l0 x5_1).toList = a1.toList
     ·rw [if_pos c5] at H
      have c5b0 : ((rdOf ByteArray.empty l0 x5_1).toList == a1.toList) = true := beq_iff_eq.mpr c5
      have c5b1 : ((rdOf ByteArray.empty l0 x5_1).toList != a1.toList) = false := bne_eq_false_iff_eq.mpr c5
      clear c5
      obtain rfl := Option.some.inj H
      have p440 : 0 ≤ (x5_1 : Int) := of_decide_eq_true (by first | (with_reducible assumption) | assumption)
      have q440 : x5_1 < (l0.length : Int) := of_decide_eq_true (by first | (with_reducible assumption) | assumption)
      obtain ⟨ad440, e440, hx440_0⟩ := Kd.at_string HR0.out x5_1 p440 q440
      cases e440
      replace p440 := eq_true p440
      replace q440 := eq_true q440
      go_wp2
      go_ret
      exact ⟨by first | rfl | (simp; done) | (simp [*]; done), by repeat (first | exact Drawn0.refl _ | apply Drawn0.step)⟩
     ·rw [if_neg c5] at H
      have c5b0 : ((rdOf ByteArray.empty l0 x5_1).toList == a1.toList) = false := beq_eq_false_iff_ne.mpr c5
      have c5b1 : ((rdOf ByteArray.empty l0 x5_1).toList != a1.toList) = true := bne_iff_ne.mpr c5
      have H' := s_a H
      clear H
      have p440 : 0 ≤ (x5_1 : Int) := of_decide_eq_true (by first | (with_reducible assumption) | assumption)
      have q440 : x5_1 < (l0.length : Int) := of_decide_eq_true (by first | (with_reducible assumption) | assumption)
      obtain ⟨ad440, e440, hx440_0⟩ := Kd.at_string HR0.out x5_1 p440 q440
      cases e440
      replace p440 := eq_true p440
      replace q440 := eq_true q440
      go_wp2
      go_roundg k1
      case measure => have := HK1.out; omega
      case rel => exact ⟨(wrap64 (x5_1 + 1)), (by first | rfl | (simp; done) | (simp [*]; done)), H', ⟨by have := HK1.out; omega⟩, by repeat (first | exact Drawn0.refl _ | apply Drawn0.step)⟩
    ·rw [if_neg c4] at H
     exact absurd H (by simp)
   ·rw [if_neg c3] at H
    have c3b0 : decide (x5_1 < (l0.length : Int)) = false := decide_eq_false c3
    clear c3
    obtain rfl := Option.some.inj H
    go_wp2
    go_ret
    exact ⟨by first | rfl | (simp; done) | (simp [*]; done), by repeat (first | exact Drawn0.refl _ | apply Drawn0.step)⟩
def orchestratorref03_holds.f (k : Nat) (a0_0 : ByteArray) (a0_1 : Int) (l0_2 : List ByteArray) (l1 : List (S72)) : Option (Bool) := (orchestratorref03_Get.f k l1 a0_0).bind fun bt442 => (if a0_1 = 1 then (if bt442.2 = true then ((orchestratorref03_among.f k l0_2 bt442.1).bind fun t444 => (some t444)) else (some false)) else (if a0_1 = 2 then (if bt442.2 = true then ((orchestratorref03_among.f k l0_2 bt442.1).bind fun t445 => (some (!t445))) else (some true)) else (if a0_1 = 3 then (if bt442.2 = true then (some true) else (if a0_1 = 4 then (some (!bt442.2)) else (some false))) else (if a0_1 = 4 then (some (!bt442.2)) else (some false)))))
theorem orchestratorref03_holds.mono : ∀ a0 a1 a2 a3 k, LeO (orchestratorref03_holds.f k a0 a1 a2 a3) (orchestratorref03_holds.f (k + 1) a0 a1 a2 a3) := by
 intro a0 a1 a2 a3 k
 unfold orchestratorref03_holds.f
 repeat' first
   | (with_reducible exact orchestratorref03_Get.mono _ _ _)
   | (with_reducible exact orchestratorref03_among.mono _ _ _)
   | (with_reducible exact LeO.refl _)
   | (with_reducible exact LeO.none _)
   | (with_reducible refine LeO.ite ?_ ?_)
   | (with_reducible refine LeO.bind ?_ (fun _ => ?_))
   | exact orchestratorref03_Get.mono _ _ _
   | exact orchestratorref03_among.mono _ _ _
   | exact LeO.none _
   | refine LeO.ite ?_ ?_
   | refine LeO.bind ?_ (fun _ => ?_)
set_option maxHeartbeats 8000000 in
set_option maxRecDepth 100000 in
theorem orchestratorref03_holds.calls (k : Nat) (a0_0 : ByteArray) (a0_1 : Int) (A0_2 : Option Addr) (c0_2 : Nat) (l0_2 : List ByteArray) (A1 : Option Addr) (c1 : Nat) (l1 : List (S72)) (r : Bool) (w : World) (hr0_2 : Kd.C Kd.string w A0_2 l0_2.length l0_2) (hc0_2 : l0_2.length ≤ c0_2) (hr1 : Kd.C k72 w A1 l1.length l1) (hc1 : l1.length ≤ c1) (h : orchestratorref03_holds.f k a0_0 a0_1 l0_2 l1 = some r) :
  Calls Try.prog 38 #[.agg #[.string a0_0, .int .i64 a0_1, .slice A0_2 l0_2.length c0_2], .slice A1 l1.length c1] w fun e w' => e = .returned (.bool r) ∧ Below w.heap.size w w' := by
 have hu74 := Try.underlying74
 have HR0_2 := s_a hr0_2
 have HC0_2 := s_a hc0_2
 clear hr0_2 hc0_2
 have HR1 := s_a hr1
 have HC1 := s_a hc1
 clear hr1 hc1
 have HB := s_a (Below.refl w.heap.size w)
 have H := h; unfold orchestratorref03_holds.f at H
 clear h
 replace H := Option.bind_eq_some_iff.mp H
 obtain ⟨⟨t442, t443⟩, A30, H⟩ := H
 (try dsimp only at H)
 have A3 := s_a A30
 clear A30
 by_cases c4 : a0_1 = 1
 ·rw [if_pos c4] at H
  have c4b0 : (a0_1 == 1) = true := beq_iff_eq.mpr c4
  have c4b1 : (a0_1 != 1) = false := bne_eq_false_iff_eq.mpr c4
  clear c4
  by_cases c5 : t443 = true
  ·subst c5
   (try rw [if_pos rfl] at H)
   replace H := Option.bind_eq_some_iff.mp H
   obtain ⟨t444, A60, H⟩ := H
   replace H : (some t444) = some r := H
   have A6 := s_a A60
   clear A60
   obtain rfl := Option.some.inj H
   go_enter Try.func38, Try.ntmps38
   go_wp2_with (first | ((with_reducible refine gate_dst (N := 2) rfl ?_); refine box_event ?hg (N := 2) ?hd (cs := #[.string a0_0, .int .i64 a0_1, .slice A0_2 l0_2.length c0_2]) (t := 74) ?hr ?_; (case hd => rfl); (case hg => rfl); (case hr => first | (go_simp; done) | (go_simp; rfl)); intro gb441 hg w7 hbox hb; have BK441 := s_a (hbox); have GW441 := s_a ((by rw [hg]; exact (below_size (by exact s_b HB.out)) : w.heap.size ≤ gb441)); have GE441 := s_a ((by rw [hg]; exact (below_size (by exact s_b HB.out)) : w.heap.size ≤ gb441)); replace HB := s_a (below_step (by exact s_b HB.out) hb); clear hb hbox hg; obtain ⟨hcz8_0, hcz8_1, hcz8_2⟩ := cells74 BK441.out) | ((with_reducible refine gate_callee (f := 45) rfl ?_); refine goesL_ (some 11) rfl rfl Try.func45 (by kernel_rfl) rfl #[.slice A1 l1.length c1, .string a0_0] rfl (by (try simp only [List.map_toArray, List.map_cons, List.map_nil]); first | done | rfl | (simp only [List.length_drop, List.length_take]; rfl)) ?_; (with_reducible refine (orchestratorref03_Get.calls k _ _ _ _ _ _ _ ?side1 ?side2 A3.out).mono ?_); (case side1 => exact s_D HR1.out HB.out); (case side2 => exact HC1.out); rintro e w' ⟨rfl, ⟨nd, rfl⟩⟩; refine ⟨_, rfl, ?_⟩) | (go_at_call 46; (with_reducible refine (orchestratorref03_among.calls k _ _ _ _ _ _ ?side1 ?side2 A6.out).mono ?_); (case side1 => repeat (first | exact (Kd.C_below HR0_2.out (by exact s_b HB.out)) | (with_reducible refine Kd.C_alloc ?_ _) | (with_reducible refine Kd.C_drewN ?_ _) | (with_reducible refine Kd.C_drew ?_))); (case side2 => exact HC0_2.out); rintro e w' ⟨rfl, ⟨nd, rfl⟩⟩))
   go_ret
   exact ⟨by first | rfl | (simp [errW_none, errW_some] <;> rfl) | (simp [*, errW_none, errW_some] <;> rfl), by exact s_b HB.out⟩
  ·replace c5 := Bool.eq_false_iff.mpr c5
   subst c5
   (try rw [if_neg (show ¬ (false = true) by decide)] at H)
   obtain rfl := Option.some.inj H
   go_enter Try.func38, Try.ntmps38
   go_wp2_with (first | ((with_reducible refine gate_dst (N := 2) rfl ?_); refine box_event ?hg (N := 2) ?hd (cs := #[.string a0_0, .int .i64 a0_1, .slice A0_2 l0_2.length c0_2]) (t := 74) ?hr ?_; (case hd => rfl); (case hg => rfl); (case hr => first | (go_simp; done) | (go_simp; rfl)); intro gb441 hg w9 hbox hb; have BK441 := s_a (hbox); have GW441 := s_a ((by rw [hg]; exact (below_size (by exact s_b HB.out)) : w.heap.size ≤ gb441)); have GE441 := s_a ((by rw [hg]; exact (below_size (by exact s_b HB.out)) : w.heap.size ≤ gb441)); replace HB := s_a (below_step (by exact s_b HB.out) hb); clear hb hbox hg; obtain ⟨hcz10_0, hcz10_1, hcz10_2⟩ := cells74 BK441.out) | ((with_reducible refine gate_callee (f := 45) rfl ?_); refine goesL_ (some 11) rfl rfl Try.func45 (by kernel_rfl) rfl #[.slice A1 l1.length c1, .string a0_0] rfl (by (try simp only [List.map_toArray, List.map_cons, List.map_nil]); first | done | rfl | (simp only [List.length_drop, List.length_take]; rfl)) ?_; (with_reducible refine (orchestratorref03_Get.calls k _ _ _ _ _ _ _ ?side1 ?side2 A3.out).mono ?_); (case side1 => exact s_D HR1.out HB.out); (case side2 => exact HC1.out); rintro e w' ⟨rfl, ⟨nd, rfl⟩⟩; refine ⟨_, rfl, ?_⟩))
   go_ret
   exact ⟨by first | rfl | (simp [errW_none, errW_some] <;> rfl) | (simp [*, errW_none, errW_some] <;> rfl), by exact s_b HB.out⟩
 ·rw [if_neg c4] at H
  have c4b0 : (a0_1 == 1) = false := beq_eq_false_iff_ne.mpr c4
  have c4b1 : (a0_1 != 1) = true := bne_iff_ne.mpr c4
  by_cases c11 : a0_1 = 2
  ·rw [if_pos c11] at H
   have c11b0 : (a0_1 == 2) = true := beq_iff_eq.mpr c11
   have c11b1 : (a0_1 != 2) = false := bne_eq_false_iff_eq.mpr c11
   clear c11
   by_cases c12 : t443 = true
   ·subst c12
    (try rw [if_pos rfl] at H)
    replace H := Option.bind_eq_some_iff.mp H
    obtain ⟨t445, A130, H⟩ := H
    replace H : (some (!t445)) = some r := H
    have A13 := s_a A130
    clear A130
    obtain rfl := Option.some.inj H
    go_enter Try.func38, Try.ntmps38
    go_wp2_with (first | ((with_reducible refine gate_dst (N := 2) rfl ?_); refine box_event ?hg (N := 2) ?hd (cs := #[.string a0_0, .int .i64 a0_1, .slice A0_2 l0_2.length c0_2]) (t := 74) ?hr ?_; (case hd => rfl); (case hg => rfl); (case hr => first | (go_simp; done) | (go_simp; rfl)); intro gb441 hg w14 hbox hb; have BK441 := s_a (hbox); have GW441 := s_a ((by rw [hg]; exact (below_size (by exact s_b HB.out)) : w.heap.size ≤ gb441)); have GE441 := s_a ((by rw [hg]; exact (below_size (by exact s_b HB.out)) : w.heap.size ≤ gb441)); replace HB := s_a (below_step (by exact s_b HB.out) hb); clear hb hbox hg; obtain ⟨hcz15_0, hcz15_1, hcz15_2⟩ := cells74 BK441.out) | ((with_reducible refine gate_callee (f := 45) rfl ?_); refine goesL_ (some 11) rfl rfl Try.func45 (by kernel_rfl) rfl #[.slice A1 l1.length c1, .string a0_0] rfl (by (try simp only [List.map_toArray, List.map_cons, List.map_nil]); first | done | rfl | (simp only [List.length_drop, List.length_take]; rfl)) ?_; (with_reducible refine (orchestratorref03_Get.calls k _ _ _ _ _ _ _ ?side1 ?side2 A3.out).mono ?_); (case side1 => exact s_D HR1.out HB.out); (case side2 => exact HC1.out); rintro e w' ⟨rfl, ⟨nd, rfl⟩⟩; refine ⟨_, rfl, ?_⟩) | (go_at_call 46; (with_reducible refine (orchestratorref03_among.calls k _ _ _ _ _ _ ?side1 ?side2 A13.out).mono ?_); (case side1 => repeat (first | exact (Kd.C_below HR0_2.out (by exact s_b HB.out)) | (with_reducible refine Kd.C_alloc ?_ _) | (with_reducible refine Kd.C_drewN ?_ _) | (with_reducible refine Kd.C_drew ?_))); (case side2 => exact HC0_2.out); rintro e w' ⟨rfl, ⟨nd, rfl⟩⟩))
    go_ret
    exact ⟨by first | rfl | (simp [errW_none, errW_some] <;> rfl) | (simp [*, errW_none, errW_some] <;> rfl), by exact s_b HB.out⟩
   ·replace c12 := Bool.eq_false_iff.mpr c12
    subst c12
    (try rw [if_neg (show ¬ (false = true) by decide)] at H)
    obtain rfl := Option.some.inj H
    go_enter Try.func38, Try.ntmps38
    go_wp2_with (first | ((with_reducible refine gate_dst (N := 2) rfl ?_); refine box_event ?hg (N := 2) ?hd (cs := #[.string a0_0, .int .i64 a0_1, .slice A0_2 l0_2.length c0_2]) (t := 74) ?hr ?_; (case hd => rfl); (case hg => rfl); (case hr => first | (go_simp; done) | (go_simp; rfl)); intro gb441 hg w16 hbox hb; have BK441 := s_a (hbox); have GW441 := s_a ((by rw [hg]; exact (below_size (by exact s_b HB.out)) : w.heap.size ≤ gb441)); have GE441 := s_a ((by rw [hg]; exact (below_size (by exact s_b HB.out)) : w.heap.size ≤ gb441)); replace HB := s_a (below_step (by exact s_b HB.out) hb); clear hb hbox hg; obtain ⟨hcz17_0, hcz17_1, hcz17_2⟩ := cells74 BK441.out) | ((with_reducible refine gate_callee (f := 45) rfl ?_); refine goesL_ (some 11) rfl rfl Try.func45 (by kernel_rfl) rfl #[.slice A1 l1.length c1, .string a0_0] rfl (by (try simp only [List.map_toArray, List.map_cons, List.map_nil]); first | done | rfl | (simp only [List.length_drop, List.length_take]; rfl)) ?_; (with_reducible refine (orchestratorref03_Get.calls k _ _ _ _ _ _ _ ?side1 ?side2 A3.out).mono ?_); (case side1 => exact s_D HR1.out HB.out); (case side2 => exact HC1.out); rintro e w' ⟨rfl, ⟨nd, rfl⟩⟩; refine ⟨_, rfl, ?_⟩))
    go_ret
    exact ⟨by first | rfl | (simp [errW_none, errW_some] <;> rfl) | (simp [*, errW_none, errW_some] <;> rfl), by exact s_b HB.out⟩
  ·rw [if_neg c11] at H
   have c11b0 : (a0_1 == 2) = false := beq_eq_false_iff_ne.mpr c11
   have c11b1 : (a0_1 != 2) = true := bne_iff_ne.mpr c11
   by_cases c18 : a0_1 = 3
   ·rw [if_pos c18] at H
    have c18b0 : (a0_1 == 3) = true := beq_iff_eq.mpr c18
    have c18b1 : (a0_1 != 3) = false := bne_eq_false_iff_eq.mpr c18
    clear c18
    by_cases c19 : t443 = true
    ·subst c19
     (try rw [if_pos rfl] at H)
     obtain rfl := Option.some.inj H
     go_enter Try.func38, Try.ntmps38
     go_wp2_with (first | ((with_reducible refine gate_dst (N := 2) rfl ?_); refine box_event ?hg (N := 2) ?hd (cs := #[.string a0_0, .int .i64 a0_1, .slice A0_2 l0_2.length c0_2]) (t := 74) ?hr ?_; (case hd => rfl); (case hg => rfl); (case hr => first | (go_simp; done) | (go_simp; rfl)); intro gb441 hg w20 hbox hb; have BK441 := s_a (hbox); have GW441 := s_a ((by rw [hg]; exact (below_size (by exact s_b HB.out)) : w.heap.size ≤ gb441)); have GE441 := s_a ((by rw [hg]; exact (below_size (by exact s_b HB.out)) : w.heap.size ≤ gb441)); replace HB := s_a (below_step (by exact s_b HB.out) hb); clear hb hbox hg; obtain ⟨hcz21_0, hcz21_1, hcz21_2⟩ := cells74 BK441.out) | ((with_reducible refine gate_callee (f := 45) rfl ?_); refine goesL_ (some 11) rfl rfl Try.func45 (by kernel_rfl) rfl #[.slice A1 l1.length c1, .string a0_0] rfl (by (try simp only [List.map_toArray, List.map_cons, List.map_nil]); first | done | rfl | (simp only [List.length_drop, List.length_take]; rfl)) ?_; (with_reducible refine (orchestratorref03_Get.calls k _ _ _ _ _ _ _ ?side1 ?side2 A3.out).mono ?_); (case side1 => exact s_D HR1.out HB.out); (case side2 => exact HC1.out); rintro e w' ⟨rfl, ⟨nd, rfl⟩⟩; refine ⟨_, rfl, ?_⟩))
     go_ret
     exact ⟨by first | rfl | (simp [errW_none, errW_some] <;> rfl) | (simp [*, errW_none, errW_some] <;> rfl), by exact s_b HB.out⟩
    ·replace c19 := Bool.eq_false_iff.mpr c19
     subst c19
     (try rw [if_neg (show ¬ (false = true) by decide)] at H)
     by_cases c22 : a0_1 = 4
     ·rw [if_pos c22] at H
      have c22b0 : (a0_1 == 4) = true := beq_iff_eq.mpr c22
      have c22b1 : (a0_1 != 4) = false := bne_eq_false_iff_eq.mpr c22
      clear c22
      obtain rfl := Option.some.inj H
      go_enter Try.func38, Try.ntmps38
      go_wp2_with (first | ((with_reducible refine gate_dst (N := 2) rfl ?_); refine box_event ?hg (N := 2) ?hd (cs := #[.string a0_0, .int .i64 a0_1, .slice A0_2 l0_2.length c0_2]) (t := 74) ?hr ?_; (case hd => rfl); (case hg => rfl); (case hr => first | (go_simp; done) | (go_simp; rfl)); intro gb441 hg w23 hbox hb; have BK441 := s_a (hbox); have GW441 := s_a ((by rw [hg]; exact (below_size (by exact s_b HB.out)) : w.heap.size ≤ gb441)); have GE441 := s_a ((by rw [hg]; exact (below_size (by exact s_b HB.out)) : w.heap.size ≤ gb441)); replace HB := s_a (below_step (by exact s_b HB.out) hb); clear hb hbox hg; obtain ⟨hcz24_0, hcz24_1, hcz24_2⟩ := cells74 BK441.out) | ((with_reducible refine gate_callee (f := 45) rfl ?_); refine goesL_ (some 11) rfl rfl Try.func45 (by kernel_rfl) rfl #[.slice A1 l1.length c1, .string a0_0] rfl (by (try simp only [List.map_toArray, List.map_cons, List.map_nil]); first | done | rfl | (simp only [List.length_drop, List.length_take]; rfl)) ?_; (with_reducible refine (orchestratorref03_Get.calls k _ _ _ _ _ _ _ ?side1 ?side2 A3.out).mono ?_); (case side1 => exact s_D HR1.out HB.out); (case side2 => exact HC1.out); rintro e w' ⟨rfl, ⟨nd, rfl⟩⟩; refine ⟨_, rfl, ?_⟩))
      go_ret
      exact ⟨by first | rfl | (simp [errW_none, errW_some] <;> rfl) | (simp [*, errW_none, errW_some] <;> rfl), by exact s_b HB.out⟩
     ·rw [if_neg c22] at H
      have c22b0 : (a0_1 == 4) = false := beq_eq_false_iff_ne.mpr c22
      have c22b1 : (a0_1 != 4) = true := bne_iff_ne.mpr c22
      obtain rfl := Option.some.inj H
      go_enter Try.func38, Try.ntmps38
      go_wp2_with (first | ((with_reducible refine gate_dst (N := 2) rfl ?_); refine box_event ?hg (N := 2) ?hd (cs := #[.string a0_0, .int .i64 a0_1, .slice A0_2 l0_2.length c0_2]) (t := 74) ?hr ?_; (case hd => rfl); (case hg => rfl); (case hr => first | (go_simp; done) | (go_simp; rfl)); intro gb441 hg w25 hbox hb; have BK441 := s_a (hbox); have GW441 := s_a ((by rw [hg]; exact (below_size (by exact s_b HB.out)) : w.heap.size ≤ gb441)); have GE441 := s_a ((by rw [hg]; exact (below_size (by exact s_b HB.out)) : w.heap.size ≤ gb441)); replace HB := s_a (below_step (by exact s_b HB.out) hb); clear hb hbox hg; obtain ⟨hcz26_0, hcz26_1, hcz26_2⟩ := cells74 BK441.out) | ((with_reducible refine gate_callee (f := 45) rfl ?_); refine goesL_ (some 11) rfl rfl Try.func45 (by kernel_rfl) rfl #[.slice A1 l1.length c1, .string a0_0] rfl (by (try simp only [List.map_toArray, List.map_cons, List.map_nil]); first | done | rfl | (simp only [List.length_drop, List.length_take]; rfl)) ?_; (with_reducible refine (orchestratorref03_Get.calls k _ _ _ _ _ _ _ ?side1 ?side2 A3.out).mono ?_); (case side1 => exact s_D HR1.out HB.out); (case side2 => exact HC1.out); rintro e w' ⟨rfl, ⟨nd, rfl⟩⟩; refine ⟨_, rfl, ?_⟩))
      go_ret
      exact ⟨by first | rfl | (simp [errW_none, errW_some] <;> rfl) | (simp [*, errW_none, errW_some] <;> rfl), by exact s_b HB.out⟩
   ·rw [if_neg c18] at H
    have c18b0 : (a0_1 == 3) = false := beq_eq_false_iff_ne.mpr c18
    have c18b1 : (a0_1 != 3) = true := bne_iff_ne.mpr c18
    by_cases c27 : a0_1 = 4
    ·rw [if_pos c27] at H
     have c27b0 : (a0_1 == 4) = true := beq_iff_eq.mpr c27
     have c27b1 : (a0_1 != 4) = false := bne_eq_false_iff_eq.mpr c27
     clear c27
     obtain rfl := Option.some.inj H
     go_enter Try.func38, Try.ntmps38
     go_wp2_with (first | ((with_reducible refine gate_dst (N := 2) rfl ?_); refine box_event ?hg (N := 2) ?hd (cs := #[.string a0_0, .int .i64 a0_1, .slice A0_2 l0_2.length c0_2]) (t := 74) ?hr ?_; (case hd => rfl); (case hg => rfl); (case hr => first | (go_simp; done) | (go_simp; rfl)); intro gb441 hg w28 hbox hb; have BK441 := s_a (hbox); have GW441 := s_a ((by rw [hg]; exact (below_size (by exact s_b HB.out)) : w.heap.size ≤ gb441)); have GE441 := s_a ((by rw [hg]; exact (below_size (by exact s_b HB.out)) : w.heap.size ≤ gb441)); replace HB := s_a (below_step (by exact s_b HB.out) hb); clear hb hbox hg; obtain ⟨hcz29_0, hcz29_1, hcz29_2⟩ := cells74 BK441.out) | ((with_reducible refine gate_callee (f := 45) rfl ?_); refine goesL_ (some 11) rfl rfl Try.func45 (by kernel_rfl) rfl #[.slice A1 l1.length c1, .string a0_0] rfl (by (try simp only [List.map_toArray, List.map_cons, List.map_nil]); first | done | rfl | (simp only [List.length_drop, List.length_take]; rfl)) ?_; (with_reducible refine (orchestratorref03_Get.calls k _ _ _ _ _ _ _ ?side1 ?side2 A3.out).mono ?_); (case side1 => exact s_D HR1.out HB.out); (case side2 => exact HC1.out); rintro e w' ⟨rfl, ⟨nd, rfl⟩⟩; refine ⟨_, rfl, ?_⟩))
     go_ret
     exact ⟨by first | rfl | (simp [errW_none, errW_some] <;> rfl) | (simp [*, errW_none, errW_some] <;> rfl), by exact s_b HB.out⟩
    ·rw [if_neg c27] at H
     have c27b0 : (a0_1 == 4) = false := beq_eq_false_iff_ne.mpr c27
     have c27b1 : (a0_1 != 4) = true := bne_iff_ne.mpr c27
     obtain rfl := Option.some.inj H
     go_enter Try.func38, Try.ntmps38
     go_wp2_with (first | ((with_reducible refine gate_dst (N := 2) rfl ?_); refine box_event ?hg (N := 2) ?hd (cs := #[.string a0_0, .int .i64 a0_1, .slice A0_2 l0_2.length c0_2]) (t := 74) ?hr ?_; (case hd => rfl); (case hg => rfl); (case hr => first | (go_simp; done) | (go_simp; rfl)); intro gb441 hg w30 hbox hb; have BK441 := s_a (hbox); have GW441 := s_a ((by rw [hg]; exact (below_size (by exact s_b HB.out)) : w.heap.size ≤ gb441)); have GE441 := s_a ((by rw [hg]; exact (below_size (by exact s_b HB.out)) : w.heap.size ≤ gb441)); replace HB := s_a (below_step (by exact s_b HB.out) hb); clear hb hbox hg; obtain ⟨hcz31_0, hcz31_1, hcz31_2⟩ := cells74 BK441.out) | ((with_reducible refine gate_callee (f := 45) rfl ?_); refine goesL_ (some 11) rfl rfl Try.func45 (by kernel_rfl) rfl #[.slice A1 l1.length c1, .string a0_0] rfl (by (try simp only [List.map_toArray, List.map_cons, List.map_nil]); first | done | rfl | (simp only [List.length_drop, List.length_take]; rfl)) ?_; (with_reducible refine (orchestratorref03_Get.calls k _ _ _ _ _ _ _ ?side1 ?side2 A3.out).mono ?_); (case side1 => exact s_D HR1.out HB.out); (case side2 => exact HC1.out); rintro e w' ⟨rfl, ⟨nd, rfl⟩⟩; refine ⟨_, rfl, ?_⟩))
     go_ret
     exact ⟨by first | rfl | (simp [errW_none, errW_some] <;> rfl) | (simp [*, errW_none, errW_some] <;> rfl), by exact s_b HB.out⟩
def orchestratorref03_Matches.l0 : Nat → List (S74) → List (S72) → Int → Option (Bool)
 | 0, _, _, _ => none
 | k + 1, x0, x1, x5 => if x5 < (x0.length : Int) then (if 0 ≤ x5 then ((orchestratorref03_holds.f k ((rd_T74 x0 x5).f0) ((rd_T74 x0 x5).f1) ((rd_T74 x0 x5).f2) x1).bind fun t447 => (if t447 = true then (orchestratorref03_Matches.l0 k x0 x1 (wrap64 (x5 + 1))) else (some false))) else (none)) else (some true)
def orchestratorref03_Matches.f (k : Nat) (l0 : List (S74)) (l1 : List (S72)) : Option (Bool) := orchestratorref03_Matches.l0 k l0 l1 0
theorem orchestratorref03_Matches.mono_l : ∀ k, (∀ y0 y1 y2, LeO (orchestratorref03_Matches.l0 k y0 y1 y2) (orchestratorref03_Matches.l0 (k + 1) y0 y1 y2))
 | 0 => fun _ _ _ r h => by simp [orchestratorref03_Matches.l0] at h
 | k + 1 => by
  have ih0 := orchestratorref03_Matches.mono_l k
  ·intro y0 y1 y2
   unfold orchestratorref03_Matches.l0
   repeat' first
   | (with_reducible exact ih0 _ _ _)
   | (with_reducible exact orchestratorref03_holds.mono _ _ _ _ _)
   | (with_reducible exact LeO.refl _)
   | (with_reducible exact LeO.none _)
   | (with_reducible refine LeO.ite ?_ ?_)
   | (with_reducible refine LeO.bind ?_ (fun _ => ?_))
   | exact ih0 _ _ _
   | exact orchestratorref03_holds.mono _ _ _ _ _
   | exact LeO.none _
   | refine LeO.ite ?_ ?_
   | refine LeO.bind ?_ (fun _ => ?_)
theorem orchestratorref03_Matches.mono : ∀ a0 a1 k, LeO (orchestratorref03_Matches.f k a0 a1) (orchestratorref03_Matches.f (k + 1) a0 a1) := by
 intro a0 a1 k
 have ih0 := orchestratorref03_Matches.mono_l k
 unfold orchestratorref03_Matches.f
 repeat' first
   | (with_reducible exact ih0 _ _ _)
   | (with_reducible exact orchestratorref03_holds.mono _ _ _ _ _)
   | (with_reducible exact LeO.refl _)
   | (with_reducible exact LeO.none _)
   | (with_reducible refine LeO.ite ?_ ?_)
   | (with_reducible refine LeO.bind ?_ (fun _ => ?_))
   | exact ih0 _ _ _
   | exact orchestratorref03_holds.mono _ _ _ _ _
   | exact LeO.none _
   | refine LeO.ite ?_ ?_
   | refine LeO.bind ?_ (fun _ => ?_)
set_option maxHeartbeats 8000000 in
set_option maxRecDepth 100000 in
theorem orchestratorref03_Matches.calls (k : Nat) (A0 : Option Addr) (c0 : Nat) (l0 : List (S74)) (A1 : Option Addr) (c1 : Nat) (l1 : List (S72)) (r : Bool) (w : World) (hr0 : Kd.C k74 w A0 l0.length l0) (hc0 : l0.length ≤ c0) (hr1 : Kd.C k72 w A1 l1.length l1) (hc1 : l1.length ≤ c1) (h : orchestratorref03_Matches.f k l0 l1 = some r) :
  Calls Try.prog 28 #[.slice A0 l0.length c0, .slice A1 l1.length c1] w fun e w' => e = .returned (.bool r) ∧ Below w.heap.size w w' := by
 have hu74 := Try.underlying74
 have HR0 := s_a hr0
 have HC0 := s_a hc0
 clear hr0 hc0
 have HR1 := s_a hr1
 have HC1 := s_a hc1
 clear hr1 hc1
 have HB := s_a (Below.refl w.heap.size w)
 have H : (orchestratorref03_Matches.l0 k l0 l1 0) = some r := h
 clear h
 have H' := s_a H
 clear H
 go_enter Try.func28, Try.ntmps28
 go_wp2
 go_loopg [5] k (fun kq v5 w' => ∃ (x5_1 : Int), v5 = .int .i64 x5_1 ∧ Aside0 (orchestratorref03_Matches.l0 kq l0 l1 x5_1 = some r) ∧ Aside0 (kq ≤ k) ∧ Aside0 (Below w.heap.size w w'))
 case atStart => exact ⟨(0), (by first | rfl | (simp; done) | (simp [*]; done)), H', ⟨Nat.le_refl _⟩, ⟨by exact s_b HB.out⟩⟩
 case round =>
  clear H'
  try clear c1
  try clear c2
  try clear p2
  obtain ⟨x5_1, rfl, HA, HK1, HB⟩ := hrel
  cases gk with
  | zero => exact absurd HA.out (by simp [orchestratorref03_Matches.l0])
  | succ k1 =>
   have H := HA.out
   clear HA
   simp only [orchestratorref03_Matches.l0] at H
   by_cases c3 : x5_1 < (l0.length : Int)
   ·rw [if_pos c3] at H
    have c3b0 : decide (x5_1 < (l0.length : Int)) = true := decide_eq_true c3
    clear c3
    by_cases c4 : 0 ≤ x5_1
    ·rw [if_pos c4] at H
     have c4b0 : decide (0 ≤ x5_1) = true := decide_eq_true c4
     clear c4
     replace H := Option.bind_eq_some_iff.mp H
     obtain ⟨t447, A50, H⟩ := H
     replace H : (if t447 = true then (orchestratorref03_Matches.l0 k1 l0 l1 (wrap64 (x5_1 + 1))) else (some false)) = some r := H
     have A5 := s_a A50
     clear A50
     by_cases c6 : t447 = true
     ·subst c6
      (try rw [if_pos rfl] at H)
      have H' := s_a H
      clear H
      have p446 : 0 ≤ (x5_1 : Int) := of_decide_eq_true (by first | (with_reducible assumption) | assumption)
      have q446 : x5_1 < (l0.length : Int) := of_decide_eq_true (by first | (with_reducible assumption) | assumption)
      obtain ⟨ad446, A446_2, c446_2, e446, hx446_0, hx446_1, hx446_2, hl446_2, hi446_2⟩ := at_T74 HR0.out x5_1 p446 q446
      cases e446
      replace hx446_0 := s_m HB.out hx446_0
      replace hx446_1 := s_m HB.out hx446_1
      replace hx446_2 := s_m HB.out hx446_2
      have HR446_2 := s_a hi446_2
      have HC446_2 := s_a hl446_2
      clear hi446_2 hl446_2
      replace p446 := eq_true p446
      replace q446 := eq_true q446
      go_wp2_with (first | ((with_reducible refine gate_callee (f := 38) rfl ?_); refine goesL_ (some 17) rfl rfl Try.func38 (by kernel_rfl) rfl #[.agg #[.string ((rd_T74 l0 x5_1).f0), .int .i64 ((rd_T74 l0 x5_1).f1), .slice A446_2 ((rd_T74 l0 x5_1).f2).length c446_2], .slice A1 l1.length c1] rfl (by (try simp only [List.map_toArray, List.map_cons, List.map_nil]); first | done | rfl | (simp only [List.length_drop, List.length_take]; rfl)) ?_; (with_reducible refine (orchestratorref03_holds.calls k1 _ _ _ _ _ _ _ _ _ _ ?side1 ?side2 ?side3 ?side4 A5.out).mono ?_); (case side1 => exact s_D HR446_2.out HB.out); (case side2 => exact HC446_2.out); (case side3 => exact s_D HR1.out HB.out); (case side4 => exact HC1.out); rintro e w7 ⟨rfl, hb⟩; refine ⟨_, rfl, ?_⟩; replace HB := s_a (below_step (by exact s_b HB.out) hb); (try clear hb)))
      go_roundg k1
      case measure => have := HK1.out; omega
      case rel => exact ⟨(wrap64 (x5_1 + 1)), (by first | rfl | (simp; done) | (simp [*]; done)), H', ⟨by have := HK1.out; omega⟩, ⟨by exact s_b HB.out⟩⟩
     ·replace c6 := Bool.eq_false_iff.mpr c6
      subst c6
      (try rw [if_neg (show ¬ (false = true) by decide)] at H)
      obtain rfl := Option.some.inj H
      have p446 : 0 ≤ (x5_1 : Int) := of_decide_eq_true (by first | (with_reducible assumption) | assumption)
      have q446 : x5_1 < (l0.length : Int) := of_decide_eq_true (by first | (with_reducible assumption) | assumption)
      obtain ⟨ad446, A446_2, c446_2, e446, hx446_0, hx446_1, hx446_2, hl446_2, hi446_2⟩ := at_T74 HR0.out x5_1 p446 q446
      cases e446
      replace hx446_0 := s_m HB.out hx446_0
      replace hx446_1 := s_m HB.out hx446_1
      replace hx446_2 := s_m HB.out hx446_2
      have HR446_2 := s_a hi446_2
      have HC446_2 := s_a hl446_2
      clear hi446_2 hl446_2
      replace p446 := eq_true p446
      replace q446 := eq_true q446
      go_wp2_with (first | ((with_reducible refine gate_callee (f := 38) rfl ?_); refine goesL_ (some 17) rfl rfl Try.func38 (by kernel_rfl) rfl #[.agg #[.string ((rd_T74 l0 x5_1).f0), .int .i64 ((rd_T74 l0 x5_1).f1), .slice A446_2 ((rd_T74 l0 x5_1).f2).length c446_2], .slice A1 l1.length c1] rfl (by (try simp only [List.map_toArray, List.map_cons, List.map_nil]); first | done | rfl | (simp only [List.length_drop, List.length_take]; rfl)) ?_; (with_reducible refine (orchestratorref03_holds.calls k1 _ _ _ _ _ _ _ _ _ _ ?side1 ?side2 ?side3 ?side4 A5.out).mono ?_); (case side1 => exact s_D HR446_2.out HB.out); (case side2 => exact HC446_2.out); (case side3 => exact s_D HR1.out HB.out); (case side4 => exact HC1.out); rintro e w8 ⟨rfl, hb⟩; refine ⟨_, rfl, ?_⟩; replace HB := s_a (below_step (by exact s_b HB.out) hb); (try clear hb)))
      go_ret
      exact ⟨by first | rfl | (simp [errW_none, errW_some] <;> rfl) | (simp [*, errW_none, errW_some] <;> rfl), by exact s_b HB.out⟩
    ·rw [if_neg c4] at H
     exact absurd H (by simp)
   ·rw [if_neg c3] at H
    have c3b0 : decide (x5_1 < (l0.length : Int)) = false := decide_eq_false c3
    clear c3
    obtain rfl := Option.some.inj H
    go_wp2
    go_ret
    exact ⟨by first | rfl | (simp [errW_none, errW_some] <;> rfl) | (simp [*, errW_none, errW_some] <;> rfl), by exact s_b HB.out⟩
end Go.Proofs.Ytkdikhonafbgdaa.Q
