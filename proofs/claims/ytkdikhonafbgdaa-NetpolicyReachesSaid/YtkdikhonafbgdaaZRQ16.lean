/- Part of a claim: see its row. Conditions: stated at each. -/
import Derived.Test.YtkdikhonafbgdaaZRQ0
import Derived.Test.YtkdikhonafbgdaaZRQ2
import Derived.Test.YtkdikhonafbgdaaZRQ6
import Derived.Test.YtkdikhonafbgdaaZRQ7
import Derived.Test.YtkdikhonafbgdaaZRQ8
import Derived.Test.YtkdikhonafbgdaaZRQ9
namespace Go.Proofs.Ytkdikhonafbgdaa.Q
open Go.RowKit Go.Proofs.YtkdikhonafbgdaaW.PrintWords Go.Proofs.YtkdikhonafbgdaaW.PrintLast Go.Proofs.YtkdikhonafbgdaaW.PrintMore Go.Proofs.Ytkdikhonafbgdaa.Sh
attribute [local go_sem] max2_int min2_int max_two min_two max_three min_three max_four min_four
set_option linter.unusedVariables false
set_option linter.unusedSimpArgs false
mutual
def orchestratorlaw57_NetpolicyReaches.j0 : Nat → List (S54) → List (S41) → Int → Bool → Option (Bool)
 | 0, _, _, _, _ => none
 | k + 1, x0, x1, x2, x17 => if x17 = true then ((orchestratorlaw57_lives.f k).bind fun t493 => (if t493 = true then (some true) else (some false))) else (orchestratorlaw57_NetpolicyReaches.l0 k x0 x1 x2 ([] : List (S48)) 0)
def orchestratorlaw57_NetpolicyReaches.l0 : Nat → List (S54) → List (S41) → Int → List (S48) → Int → Option (Bool)
 | 0, _, _, _, _, _ => none
 | k + 1, x0, x1, x2, x7, x8 => if x8 < (x1.length : Int) then (orchestratorlaw57_NetpolicyReaches.l1 k x0 x1 x2 x7 x8 0) else ((orchestratorlaw57_lives.f k).bind fun t494 => (if t494 = true then ((netpolicy_Reach.f k x0 x1 x2).bind fun t495 => ((orchestratorref57_Pairs.f k t495 x7).bind fun t498 => (if t498 = true then (some true) else (some false)))) else (some false)))
def orchestratorlaw57_NetpolicyReaches.l1 : Nat → List (S54) → List (S41) → Int → List (S48) → Int → Int → Option (Bool)
 | 0, _, _, _, _, _, _ => none
 | k + 1, x0, x1, x2, x7, x8, x9 => if x9 < (x1.length : Int) then (if x8 = x9 then (orchestratorlaw57_NetpolicyReaches.l1 k x0 x1 x2 x7 x8 (wrap64 (x9 + 1))) else (if 0 ≤ x8 then (if x8 < (x1.length : Int) then (if 0 ≤ x9 then ((netpolicy_Allowed.f k x0 ((rd_T41 x1 x8).f0.f0) ((rd_T41 x1 x8).f0.f1) ((rd_T41 x1 x8).f0.f2) ((rd_T41 x1 x8).f0.f3) ((rd_T41 x1 x8).f0.f4) ((rd_T41 x1 x8).f0.f5) ((rd_T41 x1 x8).f0.f6) ((rd_T41 x1 x8).f0.f7) ((rd_T41 x1 x8).f0.f8) ((rd_T41 x1 x8).f0.f9) ((rd_T41 x1 x8).f0.f10) ((rd_T41 x1 x8).f0.f11) ((rd_T41 x1 x8).f0.f12) ((rd_T41 x1 x8).f1.f0) ((rd_T41 x1 x8).f1.f1) ((rd_T41 x1 x8).f1.f2) ((rd_T41 x1 x8).f1.f3) ((rd_T41 x1 x8).f1.f4) ((rd_T41 x1 x8).f1.f5) ((rd_T41 x1 x8).f1.f6) ((rd_T41 x1 x8).f1.f7) ((rd_T41 x1 x8).f1.f8) ((rd_T41 x1 x8).f1.f9) ((rd_T41 x1 x8).f2.f0) ((rd_T41 x1 x8).f2.f1) ((rd_T41 x1 x8).f2.f2) ((rd_T41 x1 x8).f2.f3) ((rd_T41 x1 x8).f2.f4) ((rd_T41 x1 x8).f2.f5) ((rd_T41 x1 x8).f2.f6) ((rd_T41 x1 x8).f2.f7) ((rd_T41 x1 x8).f2.f8) ((rd_T41 x1 x9).f0.f0) ((rd_T41 x1 x9).f0.f1) ((rd_T41 x1 x9).f0.f2) ((rd_T41 x1 x9).f0.f3) ((rd_T41 x1 x9).f0.f4) ((rd_T41 x1 x9).f0.f5) ((rd_T41 x1 x9).f0.f6) ((rd_T41 x1 x9).f0.f7) ((rd_T41 x1 x9).f0.f8) ((rd_T41 x1 x9).f0.f9) ((rd_T41 x1 x9).f0.f10) ((rd_T41 x1 x9).f0.f11) ((rd_T41 x1 x9).f0.f12) ((rd_T41 x1 x9).f1.f0) ((rd_T41 x1 x9).f1.f1) ((rd_T41 x1 x9).f1.f2) ((rd_T41 x1 x9).f1.f3) ((rd_T41 x1 x9).f1.f4) ((rd_T41 x1 x9).f1.f5) ((rd_T41 x1 x9).f1.f6) ((rd_T41 x1 x9).f1.f7) ((rd_T41 x1 x9).f1.f8) ((rd_T41 x1 x9).f1.f9) ((rd_T41 x1 x9).f2.f0) ((rd_T41 x1 x9).f2.f1) ((rd_T41 x1 x9).f2.f2) ((rd_T41 x1 x9).f2.f3) ((rd_T41 x1 x9).f2.f4) ((rd_T41 x1 x9).f2.f5) ((rd_T41 x1 x9).f2.f6) ((rd_T41 x1 x9).f2.f7) ((rd_T41 x1 x9).f2.f8) x2).bind fun t501 => (if t501 = true then (if x7.length < 8796093022208 then (orchestratorlaw57_NetpolicyReaches.l1 k x0 x1 x2 (x7 ++ [(⟨x8, x9⟩ : S48)]) x8 (wrap64 (x9 + 1))) else (none)) else (orchestratorlaw57_NetpolicyReaches.l1 k x0 x1 x2 x7 x8 (wrap64 (x9 + 1))))) else (none)) else (none)) else (none))) else (orchestratorlaw57_NetpolicyReaches.l0 k x0 x1 x2 x7 (wrap64 (x8 + 1)))
end
def orchestratorlaw57_NetpolicyReaches.f (k : Nat) (l0 : List (S54)) (l1 : List (S41)) (a2 : Int) : Option (Bool) := (orchestratorlaw57_small.f k l0).bind fun t492 => (if t492 = true then (orchestratorlaw57_NetpolicyReaches.j0 k l0 l1 a2 (decide ((l1.length : Int) > 12))) else (orchestratorlaw57_NetpolicyReaches.j0 k l0 l1 a2 true))
theorem orchestratorlaw57_NetpolicyReaches.mono_l : ∀ k, (∀ y0 y1 y2 y3, LeO (orchestratorlaw57_NetpolicyReaches.j0 k y0 y1 y2 y3) (orchestratorlaw57_NetpolicyReaches.j0 (k + 1) y0 y1 y2 y3)) ∧ (∀ y0 y1 y2 y3 y4, LeO (orchestratorlaw57_NetpolicyReaches.l0 k y0 y1 y2 y3 y4) (orchestratorlaw57_NetpolicyReaches.l0 (k + 1) y0 y1 y2 y3 y4)) ∧ (∀ y0 y1 y2 y3 y4 y5, LeO (orchestratorlaw57_NetpolicyReaches.l1 k y0 y1 y2 y3 y4 y5) (orchestratorlaw57_NetpolicyReaches.l1 (k + 1) y0 y1 y2 y3 y4 y5))
 | 0 => ⟨fun _ _ _ _ r h => by simp [orchestratorlaw57_NetpolicyReaches.j0] at h, fun _ _ _ _ _ r h => by simp [orchestratorlaw57_NetpolicyReaches.l0] at h, fun _ _ _ _ _ _ r h => by simp [orchestratorlaw57_NetpolicyReaches.l1] at h⟩
 | k + 1 => by
  obtain ⟨ih0, ih1, ih2⟩ := orchestratorlaw57_NetpolicyReaches.mono_l k
  refine ⟨?_, ?_, ?_⟩
  ·intro y0 y1 y2 y3
   unfold orchestratorlaw57_NetpolicyReaches.j0
   repeat' first
   | (with_reducible exact ih0 _ _ _ _)
   | (with_reducible exact ih1 _ _ _ _ _)
   | (with_reducible exact ih2 _ _ _ _ _ _)
   | (with_reducible exact netpolicy_Allowed.mono _ _ _ _ _ _ _ _ _ _ _ _ _ _ _ _ _ _ _ _ _ _ _ _ _ _ _ _ _ _ _ _ _ _ _ _ _ _ _ _ _ _ _ _ _ _ _ _ _ _ _ _ _ _ _ _ _ _ _ _ _ _ _ _ _ _ _)
   | (with_reducible exact netpolicy_Reach.mono _ _ _ _)
   | (with_reducible exact orchestratorlaw57_lives.mono _)
   | (with_reducible exact orchestratorlaw57_small.mono _ _)
   | (with_reducible exact orchestratorref57_Pairs.mono _ _ _)
   | (with_reducible exact LeO.refl _)
   | (with_reducible exact LeO.none _)
   | (with_reducible refine LeO.ite ?_ ?_)
   | (with_reducible refine LeO.bind ?_ (fun _ => ?_))
   | exact ih0 _ _ _ _
   | exact ih1 _ _ _ _ _
   | exact ih2 _ _ _ _ _ _
   | exact netpolicy_Allowed.mono _ _ _ _ _ _ _ _ _ _ _ _ _ _ _ _ _ _ _ _ _ _ _ _ _ _ _ _ _ _ _ _ _ _ _ _ _ _ _ _ _ _ _ _ _ _ _ _ _ _ _ _ _ _ _ _ _ _ _ _ _ _ _ _ _ _ _
   | exact netpolicy_Reach.mono _ _ _ _
   | exact orchestratorlaw57_lives.mono _
   | exact orchestratorlaw57_small.mono _ _
   | exact orchestratorref57_Pairs.mono _ _ _
   | exact LeO.none _
   | refine LeO.ite ?_ ?_
   | refine LeO.bind ?_ (fun _ => ?_)
  ·intro y0 y1 y2 y3 y4
   unfold orchestratorlaw57_NetpolicyReaches.l0
   repeat' first
   | (with_reducible exact ih0 _ _ _ _)
   | (with_reducible exact ih1 _ _ _ _ _)
   | (with_reducible exact ih2 _ _ _ _ _ _)
   | (with_reducible exact netpolicy_Allowed.mono _ _ _ _ _ _ _ _ _ _ _ _ _ _ _ _ _ _ _ _ _ _ _ _ _ _ _ _ _ _ _ _ _ _ _ _ _ _ _ _ _ _ _ _ _ _ _ _ _ _ _ _ _ _ _ _ _ _ _ _ _ _ _ _ _ _ _)
   | (with_reducible exact netpolicy_Reach.mono _ _ _ _)
   | (with_reducible exact orchestratorlaw57_lives.mono _)
   | (with_reducible exact orchestratorlaw57_small.mono _ _)
   | (with_reducible exact orchestratorref57_Pairs.mono _ _ _)
   | (with_reducible exact LeO.refl _)
   | (with_reducible exact LeO.none _)
   | (with_reducible refine LeO.ite ?_ ?_)
   | (with_reducible refine LeO.bind ?_ (fun _ => ?_))
   | exact ih0 _ _ _ _
   | exact ih1 _ _ _ _ _
   | exact ih2 _ _ _ _ _ _
   | exact netpolicy_Allowed.mono _ _ _ _ _ _ _ _ _ _ _ _ _ _ _ _ _ _ _ _ _ _ _ _ _ _ _ _ _ _ _ _ _ _ _ _ _ _ _ _ _ _ _ _ _ _ _ _ _ _ _ _ _ _ _ _ _ _ _ _ _ _ _ _ _ _ _
   | exact netpolicy_Reach.mono _ _ _ _
   | exact orchestratorlaw57_lives.mono _
   | exact orchestratorlaw57_small.mono _ _
   | exact orchestratorref57_Pairs.mono _ _ _
   | exact LeO.none _
   | refine LeO.ite ?_ ?_
   | refine LeO.bind ?_ (fun _ => ?_)
  ·intro y0 y1 y2 y3 y4 y5
   unfold orchestratorlaw57_NetpolicyReaches.l1
   repeat' first
   | (with_reducible exact ih0 _ _ _ _)
   | (with_reducible exact ih1 _ _ _ _ _)
   | (with_reducible exact ih2 _ _ _ _ _ _)
   | (with_reducible exact netpolicy_Allowed.mono _ _ _ _ _ _ _ _ _ _ _ _ _ _ _ _ _ _ _ _ _ _ _ _ _ _ _ _ _ _ _ _ _ _ _ _ _ _ _ _ _ _ _ _ _ _ _ _ _ _ _ _ _ _ _ _ _ _ _ _ _ _ _ _ _ _ _)
   | (with_reducible exact netpolicy_Reach.mono _ _ _ _)
   | (with_reducible exact orchestratorlaw57_lives.mono _)
   | (with_reducible exact orchestratorlaw57_small.mono _ _)
   | (with_reducible exact orchestratorref57_Pairs.mono _ _ _)
   | (with_reducible exact LeO.refl _)
   | (with_reducible exact LeO.none _)
   | (with_reducible refine LeO.ite ?_ ?_)
   | (with_reducible refine LeO.bind ?_ (fun _ => ?_))
   | exact ih0 _ _ _ _
   | exact ih1 _ _ _ _ _
   | exact ih2 _ _ _ _ _ _
   | exact netpolicy_Allowed.mono _ _ _ _ _ _ _ _ _ _ _ _ _ _ _ _ _ _ _ _ _ _ _ _ _ _ _ _ _ _ _ _ _ _ _ _ _ _ _ _ _ _ _ _ _ _ _ _ _ _ _ _ _ _ _ _ _ _ _ _ _ _ _ _ _ _ _
   | exact netpolicy_Reach.mono _ _ _ _
   | exact orchestratorlaw57_lives.mono _
   | exact orchestratorlaw57_small.mono _ _
   | exact orchestratorref57_Pairs.mono _ _ _
   | exact LeO.none _
   | refine LeO.ite ?_ ?_
   | refine LeO.bind ?_ (fun _ => ?_)
theorem orchestratorlaw57_NetpolicyReaches.mono : ∀ a0 a1 a2 k, LeO (orchestratorlaw57_NetpolicyReaches.f k a0 a1 a2) (orchestratorlaw57_NetpolicyReaches.f (k + 1) a0 a1 a2) := by
 intro a0 a1 a2 k
 obtain ⟨ih0, ih1, ih2⟩ := orchestratorlaw57_NetpolicyReaches.mono_l k
 unfold orchestratorlaw57_NetpolicyReaches.f
 repeat' first
   | (with_reducible exact ih0 _ _ _ _)
   | (with_reducible exact ih1 _ _ _ _ _)
   | (with_reducible exact ih2 _ _ _ _ _ _)
   | (with_reducible exact netpolicy_Allowed.mono _ _ _ _ _ _ _ _ _ _ _ _ _ _ _ _ _ _ _ _ _ _ _ _ _ _ _ _ _ _ _ _ _ _ _ _ _ _ _ _ _ _ _ _ _ _ _ _ _ _ _ _ _ _ _ _ _ _ _ _ _ _ _ _ _ _ _)
   | (with_reducible exact netpolicy_Reach.mono _ _ _ _)
   | (with_reducible exact orchestratorlaw57_lives.mono _)
   | (with_reducible exact orchestratorlaw57_small.mono _ _)
   | (with_reducible exact orchestratorref57_Pairs.mono _ _ _)
   | (with_reducible exact LeO.refl _)
   | (with_reducible exact LeO.none _)
   | (with_reducible refine LeO.ite ?_ ?_)
   | (with_reducible refine LeO.bind ?_ (fun _ => ?_))
   | exact ih0 _ _ _ _
   | exact ih1 _ _ _ _ _
   | exact ih2 _ _ _ _ _ _
   | exact netpolicy_Allowed.mono _ _ _ _ _ _ _ _ _ _ _ _ _ _ _ _ _ _ _ _ _ _ _ _ _ _ _ _ _ _ _ _ _ _ _ _ _ _ _ _ _ _ _ _ _ _ _ _ _ _ _ _ _ _ _ _ _ _ _ _ _ _ _ _ _ _ _
   | exact netpolicy_Reach.mono _ _ _ _
   | exact orchestratorlaw57_lives.mono _
   | exact orchestratorlaw57_small.mono _ _
   | exact orchestratorref57_Pairs.mono _ _ _
   | exact LeO.none _
   | refine LeO.ite ?_ ?_
   | refine LeO.bind ?_ (fun _ => ?_)
def orchestratorlaw57_NetpolicyReaches.T10 : Bool × List (List Nat × List Nat) := (true, [([], []), ([], []), ([0, 1], [0, 1]), ([2], [2]), ([3], [3]), ([3], [3]), ([3], [3]), ([5, 6, 3], [3, 5, 6]), ([7, 3], [3, 7]), ([3], [3]), ([3], [3]), ([9, 10, 3], [3, 9, 10]), ([11, 3], [3, 11]), ([3], [3]), ([4, 8, 12, 13, 3, 3], [3, 4, 8, 12, 13]), ([3, 14], [3, 14])])
def orchestratorlaw57_NetpolicyReaches.B10 : List Nat := [0, 0, 3, 7, 15, 15, 15, 111, 239, 15, 15, 1551, 3599, 15, 16383, 32767]
theorem orchestratorlaw57_NetpolicyReaches.tab10 : rtab .any (opsOf Try.f4 10) = orchestratorlaw57_NetpolicyReaches.T10 := by kernel_rfl
theorem orchestratorlaw57_NetpolicyReaches.bits10 : waitsOk orchestratorlaw57_NetpolicyReaches.T10.2 orchestratorlaw57_NetpolicyReaches.B10 = true := by kernel_rfl
set_option maxHeartbeats 8000000 in
set_option maxRecDepth 100000 in
theorem orchestratorlaw57_NetpolicyReaches.calls (k : Nat) (A0 : Option Addr) (c0 : Nat) (l0 : List (S54)) (A1 : Option Addr) (c1 : Nat) (l1 : List (S41)) (a2 : Int) (w : World) (hr0 : Kd.C k54 w A0 l0.length l0) (hc0 : l0.length ≤ c0) (hr1 : Kd.C k41 w A1 l1.length l1) (hc1 : l1.length ≤ c1) (h : orchestratorlaw57_NetpolicyReaches.f k l0 l1 a2 = some true) :
  Calls Try.prog 4 #[.slice A0 l0.length c0, .slice A1 l1.length c1, .int .i64 a2] w fun e w' => e = .returned (.bool true) ∧ Below w.heap.size w w' := by
 have hu41 := Try.underlying41
 have hu48 := Try.underlying48
 have HR0 := s_a hr0
 have HC0 := s_a hc0
 clear hr0 hc0
 have HR1 := s_a hr1
 have HC1 := s_a hc1
 clear hr1 hc1
 have HB := s_a (Below.refl w.heap.size w)
 have H : ((orchestratorlaw57_small.f k l0).bind fun t492 => (if t492 = true then (orchestratorlaw57_NetpolicyReaches.j0 k l0 l1 a2 (decide ((l1.length : Int) > 12))) else (orchestratorlaw57_NetpolicyReaches.j0 k l0 l1 a2 true))) = some true := h
 clear h
 have HC4 := s_a H
 clear H
 go_enter Try.func4, Try.ntmps4
 go_upto_region 1 with (fail)
 go_cut [17] (fun v17 wc => ∃ (kq : Nat) (x17_3 : Bool), v17 = .bool x17_3 ∧ Aside0 (orchestratorlaw57_NetpolicyReaches.j0 kq l0 l1 a2 x17_3 = some true) ∧ Aside0 (kq ≤ k) ∧ Aside0 (Below w.heap.size w wc))
 case first =>
  have H := HC4.out
  clear HC4
  replace H := Option.bind_eq_some_iff.mp H
  obtain ⟨t492, A50, H⟩ := H
  replace H : (if t492 = true then (orchestratorlaw57_NetpolicyReaches.j0 k l0 l1 a2 (decide ((l1.length : Int) > 12))) else (orchestratorlaw57_NetpolicyReaches.j0 k l0 l1 a2 true)) = some true := H
  have A5 := s_a A50
  clear A50
  by_cases c6 : t492 = true
  ·subst c6
   have H1 : (orchestratorlaw57_NetpolicyReaches.j0 k l0 l1 a2 (decide ((l1.length : Int) > 12))) = some true := by first | (rw [if_pos rfl] at H; exact H) | rfl
   clear H
   have H := H1
   clear H1
   have H' := s_a H
   clear H
   go_wp2_with (first | ((with_reducible refine gate_callee (f := 7) rfl ?_); refine goesL_ (some 11) rfl rfl Try.func7 (by kernel_rfl) rfl #[.slice A0 l0.length c0] rfl (by (try simp only [List.map_toArray, List.map_cons, List.map_nil]); first | done | rfl | (simp only [List.length_drop, List.length_take]; rfl)) ?_; (with_reducible refine (orchestratorlaw57_small.calls k _ _ _ _ _ ?side1 ?side2 A5.out).mono ?_); (case side1 => exact s_C (Kd.C_below HR0.out HB.out)); (case side2 => exact HC0.out); rintro e w' ⟨rfl, ⟨nd, rfl⟩⟩; refine ⟨_, rfl, ?_⟩))
   go_meet
   case rel => exact ⟨_, (decide ((l1.length : Int) > 12)), (by first | rfl | (simp; done) | (simp [*]; done)), H', ⟨by first | omega | exact Nat.le_refl _⟩, ⟨by exact s_b HB.out⟩⟩
  ·replace c6 := Bool.eq_false_iff.mpr c6
   subst c6
   have H1 : (orchestratorlaw57_NetpolicyReaches.j0 k l0 l1 a2 true) = some true := by first | (rw [if_neg (show ¬ (false = true) by decide)] at H; exact H) | rfl
   clear H
   have H := H1
   clear H1
   have H' := s_a H
   clear H
   go_wp2_with (first | ((with_reducible refine gate_callee (f := 7) rfl ?_); refine goesL_ (some 11) rfl rfl Try.func7 (by kernel_rfl) rfl #[.slice A0 l0.length c0] rfl (by (try simp only [List.map_toArray, List.map_cons, List.map_nil]); first | done | rfl | (simp only [List.length_drop, List.length_take]; rfl)) ?_; (with_reducible refine (orchestratorlaw57_small.calls k _ _ _ _ _ ?side1 ?side2 A5.out).mono ?_); (case side1 => exact s_C (Kd.C_below HR0.out HB.out)); (case side2 => exact HC0.out); rintro e w' ⟨rfl, ⟨nd, rfl⟩⟩; refine ⟨_, rfl, ?_⟩))
   go_meet
   case rel => exact ⟨_, (true), (by first | rfl | (simp; done) | (simp [*]; done)), H', ⟨by first | omega | exact Nat.le_refl _⟩, ⟨by exact s_b HB.out⟩⟩
 case rest =>
  clear HC4
  try clear c1
  try clear p2
  try clear c4
  try clear c6
  obtain ⟨kq, x17_3, rfl, HA, HJ3, HB⟩ := hcut
  cases kq with
  | zero => exact absurd HA.out (by simp [orchestratorlaw57_NetpolicyReaches.j0])
  | succ kj3 =>
   have H := HA.out
   clear HA
   simp only [orchestratorlaw57_NetpolicyReaches.j0] at H
   by_cases c7 : x17_3 = true
   ·subst c7
    have H1 : ((orchestratorlaw57_lives.f kj3).bind fun t493 => (if t493 = true then (some true) else (some false))) = some true := by first | (rw [if_pos rfl] at H; exact H) | rfl
    clear H
    have H := H1
    clear H1
    replace H := Option.bind_eq_some_iff.mp H
    obtain ⟨t493, A80, H⟩ := H
    replace H : (if t493 = true then (some true) else (some false)) = some true := H
    have A8 := s_a A80
    clear A80
    by_cases c9 : t493 = true
    ·subst c9
     have H1 : (some true) = some true := by first | (rw [if_pos rfl] at H; exact H) | rfl
     clear H
     have H := H1
     clear H1
     clear H
     go_wp2_with (first | ((with_reducible refine gate_callee (f := 8) rfl ?_); refine goesL_ (some 18) rfl rfl Try.func8 (by kernel_rfl) rfl #[] rfl (by (try simp only [List.map_toArray, List.map_cons, List.map_nil]); first | done | rfl | (simp only [List.length_drop, List.length_take]; rfl)) ?_; (with_reducible refine (orchestratorlaw57_lives.calls kj3   _ A8.out).mono ?_); rintro e w10 ⟨rfl, hb⟩; refine ⟨_, rfl, ?_⟩; replace HB := s_a (below_step (by exact s_b HB.out) hb); (try clear hb); (try clear hb2); (try clear hk); (try clear hi)))
     go_ret
     exact ⟨by first | rfl | (simp [errW_none, errW_some] <;> rfl) | (simp [*, errW_none, errW_some] <;> rfl), by exact s_b HB.out⟩
    ·replace c9 := Bool.eq_false_iff.mpr c9
     subst c9
     have H1 : (some false) = some true := by first | (rw [if_neg (show ¬ (false = true) by decide)] at H; exact H) | rfl
     clear H
     have H := H1
     clear H1
     exact absurd H (by simp)
   ·replace c7 := Bool.eq_false_iff.mpr c7
    subst c7
    have H1 : (orchestratorlaw57_NetpolicyReaches.l0 kj3 l0 l1 a2 ([] : List (S48)) 0) = some true := by first | (rw [if_neg (show ¬ (false = true) by decide)] at H; exact H) | rfl
    clear H
    have H := H1
    clear H1
    have H' := s_a H
    clear H
    go_wp2
    go_loopg [7, 8] kj3 (fun kq v7 v8 w' => ∃ (x7_2 : List (S48)) (x8_2 : Int), v8 = .int .i64 x8_2 ∧ Aside0 (orchestratorlaw57_NetpolicyReaches.l0 kq l0 l1 a2 x7_2 x8_2 = some true) ∧ Aside0 (kq ≤ kj3) ∧ Aside0 (Kd.R k48 48 w' w.heap.size (fun _ => True) v7 x7_2) ∧ Aside0 (Below w.heap.size w w'))
    case atStart => exact ⟨(([] : List (S48))), (0), (by first | rfl | (simp; done) | (simp [*]; done)), H', ⟨Nat.le_refl _⟩, ⟨by first | exact Kd.R_nil _ _ _ _ _ | exact Kd.N_nil _ _ _ _ _ | exact Kd.V_nil _ _ _ _ _ | exact Kd.Q_nil _ _ _ _ _ | exact Kd.S_nil _ _ _ _ _⟩, ⟨by exact s_b HB.out⟩⟩
    case round =>
     clear H'
     try clear c1
     try clear p2
     try clear c4
     try clear c6
     try clear c7
     try clear c8
     try clear c9
     try clear p2
     obtain ⟨x7_2, x8_2, rfl, HA, HK2, HO_7, HB⟩ := hrel
     cases gk with
     | zero => exact absurd HA.out (by simp [orchestratorlaw57_NetpolicyReaches.l0])
     | succ k2 =>
      have H := HA.out
      clear HA
      simp only [orchestratorlaw57_NetpolicyReaches.l0] at H
      by_cases c11 : x8_2 < (l1.length : Int)
      ·rw [if_pos c11] at H
       have c11b0 : decide (x8_2 < (l1.length : Int)) = true := decide_eq_true c11
       clear c11
       have H' := s_a H
       clear H
       go_wp2
       go_loopg [7, 9] k2 (fun kq v7 v9 w' => ∃ (x7_3 : List (S48)) (x9_3 : Int), v9 = .int .i64 x9_3 ∧ Aside0 (orchestratorlaw57_NetpolicyReaches.l1 kq l0 l1 a2 x7_3 x8_2 x9_3 = some true) ∧ Aside0 (kq ≤ k2) ∧ Aside0 (Kd.R k48 48 w' w.heap.size (fun _ => True) v7 x7_3) ∧ Aside0 (Below w.heap.size w w'))
       case atStart => exact ⟨(x7_2), (0), (by first | rfl | (simp; done) | (simp [*]; done)), H', ⟨Nat.le_refl _⟩, ⟨by exact s_R (HO_7.out)⟩, ⟨by exact s_b HB.out⟩⟩
       case round =>
        clear H'
        try clear c1
        try clear p2
        try clear c4
        try clear c6
        try clear c7
        try clear c8
        try clear c9
        try clear c11
        try clear c11b0
        try clear p2
        obtain ⟨x7_3, x9_3, rfl, HA, HK3, HO_7, HB⟩ := hrel
        cases gk with
        | zero => exact absurd HA.out (by simp [orchestratorlaw57_NetpolicyReaches.l1])
        | succ k3 =>
         have H := HA.out
         clear HA
         simp only [orchestratorlaw57_NetpolicyReaches.l1] at H
         by_cases c12 : x9_3 < (l1.length : Int)
         ·rw [if_pos c12] at H
          have c12b0 : decide (x9_3 < (l1.length : Int)) = true := decide_eq_true c12
          clear c12
          by_cases c13 : x8_2 = x9_3
          ·rw [if_pos c13] at H
           have c13b0 : (x8_2 == x9_3) = true := beq_iff_eq.mpr c13
           have c13b1 : (x8_2 != x9_3) = false := bne_eq_false_iff_eq.mpr c13
           clear c13
           have H' := s_a H
           clear H
           try go_wp2
           replace HO_7 := s_a (Kd.R_drew HO_7.out)
           replace HB := s_a (below_drew1 HB.out)
           refine start_ (n := 16) (S := fun w' => True) (ds := []) (bz 16 0) (by kernel_rfl) rfl rfl trivial (fun hHeld => ?_); refine with_tabW orchestratorlaw57_NetpolicyReaches.tab10 orchestratorlaw57_NetpolicyReaches.bits10 (fun HT_ HW_ => ?_)
           generalize wr.drew = w14 at HO_7 HB hHeld ⊢
           refine q_p 0 (some 31) (bz 16 1) (any_of HT_.out (by kernel_rfl)) (v := ?_) ?_ (a' := ?_) ?_ ?_; rotate_left 2
           ·intro w'; go_simp; with_reducible rfl
           ·simp only [Act.put, List.setIfInBounds_toArray, List.set_cons_zero, List.set_cons_succ, i64_w, i32_w]; rfl
           refine q_p 1 (some 32) (bz 16 3) (any_of HT_.out (by kernel_rfl)) (v := ?_) ?_ (a' := ?_) ?_ ?_; rotate_left 2
           ·intro w'; go_simp; with_reducible rfl
           ·simp only [Act.put, List.setIfInBounds_toArray, List.set_cons_zero, List.set_cons_succ, i64_w, i32_w]; rfl
           refine q_p 2 (some 33) (bz 16 7) (any_of HT_.out (by kernel_rfl)) (v := ?_) ?_ (a' := ?_) ?_ ?_; rotate_left 2
           ·intro w'; go_simp; with_reducible rfl
           ·simp only [Act.put, List.setIfInBounds_toArray, List.set_cons_zero, List.set_cons_succ, i64_w, i32_w]; rfl
           refine q_p 3 (some 34) (bz 16 15) (any_of HT_.out (by kernel_rfl)) (v := ?_) ?_ (a' := ?_) ?_ ?_; rotate_left 2
           ·intro w'; go_simp; with_reducible rfl
           ·simp only [Act.put, List.setIfInBounds_toArray, List.set_cons_zero, List.set_cons_succ, i64_w, i32_w]; rfl
           refine q_o 4 (some 35) (bz 16 31) (any_of HT_.out (by kernel_rfl)) (a' := ?_) ?_ ?_; rotate_left
           ·simp only [Act.put, List.setIfInBounds_toArray, List.set_cons_zero, List.set_cons_succ, i64_w, i32_w]; rfl
           refine q_o 5 (some 36) (bz 16 63) (any_of HT_.out (by kernel_rfl)) (a' := ?_) ?_ ?_; rotate_left
           ·simp only [Act.put, List.setIfInBounds_toArray, List.set_cons_zero, List.set_cons_succ, i64_w, i32_w]; rfl
           refine q_o 6 (some 37) (bz 16 127) (any_of HT_.out (by kernel_rfl)) (a' := ?_) ?_ ?_; rotate_left
           ·simp only [Act.put, List.setIfInBounds_toArray, List.set_cons_zero, List.set_cons_succ, i64_w, i32_w]; rfl
           refine q_o 7 (some 38) (bz 16 255) (any_of HT_.out (by kernel_rfl)) (a' := ?_) ?_ ?_; rotate_left
           ·simp only [Act.put, List.setIfInBounds_toArray, List.set_cons_zero, List.set_cons_succ, i64_w, i32_w]; rfl
           refine q_o 8 (some 39) (bz 16 511) (any_of HT_.out (by kernel_rfl)) (a' := ?_) ?_ ?_; rotate_left
           ·simp only [Act.put, List.setIfInBounds_toArray, List.set_cons_zero, List.set_cons_succ, i64_w, i32_w]; rfl
           refine q_o 9 (some 40) (bz 16 1023) (any_of HT_.out (by kernel_rfl)) (a' := ?_) ?_ ?_; rotate_left
           ·simp only [Act.put, List.setIfInBounds_toArray, List.set_cons_zero, List.set_cons_succ, i64_w, i32_w]; rfl
           refine q_o 10 (some 41) (bz 16 2047) (any_of HT_.out (by kernel_rfl)) (a' := ?_) ?_ ?_; rotate_left
           ·simp only [Act.put, List.setIfInBounds_toArray, List.set_cons_zero, List.set_cons_succ, i64_w, i32_w]; rfl
           refine q_o 11 (some 42) (bz 16 4095) (any_of HT_.out (by kernel_rfl)) (a' := ?_) ?_ ?_; rotate_left
           ·simp only [Act.put, List.setIfInBounds_toArray, List.set_cons_zero, List.set_cons_succ, i64_w, i32_w]; rfl
           refine q_o 12 (some 43) (bz 16 8191) (any_of HT_.out (by kernel_rfl)) (a' := ?_) ?_ ?_; rotate_left
           ·simp only [Act.put, List.setIfInBounds_toArray, List.set_cons_zero, List.set_cons_succ, i64_w, i32_w]; rfl
           refine q_o 13 (some 44) (bz 16 16383) (any_of HT_.out (by kernel_rfl)) (a' := ?_) ?_ ?_; rotate_left
           ·simp only [Act.put, List.setIfInBounds_toArray, List.set_cons_zero, List.set_cons_succ, i64_w, i32_w]; rfl
           refine q_o 14 (some 45) (bz 16 32767) (any_of HT_.out (by kernel_rfl)) (a' := ?_) ?_ ?_; rotate_left
           ·simp only [Act.put, List.setIfInBounds_toArray, List.set_cons_zero, List.set_cons_succ, i64_w, i32_w]; rfl
           refine q_p 15 (some 46) (bz 16 65535) (any_of HT_.out (by kernel_rfl)) (v := ?_) ?_ (a' := ?_) ?_ ?_; rotate_left 2
           ·intro w'; go_simp; with_reducible rfl
           ·simp only [Act.put, List.setIfInBounds_toArray, List.set_cons_zero, List.set_cons_succ, i64_w, i32_w]; rfl
           refine done_ (done_of HT_.out (by kernel_rfl)) ?_
           try go_wp2
           go_roundg k3
           case measure => have := HJ3.out; have := HK2.out; have := HK3.out; omega
           case rel => exact ⟨(x7_3), (wrap64 (x9_3 + 1)), (by first | rfl | (simp; done) | (simp [*]; done)), H', ⟨by have := HJ3.out; have := HK2.out; have := HK3.out; omega⟩, ⟨by exact s_R (HO_7.out)⟩, ⟨by exact s_b HB.out⟩⟩
          ·rw [if_neg c13] at H
           have c13b0 : (x8_2 == x9_3) = false := beq_eq_false_iff_ne.mpr c13
           have c13b1 : (x8_2 != x9_3) = true := bne_iff_ne.mpr c13
           by_cases c15 : 0 ≤ x8_2
           ·rw [if_pos c15] at H
            have c15b0 : decide (0 ≤ x8_2) = true := decide_eq_true c15
            clear c15
            by_cases c16 : x8_2 < (l1.length : Int)
            ·rw [if_pos c16] at H
             have c16b0 : decide (x8_2 < (l1.length : Int)) = true := decide_eq_true c16
             clear c16
             by_cases c17 : 0 ≤ x9_3
             ·rw [if_pos c17] at H
              have c17b0 : decide (0 ≤ x9_3) = true := decide_eq_true c17
              clear c17
              replace H := Option.bind_eq_some_iff.mp H
              obtain ⟨t501, A180, H⟩ := H
              replace H : (if t501 = true then (if x7_3.length < 8796093022208 then (orchestratorlaw57_NetpolicyReaches.l1 k3 l0 l1 a2 (x7_3 ++ [(⟨x8_2, x9_3⟩ : S48)]) x8_2 (wrap64 (x9_3 + 1))) else (none)) else (orchestratorlaw57_NetpolicyReaches.l1 k3 l0 l1 a2 x7_3 x8_2 (wrap64 (x9_3 + 1)))) = some true := H
              have A18 := s_a A180
              clear A180
              by_cases c19 : t501 = true
              ·subst c19
               have H1 : (if x7_3.length < 8796093022208 then (orchestratorlaw57_NetpolicyReaches.l1 k3 l0 l1 a2 (x7_3 ++ [(⟨x8_2, x9_3⟩ : S48)]) x8_2 (wrap64 (x9_3 + 1))) else (none)) = some true := by first | (rw [if_pos rfl] at H; exact H) | rfl
               clear H
               have H := H1
               clear H1
               by_cases c20 : x7_3.length < 8796093022208
               ·rw [if_pos c20] at H
                have LMc20 := s_a c20
                clear c20
                obtain ⟨y502, hy502⟩ : ∃ y_ : List (S48), y_ = (x7_3 ++ [(⟨x8_2, x9_3⟩ : S48)]) := ⟨_, rfl⟩
                replace H : (orchestratorlaw57_NetpolicyReaches.l1 k3 l0 l1 a2 y502 x8_2 (wrap64 (x9_3 + 1))) = some true := by first | (rw [hy502]; with_reducible exact H) | (have H2_ := (Option.bind_some _ _).symm.trans H; rw [hy502]; with_reducible exact H2_) | (have H2_ := (Option.bind_some _ _).symm.trans H; with_reducible exact H2_) | with_reducible exact H | (rw [hy502]; exact H) | exact H
                have Ny502 := s_a hy502
                clear hy502
                have H' := s_a H
                clear H
                try go_wp2
                replace HO_7 := s_a (Kd.R_drew HO_7.out)
                replace HB := s_a (below_drew1 HB.out)
                have p499 : 0 ≤ (x8_2 : Int) := of_decide_eq_true (by first | (with_reducible assumption) | assumption)
                have q499 : x8_2 < (l1.length : Int) := of_decide_eq_true (by first | (with_reducible assumption) | assumption)
                obtain ⟨ad499, A499_9, c499_9, A499_10, c499_10, A499_11, c499_11, A499_12, c499_12, A499_17, c499_17, A499_18, c499_18, A499_19, c499_19, A499_20, c499_20, A499_21, c499_21, A499_22, c499_22, A499_28, c499_28, e499, hx499_0, hx499_1, hx499_2, hx499_3, hx499_4, hx499_5, hx499_6, hx499_7, hx499_8, hx499_9, hx499_10, hx499_11, hx499_12, hx499_13, hx499_14, hx499_15, hx499_16, hx499_17, hx499_18, hx499_19, hx499_20, hx499_21, hx499_22, hx499_23, hx499_24, hx499_25, hx499_26, hx499_27, hx499_28, hx499_29, hx499_30, hx499_31, hl499_9, hi499_9, hl499_10, hi499_10, hl499_11, hi499_11, hl499_12, hi499_12, hl499_17, hi499_17, hl499_18, hi499_18, hl499_19, hi499_19, hl499_20, hi499_20, hl499_21, hi499_21, hl499_22, hi499_22, hl499_28, hi499_28⟩ := at_T41 HR1.out x8_2 p499 q499
                have hw499_31 := hx499_31
                have hw499_30 := hx499_30
                have hw499_29 := hx499_29
                have hw499_28 := hx499_28
                have hw499_27 := hx499_27
                have hw499_26 := hx499_26
                have hw499_25 := hx499_25
                have hw499_24 := hx499_24
                have hw499_23 := hx499_23
                have hw499_22 := hx499_22
                have hw499_21 := hx499_21
                have hw499_20 := hx499_20
                have hw499_19 := hx499_19
                have hw499_18 := hx499_18
                have hw499_17 := hx499_17
                have hw499_16 := hx499_16
                have hw499_15 := hx499_15
                have hw499_14 := hx499_14
                have hw499_13 := hx499_13
                have hw499_12 := hx499_12
                have hw499_11 := hx499_11
                have hw499_10 := hx499_10
                have hw499_9 := hx499_9
                have hw499_8 := hx499_8
                have hw499_7 := hx499_7
                have hw499_6 := hx499_6
                have hw499_5 := hx499_5
                have hw499_4 := hx499_4
                have hw499_3 := hx499_3
                have hw499_2 := hx499_2
                have hw499_1 := hx499_1
                have hw499_0 := hx499_0
                cases e499
                replace hx499_0 := s_m HB.out hx499_0
                replace hx499_1 := s_m HB.out hx499_1
                replace hx499_2 := s_m HB.out hx499_2
                replace hx499_3 := s_m HB.out hx499_3
                replace hx499_4 := s_m HB.out hx499_4
                replace hx499_5 := s_m HB.out hx499_5
                replace hx499_6 := s_m HB.out hx499_6
                replace hx499_7 := s_m HB.out hx499_7
                replace hx499_8 := s_m HB.out hx499_8
                replace hx499_9 := s_m HB.out hx499_9
                replace hx499_10 := s_m HB.out hx499_10
                replace hx499_11 := s_m HB.out hx499_11
                replace hx499_12 := s_m HB.out hx499_12
                replace hx499_13 := s_m HB.out hx499_13
                replace hx499_14 := s_m HB.out hx499_14
                replace hx499_15 := s_m HB.out hx499_15
                replace hx499_16 := s_m HB.out hx499_16
                replace hx499_17 := s_m HB.out hx499_17
                replace hx499_18 := s_m HB.out hx499_18
                replace hx499_19 := s_m HB.out hx499_19
                replace hx499_20 := s_m HB.out hx499_20
                replace hx499_21 := s_m HB.out hx499_21
                replace hx499_22 := s_m HB.out hx499_22
                replace hx499_23 := s_m HB.out hx499_23
                replace hx499_24 := s_m HB.out hx499_24
                replace hx499_25 := s_m HB.out hx499_25
                replace hx499_26 := s_m HB.out hx499_26
                replace hx499_27 := s_m HB.out hx499_27
                replace hx499_28 := s_m HB.out hx499_28
                replace hx499_29 := s_m HB.out hx499_29
                replace hx499_30 := s_m HB.out hx499_30
                replace hx499_31 := s_m HB.out hx499_31
                have HR499_9 := s_a hi499_9
                have HC499_9 := s_a hl499_9
                clear hi499_9 hl499_9
                have HR499_10 := s_a hi499_10
                have HC499_10 := s_a hl499_10
                clear hi499_10 hl499_10
                have HR499_11 := s_a hi499_11
                have HC499_11 := s_a hl499_11
                clear hi499_11 hl499_11
                have HR499_12 := s_a hi499_12
                have HC499_12 := s_a hl499_12
                clear hi499_12 hl499_12
                have HR499_17 := s_a hi499_17
                have HC499_17 := s_a hl499_17
                clear hi499_17 hl499_17
                have HR499_18 := s_a hi499_18
                have HC499_18 := s_a hl499_18
                clear hi499_18 hl499_18
                have HR499_19 := s_a hi499_19
                have HC499_19 := s_a hl499_19
                clear hi499_19 hl499_19
                have HR499_20 := s_a hi499_20
                have HC499_20 := s_a hl499_20
                clear hi499_20 hl499_20
                have HR499_21 := s_a hi499_21
                have HC499_21 := s_a hl499_21
                clear hi499_21 hl499_21
                have HR499_22 := s_a hi499_22
                have HC499_22 := s_a hl499_22
                clear hi499_22 hl499_22
                have HR499_28 := s_a hi499_28
                have HC499_28 := s_a hl499_28
                clear hi499_28 hl499_28
                replace p499 := eq_true p499
                replace q499 := eq_true q499
                have p500 : 0 ≤ (x9_3 : Int) := of_decide_eq_true (by first | (with_reducible assumption) | assumption)
                have q500 : x9_3 < (l1.length : Int) := of_decide_eq_true (by first | (with_reducible assumption) | assumption)
                obtain ⟨ad500, A500_9, c500_9, A500_10, c500_10, A500_11, c500_11, A500_12, c500_12, A500_17, c500_17, A500_18, c500_18, A500_19, c500_19, A500_20, c500_20, A500_21, c500_21, A500_22, c500_22, A500_28, c500_28, e500, hx500_0, hx500_1, hx500_2, hx500_3, hx500_4, hx500_5, hx500_6, hx500_7, hx500_8, hx500_9, hx500_10, hx500_11, hx500_12, hx500_13, hx500_14, hx500_15, hx500_16, hx500_17, hx500_18, hx500_19, hx500_20, hx500_21, hx500_22, hx500_23, hx500_24, hx500_25, hx500_26, hx500_27, hx500_28, hx500_29, hx500_30, hx500_31, hl500_9, hi500_9, hl500_10, hi500_10, hl500_11, hi500_11, hl500_12, hi500_12, hl500_17, hi500_17, hl500_18, hi500_18, hl500_19, hi500_19, hl500_20, hi500_20, hl500_21, hi500_21, hl500_22, hi500_22, hl500_28, hi500_28⟩ := at_T41 HR1.out x9_3 p500 q500
                have hw500_31 := hx500_31
                have hw500_30 := hx500_30
                have hw500_29 := hx500_29
                have hw500_28 := hx500_28
                have hw500_27 := hx500_27
                have hw500_26 := hx500_26
                have hw500_25 := hx500_25
                have hw500_24 := hx500_24
                have hw500_23 := hx500_23
                have hw500_22 := hx500_22
                have hw500_21 := hx500_21
                have hw500_20 := hx500_20
                have hw500_19 := hx500_19
                have hw500_18 := hx500_18
                have hw500_17 := hx500_17
                have hw500_16 := hx500_16
                have hw500_15 := hx500_15
                have hw500_14 := hx500_14
                have hw500_13 := hx500_13
                have hw500_12 := hx500_12
                have hw500_11 := hx500_11
                have hw500_10 := hx500_10
                have hw500_9 := hx500_9
                have hw500_8 := hx500_8
                have hw500_7 := hx500_7
                have hw500_6 := hx500_6
                have hw500_5 := hx500_5
                have hw500_4 := hx500_4
                have hw500_3 := hx500_3
                have hw500_2 := hx500_2
                have hw500_1 := hx500_1
                have hw500_0 := hx500_0
                obtain rfl : ad499 = ad500 := (by injection e500)
                replace hx500_0 := s_m HB.out hx500_0
                replace hx500_1 := s_m HB.out hx500_1
                replace hx500_2 := s_m HB.out hx500_2
                replace hx500_3 := s_m HB.out hx500_3
                replace hx500_4 := s_m HB.out hx500_4
                replace hx500_5 := s_m HB.out hx500_5
                replace hx500_6 := s_m HB.out hx500_6
                replace hx500_7 := s_m HB.out hx500_7
                replace hx500_8 := s_m HB.out hx500_8
                replace hx500_9 := s_m HB.out hx500_9
                replace hx500_10 := s_m HB.out hx500_10
                replace hx500_11 := s_m HB.out hx500_11
                replace hx500_12 := s_m HB.out hx500_12
                replace hx500_13 := s_m HB.out hx500_13
                replace hx500_14 := s_m HB.out hx500_14
                replace hx500_15 := s_m HB.out hx500_15
                replace hx500_16 := s_m HB.out hx500_16
                replace hx500_17 := s_m HB.out hx500_17
                replace hx500_18 := s_m HB.out hx500_18
                replace hx500_19 := s_m HB.out hx500_19
                replace hx500_20 := s_m HB.out hx500_20
                replace hx500_21 := s_m HB.out hx500_21
                replace hx500_22 := s_m HB.out hx500_22
                replace hx500_23 := s_m HB.out hx500_23
                replace hx500_24 := s_m HB.out hx500_24
                replace hx500_25 := s_m HB.out hx500_25
                replace hx500_26 := s_m HB.out hx500_26
                replace hx500_27 := s_m HB.out hx500_27
                replace hx500_28 := s_m HB.out hx500_28
                replace hx500_29 := s_m HB.out hx500_29
                replace hx500_30 := s_m HB.out hx500_30
                replace hx500_31 := s_m HB.out hx500_31
                have HR500_9 := s_a hi500_9
                have HC500_9 := s_a hl500_9
                clear hi500_9 hl500_9
                have HR500_10 := s_a hi500_10
                have HC500_10 := s_a hl500_10
                clear hi500_10 hl500_10
                have HR500_11 := s_a hi500_11
                have HC500_11 := s_a hl500_11
                clear hi500_11 hl500_11
                have HR500_12 := s_a hi500_12
                have HC500_12 := s_a hl500_12
                clear hi500_12 hl500_12
                have HR500_17 := s_a hi500_17
                have HC500_17 := s_a hl500_17
                clear hi500_17 hl500_17
                have HR500_18 := s_a hi500_18
                have HC500_18 := s_a hl500_18
                clear hi500_18 hl500_18
                have HR500_19 := s_a hi500_19
                have HC500_19 := s_a hl500_19
                clear hi500_19 hl500_19
                have HR500_20 := s_a hi500_20
                have HC500_20 := s_a hl500_20
                clear hi500_20 hl500_20
                have HR500_21 := s_a hi500_21
                have HC500_21 := s_a hl500_21
                clear hi500_21 hl500_21
                have HR500_22 := s_a hi500_22
                have HC500_22 := s_a hl500_22
                clear hi500_22 hl500_22
                have HR500_28 := s_a hi500_28
                have HC500_28 := s_a hl500_28
                clear hi500_28 hl500_28
                replace p500 := eq_true p500
                replace q500 := eq_true q500
                refine start_ (n := 16) (S := fun w' => w'.cell? (ad499.add ((x8_2).toNat * 32)) = some (.string ((rd_T41 l1 x8_2).f0.f0)) ∧ w'.cell? ⟨(ad499.add ((x8_2).toNat * 32)).block, (ad499.add ((x8_2).toNat * 32)).off + 1, none⟩ = some (.string ((rd_T41 l1 x8_2).f0.f1)) ∧ w'.cell? ⟨(ad499.add ((x8_2).toNat * 32)).block, (ad499.add ((x8_2).toNat * 32)).off + 2, none⟩ = some (.string ((rd_T41 l1 x8_2).f0.f2)) ∧ w'.cell? ⟨(ad499.add ((x8_2).toNat * 32)).block, (ad499.add ((x8_2).toNat * 32)).off + 3, none⟩ = some (.int .i64 ((rd_T41 l1 x8_2).f0.f3)) ∧ w'.cell? ⟨(ad499.add ((x8_2).toNat * 32)).block, (ad499.add ((x8_2).toNat * 32)).off + 4, none⟩ = some (.int .i64 ((rd_T41 l1 x8_2).f0.f4)) ∧ w'.cell? ⟨(ad499.add ((x8_2).toNat * 32)).block, (ad499.add ((x8_2).toNat * 32)).off + 5, none⟩ = some (.int .i64 ((rd_T41 l1 x8_2).f0.f5)) ∧ w'.cell? ⟨(ad499.add ((x8_2).toNat * 32)).block, (ad499.add ((x8_2).toNat * 32)).off + 6, none⟩ = some (.int .i64 ((rd_T41 l1 x8_2).f0.f6)) ∧ w'.cell? ⟨(ad499.add ((x8_2).toNat * 32)).block, (ad499.add ((x8_2).toNat * 32)).off + 7, none⟩ = some (.bool ((rd_T41 l1 x8_2).f0.f7)) ∧ w'.cell? ⟨(ad499.add ((x8_2).toNat * 32)).block, (ad499.add ((x8_2).toNat * 32)).off + 8, none⟩ = some (.int .i64 ((rd_T41 l1 x8_2).f0.f8)) ∧ w'.cell? ⟨(ad499.add ((x8_2).toNat * 32)).block, (ad499.add ((x8_2).toNat * 32)).off + 9, none⟩ = some (.slice A499_9 ((rd_T41 l1 x8_2).f0.f9).length c499_9) ∧ w'.cell? ⟨(ad499.add ((x8_2).toNat * 32)).block, (ad499.add ((x8_2).toNat * 32)).off + 10, none⟩ = some (.slice A499_10 ((rd_T41 l1 x8_2).f0.f10).length c499_10) ∧ w'.cell? ⟨(ad499.add ((x8_2).toNat * 32)).block, (ad499.add ((x8_2).toNat * 32)).off + 11, none⟩ = some (.slice A499_11 ((rd_T41 l1 x8_2).f0.f11).length c499_11) ∧ w'.cell? ⟨(ad499.add ((x8_2).toNat * 32)).block, (ad499.add ((x8_2).toNat * 32)).off + 12, none⟩ = some (.slice A499_12 ((rd_T41 l1 x8_2).f0.f12).length c499_12) ∧ w'.cell? ⟨(ad499.add ((x8_2).toNat * 32)).block, (ad499.add ((x8_2).toNat * 32)).off + 13, none⟩ = some (.string ((rd_T41 l1 x8_2).f1.f0)) ∧ w'.cell? ⟨(ad499.add ((x8_2).toNat * 32)).block, (ad499.add ((x8_2).toNat * 32)).off + 14, none⟩ = some (.int .i64 ((rd_T41 l1 x8_2).f1.f1)) ∧ w'.cell? ⟨(ad499.add ((x8_2).toNat * 32)).block, (ad499.add ((x8_2).toNat * 32)).off + 15, none⟩ = some (.int .i64 ((rd_T41 l1 x8_2).f1.f2)) ∧ w'.cell? ⟨(ad499.add ((x8_2).toNat * 32)).block, (ad499.add ((x8_2).toNat * 32)).off + 16, none⟩ = some (.int .i64 ((rd_T41 l1 x8_2).f1.f3)) ∧ w'.cell? ⟨(ad499.add ((x8_2).toNat * 32)).block, (ad499.add ((x8_2).toNat * 32)).off + 17, none⟩ = some (.slice A499_17 ((rd_T41 l1 x8_2).f1.f4).length c499_17) ∧ w'.cell? ⟨(ad499.add ((x8_2).toNat * 32)).block, (ad499.add ((x8_2).toNat * 32)).off + 18, none⟩ = some (.slice A499_18 ((rd_T41 l1 x8_2).f1.f5).length c499_18) ∧ w'.cell? ⟨(ad499.add ((x8_2).toNat * 32)).block, (ad499.add ((x8_2).toNat * 32)).off + 19, none⟩ = some (.slice A499_19 ((rd_T41 l1 x8_2).f1.f6).length c499_19) ∧ w'.cell? ⟨(ad499.add ((x8_2).toNat * 32)).block, (ad499.add ((x8_2).toNat * 32)).off + 20, none⟩ = some (.slice A499_20 ((rd_T41 l1 x8_2).f1.f7).length c499_20) ∧ w'.cell? ⟨(ad499.add ((x8_2).toNat * 32)).block, (ad499.add ((x8_2).toNat * 32)).off + 21, none⟩ = some (.slice A499_21 ((rd_T41 l1 x8_2).f1.f8).length c499_21) ∧ w'.cell? ⟨(ad499.add ((x8_2).toNat * 32)).block, (ad499.add ((x8_2).toNat * 32)).off + 22, none⟩ = some (.slice A499_22 ((rd_T41 l1 x8_2).f1.f9).length c499_22) ∧ w'.cell? ⟨(ad499.add ((x8_2).toNat * 32)).block, (ad499.add ((x8_2).toNat * 32)).off + 23, none⟩ = some (.int .i64 ((rd_T41 l1 x8_2).f2.f0)) ∧ w'.cell? ⟨(ad499.add ((x8_2).toNat * 32)).block, (ad499.add ((x8_2).toNat * 32)).off + 24, none⟩ = some (.bool ((rd_T41 l1 x8_2).f2.f1)) ∧ w'.cell? ⟨(ad499.add ((x8_2).toNat * 32)).block, (ad499.add ((x8_2).toNat * 32)).off + 25, none⟩ = some (.int .i64 ((rd_T41 l1 x8_2).f2.f2)) ∧ w'.cell? ⟨(ad499.add ((x8_2).toNat * 32)).block, (ad499.add ((x8_2).toNat * 32)).off + 26, none⟩ = some (.int .i64 ((rd_T41 l1 x8_2).f2.f3)) ∧ w'.cell? ⟨(ad499.add ((x8_2).toNat * 32)).block, (ad499.add ((x8_2).toNat * 32)).off + 27, none⟩ = some (.int .i64 ((rd_T41 l1 x8_2).f2.f4)) ∧ w'.cell? ⟨(ad499.add ((x8_2).toNat * 32)).block, (ad499.add ((x8_2).toNat * 32)).off + 28, none⟩ = some (.slice A499_28 ((rd_T41 l1 x8_2).f2.f5).length c499_28) ∧ w'.cell? ⟨(ad499.add ((x8_2).toNat * 32)).block, (ad499.add ((x8_2).toNat * 32)).off + 29, none⟩ = some (.int .i64 ((rd_T41 l1 x8_2).f2.f6)) ∧ w'.cell? ⟨(ad499.add ((x8_2).toNat * 32)).block, (ad499.add ((x8_2).toNat * 32)).off + 30, none⟩ = some (.string ((rd_T41 l1 x8_2).f2.f7)) ∧ w'.cell? ⟨(ad499.add ((x8_2).toNat * 32)).block, (ad499.add ((x8_2).toNat * 32)).off + 31, none⟩ = some (.string ((rd_T41 l1 x8_2).f2.f8)) ∧ w'.cell? (ad499.add ((x9_3).toNat * 32)) = some (.string ((rd_T41 l1 x9_3).f0.f0)) ∧ w'.cell? ⟨(ad499.add ((x9_3).toNat * 32)).block, (ad499.add ((x9_3).toNat * 32)).off + 1, none⟩ = some (.string ((rd_T41 l1 x9_3).f0.f1)) ∧ w'.cell? ⟨(ad499.add ((x9_3).toNat * 32)).block, (ad499.add ((x9_3).toNat * 32)).off + 2, none⟩ = some (.string ((rd_T41 l1 x9_3).f0.f2)) ∧ w'.cell? ⟨(ad499.add ((x9_3).toNat * 32)).block, (ad499.add ((x9_3).toNat * 32)).off + 3, none⟩ = some (.int .i64 ((rd_T41 l1 x9_3).f0.f3)) ∧ w'.cell? ⟨(ad499.add ((x9_3).toNat * 32)).block, (ad499.add ((x9_3).toNat * 32)).off + 4, none⟩ = some (.int .i64 ((rd_T41 l1 x9_3).f0.f4)) ∧ w'.cell? ⟨(ad499.add ((x9_3).toNat * 32)).block, (ad499.add ((x9_3).toNat * 32)).off + 5, none⟩ = some (.int .i64 ((rd_T41 l1 x9_3).f0.f5)) ∧ w'.cell? ⟨(ad499.add ((x9_3).toNat * 32)).block, (ad499.add ((x9_3).toNat * 32)).off + 6, none⟩ = some (.int .i64 ((rd_T41 l1 x9_3).f0.f6)) ∧ w'.cell? ⟨(ad499.add ((x9_3).toNat * 32)).block, (ad499.add ((x9_3).toNat * 32)).off + 7, none⟩ = some (.bool ((rd_T41 l1 x9_3).f0.f7)) ∧ w'.cell? ⟨(ad499.add ((x9_3).toNat * 32)).block, (ad499.add ((x9_3).toNat * 32)).off + 8, none⟩ = some (.int .i64 ((rd_T41 l1 x9_3).f0.f8)) ∧ w'.cell? ⟨(ad499.add ((x9_3).toNat * 32)).block, (ad499.add ((x9_3).toNat * 32)).off + 9, none⟩ = some (.slice A500_9 ((rd_T41 l1 x9_3).f0.f9).length c500_9) ∧ w'.cell? ⟨(ad499.add ((x9_3).toNat * 32)).block, (ad499.add ((x9_3).toNat * 32)).off + 10, none⟩ = some (.slice A500_10 ((rd_T41 l1 x9_3).f0.f10).length c500_10) ∧ w'.cell? ⟨(ad499.add ((x9_3).toNat * 32)).block, (ad499.add ((x9_3).toNat * 32)).off + 11, none⟩ = some (.slice A500_11 ((rd_T41 l1 x9_3).f0.f11).length c500_11) ∧ w'.cell? ⟨(ad499.add ((x9_3).toNat * 32)).block, (ad499.add ((x9_3).toNat * 32)).off + 12, none⟩ = some (.slice A500_12 ((rd_T41 l1 x9_3).f0.f12).length c500_12) ∧ w'.cell? ⟨(ad499.add ((x9_3).toNat * 32)).block, (ad499.add ((x9_3).toNat * 32)).off + 13, none⟩ = some (.string ((rd_T41 l1 x9_3).f1.f0)) ∧ w'.cell? ⟨(ad499.add ((x9_3).toNat * 32)).block, (ad499.add ((x9_3).toNat * 32)).off + 14, none⟩ = some (.int .i64 ((rd_T41 l1 x9_3).f1.f1)) ∧ w'.cell? ⟨(ad499.add ((x9_3).toNat * 32)).block, (ad499.add ((x9_3).toNat * 32)).off + 15, none⟩ = some (.int .i64 ((rd_T41 l1 x9_3).f1.f2)) ∧ w'.cell? ⟨(ad499.add ((x9_3).toNat * 32)).block, (ad499.add ((x9_3).toNat * 32)).off + 16, none⟩ = some (.int .i64 ((rd_T41 l1 x9_3).f1.f3)) ∧ w'.cell? ⟨(ad499.add ((x9_3).toNat * 32)).block, (ad499.add ((x9_3).toNat * 32)).off + 17, none⟩ = some (.slice A500_17 ((rd_T41 l1 x9_3).f1.f4).length c500_17) ∧ w'.cell? ⟨(ad499.add ((x9_3).toNat * 32)).block, (ad499.add ((x9_3).toNat * 32)).off + 18, none⟩ = some (.slice A500_18 ((rd_T41 l1 x9_3).f1.f5).length c500_18) ∧ w'.cell? ⟨(ad499.add ((x9_3).toNat * 32)).block, (ad499.add ((x9_3).toNat * 32)).off + 19, none⟩ = some (.slice A500_19 ((rd_T41 l1 x9_3).f1.f6).length c500_19) ∧ w'.cell? ⟨(ad499.add ((x9_3).toNat * 32)).block, (ad499.add ((x9_3).toNat * 32)).off + 20, none⟩ = some (.slice A500_20 ((rd_T41 l1 x9_3).f1.f7).length c500_20) ∧ w'.cell? ⟨(ad499.add ((x9_3).toNat * 32)).block, (ad499.add ((x9_3).toNat * 32)).off + 21, none⟩ = some (.slice A500_21 ((rd_T41 l1 x9_3).f1.f8).length c500_21) ∧ w'.cell? ⟨(ad499.add ((x9_3).toNat * 32)).block, (ad499.add ((x9_3).toNat * 32)).off + 22, none⟩ = some (.slice A500_22 ((rd_T41 l1 x9_3).f1.f9).length c500_22) ∧ w'.cell? ⟨(ad499.add ((x9_3).toNat * 32)).block, (ad499.add ((x9_3).toNat * 32)).off + 23, none⟩ = some (.int .i64 ((rd_T41 l1 x9_3).f2.f0)) ∧ w'.cell? ⟨(ad499.add ((x9_3).toNat * 32)).block, (ad499.add ((x9_3).toNat * 32)).off + 24, none⟩ = some (.bool ((rd_T41 l1 x9_3).f2.f1)) ∧ w'.cell? ⟨(ad499.add ((x9_3).toNat * 32)).block, (ad499.add ((x9_3).toNat * 32)).off + 25, none⟩ = some (.int .i64 ((rd_T41 l1 x9_3).f2.f2)) ∧ w'.cell? ⟨(ad499.add ((x9_3).toNat * 32)).block, (ad499.add ((x9_3).toNat * 32)).off + 26, none⟩ = some (.int .i64 ((rd_T41 l1 x9_3).f2.f3)) ∧ w'.cell? ⟨(ad499.add ((x9_3).toNat * 32)).block, (ad499.add ((x9_3).toNat * 32)).off + 27, none⟩ = some (.int .i64 ((rd_T41 l1 x9_3).f2.f4)) ∧ w'.cell? ⟨(ad499.add ((x9_3).toNat * 32)).block, (ad499.add ((x9_3).toNat * 32)).off + 28, none⟩ = some (.slice A500_28 ((rd_T41 l1 x9_3).f2.f5).length c500_28) ∧ w'.cell? ⟨(ad499.add ((x9_3).toNat * 32)).block, (ad499.add ((x9_3).toNat * 32)).off + 29, none⟩ = some (.int .i64 ((rd_T41 l1 x9_3).f2.f6)) ∧ w'.cell? ⟨(ad499.add ((x9_3).toNat * 32)).block, (ad499.add ((x9_3).toNat * 32)).off + 30, none⟩ = some (.string ((rd_T41 l1 x9_3).f2.f7)) ∧ w'.cell? ⟨(ad499.add ((x9_3).toNat * 32)).block, (ad499.add ((x9_3).toNat * 32)).off + 31, none⟩ = some (.string ((rd_T41 l1 x9_3).f2.f8))) (ds := []) (bz 16 0) (by kernel_rfl) rfl rfl ⟨(s_m HB.out hw499_0), (s_m HB.out hw499_1), (s_m HB.out hw499_2), (s_m HB.out hw499_3), (s_m HB.out hw499_4), (s_m HB.out hw499_5), (s_m HB.out hw499_6), (s_m HB.out hw499_7), (s_m HB.out hw499_8), (s_m HB.out hw499_9), (s_m HB.out hw499_10), (s_m HB.out hw499_11), (s_m HB.out hw499_12), (s_m HB.out hw499_13), (s_m HB.out hw499_14), (s_m HB.out hw499_15), (s_m HB.out hw499_16), (s_m HB.out hw499_17), (s_m HB.out hw499_18), (s_m HB.out hw499_19), (s_m HB.out hw499_20), (s_m HB.out hw499_21), (s_m HB.out hw499_22), (s_m HB.out hw499_23), (s_m HB.out hw499_24), (s_m HB.out hw499_25), (s_m HB.out hw499_26), (s_m HB.out hw499_27), (s_m HB.out hw499_28), (s_m HB.out hw499_29), (s_m HB.out hw499_30), (s_m HB.out hw499_31), (s_m HB.out hw500_0), (s_m HB.out hw500_1), (s_m HB.out hw500_2), (s_m HB.out hw500_3), (s_m HB.out hw500_4), (s_m HB.out hw500_5), (s_m HB.out hw500_6), (s_m HB.out hw500_7), (s_m HB.out hw500_8), (s_m HB.out hw500_9), (s_m HB.out hw500_10), (s_m HB.out hw500_11), (s_m HB.out hw500_12), (s_m HB.out hw500_13), (s_m HB.out hw500_14), (s_m HB.out hw500_15), (s_m HB.out hw500_16), (s_m HB.out hw500_17), (s_m HB.out hw500_18), (s_m HB.out hw500_19), (s_m HB.out hw500_20), (s_m HB.out hw500_21), (s_m HB.out hw500_22), (s_m HB.out hw500_23), (s_m HB.out hw500_24), (s_m HB.out hw500_25), (s_m HB.out hw500_26), (s_m HB.out hw500_27), (s_m HB.out hw500_28), (s_m HB.out hw500_29), (s_m HB.out hw500_30), (s_m HB.out hw500_31)⟩ (fun hHeld => ?_); refine with_tabW orchestratorlaw57_NetpolicyReaches.tab10 orchestratorlaw57_NetpolicyReaches.bits10 (fun HT_ HW_ => ?_)
                generalize wr.drew = w21 at HO_7 HB HR499_10 HR499_11 HR499_12 HR499_17 HR499_18 HR499_19 HR499_20 HR499_21 HR499_22 HR499_28 HR499_9 HR500_10 HR500_11 HR500_12 HR500_17 HR500_18 HR500_19 HR500_20 HR500_21 HR500_22 HR500_28 HR500_9 hx499_0 hx499_1 hx499_10 hx499_11 hx499_12 hx499_13 hx499_14 hx499_15 hx499_16 hx499_17 hx499_18 hx499_19 hx499_2 hx499_20 hx499_21 hx499_22 hx499_23 hx499_24 hx499_25 hx499_26 hx499_27 hx499_28 hx499_29 hx499_3 hx499_30 hx499_31 hx499_4 hx499_5 hx499_6 hx499_7 hx499_8 hx499_9 hx500_0 hx500_1 hx500_10 hx500_11 hx500_12 hx500_13 hx500_14 hx500_15 hx500_16 hx500_17 hx500_18 hx500_19 hx500_2 hx500_20 hx500_21 hx500_22 hx500_23 hx500_24 hx500_25 hx500_26 hx500_27 hx500_28 hx500_29 hx500_3 hx500_30 hx500_31 hx500_4 hx500_5 hx500_6 hx500_7 hx500_8 hx500_9 hHeld ⊢
                refine q_p 0 (some 31) (bz 16 1) (any_of HT_.out (by kernel_rfl)) (v := ?_) ?_ (a' := ?_) ?_ ?_; rotate_left 2
                ·intro w'; go_simp; with_reducible rfl
                ·simp only [Act.put, List.setIfInBounds_toArray, List.set_cons_zero, List.set_cons_succ, i64_w, i32_w]; rfl
                refine q_p 1 (some 32) (bz 16 3) (any_of HT_.out (by kernel_rfl)) (v := ?_) ?_ (a' := ?_) ?_ ?_; rotate_left 2
                ·intro w'; go_simp; with_reducible rfl
                ·simp only [Act.put, List.setIfInBounds_toArray, List.set_cons_zero, List.set_cons_succ, i64_w, i32_w]; rfl
                refine q_p 2 (some 33) (bz 16 7) (any_of HT_.out (by kernel_rfl)) (v := ?_) ?_ (a' := ?_) ?_ ?_; rotate_left 2
                ·intro w'; go_simp; with_reducible rfl
                ·simp only [Act.put, List.setIfInBounds_toArray, List.set_cons_zero, List.set_cons_succ, i64_w, i32_w]; rfl
                refine q_p 3 (some 34) (bz 16 15) (any_of HT_.out (by kernel_rfl)) (v := ?_) ?_ (a' := ?_) ?_ ?_; rotate_left 2
                ·intro w'; go_simp; with_reducible rfl
                ·simp only [Act.put, List.setIfInBounds_toArray, List.set_cons_zero, List.set_cons_succ, i64_w, i32_w]; rfl
                refine q_p 4 (some 35) (bz 16 31) (any_of HT_.out (by kernel_rfl)) (v := ?_) ?_ (a' := ?_) ?_ ?_; rotate_left 2
                ·intro w'; go_simp; with_reducible rfl
                ·simp only [Act.put, List.setIfInBounds_toArray, List.set_cons_zero, List.set_cons_succ, i64_w, i32_w]; rfl
                refine q_p 5 (some 36) (bz 16 63) (any_of HT_.out (by kernel_rfl)) (v := ?_) ?_ (a' := ?_) ?_ ?_; rotate_left 2
                ·intro w'; go_simp; with_reducible rfl
                ·simp only [Act.put, List.setIfInBounds_toArray, List.set_cons_zero, List.set_cons_succ, i64_w, i32_w]; rfl
                refine q_p 6 (some 37) (bz 16 127) (any_of HT_.out (by kernel_rfl)) (v := ?_) ?_ (a' := ?_) ?_ ?_; rotate_left 2
                ·intro w'; go_simp; with_reducible rfl
                ·simp only [Act.put, List.setIfInBounds_toArray, List.set_cons_zero, List.set_cons_succ, i64_w, i32_w]; rfl
                refine q_p 7 (some 38) (bz 16 255) (any_of HT_.out (by kernel_rfl)) (v := ?_) ?_ (a' := ?_) ?_ ?_; rotate_left 2
                ·intro w'; go_simp; with_reducible rfl
                ·simp only [Act.put, List.setIfInBounds_toArray, List.set_cons_zero, List.set_cons_succ, i64_w, i32_w]; rfl
                refine q_p 9 (some 40) (bz 16 767) (any_of HT_.out (by kernel_rfl)) (v := ?_) ?_ (a' := ?_) ?_ ?_; rotate_left 2
                ·intro w'; go_simp; with_reducible rfl
                ·simp only [Act.put, List.setIfInBounds_toArray, List.set_cons_zero, List.set_cons_succ, i64_w, i32_w]; rfl
                refine q_p 10 (some 41) (bz 16 1791) (any_of HT_.out (by kernel_rfl)) (v := ?_) ?_ (a' := ?_) ?_ ?_; rotate_left 2
                ·intro w'; go_simp; with_reducible rfl
                ·simp only [Act.put, List.setIfInBounds_toArray, List.set_cons_zero, List.set_cons_succ, i64_w, i32_w]; rfl
                refine q_p 11 (some 42) (bz 16 3839) (any_of HT_.out (by kernel_rfl)) (v := ?_) ?_ (a' := ?_) ?_ ?_; rotate_left 2
                ·intro w'; go_simp; with_reducible rfl
                ·simp only [Act.put, List.setIfInBounds_toArray, List.set_cons_zero, List.set_cons_succ, i64_w, i32_w]; rfl
                refine q_p 13 (some 44) (bz 16 12031) (any_of HT_.out (by kernel_rfl)) (v := ?_) ?_ (a' := ?_) ?_ ?_; rotate_left 2
                ·intro w'; go_simp; with_reducible rfl
                ·simp only [Act.put, List.setIfInBounds_toArray, List.set_cons_zero, List.set_cons_succ, i64_w, i32_w]; rfl
                refine q_t 8 (some 39) (bz 16 12287) (take_ofW HT_.out HW_.out (by kernel_rfl)) hHeld (v := ?_) ?_ (a' := ?_) ?_ ?_; rotate_left 2
                ·rintro w' ⟨s0, s1, s2, s3, s4, s5, s6, s7, s8, s9, s10, s11, s12, s13, s14, s15, s16, s17, s18, s19, s20, s21, s22, s23, s24, s25, s26, s27, s28, s29, s30, s31, s32, s33, s34, s35, s36, s37, s38, s39, s40, s41, s42, s43, s44, s45, s46, s47, s48, s49, s50, s51, s52, s53, s54, s55, s56, s57, s58, s59, s60, s61, s62, s63⟩; (refine (s_ld rfl 41 (.tmp 38) ?_ _ ?_ _ _ (cells_at s0 (s_cc s1 (s_cc s2 (s_cc s3 (s_cc s4 (s_cc s5 (s_cc s6 (s_cc s7 (s_cc s8 (s_cc s9 (s_cc s10 (s_cc s11 (s_cc s12 (s_cc s13 (s_cc s14 (s_cc s15 (s_cc s16 (s_cc s17 (s_cc s18 (s_cc s19 (s_cc s20 (s_cc s21 (s_cc s22 (s_cc s23 (s_cc s24 (s_cc s25 (s_cc s26 (s_cc s27 (s_cc s28 (s_cc s29 (s_cc s30 (s_cc s31 s_cn)))))))))))))))))))))))))))))))) Try.underlying41 (by rfl) sz41).trans ?_ <;> first | (with_reducible rfl) | rfl)
                ·simp only [Act.put, List.setIfInBounds_toArray, List.set_cons_zero, List.set_cons_succ, i64_w, i32_w]; rfl
                refine q_t 12 (some 43) (bz 16 16383) (take_ofW HT_.out HW_.out (by kernel_rfl)) hHeld (v := ?_) ?_ (a' := ?_) ?_ ?_; rotate_left 2
                ·rintro w' ⟨s0, s1, s2, s3, s4, s5, s6, s7, s8, s9, s10, s11, s12, s13, s14, s15, s16, s17, s18, s19, s20, s21, s22, s23, s24, s25, s26, s27, s28, s29, s30, s31, s32, s33, s34, s35, s36, s37, s38, s39, s40, s41, s42, s43, s44, s45, s46, s47, s48, s49, s50, s51, s52, s53, s54, s55, s56, s57, s58, s59, s60, s61, s62, s63⟩; (refine (s_ld rfl 41 (.tmp 42) ?_ _ ?_ _ _ (cells_at s32 (s_cc s33 (s_cc s34 (s_cc s35 (s_cc s36 (s_cc s37 (s_cc s38 (s_cc s39 (s_cc s40 (s_cc s41 (s_cc s42 (s_cc s43 (s_cc s44 (s_cc s45 (s_cc s46 (s_cc s47 (s_cc s48 (s_cc s49 (s_cc s50 (s_cc s51 (s_cc s52 (s_cc s53 (s_cc s54 (s_cc s55 (s_cc s56 (s_cc s57 (s_cc s58 (s_cc s59 (s_cc s60 (s_cc s61 (s_cc s62 (s_cc s63 s_cn)))))))))))))))))))))))))))))))) Try.underlying41 (by rfl) sz41).trans ?_ <;> first | (with_reducible rfl) | rfl)
                ·simp only [Act.put, List.setIfInBounds_toArray, List.set_cons_zero, List.set_cons_succ, i64_w, i32_w]; rfl
                refine one_ (i := 14) (N := some 45) (bz 16 32767) rfl rfl (one_of HT_.out (by kernel_rfl)) (by decide) (fun K hK => ?_)
                refine goes_ Try.func11 (by kernel_rfl) rfl #[.slice A0 l0.length c0, .agg #[.string ((rd_T41 l1 x8_2).f0.f0), .string ((rd_T41 l1 x8_2).f0.f1), .string ((rd_T41 l1 x8_2).f0.f2), .int .i64 ((rd_T41 l1 x8_2).f0.f3), .int .i64 ((rd_T41 l1 x8_2).f0.f4), .int .i64 ((rd_T41 l1 x8_2).f0.f5), .int .i64 ((rd_T41 l1 x8_2).f0.f6), .bool ((rd_T41 l1 x8_2).f0.f7), .int .i64 ((rd_T41 l1 x8_2).f0.f8), .slice A499_9 ((rd_T41 l1 x8_2).f0.f9).length c499_9, .slice A499_10 ((rd_T41 l1 x8_2).f0.f10).length c499_10, .slice A499_11 ((rd_T41 l1 x8_2).f0.f11).length c499_11, .slice A499_12 ((rd_T41 l1 x8_2).f0.f12).length c499_12, .string ((rd_T41 l1 x8_2).f1.f0), .int .i64 ((rd_T41 l1 x8_2).f1.f1), .int .i64 ((rd_T41 l1 x8_2).f1.f2), .int .i64 ((rd_T41 l1 x8_2).f1.f3), .slice A499_17 ((rd_T41 l1 x8_2).f1.f4).length c499_17, .slice A499_18 ((rd_T41 l1 x8_2).f1.f5).length c499_18, .slice A499_19 ((rd_T41 l1 x8_2).f1.f6).length c499_19, .slice A499_20 ((rd_T41 l1 x8_2).f1.f7).length c499_20, .slice A499_21 ((rd_T41 l1 x8_2).f1.f8).length c499_21, .slice A499_22 ((rd_T41 l1 x8_2).f1.f9).length c499_22, .int .i64 ((rd_T41 l1 x8_2).f2.f0), .bool ((rd_T41 l1 x8_2).f2.f1), .int .i64 ((rd_T41 l1 x8_2).f2.f2), .int .i64 ((rd_T41 l1 x8_2).f2.f3), .int .i64 ((rd_T41 l1 x8_2).f2.f4), .slice A499_28 ((rd_T41 l1 x8_2).f2.f5).length c499_28, .int .i64 ((rd_T41 l1 x8_2).f2.f6), .string ((rd_T41 l1 x8_2).f2.f7), .string ((rd_T41 l1 x8_2).f2.f8)], .agg #[.string ((rd_T41 l1 x9_3).f0.f0), .string ((rd_T41 l1 x9_3).f0.f1), .string ((rd_T41 l1 x9_3).f0.f2), .int .i64 ((rd_T41 l1 x9_3).f0.f3), .int .i64 ((rd_T41 l1 x9_3).f0.f4), .int .i64 ((rd_T41 l1 x9_3).f0.f5), .int .i64 ((rd_T41 l1 x9_3).f0.f6), .bool ((rd_T41 l1 x9_3).f0.f7), .int .i64 ((rd_T41 l1 x9_3).f0.f8), .slice A500_9 ((rd_T41 l1 x9_3).f0.f9).length c500_9, .slice A500_10 ((rd_T41 l1 x9_3).f0.f10).length c500_10, .slice A500_11 ((rd_T41 l1 x9_3).f0.f11).length c500_11, .slice A500_12 ((rd_T41 l1 x9_3).f0.f12).length c500_12, .string ((rd_T41 l1 x9_3).f1.f0), .int .i64 ((rd_T41 l1 x9_3).f1.f1), .int .i64 ((rd_T41 l1 x9_3).f1.f2), .int .i64 ((rd_T41 l1 x9_3).f1.f3), .slice A500_17 ((rd_T41 l1 x9_3).f1.f4).length c500_17, .slice A500_18 ((rd_T41 l1 x9_3).f1.f5).length c500_18, .slice A500_19 ((rd_T41 l1 x9_3).f1.f6).length c500_19, .slice A500_20 ((rd_T41 l1 x9_3).f1.f7).length c500_20, .slice A500_21 ((rd_T41 l1 x9_3).f1.f8).length c500_21, .slice A500_22 ((rd_T41 l1 x9_3).f1.f9).length c500_22, .int .i64 ((rd_T41 l1 x9_3).f2.f0), .bool ((rd_T41 l1 x9_3).f2.f1), .int .i64 ((rd_T41 l1 x9_3).f2.f2), .int .i64 ((rd_T41 l1 x9_3).f2.f3), .int .i64 ((rd_T41 l1 x9_3).f2.f4), .slice A500_28 ((rd_T41 l1 x9_3).f2.f5).length c500_28, .int .i64 ((rd_T41 l1 x9_3).f2.f6), .string ((rd_T41 l1 x9_3).f2.f7), .string ((rd_T41 l1 x9_3).f2.f8)], .int .i64 a2] (by rfl) rfl rfl (by (try simp only [List.map_toArray, List.map_cons, List.map_nil]); first | done | rfl | (simp only [List.length_drop, List.length_take]; rfl)) ?_
                with_reducible refine (netpolicy_Allowed.calls k3 _ _ _ _ _ _ _ _ _ _ _ _ _ _ _ _ _ _ _ _ _ _ _ _ _ _ _ _ _ _ _ _ _ _ _ _ _ _ _ _ _ _ _ _ _ _ _ _ _ _ _ _ _ _ _ _ _ _ _ _ _ _ _ _ _ _ _ _ _ _ _ _ _ _ _ _ _ _ _ _ _ _ _ _ _ _ _ _ _ _ _ _ _ _ _ _ _ _ _ _ _ _ _ _ _ _ _ _ _ _ _ _ _ _ ?side1 ?side2 ?side3 ?side4 ?side5 ?side6 ?side7 ?side8 ?side9 ?side10 ?side11 ?side12 ?side13 ?side14 ?side15 ?side16 ?side17 ?side18 ?side19 ?side20 ?side21 ?side22 ?side23 ?side24 ?side25 ?side26 ?side27 ?side28 ?side29 ?side30 ?side31 ?side32 ?side33 ?side34 ?side35 ?side36 ?side37 ?side38 ?side39 ?side40 ?side41 ?side42 ?side43 ?side44 ?side45 ?side46 A18.out).mono ?_
                (case side1 => exact s_C (Kd.C_below HR0.out HB.out))
                (case side2 => exact HC0.out)
                (case side3 => exact s_C (Kd.C_below HR499_9.out HB.out))
                (case side4 => exact HC499_9.out)
                (case side5 => exact s_C (Kd.C_below HR499_10.out HB.out))
                (case side6 => exact HC499_10.out)
                (case side7 => exact s_C (Kd.C_below HR499_11.out HB.out))
                (case side8 => exact HC499_11.out)
                (case side9 => exact s_C (Kd.C_below HR499_12.out HB.out))
                (case side10 => exact HC499_12.out)
                (case side11 => exact s_C (Kd.C_below HR499_17.out HB.out))
                (case side12 => exact HC499_17.out)
                (case side13 => exact s_C (Kd.C_below HR499_18.out HB.out))
                (case side14 => exact HC499_18.out)
                (case side15 => exact s_C (Kd.C_below HR499_19.out HB.out))
                (case side16 => exact HC499_19.out)
                (case side17 => exact s_C (Kd.C_below HR499_20.out HB.out))
                (case side18 => exact HC499_20.out)
                (case side19 => exact s_C (Kd.C_below HR499_21.out HB.out))
                (case side20 => exact HC499_21.out)
                (case side21 => exact s_C (Kd.C_below HR499_22.out HB.out))
                (case side22 => exact HC499_22.out)
                (case side23 => exact s_C (Kd.C_below HR499_28.out HB.out))
                (case side24 => exact HC499_28.out)
                (case side25 => exact s_C (Kd.C_below HR500_9.out HB.out))
                (case side26 => exact HC500_9.out)
                (case side27 => exact s_C (Kd.C_below HR500_10.out HB.out))
                (case side28 => exact HC500_10.out)
                (case side29 => exact s_C (Kd.C_below HR500_11.out HB.out))
                (case side30 => exact HC500_11.out)
                (case side31 => exact s_C (Kd.C_below HR500_12.out HB.out))
                (case side32 => exact HC500_12.out)
                (case side33 => exact s_C (Kd.C_below HR500_17.out HB.out))
                (case side34 => exact HC500_17.out)
                (case side35 => exact s_C (Kd.C_below HR500_18.out HB.out))
                (case side36 => exact HC500_18.out)
                (case side37 => exact s_C (Kd.C_below HR500_19.out HB.out))
                (case side38 => exact HC500_19.out)
                (case side39 => exact s_C (Kd.C_below HR500_20.out HB.out))
                (case side40 => exact HC500_20.out)
                (case side41 => exact s_C (Kd.C_below HR500_21.out HB.out))
                (case side42 => exact HC500_21.out)
                (case side43 => exact s_C (Kd.C_below HR500_22.out HB.out))
                (case side44 => exact HC500_22.out)
                (case side45 => exact s_C (Kd.C_below HR500_28.out HB.out))
                (case side46 => exact HC500_28.out)
                rintro e w22 ⟨rfl, hb⟩
                refine ⟨_, rfl, ?_⟩
                replace HO_7 := s_a (Kd.R_below (by exact s_R (HO_7.out)) hb)
                replace HB := s_a (below_step (by exact s_b HB.out) hb)
                (try clear hb)
                (try clear hb2)
                (try clear hk)
                (try clear hi)
                refine hK.out _ _ ⟨(s_m HB.out hw499_0), (s_m HB.out hw499_1), (s_m HB.out hw499_2), (s_m HB.out hw499_3), (s_m HB.out hw499_4), (s_m HB.out hw499_5), (s_m HB.out hw499_6), (s_m HB.out hw499_7), (s_m HB.out hw499_8), (s_m HB.out hw499_9), (s_m HB.out hw499_10), (s_m HB.out hw499_11), (s_m HB.out hw499_12), (s_m HB.out hw499_13), (s_m HB.out hw499_14), (s_m HB.out hw499_15), (s_m HB.out hw499_16), (s_m HB.out hw499_17), (s_m HB.out hw499_18), (s_m HB.out hw499_19), (s_m HB.out hw499_20), (s_m HB.out hw499_21), (s_m HB.out hw499_22), (s_m HB.out hw499_23), (s_m HB.out hw499_24), (s_m HB.out hw499_25), (s_m HB.out hw499_26), (s_m HB.out hw499_27), (s_m HB.out hw499_28), (s_m HB.out hw499_29), (s_m HB.out hw499_30), (s_m HB.out hw499_31), (s_m HB.out hw500_0), (s_m HB.out hw500_1), (s_m HB.out hw500_2), (s_m HB.out hw500_3), (s_m HB.out hw500_4), (s_m HB.out hw500_5), (s_m HB.out hw500_6), (s_m HB.out hw500_7), (s_m HB.out hw500_8), (s_m HB.out hw500_9), (s_m HB.out hw500_10), (s_m HB.out hw500_11), (s_m HB.out hw500_12), (s_m HB.out hw500_13), (s_m HB.out hw500_14), (s_m HB.out hw500_15), (s_m HB.out hw500_16), (s_m HB.out hw500_17), (s_m HB.out hw500_18), (s_m HB.out hw500_19), (s_m HB.out hw500_20), (s_m HB.out hw500_21), (s_m HB.out hw500_22), (s_m HB.out hw500_23), (s_m HB.out hw500_24), (s_m HB.out hw500_25), (s_m HB.out hw500_26), (s_m HB.out hw500_27), (s_m HB.out hw500_28), (s_m HB.out hw500_29), (s_m HB.out hw500_30), (s_m HB.out hw500_31)⟩ (fun hHeld => ?_)
                clear hK K
                refine norm_ (a' := ?_) ?_ ?_
                rotate_left
                ·show Act.put _ (some 45) _ = _
                 simp only [Act.put, List.setIfInBounds_toArray, List.set_cons_zero, List.set_cons_succ, i64_w, i32_w]
                 rfl
                refine q_p 15 (some 46) (bz 16 65535) (any_of HT_.out (by kernel_rfl)) (v := ?_) ?_ (a' := ?_) ?_ ?_; rotate_left 2
                ·intro w'; go_simp; with_reducible rfl
                ·simp only [Act.put, List.setIfInBounds_toArray, List.set_cons_zero, List.set_cons_succ, i64_w, i32_w]; rfl
                refine done_ (done_of HT_.out (by kernel_rfl)) ?_
                try go_wp2_with (first | ((with_reducible refine gate_builtin (b := .append) (xs := #[.tmp 47, .tmp 51]) rfl ?_); (try (refine gate_guard (by rfl) ?_; dsimp only)); at_builtin; refine Kd.R_append k48 (w0 := w) w.heap.size rfl (.tmp 47) (.tmp 51) 47 48 (.agg #[(.int .i64 0), (.int .i64 0)]) 16 rfl Try.underlying47 info48 rfl (by decide) (by omega) u7 x7_3 (⟨x8_2, x9_3⟩ : S48) [.int .i64 x8_2, .int .i64 x9_3] (fun _ => True) (fun _ => False) rfl rfl ?aP (fun _ hk => hk.elim) ?aF ?aO ?aB ?aS ?aL ?_; (case aP => exact k48_mkM _ _ _ (⟨x8_2, x9_3⟩ : S48)); (case aB => exact (by exact s_b HB.out)); (case aF => exact (fun _ _ => trivial)); (case aO => exact (by exact s_R (HO_7.out))); (case aS => exact (below_size (by exact s_b HB.out))); (case aL => have := LMc20.out; omega); intro v503 w23 ho hb hg hat; rw [← Ny502.out] at ho; have n0_ := s_a (ho); clear HO_7; have HO504 := n0_; clear n0_; replace HB := s_a (hb); clear ho hb hg hat))
                go_roundg k3
                case measure => have := HJ3.out; have := HK2.out; have := HK3.out; omega
                case rel => exact ⟨(y502), (wrap64 (x9_3 + 1)), (by first | rfl | (simp; done) | (simp [*]; done)), H', ⟨by have := HJ3.out; have := HK2.out; have := HK3.out; omega⟩, ⟨by exact s_R (HO504.out)⟩, ⟨by exact s_b HB.out⟩⟩
               ·rw [if_neg c20] at H
                exact absurd H (by simp)
              ·replace c19 := Bool.eq_false_iff.mpr c19
               subst c19
               have H1 : (orchestratorlaw57_NetpolicyReaches.l1 k3 l0 l1 a2 x7_3 x8_2 (wrap64 (x9_3 + 1))) = some true := by first | (rw [if_neg (show ¬ (false = true) by decide)] at H; exact H) | rfl
               clear H
               have H := H1
               clear H1
               have H' := s_a H
               clear H
               try go_wp2
               replace HO_7 := s_a (Kd.R_drew HO_7.out)
               replace HB := s_a (below_drew1 HB.out)
               have p499 : 0 ≤ (x8_2 : Int) := of_decide_eq_true (by first | (with_reducible assumption) | assumption)
               have q499 : x8_2 < (l1.length : Int) := of_decide_eq_true (by first | (with_reducible assumption) | assumption)
               obtain ⟨ad499, A499_9, c499_9, A499_10, c499_10, A499_11, c499_11, A499_12, c499_12, A499_17, c499_17, A499_18, c499_18, A499_19, c499_19, A499_20, c499_20, A499_21, c499_21, A499_22, c499_22, A499_28, c499_28, e499, hx499_0, hx499_1, hx499_2, hx499_3, hx499_4, hx499_5, hx499_6, hx499_7, hx499_8, hx499_9, hx499_10, hx499_11, hx499_12, hx499_13, hx499_14, hx499_15, hx499_16, hx499_17, hx499_18, hx499_19, hx499_20, hx499_21, hx499_22, hx499_23, hx499_24, hx499_25, hx499_26, hx499_27, hx499_28, hx499_29, hx499_30, hx499_31, hl499_9, hi499_9, hl499_10, hi499_10, hl499_11, hi499_11, hl499_12, hi499_12, hl499_17, hi499_17, hl499_18, hi499_18, hl499_19, hi499_19, hl499_20, hi499_20, hl499_21, hi499_21, hl499_22, hi499_22, hl499_28, hi499_28⟩ := at_T41 HR1.out x8_2 p499 q499
               have hw499_31 := hx499_31
               have hw499_30 := hx499_30
               have hw499_29 := hx499_29
               have hw499_28 := hx499_28
               have hw499_27 := hx499_27
               have hw499_26 := hx499_26
               have hw499_25 := hx499_25
               have hw499_24 := hx499_24
               have hw499_23 := hx499_23
               have hw499_22 := hx499_22
               have hw499_21 := hx499_21
               have hw499_20 := hx499_20
               have hw499_19 := hx499_19
               have hw499_18 := hx499_18
               have hw499_17 := hx499_17
               have hw499_16 := hx499_16
               have hw499_15 := hx499_15
               have hw499_14 := hx499_14
               have hw499_13 := hx499_13
               have hw499_12 := hx499_12
               have hw499_11 := hx499_11
               have hw499_10 := hx499_10
               have hw499_9 := hx499_9
               have hw499_8 := hx499_8
               have hw499_7 := hx499_7
               have hw499_6 := hx499_6
               have hw499_5 := hx499_5
               have hw499_4 := hx499_4
               have hw499_3 := hx499_3
               have hw499_2 := hx499_2
               have hw499_1 := hx499_1
               have hw499_0 := hx499_0
               cases e499
               replace hx499_0 := s_m HB.out hx499_0
               replace hx499_1 := s_m HB.out hx499_1
               replace hx499_2 := s_m HB.out hx499_2
               replace hx499_3 := s_m HB.out hx499_3
               replace hx499_4 := s_m HB.out hx499_4
               replace hx499_5 := s_m HB.out hx499_5
               replace hx499_6 := s_m HB.out hx499_6
               replace hx499_7 := s_m HB.out hx499_7
               replace hx499_8 := s_m HB.out hx499_8
               replace hx499_9 := s_m HB.out hx499_9
               replace hx499_10 := s_m HB.out hx499_10
               replace hx499_11 := s_m HB.out hx499_11
               replace hx499_12 := s_m HB.out hx499_12
               replace hx499_13 := s_m HB.out hx499_13
               replace hx499_14 := s_m HB.out hx499_14
               replace hx499_15 := s_m HB.out hx499_15
               replace hx499_16 := s_m HB.out hx499_16
               replace hx499_17 := s_m HB.out hx499_17
               replace hx499_18 := s_m HB.out hx499_18
               replace hx499_19 := s_m HB.out hx499_19
               replace hx499_20 := s_m HB.out hx499_20
               replace hx499_21 := s_m HB.out hx499_21
               replace hx499_22 := s_m HB.out hx499_22
               replace hx499_23 := s_m HB.out hx499_23
               replace hx499_24 := s_m HB.out hx499_24
               replace hx499_25 := s_m HB.out hx499_25
               replace hx499_26 := s_m HB.out hx499_26
               replace hx499_27 := s_m HB.out hx499_27
               replace hx499_28 := s_m HB.out hx499_28
               replace hx499_29 := s_m HB.out hx499_29
               replace hx499_30 := s_m HB.out hx499_30
               replace hx499_31 := s_m HB.out hx499_31
               have HR499_9 := s_a hi499_9
               have HC499_9 := s_a hl499_9
               clear hi499_9 hl499_9
               have HR499_10 := s_a hi499_10
               have HC499_10 := s_a hl499_10
               clear hi499_10 hl499_10
               have HR499_11 := s_a hi499_11
               have HC499_11 := s_a hl499_11
               clear hi499_11 hl499_11
               have HR499_12 := s_a hi499_12
               have HC499_12 := s_a hl499_12
               clear hi499_12 hl499_12
               have HR499_17 := s_a hi499_17
               have HC499_17 := s_a hl499_17
               clear hi499_17 hl499_17
               have HR499_18 := s_a hi499_18
               have HC499_18 := s_a hl499_18
               clear hi499_18 hl499_18
               have HR499_19 := s_a hi499_19
               have HC499_19 := s_a hl499_19
               clear hi499_19 hl499_19
               have HR499_20 := s_a hi499_20
               have HC499_20 := s_a hl499_20
               clear hi499_20 hl499_20
               have HR499_21 := s_a hi499_21
               have HC499_21 := s_a hl499_21
               clear hi499_21 hl499_21
               have HR499_22 := s_a hi499_22
               have HC499_22 := s_a hl499_22
               clear hi499_22 hl499_22
               have HR499_28 := s_a hi499_28
               have HC499_28 := s_a hl499_28
               clear hi499_28 hl499_28
               replace p499 := eq_true p499
               replace q499 := eq_true q499
               have p500 : 0 ≤ (x9_3 : Int) := of_decide_eq_true (by first | (with_reducible assumption) | assumption)
               have q500 : x9_3 < (l1.length : Int) := of_decide_eq_true (by first | (with_reducible assumption) | assumption)
               obtain ⟨ad500, A500_9, c500_9, A500_10, c500_10, A500_11, c500_11, A500_12, c500_12, A500_17, c500_17, A500_18, c500_18, A500_19, c500_19, A500_20, c500_20, A500_21, c500_21, A500_22, c500_22, A500_28, c500_28, e500, hx500_0, hx500_1, hx500_2, hx500_3, hx500_4, hx500_5, hx500_6, hx500_7, hx500_8, hx500_9, hx500_10, hx500_11, hx500_12, hx500_13, hx500_14, hx500_15, hx500_16, hx500_17, hx500_18, hx500_19, hx500_20, hx500_21, hx500_22, hx500_23, hx500_24, hx500_25, hx500_26, hx500_27, hx500_28, hx500_29, hx500_30, hx500_31, hl500_9, hi500_9, hl500_10, hi500_10, hl500_11, hi500_11, hl500_12, hi500_12, hl500_17, hi500_17, hl500_18, hi500_18, hl500_19, hi500_19, hl500_20, hi500_20, hl500_21, hi500_21, hl500_22, hi500_22, hl500_28, hi500_28⟩ := at_T41 HR1.out x9_3 p500 q500
               have hw500_31 := hx500_31
               have hw500_30 := hx500_30
               have hw500_29 := hx500_29
               have hw500_28 := hx500_28
               have hw500_27 := hx500_27
               have hw500_26 := hx500_26
               have hw500_25 := hx500_25
               have hw500_24 := hx500_24
               have hw500_23 := hx500_23
               have hw500_22 := hx500_22
               have hw500_21 := hx500_21
               have hw500_20 := hx500_20
               have hw500_19 := hx500_19
               have hw500_18 := hx500_18
               have hw500_17 := hx500_17
               have hw500_16 := hx500_16
               have hw500_15 := hx500_15
               have hw500_14 := hx500_14
               have hw500_13 := hx500_13
               have hw500_12 := hx500_12
               have hw500_11 := hx500_11
               have hw500_10 := hx500_10
               have hw500_9 := hx500_9
               have hw500_8 := hx500_8
               have hw500_7 := hx500_7
               have hw500_6 := hx500_6
               have hw500_5 := hx500_5
               have hw500_4 := hx500_4
               have hw500_3 := hx500_3
               have hw500_2 := hx500_2
               have hw500_1 := hx500_1
               have hw500_0 := hx500_0
               obtain rfl : ad499 = ad500 := (by injection e500)
               replace hx500_0 := s_m HB.out hx500_0
               replace hx500_1 := s_m HB.out hx500_1
               replace hx500_2 := s_m HB.out hx500_2
               replace hx500_3 := s_m HB.out hx500_3
               replace hx500_4 := s_m HB.out hx500_4
               replace hx500_5 := s_m HB.out hx500_5
               replace hx500_6 := s_m HB.out hx500_6
               replace hx500_7 := s_m HB.out hx500_7
               replace hx500_8 := s_m HB.out hx500_8
               replace hx500_9 := s_m HB.out hx500_9
               replace hx500_10 := s_m HB.out hx500_10
               replace hx500_11 := s_m HB.out hx500_11
               replace hx500_12 := s_m HB.out hx500_12
               replace hx500_13 := s_m HB.out hx500_13
               replace hx500_14 := s_m HB.out hx500_14
               replace hx500_15 := s_m HB.out hx500_15
               replace hx500_16 := s_m HB.out hx500_16
               replace hx500_17 := s_m HB.out hx500_17
               replace hx500_18 := s_m HB.out hx500_18
               replace hx500_19 := s_m HB.out hx500_19
               replace hx500_20 := s_m HB.out hx500_20
               replace hx500_21 := s_m HB.out hx500_21
               replace hx500_22 := s_m HB.out hx500_22
               replace hx500_23 := s_m HB.out hx500_23
               replace hx500_24 := s_m HB.out hx500_24
               replace hx500_25 := s_m HB.out hx500_25
               replace hx500_26 := s_m HB.out hx500_26
               replace hx500_27 := s_m HB.out hx500_27
               replace hx500_28 := s_m HB.out hx500_28
               replace hx500_29 := s_m HB.out hx500_29
               replace hx500_30 := s_m HB.out hx500_30
               replace hx500_31 := s_m HB.out hx500_31
               have HR500_9 := s_a hi500_9
               have HC500_9 := s_a hl500_9
               clear hi500_9 hl500_9
               have HR500_10 := s_a hi500_10
               have HC500_10 := s_a hl500_10
               clear hi500_10 hl500_10
               have HR500_11 := s_a hi500_11
               have HC500_11 := s_a hl500_11
               clear hi500_11 hl500_11
               have HR500_12 := s_a hi500_12
               have HC500_12 := s_a hl500_12
               clear hi500_12 hl500_12
               have HR500_17 := s_a hi500_17
               have HC500_17 := s_a hl500_17
               clear hi500_17 hl500_17
               have HR500_18 := s_a hi500_18
               have HC500_18 := s_a hl500_18
               clear hi500_18 hl500_18
               have HR500_19 := s_a hi500_19
               have HC500_19 := s_a hl500_19
               clear hi500_19 hl500_19
               have HR500_20 := s_a hi500_20
               have HC500_20 := s_a hl500_20
               clear hi500_20 hl500_20
               have HR500_21 := s_a hi500_21
               have HC500_21 := s_a hl500_21
               clear hi500_21 hl500_21
               have HR500_22 := s_a hi500_22
               have HC500_22 := s_a hl500_22
               clear hi500_22 hl500_22
               have HR500_28 := s_a hi500_28
               have HC500_28 := s_a hl500_28
               clear hi500_28 hl500_28
               replace p500 := eq_true p500
               replace q500 := eq_true q500
               refine start_ (n := 16) (S := fun w' => w'.cell? (ad499.add ((x8_2).toNat * 32)) = some (.string ((rd_T41 l1 x8_2).f0.f0)) ∧ w'.cell? ⟨(ad499.add ((x8_2).toNat * 32)).block, (ad499.add ((x8_2).toNat * 32)).off + 1, none⟩ = some (.string ((rd_T41 l1 x8_2).f0.f1)) ∧ w'.cell? ⟨(ad499.add ((x8_2).toNat * 32)).block, (ad499.add ((x8_2).toNat * 32)).off + 2, none⟩ = some (.string ((rd_T41 l1 x8_2).f0.f2)) ∧ w'.cell? ⟨(ad499.add ((x8_2).toNat * 32)).block, (ad499.add ((x8_2).toNat * 32)).off + 3, none⟩ = some (.int .i64 ((rd_T41 l1 x8_2).f0.f3)) ∧ w'.cell? ⟨(ad499.add ((x8_2).toNat * 32)).block, (ad499.add ((x8_2).toNat * 32)).off + 4, none⟩ = some (.int .i64 ((rd_T41 l1 x8_2).f0.f4)) ∧ w'.cell? ⟨(ad499.add ((x8_2).toNat * 32)).block, (ad499.add ((x8_2).toNat * 32)).off + 5, none⟩ = some (.int .i64 ((rd_T41 l1 x8_2).f0.f5)) ∧ w'.cell? ⟨(ad499.add ((x8_2).toNat * 32)).block, (ad499.add ((x8_2).toNat * 32)).off + 6, none⟩ = some (.int .i64 ((rd_T41 l1 x8_2).f0.f6)) ∧ w'.cell? ⟨(ad499.add ((x8_2).toNat * 32)).block, (ad499.add ((x8_2).toNat * 32)).off + 7, none⟩ = some (.bool ((rd_T41 l1 x8_2).f0.f7)) ∧ w'.cell? ⟨(ad499.add ((x8_2).toNat * 32)).block, (ad499.add ((x8_2).toNat * 32)).off + 8, none⟩ = some (.int .i64 ((rd_T41 l1 x8_2).f0.f8)) ∧ w'.cell? ⟨(ad499.add ((x8_2).toNat * 32)).block, (ad499.add ((x8_2).toNat * 32)).off + 9, none⟩ = some (.slice A499_9 ((rd_T41 l1 x8_2).f0.f9).length c499_9) ∧ w'.cell? ⟨(ad499.add ((x8_2).toNat * 32)).block, (ad499.add ((x8_2).toNat * 32)).off + 10, none⟩ = some (.slice A499_10 ((rd_T41 l1 x8_2).f0.f10).length c499_10) ∧ w'.cell? ⟨(ad499.add ((x8_2).toNat * 32)).block, (ad499.add ((x8_2).toNat * 32)).off + 11, none⟩ = some (.slice A499_11 ((rd_T41 l1 x8_2).f0.f11).length c499_11) ∧ w'.cell? ⟨(ad499.add ((x8_2).toNat * 32)).block, (ad499.add ((x8_2).toNat * 32)).off + 12, none⟩ = some (.slice A499_12 ((rd_T41 l1 x8_2).f0.f12).length c499_12) ∧ w'.cell? ⟨(ad499.add ((x8_2).toNat * 32)).block, (ad499.add ((x8_2).toNat * 32)).off + 13, none⟩ = some (.string ((rd_T41 l1 x8_2).f1.f0)) ∧ w'.cell? ⟨(ad499.add ((x8_2).toNat * 32)).block, (ad499.add ((x8_2).toNat * 32)).off + 14, none⟩ = some (.int .i64 ((rd_T41 l1 x8_2).f1.f1)) ∧ w'.cell? ⟨(ad499.add ((x8_2).toNat * 32)).block, (ad499.add ((x8_2).toNat * 32)).off + 15, none⟩ = some (.int .i64 ((rd_T41 l1 x8_2).f1.f2)) ∧ w'.cell? ⟨(ad499.add ((x8_2).toNat * 32)).block, (ad499.add ((x8_2).toNat * 32)).off + 16, none⟩ = some (.int .i64 ((rd_T41 l1 x8_2).f1.f3)) ∧ w'.cell? ⟨(ad499.add ((x8_2).toNat * 32)).block, (ad499.add ((x8_2).toNat * 32)).off + 17, none⟩ = some (.slice A499_17 ((rd_T41 l1 x8_2).f1.f4).length c499_17) ∧ w'.cell? ⟨(ad499.add ((x8_2).toNat * 32)).block, (ad499.add ((x8_2).toNat * 32)).off + 18, none⟩ = some (.slice A499_18 ((rd_T41 l1 x8_2).f1.f5).length c499_18) ∧ w'.cell? ⟨(ad499.add ((x8_2).toNat * 32)).block, (ad499.add ((x8_2).toNat * 32)).off + 19, none⟩ = some (.slice A499_19 ((rd_T41 l1 x8_2).f1.f6).length c499_19) ∧ w'.cell? ⟨(ad499.add ((x8_2).toNat * 32)).block, (ad499.add ((x8_2).toNat * 32)).off + 20, none⟩ = some (.slice A499_20 ((rd_T41 l1 x8_2).f1.f7).length c499_20) ∧ w'.cell? ⟨(ad499.add ((x8_2).toNat * 32)).block, (ad499.add ((x8_2).toNat * 32)).off + 21, none⟩ = some (.slice A499_21 ((rd_T41 l1 x8_2).f1.f8).length c499_21) ∧ w'.cell? ⟨(ad499.add ((x8_2).toNat * 32)).block, (ad499.add ((x8_2).toNat * 32)).off + 22, none⟩ = some (.slice A499_22 ((rd_T41 l1 x8_2).f1.f9).length c499_22) ∧ w'.cell? ⟨(ad499.add ((x8_2).toNat * 32)).block, (ad499.add ((x8_2).toNat * 32)).off + 23, none⟩ = some (.int .i64 ((rd_T41 l1 x8_2).f2.f0)) ∧ w'.cell? ⟨(ad499.add ((x8_2).toNat * 32)).block, (ad499.add ((x8_2).toNat * 32)).off + 24, none⟩ = some (.bool ((rd_T41 l1 x8_2).f2.f1)) ∧ w'.cell? ⟨(ad499.add ((x8_2).toNat * 32)).block, (ad499.add ((x8_2).toNat * 32)).off + 25, none⟩ = some (.int .i64 ((rd_T41 l1 x8_2).f2.f2)) ∧ w'.cell? ⟨(ad499.add ((x8_2).toNat * 32)).block, (ad499.add ((x8_2).toNat * 32)).off + 26, none⟩ = some (.int .i64 ((rd_T41 l1 x8_2).f2.f3)) ∧ w'.cell? ⟨(ad499.add ((x8_2).toNat * 32)).block, (ad499.add ((x8_2).toNat * 32)).off + 27, none⟩ = some (.int .i64 ((rd_T41 l1 x8_2).f2.f4)) ∧ w'.cell? ⟨(ad499.add ((x8_2).toNat * 32)).block, (ad499.add ((x8_2).toNat * 32)).off + 28, none⟩ = some (.slice A499_28 ((rd_T41 l1 x8_2).f2.f5).length c499_28) ∧ w'.cell? ⟨(ad499.add ((x8_2).toNat * 32)).block, (ad499.add ((x8_2).toNat * 32)).off + 29, none⟩ = some (.int .i64 ((rd_T41 l1 x8_2).f2.f6)) ∧ w'.cell? ⟨(ad499.add ((x8_2).toNat * 32)).block, (ad499.add ((x8_2).toNat * 32)).off + 30, none⟩ = some (.string ((rd_T41 l1 x8_2).f2.f7)) ∧ w'.cell? ⟨(ad499.add ((x8_2).toNat * 32)).block, (ad499.add ((x8_2).toNat * 32)).off + 31, none⟩ = some (.string ((rd_T41 l1 x8_2).f2.f8)) ∧ w'.cell? (ad499.add ((x9_3).toNat * 32)) = some (.string ((rd_T41 l1 x9_3).f0.f0)) ∧ w'.cell? ⟨(ad499.add ((x9_3).toNat * 32)).block, (ad499.add ((x9_3).toNat * 32)).off + 1, none⟩ = some (.string ((rd_T41 l1 x9_3).f0.f1)) ∧ w'.cell? ⟨(ad499.add ((x9_3).toNat * 32)).block, (ad499.add ((x9_3).toNat * 32)).off + 2, none⟩ = some (.string ((rd_T41 l1 x9_3).f0.f2)) ∧ w'.cell? ⟨(ad499.add ((x9_3).toNat * 32)).block, (ad499.add ((x9_3).toNat * 32)).off + 3, none⟩ = some (.int .i64 ((rd_T41 l1 x9_3).f0.f3)) ∧ w'.cell? ⟨(ad499.add ((x9_3).toNat * 32)).block, (ad499.add ((x9_3).toNat * 32)).off + 4, none⟩ = some (.int .i64 ((rd_T41 l1 x9_3).f0.f4)) ∧ w'.cell? ⟨(ad499.add ((x9_3).toNat * 32)).block, (ad499.add ((x9_3).toNat * 32)).off + 5, none⟩ = some (.int .i64 ((rd_T41 l1 x9_3).f0.f5)) ∧ w'.cell? ⟨(ad499.add ((x9_3).toNat * 32)).block, (ad499.add ((x9_3).toNat * 32)).off + 6, none⟩ = some (.int .i64 ((rd_T41 l1 x9_3).f0.f6)) ∧ w'.cell? ⟨(ad499.add ((x9_3).toNat * 32)).block, (ad499.add ((x9_3).toNat * 32)).off + 7, none⟩ = some (.bool ((rd_T41 l1 x9_3).f0.f7)) ∧ w'.cell? ⟨(ad499.add ((x9_3).toNat * 32)).block, (ad499.add ((x9_3).toNat * 32)).off + 8, none⟩ = some (.int .i64 ((rd_T41 l1 x9_3).f0.f8)) ∧ w'.cell? ⟨(ad499.add ((x9_3).toNat * 32)).block, (ad499.add ((x9_3).toNat * 32)).off + 9, none⟩ = some (.slice A500_9 ((rd_T41 l1 x9_3).f0.f9).length c500_9) ∧ w'.cell? ⟨(ad499.add ((x9_3).toNat * 32)).block, (ad499.add ((x9_3).toNat * 32)).off + 10, none⟩ = some (.slice A500_10 ((rd_T41 l1 x9_3).f0.f10).length c500_10) ∧ w'.cell? ⟨(ad499.add ((x9_3).toNat * 32)).block, (ad499.add ((x9_3).toNat * 32)).off + 11, none⟩ = some (.slice A500_11 ((rd_T41 l1 x9_3).f0.f11).length c500_11) ∧ w'.cell? ⟨(ad499.add ((x9_3).toNat * 32)).block, (ad499.add ((x9_3).toNat * 32)).off + 12, none⟩ = some (.slice A500_12 ((rd_T41 l1 x9_3).f0.f12).length c500_12) ∧ w'.cell? ⟨(ad499.add ((x9_3).toNat * 32)).block, (ad499.add ((x9_3).toNat * 32)).off + 13, none⟩ = some (.string ((rd_T41 l1 x9_3).f1.f0)) ∧ w'.cell? ⟨(ad499.add ((x9_3).toNat * 32)).block, (ad499.add ((x9_3).toNat * 32)).off + 14, none⟩ = some (.int .i64 ((rd_T41 l1 x9_3).f1.f1)) ∧ w'.cell? ⟨(ad499.add ((x9_3).toNat * 32)).block, (ad499.add ((x9_3).toNat * 32)).off + 15, none⟩ = some (.int .i64 ((rd_T41 l1 x9_3).f1.f2)) ∧ w'.cell? ⟨(ad499.add ((x9_3).toNat * 32)).block, (ad499.add ((x9_3).toNat * 32)).off + 16, none⟩ = some (.int .i64 ((rd_T41 l1 x9_3).f1.f3)) ∧ w'.cell? ⟨(ad499.add ((x9_3).toNat * 32)).block, (ad499.add ((x9_3).toNat * 32)).off + 17, none⟩ = some (.slice A500_17 ((rd_T41 l1 x9_3).f1.f4).length c500_17) ∧ w'.cell? ⟨(ad499.add ((x9_3).toNat * 32)).block, (ad499.add ((x9_3).toNat * 32)).off + 18, none⟩ = some (.slice A500_18 ((rd_T41 l1 x9_3).f1.f5).length c500_18) ∧ w'.cell? ⟨(ad499.add ((x9_3).toNat * 32)).block, (ad499.add ((x9_3).toNat * 32)).off + 19, none⟩ = some (.slice A500_19 ((rd_T41 l1 x9_3).f1.f6).length c500_19) ∧ w'.cell? ⟨(ad499.add ((x9_3).toNat * 32)).block, (ad499.add ((x9_3).toNat * 32)).off + 20, none⟩ = some (.slice A500_20 ((rd_T41 l1 x9_3).f1.f7).length c500_20) ∧ w'.cell? ⟨(ad499.add ((x9_3).toNat * 32)).block, (ad499.add ((x9_3).toNat * 32)).off + 21, none⟩ = some (.slice A500_21 ((rd_T41 l1 x9_3).f1.f8).length c500_21) ∧ w'.cell? ⟨(ad499.add ((x9_3).toNat * 32)).block, (ad499.add ((x9_3).toNat * 32)).off + 22, none⟩ = some (.slice A500_22 ((rd_T41 l1 x9_3).f1.f9).length c500_22) ∧ w'.cell? ⟨(ad499.add ((x9_3).toNat * 32)).block, (ad499.add ((x9_3).toNat * 32)).off + 23, none⟩ = some (.int .i64 ((rd_T41 l1 x9_3).f2.f0)) ∧ w'.cell? ⟨(ad499.add ((x9_3).toNat * 32)).block, (ad499.add ((x9_3).toNat * 32)).off + 24, none⟩ = some (.bool ((rd_T41 l1 x9_3).f2.f1)) ∧ w'.cell? ⟨(ad499.add ((x9_3).toNat * 32)).block, (ad499.add ((x9_3).toNat * 32)).off + 25, none⟩ = some (.int .i64 ((rd_T41 l1 x9_3).f2.f2)) ∧ w'.cell? ⟨(ad499.add ((x9_3).toNat * 32)).block, (ad499.add ((x9_3).toNat * 32)).off + 26, none⟩ = some (.int .i64 ((rd_T41 l1 x9_3).f2.f3)) ∧ w'.cell? ⟨(ad499.add ((x9_3).toNat * 32)).block, (ad499.add ((x9_3).toNat * 32)).off + 27, none⟩ = some (.int .i64 ((rd_T41 l1 x9_3).f2.f4)) ∧ w'.cell? ⟨(ad499.add ((x9_3).toNat * 32)).block, (ad499.add ((x9_3).toNat * 32)).off + 28, none⟩ = some (.slice A500_28 ((rd_T41 l1 x9_3).f2.f5).length c500_28) ∧ w'.cell? ⟨(ad499.add ((x9_3).toNat * 32)).block, (ad499.add ((x9_3).toNat * 32)).off + 29, none⟩ = some (.int .i64 ((rd_T41 l1 x9_3).f2.f6)) ∧ w'.cell? ⟨(ad499.add ((x9_3).toNat * 32)).block, (ad499.add ((x9_3).toNat * 32)).off + 30, none⟩ = some (.string ((rd_T41 l1 x9_3).f2.f7)) ∧ w'.cell? ⟨(ad499.add ((x9_3).toNat * 32)).block, (ad499.add ((x9_3).toNat * 32)).off + 31, none⟩ = some (.string ((rd_T41 l1 x9_3).f2.f8))) (ds := []) (bz 16 0) (by kernel_rfl) rfl rfl ⟨(s_m HB.out hw499_0), (s_m HB.out hw499_1), (s_m HB.out hw499_2), (s_m HB.out hw499_3), (s_m HB.out hw499_4), (s_m HB.out hw499_5), (s_m HB.out hw499_6), (s_m HB.out hw499_7), (s_m HB.out hw499_8), (s_m HB.out hw499_9), (s_m HB.out hw499_10), (s_m HB.out hw499_11), (s_m HB.out hw499_12), (s_m HB.out hw499_13), (s_m HB.out hw499_14), (s_m HB.out hw499_15), (s_m HB.out hw499_16), (s_m HB.out hw499_17), (s_m HB.out hw499_18), (s_m HB.out hw499_19), (s_m HB.out hw499_20), (s_m HB.out hw499_21), (s_m HB.out hw499_22), (s_m HB.out hw499_23), (s_m HB.out hw499_24), (s_m HB.out hw499_25), (s_m HB.out hw499_26), (s_m HB.out hw499_27), (s_m HB.out hw499_28), (s_m HB.out hw499_29), (s_m HB.out hw499_30), (s_m HB.out hw499_31), (s_m HB.out hw500_0), (s_m HB.out hw500_1), (s_m HB.out hw500_2), (s_m HB.out hw500_3), (s_m HB.out hw500_4), (s_m HB.out hw500_5), (s_m HB.out hw500_6), (s_m HB.out hw500_7), (s_m HB.out hw500_8), (s_m HB.out hw500_9), (s_m HB.out hw500_10), (s_m HB.out hw500_11), (s_m HB.out hw500_12), (s_m HB.out hw500_13), (s_m HB.out hw500_14), (s_m HB.out hw500_15), (s_m HB.out hw500_16), (s_m HB.out hw500_17), (s_m HB.out hw500_18), (s_m HB.out hw500_19), (s_m HB.out hw500_20), (s_m HB.out hw500_21), (s_m HB.out hw500_22), (s_m HB.out hw500_23), (s_m HB.out hw500_24), (s_m HB.out hw500_25), (s_m HB.out hw500_26), (s_m HB.out hw500_27), (s_m HB.out hw500_28), (s_m HB.out hw500_29), (s_m HB.out hw500_30), (s_m HB.out hw500_31)⟩ (fun hHeld => ?_); refine with_tabW orchestratorlaw57_NetpolicyReaches.tab10 orchestratorlaw57_NetpolicyReaches.bits10 (fun HT_ HW_ => ?_)
               generalize wr.drew = w24 at HO_7 HB HR499_10 HR499_11 HR499_12 HR499_17 HR499_18 HR499_19 HR499_20 HR499_21 HR499_22 HR499_28 HR499_9 HR500_10 HR500_11 HR500_12 HR500_17 HR500_18 HR500_19 HR500_20 HR500_21 HR500_22 HR500_28 HR500_9 hx499_0 hx499_1 hx499_10 hx499_11 hx499_12 hx499_13 hx499_14 hx499_15 hx499_16 hx499_17 hx499_18 hx499_19 hx499_2 hx499_20 hx499_21 hx499_22 hx499_23 hx499_24 hx499_25 hx499_26 hx499_27 hx499_28 hx499_29 hx499_3 hx499_30 hx499_31 hx499_4 hx499_5 hx499_6 hx499_7 hx499_8 hx499_9 hx500_0 hx500_1 hx500_10 hx500_11 hx500_12 hx500_13 hx500_14 hx500_15 hx500_16 hx500_17 hx500_18 hx500_19 hx500_2 hx500_20 hx500_21 hx500_22 hx500_23 hx500_24 hx500_25 hx500_26 hx500_27 hx500_28 hx500_29 hx500_3 hx500_30 hx500_31 hx500_4 hx500_5 hx500_6 hx500_7 hx500_8 hx500_9 hHeld ⊢
               refine q_p 0 (some 31) (bz 16 1) (any_of HT_.out (by kernel_rfl)) (v := ?_) ?_ (a' := ?_) ?_ ?_; rotate_left 2
               ·intro w'; go_simp; with_reducible rfl
               ·simp only [Act.put, List.setIfInBounds_toArray, List.set_cons_zero, List.set_cons_succ, i64_w, i32_w]; rfl
               refine q_p 1 (some 32) (bz 16 3) (any_of HT_.out (by kernel_rfl)) (v := ?_) ?_ (a' := ?_) ?_ ?_; rotate_left 2
               ·intro w'; go_simp; with_reducible rfl
               ·simp only [Act.put, List.setIfInBounds_toArray, List.set_cons_zero, List.set_cons_succ, i64_w, i32_w]; rfl
               refine q_p 2 (some 33) (bz 16 7) (any_of HT_.out (by kernel_rfl)) (v := ?_) ?_ (a' := ?_) ?_ ?_; rotate_left 2
               ·intro w'; go_simp; with_reducible rfl
               ·simp only [Act.put, List.setIfInBounds_toArray, List.set_cons_zero, List.set_cons_succ, i64_w, i32_w]; rfl
               refine q_p 3 (some 34) (bz 16 15) (any_of HT_.out (by kernel_rfl)) (v := ?_) ?_ (a' := ?_) ?_ ?_; rotate_left 2
               ·intro w'; go_simp; with_reducible rfl
               ·simp only [Act.put, List.setIfInBounds_toArray, List.set_cons_zero, List.set_cons_succ, i64_w, i32_w]; rfl
               refine q_p 4 (some 35) (bz 16 31) (any_of HT_.out (by kernel_rfl)) (v := ?_) ?_ (a' := ?_) ?_ ?_; rotate_left 2
               ·intro w'; go_simp; with_reducible rfl
               ·simp only [Act.put, List.setIfInBounds_toArray, List.set_cons_zero, List.set_cons_succ, i64_w, i32_w]; rfl
               refine q_p 5 (some 36) (bz 16 63) (any_of HT_.out (by kernel_rfl)) (v := ?_) ?_ (a' := ?_) ?_ ?_; rotate_left 2
               ·intro w'; go_simp; with_reducible rfl
               ·simp only [Act.put, List.setIfInBounds_toArray, List.set_cons_zero, List.set_cons_succ, i64_w, i32_w]; rfl
               refine q_p 6 (some 37) (bz 16 127) (any_of HT_.out (by kernel_rfl)) (v := ?_) ?_ (a' := ?_) ?_ ?_; rotate_left 2
               ·intro w'; go_simp; with_reducible rfl
               ·simp only [Act.put, List.setIfInBounds_toArray, List.set_cons_zero, List.set_cons_succ, i64_w, i32_w]; rfl
               refine q_p 7 (some 38) (bz 16 255) (any_of HT_.out (by kernel_rfl)) (v := ?_) ?_ (a' := ?_) ?_ ?_; rotate_left 2
               ·intro w'; go_simp; with_reducible rfl
               ·simp only [Act.put, List.setIfInBounds_toArray, List.set_cons_zero, List.set_cons_succ, i64_w, i32_w]; rfl
               refine q_p 9 (some 40) (bz 16 767) (any_of HT_.out (by kernel_rfl)) (v := ?_) ?_ (a' := ?_) ?_ ?_; rotate_left 2
               ·intro w'; go_simp; with_reducible rfl
               ·simp only [Act.put, List.setIfInBounds_toArray, List.set_cons_zero, List.set_cons_succ, i64_w, i32_w]; rfl
               refine q_p 10 (some 41) (bz 16 1791) (any_of HT_.out (by kernel_rfl)) (v := ?_) ?_ (a' := ?_) ?_ ?_; rotate_left 2
               ·intro w'; go_simp; with_reducible rfl
               ·simp only [Act.put, List.setIfInBounds_toArray, List.set_cons_zero, List.set_cons_succ, i64_w, i32_w]; rfl
               refine q_p 11 (some 42) (bz 16 3839) (any_of HT_.out (by kernel_rfl)) (v := ?_) ?_ (a' := ?_) ?_ ?_; rotate_left 2
               ·intro w'; go_simp; with_reducible rfl
               ·simp only [Act.put, List.setIfInBounds_toArray, List.set_cons_zero, List.set_cons_succ, i64_w, i32_w]; rfl
               refine q_p 13 (some 44) (bz 16 12031) (any_of HT_.out (by kernel_rfl)) (v := ?_) ?_ (a' := ?_) ?_ ?_; rotate_left 2
               ·intro w'; go_simp; with_reducible rfl
               ·simp only [Act.put, List.setIfInBounds_toArray, List.set_cons_zero, List.set_cons_succ, i64_w, i32_w]; rfl
               refine q_t 8 (some 39) (bz 16 12287) (take_ofW HT_.out HW_.out (by kernel_rfl)) hHeld (v := ?_) ?_ (a' := ?_) ?_ ?_; rotate_left 2
               ·rintro w' ⟨s0, s1, s2, s3, s4, s5, s6, s7, s8, s9, s10, s11, s12, s13, s14, s15, s16, s17, s18, s19, s20, s21, s22, s23, s24, s25, s26, s27, s28, s29, s30, s31, s32, s33, s34, s35, s36, s37, s38, s39, s40, s41, s42, s43, s44, s45, s46, s47, s48, s49, s50, s51, s52, s53, s54, s55, s56, s57, s58, s59, s60, s61, s62, s63⟩; (refine (s_ld rfl 41 (.tmp 38) ?_ _ ?_ _ _ (cells_at s0 (s_cc s1 (s_cc s2 (s_cc s3 (s_cc s4 (s_cc s5 (s_cc s6 (s_cc s7 (s_cc s8 (s_cc s9 (s_cc s10 (s_cc s11 (s_cc s12 (s_cc s13 (s_cc s14 (s_cc s15 (s_cc s16 (s_cc s17 (s_cc s18 (s_cc s19 (s_cc s20 (s_cc s21 (s_cc s22 (s_cc s23 (s_cc s24 (s_cc s25 (s_cc s26 (s_cc s27 (s_cc s28 (s_cc s29 (s_cc s30 (s_cc s31 s_cn)))))))))))))))))))))))))))))))) Try.underlying41 (by rfl) sz41).trans ?_ <;> first | (with_reducible rfl) | rfl)
               ·simp only [Act.put, List.setIfInBounds_toArray, List.set_cons_zero, List.set_cons_succ, i64_w, i32_w]; rfl
               refine q_t 12 (some 43) (bz 16 16383) (take_ofW HT_.out HW_.out (by kernel_rfl)) hHeld (v := ?_) ?_ (a' := ?_) ?_ ?_; rotate_left 2
               ·rintro w' ⟨s0, s1, s2, s3, s4, s5, s6, s7, s8, s9, s10, s11, s12, s13, s14, s15, s16, s17, s18, s19, s20, s21, s22, s23, s24, s25, s26, s27, s28, s29, s30, s31, s32, s33, s34, s35, s36, s37, s38, s39, s40, s41, s42, s43, s44, s45, s46, s47, s48, s49, s50, s51, s52, s53, s54, s55, s56, s57, s58, s59, s60, s61, s62, s63⟩; (refine (s_ld rfl 41 (.tmp 42) ?_ _ ?_ _ _ (cells_at s32 (s_cc s33 (s_cc s34 (s_cc s35 (s_cc s36 (s_cc s37 (s_cc s38 (s_cc s39 (s_cc s40 (s_cc s41 (s_cc s42 (s_cc s43 (s_cc s44 (s_cc s45 (s_cc s46 (s_cc s47 (s_cc s48 (s_cc s49 (s_cc s50 (s_cc s51 (s_cc s52 (s_cc s53 (s_cc s54 (s_cc s55 (s_cc s56 (s_cc s57 (s_cc s58 (s_cc s59 (s_cc s60 (s_cc s61 (s_cc s62 (s_cc s63 s_cn)))))))))))))))))))))))))))))))) Try.underlying41 (by rfl) sz41).trans ?_ <;> first | (with_reducible rfl) | rfl)
               ·simp only [Act.put, List.setIfInBounds_toArray, List.set_cons_zero, List.set_cons_succ, i64_w, i32_w]; rfl
               refine one_ (i := 14) (N := some 45) (bz 16 32767) rfl rfl (one_of HT_.out (by kernel_rfl)) (by decide) (fun K hK => ?_)
               refine goes_ Try.func11 (by kernel_rfl) rfl #[.slice A0 l0.length c0, .agg #[.string ((rd_T41 l1 x8_2).f0.f0), .string ((rd_T41 l1 x8_2).f0.f1), .string ((rd_T41 l1 x8_2).f0.f2), .int .i64 ((rd_T41 l1 x8_2).f0.f3), .int .i64 ((rd_T41 l1 x8_2).f0.f4), .int .i64 ((rd_T41 l1 x8_2).f0.f5), .int .i64 ((rd_T41 l1 x8_2).f0.f6), .bool ((rd_T41 l1 x8_2).f0.f7), .int .i64 ((rd_T41 l1 x8_2).f0.f8), .slice A499_9 ((rd_T41 l1 x8_2).f0.f9).length c499_9, .slice A499_10 ((rd_T41 l1 x8_2).f0.f10).length c499_10, .slice A499_11 ((rd_T41 l1 x8_2).f0.f11).length c499_11, .slice A499_12 ((rd_T41 l1 x8_2).f0.f12).length c499_12, .string ((rd_T41 l1 x8_2).f1.f0), .int .i64 ((rd_T41 l1 x8_2).f1.f1), .int .i64 ((rd_T41 l1 x8_2).f1.f2), .int .i64 ((rd_T41 l1 x8_2).f1.f3), .slice A499_17 ((rd_T41 l1 x8_2).f1.f4).length c499_17, .slice A499_18 ((rd_T41 l1 x8_2).f1.f5).length c499_18, .slice A499_19 ((rd_T41 l1 x8_2).f1.f6).length c499_19, .slice A499_20 ((rd_T41 l1 x8_2).f1.f7).length c499_20, .slice A499_21 ((rd_T41 l1 x8_2).f1.f8).length c499_21, .slice A499_22 ((rd_T41 l1 x8_2).f1.f9).length c499_22, .int .i64 ((rd_T41 l1 x8_2).f2.f0), .bool ((rd_T41 l1 x8_2).f2.f1), .int .i64 ((rd_T41 l1 x8_2).f2.f2), .int .i64 ((rd_T41 l1 x8_2).f2.f3), .int .i64 ((rd_T41 l1 x8_2).f2.f4), .slice A499_28 ((rd_T41 l1 x8_2).f2.f5).length c499_28, .int .i64 ((rd_T41 l1 x8_2).f2.f6), .string ((rd_T41 l1 x8_2).f2.f7), .string ((rd_T41 l1 x8_2).f2.f8)], .agg #[.string ((rd_T41 l1 x9_3).f0.f0), .string ((rd_T41 l1 x9_3).f0.f1), .string ((rd_T41 l1 x9_3).f0.f2), .int .i64 ((rd_T41 l1 x9_3).f0.f3), .int .i64 ((rd_T41 l1 x9_3).f0.f4), .int .i64 ((rd_T41 l1 x9_3).f0.f5), .int .i64 ((rd_T41 l1 x9_3).f0.f6), .bool ((rd_T41 l1 x9_3).f0.f7), .int .i64 ((rd_T41 l1 x9_3).f0.f8), .slice A500_9 ((rd_T41 l1 x9_3).f0.f9).length c500_9, .slice A500_10 ((rd_T41 l1 x9_3).f0.f10).length c500_10, .slice A500_11 ((rd_T41 l1 x9_3).f0.f11).length c500_11, .slice A500_12 ((rd_T41 l1 x9_3).f0.f12).length c500_12, .string ((rd_T41 l1 x9_3).f1.f0), .int .i64 ((rd_T41 l1 x9_3).f1.f1), .int .i64 ((rd_T41 l1 x9_3).f1.f2), .int .i64 ((rd_T41 l1 x9_3).f1.f3), .slice A500_17 ((rd_T41 l1 x9_3).f1.f4).length c500_17, .slice A500_18 ((rd_T41 l1 x9_3).f1.f5).length c500_18, .slice A500_19 ((rd_T41 l1 x9_3).f1.f6).length c500_19, .slice A500_20 ((rd_T41 l1 x9_3).f1.f7).length c500_20, .slice A500_21 ((rd_T41 l1 x9_3).f1.f8).length c500_21, .slice A500_22 ((rd_T41 l1 x9_3).f1.f9).length c500_22, .int .i64 ((rd_T41 l1 x9_3).f2.f0), .bool ((rd_T41 l1 x9_3).f2.f1), .int .i64 ((rd_T41 l1 x9_3).f2.f2), .int .i64 ((rd_T41 l1 x9_3).f2.f3), .int .i64 ((rd_T41 l1 x9_3).f2.f4), .slice A500_28 ((rd_T41 l1 x9_3).f2.f5).length c500_28, .int .i64 ((rd_T41 l1 x9_3).f2.f6), .string ((rd_T41 l1 x9_3).f2.f7), .string ((rd_T41 l1 x9_3).f2.f8)], .int .i64 a2] (by rfl) rfl rfl (by (try simp only [List.map_toArray, List.map_cons, List.map_nil]); first | done | rfl | (simp only [List.length_drop, List.length_take]; rfl)) ?_
               with_reducible refine (netpolicy_Allowed.calls k3 _ _ _ _ _ _ _ _ _ _ _ _ _ _ _ _ _ _ _ _ _ _ _ _ _ _ _ _ _ _ _ _ _ _ _ _ _ _ _ _ _ _ _ _ _ _ _ _ _ _ _ _ _ _ _ _ _ _ _ _ _ _ _ _ _ _ _ _ _ _ _ _ _ _ _ _ _ _ _ _ _ _ _ _ _ _ _ _ _ _ _ _ _ _ _ _ _ _ _ _ _ _ _ _ _ _ _ _ _ _ _ _ _ _ ?side1 ?side2 ?side3 ?side4 ?side5 ?side6 ?side7 ?side8 ?side9 ?side10 ?side11 ?side12 ?side13 ?side14 ?side15 ?side16 ?side17 ?side18 ?side19 ?side20 ?side21 ?side22 ?side23 ?side24 ?side25 ?side26 ?side27 ?side28 ?side29 ?side30 ?side31 ?side32 ?side33 ?side34 ?side35 ?side36 ?side37 ?side38 ?side39 ?side40 ?side41 ?side42 ?side43 ?side44 ?side45 ?side46 A18.out).mono ?_
               (case side1 => exact s_C (Kd.C_below HR0.out HB.out))
               (case side2 => exact HC0.out)
               (case side3 => exact s_C (Kd.C_below HR499_9.out HB.out))
               (case side4 => exact HC499_9.out)
               (case side5 => exact s_C (Kd.C_below HR499_10.out HB.out))
               (case side6 => exact HC499_10.out)
               (case side7 => exact s_C (Kd.C_below HR499_11.out HB.out))
               (case side8 => exact HC499_11.out)
               (case side9 => exact s_C (Kd.C_below HR499_12.out HB.out))
               (case side10 => exact HC499_12.out)
               (case side11 => exact s_C (Kd.C_below HR499_17.out HB.out))
               (case side12 => exact HC499_17.out)
               (case side13 => exact s_C (Kd.C_below HR499_18.out HB.out))
               (case side14 => exact HC499_18.out)
               (case side15 => exact s_C (Kd.C_below HR499_19.out HB.out))
               (case side16 => exact HC499_19.out)
               (case side17 => exact s_C (Kd.C_below HR499_20.out HB.out))
               (case side18 => exact HC499_20.out)
               (case side19 => exact s_C (Kd.C_below HR499_21.out HB.out))
               (case side20 => exact HC499_21.out)
               (case side21 => exact s_C (Kd.C_below HR499_22.out HB.out))
               (case side22 => exact HC499_22.out)
               (case side23 => exact s_C (Kd.C_below HR499_28.out HB.out))
               (case side24 => exact HC499_28.out)
               (case side25 => exact s_C (Kd.C_below HR500_9.out HB.out))
               (case side26 => exact HC500_9.out)
               (case side27 => exact s_C (Kd.C_below HR500_10.out HB.out))
               (case side28 => exact HC500_10.out)
               (case side29 => exact s_C (Kd.C_below HR500_11.out HB.out))
               (case side30 => exact HC500_11.out)
               (case side31 => exact s_C (Kd.C_below HR500_12.out HB.out))
               (case side32 => exact HC500_12.out)
               (case side33 => exact s_C (Kd.C_below HR500_17.out HB.out))
               (case side34 => exact HC500_17.out)
               (case side35 => exact s_C (Kd.C_below HR500_18.out HB.out))
               (case side36 => exact HC500_18.out)
               (case side37 => exact s_C (Kd.C_below HR500_19.out HB.out))
               (case side38 => exact HC500_19.out)
               (case side39 => exact s_C (Kd.C_below HR500_20.out HB.out))
               (case side40 => exact HC500_20.out)
               (case side41 => exact s_C (Kd.C_below HR500_21.out HB.out))
               (case side42 => exact HC500_21.out)
               (case side43 => exact s_C (Kd.C_below HR500_22.out HB.out))
               (case side44 => exact HC500_22.out)
               (case side45 => exact s_C (Kd.C_below HR500_28.out HB.out))
               (case side46 => exact HC500_28.out)
               rintro e w25 ⟨rfl, hb⟩
               refine ⟨_, rfl, ?_⟩
               replace HO_7 := s_a (Kd.R_below (by exact s_R (HO_7.out)) hb)
               replace HB := s_a (below_step (by exact s_b HB.out) hb)
               (try clear hb)
               (try clear hb2)
               (try clear hk)
               (try clear hi)
               refine hK.out _ _ ⟨(s_m HB.out hw499_0), (s_m HB.out hw499_1), (s_m HB.out hw499_2), (s_m HB.out hw499_3), (s_m HB.out hw499_4), (s_m HB.out hw499_5), (s_m HB.out hw499_6), (s_m HB.out hw499_7), (s_m HB.out hw499_8), (s_m HB.out hw499_9), (s_m HB.out hw499_10), (s_m HB.out hw499_11), (s_m HB.out hw499_12), (s_m HB.out hw499_13), (s_m HB.out hw499_14), (s_m HB.out hw499_15), (s_m HB.out hw499_16), (s_m HB.out hw499_17), (s_m HB.out hw499_18), (s_m HB.out hw499_19), (s_m HB.out hw499_20), (s_m HB.out hw499_21), (s_m HB.out hw499_22), (s_m HB.out hw499_23), (s_m HB.out hw499_24), (s_m HB.out hw499_25), (s_m HB.out hw499_26), (s_m HB.out hw499_27), (s_m HB.out hw499_28), (s_m HB.out hw499_29), (s_m HB.out hw499_30), (s_m HB.out hw499_31), (s_m HB.out hw500_0), (s_m HB.out hw500_1), (s_m HB.out hw500_2), (s_m HB.out hw500_3), (s_m HB.out hw500_4), (s_m HB.out hw500_5), (s_m HB.out hw500_6), (s_m HB.out hw500_7), (s_m HB.out hw500_8), (s_m HB.out hw500_9), (s_m HB.out hw500_10), (s_m HB.out hw500_11), (s_m HB.out hw500_12), (s_m HB.out hw500_13), (s_m HB.out hw500_14), (s_m HB.out hw500_15), (s_m HB.out hw500_16), (s_m HB.out hw500_17), (s_m HB.out hw500_18), (s_m HB.out hw500_19), (s_m HB.out hw500_20), (s_m HB.out hw500_21), (s_m HB.out hw500_22), (s_m HB.out hw500_23), (s_m HB.out hw500_24), (s_m HB.out hw500_25), (s_m HB.out hw500_26), (s_m HB.out hw500_27), (s_m HB.out hw500_28), (s_m HB.out hw500_29), (s_m HB.out hw500_30), (s_m HB.out hw500_31)⟩ (fun hHeld => ?_)
               clear hK K
               refine norm_ (a' := ?_) ?_ ?_
               rotate_left
               ·show Act.put _ (some 45) _ = _
                simp only [Act.put, List.setIfInBounds_toArray, List.set_cons_zero, List.set_cons_succ, i64_w, i32_w]
                rfl
               refine q_p 15 (some 46) (bz 16 65535) (any_of HT_.out (by kernel_rfl)) (v := ?_) ?_ (a' := ?_) ?_ ?_; rotate_left 2
               ·intro w'; go_simp; with_reducible rfl
               ·simp only [Act.put, List.setIfInBounds_toArray, List.set_cons_zero, List.set_cons_succ, i64_w, i32_w]; rfl
               refine done_ (done_of HT_.out (by kernel_rfl)) ?_
               try go_wp2
               go_roundg k3
               case measure => have := HJ3.out; have := HK2.out; have := HK3.out; omega
               case rel => exact ⟨(x7_3), (wrap64 (x9_3 + 1)), (by first | rfl | (simp; done) | (simp [*]; done)), H', ⟨by have := HJ3.out; have := HK2.out; have := HK3.out; omega⟩, ⟨by exact s_R (HO_7.out)⟩, ⟨by exact s_b HB.out⟩⟩
             ·rw [if_neg c17] at H
              exact absurd H (by simp)
            ·rw [if_neg c16] at H
             exact absurd H (by simp)
           ·rw [if_neg c15] at H
            exact absurd H (by simp)
         ·rw [if_neg c12] at H
          have c12b0 : decide (x9_3 < (l1.length : Int)) = false := decide_eq_false c12
          clear c12
          have H' := s_a H
          clear H
          go_wp2
          go_roundg k3
          case measure => have := HJ3.out; have := HK2.out; have := HK3.out; omega
          case rel => exact ⟨(x7_3), (wrap64 (x8_2 + 1)), (by first | rfl | (simp; done) | (simp [*]; done)), H', ⟨by have := HJ3.out; have := HK2.out; have := HK3.out; omega⟩, ⟨by exact s_R (HO_7.out)⟩, ⟨by exact s_b HB.out⟩⟩
      ·rw [if_neg c11] at H
       have c11b0 : decide (x8_2 < (l1.length : Int)) = false := decide_eq_false c11
       clear c11
       replace H := Option.bind_eq_some_iff.mp H
       obtain ⟨t494, A260, H⟩ := H
       replace H : (if t494 = true then ((netpolicy_Reach.f k2 l0 l1 a2).bind fun t495 => ((orchestratorref57_Pairs.f k2 t495 x7_2).bind fun t498 => (if t498 = true then (some true) else (some false)))) else (some false)) = some true := H
       have A26 := s_a A260
       clear A260
       by_cases c27 : t494 = true
       ·subst c27
        have H1 : ((netpolicy_Reach.f k2 l0 l1 a2).bind fun t495 => ((orchestratorref57_Pairs.f k2 t495 x7_2).bind fun t498 => (if t498 = true then (some true) else (some false)))) = some true := by first | (rw [if_pos rfl] at H; exact H) | rfl
        clear H
        have H := H1
        clear H1
        replace H := Option.bind_eq_some_iff.mp H
        obtain ⟨t495, A280, H⟩ := H
        replace H : ((orchestratorref57_Pairs.f k2 t495 x7_2).bind fun t498 => (if t498 = true then (some true) else (some false))) = some true := H
        have A28 := s_a A280
        clear A280
        replace H := Option.bind_eq_some_iff.mp H
        obtain ⟨t498, A290, H⟩ := H
        replace H : (if t498 = true then (some true) else (some false)) = some true := H
        have A29 := s_a A290
        clear A290
        by_cases c30 : t498 = true
        ·subst c30
         have H1 : (some true) = some true := by first | (rw [if_pos rfl] at H; exact H) | rfl
         clear H
         have H := H1
         clear H1
         clear H
         go_wp2_with (first | ((with_reducible refine gate_callee (f := 8) rfl ?_); refine goesL_ (some 53) rfl rfl Try.func8 (by kernel_rfl) rfl #[] rfl (by (try simp only [List.map_toArray, List.map_cons, List.map_nil]); first | done | rfl | (simp only [List.length_drop, List.length_take]; rfl)) ?_; (with_reducible refine (orchestratorlaw57_lives.calls k2   _ A26.out).mono ?_); rintro e w31 ⟨rfl, hb⟩; refine ⟨_, rfl, ?_⟩; replace HO_7 := s_a (Kd.R_below (by exact s_R (HO_7.out)) hb); replace HB := s_a (below_step (by exact s_b HB.out) hb); (try clear hb); (try clear hb2); (try clear hk); (try clear hi)) | (go_at_call 14; (with_reducible refine (netpolicy_Reach.calls k2 _ _ _ _ _ _ _ _ _ ?side1 ?side2 ?side3 ?side4 A28.out).mono ?_); (case side1 => exact s_C (Kd.C_below HR0.out HB.out)); (case side2 => exact HC0.out); (case side3 => exact s_C (Kd.C_below HR1.out HB.out)); (case side4 => exact HC1.out); rintro e w32 ⟨v496, rfl, ho0, hb⟩; (try clear A28); have HO497 := s_a (Kd.R_lower (Kd.R_new' ho0 (Kd.R_lt (by exact s_R (HO_7.out)))) (below_size (by exact s_b HB.out))); replace HO_7 := s_a (Kd.R_elder' (by exact s_R (HO_7.out)) (Kd.R_base ho0) hb); replace HB := s_a (below_step (by exact s_b HB.out) hb); (try clear hb); (try clear hb2); (try clear hk); (try clear hi); (try clear ho0); obtain ⟨Ao33, co33, eo33⟩ := Kd.R_slice HO497.out; subst eo33; obtain ⟨Ao34, co34, eo34⟩ := Kd.R_slice HO_7.out; subst eo34) | (go_at_call 13; (with_reducible refine (orchestratorref57_Pairs.calls k2 _ _ _ _ _ _ _ _ ?side1 ?side2 ?side3 ?side4 A29.out).mono ?_); (case side1 => exact s_C (Kd.R_reads' HO497.out).2.2); (case side2 => exact (Kd.R_reads' HO497.out).2.1); (case side3 => exact s_C (Kd.R_reads' HO_7.out).2.2); (case side4 => exact (Kd.R_reads' HO_7.out).2.1); rintro e w' ⟨rfl, ⟨nd, rfl⟩⟩))
         go_ret
         exact ⟨by first | rfl | (simp [errW_none, errW_some] <;> rfl) | (simp [*, errW_none, errW_some] <;> rfl), by exact s_b HB.out⟩
        ·replace c30 := Bool.eq_false_iff.mpr c30
         subst c30
         have H1 : (some false) = some true := by first | (rw [if_neg (show ¬ (false = true) by decide)] at H; exact H) | rfl
         clear H
         have H := H1
         clear H1
         exact absurd H (by simp)
       ·replace c27 := Bool.eq_false_iff.mpr c27
        subst c27
        have H1 : (some false) = some true := by first | (rw [if_neg (show ¬ (false = true) by decide)] at H; exact H) | rfl
        clear H
        have H := H1
        clear H1
        exact absurd H (by simp)
end Go.Proofs.Ytkdikhonafbgdaa.Q
